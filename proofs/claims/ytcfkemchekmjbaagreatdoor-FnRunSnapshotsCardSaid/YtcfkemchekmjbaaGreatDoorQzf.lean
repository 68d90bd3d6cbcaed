/- Merged (what the law reaches): SerE, SerI, Fsi, Fs0. -/
import Derived.Test.YtcfkemchekmjbaaGreatDoorQze
import Derived.Laws.Bits64
import Derived.Laws.BitsAllLaws
import Derived.Deep.WholeRow
import Derived.Deep.MidRow
import Derived.Laws.EntriesVeiled
namespace Go.Proofs.YtcfkemchekmjbaaGreatDoor
open Go.RowKit
/-- What does not change while the search runs: the world below, the history, the callback's function and what it captured, the boxes, the list of all. -/
structure EsK where
  wb : World
  A : Option Addr
  n : Nat
  c : Nat
  ts : List Tx
  cN : Nat
  caps : Array Value
  bH : Nat
  bL : Nat
  bC : Nat
  bA : Nat
  bO : Nat
  bF : Nat
  va : Value
  na : Nat
  all : List Int
  cb : Nat → Prop
/-- The search's state: the order so far is the slice v, k numbers, used. -/
structure Es (K : EsK) (w : World) (v : Value) (k : Nat) (used : List Int) : Prop where
  bw : Below K.wb.heap.size K.wb w
  hH : Blk w K.bH 27 #[.slice K.A K.n K.c]
  hL : Blk w K.bL 112 #[.func (.func 75) #[] #[]]
  hC : Blk w K.bC 161 #[.func (.func K.cN) #[] K.caps]
  hA : Blk w K.bA 24 #[K.va]
  hF : Blk w K.bF 195 #[.func (.func 174) #[] #[.pointer (some ⟨K.bO, 0, none⟩), .pointer (some ⟨K.bA, 0, none⟩), .pointer (some ⟨K.bC, 0, none⟩), .pointer (some ⟨K.bL, 0, none⟩), .pointer (some ⟨K.bH, 0, none⟩), .pointer (some ⟨K.bF, 0, none⟩)]]
  hO : Blk w K.bO 24 #[v]
  oA : OI w K.wb.heap.size K.va K.na K.all
  oO : OI w K.wb.heap.size v k used
  apart : K.va.ownBlock = none ∨ K.va.ownBlock ≠ v.ownBlock
  geO : K.wb.heap.size ≤ K.bO
  neAO : K.bA ≠ K.bO
  cbs : ∀ i, K.cb i → K.wb.heap.size ≤ i ∧ i < w.heap.size ∧ (i ≠ K.bH ∧ i ≠ K.bL ∧ i ≠ K.bC ∧ i ≠ K.bA ∧ i ≠ K.bF ∧ i ≠ K.bO) ∧ K.va.ownBlock ≠ some i ∧ v.ownBlock ≠ some i
/-- From (w, v) to (w', v') the order's box, its row and the callback's blocks alone may have changed. -/
structure Fr (K : EsK) (w : World) (v : Value) (w' : World) (v' : Value) : Prop where
  os : w'.os = w.os
  tape : w'.tape = w.tape
  output : w'.output = w.output
  size : w.heap.size ≤ w'.heap.size
  block : ∀ i, i < w.heap.size → i ≠ K.bO → ¬ K.cb i → v.ownBlock ≠ some i → w'.heap[i]? = w.heap[i]?
  row : v'.ownBlock = v.ownBlock ∨ ∀ i, v'.ownBlock = some i → w.heap.size ≤ i
section
variable {K : EsK} {w w' a b c : World} {v v' u x : Value} {k k' : Nat} {used used' : List Int}
theorem Fr.refl : Fr K w v w v := ⟨rfl, rfl, rfl, Nat.le_refl _, fun _ _ _ _ _ => rfl, .inl rfl⟩
theorem Fr.trans (h : Fr K a u b v) (g : Fr K b v c x) : Fr K a u c x := by
  refine ⟨g.os.trans h.os, g.tape.trans h.tape, g.output.trans h.output, Nat.le_trans h.size g.size, fun i hi h1 h2 h3 => (g.block i (Nat.lt_of_lt_of_le hi h.size) h1 h2 ?_).trans (h.block i hi h1 h2 h3), ?_⟩
  · rcases h.row with e | e
    · rw [e]; exact h3
    · intro e2; have := e i e2; omega
  · rcases g.row with e | e
    · rcases h.row with e2 | e2
      · exact .inl (e.trans e2)
      · exact .inr fun i hi => e2 i (e ▸ hi)
    · exact .inr fun i hi => Nat.le_trans h.size (e i hi)
theorem Fr.of_below (h : Below w.heap.size w w') : Fr K w v w' v := ⟨h.os, h.tape, h.output, h.size, fun i hi _ _ _ => h.block i hi, .inl rfl⟩
theorem Fr.below (h : Fr K a u b v) (hb : Below b.heap.size b c) : Fr K a u c v := h.trans (Fr.of_below hb)
theorem Blk.fr {g : Nat} {t : TypeId} {cs : Array Value} (h : Blk w g t cs) (hf : Fr K w v w' v') (h1 : g ≠ K.bO) (h2 : ¬ K.cb g) (h3 : v.ownBlock ≠ some g) : Blk w' g t cs := (hf.block g h.lt h1 h2 h3).trans h
theorem OI.fr {B m : Nat} {q : Value} {xs : List Int} (h : OI w B q m xs) (hf : Fr K w v w' v') (h1 : ∀ g, q.ownBlock = some g → g ≠ K.bO ∧ ¬ K.cb g ∧ v.ownBlock ≠ some g) : OI w' B q m xs := by
  refine ⟨⟨h.1.1, ?_⟩, h.2⟩
  rcases h.1.2 with hn | ⟨g, cap, cur, rfl, hb, hgg, rest⟩
  · exact .inl hn
  · obtain ⟨x1, x2, x3⟩ := h1 g rfl
    exact .inr ⟨g, cap, cur, rfl, hb, (hf.block g (Blk.lt hgg) x1 x2 x3).trans hgg, rest⟩
theorem Es.below (h : Es K w v k used) (hb : Below w.heap.size w w') : Es K w' v k used :=
  ⟨below_step h.bw hb, h.hH.belowAll hb, h.hL.belowAll hb, h.hC.belowAll hb, h.hA.belowAll hb, h.hF.belowAll hb, h.hO.belowAll hb, h.oA.below hb, h.oO.below hb, h.apart, h.geO, h.neAO,
    fun i hi => by obtain ⟨h1, h2, h3⟩ := h.cbs i hi; exact ⟨h1, Nat.lt_of_lt_of_le h2 hb.size, h3⟩⟩
theorem Es.ne_row (h : Es K w v k used) {g : Nat} {t : TypeId} {cs : Array Value} (hb : Blk w g t cs) (ht : t ≠ 3) : v.ownBlock ≠ some g := h.oO.ne_blk hb ht
theorem Es.row_lt (h : Es K w v k used) {g : Nat} (hg : v.ownBlock = some g) : K.wb.heap.size ≤ g ∧ g < w.heap.size := World.ownsRow.lt h.oO.1 g hg
theorem blk_ne {w : World} {g g' : Nat} {t t' : TypeId} {cs cs' : Array Value} (h : Blk w g t cs) (h' : Blk w g' t' cs') (ht : t ≠ t') : g ≠ g' := by
  rintro rfl
  unfold Blk at h h'
  rw [h] at h'; injection h' with h'; injection h' with _ h2; exact ht h2
/-- A new order, put into its box. -/
theorem Es.put (h : Es K w v k used) (hg : w.grownBy w' v.ownBlock) (ho : OI w' K.wb.heap.size v' k' used') (hv : v'.ownBlock = v.ownBlock ∨ ∀ i, v'.ownBlock = some i → w.heap.size ≤ i) :
    Es K (w'.setCell ⟨K.bO, 0, none⟩ v') v' k' used' ∧ Fr K w v (w'.setCell ⟨K.bO, 0, none⟩ v') v' := by
  have nH := h.ne_row h.hH (by decide); have nL := h.ne_row h.hL (by decide); have nC := h.ne_row h.hC (by decide)
  have nA := h.ne_row h.hA (by decide); have nF := h.ne_row h.hF (by decide); have nO := h.ne_row h.hO (by decide)
  have eH := blk_ne h.hH h.hO (by decide); have eL := blk_ne h.hL h.hO (by decide); have eC := blk_ne h.hC h.hO (by decide); have eF := blk_ne h.hF h.hO (by decide)
  have ks : ∀ {g : Nat} {t : TypeId} {cs : Array Value}, Blk w g t cs → v.ownBlock ≠ some g → g ≠ K.bO → Blk (w'.setCell ⟨K.bO, 0, none⟩ v') g t cs := fun hb h1 h2 => (hb.grown hg (fun e => h1 e.symm)).far (p := ⟨K.bO, 0, none⟩) h2 v'
  have hO' : Blk w' K.bO 24 #[v] := h.hO.grown hg (fun e => nO e.symm)
  have hbw : Below K.wb.heap.size K.wb w' := below_of_grown h.bw hg h.bw.size (fun g e => (h.row_lt e).1)
  have far : ∀ {q : Value} {m : Nat} {xs : List Int}, OI w' K.wb.heap.size q m xs → OI (w'.setCell ⟨K.bO, 0, none⟩ v') K.wb.heap.size q m xs := fun {q m xs} hq => by
    have hne := hq.ne_blk hO' (by decide)
    refine hq.grown (row := some K.bO) (grown_setCell (World.grownBy.refl w' (some K.bO)) (.inl rfl) v') (.inr hne)
  refine ⟨⟨hbw.setCell (p := ⟨K.bO, 0, none⟩) h.geO v', ks h.hH nH eH, ks h.hL nL eL, ks h.hC nC eC, ks h.hA nA h.neAO, ks h.hF nF eF, by simpa using hO'.set_ 0 v', ?_, far ho, ?_, h.geO, h.neAO, ?_⟩, ?_⟩
  · exact far (h.oA.grown hg h.apart)
  · rcases h.apart with e | e
    · exact .inl e
    · rcases hv with e2 | e2
      · right; rw [e2]; exact e
      · cases hq : K.va.ownBlock with
        | none => exact .inl rfl
        | some g =>
          right; intro e3
          have l1 := (World.ownsRow.lt h.oA.1 g hq).2
          have l2 := e2 g e3.symm
          omega
  · intro i hi
    obtain ⟨h1, h2, h3, h4, h5⟩ := h.cbs i hi
    refine ⟨h1, by rw [size_setCell]; exact Nat.lt_of_lt_of_le h2 hg.size, h3, h4, ?_⟩
    rcases hv with e2 | e2
    · rw [e2]; exact h5
    · intro e3; have := e2 i e3; omega
  · refine ⟨hg.os, hg.tape, hg.output, by rw [size_setCell]; exact hg.size, fun i hi h1 _ h3 => ?_, hv⟩
    exact (Below.heap_setCell w' ⟨K.bO, 0, none⟩ v' i (fun e => h1 e)).trans (hg.block i hi (fun e => h3 e.symm))
/-- The last number is taken away. -/
theorem Es.pop {g d : Nat} {z : Int} (h : Es K w (.slice (some ⟨g, 0, none⟩) (k + 1) d) (k + 1) (used ++ [z])) : OI w K.wb.heap.size (.slice (some ⟨g, 0, none⟩) k d) k used := by
  have hl := h.oO.len
  have h1 := h.oO.1
  rw [List.map_append, List.map_cons, List.map_nil] at h1
  have hb := h.oO.2
  exact ⟨ownsRow_pop (by simp at hl ⊢; omega) h1, by omega⟩
end
/-- The numbers of a bit mask. -/
def MaskOf (g : Nat) (used : List Int) : Prop := g < 64 ∧ ∀ x : Nat, x < 6 → (g.testBit x = used.contains (x : Int))
theorem MaskOf.zero : MaskOf 0 [] := ⟨by omega, fun x _ => by simp⟩
theorem MaskOf.snoc {g n : Nat} {used : List Int} (h : MaskOf g used) (hn : n < 6) : MaskOf (g ||| 2 ^ n) (used ++ [(n : Int)]) := by
  refine ⟨Nat.or_lt_two_pow (n := 6) h.1 (Nat.pow_lt_pow_right (by omega) hn), fun x hx => ?_⟩
  rw [Nat.testBit_or, h.2 x hx, Nat.testBit_two_pow]
  have e : (used ++ [(n : Int)]).contains (x : Int) = (used.contains (x : Int) || decide ((x : Int) = (n : Int))) := by
    rw [Bool.eq_iff_iff]; simp
  rw [e]
  congr 1
  by_cases hxn : x = n
  · subst hxn; simp
  · simp [Ne.symm hxn]; omega
end Go.Proofs.YtcfkemchekmjbaaGreatDoor

namespace Go.Proofs.YtcfkemchekmjbaaGreatDoor
open Go.RowKit
/-- 'order[:k]' on a row of the call's own. -/
theorem slice_pop (g k c : Nat) (hk : k + 1 ≤ c) (w : World) : (Instr.slice 24 (.slice (some ⟨g, 0, none⟩) (k + 1) c) none (some (.int .i64 (k : Int))) none).run Tryz.prog w = .ok (.slice (some ⟨g, 0, none⟩) k c) w := by
  obtain ⟨i, hi, hz, hsz, hb⟩ := info_parts intInfo
  have h2 : k ≤ c := by omega
  have h3 : c ≠ 0 := by omega
  simp [Instr.slice, Instr.sliceBounds, Instr.sliceBound, run_underlying Tryz.underlying24, sizeOf, typeInfo, hi, asIntOf, h2, h3, addr_add]
theorem OI.ownform {w : World} {B k : Nat} {v : Value} {xs : List Int} (h : OI w B v (k + 1) xs) : ∃ g c, v = .slice (some ⟨g, 0, none⟩) (k + 1) c ∧ k + 1 ≤ c := by
  obtain ⟨A, c, rfl, hc, _, _, h5, h6⟩ := h.form
  cases A with
  | none => have := (h5 rfl).1; omega
  | some a => obtain ⟨g, rfl, _⟩ := h6 a rfl; exact ⟨g, c, rfl, hc⟩
end Go.Proofs.YtcfkemchekmjbaaGreatDoor

namespace Go.Proofs.YtcfkemchekmjbaaGreatDoor
open Go.RowKit
def FsR (K : FsK) (S : SS) (w : World) (v : Value) (k : Nat) (used : List Int) (e : Ending) (w' : World) : Prop :=
  ∃ v' k' used' r, e = .returned (.bool r) ∧ Fs K w' v' k' used' ∧ Fq K w v w' v' ∧ (r = true → k' = 2 * K.na ∧ (runS K.ts ss0 used').isSome = true) ∧
    (r = false → k' = k ∧ used' = used ∧ ∀ l : List Int, k + l.length = 2 * K.na → runS K.ts S l = none)
theorem zeros88 : (Tryz.prog.info? 88).map (fun i => (i.zero, i.size)) = some (some (.agg #[.int .i64 0, .int .i64 0, .int .i64 0, .int .i64 0, .int .i64 0, .int .i64 0, .int .i64 0, .int .i64 0, .int .i64 0, .int .i64 0, .int .i64 0, .int .i64 0, .int .i64 0, .int .i64 0, .int .i64 0, .int .i64 0, .int .i64 0, .int .i64 0, .int .i64 0, .int .i64 0, .int .i64 0, .int .i64 0, .int .i64 0, .int .i64 0, .int .u64 0, .int .u64 0]), 26) := by kernel_rfl
theorem size88 : (Tryz.prog.info? 88).map (·.size) = some 26 := (zero_of_info zeros88).2
/-- A whole state into the box that was made last. -/
theorem wpList_store_new {P : Program} {ops : Array Oper} {rest : List Oper} {op : Oper} {a : Act} {w : World} {Q : Exit → Act → World → Prop} (hgd : op.guard = none) (ty : TypeId) (x y : Operand) (ho : op.op = .store ty x y)
    (c cells : Array Value) (hx : a.eval x = .pointer (some ⟨w.heap.size, 0, none⟩)) (hy : a.eval y = .agg cells) (hi : (P.info? ty).map (·.size) = some cells.size) (hs : c.size = cells.size) (h1 : cells.all (·.oneCell') = true)
    (h : wpList P ops Q rest (a.put op.dst undef) (w.alloc (.cells cells ty))) : wpList P ops Q (op :: rest) a (w.alloc (.cells c ty)) :=
  wpList_plain hgd fun _ hK => by
    unfold Oper.wp execOp
    simp only [ho, hx, hy, Sem.run_bind, Sem.run_pure, Result.andThen_ok, run_storeAt_new w ty c cells hi hs h1]
    exact hK _ _ h
theorem rng88 {w : World} {b : Nat} {cl : List Value} (h : Blk w b 88 cl.toArray) : w.rangeAt b 0 cl := fun j v hv => by
  rw [Nat.zero_add]
  exact (h.cell j).trans (by simpa using hv)
set_option maxRecDepth 100000 in
set_option maxHeartbeats 4000000 in
theorem fs_c {K : FsK} (hr : RTs K.wb K.A K.n K.ts) (hh : histB K.ts = true) (hna : K.na ≤ 4) (_hlt0 : K.wb.heap.size ≤ K.bH) :
    ∀ (f : Nat) (w : World) (v : Value) (k : Nat) (used : List Int) (S : SS) (g cm : Nat), Fs K w v k used → k + f = 2 * K.na → runS K.ts ss0 used = some S → MaskN g S.bg → MaskN cm S.co →
    Calls Tryz.prog 49 #[.agg (ssC (flS S) g cm), .pointer (some ⟨K.bO, 0, none⟩), .pointer (some ⟨K.bA, 0, none⟩), .pointer (some ⟨K.bH, 0, none⟩), .pointer (some ⟨K.bF, 0, none⟩)] w (FsR K S w v k used) := by
  obtain ⟨h6, hv, hnd⟩ := histB_parts hh
  have hl := hr.1
  have hn6 : K.n ≤ 6 := by rw [← hl]; exact h6
  intro f
  induction f with
  | zero =>
    intro w v k used S g cm hE hkf hrun hg hc
    obtain rfl : k = 2 * K.na := by omega
    obtain ⟨Av, cv, rfl⟩ := hE.oO.shape
    obtain ⟨Aa, ca, hva⟩ := hE.oA.shape
    obtain ⟨cs, hcs⟩ : ∃ q, ssC (flS S) g cm = q := ⟨_, rfl⟩
    rw [hcs]
    have b0 : Below w.heap.size w (w.alloc (.cells cs 88)) := (Below.refl _ _).alloc (Nat.le_refl _) _
    have E1 := hE.below b0
    have cO := E1.hO.cell 0
    have cA : (w.alloc (.cells cs 88)).cell? ⟨K.bA, 0, none⟩ = some (.slice Aa K.na ca) := by rw [← hva]; exact E1.hA.cell 0
    have hw2 : IntKind.i64.wrap (2 * (K.na : Int)) = 2 * (K.na : Int) := by rw [IntKind.wrap_i64]; omega
    have hkn' : (((2 * K.na : Nat) : Int) == 2 * (K.na : Int)) = true := by simp
    have hE1 := hide E1; have B0 := hide b0; have HR := hide hrun
    clear E1 b0 hva hcs hrun
    go_enter Tryz.func49, Tryz.ntmps49
    go_wp2_with fail
    go_ret
    exact ⟨_, _, used, true, rfl, hE1.out, Fq.of_below B0.out, fun _ => ⟨rfl, by rw [HR.out]; rfl⟩, fun h => by cases h⟩
  | succ f ih =>
    intro w v k used S g cm hE hkf hrun hg hc
    have hkn : k < 2 * K.na := by omega
    obtain ⟨Av, cv, rfl⟩ := hE.oO.shape
    obtain ⟨Aa, ca, hva⟩ := hE.oA.shape
    obtain ⟨⟨bb, hI⟩, _⟩ := SsI.run h6 hv used ss0 S (fun _ => 0) (SsI.zero K.ts _) hrun
    obtain ⟨hO, hvb⟩ := hI.shape h6
    have hsz : (ssC (flS S) g cm).size = 26 := ssC_size hO.len
    have hone : (ssC (flS S) g cm).all (·.oneCell') = true := ssC_one
    have hBx : ∀ (W : World) (b : Nat), Blk W b 88 (ssC (flS S) g cm) → SsB W b S := fun W b h => ⟨g, cm, h, hg, hc⟩
    obtain ⟨cl, hcl⟩ : ∃ q, (flS S).map (Value.int .i64) ++ [Value.int .u64 (g : Int), Value.int .u64 (cm : Int)] = q := ⟨_, rfl⟩
    have hcs : ssC (flS S) g cm = cl.toArray := by unfold ssC; rw [hcl]
    rw [hcs] at hsz hone hBx ⊢
    have b0 : Below w.heap.size w (w.alloc (.cells cl.toArray 88)) := (Below.refl _ _).alloc (Nat.le_refl _) _
    have E1 := hE.below b0
    have cO := E1.hO.cell 0
    have cA : (w.alloc (.cells cl.toArray 88)).cell? ⟨K.bA, 0, none⟩ = some (.slice Aa K.na ca) := by rw [← hva]; exact E1.hA.cell 0
    have hw2 : IntKind.i64.wrap (2 * (K.na : Int)) = 2 * (K.na : Int) := by rw [IntKind.wrap_i64]; omega
    have hkn' : ((k : Int) == 2 * (K.na : Int)) = false := by simp; omega
    have hsi : SI w (.slice Aa K.na ca) K.na (doneL K.ts) := by rw [← hva]; exact hE.oA.si
    obtain ⟨Aa', ca', ea, hac, ham, hri⟩ := hsi
    obtain ⟨rfl, rfl⟩ : Aa = Aa' ∧ ca = ca' := by simpa using ea
    have HRI := hide hri; have HRUN := hide hrun; have HBX := hide hBx; have HONE := hide hone
    have Ks := hide (Blk.new w 88 cl.toArray)
    have E1H := hide E1
    obtain ⟨w1, hw1⟩ : ∃ q, w.alloc (.cells cl.toArray 88) = q := ⟨_, rfl⟩
    rw [hw1] at Ks E1H b0 cO cA
    have hlt : w.heap.size < w1.heap.size := by rw [← hw1]; simp
    have hlen := hide hri.len
    have HVA := hide hva
    clear ea hri hva E1 hcs hcl hrun hBx hone hg hc hI
    go_enter Tryz.func49, Tryz.ntmps49
    go_wp2_with fail
    clear cO cA hw1
    go_loopw [18] (fun i W => ∃ (j : Nat) (v' : Value), i = .int .i64 j ∧ j ≤ K.na ∧ Fs K W v' k used ∧ Fq K w1 (.slice Av k cv) W v' ∧ (∀ (i : Nat) (x : Int), i < j → (doneL K.ts)[i]? = some x → ∀ l : List Int, k + 1 + l.length = 2 * K.na → ((nxt K.ts S x.toNat).bind fun S' => runS K.ts S' l) = none)) (fun i _ => K.na - (intOf i).toNat)
    case atStart => exact ⟨0, _, rfl, Nat.zero_le _, E1H.out, Fq.refl, fun i x h => by omega⟩
    case round =>
      clear E1H
      rename World => wr
      obtain ⟨j, v', rfl, hj, hE2, hF2, hall⟩ := hrel
      have HALL := hide hall; clear hall
      by_cases hjn : j < K.na
      · have hsa : SI wr (.slice Aa K.na ca) K.na (doneL K.ts) := by rw [← HVA.out]; exact hE2.oA.si
        obtain ⟨A9, c9, e9, _, _, hra⟩ := hsa
        obtain ⟨rfl, rfl⟩ : Aa = A9 ∧ ca = c9 := by simpa using e9
        obtain ⟨b1, o1, x9, rfl, hb1, hx9, hc9⟩ := hra.at_ hjn
        obtain ⟨m, t9, rfl, ht9, _⟩ := doneL_at hx9
        have hmn : m < K.n := by rw [← hl]; exact (List.getElem?_eq_some_iff.1 ht9).1
        have HX9 := hide hx9
        have KS := hide (Ks.out.fq hF2 (fun e => by have := hE.hO.lt; omega) (fun e => by have := (hE.row_lt e).2; omega))
        have j0 : (0 : Int) ≤ j := by omega
        have j2 : (j : Int) < K.na := by omega
        have hne : w.heap.size < wr.heap.size := Nat.lt_of_lt_of_le hlt hF2.size
        have m0 : (0 : Int) ≤ m := by omega
        have m2 : (m : Int) < K.n := by omega
        clear hx9 e9 ht9
        obtain ⟨W1, hW1⟩ : ∃ q, wr.alloc (.cells cl.toArray 88) = q := ⟨_, rfl⟩
        have BA : Below wr.heap.size wr W1 := by rw [← hW1]; exact (Below.refl _ _).alloc (Nat.le_refl _) _
        have EA := hE2.below BA
        have HBB := HBX.out W1 wr.heap.size (by rw [← hW1]; exact Blk.new wr 88 cl.toArray)
        have cH := EA.hH.cell 0
        have hrg := rng88 KS.out
        have HRG := hide hrg
        have hszl : some 26 = some cl.length := by rw [← hsz]; simp
        have sz1 : (Tryz.prog.info? 88).map (·.size) = some cl.length := by rw [size88]; exact hszl
        have sz2 : (Tryz.prog.info? 88).map (·.size) = some cl.toArray.size := by rw [size88, hsz]
        have SZ1 := hide sz1; have SZ2 := hide sz2; have HSZ := hide hsz
        have HEA := hide EA; have HBA := hide BA; have HB2 := hide HBB
        clear EA BA HBB hra hrg hszl sz1 sz2 hsz
        go_wp2_with (first | (refine wpList_load_mid rfl 88 _ rfl w.heap.size 0 rfl cl _ HRG.out Tryz.underlying88 rfl SZ1.out ?_) | (refine wpList_store_new rfl 88 _ _ rfl _ cl.toArray rfl rfl SZ2.out HSZ.out.symm HONE.out ?_; rw [hW1]))
        refine (next_c hr hn6 hv hmn hO hvb HEA.out.bw hE2.bw.size HB2.out).mono ?_
        rintro e w3 ⟨b3, c3, hN⟩
        have BN : Below wr.heap.size wr w3 := Chg.below HBA.out c3 (fun q hq => by subst hq; exact Nat.le_refl _)
        have E3 := hE2.below BN
        have F3 := hF2.trans (Fq.of_below BN)
        have hsz3 := BN.size
        clear cH BN b3 HRG
        rcases hN with ⟨hn, rfl⟩ | ⟨S', hn, rfl, g', c', hK', hg', hc'⟩
        · have HN := hide hn; have HE3 := hide E3; have HF3 := hide F3
          clear hn E3 F3 c3
          go_wp2_with fail
          go_roundw
          case rel => exact ⟨j + 1, v', by go_num, by omega, HE3.out, HF3.out, fun i x hi hx l hl => by
            by_cases e : i = j
            · subst e
              rw [HX9.out] at hx; injection hx with hx; subst hx
              rw [Int.toNat_natCast, HN.out]; rfl
            · exact HALL.out i x (by omega) hx l hl⟩
          case measure => simp [intOf]; omega
        · have hm6 : m < 6 := by omega
          have hO' : SsO S' := by
            obtain ⟨b9, h9⟩ := (SsI.run h6 hv used ss0 S (fun _ => 0) (SsI.zero K.ts _) HRUN.out).1
            obtain ⟨b8, h8⟩ := h9.step h6 hv hn
            exact (h8.shape h6).1
          have hrun' : runS K.ts ss0 (used ++ [(m : Int)]) = some S' := by
            rw [runS_append, HRUN.out]
            show (if (0 : Int) ≤ m ∧ (m : Int) < K.ts.length then (nxt K.ts S ((m : Int)).toNat).bind fun S' => runS K.ts S' [] else none) = some S'
            rw [if_pos ⟨by omega, by omega⟩, Int.toNat_natCast, hn]; rfl
          have HN := hide hn
          obtain ⟨cl2, hcl2⟩ : ∃ q, (flS S').map (Value.int .i64) ++ [Value.int .u64 (g' : Int), Value.int .u64 (c' : Int)] = q := ⟨_, rfl⟩
          have hcs2 : ssC (flS S') g' c' = cl2.toArray := by unfold ssC; rw [hcl2]
          rw [hcs2] at hK'
          have sz3 : (Tryz.prog.info? 88).map (·.size) = some cl2.length := by rw [size88, ← ssC_size (g := g') (c := c') hO'.len, hcs2]; simp
          have SZ3 := hide sz3
          obtain ⟨Av', cv', rfl⟩ := hE2.oO.shape
          obtain ⟨w4, hw4⟩ : ∃ q, w3.alloc (.cells #[.int .i64 (m : Int)] 3) = q := ⟨_, rfl⟩
          have b4 : Below w3.heap.size w3 w4 := by rw [← hw4]; exact (Below.refl _ _).alloc (Nat.le_refl _) _
          have E4 := hide (E3.below b4); have F4 := hide (F3.trans (Fq.of_below b4))
          have K4 := hide (hK'.belowAll b4)
          have c3' : w3.cell? ⟨K.bO, 0, none⟩ = some (.slice Av' k cv') := E3.hO.cell 0
          have sone : SI w4 (.slice (some ⟨w3.heap.size, 0, none⟩) 1 1) 1 [(m : Int)] := by rw [← hw4]; exact SI.one _ _ _ (by omega)
          have E5 := fun v5 w5 (o5 : OI w5 K.wb.heap.size v5 (k + 1) (used ++ [(m : Int)])) (hg5 : w4.grownBy w5 (Value.slice Av' k cv').ownBlock) (hat : v5.ownBlock = (Value.slice Av' k cv').ownBlock ∨ v5.ownBlock = some w4.heap.size) => E4.out.put hg5 o5 (hat.imp id (fun e i hi => by rw [e] at hi; injection hi with hi; omega))
          have E5H := hide E5
          clear E5 E3 F3 hK' hn hcl2 sz3 c3 hsz3
          go_upto_region 9 with (at_builtin; refine wpList_appI rfl _ _ rfl rfl E4.out.oO rfl sone (by omega) (by have := E4.out.bw.size; omega) ?_; intro v5 w5 o5 hg5 hat; obtain ⟨g5, d5, rfl, hc5⟩ := o5.ownform; have c5 := (E4.out.hO.grown hg5 (fun e => E4.out.ne_row E4.out.hO (by decide) e.symm)).cell 0; have f5 := (E4.out.hO.grown hg5 (fun e => E4.out.ne_row E4.out.hO (by decide) e.symm)).frozen 0)
          obtain ⟨W5, hW5⟩ : ∃ q, w5.setCell ⟨K.bO, 0, none⟩ (.slice (some ⟨g5, 0, none⟩) (k + 1) d5) = q := ⟨_, rfl⟩
          have hput := E5H.out _ _ o5 hg5 hat
          rw [hW5] at hput
          rw [hW5]
          obtain ⟨E6, F6⟩ := hput
          have nb1 : wr.heap.size ≠ K.bO := fun e => by have := hE2.hO.lt; omega
          have nb3 : (Value.slice Av' k cv').ownBlock ≠ some wr.heap.size := fun e => by have := (hE2.row_lt e).2; omega
          have K6 := K4.out.fq F6 nb1 nb3
          have nb4 : (Value.slice (some ⟨g5, 0, none⟩) (k + 1) d5).ownBlock ≠ some wr.heap.size := by
            rcases F6.row with e | e
            · rw [e]; exact nb3
            · intro e2; have h1 := e _ e2; have h2 := K4.out.lt; omega
          have hrg2 := rng88 K6
          have cF : W5.cell? ⟨K.bF, 0, none⟩ = some (.func (.func 49) #[] #[.pointer (some ⟨K.bO, 0, none⟩), .pointer (some ⟨K.bA, 0, none⟩), .pointer (some ⟨K.bH, 0, none⟩), .pointer (some ⟨K.bF, 0, none⟩)]) := E6.hF.cell 0
          have hih := ih W5 _ (k + 1) (used ++ [(m : Int)]) S' g' c' E6 (by omega) hrun' hg' hc'
          rw [hcs2] at hih
          have F5 := hide (F4.out.trans F6)
          have HRG2 := hide hrg2
          clear F6 E6 c5 f5 hW5 hg5 hat o5 K6 sone c3' hw4 b4 hcs2 hrun' hrg2
          go_wp2_with (refine wpList_load_mid rfl 88 _ rfl wr.heap.size 0 rfl cl2 _ HRG2.out Tryz.underlying88 rfl SZ3.out ?_)
          refine hih.mono ?_
          rintro e w6 ⟨v6, k6, used6, r, rfl, EZ, FZ, hR1, hR2⟩
          clear cF
          cases r
          · obtain ⟨rfl, rfl, hno⟩ := hR2 rfl
            have HNO := hide hno
            obtain ⟨g6, d6, rfl, hd6⟩ := EZ.oO.ownform
            have hp := EZ.pop
            have cO := EZ.hO.cell 0
            have fO := EZ.hO.frozen 0
            obtain ⟨E8, F8⟩ := EZ.put (World.grownBy.refl w6 _) hp (.inl rfl)
            have hsl := slice_pop g6 k d6 hd6
            have E8' := hide E8; have F8' := hide ((F5.out.trans FZ).trans F8)
            have k63 : (k : Int) + 1 - 1 = k := by omega
            clear EZ FZ E8 F8 hp hno hR1 hR2 hih
            go_wp2_with fail
            go_roundw
            case rel => exact ⟨j + 1, _, by go_num, by omega, E8'.out, F8'.out, fun i x hi hx l hl => by
              by_cases e : i = j
              · subst e
                rw [HX9.out] at hx; injection hx with hx; subst hx
                rw [Int.toNat_natCast, HN.out]; exact HNO.out l hl
              · exact HALL.out i x (by omega) hx l hl⟩
            case measure => simp [intOf]; omega
          · have F9 := hide ((F5.out.trans FZ)); have HR1 := hide (hR1 rfl); have HEZ := hide EZ
            clear EZ FZ hR1 hR2 hih
            go_wp2_with fail
            go_ret
            exact ⟨v6, k6, used6, true, rfl, HEZ.out, (Fq.of_below b0).trans F9.out, fun _ => HR1.out, fun h => by cases h⟩
      · obtain rfl : j = K.na := by omega
        have hno : ∀ l : List Int, k + l.length = 2 * K.na → runS K.ts S l = none := by
          intro l hl
          cases l with
          | nil => simp at hl; omega
          | cons x l =>
            show (if (0 : Int) ≤ x ∧ x < K.ts.length then (nxt K.ts S x.toNat).bind fun S' => runS K.ts S' l else none) = none
            split
            · rename_i hx
              by_cases hd : (txAt K.ts x.toNat).2.2 = true
              · have hm := mem_doneL.2 hd
                obtain ⟨i, hi⟩ := List.getElem?_of_mem hm
                have := HALL.out i _ (by have := (List.getElem?_eq_some_iff.1 hi).1; have := hlen.out; omega) hi l (by rw [List.length_cons] at hl; omega)
                rw [Int.toNat_natCast] at this
                exact this
              · rw [nxt_off (fun h => hd h.1)]; rfl
            · rfl
        have HNO := hide hno
        have FF := (Fq.of_below b0).trans hF2
        clear hno
        go_wp2_with fail
        go_ret
        exact ⟨v', k, used, false, rfl, hE2, FF, fun h => (by cases h), fun _ => ⟨rfl, rfl, HNO.out⟩⟩
end Go.Proofs.YtcfkemchekmjbaaGreatDoor

namespace Go.Proofs.YtcfkemchekmjbaaGreatDoor
open Go.RowKit
set_option maxRecDepth 100000 in
set_option maxHeartbeats 4000000 in
theorem ownFine_c {A : Option Addr} {n c : Nat} {ts : List Tx} {w : World} (hr : RTs w A n ts) (hh : histB ts = true) :
    Calls Tryz.prog 47 #[.slice A n c] w fun e w' => e = .returned (.bool (decide (badN ts 4 = 0))) ∧ Below w.heap.size w w' := by
  have HB := hide (impl_BadReads_c (c := c) (kk0 := 4) hr hh (by omega) (by omega))
  clear hr hh
  go_enter Tryz.func47, Tryz.ntmps47
  go_wp2_with fail
  refine HB.out.mono ?_
  rintro e w2 ⟨A', c', rfl, b2⟩
  have e4 : badN ts ((4 : Nat) : Int) = badN ts 4 := rfl
  rw [e4]
  have hd : (((badN ts 4 : Nat) : Int) == 0) = decide (badN ts 4 = 0) := by
    rw [Bool.eq_iff_iff, beq_iff_eq, decide_eq_true_iff]; omega
  clear HB
  go_wp2_with fail
  go_ret
  exact ⟨rfl, b2⟩
def FindR (w : World) (ts : List Tx) (e : Ending) (w' : World) : Prop :=
  ∃ A k c l r, e = .returned (.tuple #[.slice A k c, .bool r]) ∧ SI w' (.slice A k c) k l ∧ Below w.heap.size w w' ∧ (r = true → rightS ts l = true) ∧ (r = false → ∀ l, rightS ts l = false)
theorem ss0_cells : ssC (flS ss0) 0 0 = #[.int .i64 0, .int .i64 0, .int .i64 0, .int .i64 0, .int .i64 0, .int .i64 0, .int .i64 0, .int .i64 0, .int .i64 0, .int .i64 0, .int .i64 0, .int .i64 0, .int .i64 0, .int .i64 0, .int .i64 0, .int .i64 0, .int .i64 0, .int .i64 0, .int .i64 0, .int .i64 0, .int .i64 0, .int .i64 0, .int .i64 0, .int .i64 0, .int .u64 0, .int .u64 0] := rfl
set_option maxRecDepth 100000 in
set_option maxHeartbeats 4000000 in
theorem FindSnapshot_c {A : Option Addr} {n c : Nat} {ts : List Tx} {w : World} (hr : RTs w A n ts) (hh : histB ts = true) (h4 : badN ts 4 = 0) (hd4 : (doneL ts).length ≤ 4) :
    Calls Tryz.prog 13 #[.slice A n c] w (FindR w ts) := by
  obtain ⟨h6, hv, hnd⟩ := histB_parts hh
  have hl := hide hr.1
  have HH := hide hh
  have hn6 : n ≤ 6 := by rw [← hl.out]; exact h6
  have hsm : SmallT ts := fun t ht => by have h : t.2.1.length ≤ 6 := txnB_lenH (hv t ht); omega
  have b1 := (Below.refl w.heap.size w).alloc (Nat.le_refl _) (.cells #[.slice A n c] 27)
  have hH1 := Blk.new w 27 #[.slice A n c]
  have c1 := hH1.cell 0
  have hr1 := hr.below b1
  have hmf : ∀ (fn : Fn) (first cap : Array Value) (w : World), (Instr.makeFunc fn first cap).run Tryz.prog w = .ok (.func fn first cap) w := fun _ _ _ _ => rfl
  have hd0 : decide (badN ts 4 = 0) = true := decide_eq_true h4
  have HB1 := hide b1; have HH1 := hide hH1; have H4 := hide h4; have HV := hide hv
  clear hnd h6 hh b1 hH1 h4 hv
  go_enter Tryz.func13, Tryz.ntmps13
  go_wp2_with fail
  refine (impl_HistoryValid_c hr1 (by omega) hsm).mono ?_
  rintro e w2 ⟨rfl, b2⟩
  have B2 := HB1.out.trans (b2.mono HB1.out.size)
  have H2 := HH1.out.belowAll b2
  rw [HH.out]
  have c2 := H2.cell 0
  have hr2 := hr.below B2
  have HB2 := hide B2; have HH2 := hide H2
  clear c1 hr1 b2 B2 H2
  go_wp2_with fail
  refine (ownFine_c hr2 HH.out).mono ?_
  rintro e w3 ⟨rfl, b3⟩
  rw [hd0]
  have B3 := below_step HB2.out b3
  have H3 := HH2.out.belowAll b3
  have c3 := H3.cell 0
  have hr3 := hr.below B3
  have HB3 := hide B3; have HH3 := hide H3
  clear c2 hr2 b3 B3 H3 HB2 HH2
  go_wp2_with fail
  refine (impl_done_c hr3 (by omega)).mono ?_
  rintro e w4 ⟨dv, dk, rfl, od, b4⟩
  have B4 := below_step HB3.out b4
  have H4' := HH3.out.belowAll b4
  have OD := hide (od.mono (B' := w.heap.size) HB3.out.size)
  obtain ⟨Ad, cd, rfl⟩ := od.shape
  have hdk : dk ≤ 4 := by rw [← od.len]; exact hd4
  have hdl := hide od.len
  have hmk : ∀ w, (Instr.makeSlice 24 (.int .i64 0) (.int .i64 (2 * (dk : Int)))).run Tryz.prog w = .ok (.slice (some ⟨w.heap.size, 0, none⟩) 0 (2 * dk)) (w.alloc (.cells (madeCells #[.int .i64 0] (2 * dk)) 3)) := fun w => by
    rw [show 2 * (dk : Int) = ((2 * dk : Nat) : Int) by omega]; exact run_make_J0 (2 * dk) (by omega) w
  have hw2 : IntKind.i64.wrap (2 * (dk : Int)) = 2 * (dk : Int) := by rw [IntKind.wrap_i64]; omega
  have HB4 := hide B4; have HH4 := hide H4'
  have hgt : ¬ (dk : Int) > 4 := by omega
  obtain ⟨W5, hW5⟩ : ∃ q, ((((w4.alloc (.cells #[.slice Ad dk cd] 24)).alloc (.cells (madeCells #[.int .i64 0] (2 * dk)) 3)).alloc (.cells #[.slice (some ⟨w4.heap.size + 1, 0, none⟩) 0 (2 * dk)] 24)).alloc (.cells #[.func (.func 49) #[] #[.pointer (some ⟨w4.heap.size + 1 + 1, 0, none⟩), .pointer (some ⟨w4.heap.size, 0, none⟩), .pointer (some ⟨w.heap.size, 0, none⟩), .pointer (some ⟨w4.heap.size + 1 + 1 + 1, 0, none⟩)]] 84)) = q := ⟨_, rfl⟩
  have B45 : Below w4.heap.size w4 W5 := by rw [← hW5]; exact ((((Below.refl _ _).alloc (Nat.le_refl _) _).alloc (by simp) _).alloc (by simp; omega) _).alloc (by simp; omega) _
  have kA : Blk W5 w4.heap.size 24 #[.slice Ad dk cd] := by rw [← hW5]; exact (((Blk.new w4 _ _).alloc _).alloc _).alloc _
  have oO : OI W5 (w4.heap.size + 1) (.slice (some ⟨w4.heap.size + 1, 0, none⟩) 0 (2 * dk)) 0 [] := by
    rw [← hW5]
    have := own_J0 (w4.alloc (.cells #[.slice Ad dk cd] 24)) (2 * dk) (by omega)
    rw [World.size_alloc] at this
    exact (this.below ((Below.refl _ _).alloc (Nat.le_refl _) _)).below ((Below.refl _ _).alloc (Nat.le_refl _) _)
  have kO : Blk W5 (w4.heap.size + 1 + 1) 24 #[.slice (some ⟨w4.heap.size + 1, 0, none⟩) 0 (2 * dk)] := by
    rw [← hW5]
    have := Blk.new ((w4.alloc (.cells #[.slice Ad dk cd] 24)).alloc (.cells (madeCells #[.int .i64 0] (2 * dk)) 3)) 24 #[.slice (some ⟨w4.heap.size + 1, 0, none⟩) 0 (2 * dk)]
    simp only [World.size_alloc] at this
    exact this.alloc _
  have kF : Blk W5 (w4.heap.size + 1 + 1 + 1) 84 #[.func (.func 49) #[] #[.pointer (some ⟨w4.heap.size + 1 + 1, 0, none⟩), .pointer (some ⟨w4.heap.size, 0, none⟩), .pointer (some ⟨w.heap.size, 0, none⟩), .pointer (some ⟨w4.heap.size + 1 + 1 + 1, 0, none⟩)]] := by
    rw [← hW5]
    have := Blk.new (((w4.alloc (.cells #[.slice Ad dk cd] 24)).alloc (.cells (madeCells #[.int .i64 0] (2 * dk)) 3)).alloc (.cells #[.slice (some ⟨w4.heap.size + 1, 0, none⟩) 0 (2 * dk)] 24)) 84 #[.func (.func 49) #[] #[.pointer (some ⟨w4.heap.size + 1 + 1, 0, none⟩), .pointer (some ⟨w4.heap.size, 0, none⟩), .pointer (some ⟨w.heap.size, 0, none⟩), .pointer (some ⟨w4.heap.size + 1 + 1 + 1, 0, none⟩)]]
    simp only [World.size_alloc] at this
    exact this
  have BW5 : Below w.heap.size w W5 := below_step HB4.out B45
  have ge4 : w.heap.size ≤ w4.heap.size := HB4.out.size
  have htr : (Value.slice Ad dk cd).ownBlock = none ∨ (Value.slice Ad dk cd).ownBlock ≠ (Value.slice (some ⟨w4.heap.size + 1, 0, none⟩) 0 (2 * dk)).ownBlock := by
    cases hq : (Value.slice Ad dk cd).ownBlock with
    | none => exact .inl rfl
    | some q =>
      right; intro e; have := (World.ownsRow.lt od.1 q hq).2
      have e2 : q = w4.heap.size + 1 := by injection e
      omega
  have hfrom : Calls Tryz.prog 49 #[.agg #[.int .i64 0, .int .i64 0, .int .i64 0, .int .i64 0, .int .i64 0, .int .i64 0, .int .i64 0, .int .i64 0, .int .i64 0, .int .i64 0, .int .i64 0, .int .i64 0, .int .i64 0, .int .i64 0, .int .i64 0, .int .i64 0, .int .i64 0, .int .i64 0, .int .i64 0, .int .i64 0, .int .i64 0, .int .i64 0, .int .i64 0, .int .i64 0, .int .u64 0, .int .u64 0], .pointer (some ⟨w4.heap.size + 1 + 1, 0, none⟩), .pointer (some ⟨w4.heap.size, 0, none⟩), .pointer (some ⟨w.heap.size, 0, none⟩), .pointer (some ⟨w4.heap.size + 1 + 1 + 1, 0, none⟩)] W5
      (fun e w' => ∃ A' k' c' used' r, e = .returned (.bool r) ∧ Below w.heap.size w w' ∧ w'.cell? ⟨w4.heap.size + 1 + 1, 0, none⟩ = some (.slice A' k' c') ∧ SI w' (.slice A' k' c') k' used' ∧ (r = true → rightS ts used' = true) ∧ (r = false → ∀ l, rightS ts l = false)) := by
    let K : FsK := ⟨w, A, n, c, ts, w.heap.size, w4.heap.size, w4.heap.size + 1 + 1, w4.heap.size + 1 + 1 + 1, .slice Ad dk cd, dk⟩
    have hE : Fs K W5 (.slice (some ⟨w4.heap.size + 1, 0, none⟩) 0 (2 * dk)) 0 [] :=
      ⟨BW5, HH4.out.belowAll B45, kA, kF, kO, OD.out.below B45, oO.mono (by show w.heap.size ≤ _; omega), htr, by show w.heap.size ≤ w4.heap.size + 1 + 1; omega, by show w4.heap.size ≠ w4.heap.size + 1 + 1; omega⟩
    have := fs_c (K := K) hr HH.out (by show dk ≤ 4; omega) (Nat.le_refl _) (2 * dk) W5 _ 0 [] ss0 0 0 hE (by show 0 + 2 * dk = 2 * dk; omega) rfl MaskN.zero MaskN.zero
    rw [ss0_cells] at this
    refine this.mono ?_
    rintro e w' ⟨v', k', u', r, rfl, hE', _, h1, h2⟩
    obtain ⟨A', c', hvv⟩ := hE'.oO.shape
    subst hvv
    refine ⟨A', k', c', u', r, rfl, hE'.bw, hE'.hO.cell 0, hE'.oO.si, fun hr1 => ?_, fun hr0 l => ?_⟩
    · obtain ⟨g1, g2⟩ := h1 hr1
      have hlen : u'.length = 2 * (doneL ts).length := by rw [hE'.oO.len, hdl.out]; exact g1
      unfold rightS
      rw [HH.out, decide_eq_true H4.out, decide_eq_true hlen, show (runS ts ss0 u').isSome = true from g2]; rfl
    · obtain ⟨_, _, g3⟩ := h2 hr0
      unfold rightS
      by_cases hlen : l.length = 2 * (doneL ts).length
      · have : runS ts ss0 l = none := g3 l (by show 0 + l.length = 2 * dk; rw [hlen, hdl.out]; omega)
        rw [this]; simp
      · rw [decide_eq_false hlen]; simp
  have cF5 := kF.cell 0
  clear kA kO kF oO htr c3 hr3 b4 B4 H4' HB3 HH3 od HB4 HH4 OD
  go_wp2_with fail
  refine hfrom.mono ?_
  rintro e w6 ⟨A', k', c', u', r, rfl, b6, cO, s6, h1, h2⟩
  have H1 := hide h1; have H2 := hide h2; have S6 := hide s6
  clear h1 h2 s6 hfrom cF5
  cases r
  · go_wp2_with fail
    refine bodyPost_ret (v := .tuple #[.slice none 0 0, .bool false]) (by simp [results, Tryz.results13, go_sem]) rfl ?_
    exact ⟨none, 0, 0, [], false, rfl, ⟨none, 0, rfl, Nat.le_refl _, Nat.zero_le _, rfl, fun h => by omega⟩, b6, fun h => (by cases h), fun _ => H2.out trivial⟩
  · go_wp2_with fail
    refine bodyPost_ret (v := .tuple #[.slice A' k' c', .bool true]) (by simp [results, Tryz.results13, go_sem]) rfl ?_
    exact ⟨A', k', c', u', true, rfl, S6.out, b6, fun _ => H1.out trivial, fun h => (by cases h)⟩
end Go.Proofs.YtcfkemchekmjbaaGreatDoor
