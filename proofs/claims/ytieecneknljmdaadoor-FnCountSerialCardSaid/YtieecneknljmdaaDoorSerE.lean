/- Where the search for serial orders stands in memory. -/
import Derived.Test.YtieecneknljmdaaDoorSerH
import Derived.Test.YtieecneknljmdaaDoorSerF
import Derived.Test.YtieecneknljmdaaDoorLib2
import Derived.Test.YtieecneknljmdaaDoorApp
namespace Go.Proofs.YtieecneknljmdaaDoor
open Go.RowKit

/-- What does not change while the search runs: the world below, the history, the callback's function and what it captured, the boxes, the list of all. -/
structure EsK where
  wb : World
  A : Option Addr
  n : Nat
  c : Nat
  ts : List Tx
  cN : Nat
  caps : Array Value
  bH : Nat
  bL : Nat
  bC : Nat
  bA : Nat
  bO : Nat
  bF : Nat
  va : Value
  na : Nat
  all : List Int
  cb : Nat → Prop
/-- The search's state: the order so far is the slice v, k numbers, used. -/
structure Es (K : EsK) (w : World) (v : Value) (k : Nat) (used : List Int) : Prop where
  bw : Below K.wb.heap.size K.wb w
  hH : Blk w K.bH 23 #[.slice K.A K.n K.c]
  hL : Blk w K.bL 44 #[.func (.func 22) #[] #[]]
  hC : Blk w K.bC 45 #[.func (.func K.cN) #[] K.caps]
  hA : Blk w K.bA 27 #[K.va]
  hF : Blk w K.bF 78 #[.func (.func 48) #[] #[.pointer (some ⟨K.bO, 0, none⟩), .pointer (some ⟨K.bA, 0, none⟩), .pointer (some ⟨K.bC, 0, none⟩), .pointer (some ⟨K.bL, 0, none⟩), .pointer (some ⟨K.bH, 0, none⟩), .pointer (some ⟨K.bF, 0, none⟩)]]
  hO : Blk w K.bO 27 #[v]
  oA : OI w K.wb.heap.size K.va K.na K.all
  oO : OI w K.wb.heap.size v k used
  apart : K.va.ownBlock = none ∨ K.va.ownBlock ≠ v.ownBlock
  geO : K.wb.heap.size ≤ K.bO
  neAO : K.bA ≠ K.bO
  cbs : ∀ i, K.cb i → K.wb.heap.size ≤ i ∧ i < w.heap.size ∧ (i ≠ K.bH ∧ i ≠ K.bL ∧ i ≠ K.bC ∧ i ≠ K.bA ∧ i ≠ K.bF ∧ i ≠ K.bO) ∧ K.va.ownBlock ≠ some i ∧ v.ownBlock ≠ some i
/-- From (w, v) to (w', v') the order's box, its row and the callback's blocks alone may have changed. -/
structure Fr (K : EsK) (w : World) (v : Value) (w' : World) (v' : Value) : Prop where
  os : w'.os = w.os
  tape : w'.tape = w.tape
  output : w'.output = w.output
  size : w.heap.size ≤ w'.heap.size
  block : ∀ i, i < w.heap.size → i ≠ K.bO → ¬ K.cb i → v.ownBlock ≠ some i → w'.heap[i]? = w.heap[i]?
  row : v'.ownBlock = v.ownBlock ∨ ∀ i, v'.ownBlock = some i → w.heap.size ≤ i
section
variable {K : EsK} {w w' a b c : World} {v v' u x : Value} {k k' : Nat} {used used' : List Int}
theorem Fr.refl : Fr K w v w v := ⟨rfl, rfl, rfl, Nat.le_refl _, fun _ _ _ _ _ => rfl, .inl rfl⟩
theorem Fr.trans (h : Fr K a u b v) (g : Fr K b v c x) : Fr K a u c x := by
  refine ⟨g.os.trans h.os, g.tape.trans h.tape, g.output.trans h.output, Nat.le_trans h.size g.size, fun i hi h1 h2 h3 => (g.block i (Nat.lt_of_lt_of_le hi h.size) h1 h2 ?_).trans (h.block i hi h1 h2 h3), ?_⟩
  · rcases h.row with e | e
    · rw [e]; exact h3
    · intro e2; have := e i e2; omega
  · rcases g.row with e | e
    · rcases h.row with e2 | e2
      · exact .inl (e.trans e2)
      · exact .inr fun i hi => e2 i (e ▸ hi)
    · exact .inr fun i hi => Nat.le_trans h.size (e i hi)
theorem Fr.of_below (h : Below w.heap.size w w') : Fr K w v w' v := ⟨h.os, h.tape, h.output, h.size, fun i hi _ _ _ => h.block i hi, .inl rfl⟩
theorem Fr.below (h : Fr K a u b v) (hb : Below b.heap.size b c) : Fr K a u c v := h.trans (Fr.of_below hb)
theorem Blk.fr {g : Nat} {t : TypeId} {cs : Array Value} (h : Blk w g t cs) (hf : Fr K w v w' v') (h1 : g ≠ K.bO) (h2 : ¬ K.cb g) (h3 : v.ownBlock ≠ some g) : Blk w' g t cs := (hf.block g h.lt h1 h2 h3).trans h
theorem OI.fr {B m : Nat} {q : Value} {xs : List Int} (h : OI w B q m xs) (hf : Fr K w v w' v') (h1 : ∀ g, q.ownBlock = some g → g ≠ K.bO ∧ ¬ K.cb g ∧ v.ownBlock ≠ some g) : OI w' B q m xs := by
  refine ⟨⟨h.1.1, ?_⟩, h.2⟩
  rcases h.1.2 with hn | ⟨g, cap, cur, rfl, hb, hgg, rest⟩
  · exact .inl hn
  · obtain ⟨x1, x2, x3⟩ := h1 g rfl
    exact .inr ⟨g, cap, cur, rfl, hb, (hf.block g (Blk.lt hgg) x1 x2 x3).trans hgg, rest⟩
theorem Es.below (h : Es K w v k used) (hb : Below w.heap.size w w') : Es K w' v k used :=
  ⟨below_step h.bw hb, h.hH.belowAll hb, h.hL.belowAll hb, h.hC.belowAll hb, h.hA.belowAll hb, h.hF.belowAll hb, h.hO.belowAll hb, h.oA.below hb, h.oO.below hb, h.apart, h.geO, h.neAO,
    fun i hi => by obtain ⟨h1, h2, h3⟩ := h.cbs i hi; exact ⟨h1, Nat.lt_of_lt_of_le h2 hb.size, h3⟩⟩
theorem Es.ne_row (h : Es K w v k used) {g : Nat} {t : TypeId} {cs : Array Value} (hb : Blk w g t cs) (ht : t ≠ 3) : v.ownBlock ≠ some g := h.oO.ne_blk hb ht
theorem Es.row_lt (h : Es K w v k used) {g : Nat} (hg : v.ownBlock = some g) : K.wb.heap.size ≤ g ∧ g < w.heap.size := World.ownsRow.lt h.oO.1 g hg
theorem blk_ne {w : World} {g g' : Nat} {t t' : TypeId} {cs cs' : Array Value} (h : Blk w g t cs) (h' : Blk w g' t' cs') (ht : t ≠ t') : g ≠ g' := by
  rintro rfl
  unfold Blk at h h'
  rw [h] at h'; injection h' with h'; injection h' with _ h2; exact ht h2
/-- A new order, put into its box. -/
theorem Es.put (h : Es K w v k used) (hg : w.grownBy w' v.ownBlock) (ho : OI w' K.wb.heap.size v' k' used') (hv : v'.ownBlock = v.ownBlock ∨ ∀ i, v'.ownBlock = some i → w.heap.size ≤ i) :
    Es K (w'.setCell ⟨K.bO, 0, none⟩ v') v' k' used' ∧ Fr K w v (w'.setCell ⟨K.bO, 0, none⟩ v') v' := by
  have nH := h.ne_row h.hH (by decide); have nL := h.ne_row h.hL (by decide); have nC := h.ne_row h.hC (by decide)
  have nA := h.ne_row h.hA (by decide); have nF := h.ne_row h.hF (by decide); have nO := h.ne_row h.hO (by decide)
  have eH := blk_ne h.hH h.hO (by decide); have eL := blk_ne h.hL h.hO (by decide); have eC := blk_ne h.hC h.hO (by decide); have eF := blk_ne h.hF h.hO (by decide)
  have ks : ∀ {g : Nat} {t : TypeId} {cs : Array Value}, Blk w g t cs → v.ownBlock ≠ some g → g ≠ K.bO → Blk (w'.setCell ⟨K.bO, 0, none⟩ v') g t cs := fun hb h1 h2 => (hb.grown hg (fun e => h1 e.symm)).far (p := ⟨K.bO, 0, none⟩) h2 v'
  have hO' : Blk w' K.bO 27 #[v] := h.hO.grown hg (fun e => nO e.symm)
  have hbw : Below K.wb.heap.size K.wb w' := below_of_grown h.bw hg h.bw.size (fun g e => (h.row_lt e).1)
  have far : ∀ {q : Value} {m : Nat} {xs : List Int}, OI w' K.wb.heap.size q m xs → OI (w'.setCell ⟨K.bO, 0, none⟩ v') K.wb.heap.size q m xs := fun {q m xs} hq => by
    have hne := hq.ne_blk hO' (by decide)
    refine hq.grown (row := some K.bO) (grown_setCell (World.grownBy.refl w' (some K.bO)) (.inl rfl) v') (.inr hne)
  refine ⟨⟨hbw.setCell (p := ⟨K.bO, 0, none⟩) h.geO v', ks h.hH nH eH, ks h.hL nL eL, ks h.hC nC eC, ks h.hA nA h.neAO, ks h.hF nF eF, by simpa using hO'.set_ 0 v', ?_, far ho, ?_, h.geO, h.neAO, ?_⟩, ?_⟩
  · exact far (h.oA.grown hg h.apart)
  · rcases h.apart with e | e
    · exact .inl e
    · rcases hv with e2 | e2
      · right; rw [e2]; exact e
      · cases hq : K.va.ownBlock with
        | none => exact .inl rfl
        | some g =>
          right; intro e3
          have l1 := (World.ownsRow.lt h.oA.1 g hq).2
          have l2 := e2 g e3.symm
          omega
  · intro i hi
    obtain ⟨h1, h2, h3, h4, h5⟩ := h.cbs i hi
    refine ⟨h1, by rw [size_setCell]; exact Nat.lt_of_lt_of_le h2 hg.size, h3, h4, ?_⟩
    rcases hv with e2 | e2
    · rw [e2]; exact h5
    · intro e3; have := e2 i e3; omega
  · refine ⟨hg.os, hg.tape, hg.output, by rw [size_setCell]; exact hg.size, fun i hi h1 _ h3 => ?_, hv⟩
    exact (Below.heap_setCell w' ⟨K.bO, 0, none⟩ v' i (fun e => h1 e)).trans (hg.block i hi (fun e => h3 e.symm))
/-- Behind a call that keeps the search's state. -/
theorem Es.cb_kept (h : Es K w v k used) (hf : ∀ i, i < w.heap.size → ¬ K.cb i → w'.heap[i]? = w.heap[i]?) (ho : w'.os = w.os) (ht : w'.tape = w.tape) (hu : w'.output = w.output) (hs : w.heap.size ≤ w'.heap.size) :
    Es K w' v k used ∧ Fr K w v w' v := by
  have F : Fr K w v w' v := ⟨ho, ht, hu, hs, fun i hi _ h2 _ => hf i hi h2, .inl rfl⟩
  have ncb : ∀ {g : Nat}, (g = K.bH ∨ g = K.bL ∨ g = K.bC ∨ g = K.bA ∨ g = K.bF ∨ g = K.bO) → ¬ K.cb g := fun hg hc => by
    obtain ⟨_, _, ⟨h1, h2, h3, h4, h5, h6⟩, _⟩ := h.cbs _ hc
    rcases hg with e | e | e | e | e | e
    · exact h1 e
    · exact h2 e
    · exact h3 e
    · exact h4 e
    · exact h5 e
    · exact h6 e
  have ks : ∀ {g : Nat} {t : TypeId} {cs : Array Value}, Blk w g t cs → ¬ K.cb g → Blk w' g t cs := fun hb h1 => (hf _ hb.lt h1).trans hb
  have kr : ∀ {q : Value} {m : Nat} {xs : List Int}, OI w K.wb.heap.size q m xs → (∀ i, q.ownBlock = some i → ¬ K.cb i) → OI w' K.wb.heap.size q m xs := fun {q m xs} hq h1 => by
    refine ⟨⟨hq.1.1, ?_⟩, hq.2⟩
    rcases hq.1.2 with hn | ⟨g, cap, cur, rfl, hb, hgg, rest⟩
    · exact .inl hn
    · exact .inr ⟨g, cap, cur, rfl, hb, (hf g (Blk.lt hgg) (h1 g rfl)).trans hgg, rest⟩
  refine ⟨⟨?_, ks h.hH (ncb (by simp)), ks h.hL (ncb (by simp)), ks h.hC (ncb (by simp)), ks h.hA (ncb (by simp)), ks h.hF (ncb (by simp)), ks h.hO (ncb (by simp)), kr h.oA ?_, kr h.oO ?_, h.apart, h.geO, h.neAO, ?_⟩, F⟩
  · refine ⟨ho.trans h.bw.os, ht.trans h.bw.tape, hu.trans h.bw.output, Nat.le_trans h.bw.size hs, fun i hi => (hf i (Nat.lt_of_lt_of_le hi h.bw.size) fun hc => ?_).trans (h.bw.block i hi)⟩
    have := (h.cbs i hc).1; omega
  · intro i hi hc; exact (h.cbs i hc).2.2.2.1 hi
  · intro i hi hc; exact (h.cbs i hc).2.2.2.2 hi
  · intro i hi
    obtain ⟨h1, h2, h3⟩ := h.cbs i hi
    exact ⟨h1, Nat.lt_of_lt_of_le h2 hs, h3⟩
/-- The last number is taken away. -/
theorem Es.pop {g d : Nat} {z : Int} (h : Es K w (.slice (some ⟨g, 0, none⟩) (k + 1) d) (k + 1) (used ++ [z])) : OI w K.wb.heap.size (.slice (some ⟨g, 0, none⟩) k d) k used := by
  have hl := h.oO.len
  have h1 := h.oO.1
  rw [List.map_append, List.map_cons, List.map_nil] at h1
  have hb := h.oO.2
  exact ⟨ownsRow_pop (by simp at hl ⊢; omega) h1, by omega⟩
end
/-- The numbers of a bit mask. -/
def MaskOf (g : Nat) (used : List Int) : Prop := g < 64 ∧ ∀ x : Nat, x < 6 → (g.testBit x = used.contains (x : Int))
theorem MaskOf.zero : MaskOf 0 [] := ⟨by omega, fun x _ => by simp⟩
theorem MaskOf.snoc {g n : Nat} {used : List Int} (h : MaskOf g used) (hn : n < 6) : MaskOf (g ||| 2 ^ n) (used ++ [(n : Int)]) := by
  refine ⟨Nat.or_lt_two_pow (n := 6) h.1 (Nat.pow_lt_pow_right (by omega) hn), fun x hx => ?_⟩
  rw [Nat.testBit_or, h.2 x hx, Nat.testBit_two_pow]
  have e : (used ++ [(n : Int)]).contains (x : Int) = (used.contains (x : Int) || decide ((x : Int) = (n : Int))) := by
    rw [Bool.eq_iff_iff]; simp
  rw [e]
  congr 1
  by_cases hxn : x = n
  · subst hxn; simp
  · simp [Ne.symm hxn]; omega

end Go.Proofs.YtieecneknljmdaaDoor
