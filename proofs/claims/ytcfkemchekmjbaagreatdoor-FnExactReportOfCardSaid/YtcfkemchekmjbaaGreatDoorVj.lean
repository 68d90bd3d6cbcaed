/- Merged (what the law reaches): SerC, SerK, LvP. -/
import Derived.Test.YtcfkemchekmjbaaGreatDoorVi
import Derived.Laws.EntriesVeiled
import Derived.Shelf.Abstract
import Derived.BigQuiet
import Derived.Deep.RegionHeld3
namespace Go.Proofs.YtcfkemchekmjbaaGreatDoor
open Go.RowKit
def EachR {α : Type} (wb : World) (I : α → World → Prop) (r : α × Bool) (e : Ending) (w' : World) : Prop := e = .returned (.tuple #[]) ∧ Below wb.heap.size wb w' ∧ I r.1 w'
set_option maxRecDepth 100000 in
set_option maxHeartbeats 16000000 in
theorem eachSerial_c {α : Type} {go : α → List Int → α × Bool} {I : α → World → Prop} {Live : α → Prop} {wb w : World} {A : Option Addr} {n c : Nat} {ts : List Tx} {cN : Nat} {caps : Array Value} {cb : Nat → Prop} {a : α}
    (hbw : Below wb.heap.size wb w) (hr : RTs wb A n ts) (h6 : ts.length ≤ 6) (hk : ∀ t ∈ ts, ∀ o ∈ t.2.1, (o.1 = 1 ∨ o.1 = 2) ∧ 0 ≤ o.2.1 ∧ o.2.1 ≤ 2) (hsm : SmallT ts)
    (hcbs : ∀ i, cb i → wb.heap.size ≤ i ∧ i < w.heap.size) (hcb : ∀ K : EsK, K.wb = wb → K.cN = cN → K.caps = caps → K.cb = cb → w.heap.size ≤ K.bA → CbOK K go I Live) (hL : Live a) (hI : I a w) :
    Calls Tryz.prog 129 #[.slice A n c, .func (.func 75) #[] #[], .func (.func cN) #[] caps] w (EachR wb I (srch go ts (doneL ts) (doneL ts).length [0, 0, 0] [] a)) := by
  have hl : ts.length = n := hr.1
  have hn6 : n ≤ 6 := by omega
  have hmf : ∀ (fn : Fn) (first cap : Array Value) (w : World), (Instr.makeFunc fn first cap).run Tryz.prog w = .ok (.func fn first cap) w := fun _ _ _ _ => rfl
  obtain ⟨w3, hw3⟩ : ∃ q, ((w.alloc (.cells #[.slice A n c] 27)).alloc (.cells #[.func (.func 75) #[] #[]] 112)).alloc (.cells #[.func (.func cN) #[] caps] 161) = q := ⟨_, rfl⟩
  have kH : Blk w3 w.heap.size 27 #[.slice A n c] := by rw [← hw3]; exact ((Blk.new w _ _).alloc _).alloc _
  have kL : Blk w3 (w.heap.size + 1) 112 #[.func (.func 75) #[] #[]] := by
    rw [← hw3]; have := Blk.new (w.alloc (.cells #[.slice A n c] 27)) 112 #[.func (.func 75) #[] #[]]
    rw [World.size_alloc] at this; exact this.alloc _
  have kC : Blk w3 (w.heap.size + 1 + 1) 161 #[.func (.func cN) #[] caps] := by
    rw [← hw3]; have := Blk.new ((w.alloc (.cells #[.slice A n c] 27)).alloc (.cells #[.func (.func 75) #[] #[]] 112)) 161 #[.func (.func cN) #[] caps]
    simp only [World.size_alloc] at this; exact this
  have b3 : Below w.heap.size w w3 := by
    rw [← hw3]; exact (((Below.refl _ _).alloc (Nat.le_refl _) _).alloc (by simp) _).alloc (by simp; omega) _
  have hsz3 : w3.heap.size = w.heap.size + 3 := by rw [← hw3]; simp [World.size_alloc]
  have cH0 := kH.cell 0
  have KH := hide kH; have KL := hide kL; have KC := hide kC; have B3 := hide b3
  have HR3 := (hr.below hbw).below b3
  clear kH kL kC b3
  go_enter Tryz.func129, Tryz.ntmps129
  go_wp2_with fail
  refine (impl_done_c HR3 (by omega)).mono ?_
  rintro e w4 ⟨r, k4, rfl, o4, b4⟩
  obtain ⟨Ar, cr, rfl⟩ := o4.shape
  have hl4 := o4.len
  have hd6 : (doneL ts).length ≤ 6 := by have := doneTo_len ts ts.length; unfold doneL; omega
  have hmk := run_make_J0 k4 (by omega)
  obtain ⟨W5, hW5⟩ : ∃ q, (((w4.alloc (.cells #[.slice Ar k4 cr] 24)).alloc (.cells (madeCells #[.int .i64 0] k4) 3)).alloc (.cells #[.slice (some ⟨w4.heap.size + 1, 0, none⟩) 0 k4] 24)).alloc (.cells #[.func (.func 174) #[] #[.pointer (some ⟨w4.heap.size + 1 + 1, 0, none⟩), .pointer (some ⟨w4.heap.size, 0, none⟩), .pointer (some ⟨w.heap.size + 1 + 1, 0, none⟩), .pointer (some ⟨w.heap.size + 1, 0, none⟩), .pointer (some ⟨w.heap.size, 0, none⟩), .pointer (some ⟨w4.heap.size + 1 + 1 + 1, 0, none⟩)]] 195) = q := ⟨_, rfl⟩
  have B45 : Below w4.heap.size w4 W5 := by rw [← hW5]; exact ((((Below.refl _ _).alloc (Nat.le_refl _) _).alloc (by simp) _).alloc (by simp; omega) _).alloc (by simp; omega) _
  have kA : Blk W5 w4.heap.size 24 #[.slice Ar k4 cr] := by rw [← hW5]; exact (((Blk.new w4 _ _).alloc _).alloc _).alloc _
  have oO : OI W5 (w4.heap.size + 1) (.slice (some ⟨w4.heap.size + 1, 0, none⟩) 0 k4) 0 [] := by
    rw [← hW5]
    have := own_J0 (w4.alloc (.cells #[.slice Ar k4 cr] 24)) k4 (by omega)
    rw [World.size_alloc] at this
    exact (this.below ((Below.refl _ _).alloc (Nat.le_refl _) _)).below ((Below.refl _ _).alloc (Nat.le_refl _) _)
  have kO : Blk W5 (w4.heap.size + 1 + 1) 24 #[.slice (some ⟨w4.heap.size + 1, 0, none⟩) 0 k4] := by
    rw [← hW5]
    have := Blk.new ((w4.alloc (.cells #[.slice Ar k4 cr] 24)).alloc (.cells (madeCells #[.int .i64 0] k4) 3)) 24 #[.slice (some ⟨w4.heap.size + 1, 0, none⟩) 0 k4]
    simp only [World.size_alloc] at this
    exact this.alloc _
  have kF : Blk W5 (w4.heap.size + 1 + 1 + 1) 195 #[.func (.func 174) #[] #[.pointer (some ⟨w4.heap.size + 1 + 1, 0, none⟩), .pointer (some ⟨w4.heap.size, 0, none⟩), .pointer (some ⟨w.heap.size + 1 + 1, 0, none⟩), .pointer (some ⟨w.heap.size + 1, 0, none⟩), .pointer (some ⟨w.heap.size, 0, none⟩), .pointer (some ⟨w4.heap.size + 1 + 1 + 1, 0, none⟩)]] := by
    rw [← hW5]
    have := Blk.new (((w4.alloc (.cells #[.slice Ar k4 cr] 24)).alloc (.cells (madeCells #[.int .i64 0] k4) 3)).alloc (.cells #[.slice (some ⟨w4.heap.size + 1, 0, none⟩) 0 k4] 24)) 195 #[.func (.func 174) #[] #[.pointer (some ⟨w4.heap.size + 1 + 1, 0, none⟩), .pointer (some ⟨w4.heap.size, 0, none⟩), .pointer (some ⟨w.heap.size + 1 + 1, 0, none⟩), .pointer (some ⟨w.heap.size + 1, 0, none⟩), .pointer (some ⟨w.heap.size, 0, none⟩), .pointer (some ⟨w4.heap.size + 1 + 1 + 1, 0, none⟩)]]
    simp only [World.size_alloc] at this
    exact this
  have B35 : Below w3.heap.size w3 W5 := below_step b4 B45
  have BW5 : Below w.heap.size w W5 := below_step B3.out B35
  have ge3 : w3.heap.size ≤ w4.heap.size := b4.size
  have geb := hbw.size
  have htr : (Value.slice Ar k4 cr).ownBlock = none ∨ (Value.slice Ar k4 cr).ownBlock ≠ (Value.slice (some ⟨w4.heap.size + 1, 0, none⟩) 0 k4).ownBlock := by
    cases hq : (Value.slice Ar k4 cr).ownBlock with
    | none => exact .inl rfl
    | some q =>
      right; intro e; have := (World.ownsRow.lt o4.1 q hq).2
      have e2 : q = w4.heap.size + 1 := by injection e
      omega
  have hfrom : Calls Tryz.prog 174 #[.agg #[.int .i64 0, .int .i64 0, .int .i64 0], .int .u64 0, .pointer (some ⟨w4.heap.size + 1 + 1, 0, none⟩), .pointer (some ⟨w4.heap.size, 0, none⟩), .pointer (some ⟨w.heap.size + 1 + 1, 0, none⟩), .pointer (some ⟨w.heap.size + 1, 0, none⟩), .pointer (some ⟨w.heap.size, 0, none⟩), .pointer (some ⟨w4.heap.size + 1 + 1 + 1, 0, none⟩)] W5 (fun e w' => ∃ bb, e = .returned (.bool bb) ∧ Below wb.heap.size wb w' ∧ I (srch go ts (doneL ts) k4 [0, 0, 0] [] a).1 w') := by
    let K : EsK := ⟨wb, A, n, c, ts, cN, caps, w.heap.size, w.heap.size + 1, w.heap.size + 1 + 1, w4.heap.size, w4.heap.size + 1 + 1, w4.heap.size + 1 + 1 + 1, .slice Ar k4 cr, k4, doneL ts, cb⟩
    have hE : Es K W5 (.slice (some ⟨w4.heap.size + 1, 0, none⟩) 0 k4) 0 [] :=
      ⟨below_step hbw BW5, KH.out.belowAll B35, KL.out.belowAll B35, KC.out.belowAll B35, kA, kF, kO, (o4.below B45).mono (by show wb.heap.size ≤ w3.heap.size; omega), oO.mono (by show wb.heap.size ≤ _; omega), htr, by show wb.heap.size ≤ w4.heap.size + 1 + 1; omega, by show w4.heap.size ≠ w4.heap.size + 1 + 1; omega, fun i hi => by
        obtain ⟨h1, h2⟩ := hcbs i hi
        refine ⟨h1, by have := BW5.size; omega, ⟨by show i ≠ w.heap.size; omega, by show i ≠ w.heap.size + 1; omega, by show i ≠ w.heap.size + 1 + 1; omega, by show i ≠ w4.heap.size; omega, by show i ≠ w4.heap.size + 1 + 1 + 1; omega, by show i ≠ w4.heap.size + 1 + 1; omega⟩, fun e => ?_, fun e => ?_⟩
        · have := (World.ownsRow.lt o4.1 i e).1; omega
        · have e2 : w4.heap.size + 1 = i := by injection e
          omega⟩
    have hC := hcb K rfl rfl rfl rfl (by show w.heap.size ≤ w4.heap.size; omega)
    refine (from_c (K := K) hC (show RTs wb A n ts from hr) (fun x hx => by
      obtain ⟨j, e, hj⟩ := doneTo_lt ts _ x hx
      exact ⟨j, e, by show j < n; omega, by omega⟩) hk hsm (by show k4 ≤ 6; omega) k4 W5 _ 0 [] 0 0 0 0 a hE (by show 0 + k4 = k4; omega) MaskOf.zero hL (hC.below a _ _ hI BW5)).mono ?_
    rintro e w' ⟨v', k', u', rfl, hE', _, hI', _⟩
    exact ⟨_, rfl, hE'.bw, hI'⟩
  have cF5 := kF.cell 0
  clear kA kO kF oO htr cH0
  go_wp2_with fail
  refine hfrom.mono ?_
  rintro e w6 ⟨bb, rfl, bq, iq⟩
  go_wp2_with fail
  go_end0
  exact ⟨rfl, bq, by first | exact iq | (rw [hl4]; exact iq)⟩
end Go.Proofs.YtcfkemchekmjbaaGreatDoor

namespace Go.Proofs.YtcfkemchekmjbaaGreatDoor
open Go.RowKit
set_option maxHeartbeats 1000000 in
theorem CloneO_c {u : Value} {n : Nat} {xs : List Int} {w : World} (hs : SI w u n xs) :
    Calls Tryz.prog 86 #[u] w fun e w' => ∃ v, e = .returned v ∧ OI w' w.heap.size v n xs ∧ Below w.heap.size w w' := by
  have ss := hs
  obtain ⟨A, c, rfl, hnc, hn, hr⟩ := hs
  have qT : ∀ (w : World) (a : Option Addr) (n c n' c' : Nat), (binOp .eql 24 (.slice a n c) (.slice none n' c')).run Tryz.prog w = .ok (.bool a.isNone) w := fun w a n c n' c' => Lib.run_eql_slice_nil w _ _ a n c n' c' Tryz.underlying24
  cases A with
  | none =>
    have h0 : n = 0 := by
      rcases Nat.eq_zero_or_pos n with h | h
      · exact h
      · obtain ⟨_, _, h2, _⟩ := hr.2 h; cases h2
    subst h0
    have hx : xs = [] := List.eq_nil_of_length_eq_zero hr.1
    subst hx
    go_enter Tryz.func86, Tryz.ntmps86
    go_wp2_with fail
    go_ret
    exact ⟨_, rfl, OI.nil, Below.refl _ _⟩
  | some a =>
    go_enter Tryz.func86, Tryz.ntmps86
    go_wp2_with (at_builtin; refine wpList_appI rfl _ _ rfl rfl (OI.empty w) rfl (ss.alloc _) (by omega) (by simp) ?_; intro v1 w1 ho hg hat)
    go_ret
    simp only [Nat.zero_add, List.nil_append] at ho
    exact ⟨_, rfl, ho, ((Below.refl _ _).alloc (Nat.le_refl _) _).grown hg (by simp) (fun k hk => by have h : some w.heap.size = some k := hk; injection h; omega)⟩
theorem run_clipL (A : Option Addr) (n c : Nat) (hnc : n ≤ c) (hA : ∀ a, A = some a → ∃ g, a = ⟨g, 0, none⟩) (w : World) :
    (Instr.slice 24 (.slice A n c) none (some (.int .i64 (n : Int))) (some (.int .i64 (n : Int)))).run Tryz.prog w = .ok (.slice A n n) w := by
  obtain ⟨i, hi, hz, hsz, hb⟩ := info_parts intInfo
  have h1 : (if n = 0 then A else A.map (·.add (0 * i.size))) = A := by
    split
    · rfl
    · cases A with
      | none => rfl
      | some a => obtain ⟨g, rfl⟩ := hA a rfl; rw [Nat.zero_mul]; simp [addr_add]
  simp [Instr.slice, Instr.sliceBounds, Instr.sliceBound, run_underlying Tryz.underlying24, sizeOf, typeInfo, hi, asIntOf, hnc]
  simpa using h1
theorem OI.clip {A : Option Addr} {n c B : Nat} {xs : List Int} {w : World} (hs : OI w B (.slice A n c) n xs) : SI w (.slice A n n) n xs := by
  obtain ⟨A', c', e, _, _, hr, _⟩ := hs.form
  injection e with e1 e2 e3; subst e1
  exact ⟨A, n, rfl, Nat.le_refl _, hs.2, hr⟩
set_option maxHeartbeats 1000000 in
theorem ClipO_c {A : Option Addr} {n c B : Nat} {xs : List Int} {w : World} (hs : OI w B (.slice A n c) n xs) :
    Calls Tryz.prog 87 #[.slice A n c] w fun e w' => e = .returned (.slice A n n) ∧ w = w' := by
  obtain ⟨A', c', e, hnc, hn, hr, h5, h6⟩ := hs.form
  injection e with e1 e2 e3; subst e1; subst e3
  have hcl := fun w => run_clipL A n c hnc (fun a ha => by obtain ⟨g, e, _⟩ := h6 a ha; exact ⟨g, e⟩) w
  clear hr hs h5 h6
  go_enter Tryz.func87, Tryz.ntmps87
  go_wp2_with fail
  go_ret
  exact ⟨rfl, rfl⟩
/-- What was found, in the boxes bF and bK. -/
def FI (lo bF bK : Nat) (a : Option (List Int)) (w : World) : Prop := ∃ v k, Blk w bF 24 #[v] ∧ Blk w bK 4 #[.bool a.isSome] ∧ OI w lo v k (a.getD []) ∧ (a = none → v = .slice none 0 0 ∧ k = 0)
theorem FI.below {lo bF bK : Nat} {a : Option (List Int)} {w w' : World} (h : FI lo bF bK a w) (hb : Below w.heap.size w w') : FI lo bF bK a w' := by
  obtain ⟨v, k, h1, h2, h3, h4⟩ := h
  exact ⟨v, k, h1.belowAll hb, h2.belowAll hb, h3.below hb, h4⟩
set_option maxRecDepth 100000 in
set_option maxHeartbeats 4000000 in
theorem firstSerial1_c {v : Value} {k lo bF bK : Nat} {xs : List Int} {a : Option (List Int)} {w : World} (hI : FI lo bF bK a w) (hne : bF ≠ bK) (h1 : bF < lo) (h2 : bK < lo) (hlo : lo ≤ w.heap.size) (hs : SI w v k xs) :
    Calls Tryz.prog 130 #[v, .pointer (some ⟨bF, 0, none⟩), .pointer (some ⟨bK, 0, none⟩)] w fun e w' => e = .returned (.bool false) ∧ FI lo bF bK (some xs) w' ∧ ∃ w2 v2, Below w.heap.size w w2 ∧ w' = (w2.setCell ⟨bF, 0, none⟩ v2).setCell ⟨bK, 0, none⟩ (.bool true) := by
  obtain ⟨vF, kF, g1, g2, g3, g4⟩ := hI
  go_enter Tryz.func130, Tryz.ntmps130
  go_wp2_with fail
  refine (CloneO_c hs).mono ?_
  rintro e w2 ⟨v2, rfl, s2, b2⟩
  have kF := g1.belowAll b2
  have kK := g2.belowAll b2
  have c1 := kF.cell 0
  have f1 := kF.frozen 0
  have c2 := kK.cell 0
  have f2 := kK.frozen 0
  have kF2 : Blk (w2.setCell ⟨bF, 0, none⟩ v2) bF 24 #[v2] := by simpa using kF.set_ 0 v2
  have kK2 := kK.far (p := ⟨bF, 0, none⟩) hne.symm v2
  have c3 := kK2.cell 0
  have f3 := kK2.frozen 0
  have kF3 := kF2.far (p := ⟨bK, 0, none⟩) hne (.bool true)
  have kK3 : Blk ((w2.setCell ⟨bF, 0, none⟩ v2).setCell ⟨bK, 0, none⟩ (.bool true)) bK 4 #[.bool true] := by simpa using kK2.set_ 0 (.bool true)
  have o3 := ((s2.mono hlo).set_low (p := ⟨bF, 0, none⟩) h1 v2).set_low (p := ⟨bK, 0, none⟩) h2 (.bool true)
  have KF := hide kF3; have KK := hide kK3; have O3 := hide o3; have B2 := hide b2
  obtain ⟨A2, d2, rfl⟩ := s2.shape
  clear kF kK kF2 kK2 kF3 kK3 o3 g1 g2 g3 g4 s2
  go_wp2_with fail
  go_ret
  exact ⟨rfl, ⟨_, k, KF.out, KK.out, O3.out, fun h => by cases h⟩, w2, _, B2.out, rfl⟩
theorem cb_fst (K : EsK) (lo bF bK : Nat) (hne : bF ≠ bK) (l1 : bF < lo) (l2 : bK < lo) (h1 : K.cN = 130) (h2 : K.caps = #[.pointer (some ⟨bF, 0, none⟩), .pointer (some ⟨bK, 0, none⟩)]) (h3 : K.cb = fun i => i = bF ∨ i = bK) (h4 : lo ≤ K.bA) : CbOK K goFst (FI lo bF bK) (fun a => a = none) := by
  refine ⟨fun a w v k used hk _ hE hI => ?_, fun args w => ?_, fun a used _ h => (by cases h), fun a w w' h hb => h.below hb, fun a w w' hL h hf _ => ?_⟩
  · rw [h1, h2]
    refine (firstSerial1_c hI hne l1 l2 (Nat.le_trans h4 (Nat.le_of_lt hE.hA.lt)) hE.oO.si).mono ?_
    rintro e w' ⟨rfl, hI', w2, v2, b2, rfl⟩
    have hk2 := hE.cb_kept (w' := (w2.setCell ⟨bF, 0, none⟩ v2).setCell ⟨bK, 0, none⟩ (.bool true)) (fun i hi hc => by
      rw [h3] at hc
      refine (Below.heap_setCell _ ⟨bK, 0, none⟩ _ i (fun e => hc (.inr e))).trans ((Below.heap_setCell _ ⟨bF, 0, none⟩ _ i (fun e => hc (.inl e))).trans (b2.block i hi))) b2.os b2.tape b2.output (by rw [size_setCell, size_setCell]; exact b2.size)
    exact ⟨rfl, hI', hk2.1, hk2.2⟩
  · rw [h1]; exact enters_of (P := Tryz.prog) Tryz.func130 (by kernel_rfl) rfl args w
  · subst hL
    obtain ⟨v, k, g1, g2, g3, g4⟩ := h
    obtain ⟨rfl, rfl⟩ := g4 rfl
    exact ⟨_, 0, (hf bF (by rw [h3]; exact .inl rfl)).trans g1, (hf bK (by rw [h3]; exact .inr rfl)).trans g2, OI.nil, fun _ => ⟨rfl, rfl⟩⟩
def FstR (w : World) (r : Option (List Int)) (e : Ending) (w' : World) : Prop := ∃ v k, e = .returned (.tuple #[v, .bool r.isSome]) ∧ SI w' v k (r.getD []) ∧ Below w.heap.size w w'
set_option maxRecDepth 100000 in
set_option maxHeartbeats 4000000 in
theorem firstSerial_c {w : World} {A : Option Addr} {n c : Nat} {ts : List Tx} (hr : RTs w A n ts) (h6 : ts.length ≤ 6) (hk : ∀ t ∈ ts, ∀ o ∈ t.2.1, (o.1 = 1 ∨ o.1 = 2) ∧ 0 ≤ o.2.1 ∧ o.2.1 ≤ 2) (hsm : SmallT ts) :
    Calls Tryz.prog 74 #[.slice A n c, .func (.func 75) #[] #[]] w (FstR w (srch goFst ts (doneL ts) (doneL ts).length [0, 0, 0] [] none).1) := by
  have hmf : ∀ (fn : Fn) (first cap : Array Value) (w : World), (Instr.makeFunc fn first cap).run Tryz.prog w = .ok (.func fn first cap) w := fun _ _ _ _ => rfl
  obtain ⟨W, hW⟩ : ∃ q, (w.alloc (.cells #[.slice none 0 0] 24)).alloc (.cells #[.bool false] 4) = q := ⟨_, rfl⟩
  have k1 : Blk W w.heap.size 24 #[.slice none 0 0] := by rw [← hW]; exact (Blk.new w _ _).alloc _
  have k2 : Blk W (w.heap.size + 1) 4 #[.bool false] := by
    rw [← hW]; have := Blk.new (w.alloc (.cells #[.slice none 0 0] 24)) 4 #[.bool false]
    rw [World.size_alloc] at this; exact this
  have bW : Below w.heap.size w W := by rw [← hW]; exact ((Below.refl _ _).alloc (Nat.le_refl _) _).alloc (by simp) _
  have hsz : W.heap.size = w.heap.size + 2 := by rw [← hW]; simp [World.size_alloc]
  have hI : FI (w.heap.size + 2) w.heap.size (w.heap.size + 1) none W := ⟨_, 0, k1, k2, OI.nil, fun _ => ⟨rfl, rfl⟩⟩
  have hcall := eachSerial_c (go := goFst) (I := FI (w.heap.size + 2) w.heap.size (w.heap.size + 1)) (Live := fun a => a = none) (wb := w) (w := W) (cN := 130) (caps := #[.pointer (some ⟨w.heap.size, 0, none⟩), .pointer (some ⟨w.heap.size + 1, 0, none⟩)]) (cb := fun i => i = w.heap.size ∨ i = w.heap.size + 1) (c := c) (a := none)
    bW hr h6 hk hsm (fun i hi => by omega) (fun K e1 e2 e3 e4 e5 => cb_fst K (w.heap.size + 2) w.heap.size (w.heap.size + 1) (by omega) (by omega) (by omega) e2 e3 e4 (by omega)) rfl hI
  have HC := hide hcall; have HW := hide hW
  clear hcall hI k1 k2 hW
  go_enter Tryz.func74, Tryz.ntmps74
  go_wp2_with fail
  rw [HW.out]
  refine HC.out.mono ?_
  rintro e w3 ⟨rfl, b3, i3⟩
  obtain ⟨v, k, g1, g2, g3, _⟩ := i3
  obtain ⟨Av, cv, rfl⟩ := g3.shape
  have c1 := g1.cell 0
  have c2 := g2.cell 0
  obtain ⟨r, hrr⟩ : ∃ r, (srch goFst ts (doneL ts) (doneL ts).length [0, 0, 0] [] none).1 = r := ⟨_, rfl⟩
  rw [hrr] at c2 g3
  have G3 := hide g3; have B3 := hide b3
  have hcl : ∀ W : World, W.heap = w3.heap → W.cell? ⟨w.heap.size, 0, none⟩ = some (.slice Av k cv) ∧ W.cell? ⟨w.heap.size + 1, 0, none⟩ = some (.bool r.isSome) := fun W h => ⟨(World.cell?_of_block (by rw [h])).trans c1, (World.cell?_of_block (by rw [h])).trans c2⟩
  have hoi : ∀ W : World, Below w3.heap.size w3 W → OI W (w.heap.size + 2) (.slice Av k cv) k (r.getD []) := fun W h => G3.out.below h
  have BZ : Below w3.heap.size w3 w3.drew := (Below.refl _ _).drew
  clear g1 g2 g3 b3
  go_wp2_with fail
  go_region_held3 (fun W => W.cell? ⟨w.heap.size, 0, none⟩ = some (.slice Av k cv) ∧ W.cell? ⟨w.heap.size + 1, 0, none⟩ = some (.bool r.isSome)) (first | exact hcl _ rfl) (first | (go_at_call 87; refine (ClipO_c (hoi _ BZ)).mono ?_; rintro e w7 ⟨rfl, rfl⟩))
  have HB4 := hide (below_step B3.out BZ); have HS4 := hide ((hoi _ BZ).clip)
  go_wp2_with fail
  refine bodyPost_ret (v := .tuple #[.slice Av k k, .bool r.isSome]) (by simp [results, Tryz.results74, go_sem]) rfl ?_
  rw [hrr]
  exact ⟨_, k, rfl, HS4.out, HB4.out⟩
/-- The first serial order. -/
def fstV (ts : List Tx) : Option (List Int) := if histB ts then (srch goFst ts (doneL ts) (doneL ts).length [0, 0, 0] [] none).1 else none
end Go.Proofs.YtcfkemchekmjbaaGreatDoor

namespace Go.Proofs.YtcfkemchekmjbaaGreatDoor
open Go.RowKit
/-- Transaction n writes the value to the key. -/
def IsW (ts : List Tx) (key val : Int) (n : Nat) : Prop := ∃ t, ts[n]? = some t ∧ (2, key, val) ∈ t.2.1
def writerN (ts : List Tx) (key val : Int) : Option Nat := ts.findIdx? (fun t => decide ((2, key, val) ∈ t.2.1))
def writerV (ts : List Tx) (key val : Int) : Int := match writerN ts key val with | some n => (n : Int) | none => -1
theorem writerN_some {ts : List Tx} {key val : Int} {n : Nat} (h : writerN ts key val = some n) : IsW ts key val n := by
  unfold writerN at h
  rw [List.findIdx?_eq_some_iff_getElem] at h
  obtain ⟨h1, h2, _⟩ := h
  exact ⟨ts[n], List.getElem?_eq_getElem h1, by simpa using h2⟩
theorem writerN_none {ts : List Tx} {key val : Int} (h : writerN ts key val = none) (n : Nat) : ¬ IsW ts key val n := by
  unfold writerN at h
  rw [List.findIdx?_eq_none_iff] at h
  rintro ⟨t, h1, h2⟩
  have := h t (List.mem_of_getElem? h1)
  simp [h2] at this
theorem mem_opsTo {ts : List Tx} {k j k' j' : Nat} {t : Tx} {o : T3} (ht : ts[k']? = some t) (ho : t.2.1[j']? = some o) (hb : k' < k ∨ (k' = k ∧ j' < j)) : o ∈ opsTo ts k j := by
  unfold opsTo
  rcases hb with h | ⟨rfl, h⟩
  · refine List.mem_append_left _ ?_
    unfold allOps
    rw [List.mem_flatMap]
    refine ⟨t, ?_, List.mem_of_getElem? ho⟩
    have h1 : (ts.take k)[k']? = some t := by rw [List.getElem?_take_of_lt h]; exact ht
    exact List.mem_of_getElem? h1
  · refine List.mem_append_right _ ?_
    have e : ts.getD k' (0, [], false) = t := by simp [List.getD, ht]
    rw [e]
    have h1 : (t.2.1.take j)[j']? = some o := by rw [List.getElem?_take_of_lt h]; exact ho
    exact List.mem_of_getElem? h1
theorem mem_wl {os : List T3} {o : T3} (h : o ∈ os) (hw : o.1 = 2) : (o.2.1, o.2.2) ∈ wl os := by
  unfold wl
  rw [List.mem_filterMap]
  exact ⟨o, h, by simp [wOf, hw]⟩
theorem of_mem_wl {os : List T3} {q : Int × Int} (h : q ∈ wl os) : (2, q.1, q.2) ∈ os := by
  unfold wl at h
  rw [List.mem_filterMap] at h
  obtain ⟨o, h1, h2⟩ := h
  unfold wOf at h2
  split at h2
  · rename_i he
    injection h2 with h2
    subst h2
    obtain ⟨a, b, c⟩ := o
    dsimp only at he; subst he
    exact h1
  · cases h2
/-- Nothing is written at two places. -/
theorem place_one {ts : List Tx} (hn : (wl (allOps ts)).Nodup) {k j k' j' : Nat} {t t' : Tx} {o : T3} (ht : ts[k]? = some t) (ho : t.2.1[j]? = some o) (ht' : ts[k']? = some t') (ho' : t'.2.1[j']? = some o) (hw : o.1 = 2) : k = k' ∧ j = j' := by
  by_cases h : k = k' ∧ j = j'
  · exact h
  · exfalso
    rcases (show (k < k' ∨ (k = k' ∧ j < j')) ∨ (k' < k ∨ (k' = k ∧ j' < j)) by omega) with h1 | h1
    · exact histB_twice ht' ho' hw (mem_wl (mem_opsTo ht ho h1) hw) hn
    · exact histB_twice ht ho hw (mem_wl (mem_opsTo ht' ho' h1) hw) hn
theorem IsW.one {ts : List Tx} (hn : (wl (allOps ts)).Nodup) {key val : Int} {n m : Nat} (h : IsW ts key val n) (h' : IsW ts key val m) : n = m := by
  obtain ⟨t, ht, hm⟩ := h
  obtain ⟨t', ht', hm'⟩ := h'
  obtain ⟨j, hj⟩ := List.getElem?_of_mem hm
  obtain ⟨j', hj'⟩ := List.getElem?_of_mem hm'
  exact (place_one hn ht hj ht' hj' rfl).1
theorem writerN_is {ts : List Tx} (hn : (wl (allOps ts)).Nodup) {key val : Int} {n : Nat} (h : IsW ts key val n) : writerN ts key val = some n := by
  cases e : writerN ts key val with
  | none => exact absurd h (writerN_none e n)
  | some m => rw [(writerN_some e).one hn h]
theorem writerV_is {ts : List Tx} (hn : (wl (allOps ts)).Nodup) {key val : Int} {n : Nat} (h : IsW ts key val n) : writerV ts key val = n := by
  unfold writerV; rw [writerN_is hn h]
theorem writerV_no {ts : List Tx} {key val : Int} (h : (key, val) ∉ wl (allOps ts)) : writerV ts key val = -1 := by
  unfold writerV
  cases e : writerN ts key val with
  | none => rfl
  | some m =>
    obtain ⟨t, ht, hm⟩ := writerN_some e
    exfalso; apply h
    refine mem_wl (o := (2, key, val)) ?_ rfl
    unfold allOps
    rw [List.mem_flatMap]
    exact ⟨t, List.mem_of_getElem? ht, hm⟩
theorem mem_allOps {ts : List Tx} {o : T3} (h : o ∈ allOps ts) : ∃ (n : Nat) (t : Tx), ts[n]? = some t ∧ o ∈ t.2.1 := by
  unfold allOps at h
  rw [List.mem_flatMap] at h
  obtain ⟨t, h1, h2⟩ := h
  obtain ⟨n, hn⟩ := List.getElem?_of_mem h1
  exact ⟨n, t, hn, h2⟩
theorem writerV_lt (ts : List Tx) (key val : Int) : -1 ≤ writerV ts key val ∧ writerV ts key val < ts.length := by
  unfold writerV
  cases e : writerN ts key val with
  | none => exact ⟨Int.le_refl _, by have : (0 : Int) ≤ ts.length := Int.natCast_nonneg _; dsimp only; omega⟩
  | some n =>
    obtain ⟨t, ht, _⟩ := writerN_some e
    have := (List.getElem?_eq_some_iff.1 ht).1
    exact ⟨by dsimp only; omega, by dsimp only; omega⟩
def txAt (ts : List Tx) (n : Nat) : Tx := ts.getD n (0, [], false)
theorem txAt_get {ts : List Tx} {n : Nat} {t : Tx} (h : ts[n]? = some t) : txAt ts n = t := by simp [txAt, List.getD, h]
/-- The value is the last one that its writer writes to the key. -/
def lastB (ts : List Tx) (key val : Int) : Bool := match writerN ts key val with | some n => decide (lastK (txAt ts n).2.1 key = some (2, key, val)) | none => false
/-- Of a read of transaction who: how it is bad (1, 2, 3), or 0. -/
def badK (ts : List Tx) (who : Nat) (o : T3) : Int :=
  if o.1 ≠ 1 ∨ o.2.2 = 0 ∨ writerV ts o.2.1 o.2.2 = (who : Int) then 0
  else match writerN ts o.2.1 o.2.2 with
    | none => 1
    | some n => if (txAt ts n).2.2 then (if lastB ts o.2.1 o.2.2 then 0 else 3) else 2
/-- The j-th operation of ys reads something else than what was last read or written there. -/
def ownBad (ys : List T3) (j : Nat) (o : T3) : Bool := decide (o.1 = 1) && (match lastO (ys.take j) o.2.1 with | some p => decide (p.2.2 ≠ o.2.2) | none => false)
/-- How many of the first j operations are bad (of kind k). -/
def badTo (ts : List Tx) (kind : Int) (who : Nat) (ys : List T3) : Nat → Nat
  | 0 => 0
  | j + 1 => badTo ts kind who ys j + (match ys[j]? with | some o => if (if kind = 4 then ownBad ys j o else decide (badK ts who o = kind)) then 1 else 0 | none => 0)
theorem badTo_yes {ts : List Tx} {kind : Int} {who : Nat} {ys : List T3} {j : Nat} {o : T3} (h : ys[j]? = some o) (hb : (if kind = 4 then ownBad ys j o else decide (badK ts who o = kind)) = true) : badTo ts kind who ys (j + 1) = badTo ts kind who ys j + 1 := by
  show badTo ts kind who ys j + _ = _
  rw [h]; simp only []; rw [if_pos hb]
theorem badTo_no {ts : List Tx} {kind : Int} {who : Nat} {ys : List T3} {j : Nat} {o : T3} (h : ys[j]? = some o) (hb : (if kind = 4 then ownBad ys j o else decide (badK ts who o = kind)) = false) : badTo ts kind who ys (j + 1) = badTo ts kind who ys j := by
  show badTo ts kind who ys j + _ = _
  rw [h]; simp only []; rw [if_neg (by rw [hb]; simp)]; rfl
theorem badTo_le (ts : List Tx) (kind : Int) (who : Nat) (ys : List T3) : ∀ j, badTo ts kind who ys j ≤ j := by
  intro j
  induction j with
  | zero => exact Nat.le_refl _
  | succ j ih =>
    cases h : ys[j]? with
    | none =>
      have e : badTo ts kind who ys (j + 1) = badTo ts kind who ys j := by
        show badTo ts kind who ys j + _ = _
        rw [h]; rfl
      omega
    | some o =>
      cases hb : (if kind = 4 then ownBad ys j o else decide (badK ts who o = kind))
      · rw [badTo_no h hb]; omega
      · rw [badTo_yes h hb]; omega
/-- All bad ones of transactions ahead of k. -/
def badAt (ts : List Tx) (kind : Int) : Nat → Nat
  | 0 => 0
  | k + 1 => badAt ts kind k + (if (txAt ts k).2.2 then badTo ts kind k (txAt ts k).2.1 (txAt ts k).2.1.length else 0)
def badN (ts : List Tx) (kind : Int) : Nat := if histB ts ∧ 1 ≤ kind ∧ kind ≤ 4 then badAt ts kind ts.length else 0
theorem badAt_done {ts : List Tx} {kind : Int} {k : Nat} {t : Tx} (h : ts[k]? = some t) (hd : t.2.2 = true) : badAt ts kind (k + 1) = badAt ts kind k + badTo ts kind k t.2.1 t.2.1.length := by
  show badAt ts kind k + _ = _
  rw [txAt_get h, if_pos hd]
theorem badAt_not {ts : List Tx} {kind : Int} {k : Nat} {t : Tx} (h : ts[k]? = some t) (hd : t.2.2 = false) : badAt ts kind (k + 1) = badAt ts kind k := by
  show badAt ts kind k + _ = _
  rw [txAt_get h, if_neg (by rw [hd]; simp)]; rfl
theorem badAt_le {ts : List Tx} {kind : Int} (hv : ∀ t ∈ ts, txnB t = true) : ∀ k, k ≤ ts.length → badAt ts kind k ≤ 6 * k := by
  intro k
  induction k with
  | zero => intro _; exact Nat.le_refl _
  | succ k ih =>
    intro hk
    obtain ⟨t, ht⟩ : ∃ t, ts[k]? = some t := ⟨_, List.getElem?_eq_getElem (by omega)⟩
    have h6 : t.2.1.length ≤ 6 := txnB_lenH (hv _ (List.mem_of_getElem? ht))
    have h7 := badTo_le ts kind k t.2.1 t.2.1.length
    have := ih (by omega)
    cases hd : t.2.2
    · rw [badAt_not ht hd]; omega
    · rw [badAt_done ht hd]; omega
/-- A read ahead of a write of the same. -/
def earlyB (ys : List T3) : Bool := (List.range ys.length).any fun i => match ys[i]? with | some o => decide (o.1 = 1) && (ys.drop (i + 1)).any (fun p => decide (p = (2, o.2.1, o.2.2))) | none => false
/-- All reads are right. -/
def rightB (ts : List Tx) : Bool := histB ts && (decide (badN ts 1 = 0) && (decide (badN ts 2 = 0) && (decide (badN ts 3 = 0) && (decide (badN ts 4 = 0) && ts.all (fun t => !(t.2.2 && earlyB t.2.1))))))
/-- Reads of keys that were not touched before. -/
def firstTo (ys : List T3) : Nat → List T3
  | 0 => []
  | j + 1 => firstTo ys j ++ (match ys[j]? with | some o => if o.1 = 1 ∧ lastO (ys.take j) o.2.1 = none then [o] else [] | none => [])
def firstR (ys : List T3) : List T3 := firstTo ys ys.length
theorem firstTo_yes {ys : List T3} {j : Nat} {o : T3} (h : ys[j]? = some o) (h1 : o.1 = 1) (h2 : lastO (ys.take j) o.2.1 = none) : firstTo ys (j + 1) = firstTo ys j ++ [o] := by
  show firstTo ys j ++ _ = _
  rw [h]; simp only []; rw [if_pos ⟨h1, h2⟩]
theorem firstTo_no {ys : List T3} {j : Nat} {o : T3} (h : ys[j]? = some o) (h1 : ¬ (o.1 = 1 ∧ lastO (ys.take j) o.2.1 = none)) : firstTo ys (j + 1) = firstTo ys j := by
  show firstTo ys j ++ _ = _
  rw [h]; simp only []; rw [if_neg h1, List.append_nil]
theorem firstTo_len (ys : List T3) : ∀ j, (firstTo ys j).length ≤ j := by
  intro j
  induction j with
  | zero => exact Nat.le_refl _
  | succ j ih =>
    show (firstTo ys j ++ _).length ≤ _
    rw [List.length_append]
    cases ys[j]? with
    | none => simp; omega
    | some o => simp only []; split <;> simp <;> omega
theorem firstTo_mem {ys : List T3} {o : T3} : ∀ j, o ∈ firstTo ys j → ∃ i, i < j ∧ ys[i]? = some o ∧ o.1 = 1 ∧ lastO (ys.take i) o.2.1 = none := by
  intro j
  induction j with
  | zero => intro h; simp [firstTo] at h
  | succ j ih =>
    intro h
    have h' : o ∈ firstTo ys j ++ (match ys[j]? with | some o => if o.1 = 1 ∧ lastO (ys.take j) o.2.1 = none then [o] else [] | none => []) := h
    rcases List.mem_append.1 h' with h1 | h1
    · obtain ⟨i, a, b⟩ := ih h1; exact ⟨i, by omega, b⟩
    · cases e : ys[j]? with
      | none => rw [e] at h1; simp at h1
      | some p =>
        rw [e] at h1
        simp only [] at h1
        split at h1
        · rename_i hc
          simp at h1; subst h1
          exact ⟨j, by omega, e, hc⟩
        · simp at h1
theorem mem_firstTo {ys : List T3} {o : T3} {i j : Nat} (hij : i < j) (h : ys[i]? = some o) (h1 : o.1 = 1) (h2 : lastO (ys.take i) o.2.1 = none) : o ∈ firstTo ys j := by
  induction j with
  | zero => omega
  | succ j ih =>
    by_cases e : i = j
    · subst e; rw [firstTo_yes h h1 h2]; simp
    · have := ih (by omega)
      show o ∈ firstTo ys j ++ _
      exact List.mem_append_left _ this
theorem mem_firstR {ys : List T3} {o : T3} : o ∈ firstR ys ↔ ∃ i, ys[i]? = some o ∧ o.1 = 1 ∧ lastO (ys.take i) o.2.1 = none := by
  constructor
  · intro h; obtain ⟨i, _, h⟩ := firstTo_mem _ h; exact ⟨i, h⟩
  · rintro ⟨i, h, h1, h2⟩; exact mem_firstTo (List.getElem?_eq_some_iff.1 h).1 h h1 h2
/-- What is installed for a key, of the first k transactions. -/
def instTo (ts : List Tx) (key : Int) : Nat → List Int
  | 0 => []
  | k + 1 => instTo ts key k ++ (if (txAt ts k).2.2 then ((lastK (txAt ts k).2.1 key).toList).map (·.2.2) else [])
def inst (ts : List Tx) (key : Int) : List Int := instTo ts key ts.length
theorem instTo_not {ts : List Tx} {key : Int} {k : Nat} {t : Tx} (h : ts[k]? = some t) (hd : t.2.2 = false) : instTo ts key (k + 1) = instTo ts key k := by
  show instTo ts key k ++ _ = _
  rw [txAt_get h, if_neg (by rw [hd]; simp), List.append_nil]
theorem instTo_done {ts : List Tx} {key : Int} {k : Nat} {t : Tx} (h : ts[k]? = some t) (hd : t.2.2 = true) : instTo ts key (k + 1) = instTo ts key k ++ ((lastK t.2.1 key).toList).map (·.2.2) := by
  show instTo ts key k ++ _ = _
  rw [txAt_get h, if_pos hd]
theorem instTo_len (ts : List Tx) (key : Int) : ∀ k, (instTo ts key k).length ≤ k := by
  intro k
  induction k with
  | zero => exact Nat.le_refl _
  | succ k ih =>
    show (instTo ts key k ++ _).length ≤ _
    rw [List.length_append]
    split
    · cases lastK (txAt ts k).2.1 key <;> simp <;> omega
    · simp; omega
theorem mem_instTo {ts : List Tx} {key v : Int} : ∀ k, v ∈ instTo ts key k ↔ ∃ (n : Nat) (t : Tx), n < k ∧ ts[n]? = some t ∧ t.2.2 = true ∧ ∃ o, lastK t.2.1 key = some o ∧ o.2.2 = v := by
  intro k
  induction k with
  | zero => simp [instTo]
  | succ k ih =>
    have hs : instTo ts key (k + 1) = instTo ts key k ++ (if (txAt ts k).2.2 then ((lastK (txAt ts k).2.1 key).toList).map (·.2.2) else []) := rfl
    rw [hs, List.mem_append, ih]
    constructor
    · rintro (⟨n, t, h1, h2⟩ | h)
      · exact ⟨n, t, by omega, h2⟩
      · cases hk : ts[k]? with
        | none =>
          have : txAt ts k = (0, [], false) := by simp [txAt, List.getD, hk]
          rw [this] at h; simp at h
        | some t =>
          rw [txAt_get hk] at h
          split at h
          · rename_i hd
            cases hl : lastK t.2.1 key with
            | none => rw [hl] at h; simp at h
            | some o => rw [hl] at h; simp at h; exact ⟨k, t, by omega, hk, hd, o, hl, h.symm⟩
          · simp at h
    · rintro ⟨n, t, h1, h2, hd, o, hl, rfl⟩
      by_cases e : n = k
      · subst e
        right; rw [txAt_get h2, if_pos hd, hl]; simp
      · left; exact ⟨n, t, by omega, h2, hd, o, hl, rfl⟩
theorem lastK_w {ys : List T3} {key : Int} {o : T3} (h : lastK ys key = some o) : o = (2, key, o.2.2) := by
  obtain ⟨_, h1, h2⟩ := lastK_some h
  obtain ⟨a, b, c⟩ := o
  dsimp only at h1 h2
  subst h1; subst h2; rfl
theorem mem_inst {ts : List Tx} {key v : Int} : v ∈ inst ts key ↔ ∃ (n : Nat) (t : Tx), ts[n]? = some t ∧ t.2.2 = true ∧ lastK t.2.1 key = some (2, key, v) := by
  unfold inst
  rw [mem_instTo]
  constructor
  · rintro ⟨n, t, _, h2, hd, o, hl, rfl⟩
    exact ⟨n, t, h2, hd, by rw [← lastK_w hl]; exact hl⟩
  · rintro ⟨n, t, h2, hd, hl⟩
    exact ⟨n, t, (List.getElem?_eq_some_iff.1 h2).1, h2, hd, _, hl, rfl⟩
theorem instTo_nodup {ts : List Tx} (hn : (wl (allOps ts)).Nodup) (key : Int) : ∀ k, k ≤ ts.length → (instTo ts key k).Nodup := by
  intro k
  induction k with
  | zero => intro _; simp [instTo]
  | succ k ih =>
    intro hk
    have ht : ts[k]? = some (ts[k]'(by omega)) := List.getElem?_eq_getElem _
    cases hd : (ts[k]'(by omega)).2.2
    · rw [instTo_not ht hd]; exact ih (by omega)
    · rw [instTo_done ht hd]
      cases hl : lastK (ts[k]'(by omega)).2.1 key with
      | none => simp only [Option.toList_none, List.map_nil, List.append_nil]; exact ih (by omega)
      | some o =>
        refine nodup_snoc (ih (by omega)) (fun hm => ?_)
        obtain ⟨n, t, h1, h2, _, p, hp, hv⟩ := (mem_instTo k).1 hm
        have e1 := lastK_w hl
        have e2 := lastK_w hp
        rw [hv, ← e1] at e2
        have a1 := (lastK_some hl).1
        have a2 := (lastK_some hp).1
        rw [e2] at a2
        obtain ⟨_, b1⟩ := List.getElem?_eq_some_iff.1 ht
        have w1 : IsW ts key o.2.2 k := ⟨_, ht, by rw [← e1]; exact a1⟩
        have w2 : IsW ts key o.2.2 n := ⟨_, h2, by rw [← e1]; exact a2⟩
        have := w1.one hn w2
        omega
theorem inst_nodup {ts : List Tx} (hn : (wl (allOps ts)).Nodup) (key : Int) : (inst ts key).Nodup := instTo_nodup hn key _ (Nat.le_refl _)
/-- There is an order for every key. -/
def ordersB (ts : List Tx) (os : List (List Int)) : Bool := histB ts && decide (os.length = 3 ∧ (os.getD 0 []).Perm (inst ts 0) ∧ (os.getD 1 []).Perm (inst ts 1) ∧ (os.getD 2 []).Perm (inst ts 2))
theorem ordersB_parts {ts : List Tx} {os : List (List Int)} (h : ordersB ts os = true) : histB ts = true ∧ os.length = 3 ∧ ∀ key : Nat, key < 3 → (os.getD key []).Perm (inst ts key) := by
  unfold ordersB at h
  simp only [Bool.and_eq_true, decide_eq_true_eq] at h
  obtain ⟨h1, h2, h3, h4, h5⟩ := h
  refine ⟨h1, h2, fun key hk => ?_⟩
  match key, hk with
  | 0, _ => exact h3
  | 1, _ => exact h4
  | 2, _ => exact h5
theorem ordersB_mk {ts : List Tx} {os : List (List Int)} (h1 : histB ts = true) (h2 : os.length = 3) (h3 : ∀ key : Nat, key < 3 → (os.getD key []).Perm (inst ts key)) : ordersB ts os = true := by
  unfold ordersB
  simp only [Bool.and_eq_true, decide_eq_true_eq]
  exact ⟨h1, h2, h3 0 (by omega), h3 1 (by omega), h3 2 (by omega)⟩
theorem ordersB_no {ts : List Tx} {os : List (List Int)} {key : Nat} (hk : key < 3) (h : ¬ (os.getD key []).Perm (inst ts key)) : ordersB ts os = false := by
  cases e : ordersB ts os with
  | false => rfl
  | true => exact absurd ((ordersB_parts e).2.2 key hk) h
end Go.Proofs.YtcfkemchekmjbaaGreatDoor
