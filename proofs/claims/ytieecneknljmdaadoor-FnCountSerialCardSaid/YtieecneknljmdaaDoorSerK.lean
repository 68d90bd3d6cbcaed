/- slices.Clone and Clip on []int; the first serial order. -/
import Derived.Test.YtieecneknljmdaaDoorSerC
import Derived.Shelf.Abstract
import Derived.BigQuiet
import Derived.Deep.RegionHeld3
namespace Go.Proofs.YtieecneknljmdaaDoor
open Go.RowKit

set_option maxHeartbeats 1000000 in
theorem CloneO_c {u : Value} {n : Nat} {xs : List Int} {w : World} (hs : SI w u n xs) :
    Calls Tryd.prog 56 #[u] w fun e w' => ∃ v, e = .returned v ∧ OI w' w.heap.size v n xs ∧ Below w.heap.size w w' := by
  have ss := hs
  obtain ⟨A, c, rfl, hnc, hn, hr⟩ := hs
  have qT : ∀ (w : World) (a : Option Addr) (n c n' c' : Nat), (binOp .eql 27 (.slice a n c) (.slice none n' c')).run Tryd.prog w = .ok (.bool a.isNone) w := fun w a n c n' c' => Lib.run_eql_slice_nil w _ _ a n c n' c' Tryd.underlying27
  cases A with
  | none =>
    have h0 : n = 0 := by
      rcases Nat.eq_zero_or_pos n with h | h
      · exact h
      · obtain ⟨_, _, h2, _⟩ := hr.2 h; cases h2
    subst h0
    have hx : xs = [] := List.eq_nil_of_length_eq_zero hr.1
    subst hx
    go_enter Tryd.func56, Tryd.ntmps56
    go_wp2_with fail
    go_ret
    exact ⟨_, rfl, OI.nil, Below.refl _ _⟩
  | some a =>
    go_enter Tryd.func56, Tryd.ntmps56
    go_wp2_with (at_builtin; refine wpList_appI rfl _ _ rfl rfl (OI.empty w) rfl (ss.alloc _) (by omega) (by simp) ?_; intro v1 w1 ho hg hat)
    go_ret
    simp only [Nat.zero_add, List.nil_append] at ho
    exact ⟨_, rfl, ho, ((Below.refl _ _).alloc (Nat.le_refl _) _).grown hg (by simp) (fun k hk => by have h : some w.heap.size = some k := hk; injection h; omega)⟩
theorem run_clipL (A : Option Addr) (n c : Nat) (hnc : n ≤ c) (hA : ∀ a, A = some a → ∃ g, a = ⟨g, 0, none⟩) (w : World) :
    (Instr.slice 27 (.slice A n c) none (some (.int .i64 (n : Int))) (some (.int .i64 (n : Int)))).run Tryd.prog w = .ok (.slice A n n) w := by
  obtain ⟨i, hi, hz, hsz, hb⟩ := info_parts intInfo
  have h1 : (if n = 0 then A else A.map (·.add (0 * i.size))) = A := by
    split
    · rfl
    · cases A with
      | none => rfl
      | some a => obtain ⟨g, rfl⟩ := hA a rfl; rw [Nat.zero_mul]; simp [addr_add]
  simp [Instr.slice, Instr.sliceBounds, Instr.sliceBound, run_underlying Tryd.underlying27, sizeOf, typeInfo, hi, asIntOf, hnc]
  simpa using h1
theorem OI.clip {A : Option Addr} {n c B : Nat} {xs : List Int} {w : World} (hs : OI w B (.slice A n c) n xs) : SI w (.slice A n n) n xs := by
  obtain ⟨A', c', e, _, _, hr, _⟩ := hs.form
  injection e with e1 e2 e3; subst e1
  exact ⟨A, n, rfl, Nat.le_refl _, hs.2, hr⟩
set_option maxHeartbeats 1000000 in
theorem ClipO_c {A : Option Addr} {n c B : Nat} {xs : List Int} {w : World} (hs : OI w B (.slice A n c) n xs) :
    Calls Tryd.prog 57 #[.slice A n c] w fun e w' => e = .returned (.slice A n n) ∧ w = w' := by
  obtain ⟨A', c', e, hnc, hn, hr, h5, h6⟩ := hs.form
  injection e with e1 e2 e3; subst e1; subst e3
  have hcl := fun w => run_clipL A n c hnc (fun a ha => by obtain ⟨g, e, _⟩ := h6 a ha; exact ⟨g, e⟩) w
  clear hr hs h5 h6
  go_enter Tryd.func57, Tryd.ntmps57
  go_wp2_with fail
  go_ret
  exact ⟨rfl, rfl⟩

/-- What was found, in the boxes bF and bK. -/
def FI (lo bF bK : Nat) (a : Option (List Int)) (w : World) : Prop := ∃ v k, Blk w bF 27 #[v] ∧ Blk w bK 4 #[.bool a.isSome] ∧ OI w lo v k (a.getD []) ∧ (a = none → v = .slice none 0 0 ∧ k = 0)
theorem FI.below {lo bF bK : Nat} {a : Option (List Int)} {w w' : World} (h : FI lo bF bK a w) (hb : Below w.heap.size w w') : FI lo bF bK a w' := by
  obtain ⟨v, k, h1, h2, h3, h4⟩ := h
  exact ⟨v, k, h1.belowAll hb, h2.belowAll hb, h3.below hb, h4⟩
set_option maxRecDepth 100000 in
set_option maxHeartbeats 4000000 in
theorem firstSerial1_c {v : Value} {k lo bF bK : Nat} {xs : List Int} {a : Option (List Int)} {w : World} (hI : FI lo bF bK a w) (hne : bF ≠ bK) (h1 : bF < lo) (h2 : bK < lo) (hlo : lo ≤ w.heap.size) (hs : SI w v k xs) :
    Calls Tryd.prog 55 #[v, .pointer (some ⟨bF, 0, none⟩), .pointer (some ⟨bK, 0, none⟩)] w fun e w' => e = .returned (.bool false) ∧ FI lo bF bK (some xs) w' ∧ ∃ w2 v2, Below w.heap.size w w2 ∧ w' = (w2.setCell ⟨bF, 0, none⟩ v2).setCell ⟨bK, 0, none⟩ (.bool true) := by
  obtain ⟨vF, kF, g1, g2, g3, g4⟩ := hI
  go_enter Tryd.func55, Tryd.ntmps55
  go_wp2_with fail
  refine (CloneO_c hs).mono ?_
  rintro e w2 ⟨v2, rfl, s2, b2⟩
  have kF := g1.belowAll b2
  have kK := g2.belowAll b2
  have c1 := kF.cell 0
  have f1 := kF.frozen 0
  have c2 := kK.cell 0
  have f2 := kK.frozen 0
  have kF2 : Blk (w2.setCell ⟨bF, 0, none⟩ v2) bF 27 #[v2] := by simpa using kF.set_ 0 v2
  have kK2 := kK.far (p := ⟨bF, 0, none⟩) hne.symm v2
  have c3 := kK2.cell 0
  have f3 := kK2.frozen 0
  have kF3 := kF2.far (p := ⟨bK, 0, none⟩) hne (.bool true)
  have kK3 : Blk ((w2.setCell ⟨bF, 0, none⟩ v2).setCell ⟨bK, 0, none⟩ (.bool true)) bK 4 #[.bool true] := by simpa using kK2.set_ 0 (.bool true)
  have o3 := ((s2.mono hlo).set_low (p := ⟨bF, 0, none⟩) h1 v2).set_low (p := ⟨bK, 0, none⟩) h2 (.bool true)
  have KF := hide kF3; have KK := hide kK3; have O3 := hide o3; have B2 := hide b2
  obtain ⟨A2, d2, rfl⟩ := s2.shape
  clear kF kK kF2 kK2 kF3 kK3 o3 g1 g2 g3 g4 s2
  go_wp2_with fail
  go_ret
  exact ⟨rfl, ⟨_, k, KF.out, KK.out, O3.out, fun h => by cases h⟩, w2, _, B2.out, rfl⟩
theorem cb_fst (K : EsK) (lo bF bK : Nat) (hne : bF ≠ bK) (l1 : bF < lo) (l2 : bK < lo) (h1 : K.cN = 55) (h2 : K.caps = #[.pointer (some ⟨bF, 0, none⟩), .pointer (some ⟨bK, 0, none⟩)]) (h3 : K.cb = fun i => i = bF ∨ i = bK) (h4 : lo ≤ K.bA) : CbOK K goFst (FI lo bF bK) (fun a => a = none) := by
  refine ⟨fun a w v k used hk _ hE hI => ?_, fun args w => ?_, fun a used _ h => (by cases h), fun a w w' h hb => h.below hb, fun a w w' hL h hf _ => ?_⟩
  · rw [h1, h2]
    refine (firstSerial1_c hI hne l1 l2 (Nat.le_trans h4 (Nat.le_of_lt hE.hA.lt)) hE.oO.si).mono ?_
    rintro e w' ⟨rfl, hI', w2, v2, b2, rfl⟩
    have hk2 := hE.cb_kept (w' := (w2.setCell ⟨bF, 0, none⟩ v2).setCell ⟨bK, 0, none⟩ (.bool true)) (fun i hi hc => by
      rw [h3] at hc
      refine (Below.heap_setCell _ ⟨bK, 0, none⟩ _ i (fun e => hc (.inr e))).trans ((Below.heap_setCell _ ⟨bF, 0, none⟩ _ i (fun e => hc (.inl e))).trans (b2.block i hi))) b2.os b2.tape b2.output (by rw [size_setCell, size_setCell]; exact b2.size)
    exact ⟨rfl, hI', hk2.1, hk2.2⟩
  · rw [h1]; exact enters_of (P := Tryd.prog) Tryd.func55 (by kernel_rfl) rfl args w
  · subst hL
    obtain ⟨v, k, g1, g2, g3, g4⟩ := h
    obtain ⟨rfl, rfl⟩ := g4 rfl
    exact ⟨_, 0, (hf bF (by rw [h3]; exact .inl rfl)).trans g1, (hf bK (by rw [h3]; exact .inr rfl)).trans g2, OI.nil, fun _ => ⟨rfl, rfl⟩⟩
def FstR (w : World) (r : Option (List Int)) (e : Ending) (w' : World) : Prop := ∃ v k, e = .returned (.tuple #[v, .bool r.isSome]) ∧ SI w' v k (r.getD []) ∧ Below w.heap.size w w'
set_option maxRecDepth 100000 in
set_option maxHeartbeats 4000000 in
theorem firstSerial_c {w : World} {A : Option Addr} {n c : Nat} {ts : List Tx} (hr : RTs w A n ts) (h6 : ts.length ≤ 6) (hk : ∀ t ∈ ts, ∀ o ∈ t.2.1, (o.1 = 1 ∨ o.1 = 2) ∧ 0 ≤ o.2.1 ∧ o.2.1 ≤ 2) (hsm : SmallT ts) :
    Calls Tryd.prog 29 #[.slice A n c, .func (.func 22) #[] #[]] w (FstR w (srch goFst ts (doneL ts) (doneL ts).length [0, 0, 0] [] none).1) := by
  have hmf : ∀ (fn : Fn) (first cap : Array Value) (w : World), (Instr.makeFunc fn first cap).run Tryd.prog w = .ok (.func fn first cap) w := fun _ _ _ _ => rfl
  obtain ⟨W, hW⟩ : ∃ q, (w.alloc (.cells #[.slice none 0 0] 27)).alloc (.cells #[.bool false] 4) = q := ⟨_, rfl⟩
  have k1 : Blk W w.heap.size 27 #[.slice none 0 0] := by rw [← hW]; exact (Blk.new w _ _).alloc _
  have k2 : Blk W (w.heap.size + 1) 4 #[.bool false] := by
    rw [← hW]; have := Blk.new (w.alloc (.cells #[.slice none 0 0] 27)) 4 #[.bool false]
    rw [World.size_alloc] at this; exact this
  have bW : Below w.heap.size w W := by rw [← hW]; exact ((Below.refl _ _).alloc (Nat.le_refl _) _).alloc (by simp) _
  have hsz : W.heap.size = w.heap.size + 2 := by rw [← hW]; simp [World.size_alloc]
  have hI : FI (w.heap.size + 2) w.heap.size (w.heap.size + 1) none W := ⟨_, 0, k1, k2, OI.nil, fun _ => ⟨rfl, rfl⟩⟩
  have hcall := eachSerial_c (go := goFst) (I := FI (w.heap.size + 2) w.heap.size (w.heap.size + 1)) (Live := fun a => a = none) (wb := w) (w := W) (cN := 55) (caps := #[.pointer (some ⟨w.heap.size, 0, none⟩), .pointer (some ⟨w.heap.size + 1, 0, none⟩)]) (cb := fun i => i = w.heap.size ∨ i = w.heap.size + 1) (c := c) (a := none)
    bW hr h6 hk hsm (fun i hi => by omega) (fun K e1 e2 e3 e4 e5 => cb_fst K (w.heap.size + 2) w.heap.size (w.heap.size + 1) (by omega) (by omega) (by omega) e2 e3 e4 (by omega)) rfl hI
  have HC := hide hcall; have HW := hide hW
  clear hcall hI k1 k2 hW
  go_enter Tryd.func29, Tryd.ntmps29
  go_wp2_with fail
  rw [HW.out]
  refine HC.out.mono ?_
  rintro e w3 ⟨rfl, b3, i3⟩
  obtain ⟨v, k, g1, g2, g3, _⟩ := i3
  obtain ⟨Av, cv, rfl⟩ := g3.shape
  have c1 := g1.cell 0
  have c2 := g2.cell 0
  obtain ⟨r, hrr⟩ : ∃ r, (srch goFst ts (doneL ts) (doneL ts).length [0, 0, 0] [] none).1 = r := ⟨_, rfl⟩
  rw [hrr] at c2 g3
  have G3 := hide g3; have B3 := hide b3
  have hcl : ∀ W : World, W.heap = w3.heap → W.cell? ⟨w.heap.size, 0, none⟩ = some (.slice Av k cv) ∧ W.cell? ⟨w.heap.size + 1, 0, none⟩ = some (.bool r.isSome) := fun W h => ⟨(World.cell?_of_block (by rw [h])).trans c1, (World.cell?_of_block (by rw [h])).trans c2⟩
  have hoi : ∀ W : World, Below w3.heap.size w3 W → OI W (w.heap.size + 2) (.slice Av k cv) k (r.getD []) := fun W h => G3.out.below h
  have BZ : Below w3.heap.size w3 w3.drew := (Below.refl _ _).drew
  clear g1 g2 g3 b3
  go_wp2_with fail
  go_region_held3 (fun W => W.cell? ⟨w.heap.size, 0, none⟩ = some (.slice Av k cv) ∧ W.cell? ⟨w.heap.size + 1, 0, none⟩ = some (.bool r.isSome)) (first | exact hcl _ rfl) (first | (go_at_call 57; refine (ClipO_c (hoi _ BZ)).mono ?_; rintro e w7 ⟨rfl, rfl⟩))
  have HB4 := hide (below_step B3.out BZ); have HS4 := hide ((hoi _ BZ).clip)
  go_wp2_with fail
  refine bodyPost_ret (v := .tuple #[.slice Av k k, .bool r.isSome]) (by simp [results, Tryd.results29, go_sem]) rfl ?_
  rw [hrr]
  exact ⟨_, k, rfl, HS4.out, HB4.out⟩
/-- The first serial order. -/
def fstV (ts : List Tx) : Option (List Int) := if histB ts then (srch goFst ts (doneL ts) (doneL ts).length [0, 0, 0] [] none).1 else none
set_option maxRecDepth 100000 in
set_option maxHeartbeats 4000000 in
theorem impl_FindSerial_c {A : Option Addr} {n c : Nat} {ts : List Tx} {w : World} (hr : RTs w A n ts) (hn : n ≤ 1048576) (hsm : SmallT ts) (hk : histB ts = true → ∀ t ∈ ts, ∀ o ∈ t.2.1, (o.1 = 1 ∨ o.1 = 2) ∧ 0 ≤ o.2.1 ∧ o.2.1 ≤ 2) :
    Calls Tryd.prog 9 #[.slice A n c] w (FstR w (fstV ts)) := by
  cases hv : histB ts
  · have hf : fstV ts = none := by simp [fstV, hv]
    have F := hide hf; have V := hide hv; clear hf hv
    go_enter Tryd.func9, Tryd.ntmps9
    go_wp2_with fail
    refine (impl_HistoryValid_c hr hn hsm).mono ?_
    rintro e w2 ⟨rfl, b2⟩
    rw [V.out]
    go_wp2_with fail
    refine bodyPost_ret (v := .tuple #[.slice none 0 0, .bool false]) (by simp [results, Tryd.results9, go_sem]) rfl ?_
    rw [F.out]
    exact ⟨_, 0, rfl, OI.nil.si (B := 0), b2⟩
  · have hf : fstV ts = (srch goFst ts (doneL ts) (doneL ts).length [0, 0, 0] [] none).1 := by simp [fstV, hv]
    have h6 := (histB_parts hv).1
    have HK := hk hv
    have F := hide hf; have V := hide hv; clear hf hv hk
    go_enter Tryd.func9, Tryd.ntmps9
    go_wp2_with fail
    refine (impl_HistoryValid_c hr hn hsm).mono ?_
    rintro e w2 ⟨rfl, b2⟩
    rw [V.out]
    go_wp2_with fail
    refine (firstSerial_c (hr.below b2) h6 HK hsm).mono ?_
    rintro e w3 ⟨v, k, rfl, s3, b3⟩
    go_wp2_with fail
    refine bodyPost_ret (v := .tuple #[v, .bool (srch goFst ts (doneL ts) (doneL ts).length [0, 0, 0] [] none).1.isSome]) (by simp [results, Tryd.results9, go_sem]) rfl ?_
    rw [F.out]
    exact ⟨v, k, rfl, s3, below_step b2 b3⟩

end Go.Proofs.YtieecneknljmdaaDoor
