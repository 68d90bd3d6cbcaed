/- CountSerial of both sides. -/
import Derived.Test.YtieecneknljmdaaDoorSerC
import Derived.Test.YtieecneknljmdaaDoorSerO
import Derived.Test.YtieecneknljmdaaDoorDonS
import Derived.Shelf.Abstract
namespace Go.Proofs.YtieecneknljmdaaDoor
open Go.RowKit

theorem cb_cnt (K : EsK) (b : Nat) (h1 : K.cN = 23) (h2 : K.caps = #[.pointer (some ⟨b, 0, none⟩)]) (h3 : K.cb = fun i => i = b) : CbOK K goCnt (MI b) (fun _ => True) := by
  refine ⟨fun a w v k used hk _ hE hI => ?_, fun args w => ?_, fun _ _ _ _ => trivial, fun a w w' h hb => h.belowAll hb, fun a w w' _ h hf _ => (hf b (by rw [h3])).trans h⟩
  · rw [h1, h2]
    refine (CountSerial1_c hI).mono ?_
    rintro e w' ⟨rfl, rfl⟩
    have hk2 := hE.cb_kept (w' := w.setCell ⟨b, 0, none⟩ (.int .i64 (wrap64 ((a + 1 : Nat) : Int)))) (fun i _ hc => Below.heap_setCell w ⟨b, 0, none⟩ _ i (fun e => hc (by rw [h3]; exact e))) rfl rfl rfl (by rw [size_setCell]; exact Nat.le_refl _)
    exact ⟨rfl, by simpa [MI, goCnt] using hI.set_ 0 (.int .i64 (wrap64 ((a + 1 : Nat) : Int))), hk2.1, hk2.2⟩
  · rw [h1]; exact enters_of (P := Tryd.prog) Tryd.func23 (by kernel_rfl) rfl args w
/-- How many serial orders. -/
def cntV (ts : List Tx) : Int := if histB ts then (((permsL (doneL ts)).filter (runsF ts [0, 0, 0])).length : Int) else -1
theorem histB_small {ts : List Tx} (h : histB ts = true) : ts.length ≤ 6 ∧ (∀ t ∈ ts, ∀ o ∈ t.2.1, (o.1 = 1 ∨ o.1 = 2) ∧ 0 ≤ o.2.1 ∧ o.2.1 ≤ 2) := by
  obtain ⟨h1, h2, _⟩ := histB_parts h
  refine ⟨h1, fun t ht o ho => ?_⟩
  obtain ⟨j, hj, hg⟩ := List.mem_iff_getElem.1 ho
  have := txnB_opH (h2 t ht) (k := j) (o := o) (by rw [← hg]; exact List.getElem?_eq_getElem hj)
  unfold opB at this
  simp only [Bool.and_eq_true, inB_iff] at this
  omega
theorem cnt_small {ts : List Tx} (h : ts.length ≤ 6) : ((permsL (doneL ts)).filter (runsF ts [0, 0, 0])).length ≤ 720 := by
  have h1 : (doneL ts).length ≤ 6 := by have := doneTo_len ts ts.length; unfold doneL; omega
  have h2 := permsF_many (doneL ts).length (doneL ts) (Nat.le_refl _) h1
  have h3 := List.length_filter_le (runsF ts [0, 0, 0]) (permsL (doneL ts))
  have h4 : facN (doneL ts).length ≤ 720 := by
    generalize (doneL ts).length = q at h1
    match q, h1 with
    | 0, _ => decide
    | 1, _ => decide
    | 2, _ => decide
    | 3, _ => decide
    | 4, _ => decide
    | 5, _ => decide
    | 6, _ => decide
  unfold permsL at h3 ⊢
  omega
set_option maxRecDepth 100000 in
set_option maxHeartbeats 4000000 in
theorem impl_CountSerial_c {A : Option Addr} {n c : Nat} {ts : List Tx} {w : World} (hr : RTs w A n ts) (hn : n ≤ 1048576) (hsm : SmallT ts) :
    Calls Tryd.prog 6 #[.slice A n c] w fun e w' => e = .returned (.int .i64 (cntV ts)) ∧ Below w.heap.size w w' := by
  cases hv : histB ts
  · have hf : cntV ts = -1 := by simp [cntV, hv]
    have F := hide hf; have V := hide hv; clear hf hv
    go_enter Tryd.func6, Tryd.ntmps6
    go_wp2_with fail
    refine (impl_HistoryValid_c hr hn hsm).mono ?_
    rintro e w2 ⟨rfl, b2⟩
    rw [V.out]
    go_wp2_with fail
    go_ret
    exact ⟨by rw [F.out]; rfl, b2⟩
  · obtain ⟨h6, hk⟩ := histB_small hv
    have hsml := cnt_small h6
    have hf : cntV ts = (((permsL (doneL ts)).filter (runsF ts [0, 0, 0])).length : Int) := by simp [cntV, hv]
    have hmf : ∀ (fn : Fn) (first cap : Array Value) (w : World), (Instr.makeFunc fn first cap).run Tryd.prog w = .ok (.func fn first cap) w := fun _ _ _ _ => rfl
    obtain ⟨M, hM⟩ : ∃ q, ((permsL (doneL ts)).filter (runsF ts [0, 0, 0])).length = q := ⟨_, rfl⟩
    rw [hM] at hf hsml
    have F := hide hf; have V := hide hv; have HM := hide hM; clear hf hv hM
    go_enter Tryd.func6, Tryd.ntmps6
    go_wp2_with fail
    refine (impl_HistoryValid_c hr hn hsm).mono ?_
    rintro e w2 ⟨rfl, b2⟩
    rw [V.out]
    have hI : MI w2.heap.size 0 (w2.alloc (.cells #[.int .i64 0] 3)) := by unfold MI; rw [show wrap64 ((0 : Nat) : Int) = 0 by unfold wrap64; omega]; exact Blk.new w2 _ _
    have B2 := hide b2
    have hcall := eachSerial_c (go := goCnt) (I := MI w2.heap.size) (Live := fun _ => True) (wb := w2) (w := w2.alloc (.cells #[.int .i64 0] 3)) (cN := 23) (caps := #[.pointer (some ⟨w2.heap.size, 0, none⟩)]) (cb := fun i => i = w2.heap.size) (c := c) (a := 0)
      ((Below.refl _ _).alloc (Nat.le_refl _) _) (hr.below b2) h6 hk hsm (fun i hi => by rw [hi, World.size_alloc]; omega) (fun K h1 h2 h3 h4 _ => cb_cnt K w2.heap.size h2 h3 h4) trivial hI
    have HC := hide hcall
    clear hcall hI b2
    go_wp2_with fail
    refine HC.out.mono ?_
    rintro e w3 ⟨rfl, b3, i3⟩
    rw [srch_cnt, cntG_all ts (doneL_nodup ts), HM.out, Nat.zero_add] at i3
    have e3 : wrap64 (M : Int) = M := IntWalk.wrap64_in _ (by omega)
    have c3 : w3.cell? ⟨w2.heap.size, 0, none⟩ = some (.int .i64 (M : Int)) := by
      have := i3.cell 0
      dsimp only at this
      rw [e3] at this; exact this
    go_wp2_with fail
    go_ret
    exact ⟨by rw [F.out]; rfl, below_step B2.out b3⟩
/-- How many of the first j orders run. -/
def cntJ (ts : List Tx) (ls : List (List Int)) (j : Nat) : Nat := ((ls.take j).filter (runsF ts [0, 0, 0])).length
theorem cntJ_step {ts : List Tx} {ls : List (List Int)} {j : Nat} {ys : List Int} (h : ls[j]? = some ys) : cntJ ts ls (j + 1) = cntJ ts ls j + if runsF ts [0, 0, 0] ys then 1 else 0 := by
  unfold cntJ
  rw [List.take_add_one, h, List.filter_append, List.length_append]
  congr 1
  by_cases h : runsF ts [0, 0, 0] ys = true
  · simp [h]
  · simp [h]
theorem permsF_sub : ∀ (f : Nat) (l : List Int), l.length ≤ f → ∀ x ∈ permsF f l, ∀ y ∈ x, y ∈ l
  | 0, l, _, x, hx => by simp [permsF] at hx; subst hx; simp
  | f + 1, l, h, x, hx => by
    by_cases h0 : l = []
    · simp [permsF, h0] at hx; subst hx; simp
    · simp only [permsF, if_neg h0, List.mem_flatMap, List.mem_range, List.mem_map] at hx
      obtain ⟨k, hk, y, hy, rfl⟩ := hx
      intro z hz
      rcases List.mem_cons.1 hz with rfl | hz
      · rw [List.getD_eq_getElem?_getD, List.getElem?_eq_getElem hk]; exact List.getElem_mem hk
      · have := permsF_sub f (l.eraseIdx k) (by rw [List.length_eraseIdx_of_lt hk]; omega) y hy z hz
        exact List.mem_of_mem_eraseIdx this
set_option maxRecDepth 100000 in
set_option maxHeartbeats 8000000 in
theorem spec_CountSerial_c {A : Option Addr} {n c : Nat} {ts : List Tx} {w : World} (hr : RTs w A n ts) (hn : n ≤ 1048576) (hsum : (allOps ts).length ≤ 1048576) (hsm : SmallT ts) :
    Calls Tryd.prog 7 #[.slice A n c] w fun e w' => e = .returned (.int .i64 (cntV ts)) ∧ Below w.heap.size w w' := by
  have hl := hide hr.1
  cases hv : histB ts
  · have hf : cntV ts = -1 := by simp [cntV, hv]
    have F := hide hf; have V := hide hv; clear hf hv
    go_enter Tryd.func7, Tryd.ntmps7
    go_wp2_with fail
    refine (spec_HistoryValid_c hr hn hsum hsm).mono ?_
    rintro e w2 ⟨rfl, b2⟩
    rw [V.out]
    go_wp2_with fail
    go_ret
    exact ⟨by rw [F.out]; rfl, b2⟩
  · obtain ⟨h6, hk⟩ := histB_small hv
    have hf : cntV ts = (((permsL (doneL ts)).filter (runsF ts [0, 0, 0])).length : Int) := by simp [cntV, hv]
    have hd6 : (doneL ts).length ≤ 6 := by have := doneTo_len ts ts.length; unfold doneL; omega
    have hv2 : doneV ts = doneL ts := by unfold doneV; rw [hv]; rfl
    have F := hide hf; have V := hide hv; have HV2 := hide hv2; clear hf hv hv2
    go_enter Tryd.func7, Tryd.ntmps7
    go_wp2_with fail
    refine (spec_HistoryValid_c hr hn hsum hsm).mono ?_
    rintro e w2 ⟨rfl, b2⟩
    rw [V.out]
    have hr2 := hr.below b2
    have B2 := hide b2
    go_wp2_with fail
    refine (spec_DoneTxns_c hr2 hn hsum hsm).mono ?_
    rintro e w3 ⟨r3, k3, rfl, o3, b3⟩
    rw [HV2.out] at o3
    have hk3 := o3.len
    have B3 := hide (below_step B2.out b3)
    go_wp2_with fail
    refine (l7Orders_c k3 _ _ _ (by omega) o3.si).mono ?_
    rintro e w4 ⟨v4, rfl, l4, b4⟩
    have B4 := hide (below_step B3.out b4)
    have hpl : permsF (doneL ts).length (doneL ts) = permsL (doneL ts) := rfl
    rw [hpl] at l4
    have hmany : (permsL (doneL ts)).length ≤ 720 := by
      have h2 := permsF_many (doneL ts).length (doneL ts) (Nat.le_refl _) hd6
      have h4 : facN (doneL ts).length ≤ 720 := by
        generalize (doneL ts).length = q at hd6
        match q, hd6 with
        | 0, _ => decide
        | 1, _ => decide
        | 2, _ => decide
        | 3, _ => decide
        | 4, _ => decide
        | 5, _ => decide
        | 6, _ => decide
      unfold permsL; omega
    have hsub : ∀ x ∈ permsL (doneL ts), x.length ≤ 6 ∧ ∀ y ∈ x, 0 ≤ y ∧ y < (n : Int) := fun x hx => by
      refine ⟨by have := permsF_len _ _ (Nat.le_refl _) x hx; omega, fun y hy => ?_⟩
      obtain ⟨j, e, hj⟩ := doneTo_lt ts _ y (permsF_sub _ _ (Nat.le_refl _) x hx y hy)
      have := hl.out; omega
    obtain ⟨ls, hls⟩ : ∃ q, permsL (doneL ts) = q := ⟨_, rfl⟩
    rw [hls] at l4 hmany hsub
    obtain ⟨A4, c4, rfl⟩ := l4.shape
    have hr4 := hr2.below (below_step b3 b4)
    have L4 := hide l4; have HLS := hide hls; have HSUB := hide hsub
    clear l4 hls hsub b3 b4 b2
    go_wp2_with fail
    go_loopw [3, 5] (fun v i W => ∃ j : Nat, i = .int .i64 j ∧ j ≤ ls.length ∧ v = .int .i64 (cntJ ts ls j : Nat) ∧ Below w4.heap.size w4 W) (fun _ i _ => ls.length - (intOf i).toNat)
    case atStart => exact ⟨0, rfl, Nat.zero_le _, rfl, Below.refl _ _⟩
    case round =>
      obtain ⟨j, rfl, hj, rfl, bw⟩ := hrel
      have BW := hide bw
      have hcj : cntJ ts ls j ≤ 720 := by
        unfold cntJ
        have h1 := List.length_filter_le (runsF ts [0, 0, 0]) (ls.take j)
        rw [List.length_take] at h1; omega
      by_cases hjl : j < ls.length
      · have LJ := L4.out.below BW.out
        obtain ⟨bm, u, mu, rfl, hbm0, hbm, ou, cu⟩ := LJ.at_ hjl
        have hys : ls[j]? = some (ls.getD j []) := by rw [List.getD_eq_getElem?_getD, List.getElem?_eq_getElem hjl]; rfl
        obtain ⟨ys, hy⟩ : ∃ q, ls.getD j [] = q := ⟨_, rfl⟩
        rw [hy] at ou hys
        obtain ⟨hy6, hyn⟩ := HSUB.out ys (List.mem_of_getElem? hys)
        have hst := cntJ_step (ts := ts) hys
        have HST := hide hst
        obtain ⟨M, hM⟩ : ∃ q, cntJ ts ls j = q := ⟨_, rfl⟩
        rw [hM] at hcj HST
        rw [hM]
        have hr5 := hr4.below BW.out
        have j0 : (0 : Int) ≤ j := by omega
        have j2 : (j : Int) < ls.length := by omega
        have HYN := hide hyn
        clear hst hys hM LJ bw hyn
        cases hrn : runsF ts [0, 0, 0] ys
        · rw [hrn] at HST
          have HRN := hide hrn; clear hrn
          go_wp2_with fail
          refine (l12Runs_c hr5 ou.si HYN.out hk hsm).mono ?_
          rintro e w5 ⟨rfl, b5⟩
          rw [HRN.out]
          go_wp2_with fail
          go_roundw
          case rel => exact ⟨j + 1, by go_num, by omega, by rw [HST.out]; simp, below_step BW.out b5⟩
          case measure => simp [intOf]; omega
        · rw [hrn] at HST
          have HRN := hide hrn; clear hrn
          go_wp2_with fail
          refine (l12Runs_c hr5 ou.si HYN.out hk hsm).mono ?_
          rintro e w5 ⟨rfl, b5⟩
          rw [HRN.out]
          go_wp2_with fail
          go_roundw
          case rel => exact ⟨j + 1, by go_num, by omega, by rw [HST.out]; simp, below_step BW.out b5⟩
          case measure => simp [intOf]; omega
      · obtain rfl : j = ls.length := by omega
        have he : cntJ ts ls ls.length = (ls.filter (runsF ts [0, 0, 0])).length := by unfold cntJ; rw [List.take_length]
        have HE := hide he; clear he
        go_wp2_with fail
        go_ret
        exact ⟨by rw [F.out, HLS.out, HE.out]; rfl, below_step B4.out BW.out⟩
end Go.Proofs.YtieecneknljmdaaDoor
