/- Plans and schedules: the program's. Printed by mk_plani.py. -/
import Derived.Test.YtefopnkicllpeaaDoorPlan
namespace Go.Proofs.YtefopnkicllpeaaDoor
open Go.RowKit

set_option maxHeartbeats 400000 in
theorem keyOk_c {n : Int} {w : World} : Calls Tryd.prog 67 #[.int .i64 n] w fun e w' => e = .returned (.bool (inB n 0 2)) ∧ w = w' := by
  go_enter Tryd.func67, Tryd.ntmps67
  go_wp2_with (go_at_call 64; refine (within_c).mono ?_; rintro e w' ⟨rfl, rfl⟩)
  go_ret
  exact ⟨rfl, rfl⟩
set_option maxHeartbeats 400000 in
theorem sessionOk_c {n : Int} {w : World} : Calls Tryd.prog 63 #[.int .i64 n] w fun e w' => e = .returned (.bool (inB n 0 3)) ∧ w = w' := by
  go_enter Tryd.func63, Tryd.ntmps63
  go_wp2_with (go_at_call 64; refine (within_c).mono ?_; rintro e w' ⟨rfl, rfl⟩)
  go_ret
  exact ⟨rfl, rfl⟩

set_option maxHeartbeats 2000000 in
theorem valid_1_c {x y z : Int} {w : World} :
    Calls Tryd.prog 66 #[.agg #[.int .i64 x, .int .i64 y, .int .i64 z]] w fun e w' => e = .returned (.bool (!stepB (x, y, z))) ∧ Below w.heap.size w w' := by
  have B0 : ∀ o, Below w.heap.size w (w.alloc o) := fun o => (Below.refl _ _).alloc (Nat.le_refl _) o
  rcases step_cases x y z with ⟨h1, hf⟩ | ⟨h1, h2, hf⟩ | ⟨h1, h2, h3, hf⟩ | ⟨h1, h2, h3, hf⟩
  · have F := hide hf; have H1 := hide h1; clear hf h1
    go_enter Tryd.func66, Tryd.ntmps66
    go_wp2_with (first | (go_at_call 64; refine (within_c).mono ?_; rintro e w' ⟨rfl, rfl⟩; rw [H1.out]))
    go_ret
    exact ⟨by rw [F.out]; rfl, B0 _⟩
  · have F := hide hf; have H1 := hide h1; have H2 := hide h2; clear hf h1 h2
    go_enter Tryd.func66, Tryd.ntmps66
    go_wp2_with (first | (go_at_call 64; refine (within_c).mono ?_; rintro e w' ⟨rfl, rfl⟩; rw [H1.out]) | (go_at_call 67; refine (keyOk_c).mono ?_; rintro e w' ⟨rfl, rfl⟩; rw [H2.out]))
    go_ret
    exact ⟨by rw [F.out]; rfl, B0 _⟩
  · have F := hide hf; have H1 := hide h1; have H2 := hide h2; have H3 := hide h3; clear hf h1 h2 h3
    go_enter Tryd.func66, Tryd.ntmps66
    go_wp2_with (first | (go_at_call 64; refine (within_c).mono ?_; rintro e w' ⟨rfl, rfl⟩; rw [H1.out]) | (go_at_call 67; refine (keyOk_c).mono ?_; rintro e w' ⟨rfl, rfl⟩; rw [H2.out]))
    go_ret
    exact ⟨by rw [F.out]; show Ending.returned (.bool (z != 0)) = _; rw [bne, H3.out], B0 _⟩
  · have F := hide hf; have H1 := hide h1; have H2 := hide h2; have H3 := hide h3; clear hf h1 h2 h3
    go_enter Tryd.func66, Tryd.ntmps66
    go_wp2_with (first | (go_at_call 64; refine (within_c).mono ?_; rintro e w' ⟨rfl, rfl⟩; rw [H1.out]) | (go_at_call 67; refine (keyOk_c).mono ?_; rintro e w' ⟨rfl, rfl⟩; rw [H2.out]))
    go_ret
    exact ⟨by rw [F.out]; show Ending.returned (.bool (z != 0)) = _; rw [bne, H3.out], B0 _⟩

set_option maxHeartbeats 4000000 in
theorem IndexFunc_Op_c {v : Value} {n : Nat} {ts : List T3} {w : World} (hs : S3 w v n ts) :
    Calls Tryd.prog 84 #[v, .func (.func 66) #[] #[]] w fun e w' => ∃ i : Int, e = .returned (.int .i64 i) ∧ (decide (0 ≤ i)) = ts.any (fun e => !stepB e) ∧ Below w.heap.size w w' := by
  obtain ⟨A, c, rfl, hnc, hn, hr⟩ := hs
  have hl := hide hr.len
  go_enter Tryd.func84, Tryd.ntmps84
  go_wp2
  go_loopw [8] (fun i wr => ∃ k : Nat, k ≤ n ∧ i = .int .i64 k ∧ (ts.take k).any (fun e => !stepB e) = false ∧ Below w.heap.size w wr) (fun i _ => n - (intOf i).toNat)
  case atStart => exact ⟨0, Nat.zero_le _, rfl, by simp, Below.refl _ _⟩
  case round =>
    obtain ⟨k, hk, rfl, hall, hbel⟩ := hrel
    have Hall := hide hall; clear hall
    by_cases hlt : k < n
    · obtain ⟨b, off, x, y, z, rfl, hbk, hx, p0, p1, p2⟩ := hr.at_ hlt
      have Hx := hide hx; clear hx
      have a0 := (hbel.cell (p := ⟨b, off + k * 3, none⟩) hbk).trans p0
      have a1 := (hbel.cell (p := ⟨b, off + k * 3 + 1, none⟩) hbk).trans p1
      have a2 := (hbel.cell (p := ⟨b, off + k * 3 + 2, none⟩) hbk).trans p2
      clear p0 p1 p2
      cases hv : stepB (x, y, z)
      · have Hv := hide hv; clear hv
        go_wp2_with fail
        refine (valid_1_c).mono ?_
        rintro e w2 ⟨rfl, b2⟩
        have B2 := below_step hbel b2
        rw [Hv.out]
        go_wp2_with fail
        go_ret
        exact ⟨_, rfl, by rw [any_atA Hx.out (by simp [Hv.out])]; simp, B2⟩
      · have Hv := hide hv; clear hv
        go_wp2_with fail
        refine (valid_1_c).mono ?_
        rintro e w2 ⟨rfl, b2⟩
        have B2 := below_step hbel b2
        rw [Hv.out]
        go_wp2_with fail
        go_roundw
        case rel => exact ⟨k + 1, by omega, by go_num, any_snocA Hall.out Hx.out (by simp [Hv.out]), B2⟩
        case measure => simp [intOf]; omega
    · go_wp2
      go_ret
      obtain rfl : k = n := by omega
      refine ⟨_, rfl, ?_, hbel⟩
      have h1 := Hall.out
      rw [List.take_of_length_le (by rw [hl.out]; omega)] at h1
      rw [h1]; rfl
set_option maxHeartbeats 1000000 in
theorem ContainsFunc_Op_c {v : Value} {n : Nat} {ts : List T3} {w : World} (hs : S3 w v n ts) :
    Calls Tryd.prog 65 #[v, .func (.func 66) #[] #[]] w fun e w' => e = .returned (.bool (ts.any (fun e => !stepB e))) ∧ Below w.heap.size w w' := by
  obtain ⟨A, c, rfl, hnc, hn, hr⟩ := hs
  go_enter Tryd.func65, Tryd.ntmps65
  go_wp2_with fail
  refine (IndexFunc_Op_c ⟨A, c, rfl, hnc, hn, hr⟩).mono ?_
  rintro e w2 ⟨i, rfl, hi, b2⟩
  have Hi := hide hi; clear hi
  go_wp2_with fail
  go_ret
  exact ⟨by rw [← Hi.out]; rfl, b2⟩

set_option maxHeartbeats 2000000 in
theorem valid_c {v : Value} {m : Nat} {ys : List T3} {f : Int} {w : World} (hv : S3 w v m ys) :
    Calls Tryd.prog 46 #[.agg #[.int .i64 f, v]] w fun e w' => e = .returned (.bool (draftB (f, ys))) ∧ Below w.heap.size w w' := by
  have sv := hv
  have hbd := hv.bd
  have hl := hide hv.len
  obtain ⟨B, d, rfl⟩ := hv.shape
  have b1 : Below w.heap.size w (w.alloc (.cells #[.int .i64 f, .slice B m d] 37)) := (Below.refl _ _).alloc (Nat.le_refl _) _
  cases hF : inB f 0 3
  · have hf := draftB_ses (ys := ys) hF
    have F := hide hf; have Z := hide hF; clear hf hF
    go_enter Tryd.func46, Tryd.ntmps46
    go_wp2_with (first | (go_at_call 63; refine (sessionOk_c).mono ?_; rintro e w' ⟨rfl, rfl⟩; rw [Z.out]))
    go_ret
    exact ⟨by rw [F.out]; rfl, b1⟩
  · cases hL : inB (m : Int) 1 4
    · have hf := draftB_len (f := f) hl.out hL
      have F := hide hf; have Z := hide hF; have Y := hide hL; clear hf hF hL
      go_enter Tryd.func46, Tryd.ntmps46
      go_wp2_with (first | (go_at_call 63; refine (sessionOk_c).mono ?_; rintro e w' ⟨rfl, rfl⟩; rw [Z.out]) | (go_at_call 64; refine (within_c).mono ?_; rintro e w' ⟨rfl, rfl⟩; rw [Y.out]))
      go_ret
      exact ⟨by rw [F.out]; rfl, b1⟩
    · have hf : draftB (f, ys) = !(ys.any fun e => !stepB e) := by unfold draftB; rw [hF, hl.out, hL, not_allA]; simp
      have F := hide hf; have Z := hide hF; have Y := hide hL; clear hf hF hL
      go_enter Tryd.func46, Tryd.ntmps46
      go_wp2_with (first | (go_at_call 63; refine (sessionOk_c).mono ?_; rintro e w' ⟨rfl, rfl⟩; rw [Z.out]) | (go_at_call 64; refine (within_c).mono ?_; rintro e w' ⟨rfl, rfl⟩; rw [Y.out]))
      refine (ContainsFunc_Op_c (sv.below b1)).mono ?_
      rintro e w2 ⟨rfl, b2⟩
      have B2 := below_step b1 b2
      go_wp2_with fail
      go_ret
      exact ⟨by rw [F.out]; rfl, B2⟩
set_option maxHeartbeats 1000000 in
theorem PlanValid_1_c {v : Value} {m : Nat} {ys : List T3} {f : Int} {w : World} (hv : S3 w v m ys) :
    Calls Tryd.prog 45 #[.agg #[.int .i64 f, v]] w fun e w' => e = .returned (.bool (!draftB (f, ys))) ∧ Below w.heap.size w w' := by
  have sv := hv
  obtain ⟨B, d, rfl⟩ := hv.shape
  have b1 : Below w.heap.size w (w.alloc (.cells #[.int .i64 f, .slice B m d] 37)) := (Below.refl _ _).alloc (Nat.le_refl _) _
  go_enter Tryd.func45, Tryd.ntmps45
  go_wp2_with fail
  refine (valid_c (sv.below b1)).mono ?_
  rintro e w2 ⟨rfl, b2⟩
  have B2 := below_step b1 b2
  go_wp2_with fail
  go_ret
  exact ⟨rfl, B2⟩

set_option maxHeartbeats 4000000 in
theorem IndexFunc_Draft_c {A : Option Addr} {n c : Nat} {ms : Ds} {w : World} (hr : RDs w A n ms) (hn : n ≤ 1048576) (hsm : SmallD ms) :
    Calls Tryd.prog 62 #[.slice A n c, .func (.func 45) #[] #[]] w fun e w' => ∃ i : Int, e = .returned (.int .i64 i) ∧ (decide (0 ≤ i)) = ms.any (fun e => !draftB e) ∧ Below w.heap.size w w' := by
  have hl := hide hr.1
  go_enter Tryd.func62, Tryd.ntmps62
  go_wp2
  go_loopw [8] (fun i wr => ∃ k : Nat, k ≤ n ∧ i = .int .i64 k ∧ (ms.take k).any (fun e => !draftB e) = false ∧ Below w.heap.size w wr) (fun i _ => n - (intOf i).toNat)
  case atStart => exact ⟨0, Nat.zero_le _, rfl, by simp, Below.refl _ _⟩
  case round =>
    obtain ⟨k, hk, rfl, hall, bw⟩ := hrel
    have Hall := hide hall; clear hall
    by_cases hlt : k < n
    · obtain ⟨b, off, f, ys, B, kk, d, rfl, hbb, hx, q0, q1, hkd, hdm, hri⟩ := hr.at_ hlt
      have e0 := (bw.cell (p := ⟨b, off + k * 2, none⟩) hbb).trans q0
      have e1 := (bw.cell (p := ⟨b, off + k * 2 + 1, none⟩) hbb).trans q1
      have hsz := hsm _ (List.mem_of_getElem? hx)
      have hyl := hri.len
      have hk1 : kk ≤ 1048576 := by dsimp only at hsz; omega
      have s1 : S3 wr (.slice B kk d) kk ys := S3.of_args hkd hk1 (hri.below bw)
      have Hx := hide hx
      clear hx q0 q1 hsz hyl
      cases hv : draftB (f, ys)
      · have Hv := hide hv; clear hv
        go_wp2_with fail
        refine (PlanValid_1_c s1).mono ?_
        rintro e w2 ⟨rfl, b2⟩
        have B2 := below_step bw b2
        rw [Hv.out]
        go_wp2_with fail
        go_ret
        exact ⟨_, rfl, by rw [any_atA Hx.out (by simp [Hv.out])]; simp, B2⟩
      · have Hv := hide hv; clear hv
        go_wp2_with fail
        refine (PlanValid_1_c s1).mono ?_
        rintro e w2 ⟨rfl, b2⟩
        have B2 := below_step bw b2
        rw [Hv.out]
        go_wp2_with fail
        go_roundw
        case rel => exact ⟨k + 1, by omega, by go_num, any_snocA Hall.out Hx.out (by simp [Hv.out]), B2⟩
        case measure => simp [intOf]; omega
    · go_wp2
      go_ret
      obtain rfl : k = n := by omega
      refine ⟨_, rfl, ?_, bw⟩
      have h1 := Hall.out
      rw [List.take_of_length_le (by rw [hl.out]; omega)] at h1
      rw [h1]; rfl
set_option maxHeartbeats 1000000 in
theorem impl_PlanValid_c {A : Option Addr} {n c : Nat} {ms : Ds} {w : World} (hr : RDs w A n ms) (hn : n ≤ 1048576) (hsm : SmallD ms) :
    Calls Tryd.prog 24 #[.slice A n c] w fun e w' => e = .returned (.bool (planB ms)) ∧ Below w.heap.size w w' := by
  have hl := hide hr.1
  have hC : ∀ {W : World}, RDs W A n ms → Calls Tryd.prog 44 #[.slice A n c, .func (.func 45) #[] #[]] W fun e w' => e = .returned (.bool (ms.any (fun e => !draftB e))) ∧ Below W.heap.size W w' := fun {W} hW => by
    go_enter Tryd.func44, Tryd.ntmps44
    go_wp2_with fail
    refine (IndexFunc_Draft_c hW hn hsm).mono ?_
    rintro e w2 ⟨i, rfl, hi, b2⟩
    have Hi := hide hi; clear hi
    go_wp2_with fail
    go_ret
    exact ⟨by rw [← Hi.out]; rfl, b2⟩
  by_cases h4 : n ≤ 4
  · have hf : planB ms = !(ms.any fun e => !draftB e) := by unfold planB; rw [hl.out, not_allA]; simp [h4]
    have F := hide hf; clear hf
    have hd : ¬ ((4 : Int) < n) := by omega
    go_enter Tryd.func24, Tryd.ntmps24
    go_wp2_with fail
    refine (hC hr).mono ?_
    rintro e w2 ⟨rfl, b2⟩
    go_wp2_with fail
    go_ret
    exact ⟨by rw [F.out]; rfl, b2⟩
  · have hf : planB ms = false := by unfold planB; rw [hl.out]; simp [h4]
    have F := hide hf; clear hf
    go_enter Tryd.func24, Tryd.ntmps24
    go_wp2_with fail
    go_ret
    exact ⟨by rw [F.out]; rfl, Below.refl _ _⟩



end Go.Proofs.YtefopnkicllpeaaDoor
