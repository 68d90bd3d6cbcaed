/- Plans and schedules: the program's. Printed by mk_plani.py. -/
import Derived.Test.YtieecneknljmdaaDoorPlan
namespace Go.Proofs.YtieecneknljmdaaDoor
open Go.RowKit

set_option maxHeartbeats 400000 in
theorem keyOk_c {n : Int} {w : World} : Calls Tryd.prog 77 #[.int .i64 n] w fun e w' => e = .returned (.bool (inB n 0 2)) ∧ w = w' := by
  go_enter Tryd.func77, Tryd.ntmps77
  go_wp2_with (go_at_call 83; refine (within_c).mono ?_; rintro e w' ⟨rfl, rfl⟩)
  go_ret
  exact ⟨rfl, rfl⟩
set_option maxHeartbeats 400000 in
theorem sessionOk_c {n : Int} {w : World} : Calls Tryd.prog 73 #[.int .i64 n] w fun e w' => e = .returned (.bool (inB n 0 3)) ∧ w = w' := by
  go_enter Tryd.func73, Tryd.ntmps73
  go_wp2_with (go_at_call 83; refine (within_c).mono ?_; rintro e w' ⟨rfl, rfl⟩)
  go_ret
  exact ⟨rfl, rfl⟩

set_option maxHeartbeats 2000000 in
theorem valid_1_c {x y z : Int} {w : World} :
    Calls Tryd.prog 90 #[.agg #[.int .i64 x, .int .i64 y, .int .i64 z]] w fun e w' => e = .returned (.bool (!stepB (x, y, z))) ∧ Below w.heap.size w w' := by
  have B0 : ∀ o, Below w.heap.size w (w.alloc o) := fun o => (Below.refl _ _).alloc (Nat.le_refl _) o
  rcases step_cases x y z with ⟨h1, hf⟩ | ⟨h1, h2, hf⟩ | ⟨h1, h2, h3, hf⟩ | ⟨h1, h2, h3, hf⟩
  · have F := hide hf; have H1 := hide h1; clear hf h1
    go_enter Tryd.func90, Tryd.ntmps90
    go_wp2_with (first | (go_at_call 83; refine (within_c).mono ?_; rintro e w' ⟨rfl, rfl⟩; rw [H1.out]))
    go_ret
    exact ⟨by rw [F.out]; rfl, B0 _⟩
  · have F := hide hf; have H1 := hide h1; have H2 := hide h2; clear hf h1 h2
    go_enter Tryd.func90, Tryd.ntmps90
    go_wp2_with (first | (go_at_call 83; refine (within_c).mono ?_; rintro e w' ⟨rfl, rfl⟩; rw [H1.out]) | (go_at_call 77; refine (keyOk_c).mono ?_; rintro e w' ⟨rfl, rfl⟩; rw [H2.out]))
    go_ret
    exact ⟨by rw [F.out]; rfl, B0 _⟩
  · have F := hide hf; have H1 := hide h1; have H2 := hide h2; have H3 := hide h3; clear hf h1 h2 h3
    go_enter Tryd.func90, Tryd.ntmps90
    go_wp2_with (first | (go_at_call 83; refine (within_c).mono ?_; rintro e w' ⟨rfl, rfl⟩; rw [H1.out]) | (go_at_call 77; refine (keyOk_c).mono ?_; rintro e w' ⟨rfl, rfl⟩; rw [H2.out]))
    go_ret
    exact ⟨by rw [F.out]; show Ending.returned (.bool (z != 0)) = _; rw [bne, H3.out], B0 _⟩
  · have F := hide hf; have H1 := hide h1; have H2 := hide h2; have H3 := hide h3; clear hf h1 h2 h3
    go_enter Tryd.func90, Tryd.ntmps90
    go_wp2_with (first | (go_at_call 83; refine (within_c).mono ?_; rintro e w' ⟨rfl, rfl⟩; rw [H1.out]) | (go_at_call 77; refine (keyOk_c).mono ?_; rintro e w' ⟨rfl, rfl⟩; rw [H2.out]))
    go_ret
    exact ⟨by rw [F.out]; show Ending.returned (.bool (z != 0)) = _; rw [bne, H3.out], B0 _⟩

set_option maxHeartbeats 4000000 in
theorem IndexFunc_Op_c {v : Value} {n : Nat} {ts : List T3} {w : World} (hs : S3 w v n ts) :
    Calls Tryd.prog 87 #[v, .func (.func 90) #[] #[]] w fun e w' => ∃ i : Int, e = .returned (.int .i64 i) ∧ (decide (0 ≤ i)) = ts.any (fun e => !stepB e) ∧ Below w.heap.size w w' := by
  obtain ⟨A, c, rfl, hnc, hn, hr⟩ := hs
  have hl := hide hr.len
  go_enter Tryd.func87, Tryd.ntmps87
  go_wp2
  go_loopw [8] (fun i wr => ∃ k : Nat, k ≤ n ∧ i = .int .i64 k ∧ (ts.take k).any (fun e => !stepB e) = false ∧ Below w.heap.size w wr) (fun i _ => n - (intOf i).toNat)
  case atStart => exact ⟨0, Nat.zero_le _, rfl, by simp, Below.refl _ _⟩
  case round =>
    obtain ⟨k, hk, rfl, hall, hbel⟩ := hrel
    have Hall := hide hall; clear hall
    by_cases hlt : k < n
    · obtain ⟨b, off, x, y, z, rfl, hbk, hx, p0, p1, p2⟩ := hr.at_ hlt
      have Hx := hide hx; clear hx
      have a0 := (hbel.cell (p := ⟨b, off + k * 3, none⟩) hbk).trans p0
      have a1 := (hbel.cell (p := ⟨b, off + k * 3 + 1, none⟩) hbk).trans p1
      have a2 := (hbel.cell (p := ⟨b, off + k * 3 + 2, none⟩) hbk).trans p2
      clear p0 p1 p2
      cases hv : stepB (x, y, z)
      · have Hv := hide hv; clear hv
        go_wp2_with fail
        refine (valid_1_c).mono ?_
        rintro e w2 ⟨rfl, b2⟩
        have B2 := below_step hbel b2
        rw [Hv.out]
        go_wp2_with fail
        go_ret
        exact ⟨_, rfl, by rw [any_atA Hx.out (by simp [Hv.out])]; simp, B2⟩
      · have Hv := hide hv; clear hv
        go_wp2_with fail
        refine (valid_1_c).mono ?_
        rintro e w2 ⟨rfl, b2⟩
        have B2 := below_step hbel b2
        rw [Hv.out]
        go_wp2_with fail
        go_roundw
        case rel => exact ⟨k + 1, by omega, by go_num, any_snocA Hall.out Hx.out (by simp [Hv.out]), B2⟩
        case measure => simp [intOf]; omega
    · go_wp2
      go_ret
      obtain rfl : k = n := by omega
      refine ⟨_, rfl, ?_, hbel⟩
      have h1 := Hall.out
      rw [List.take_of_length_le (by rw [hl.out]; omega)] at h1
      rw [h1]; rfl
set_option maxHeartbeats 1000000 in
theorem ContainsFunc_Op_c {v : Value} {n : Nat} {ts : List T3} {w : World} (hs : S3 w v n ts) :
    Calls Tryd.prog 74 #[v, .func (.func 90) #[] #[]] w fun e w' => e = .returned (.bool (ts.any (fun e => !stepB e))) ∧ Below w.heap.size w w' := by
  obtain ⟨A, c, rfl, hnc, hn, hr⟩ := hs
  go_enter Tryd.func74, Tryd.ntmps74
  go_wp2_with fail
  refine (IndexFunc_Op_c ⟨A, c, rfl, hnc, hn, hr⟩).mono ?_
  rintro e w2 ⟨i, rfl, hi, b2⟩
  have Hi := hide hi; clear hi
  go_wp2_with fail
  go_ret
  exact ⟨by rw [← Hi.out]; rfl, b2⟩

set_option maxHeartbeats 2000000 in
theorem valid_c {v : Value} {m : Nat} {ys : List T3} {f : Int} {w : World} (hv : S3 w v m ys) :
    Calls Tryd.prog 82 #[.agg #[.int .i64 f, v]] w fun e w' => e = .returned (.bool (draftB (f, ys))) ∧ Below w.heap.size w w' := by
  have sv := hv
  have hbd := hv.bd
  have hl := hide hv.len
  obtain ⟨B, d, rfl⟩ := hv.shape
  have b1 : Below w.heap.size w (w.alloc (.cells #[.int .i64 f, .slice B m d] 63)) := (Below.refl _ _).alloc (Nat.le_refl _) _
  cases hF : inB f 0 3
  · have hf := draftB_ses (ys := ys) hF
    have F := hide hf; have Z := hide hF; clear hf hF
    go_enter Tryd.func82, Tryd.ntmps82
    go_wp2_with (first | (go_at_call 73; refine (sessionOk_c).mono ?_; rintro e w' ⟨rfl, rfl⟩; rw [Z.out]))
    go_ret
    exact ⟨by rw [F.out]; rfl, b1⟩
  · cases hL : inB (m : Int) 1 4
    · have hf := draftB_len (f := f) hl.out hL
      have F := hide hf; have Z := hide hF; have Y := hide hL; clear hf hF hL
      go_enter Tryd.func82, Tryd.ntmps82
      go_wp2_with (first | (go_at_call 73; refine (sessionOk_c).mono ?_; rintro e w' ⟨rfl, rfl⟩; rw [Z.out]) | (go_at_call 83; refine (within_c).mono ?_; rintro e w' ⟨rfl, rfl⟩; rw [Y.out]))
      go_ret
      exact ⟨by rw [F.out]; rfl, b1⟩
    · have hf : draftB (f, ys) = !(ys.any fun e => !stepB e) := by unfold draftB; rw [hF, hl.out, hL, not_allA]; simp
      have F := hide hf; have Z := hide hF; have Y := hide hL; clear hf hF hL
      go_enter Tryd.func82, Tryd.ntmps82
      go_wp2_with (first | (go_at_call 73; refine (sessionOk_c).mono ?_; rintro e w' ⟨rfl, rfl⟩; rw [Z.out]) | (go_at_call 83; refine (within_c).mono ?_; rintro e w' ⟨rfl, rfl⟩; rw [Y.out]))
      refine (ContainsFunc_Op_c (sv.below b1)).mono ?_
      rintro e w2 ⟨rfl, b2⟩
      have B2 := below_step b1 b2
      go_wp2_with fail
      go_ret
      exact ⟨by rw [F.out]; rfl, B2⟩
set_option maxHeartbeats 1000000 in
theorem PlanValid_1_c {v : Value} {m : Nat} {ys : List T3} {f : Int} {w : World} (hv : S3 w v m ys) :
    Calls Tryd.prog 81 #[.agg #[.int .i64 f, v]] w fun e w' => e = .returned (.bool (!draftB (f, ys))) ∧ Below w.heap.size w w' := by
  have sv := hv
  obtain ⟨B, d, rfl⟩ := hv.shape
  have b1 : Below w.heap.size w (w.alloc (.cells #[.int .i64 f, .slice B m d] 63)) := (Below.refl _ _).alloc (Nat.le_refl _) _
  go_enter Tryd.func81, Tryd.ntmps81
  go_wp2_with fail
  refine (valid_c (sv.below b1)).mono ?_
  rintro e w2 ⟨rfl, b2⟩
  have B2 := below_step b1 b2
  go_wp2_with fail
  go_ret
  exact ⟨rfl, B2⟩

set_option maxHeartbeats 4000000 in
theorem IndexFunc_Draft_c {A : Option Addr} {n c : Nat} {ms : Ds} {w : World} (hr : RDs w A n ms) (hn : n ≤ 1048576) (hsm : SmallD ms) :
    Calls Tryd.prog 89 #[.slice A n c, .func (.func 81) #[] #[]] w fun e w' => ∃ i : Int, e = .returned (.int .i64 i) ∧ (decide (0 ≤ i)) = ms.any (fun e => !draftB e) ∧ Below w.heap.size w w' := by
  have hl := hide hr.1
  go_enter Tryd.func89, Tryd.ntmps89
  go_wp2
  go_loopw [8] (fun i wr => ∃ k : Nat, k ≤ n ∧ i = .int .i64 k ∧ (ms.take k).any (fun e => !draftB e) = false ∧ Below w.heap.size w wr) (fun i _ => n - (intOf i).toNat)
  case atStart => exact ⟨0, Nat.zero_le _, rfl, by simp, Below.refl _ _⟩
  case round =>
    obtain ⟨k, hk, rfl, hall, bw⟩ := hrel
    have Hall := hide hall; clear hall
    by_cases hlt : k < n
    · obtain ⟨b, off, f, ys, B, kk, d, rfl, hbb, hx, q0, q1, hkd, hdm, hri⟩ := hr.at_ hlt
      have e0 := (bw.cell (p := ⟨b, off + k * 2, none⟩) hbb).trans q0
      have e1 := (bw.cell (p := ⟨b, off + k * 2 + 1, none⟩) hbb).trans q1
      have hsz := hsm _ (List.mem_of_getElem? hx)
      have hyl := hri.len
      have hk1 : kk ≤ 1048576 := by dsimp only at hsz; omega
      have s1 : S3 wr (.slice B kk d) kk ys := S3.of_args hkd hk1 (hri.below bw)
      have Hx := hide hx
      clear hx q0 q1 hsz hyl
      cases hv : draftB (f, ys)
      · have Hv := hide hv; clear hv
        go_wp2_with fail
        refine (PlanValid_1_c s1).mono ?_
        rintro e w2 ⟨rfl, b2⟩
        have B2 := below_step bw b2
        rw [Hv.out]
        go_wp2_with fail
        go_ret
        exact ⟨_, rfl, by rw [any_atA Hx.out (by simp [Hv.out])]; simp, B2⟩
      · have Hv := hide hv; clear hv
        go_wp2_with fail
        refine (PlanValid_1_c s1).mono ?_
        rintro e w2 ⟨rfl, b2⟩
        have B2 := below_step bw b2
        rw [Hv.out]
        go_wp2_with fail
        go_roundw
        case rel => exact ⟨k + 1, by omega, by go_num, any_snocA Hall.out Hx.out (by simp [Hv.out]), B2⟩
        case measure => simp [intOf]; omega
    · go_wp2
      go_ret
      obtain rfl : k = n := by omega
      refine ⟨_, rfl, ?_, bw⟩
      have h1 := Hall.out
      rw [List.take_of_length_le (by rw [hl.out]; omega)] at h1
      rw [h1]; rfl
set_option maxHeartbeats 1000000 in
theorem impl_PlanValid_c {A : Option Addr} {n c : Nat} {ms : Ds} {w : World} (hr : RDs w A n ms) (hn : n ≤ 1048576) (hsm : SmallD ms) :
    Calls Tryd.prog 61 #[.slice A n c] w fun e w' => e = .returned (.bool (planB ms)) ∧ Below w.heap.size w w' := by
  have hl := hide hr.1
  have hC : ∀ {W : World}, RDs W A n ms → Calls Tryd.prog 80 #[.slice A n c, .func (.func 81) #[] #[]] W fun e w' => e = .returned (.bool (ms.any (fun e => !draftB e))) ∧ Below W.heap.size W w' := fun {W} hW => by
    go_enter Tryd.func80, Tryd.ntmps80
    go_wp2_with fail
    refine (IndexFunc_Draft_c hW hn hsm).mono ?_
    rintro e w2 ⟨i, rfl, hi, b2⟩
    have Hi := hide hi; clear hi
    go_wp2_with fail
    go_ret
    exact ⟨by rw [← Hi.out]; rfl, b2⟩
  by_cases h4 : n ≤ 4
  · have hf : planB ms = !(ms.any fun e => !draftB e) := by unfold planB; rw [hl.out, not_allA]; simp [h4]
    have F := hide hf; clear hf
    have hd : ¬ ((4 : Int) < n) := by omega
    go_enter Tryd.func61, Tryd.ntmps61
    go_wp2_with fail
    refine (hC hr).mono ?_
    rintro e w2 ⟨rfl, b2⟩
    go_wp2_with fail
    go_ret
    exact ⟨by rw [F.out]; rfl, b2⟩
  · have hf : planB ms = false := by unfold planB; rw [hl.out]; simp [h4]
    have F := hide hf; clear hf
    go_enter Tryd.func61, Tryd.ntmps61
    go_wp2_with fail
    go_ret
    exact ⟨by rw [F.out]; rfl, Below.refl _ _⟩

set_option maxHeartbeats 400000 in
theorem ScheduleValid_1_c {g : Nat} {many x : Int} {t : TypeId} {w : World} (hb : Blk w g t #[.int .i64 many]) (h0 : 0 ≤ many) (h6 : many ≤ 1048576) :
    Calls Tryd.prog 85 #[.int .i64 x, .pointer (some ⟨g, 0, none⟩)] w fun e w' => e = .returned (.bool (!inB x 0 (many - 1))) ∧ w = w' := by
  have c0 : w.cell? ⟨g, 0, none⟩ = some (.int .i64 many) := hb.cell 0
  clear hb
  go_enter Tryd.func85, Tryd.ntmps85
  go_wp2_with (go_at_call 83; refine (within_c).mono ?_; rintro e w' ⟨rfl, rfl⟩)
  go_ret
  exact ⟨rfl, rfl⟩
set_option maxHeartbeats 1000000 in
theorem IndexFunc_sched_c {g : Nat} {many : Int} {t : TypeId} {v : Value} {n : Nat} {xs : List Int} {w : World} (hs : SI w v n xs) (hb : Blk w g t #[.int .i64 many]) (h0 : 0 ≤ many) (h6 : many ≤ 1048576) :
    Calls Tryd.prog 91 #[v, .func (.func 85) #[] #[.pointer (some ⟨g, 0, none⟩)]] w fun e w' => ∃ i : Int, e = .returned (.int .i64 i) ∧ (decide (0 ≤ i)) = xs.any (fun x => !inB x 0 (many - 1)) ∧ w = w' := by
  obtain ⟨A, c, rfl, hnc, hn, hr⟩ := hs
  have hl := hide hr.len
  go_enter Tryd.func91, Tryd.ntmps91
  go_wp2
  go_loop [8] (fun i => ∃ k : Nat, k ≤ n ∧ i = .int .i64 k ∧ (xs.take k).any (fun x => !inB x 0 (many - 1)) = false) (fun i => n - (intOf i).toNat)
  case atStart => exact ⟨0, Nat.zero_le _, rfl, by simp⟩
  case round =>
    obtain ⟨k, hk, rfl, hall⟩ := hrel
    have Hall := hide hall; clear hall
    by_cases hlt : k < n
    · obtain ⟨b, off, x, rfl, hbb, hx, hc⟩ := hr.at_ hlt
      have Hx := hide hx; clear hx
      cases hv : inB x 0 (many - 1)
      · have Hv := hide hv; clear hv
        go_wp2_with fail
        refine (ScheduleValid_1_c hb h0 h6).mono ?_
        rintro e w' ⟨rfl, rfl⟩
        rw [Hv.out]
        go_wp2_with fail
        go_ret
        exact ⟨_, rfl, by rw [any_atA Hx.out (by simp [Hv.out])]; simp, rfl⟩
      · have Hv := hide hv; clear hv
        go_wp2_with fail
        refine (ScheduleValid_1_c hb h0 h6).mono ?_
        rintro e w' ⟨rfl, rfl⟩
        rw [Hv.out]
        go_wp2_with fail
        go_round
        case rel => exact ⟨k + 1, by omega, by go_num, any_snocA Hall.out Hx.out (by simp [Hv.out])⟩
        case measure => simp [intOf]; omega
    · go_wp2
      go_ret
      obtain rfl : k = n := by omega
      refine ⟨_, rfl, ?_, rfl⟩
      have h1 := Hall.out
      rw [List.take_of_length_le (by rw [hl.out]; omega)] at h1
      rw [h1]; rfl
set_option maxHeartbeats 1000000 in
theorem ContainsFunc_sched_c {g : Nat} {many : Int} {t : TypeId} {v : Value} {n : Nat} {xs : List Int} {w : World} (hs : SI w v n xs) (hb : Blk w g t #[.int .i64 many]) (h0 : 0 ≤ many) (h6 : many ≤ 1048576) :
    Calls Tryd.prog 84 #[v, .func (.func 85) #[] #[.pointer (some ⟨g, 0, none⟩)]] w fun e w' => e = .returned (.bool (xs.any (fun x => !inB x 0 (many - 1)))) ∧ w = w' := by
  obtain ⟨A, c, rfl, hnc, hn, hr⟩ := hs
  go_enter Tryd.func84, Tryd.ntmps84
  go_wp2_with fail
  refine (IndexFunc_sched_c ⟨A, c, rfl, hnc, hn, hr⟩ hb h0 h6).mono ?_
  rintro e w' ⟨i, rfl, hi, rfl⟩
  have Hi := hide hi; clear hi
  go_wp2_with fail
  go_ret
  exact ⟨by rw [← Hi.out]; rfl, rfl⟩
set_option maxHeartbeats 1000000 in
theorem impl_ScheduleValid_c {many : Int} {v : Value} {n : Nat} {xs : List Int} {w : World} (hs : SI w v n xs) (h0 : 0 ≤ many) (h6 : many ≤ 1048576) :
    Calls Tryd.prog 62 #[.int .i64 many, v] w fun e w' => e = .returned (.bool (schedB many xs)) ∧ Below w.heap.size w w' := by
  have ss := hs
  obtain ⟨A, c, rfl, hnc, hn, hr⟩ := hs
  have hl := hide hr.len
  have B0 : ∀ o, Below w.heap.size w (w.alloc o) := fun o => (Below.refl _ _).alloc (Nat.le_refl _) o
  cases h1 : inB many 0 4
  · have hf : schedB many xs = false := by simp [schedB, h1]
    have F := hide hf; have H1 := hide h1; clear hf h1
    go_enter Tryd.func62, Tryd.ntmps62
    go_wp2_with (go_at_call 83; refine (within_c).mono ?_; rintro e w' ⟨rfl, rfl⟩; rw [H1.out])
    go_ret
    exact ⟨by rw [F.out]; rfl, B0 _⟩
  · have H1 := hide h1
    by_cases h40 : n ≤ 40
    · have hf : schedB many xs = !(xs.any (fun x => !inB x 0 (many - 1))) := by
        unfold schedB
        rw [h1, hl.out, not_allA]; simp [h40]
      have F := hide hf; clear hf h1
      have hd : ¬ ((40 : Int) < n) := by omega
      go_enter Tryd.func62, Tryd.ntmps62
      go_wp2_with (go_at_call 83; refine (within_c).mono ?_; rintro e w' ⟨rfl, rfl⟩; rw [H1.out])
      refine (ContainsFunc_sched_c (ss.below (B0 _)) (Blk.new w _ _) h0 h6).mono ?_
      rintro e w' ⟨rfl, rfl⟩
      go_wp2_with fail
      go_ret
      exact ⟨by rw [F.out]; rfl, B0 _⟩
    · have hf : schedB many xs = false := by
        unfold schedB
        rw [h1, hl.out]; simp [h40]
      have F := hide hf; clear hf h1
      go_enter Tryd.func62, Tryd.ntmps62
      go_wp2_with (go_at_call 83; refine (within_c).mono ?_; rintro e w' ⟨rfl, rfl⟩; rw [H1.out])
      go_ret
      exact ⟨by rw [F.out]; rfl, B0 _⟩

set_option maxHeartbeats 1000000 in
theorem runnable_c {A : Option Addr} {n c : Nat} {ms : Ds} {v : Value} {m : Nat} {xs : List Int} {w : World} (hr : RDs w A n ms) (hn : n ≤ 1048576) (hsm : SmallD ms) (hs : SI w v m xs) :
    Calls Tryd.prog 33 #[.slice A n c, v] w fun e w' => e = .returned (.bool (runB ms xs)) ∧ Below w.heap.size w w' := by
  have hl := hide hr.1
  cases hp : planB ms
  · have hf : runB ms xs = false := by simp [runB, hp]
    have F := hide hf; have P := hide hp; clear hf hp
    go_enter Tryd.func33, Tryd.ntmps33
    go_wp2_with fail
    refine (impl_PlanValid_c hr hn hsm).mono ?_
    rintro e w2 ⟨rfl, b2⟩
    rw [P.out]
    go_wp2_with fail
    go_ret
    exact ⟨by rw [F.out]; rfl, b2⟩
  · have hf : runB ms xs = schedB n xs := by simp [runB, hp, hl.out]
    have F := hide hf; have P := hide hp; clear hf hp
    go_enter Tryd.func33, Tryd.ntmps33
    go_wp2_with fail
    refine (impl_PlanValid_c hr hn hsm).mono ?_
    rintro e w2 ⟨rfl, b2⟩
    rw [P.out]
    go_wp2_with fail
    refine (impl_ScheduleValid_c (hs.below b2) (by omega) (by omega)).mono ?_
    rintro e w3 ⟨rfl, b3⟩
    go_wp2_with fail
    go_ret
    exact ⟨by rw [F.out]; rfl, below_step b2 b3⟩

end Go.Proofs.YtieecneknljmdaaDoor
