/- Merged (what the law reaches): PlanI, RunI5, Drs3, RunW, Lw, HistP. -/
import Derived.Test.YtcfkemchekmjbaaGreatDoorQj
namespace Go.Proofs.YtcfkemchekmjbaaGreatDoor
open Go.RowKit
set_option maxHeartbeats 400000 in
theorem keyOk_c {n : Int} {w : World} : Calls Tryz.prog 150 #[.int .i64 n] w fun e w' => e = .returned (.bool (inB n 0 2)) ∧ w = w' := by
  go_enter Tryz.func150, Tryz.ntmps150
  go_wp2_with (go_at_call 56; refine (within_c).mono ?_; rintro e w' ⟨rfl, rfl⟩)
  go_ret
  exact ⟨rfl, rfl⟩
set_option maxHeartbeats 400000 in
theorem sessionOk_c {n : Int} {w : World} : Calls Tryz.prog 103 #[.int .i64 n] w fun e w' => e = .returned (.bool (inB n 0 3)) ∧ w = w' := by
  go_enter Tryz.func103, Tryz.ntmps103
  go_wp2_with (go_at_call 56; refine (within_c).mono ?_; rintro e w' ⟨rfl, rfl⟩)
  go_ret
  exact ⟨rfl, rfl⟩
set_option maxHeartbeats 2000000 in
theorem valid_1_c {x y z : Int} {w : World} :
    Calls Tryz.prog 183 #[.agg #[.int .i64 x, .int .i64 y, .int .i64 z]] w fun e w' => e = .returned (.bool (!stepB (x, y, z))) ∧ Below w.heap.size w w' := by
  have B0 : ∀ o, Below w.heap.size w (w.alloc o) := fun o => (Below.refl _ _).alloc (Nat.le_refl _) o
  rcases step_cases x y z with ⟨h1, hf⟩ | ⟨h1, h2, hf⟩ | ⟨h1, h2, h3, hf⟩ | ⟨h1, h2, h3, hf⟩
  · have F := hide hf; have H1 := hide h1; clear hf h1
    go_enter Tryz.func183, Tryz.ntmps183
    go_wp2_with (first | (go_at_call 56; refine (within_c).mono ?_; rintro e w' ⟨rfl, rfl⟩; rw [H1.out]))
    go_ret
    exact ⟨by rw [F.out]; rfl, B0 _⟩
  · have F := hide hf; have H1 := hide h1; have H2 := hide h2; clear hf h1 h2
    go_enter Tryz.func183, Tryz.ntmps183
    go_wp2_with (first | (go_at_call 56; refine (within_c).mono ?_; rintro e w' ⟨rfl, rfl⟩; rw [H1.out]) | (go_at_call 150; refine (keyOk_c).mono ?_; rintro e w' ⟨rfl, rfl⟩; rw [H2.out]))
    go_ret
    exact ⟨by rw [F.out]; rfl, B0 _⟩
  · have F := hide hf; have H1 := hide h1; have H2 := hide h2; have H3 := hide h3; clear hf h1 h2 h3
    go_enter Tryz.func183, Tryz.ntmps183
    go_wp2_with (first | (go_at_call 56; refine (within_c).mono ?_; rintro e w' ⟨rfl, rfl⟩; rw [H1.out]) | (go_at_call 150; refine (keyOk_c).mono ?_; rintro e w' ⟨rfl, rfl⟩; rw [H2.out]))
    go_ret
    exact ⟨by rw [F.out]; show Ending.returned (.bool (z != 0)) = _; rw [bne, H3.out], B0 _⟩
  · have F := hide hf; have H1 := hide h1; have H2 := hide h2; have H3 := hide h3; clear hf h1 h2 h3
    go_enter Tryz.func183, Tryz.ntmps183
    go_wp2_with (first | (go_at_call 56; refine (within_c).mono ?_; rintro e w' ⟨rfl, rfl⟩; rw [H1.out]) | (go_at_call 150; refine (keyOk_c).mono ?_; rintro e w' ⟨rfl, rfl⟩; rw [H2.out]))
    go_ret
    exact ⟨by rw [F.out]; show Ending.returned (.bool (z != 0)) = _; rw [bne, H3.out], B0 _⟩
set_option maxHeartbeats 4000000 in
theorem IndexFunc_Op_c {v : Value} {n : Nat} {ts : List T3} {w : World} (hs : S3 w v n ts) :
    Calls Tryz.prog 152 #[v, .func (.func 183) #[] #[]] w fun e w' => ∃ i : Int, e = .returned (.int .i64 i) ∧ (decide (0 ≤ i)) = ts.any (fun e => !stepB e) ∧ Below w.heap.size w w' := by
  obtain ⟨A, c, rfl, hnc, hn, hr⟩ := hs
  have hl := hide hr.len
  go_enter Tryz.func152, Tryz.ntmps152
  go_wp2
  go_loopw [8] (fun i wr => ∃ k : Nat, k ≤ n ∧ i = .int .i64 k ∧ (ts.take k).any (fun e => !stepB e) = false ∧ Below w.heap.size w wr) (fun i _ => n - (intOf i).toNat)
  case atStart => exact ⟨0, Nat.zero_le _, rfl, by simp, Below.refl _ _⟩
  case round =>
    obtain ⟨k, hk, rfl, hall, hbel⟩ := hrel
    have Hall := hide hall; clear hall
    by_cases hlt : k < n
    · obtain ⟨b, off, x, y, z, rfl, hbk, hx, p0, p1, p2⟩ := hr.at_ hlt
      have Hx := hide hx; clear hx
      have a0 := (hbel.cell (p := ⟨b, off + k * 3, none⟩) hbk).trans p0
      have a1 := (hbel.cell (p := ⟨b, off + k * 3 + 1, none⟩) hbk).trans p1
      have a2 := (hbel.cell (p := ⟨b, off + k * 3 + 2, none⟩) hbk).trans p2
      clear p0 p1 p2
      cases hv : stepB (x, y, z)
      · have Hv := hide hv; clear hv
        go_wp2_with fail
        refine (valid_1_c).mono ?_
        rintro e w2 ⟨rfl, b2⟩
        have B2 := below_step hbel b2
        rw [Hv.out]
        go_wp2_with fail
        go_ret
        exact ⟨_, rfl, by rw [any_atA Hx.out (by simp [Hv.out])]; simp, B2⟩
      · have Hv := hide hv; clear hv
        go_wp2_with fail
        refine (valid_1_c).mono ?_
        rintro e w2 ⟨rfl, b2⟩
        have B2 := below_step hbel b2
        rw [Hv.out]
        go_wp2_with fail
        go_roundw
        case rel => exact ⟨k + 1, by omega, by go_num, any_snocA Hall.out Hx.out (by simp [Hv.out]), B2⟩
        case measure => simp [intOf]; omega
    · go_wp2
      go_ret
      obtain rfl : k = n := by omega
      refine ⟨_, rfl, ?_, hbel⟩
      have h1 := Hall.out
      rw [List.take_of_length_le (by rw [hl.out]; omega)] at h1
      rw [h1]; rfl
set_option maxHeartbeats 1000000 in
theorem ContainsFunc_Op_c {v : Value} {n : Nat} {ts : List T3} {w : World} (hs : S3 w v n ts) :
    Calls Tryz.prog 104 #[v, .func (.func 183) #[] #[]] w fun e w' => e = .returned (.bool (ts.any (fun e => !stepB e))) ∧ Below w.heap.size w w' := by
  obtain ⟨A, c, rfl, hnc, hn, hr⟩ := hs
  go_enter Tryz.func104, Tryz.ntmps104
  go_wp2_with fail
  refine (IndexFunc_Op_c ⟨A, c, rfl, hnc, hn, hr⟩).mono ?_
  rintro e w2 ⟨i, rfl, hi, b2⟩
  have Hi := hide hi; clear hi
  go_wp2_with fail
  go_ret
  exact ⟨by rw [← Hi.out]; rfl, b2⟩
set_option maxHeartbeats 2000000 in
theorem valid_c {v : Value} {m : Nat} {ys : List T3} {f : Int} {w : World} (hv : S3 w v m ys) :
    Calls Tryz.prog 146 #[.agg #[.int .i64 f, v]] w fun e w' => e = .returned (.bool (draftB (f, ys))) ∧ Below w.heap.size w w' := by
  have sv := hv
  have hbd := hv.bd
  have hl := hide hv.len
  obtain ⟨B, d, rfl⟩ := hv.shape
  have b1 : Below w.heap.size w (w.alloc (.cells #[.int .i64 f, .slice B m d] 77)) := (Below.refl _ _).alloc (Nat.le_refl _) _
  cases hF : inB f 0 3
  · have hf := draftB_ses (ys := ys) hF
    have F := hide hf; have Z := hide hF; clear hf hF
    go_enter Tryz.func146, Tryz.ntmps146
    go_wp2_with (first | (go_at_call 103; refine (sessionOk_c).mono ?_; rintro e w' ⟨rfl, rfl⟩; rw [Z.out]))
    go_ret
    exact ⟨by rw [F.out]; rfl, b1⟩
  · cases hL : inB (m : Int) 1 4
    · have hf := draftB_len (f := f) hl.out hL
      have F := hide hf; have Z := hide hF; have Y := hide hL; clear hf hF hL
      go_enter Tryz.func146, Tryz.ntmps146
      go_wp2_with (first | (go_at_call 103; refine (sessionOk_c).mono ?_; rintro e w' ⟨rfl, rfl⟩; rw [Z.out]) | (go_at_call 56; refine (within_c).mono ?_; rintro e w' ⟨rfl, rfl⟩; rw [Y.out]))
      go_ret
      exact ⟨by rw [F.out]; rfl, b1⟩
    · have hf : draftB (f, ys) = !(ys.any fun e => !stepB e) := by unfold draftB; rw [hF, hl.out, hL, not_allA]; simp
      have F := hide hf; have Z := hide hF; have Y := hide hL; clear hf hF hL
      go_enter Tryz.func146, Tryz.ntmps146
      go_wp2_with (first | (go_at_call 103; refine (sessionOk_c).mono ?_; rintro e w' ⟨rfl, rfl⟩; rw [Z.out]) | (go_at_call 56; refine (within_c).mono ?_; rintro e w' ⟨rfl, rfl⟩; rw [Y.out]))
      refine (ContainsFunc_Op_c (sv.below b1)).mono ?_
      rintro e w2 ⟨rfl, b2⟩
      have B2 := below_step b1 b2
      go_wp2_with fail
      go_ret
      exact ⟨by rw [F.out]; rfl, B2⟩
set_option maxHeartbeats 1000000 in
theorem PlanValid_1_c {v : Value} {m : Nat} {ys : List T3} {f : Int} {w : World} (hv : S3 w v m ys) :
    Calls Tryz.prog 145 #[.agg #[.int .i64 f, v]] w fun e w' => e = .returned (.bool (!draftB (f, ys))) ∧ Below w.heap.size w w' := by
  have sv := hv
  obtain ⟨B, d, rfl⟩ := hv.shape
  have b1 : Below w.heap.size w (w.alloc (.cells #[.int .i64 f, .slice B m d] 77)) := (Below.refl _ _).alloc (Nat.le_refl _) _
  go_enter Tryz.func145, Tryz.ntmps145
  go_wp2_with fail
  refine (valid_c (sv.below b1)).mono ?_
  rintro e w2 ⟨rfl, b2⟩
  have B2 := below_step b1 b2
  go_wp2_with fail
  go_ret
  exact ⟨rfl, B2⟩
set_option maxHeartbeats 4000000 in
theorem IndexFunc_Draft_c {A : Option Addr} {n c : Nat} {ms : Ds} {w : World} (hr : RDs w A n ms) (hn : n ≤ 1048576) (hsm : SmallD ms) :
    Calls Tryz.prog 182 #[.slice A n c, .func (.func 145) #[] #[]] w fun e w' => ∃ i : Int, e = .returned (.int .i64 i) ∧ (decide (0 ≤ i)) = ms.any (fun e => !draftB e) ∧ Below w.heap.size w w' := by
  have hl := hide hr.1
  go_enter Tryz.func182, Tryz.ntmps182
  go_wp2
  go_loopw [8] (fun i wr => ∃ k : Nat, k ≤ n ∧ i = .int .i64 k ∧ (ms.take k).any (fun e => !draftB e) = false ∧ Below w.heap.size w wr) (fun i _ => n - (intOf i).toNat)
  case atStart => exact ⟨0, Nat.zero_le _, rfl, by simp, Below.refl _ _⟩
  case round =>
    obtain ⟨k, hk, rfl, hall, bw⟩ := hrel
    have Hall := hide hall; clear hall
    by_cases hlt : k < n
    · obtain ⟨b, off, f, ys, B, kk, d, rfl, hbb, hx, q0, q1, hkd, hdm, hri⟩ := hr.at_ hlt
      have e0 := (bw.cell (p := ⟨b, off + k * 2, none⟩) hbb).trans q0
      have e1 := (bw.cell (p := ⟨b, off + k * 2 + 1, none⟩) hbb).trans q1
      have hsz := hsm _ (List.mem_of_getElem? hx)
      have hyl := hri.len
      have hk1 : kk ≤ 1048576 := by dsimp only at hsz; omega
      have s1 : S3 wr (.slice B kk d) kk ys := S3.of_args hkd hk1 (hri.below bw)
      have Hx := hide hx
      clear hx q0 q1 hsz hyl
      cases hv : draftB (f, ys)
      · have Hv := hide hv; clear hv
        go_wp2_with fail
        refine (PlanValid_1_c s1).mono ?_
        rintro e w2 ⟨rfl, b2⟩
        have B2 := below_step bw b2
        rw [Hv.out]
        go_wp2_with fail
        go_ret
        exact ⟨_, rfl, by rw [any_atA Hx.out (by simp [Hv.out])]; simp, B2⟩
      · have Hv := hide hv; clear hv
        go_wp2_with fail
        refine (PlanValid_1_c s1).mono ?_
        rintro e w2 ⟨rfl, b2⟩
        have B2 := below_step bw b2
        rw [Hv.out]
        go_wp2_with fail
        go_roundw
        case rel => exact ⟨k + 1, by omega, by go_num, any_snocA Hall.out Hx.out (by simp [Hv.out]), B2⟩
        case measure => simp [intOf]; omega
    · go_wp2
      go_ret
      obtain rfl : k = n := by omega
      refine ⟨_, rfl, ?_, bw⟩
      have h1 := Hall.out
      rw [List.take_of_length_le (by rw [hl.out]; omega)] at h1
      rw [h1]; rfl
set_option maxHeartbeats 1000000 in
theorem impl_PlanValid_c {A : Option Addr} {n c : Nat} {ms : Ds} {w : World} (hr : RDs w A n ms) (hn : n ≤ 1048576) (hsm : SmallD ms) :
    Calls Tryz.prog 92 #[.slice A n c] w fun e w' => e = .returned (.bool (planB ms)) ∧ Below w.heap.size w w' := by
  have hl := hide hr.1
  have hC : ∀ {W : World}, RDs W A n ms → Calls Tryz.prog 144 #[.slice A n c, .func (.func 145) #[] #[]] W fun e w' => e = .returned (.bool (ms.any (fun e => !draftB e))) ∧ Below W.heap.size W w' := fun {W} hW => by
    go_enter Tryz.func144, Tryz.ntmps144
    go_wp2_with fail
    refine (IndexFunc_Draft_c hW hn hsm).mono ?_
    rintro e w2 ⟨i, rfl, hi, b2⟩
    have Hi := hide hi; clear hi
    go_wp2_with fail
    go_ret
    exact ⟨by rw [← Hi.out]; rfl, b2⟩
  by_cases h4 : n ≤ 4
  · have hf : planB ms = !(ms.any fun e => !draftB e) := by unfold planB; rw [hl.out, not_allA]; simp [h4]
    have F := hide hf; clear hf
    have hd : ¬ ((4 : Int) < n) := by omega
    go_enter Tryz.func92, Tryz.ntmps92
    go_wp2_with fail
    refine (hC hr).mono ?_
    rintro e w2 ⟨rfl, b2⟩
    go_wp2_with fail
    go_ret
    exact ⟨by rw [F.out]; rfl, b2⟩
  · have hf : planB ms = false := by unfold planB; rw [hl.out]; simp [h4]
    have F := hide hf; clear hf
    go_enter Tryz.func92, Tryz.ntmps92
    go_wp2_with fail
    go_ret
    exact ⟨by rw [F.out]; rfl, Below.refl _ _⟩
set_option maxHeartbeats 400000 in
theorem ScheduleValid_1_c {g : Nat} {many x : Int} {t : TypeId} {w : World} (hb : Blk w g t #[.int .i64 many]) (h0 : 0 ≤ many) (h6 : many ≤ 1048576) :
    Calls Tryz.prog 147 #[.int .i64 x, .pointer (some ⟨g, 0, none⟩)] w fun e w' => e = .returned (.bool (!inB x 0 (many - 1))) ∧ w = w' := by
  have c0 : w.cell? ⟨g, 0, none⟩ = some (.int .i64 many) := hb.cell 0
  clear hb
  go_enter Tryz.func147, Tryz.ntmps147
  go_wp2_with (go_at_call 56; refine (within_c).mono ?_; rintro e w' ⟨rfl, rfl⟩)
  go_ret
  exact ⟨rfl, rfl⟩
set_option maxHeartbeats 1000000 in
theorem IndexFunc_sched_c {g : Nat} {many : Int} {t : TypeId} {v : Value} {n : Nat} {xs : List Int} {w : World} (hs : SI w v n xs) (hb : Blk w g t #[.int .i64 many]) (h0 : 0 ≤ many) (h6 : many ≤ 1048576) :
    Calls Tryz.prog 177 #[v, .func (.func 147) #[] #[.pointer (some ⟨g, 0, none⟩)]] w fun e w' => ∃ i : Int, e = .returned (.int .i64 i) ∧ (decide (0 ≤ i)) = xs.any (fun x => !inB x 0 (many - 1)) ∧ w = w' := by
  obtain ⟨A, c, rfl, hnc, hn, hr⟩ := hs
  have hl := hide hr.len
  go_enter Tryz.func177, Tryz.ntmps177
  go_wp2
  go_loop [8] (fun i => ∃ k : Nat, k ≤ n ∧ i = .int .i64 k ∧ (xs.take k).any (fun x => !inB x 0 (many - 1)) = false) (fun i => n - (intOf i).toNat)
  case atStart => exact ⟨0, Nat.zero_le _, rfl, by simp⟩
  case round =>
    obtain ⟨k, hk, rfl, hall⟩ := hrel
    have Hall := hide hall; clear hall
    by_cases hlt : k < n
    · obtain ⟨b, off, x, rfl, hbb, hx, hc⟩ := hr.at_ hlt
      have Hx := hide hx; clear hx
      cases hv : inB x 0 (many - 1)
      · have Hv := hide hv; clear hv
        go_wp2_with fail
        refine (ScheduleValid_1_c hb h0 h6).mono ?_
        rintro e w' ⟨rfl, rfl⟩
        rw [Hv.out]
        go_wp2_with fail
        go_ret
        exact ⟨_, rfl, by rw [any_atA Hx.out (by simp [Hv.out])]; simp, rfl⟩
      · have Hv := hide hv; clear hv
        go_wp2_with fail
        refine (ScheduleValid_1_c hb h0 h6).mono ?_
        rintro e w' ⟨rfl, rfl⟩
        rw [Hv.out]
        go_wp2_with fail
        go_round
        case rel => exact ⟨k + 1, by omega, by go_num, any_snocA Hall.out Hx.out (by simp [Hv.out])⟩
        case measure => simp [intOf]; omega
    · go_wp2
      go_ret
      obtain rfl : k = n := by omega
      refine ⟨_, rfl, ?_, rfl⟩
      have h1 := Hall.out
      rw [List.take_of_length_le (by rw [hl.out]; omega)] at h1
      rw [h1]; rfl
set_option maxHeartbeats 1000000 in
theorem ContainsFunc_sched_c {g : Nat} {many : Int} {t : TypeId} {v : Value} {n : Nat} {xs : List Int} {w : World} (hs : SI w v n xs) (hb : Blk w g t #[.int .i64 many]) (h0 : 0 ≤ many) (h6 : many ≤ 1048576) :
    Calls Tryz.prog 132 #[v, .func (.func 147) #[] #[.pointer (some ⟨g, 0, none⟩)]] w fun e w' => e = .returned (.bool (xs.any (fun x => !inB x 0 (many - 1)))) ∧ w = w' := by
  obtain ⟨A, c, rfl, hnc, hn, hr⟩ := hs
  go_enter Tryz.func132, Tryz.ntmps132
  go_wp2_with fail
  refine (IndexFunc_sched_c ⟨A, c, rfl, hnc, hn, hr⟩ hb h0 h6).mono ?_
  rintro e w' ⟨i, rfl, hi, rfl⟩
  have Hi := hide hi; clear hi
  go_wp2_with fail
  go_ret
  exact ⟨by rw [← Hi.out]; rfl, rfl⟩
set_option maxHeartbeats 1000000 in
theorem impl_ScheduleValid_c {many : Int} {v : Value} {n : Nat} {xs : List Int} {w : World} (hs : SI w v n xs) (h0 : 0 ≤ many) (h6 : many ≤ 1048576) :
    Calls Tryz.prog 93 #[.int .i64 many, v] w fun e w' => e = .returned (.bool (schedB many xs)) ∧ Below w.heap.size w w' := by
  have ss := hs
  obtain ⟨A, c, rfl, hnc, hn, hr⟩ := hs
  have hl := hide hr.len
  have B0 : ∀ o, Below w.heap.size w (w.alloc o) := fun o => (Below.refl _ _).alloc (Nat.le_refl _) o
  cases h1 : inB many 0 4
  · have hf : schedB many xs = false := by simp [schedB, h1]
    have F := hide hf; have H1 := hide h1; clear hf h1
    go_enter Tryz.func93, Tryz.ntmps93
    go_wp2_with (go_at_call 56; refine (within_c).mono ?_; rintro e w' ⟨rfl, rfl⟩; rw [H1.out])
    go_ret
    exact ⟨by rw [F.out]; rfl, B0 _⟩
  · have H1 := hide h1
    by_cases h40 : n ≤ 40
    · have hf : schedB many xs = !(xs.any (fun x => !inB x 0 (many - 1))) := by
        unfold schedB
        rw [h1, hl.out, not_allA]; simp [h40]
      have F := hide hf; clear hf h1
      have hd : ¬ ((40 : Int) < n) := by omega
      go_enter Tryz.func93, Tryz.ntmps93
      go_wp2_with (go_at_call 56; refine (within_c).mono ?_; rintro e w' ⟨rfl, rfl⟩; rw [H1.out])
      refine (ContainsFunc_sched_c (ss.below (B0 _)) (Blk.new w _ _) h0 h6).mono ?_
      rintro e w' ⟨rfl, rfl⟩
      go_wp2_with fail
      go_ret
      exact ⟨by rw [F.out]; rfl, B0 _⟩
    · have hf : schedB many xs = false := by
        unfold schedB
        rw [h1, hl.out]; simp [h40]
      have F := hide hf; clear hf h1
      go_enter Tryz.func93, Tryz.ntmps93
      go_wp2_with (go_at_call 56; refine (within_c).mono ?_; rintro e w' ⟨rfl, rfl⟩; rw [H1.out])
      go_ret
      exact ⟨by rw [F.out]; rfl, B0 _⟩
set_option maxHeartbeats 1000000 in
theorem runnable_c {A : Option Addr} {n c : Nat} {ms : Ds} {v : Value} {m : Nat} {xs : List Int} {w : World} (hr : RDs w A n ms) (hn : n ≤ 1048576) (hsm : SmallD ms) (hs : SI w v m xs) :
    Calls Tryz.prog 32 #[.slice A n c, v] w fun e w' => e = .returned (.bool (runB ms xs)) ∧ Below w.heap.size w w' := by
  have hl := hide hr.1
  cases hp : planB ms
  · have hf : runB ms xs = false := by simp [runB, hp]
    have F := hide hf; have P := hide hp; clear hf hp
    go_enter Tryz.func32, Tryz.ntmps32
    go_wp2_with fail
    refine (impl_PlanValid_c hr hn hsm).mono ?_
    rintro e w2 ⟨rfl, b2⟩
    rw [P.out]
    go_wp2_with fail
    go_ret
    exact ⟨by rw [F.out]; rfl, b2⟩
  · have hf : runB ms xs = schedB n xs := by simp [runB, hp, hl.out]
    have F := hide hf; have P := hide hp; clear hf hp
    go_enter Tryz.func32, Tryz.ntmps32
    go_wp2_with fail
    refine (impl_PlanValid_c hr hn hsm).mono ?_
    rintro e w2 ⟨rfl, b2⟩
    rw [P.out]
    go_wp2_with fail
    refine (impl_ScheduleValid_c (hs.below b2) (by omega) (by omega)).mono ?_
    rintro e w3 ⟨rfl, b3⟩
    go_wp2_with fail
    go_ret
    exact ⟨by rw [F.out]; rfl, below_step b2 b3⟩
end Go.Proofs.YtcfkemchekmjbaaGreatDoor

namespace Go.Proofs.YtcfkemchekmjbaaGreatDoor
open Go.RowKit
theorem Mach.chg {S : Nat → Prop} {w w' : World} {lo gm n c : Nat} {A : Option Addr} {v : Value} {ts : List Tx} {es : List El} (h : Mach w lo gm A n c v ts es) (hc : Chg S w w') (h1 : ¬ S gm) (h2 : ∀ k, OT.S v es k → ¬ S k) : Mach w' lo gm A n c v ts es :=
  ⟨h.box.chg hc h1, h.own.chg hc h2, h.says, h.lt⟩
set_option maxHeartbeats 1000000 in
theorem history_c {w : World} {lo gm n c : Nat} {A : Option Addr} {v : Value} {ts : List Tx} {es : List El} (M : Mach w lo gm A n c v ts es) (hn : n ≤ 1048575) (hsm : SmallT ts) :
    Calls Tryz.prog 39 #[.pointer (some ⟨gm, 0, none⟩)] w fun e w' => ∃ v' es, e = .returned v' ∧ OV w' w.heap.size v' n es ∧ SaysT es ts ∧ Below w.heap.size w w' := by
  obtain ⟨m0, m1, _, _⟩ := M.box.two
  go_enter Tryz.func39, Tryz.ntmps39
  go_wp2_with fail
  refine (copyHistory_c (M.own.sts M.says) hn hsm).mono ?_
  rintro e w2 ⟨v', es', rfl, D, hs, b2⟩
  go_wp2_with fail
  go_ret
  exact ⟨_, es', rfl, D, hs, b2⟩
theorem Fits.small {ds : Ds} {ts : List Tx} (h : Fits ds ts) (hd : ∀ d ∈ ds, draftB d = true) : SmallT ts := fun t ht => by
  obtain ⟨i, hi, he⟩ := List.mem_iff_getElem.1 ht
  have h1 : ts[i]? = some t := by rw [← he]; exact List.getElem?_eq_getElem hi
  obtain ⟨d, t', h2, h3, _, _, _, h4, _⟩ := h.at_ (n := i) (by rw [← h.1]; exact hi)
  rw [h1] at h3; injection h3 with h3; subst h3
  have := (draftB_parts (hd d (List.mem_of_getElem? h2))).2.1
  omega
/-- A state's values in an array's block. -/
def storeC (st : List Int) : Array Value := (st.map (Value.int .i64)).toArray
theorem storeC_get {st : List Int} {i : Nat} {x : Int} (h : st[i]? = some x) : (storeC st)[i]? = some (.int .i64 x) := by simp [storeC, h]
theorem storeC_set (st : List Int) (i : Nat) (x : Int) : (storeC st).setIfInBounds i (.int .i64 x) = storeC (st.set i x) := by
  unfold storeC; apply Array.ext'; rw [Array.toList_setIfInBounds]; simp [List.map_set]
end Go.Proofs.YtcfkemchekmjbaaGreatDoor

namespace Go.Proofs.YtcfkemchekmjbaaGreatDoor
open Go.RowKit
/-- The cells of n drafts; 'is': the steps of the first ones. -/
def csD (n : Nat) (cs : List Value) (is : List In) : Prop := cs.length = n * 2 ∧ ∀ (j : Nat) (q : In), is[j]? = some q → j < n ∧ cs[j * 2 + 1]? = some q.1 ∧ ∃ x, cs[j * 2]? = some (.int .i64 x)
theorem csD.push {n k : Nat} {cs : List Value} {is : List In} (h : csD n cs is) (hl : is.length = k) (hk : k < n) (f : Int) (q : In) : csD n ((cs.set (k * 2) (.int .i64 f)).set (k * 2 + 1) q.1) (is ++ [q]) := by
  obtain ⟨h1, h2⟩ := h
  refine ⟨by simp [h1], fun j p hj => ?_⟩
  by_cases e : j < is.length
  · rw [List.getElem?_append_left e] at hj
    obtain ⟨h3, h4, x, h5⟩ := h2 j p hj
    refine ⟨h3, ?_, x, ?_⟩
    · rw [List.getElem?_set_ne (by omega), List.getElem?_set_ne (by omega)]; exact h4
    · rw [List.getElem?_set_ne (by omega), List.getElem?_set_ne (by omega)]; exact h5
  · obtain rfl : j = is.length := by have := (List.getElem?_eq_some_iff.1 hj).1; simp at this; omega
    simp at hj
    subst hj; subst hl
    refine ⟨hk, ?_, f, ?_⟩
    · rw [List.getElem?_set_self (by simp; omega)]
    · rw [List.getElem?_set_ne (by omega), List.getElem?_set_self (by omega)]
theorem csD.int {n : Nat} {cs : List Value} {is : List In} (h : csD n cs is) (k : Nat) (f : Int) : csD n (cs.set (k * 2) (.int .i64 f)) is := by
  obtain ⟨h1, h2⟩ := h
  refine ⟨by simp [h1], fun j p hj => ?_⟩
  obtain ⟨h3, h4, x, h5⟩ := h2 j p hj
  refine ⟨h3, ?_, ?_⟩
  · rw [List.getElem?_set_ne (by omega)]; exact h4
  · by_cases e : k = j
    · subst e; exact ⟨f, List.getElem?_set_self (by omega)⟩
    · exact ⟨x, by rw [List.getElem?_set_ne (by omega)]; exact h5⟩
/-- The drafts 'ms', all the call's own, from block lo on. -/
def ODs (w : World) (lo g n : Nat) (ms : Ds) : Prop := ∃ cs is, Dp 77 61 3 w lo g cs is ∧ csD n cs is ∧ is.map (·.2.1) = ms.map (·.2.length)
theorem ODs.below {w w' : World} {lo g n : Nat} {ms : Ds} (h : ODs w lo g n ms) (hb : Below w.heap.size w w') : ODs w' lo g n ms := by
  obtain ⟨cs, is, h1, h2, h3⟩ := h; exact ⟨cs, is, h1.below hb, h2, h3⟩
end Go.Proofs.YtcfkemchekmjbaaGreatDoor

namespace Go.Proofs.YtcfkemchekmjbaaGreatDoor
/-- A history that may lie there: at most 4 transactions of at most 4 operations. -/
def Lean4 (ts : List Tx) : Prop := ts.length ≤ 4 ∧ ∀ t ∈ ts, t.2.1.length ≤ 4
theorem Lean4.nil : Lean4 [] := ⟨by simp, fun t h => by simp at h⟩
theorem Fits.four {ms : Ds} {xs : List Int} {ts : List Tx} (h : Fits ms ts) (hr : runB ms xs = true) : Lean4 ts := by
  obtain ⟨hn, hdb, _, _⟩ := runB_parts hr
  refine ⟨by rw [h.1]; exact hn, fun t ht => ?_⟩
  obtain ⟨i, hi, he⟩ := List.mem_iff_getElem.1 ht
  have h1 : ts[i]? = some t := by rw [← he]; exact List.getElem?_eq_getElem hi
  obtain ⟨d, t', h2, h3, _, _, _, h4, _⟩ := h.at_ (n := i) (by rw [← h.1]; exact hi)
  rw [h1] at h3; injection h3 with h3; subst h3
  have := (draftB_parts (hdb d (List.mem_of_getElem? h2))).2.1
  omega
theorem Lean4.small {ts : List Tx} (h : Lean4 ts) : SmallT ts := fun t ht => by have := h.2 t ht; omega
end Go.Proofs.YtcfkemchekmjbaaGreatDoor

namespace Go.Proofs.YtcfkemchekmjbaaGreatDoor
open Go.RowKit
def opB (o : T3) : Bool := inB o.1 1 2 && (inB o.2.1 0 2 && (inB o.2.2 0 99 && ((o.1 == 1) || decide (0 < o.2.2))))
def txnB (t : Tx) : Bool := t.2.1.all opB && (inB t.1 0 3 && decide (t.2.1.length ≤ 6))
/-- The last write to a key. -/
def lastK (os : List T3) (key : Int) : Option T3 := os.reverse.find? fun o => decide (o.1 = 2) && decide (o.2.1 = key)
/-- The last operation on a key. -/
def lastO (os : List T3) (key : Int) : Option T3 := os.reverse.find? fun o => decide (o.2.1 = key)
def lastW (os : List T3) : List T3 := (lastK os 0).toList ++ ((lastK os 1).toList ++ (lastK os 2).toList)
/-- What a transaction sees at a key, beside a store. -/
def seesV (os : List T3) (st : List Int) (key : Nat) : Int := match lastK os key with | some o => o.2.2 | none => st.getD key 0
def ownV (os : List T3) (key : Int) (other : Int) : Int := match lastO os key with | some o => o.2.2 | none => other
theorem snoc_ind {α : Type} {motive : List α → Prop} (nil : motive []) (append_singleton : ∀ l a, motive l → motive (l ++ [a])) (l : List α) : motive l := by
  have h : ∀ r : List α, motive r.reverse := by
    intro r
    induction r with
    | nil => exact nil
    | cons a r ih => rw [List.reverse_cons]; exact append_singleton _ _ ih
  have := h l.reverse
  rwa [List.reverse_reverse] at this
theorem lastK_some {os : List T3} {key : Int} {o : T3} (h : lastK os key = some o) : o ∈ os ∧ o.1 = 2 ∧ o.2.1 = key := by
  unfold lastK at h
  have h1 := List.find?_some h
  have h2 := List.mem_of_find?_eq_some h
  simp at h1 h2
  exact ⟨h2, h1⟩
theorem lastO_some {os : List T3} {key : Int} {o : T3} (h : lastO os key = some o) : o ∈ os ∧ o.2.1 = key := by
  unfold lastO at h
  have h1 := List.find?_some h
  have h2 := List.mem_of_find?_eq_some h
  simp at h1 h2
  exact ⟨h2, h1⟩
theorem lastK_snoc (os : List T3) (o : T3) (key : Int) : lastK (os ++ [o]) key = if o.1 = 2 ∧ o.2.1 = key then some o else lastK os key := by
  unfold lastK
  rw [List.reverse_append]
  simp only [List.reverse_singleton, List.singleton_append, List.find?_cons]
  by_cases h : o.1 = 2 ∧ o.2.1 = key
  · simp [h]
  · rw [if_neg h]
    have : (decide (o.1 = 2) && decide (o.2.1 = key)) = false := by simpa using h
    rw [this]
theorem lastO_snoc (os : List T3) (o : T3) (key : Int) : lastO (os ++ [o]) key = if o.2.1 = key then some o else lastO os key := by
  unfold lastO
  rw [List.reverse_append]
  simp only [List.reverse_singleton, List.singleton_append, List.find?_cons]
  by_cases h : o.2.1 = key
  · simp [h]
  · rw [if_neg h]
    have : decide (o.2.1 = key) = false := by simpa using h
    rw [this]
/-- From behind: nothing among the last ones, then it. -/
theorem lastK_at {os : List T3} {k : Nat} {o : T3} {key : Int} (hk : os[k]? = some o) (ho : o.1 = 2 ∧ o.2.1 = key) (hb : ∀ j p, k < j → os[j]? = some p → ¬ (p.1 = 2 ∧ p.2.1 = key)) : lastK os key = some o := by
  induction os using snoc_ind with
  | nil => simp at hk
  | append_singleton l a ih =>
    rw [lastK_snoc]
    by_cases e : k < l.length
    · have h1 := hb l.length a e (by simp)
      rw [if_neg h1]
      rw [List.getElem?_append_left e] at hk
      exact ih hk (fun j p hj hp => hb j p hj (by rw [List.getElem?_append_left (List.getElem?_eq_some_iff.1 hp).1]; exact hp))
    · have : k = l.length := by have := (List.getElem?_eq_some_iff.1 hk).1; simp at this; omega
      subst this
      simp at hk; subst hk
      rw [if_pos ho]
theorem lastK_none {os : List T3} {key : Int} (hb : ∀ (j : Nat) p, os[j]? = some p → ¬ (p.1 = 2 ∧ p.2.1 = key)) : lastK os key = none := by
  cases h : lastK os key with
  | none => rfl
  | some o =>
    obtain ⟨h1, h2⟩ := lastK_some h
    obtain ⟨j, hj, he⟩ := List.mem_iff_getElem.1 h1
    exact absurd h2 (hb j o (by rw [← he]; exact List.getElem?_eq_getElem hj))
theorem lastO_at {os : List T3} {k : Nat} {o : T3} {key : Int} (hk : os[k]? = some o) (ho : o.2.1 = key) (hb : ∀ j p, k < j → os[j]? = some p → ¬ p.2.1 = key) : lastO os key = some o := by
  induction os using snoc_ind with
  | nil => simp at hk
  | append_singleton l a ih =>
    rw [lastO_snoc]
    by_cases e : k < l.length
    · have h1 := hb l.length a e (by simp)
      rw [if_neg h1]
      rw [List.getElem?_append_left e] at hk
      exact ih hk (fun j p hj hp => hb j p hj (by rw [List.getElem?_append_left (List.getElem?_eq_some_iff.1 hp).1]; exact hp))
    · have : k = l.length := by have := (List.getElem?_eq_some_iff.1 hk).1; simp at this; omega
      subst this
      simp at hk; subst hk
      rw [if_pos ho]
theorem lastO_none {os : List T3} {key : Int} (hb : ∀ (j : Nat) p, os[j]? = some p → ¬ p.2.1 = key) : lastO os key = none := by
  cases h : lastO os key with
  | none => rfl
  | some o =>
    obtain ⟨h1, h2⟩ := lastO_some h
    obtain ⟨j, hj, he⟩ := List.mem_iff_getElem.1 h1
    exact absurd h2 (hb j o (by rw [← he]; exact List.getElem?_eq_getElem hj))
theorem lastW_mem {os : List T3} {o : T3} (h : o ∈ lastW os) : o ∈ os ∧ o.1 = 2 := by
  unfold lastW at h
  simp only [List.mem_append, Option.mem_toList] at h
  rcases h with h | h | h
  · exact ⟨(lastK_some h).1, (lastK_some h).2.1⟩
  · exact ⟨(lastK_some h).1, (lastK_some h).2.1⟩
  · exact ⟨(lastK_some h).1, (lastK_some h).2.1⟩
/-- The last writes of the keys below k. -/
def lastTo (os : List T3) (k : Nat) : List T3 := (List.range k).flatMap fun (j : Nat) => (lastK os (j : Int)).toList
theorem lastTo_succ (os : List T3) (k : Nat) : lastTo os (k + 1) = lastTo os k ++ (lastK os (k : Int)).toList := by
  unfold lastTo; rw [List.range_succ, List.flatMap_append]; simp
theorem lastTo_three (os : List T3) : lastTo os 3 = lastW os := by
  rw [lastTo_succ, lastTo_succ, lastTo_succ]
  simp [lastTo, lastW]
theorem lastTo_len (os : List T3) (k : Nat) : (lastTo os k).length ≤ k := by
  induction k with
  | zero => simp [lastTo]
  | succ k ih =>
    rw [lastTo_succ, List.length_append]
    have : (lastK os (k : Int)).toList.length ≤ 1 := by cases lastK os (k : Int) <;> simp
    omega
end Go.Proofs.YtcfkemchekmjbaaGreatDoor

namespace Go.Proofs.YtcfkemchekmjbaaGreatDoor
open Go.RowKit
def wOf (o : T3) : Option (Int × Int) := if o.1 = 2 then some (o.2.1, o.2.2) else none
def wl (os : List T3) : List (Int × Int) := os.filterMap wOf
def allOps (ts : List Tx) : List T3 := ts.flatMap (·.2.1)
/-- All operations before place j of transaction k. -/
def opsTo (ts : List Tx) (k j : Nat) : List T3 := allOps (ts.take k) ++ ((ts.getD k (0, [], false)).2.1).take j
def histB (ts : List Tx) : Bool := decide (ts.length ≤ 6) && (ts.all txnB && decide ((wl (allOps ts)).Nodup))
theorem wl_append (a b : List T3) : wl (a ++ b) = wl a ++ wl b := by simp [wl]
theorem wl_one_w {o : T3} (h : o.1 = 2) : wl [o] = [(o.2.1, o.2.2)] := by simp [wl, wOf, h]
theorem wl_one_r {o : T3} (h : o.1 ≠ 2) : wl [o] = [] := by simp [wl, wOf, h]
theorem allOps_append (a b : List Tx) : allOps (a ++ b) = allOps a ++ allOps b := by simp [allOps]
theorem opsTo_zero (ts : List Tx) : opsTo ts 0 0 = [] := by simp [opsTo, allOps]
theorem opsTo_op {ts : List Tx} {k j : Nat} {t : Tx} {o : T3} (ht : ts[k]? = some t) (ho : t.2.1[j]? = some o) : opsTo ts k (j + 1) = opsTo ts k j ++ [o] := by
  have e : ts.getD k (0, [], false) = t := by simp [List.getD, ht]
  unfold opsTo
  rw [e, List.take_add_one, ho]
  simp
theorem opsTo_next {ts : List Tx} {k j : Nat} {t : Tx} (ht : ts[k]? = some t) (hj : t.2.1.length ≤ j) : opsTo ts (k + 1) 0 = opsTo ts k j := by
  have e : ts.getD k (0, [], false) = t := by simp [List.getD, ht]
  unfold opsTo
  rw [e, List.take_add_one, ht, List.take_of_length_le hj, allOps_append]
  simp [allOps]
theorem opsTo_all {ts : List Tx} {k : Nat} (hk : ts.length ≤ k) : opsTo ts k 0 = allOps ts := by
  unfold opsTo
  rw [List.take_of_length_le hk]; simp
/-- What stands before a place, and what stands behind it. -/
theorem opsTo_split {ts : List Tx} {k : Nat} {t : Tx} (ht : ts[k]? = some t) (j : Nat) : ∃ r, allOps ts = opsTo ts k j ++ r := by
  have e : ts.getD k (0, [], false) = t := by simp [List.getD, ht]
  have h1 : ts = ts.take k ++ t :: ts.drop (k + 1) := by
    have hk := (List.getElem?_eq_some_iff.1 ht)
    obtain ⟨hk, hv⟩ := hk
    rw [← hv, List.getElem_cons_drop, List.take_append_drop]
  refine ⟨t.2.1.drop j ++ allOps (ts.drop (k + 1)), ?_⟩
  have h2 : allOps ts = allOps (ts.take k ++ t :: ts.drop (k + 1)) := congrArg allOps h1
  rw [h2, allOps_append]
  unfold opsTo
  rw [e]
  have h3 : allOps (t :: ts.drop (k + 1)) = t.2.1 ++ allOps (ts.drop (k + 1)) := by simp [allOps]
  rw [h3, List.append_assoc, ← List.append_assoc (t.2.1.take j), List.take_append_drop]
theorem wl_all_split {ts : List Tx} {k j : Nat} {t : Tx} {o : T3} (ht : ts[k]? = some t) (ho : t.2.1[j]? = some o) (hw : o.1 = 2) : ∃ r, wl (allOps ts) = wl (opsTo ts k j) ++ (o.2.1, o.2.2) :: r := by
  obtain ⟨r, hr⟩ := opsTo_split ht (j + 1)
  refine ⟨wl r, ?_⟩
  rw [hr, wl_append, opsTo_op ht ho, wl_append, wl_one_w hw]
  simp
/-- A value that was written before. -/
theorem histB_twice {ts : List Tx} {k j : Nat} {t : Tx} {o : T3} (ht : ts[k]? = some t) (ho : t.2.1[j]? = some o) (hw : o.1 = 2) (hm : (o.2.1, o.2.2) ∈ wl (opsTo ts k j)) : ¬ (wl (allOps ts)).Nodup := by
  obtain ⟨r, hr⟩ := wl_all_split ht ho hw
  rw [hr]
  intro h
  exact (List.nodup_append.1 h).2.2 _ hm _ (List.mem_cons_self ..) rfl
theorem wl_step_w {ts : List Tx} {k j : Nat} {t : Tx} {o : T3} (ht : ts[k]? = some t) (ho : t.2.1[j]? = some o) (hw : o.1 = 2) : wl (opsTo ts k (j + 1)) = wl (opsTo ts k j) ++ [(o.2.1, o.2.2)] := by
  rw [opsTo_op ht ho, wl_append, wl_one_w hw]
theorem wl_step_r {ts : List Tx} {k j : Nat} {t : Tx} {o : T3} (ht : ts[k]? = some t) (ho : t.2.1[j]? = some o) (hw : o.1 ≠ 2) : wl (opsTo ts k (j + 1)) = wl (opsTo ts k j) := by
  rw [opsTo_op ht ho, wl_append, wl_one_r hw]; simp
theorem nodup_snoc {α : Type} {l : List α} {a : α} (h : l.Nodup) (ha : a ∉ l) : (l ++ [a]).Nodup :=
  List.nodup_append.2 ⟨h, by simp, fun x hx y hy e => by simp at hy; subst hy; subst e; exact ha hx⟩
theorem histB_parts {ts : List Tx} (h : histB ts = true) : ts.length ≤ 6 ∧ (∀ t ∈ ts, txnB t = true) ∧ (wl (allOps ts)).Nodup := by
  unfold histB at h
  simp only [Bool.and_eq_true, decide_eq_true_eq, List.all_eq_true] at h
  exact h
theorem histB_mk {ts : List Tx} (h1 : ts.length ≤ 6) (h2 : ∀ t ∈ ts, txnB t = true) (h3 : (wl (allOps ts)).Nodup) : histB ts = true := by
  unfold histB
  simp only [Bool.and_eq_true, decide_eq_true_eq, List.all_eq_true]
  exact ⟨h1, h2, h3⟩
/-- The numbers of the committed transactions among the first k. -/
def doneTo (ts : List Tx) : Nat → List Int
  | 0 => []
  | k + 1 => doneTo ts k ++ (if (ts.getD k (0, [], false)).2.2 then [(k : Int)] else [])
theorem doneTo_yes {ts : List Tx} {k : Nat} {t : Tx} (h : ts[k]? = some t) (hb : t.2.2 = true) : doneTo ts (k + 1) = doneTo ts k ++ [(k : Int)] := by
  simp [doneTo, List.getD, h, hb]
theorem doneTo_no {ts : List Tx} {k : Nat} {t : Tx} (h : ts[k]? = some t) (hb : t.2.2 = false) : doneTo ts (k + 1) = doneTo ts k := by
  simp [doneTo, List.getD, h, hb]
theorem doneTo_len (ts : List Tx) (k : Nat) : (doneTo ts k).length ≤ k := by
  induction k with
  | zero => simp [doneTo]
  | succ k ih => simp only [doneTo, List.length_append]; split <;> simp <;> omega
def doneL (ts : List Tx) : List Int := doneTo ts ts.length
theorem txnB_opH {f : Int} {dn : Bool} {ys : List T3} (h : txnB (f, ys, dn) = true) {k : Nat} {o : T3} (hk : ys[k]? = some o) : opB o = true := by
  unfold txnB at h
  simp only [Bool.and_eq_true] at h
  exact List.all_eq_true.1 h.1 o (List.mem_of_getElem? hk)
theorem txnB_lenH {f : Int} {dn : Bool} {ys : List T3} (h : txnB (f, ys, dn) = true) : ys.length ≤ 6 := by
  unfold txnB at h; simp at h; exact h.2.2
end Go.Proofs.YtcfkemchekmjbaaGreatDoor
