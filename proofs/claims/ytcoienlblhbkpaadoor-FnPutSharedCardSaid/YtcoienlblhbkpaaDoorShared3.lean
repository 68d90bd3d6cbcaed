/- l30Sorted. -/
import Derived.Test.YtcoienlblhbkpaaDoorShared2
import Derived.Deep.RegionHeld3
namespace Go.Proofs.YtcoienlblhbkpaaDoor
open Go.RowKit

set_option maxHeartbeats 4000000 in
theorem l30Sorted_c {v : Value} {n : Nat} {xs : List Int} {w : World} (hs : SI w v n xs) :
    Calls Tryd.prog 54 #[v] w fun e w' => e = .returned (.bool (ascB (-1) xs)) ∧ Below w.heap.size w w' := by
  obtain ⟨A, c, rfl, hnc, hn, hr⟩ := hs
  have hl := hide hr.len
  go_enter Tryd.func54, Tryd.ntmps54
  go_wp2
  go_loopw [3] (fun i wr => ∃ k : Nat, k ≤ n ∧ i = .int .i64 k ∧ ascB (-1) (xs.take k) = true ∧ Below w.heap.size w wr) (fun i _ => n - (intOf i).toNat)
  case atStart => exact ⟨0, Nat.zero_le _, rfl, by simp [ascB], Below.refl _ _⟩
  case round =>
    obtain ⟨k, hk, rfl, hall, hbel⟩ := hrel
    have Hall := hide hall; clear hall
    by_cases hlt : k < n
    · obtain ⟨b, off, x, rfl, hb, hx, hc⟩ := hr.at_ hlt
      have Hx := hide hx; clear hx
      have hd1 : wr.cell? ⟨b, off + k, none⟩ = some (.int .i64 x) := (hbel.cell hb).trans hc
      clear hc
      have hng : ∀ h : inB x 0 30 = false, ascB (-1) xs = false := fun h => by
        rw [← Bool.not_eq_true]; intro ht
        have := ascB_gt xs (-1) ht x (List.mem_of_getElem? Hx.out)
        rw [inB_not] at h; omega
      cases hv : inB x 0 30
      · have F := hide (hng hv); have Hv := hide hv; clear hv hng
        go_wp2
        go_quiet ((go_at_call 48; refine (l1In_c).mono ?_; rintro e w' ⟨rfl, rfl⟩; rw [Hv.out]; exact ⟨rfl, _, rfl⟩))
        all_goals go_wp2_with fail
        all_goals go_ret
        all_goals exact ⟨by rw [F.out]; rfl, below_drewN hbel _⟩
      · have Hv := hide hv; clear hng
        have hv' := (inB_iff _ _ _).1 hv
        clear hv
        by_cases hk0 : k = 0
        · have hr1 : ascB (-1) (xs.take (k + 1)) = true := by
            have e := Hx.out
            subst hk0
            cases xs with
            | nil => simp at e
            | cons q qs => simp at e; subst e; simp [ascB, inB_iff]; omega
          have R := hide hr1; clear hr1 hv'
          have hk1 : ¬ (0 : Int) < (k : Int) := by omega
          have hk2 : ¬ 0 < k := by omega
          clear hk0
          go_wp2
          go_quiet ((  go_at_call 48; refine (l1In_c).mono ?_; rintro e w' ⟨rfl, rfl⟩; rw [Hv.out]; exact ⟨rfl, _, rfl⟩))
          go_wp2
          go_roundw
          case rel => exact ⟨k + 1, by omega, by go_num, R.out, below_drewN hbel _⟩
          case measure => simp [intOf]; omega
        · obtain ⟨j, rfl⟩ : ∃ j, k = j + 1 := ⟨k - 1, by omega⟩
          obtain ⟨b2, off2, y, e2, hb2, hy, hc2⟩ := hr.at_ (show j < n by omega)
          injection e2 with e2; injection e2 with e21 e22 _
          subst e21; subst e22
          have hd2 : wr.cell? ⟨b, off + j, none⟩ = some (.int .i64 y) := (hbel.cell hb2).trans hc2
          clear hc2 hb2 hk0
          have hy0 := (ascB_gt _ _ Hall.out y (by
            refine List.mem_of_getElem? (i := j) ?_
            rw [List.getElem?_take, if_pos (by omega)]; exact hy)).1
          have hs := ascB_snoc (-1) xs (j + 1) x y (by omega) Hall.out (by simpa using hy) Hx.out
          have Hy := hide hy; clear hy
          have jn : (j : Int) < n := by omega
          have j0 : (0 : Int) ≤ j := by omega
          have hk2 : 0 < j + 1 := by omega
          by_cases hxy : x ≤ y
          · have hf : ascB (-1) xs = false := by
              rw [← Bool.not_eq_true]; intro ht
              have h1 := ascB_take xs (-1) (j + 1 + 1) ht
              rw [hs, inB_iff] at h1; omega
            have F := hide hf; clear hf hs hv' hy0
            go_wp2
            go_quiet ((  go_at_call 48; refine (l1In_c).mono ?_; rintro e w' ⟨rfl, rfl⟩; rw [Hv.out]; exact ⟨rfl, _, rfl⟩))
            go_wp2
            go_ret
            exact ⟨by rw [F.out]; rfl, below_drewN hbel _⟩
          · have ht : ascB (-1) (xs.take (j + 1 + 1)) = true := by rw [hs, inB_iff]; omega
            have R := hide ht; clear ht hs hv' hy0
            go_wp2
            go_quiet ((  go_at_call 48; refine (l1In_c).mono ?_; rintro e w' ⟨rfl, rfl⟩; rw [Hv.out]; exact ⟨rfl, _, rfl⟩))
            go_wp2
            go_roundw
            case rel => exact ⟨j + 1 + 1, by omega, by go_num, R.out, below_drewN hbel _⟩
            case measure => simp [intOf]; omega
    · go_wp2
      go_ret
      obtain rfl : k = n := by omega
      have h1 := Hall.out
      rw [List.take_of_length_le (by rw [hl.out]; omega)] at h1
      exact ⟨by rw [h1]; rfl, hbel⟩

end Go.Proofs.YtcoienlblhbkpaaDoor
