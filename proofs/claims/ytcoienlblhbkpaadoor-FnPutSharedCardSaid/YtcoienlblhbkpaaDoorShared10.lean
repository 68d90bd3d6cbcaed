/- SharedValid: the reference's. -/
import Derived.Test.YtcoienlblhbkpaaDoorShared9
namespace Go.Proofs.YtcoienlblhbkpaaDoor
open Go.RowKit

theorem all_snocS {p : Int → Bool} {xs : List Int} {k : Nat} {x : Int} (h : (xs.take k).all p = true) (hx : xs[k]? = some x) (hp : p x = true) : (xs.take (k + 1)).all p = true := by
  rw [List.take_add_one, hx, List.all_append, h]; simp [hp]

set_option maxHeartbeats 4000000 in
theorem spec_SharedValid_c {u v : Value} {n m : Nat} {xs ys : List Int} {w : World} (hu : SI w u n xs) (hv : SI w v m ys) :
    Calls Tryd.prog 30 #[.agg #[u, v]] w fun e w' => e = .returned (.bool (sharedB xs ys)) ∧ Below w.heap.size w w' := by
  obtain ⟨A, c, rfl⟩ := hu.shape
  obtain ⟨B, d, rfl, hmd, hm, hr⟩ := hv
  have hb : Below w.heap.size w (w.alloc (.cells #[.slice A n c, .slice B m d] 27)) := (Below.refl _ _).alloc (Nat.le_refl _) _
  have K := Blk.new w 27 #[.slice A n c, .slice B m d]
  have hl := hide hr.len
  go_enter Tryd.func30, Tryd.ntmps30
  go_wp2_with fail
  generalize w.alloc (.cells #[.slice A n c, .slice B m d] 27) = w1 at *
  go_loopw [3] (fun i wr => ∃ k : Nat, k ≤ m ∧ i = .int .i64 k ∧ (ys.take k).all (hasB xs) = true ∧ Blk wr w.heap.size 27 #[.slice A n c, .slice B m d] ∧ Below w.heap.size w wr) (fun i _ => m - (intOf i).toNat)
  case atStart => exact ⟨0, Nat.zero_le _, rfl, by simp, K, hb⟩
  case round =>
    obtain ⟨k, hk, rfl, hall, KR, hbel⟩ := hrel
    have Hall := hide hall; clear hall
    obtain ⟨t0, t1, f0, f1⟩ := KR.two
    by_cases hlt : k < m
    · obtain ⟨b, off, x, rfl, hb2, hx, hc⟩ := hr.at_ hlt
      have Hx := hide hx; clear hx
      have hd : wr.cell? ⟨b, off + k, none⟩ = some (.int .i64 x) := (hbel.cell hb2).trans hc
      clear hc
      cases hh : hasB xs x
      · have hf : sharedB xs ys = false := by
          rw [← Bool.not_eq_true]; intro ht
          simp only [sharedB, Bool.and_eq_true, List.all_eq_true] at ht
          have := ht.1 x (List.mem_of_getElem? Hx.out)
          rw [hh] at this; cases this
        have F := hide hf; have H := hide hh; clear hf hh
        go_wp2_with fail
        go_quiet ((  go_at_call 43; refine (l30Has_c ((hu.below hbel).below (below_drewN (Below.refl _ _) _))).mono ?_; rintro e w' ⟨rfl, rfl⟩; rw [H.out]; exact ⟨rfl, _, rfl⟩))
        go_wp2_with fail
        go_ret
        exact ⟨by rw [F.out]; rfl, below_drewN hbel _⟩
      · have H := hide hh; clear hh
        go_wp2_with fail
        go_quiet ((  go_at_call 43; refine (l30Has_c ((hu.below hbel).below (below_drewN (Below.refl _ _) _))).mono ?_; rintro e w' ⟨rfl, rfl⟩; rw [H.out]; exact ⟨rfl, _, rfl⟩))
        go_wp2_with fail
        go_roundw
        case rel => exact ⟨k + 1, by omega, by go_num, all_snocS Hall.out Hx.out H.out, KR.drewN _, below_drewN hbel _⟩
        case measure => simp [intOf]; omega
    · obtain rfl : k = m := by omega
      have hs : sharedB xs ys = (ascB (-1) xs && ascB (-1) ys) := by
        have h1 := Hall.out
        rw [List.take_of_length_le (by rw [hl.out]; omega)] at h1
        unfold sharedB
        rw [h1, Bool.true_and]
      have S := hide hs; clear hs
      have hv1 : SI wr (.slice B k d) k ys := ⟨_, _, rfl, hmd, hm, hr.below hbel⟩
      cases h1 : ascB (-1) xs
      · have H1 := hide h1; clear h1
        go_wp2_with fail
        refine (l30Sorted_c (hu.below hbel)).mono ?_
        rintro e w2 ⟨rfl, b2⟩
        have B2 := below_step hbel b2
        rw [H1.out]
        go_wp2_with fail
        go_ret
        exact ⟨by rw [S.out, H1.out]; rfl, B2⟩
      · have H1 := hide h1; clear h1
        go_wp2_with fail
        refine (l30Sorted_c (hu.below hbel)).mono ?_
        rintro e w2 ⟨rfl, b2⟩
        have B2 := below_step hbel b2
        rw [H1.out]
        replace KR := KR.belowAll b2
        clear t0 t1 f0 f1
        obtain ⟨t0, t1, f0, f1⟩ := KR.two
        go_wp2_with fail
        refine (l30Sorted_c (hv1.below b2)).mono ?_
        rintro e w3 ⟨rfl, b3⟩
        have B3 := below_step B2 b3
        go_wp2_with fail
        go_ret
        exact ⟨by rw [S.out, H1.out]; rfl, B3⟩

end Go.Proofs.YtcoienlblhbkpaaDoor
