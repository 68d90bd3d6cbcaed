/- InShared: the reference's. -/
import Derived.Test.YtcoienlblhbkpaaDoorShared10
import Derived.Test.YtcoienlblhbkpaaDoorShr
import Derived.Test.YtcoienlblhbkpaaDoorApp
namespace Go.Proofs.YtcoienlblhbkpaaDoor
open Go.RowKit

theorem OI.drewN {w : World} {B : Nat} {v : Value} {n : Nat} {xs : List Int} (h : OI w B v n xs) (k : Nat) : OI (w.drewN k) B v n xs := h
theorem filter_snoc (p : Int → Bool) {xs : List Int} {k : Nat} {x : Int} (hx : xs[k]? = some x) : (xs.take (k + 1)).filter p = (xs.take k).filter p ++ (if p x then [x] else []) := by
  rw [List.take_add_one, hx, List.filter_append]
  cases h : p x <;> simp [h]

set_option maxHeartbeats 4000000 in
theorem spec_InShared_c {u v : Value} {n m : Nat} {xs ys : List Int} {w : World} (hu : SI w u n xs) (hv : SI w v m ys) :
    Calls Tryd.prog 13 #[.agg #[u, v]] w (RetI w (inL xs ys)) := by
  have su := hu
  obtain ⟨A, c, rfl, hnc, hn, hr⟩ := hu
  obtain ⟨B, d, rfl⟩ := hv.shape
  have hb : Below w.heap.size w (w.alloc (.cells #[.slice A n c, .slice B m d] 27)) := (Below.refl _ _).alloc (Nat.le_refl _) _
  have K := Blk.new w 27 #[.slice A n c, .slice B m d]
  have hl := hide hr.len
  have hempty : OI ((w.alloc (.cells #[.slice A n c, .slice B m d] 27)).alloc (.cells #[] 3)) (w.heap.size + 1) (.slice (some ⟨w.heap.size + 1, 0, none⟩) 0 0) 0 [] := by
    have := OI.empty (w.alloc (.cells #[.slice A n c, .slice B m d] 27))
    simpa using this
  go_enter Tryd.func13, Tryd.ntmps13
  go_wp2_with fail
  go_loopw [3, 4] (fun s i wr => ∃ (k : Nat) (ds : List Int), i = .int .i64 k ∧ k ≤ n ∧ (sharedB xs ys = true → ds = (xs.take k).filter fun x => !hasB ys x) ∧ (sharedB xs ys = false → ds = []) ∧ ds.length ≤ k ∧ OI wr (w.heap.size + 1) s ds.length ds ∧ Blk wr w.heap.size 27 #[.slice A n c, .slice B m d] ∧ Below w.heap.size w wr) (fun _ i _ => n - (intOf i).toNat)
  case atStart => exact ⟨0, [], rfl, Nat.zero_le _, fun _ => by simp, fun _ => rfl, Nat.le_refl _, hempty, K.alloc _, hb.alloc (by simp) _⟩
  case round =>
    obtain ⟨k, ds, rfl, hk, hd1, hd2, hdk, ho, KR, hbel⟩ := hrel
    have Hd1 := hide hd1; have Hd2 := hide hd2; clear hd1 hd2
    obtain ⟨t0, t1, f0, f1⟩ := KR.two
    by_cases hlt : k < n
    · obtain ⟨b, off, x, rfl, hb2, hx, hc⟩ := hr.at_ hlt
      have Hx := hide hx; clear hx
      cases hs : sharedB xs ys
      · have S := hide hs; clear hs
        go_wp2_with fail
        refine (spec_SharedValid_c (su.below hbel) (hv.below hbel)).mono ?_
        rintro e w2 ⟨rfl, b2⟩
        rw [S.out]
        have B2 := below_step hbel b2
        go_wp2_with fail
        go_ret
        refine ⟨_, 0, rfl, ?_, B2⟩
        have e1 := Hd2.out S.out
        subst e1
        have e2 : inL xs ys = [] := by simp [inL, S.out]
        rw [e2]
        exact (ho.below b2).mono (by omega)
      · have S := hide hs; clear hs
        go_wp2_with fail
        refine (spec_SharedValid_c (su.below hbel) (hv.below hbel)).mono ?_
        rintro e w2 ⟨rfl, b2⟩
        rw [S.out]
        have B2 := below_step hbel b2
        have o2 := ho.below b2
        replace KR := KR.belowAll b2
        clear t0 t1 f0 f1
        obtain ⟨t0, t1, f0, f1⟩ := KR.two
        have hd : w2.cell? ⟨b, off + k, none⟩ = some (.int .i64 x) := (B2.cell hb2).trans hc
        clear hc
        have hstep : (xs.take (k + 1)).filter (fun x => !hasB ys x) = ds ++ (if hasB ys x then [] else [x]) := by
          rw [Hd1.out S.out, filter_snoc _ Hx.out]
          cases hasB ys x <;> rfl
        cases hh : hasB ys x
        · rw [hh] at hstep
          have H := hide hh; have St := hide hstep; clear hh hstep
          go_wp2_with fail
          go_quiet ((go_at_call 43; refine (l30Has_c ((hv.below B2).below (below_drewN (Below.refl _ _) _))).mono ?_; rintro e w' ⟨rfl, rfl⟩; rw [H.out]; exact ⟨rfl, _, rfl⟩))
          have hz2 := B2.size
          go_wp2_with (at_builtin; refine wpList_appI rfl _ _ rfl rfl ((o2.drewN _).alloc _) rfl (SI.one _ _ _ (by omega)) (by omega) (by simp <;> omega) ?_; intro v1 w4 h4 hg4 hat)
          go_roundw
          case rel =>
            refine ⟨k + 1, ds ++ [x], by go_num, by omega, fun _ => ?_, fun h => ?_, by simp; omega, ?_, ?_, ?_⟩
            · rw [St.out]; simp
            · first | cases h | (rw [S.out] at h; cases h)
            · rw [List.length_append]; exact h4
            · exact ((KR.drewN _).alloc _).grown hg4 (o2.far (by omega))
            · exact below_app ((below_drewN B2 _).alloc (by simp <;> omega) _) ((o2.drewN _).alloc _) (by omega) hg4
          case measure => simp [intOf]; omega
        · rw [hh] at hstep
          have H := hide hh; have St := hide hstep; clear hh hstep
          go_wp2_with fail
          go_quiet ((go_at_call 43; refine (l30Has_c ((hv.below B2).below (below_drewN (Below.refl _ _) _))).mono ?_; rintro e w' ⟨rfl, rfl⟩; rw [H.out]; exact ⟨rfl, _, rfl⟩))
          go_wp2_with fail
          go_roundw
          case rel =>
            refine ⟨k + 1, ds, by go_num, by omega, fun _ => ?_, fun h => ?_, by omega, o2.drewN _, KR.drewN _, below_drewN B2 _⟩
            · rw [St.out]; simp
            · first | cases h | (rw [S.out] at h; cases h)
          case measure => simp [intOf]; omega
    · obtain rfl : k = n := by omega
      go_wp2_with fail
      go_ret
      refine ⟨_, ds.length, rfl, ?_, hbel⟩
      have e2 : inL xs ys = ds := by
        cases hs : sharedB xs ys
        · rw [Hd2.out hs]; simp [inL, hs]
        · rw [Hd1.out hs, List.take_of_length_le (by rw [hl.out]; omega)]; simp [inL, hs]
      rw [e2]
      exact ho.mono (by omega)

end Go.Proofs.YtcoienlblhbkpaaDoor
