/- 'members': the numbers of the bits. -/
import Derived.Test.YtcoienlblhbkpaaDoorTab
import Derived.Test.YtcoienlblhbkpaaDoorShq
import Derived.Test.YtcoienlblhbkpaaDoorApp
namespace Go.Proofs.YtcoienlblhbkpaaDoor
open Go.RowKit

theorem run_make_cap (c : Nat) (hc : c ≤ 127) (w : World) :
    (Instr.makeSlice 22 (.int .i64 0) (.int .i64 (c : Int))).run Tryd.prog w = .ok (.slice (some ⟨w.heap.size, 0, none⟩) 0 c) (w.alloc (.cells (madeCells #[.int .i64 0] c) 3)) := by
  obtain ⟨i, hi, hz, hs, hb⟩ := info_parts intInfo
  have := run_make_rowN 22 3 i (.int .i64 0) Tryd.underlying22 hi hz .i64 .i64 0 c (Nat.zero_le _) (by rw [hb]; omega) (by omega) w
  rw [hs, Nat.mul_one] at this
  exact this
theorem OI.made (w : World) (c : Nat) (hc : c ≤ 127) : OI (w.alloc (.cells (madeCells #[.int .i64 0] c) 3)) w.heap.size (.slice (some ⟨w.heap.size, 0, none⟩) 0 c) 0 [] :=
  ⟨World.ownsRow_made w _ c (Nat.le_refl _) (by simp only [maxLen]; omega) (by rw [size_madeCells]; omega), by omega⟩
theorem memL_zero : memL 0 = [] := by unfold memL; simp
theorem memL_len (q : Nat) : (memL q).length ≤ 31 := by
  unfold memL; rw [List.length_map]; exact Nat.le_trans (List.length_filter_le _ _) (by simp)
theorem clear_low {q : Nat} (h0 : q ≠ 0) (hq : q < 2 ^ 31) : bits .and .u64 (q : Int) ((q : Int) - 1) = ((q &&& (q - 1) : Nat) : Int) := by
  rw [show ((q : Int) - 1) = ((q - 1 : Nat) : Int) by omega, bits_and_u64_nat q (q - 1) (by omega) (by omega)]


set_option maxHeartbeats 2000000 in
theorem members_c {q : Nat} {w : World} (hq : q < 2 ^ 31) (hT : Tab w) :
    Calls Tryd.prog 46 #[.int .u64 (q : Int)] w (RetI w (memL q)) := by
  have hmk := run_make_cap
  go_enter Tryd.func46, Tryd.ntmps46
  go_wp2_with fail
  refine (oc_c _ _).mono ?_
  rintro e w' ⟨c, rfl, c0, c1, rfl⟩
  obtain ⟨c, rfl⟩ : ∃ k : Nat, c = k := ⟨c.toNat, by omega⟩
  have hmk1 := run_make_cap c (by omega)
  go_wp2_with fail
  go_loopw [0, 3] (fun s v wr => ∃ (r : Nat) (ds : List Int), s = .int .u64 (r : Int) ∧ r < 2 ^ 31 ∧ ds ++ memL r = memL q ∧ OI wr w'.heap.size v ds.length ds ∧ Below w'.heap.size w' wr) (fun s _ _ => (intOf s).toNat)
  case atStart => exact ⟨q, [], rfl, hq, rfl, OI.made w' c (by omega), (Below.refl _ _).alloc (Nat.le_refl _) _⟩
  case round =>
    obtain ⟨r, ds, rfl, hr, hds, ho, hb⟩ := hrel
    have Hds := hide hds
    have hlen : ds.length ≤ 31 := by have := congrArg List.length hds; rw [List.length_append] at this; have := memL_len q; omega
    clear hds
    by_cases h0 : r = 0
    · subst h0
      go_wp2_with fail
      go_ret
      have e := Hds.out
      rw [memL_zero, List.append_nil] at e
      rw [← e]
      exact ⟨_, _, rfl, ho, hb⟩
    · obtain ⟨k, hk, hm, hlow, hlt, hdec⟩ := mem_round hr h0
      have Hm := hide hm; have Hlow := hide hlow; clear hm hlow
      have hne : ((r : Int) == 0) = false := by simp; omega
      have key := hide (clear_low h0 hr)
      go_wp2_with fail
      refine (tz_c h0 (by omega) (by omega) Hlow.out (hT.below hb)).mono ?_
      rintro e w2 ⟨rfl, rfl⟩
      go_wp2_with (at_builtin; refine wpList_appI rfl _ _ rfl rfl (ho.alloc _) rfl (SI.one _ _ _ (by omega)) (by omega) (by have := hb.size; simp <;> omega) ?_; intro v1 w4 h4 hg4 hat)
      have B4 := below_app (hb.alloc hb.size (.cells #[.int .i64 (k : Int)] 3)) (ho.alloc _) (Nat.le_refl _) hg4
      go_roundw
      case rel =>
        refine ⟨r &&& (r - 1), ds ++ [(k : Int)], ?_, hlt, ?_, ?_, B4⟩
        · rw [key.out]
        · rw [List.append_assoc, List.singleton_append, ← Hm.out]; exact Hds.out
        · rw [List.length_append]; exact h4
      case measure => (try rw [key.out]); simp [intOf]; omega

end Go.Proofs.YtcoienlblhbkpaaDoor
