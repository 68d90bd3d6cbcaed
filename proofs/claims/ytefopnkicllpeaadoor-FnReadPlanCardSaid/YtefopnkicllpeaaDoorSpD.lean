/- strings.CutPrefix. -/
import Derived.Test.YtefopnkicllpeaaDoorSpC
namespace Go.Proofs.YtefopnkicllpeaaDoor
open Go.RowKit

theorem hasS_cut {l : List UInt8} (h : hasS l = true) : ∃ r, l = 115 :: r ∧ cutS l = r := by
  unfold hasS at h
  split at h
  · exact ⟨_, rfl, rfl⟩
  · cases h
theorem hasS_no {l : List UInt8} (h : hasS l = false) : cutS l = l := by
  unfold hasS at h
  split at h
  · cases h
  · rename_i hh
    unfold cutS
    split
    · rename_i r; exact absurd rfl (hh r)
    · rfl
theorem CutPrefix1_c {l : List UInt8} {w : World} : Calls Tryd.prog 59 #[.string (str l), .string ⟨#[115]⟩] w fun e w' => e = .returned (.tuple #[.string (str (cutS l)), .bool (hasS l)]) ∧ w = w' := by
  cases hh : hasS l
  · have hc := hasS_no hh
    have HC := hide hc
    have HH := hide hh
    clear hc hh
    go_enter Tryd.func59, Tryd.ntmps59
    go_wp2_with fail
    refine (HasPrefix_c).mono ?_
    rintro e w2 ⟨rfl, rfl⟩
    rw [HH.out]
    go_wp2_with fail
    refine bodyPost_ret (v := .tuple #[.string (str l), .bool false]) (by simp [results, Tryd.results59, go_sem]) rfl ?_
    exact ⟨by rw [HC.out], rfl⟩
  · obtain ⟨r, rfl, hc⟩ := hasS_cut hh
    have HC := hide hc
    have HH := hide hh
    have h1 := slice_lo (115 :: r) (i := 1) (by simp)
    rw [List.drop_succ_cons, List.drop_zero] at h1
    have h1' : ∀ w : World, (Instr.slice 9 (.string (str (115 :: r))) (some (.int .i64 1)) none none).run Tryd.prog w = .ok (.string (str r)) w := h1
    clear hc hh h1
    go_enter Tryd.func59, Tryd.ntmps59
    go_wp2_with fail
    refine (HasPrefix_c).mono ?_
    rintro e w2 ⟨rfl, rfl⟩
    rw [HH.out]
    go_wp2_with fail
    refine bodyPost_ret (v := .tuple #[.string (str r), .bool true]) (by simp [results, Tryd.results59, go_sem]) rfl ?_
    exact ⟨by rw [HC.out], rfl⟩
theorem CutPrefix_c {l : List UInt8} {w : World} : Calls Tryd.prog 41 #[.string (str l), .string ⟨#[115]⟩] w fun e w' => e = .returned (.tuple #[.string (str (cutS l)), .bool (hasS l)]) ∧ w = w' := by
  go_enter Tryd.func41, Tryd.ntmps41
  go_wp2_with fail
  refine (CutPrefix1_c).mono ?_
  rintro e w2 ⟨rfl, rfl⟩
  go_wp2_with fail
  refine bodyPost_ret (v := .tuple #[.string (str (cutS l)), .bool (hasS l)]) (by simp [results, Tryd.results41, go_sem]) rfl ?_
  exact ⟨rfl, rfl⟩

end Go.Proofs.YtefopnkicllpeaaDoor
