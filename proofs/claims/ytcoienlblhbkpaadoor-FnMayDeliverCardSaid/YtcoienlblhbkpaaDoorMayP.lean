/- The plain law of what may be delivered. -/
import Derived.Test.YtcoienlblhbkpaaDoorMay
import Derived.Test.YtcoienlblhbkpaaDoorClockP
namespace Go.Proofs.YtcoienlblhbkpaaDoor
open Go.RowKit

theorem may4 (f a b c d a' b' c' d' : Int) : mayAll f [a', b', c', d'] [a, b, c, d] = (okAt 0 f a' a && (okAt 1 f b' b && (okAt 2 f c' c && okAt 3 f d' d))) := by
  unfold mayAll
  simp [List.range_succ_eq_map, List.range_zero]
theorem may_law {xs ys : List Int} {f : Int} (h : mayB xs f ys = true) : stepOk xs f = true ∧ mayB (stepL xs f) f ys = false ∧ beforeB ys (stepL xs f) = true := by
  unfold mayB at h
  simp only [Bool.and_eq_true] at h
  obtain ⟨hx, hy, hf, hm⟩ := h
  obtain ⟨a, b, c, d, rfl, ha, hb, hc, hd⟩ := clock_form hx
  obtain ⟨a', b', c', d', rfl, ha', hb', hc', hd'⟩ := clock_form hy
  rw [may4] at hm
  simp only [Bool.and_eq_true] at hm
  obtain ⟨m0, m1, m2, m3⟩ := hm
  rcases inB_place hf with rfl | rfl | rfl | rfl
  · simp [okAt] at m0 m1 m2 m3
    have hs : stepOk [a, b, c, d] 0 = true := by simp [stepOk, hx, hf]; omega
    have e : stepL [a, b, c, d] 0 = [a + 1, b, c, d] := by simp [stepL, hx, hs]
    have h2 : clockB [a + 1, b, c, d] = true := clockB_mk (by omega) hb hc hd
    rw [e]
    refine ⟨hs, ?_, ?_⟩
    · unfold mayB; rw [may4]; simp [okAt]; intros; omega
    · rw [before4 hy h2]; simp; omega
  · simp [okAt] at m0 m1 m2 m3
    have hs : stepOk [a, b, c, d] 1 = true := by simp [stepOk, hx, hf]; omega
    have e : stepL [a, b, c, d] 1 = [a, b + 1, c, d] := by simp [stepL, hx, hs]
    have h2 : clockB [a, b + 1, c, d] = true := clockB_mk ha (by omega) hc hd
    rw [e]
    refine ⟨hs, ?_, ?_⟩
    · unfold mayB; rw [may4]; simp [okAt]; intros; omega
    · rw [before4 hy h2]; simp; omega
  · simp [okAt] at m0 m1 m2 m3
    have hs : stepOk [a, b, c, d] 2 = true := by simp [stepOk, hx, hf]; omega
    have e : stepL [a, b, c, d] 2 = [a, b, c + 1, d] := by simp [stepL, hx, hs]
    have h2 : clockB [a, b, c + 1, d] = true := clockB_mk ha hb (by omega) hd
    rw [e]
    refine ⟨hs, ?_, ?_⟩
    · unfold mayB; rw [may4]; simp [okAt]; intros; omega
    · rw [before4 hy h2]; simp; omega
  · simp [okAt] at m0 m1 m2 m3
    have hs : stepOk [a, b, c, d] 3 = true := by simp [stepOk, hx, hf]; omega
    have e : stepL [a, b, c, d] 3 = [a, b, c, d + 1] := by simp [stepL, hx, hs]
    have h2 : clockB [a, b, c, d + 1] = true := clockB_mk ha hb hc (by omega)
    rw [e]
    refine ⟨hs, ?_, ?_⟩
    · unfold mayB; rw [may4]; simp [okAt]; intros; omega
    · rw [before4 hy h2]; simp; omega

end Go.Proofs.YtcoienlblhbkpaaDoor
