/- sameInts. -/
import Derived.Test.YtipmfpfmhgdgdaaDoorInts
namespace Go.Proofs.YtipmfpfmhgdgdaaDoor
open Go.RowKit

set_option maxHeartbeats 400000 in
theorem sameInts_c {u v : Value} {n m : Nat} {xs ys : List Int} {w : World} (hu : SI w u n xs) (hv : SI w v m ys) :
    Calls Tryd.prog 8 #[u, v] w fun e w' => e = .returned (.bool (decide (xs = ys))) ∧ Below w.heap.size w w' := by
  obtain ⟨A, c, rfl, _, hn, ha⟩ := hu
  obtain ⟨B, d, rfl, _, hm, hb⟩ := hv
  have hla := hide ha.len
  have hlb := hide hb.len
  by_cases hnm : n = m
  · subst hnm
    go_enter Tryd.func8, Tryd.ntmps8
    go_wp2
    go_loopw [5] (fun i wr => ∃ k : Nat, k ≤ n ∧ i = .int .i64 k ∧ xs.take k = ys.take k ∧ Below w.heap.size w wr) (fun i _ => n - (intOf i).toNat)
    case atStart => exact ⟨0, Nat.zero_le _, rfl, rfl, Below.refl _ _⟩
    case round =>
      obtain ⟨k, hk, rfl, heq, hbel⟩ := hrel
      have Heq := hide heq; clear heq
      by_cases hlt : k < n
      · obtain ⟨b1, o1, x, rfl, hb1, hx, hc1⟩ := ha.at_ hlt
        obtain ⟨b2, o2, y, rfl, hb2, hy, hc2⟩ := hb.at_ hlt
        have Hx := hide hx; clear hx
        have Hy := hide hy; clear hy
        have hd1 : wr.cell? ⟨b1, o1 + k, none⟩ = some (.int .i64 x) := (hbel.cell hb1).trans hc1
        have hd2 : wr.cell? ⟨b2, o2 + k, none⟩ = some (.int .i64 y) := (hbel.cell hb2).trans hc2
        clear hc1 hc2
        by_cases hxy : x = y
        · subst hxy
          go_wp2
          go_quiet (fail)
          go_wp2
          go_roundw
          case rel => exact ⟨k + 1, by omega, by go_num, take_snoc_eq _ _ _ _ Heq.out Hx.out Hy.out, below_drewN hbel _⟩
          case measure => simp [intOf]; omega
        · go_wp2
          go_quiet (fail)
          go_wp2
          go_ret
          have hne : ¬ xs = ys := by
            intro h; apply hxy; have e := Hx.out; rw [h, Hy.out] at e; injection e with e; exact e.symm
          exact ⟨by simp [hne], below_drewN hbel _⟩
      · go_wp2
        go_ret
        obtain rfl : k = n := by omega
        have h1 := Heq.out
        rw [List.take_of_length_le (by rw [hla.out]; omega), List.take_of_length_le (by rw [hlb.out]; omega)] at h1
        exact ⟨by simp [h1], hbel⟩
  · have hne : ¬ xs = ys := by
      intro h; apply hnm; rw [← hla.out, ← hlb.out, h]
    have Hne := hide hne; clear hne
    go_enter Tryd.func8, Tryd.ntmps8
    go_wp2
    go_ret
    exact ⟨by simp [Hne.out], Below.refl _ _⟩

end Go.Proofs.YtipmfpfmhgdgdaaDoor
