/- Contracts of the tallies: TallyValid, TallyOf of both. -/
import Derived.Test.YtjgjlcpnfiocfaaDoorTally
import Derived.Test.YtjgjlcpnfiocfaaDoorClockJ2
namespace Go.Proofs.YtjgjlcpnfiocfaaDoor
open Go.RowKit

def tallyB (xs ys : List Int) : Bool := clockB xs && clockB ys

set_option maxHeartbeats 1000000 in
theorem spec_TallyValid_c {u v : Value} {n m : Nat} {xs ys : List Int} {w : World} (hu : SI w u n xs) (hv : SI w v m ys) :
    Calls Tryd.prog 39 #[.agg #[u, v]] w fun e w' => e = .returned (.bool (tallyB xs ys)) ∧ Below w.heap.size w w' := by
  obtain ⟨A, c, rfl⟩ := hu.shape
  obtain ⟨B, d, rfl⟩ := hv.shape
  have B0 : Below w.heap.size w (w.alloc (.cells #[.slice A n c, .slice B m d] 46)) := (Below.refl _ _).alloc (Nat.le_refl _) _
  cases hX : clockB xs
  · have hf : tallyB xs ys = false := by simp [tallyB, hX]
    have F := hide hf; have HX := hide hX; clear hf hX
    go_enter Tryd.func39, Tryd.ntmps39
    go_wp2_with fail
    refine (spec_ClockValid_c (hu.below B0)).mono ?_
    rintro e w' ⟨rfl, rfl⟩
    rw [HX.out]
    go_wp2_with fail
    go_ret
    exact ⟨by rw [F.out]; rfl, B0⟩
  · have hf : tallyB xs ys = clockB ys := by simp [tallyB, hX]
    have F := hide hf; have HX := hide hX; clear hf hX
    go_enter Tryd.func39, Tryd.ntmps39
    go_wp2_with fail
    refine (spec_ClockValid_c (hu.below B0)).mono ?_
    rintro e w' ⟨rfl, rfl⟩
    rw [HX.out]
    go_wp2_with fail
    refine (spec_ClockValid_c (hv.below B0)).mono ?_
    rintro e w' ⟨rfl, rfl⟩
    go_wp2_with fail
    go_ret
    exact ⟨by rw [F.out]; rfl, B0⟩

set_option maxHeartbeats 1000000 in
theorem impl_TallyValid_c {u v : Value} {n m : Nat} {xs ys : List Int} {w : World} (hu : SI w u n xs) (hv : SI w v m ys) :
    Calls Tryd.prog 38 #[.agg #[u, v]] w fun e w' => e = .returned (.bool (tallyB xs ys)) ∧ Below w.heap.size w w' := by
  obtain ⟨A, c, rfl⟩ := hu.shape
  obtain ⟨B, d, rfl⟩ := hv.shape
  have B0 : Below w.heap.size w (w.alloc (.cells #[.slice A n c, .slice B m d] 46)) := (Below.refl _ _).alloc (Nat.le_refl _) _
  have K0 := Blk.new w 46 #[.slice A n c, .slice B m d]
  cases hX : clockB xs
  · have hf : tallyB xs ys = false := by simp [tallyB, hX]
    have F := hide hf; have HX := hide hX; clear hf hX
    go_enter Tryd.func38, Tryd.ntmps38
    go_wp2_with fail
    refine (impl_ClockValid_c (hu.below B0)).mono ?_
    rintro e w1 ⟨rfl, b1⟩
    rw [HX.out]
    go_wp2_with fail
    go_ret
    exact ⟨by rw [F.out]; rfl, B0.trans (b1.mono (by simp))⟩
  · have hf : tallyB xs ys = clockB ys := by simp [tallyB, hX]
    have F := hide hf; have HX := hide hX; clear hf hX
    go_enter Tryd.func38, Tryd.ntmps38
    go_wp2_with fail
    refine (impl_ClockValid_c (hu.below B0)).mono ?_
    rintro e w1 ⟨rfl, b1⟩
    rw [HX.out]
    have B1 := B0.trans (b1.mono (by simp))
    obtain ⟨p0, p1, _, _⟩ := (K0.belowAll b1).two
    go_wp2_with fail
    refine (impl_ClockValid_c (hv.below B1)).mono ?_
    rintro e w2 ⟨rfl, b2⟩
    go_wp2_with fail
    go_ret
    exact ⟨by rw [F.out]; rfl, below_step B1 b2⟩

/-- All counts up less all counts down. -/
def tsum : List Int → List Int → Int
  | x :: xs, y :: ys => (x - y) + tsum xs ys
  | _, _ => 0
def tallyN (xs ys : List Int) : Int := if tallyB xs ys then tsum xs ys else 0
theorem tsum_snoc {xs ys : List Int} : ∀ {k : Nat} {x y : Int}, xs[k]? = some x → ys[k]? = some y → tsum (xs.take (k + 1)) (ys.take (k + 1)) = tsum (xs.take k) (ys.take k) + (x - y) := by
  induction xs generalizing ys with
  | nil => intro k x y hx; simp at hx
  | cons a xs ih =>
    intro k x y hx hy
    cases ys with
    | nil => simp at hy
    | cons b ys =>
      cases k with
      | zero => simp at hx hy; subst hx; subst hy; simp [tsum]
      | succ k =>
        simp only [List.take_succ_cons, tsum]
        rw [ih (by simpa using hx) (by simpa using hy)]; omega

set_option maxHeartbeats 2000000 in
theorem spec_TallyOf_c {u v : Value} {n m : Nat} {xs ys : List Int} {w : World} (hu : SI w u n xs) (hv : SI w v m ys) :
    Calls Tryd.prog 42 #[.agg #[u, v]] w fun e w' => e = .returned (.int .i64 (tallyN xs ys)) ∧ Below w.heap.size w w' := by
  have su := hu; have sv := hv
  obtain ⟨A, c, rfl, hnc, hn, ha⟩ := hu
  obtain ⟨B, d, rfl, hmd, hm, hb⟩ := hv
  have B0 : Below w.heap.size w (w.alloc (.cells #[.slice A n c, .slice B m d] 46)) := (Below.refl _ _).alloc (Nat.le_refl _) _
  have K0 := Blk.new w 46 #[.slice A n c, .slice B m d]
  cases hT : tallyB xs ys
  · have hf : tallyN xs ys = 0 := by simp [tallyN, hT]
    have F := hide hf; have HT := hide hT; clear hf hT
    go_enter Tryd.func42, Tryd.ntmps42
    go_wp2_with fail
    refine wp_loop_rounds 1 ?_; rw [rounds_succ]
    go_wp2_with fail
    refine (spec_TallyValid_c (su.below B0) (sv.below B0)).mono ?_
    rintro e w1 ⟨rfl, b1⟩
    rw [HT.out]
    go_wp2_with fail
    go_ret
    exact ⟨by rw [F.out]; rfl, B0.trans (b1.mono (by simp))⟩
  · have hf : tallyN xs ys = tsum xs ys := by simp [tallyN, hT]
    have hX : clockB xs = true := by revert hT; unfold tallyB; cases clockB xs <;> simp
    have hY : clockB ys = true := by revert hT; unfold tallyB; cases clockB ys <;> simp
    obtain rfl : n = 4 := by rw [← ha.len]; exact ((clockB_iff _).1 hX).1
    obtain rfl : m = 4 := by rw [← hb.len]; exact ((clockB_iff _).1 hY).1
    have ax := ((clockB_iff _).1 hX).2; have ay := ((clockB_iff _).1 hY).2
    have AX := hide ax; have AY := hide ay
    have F := hide hf; have HT := hide hT; clear hf hX hY hT ax ay
    have hla := hide ha.len; have hlb := hide hb.len
    go_enter Tryd.func42, Tryd.ntmps42
    go_wp2_with fail
    go_loopw [3, 4] (fun s3 i wr => ∃ (k : Nat) (q : Int), k ≤ 4 ∧ i = .int .i64 k ∧ s3 = .int .i64 q ∧ q = tsum (xs.take k) (ys.take k) ∧ -1000 * (k : Int) ≤ q ∧ q ≤ 1000 * (k : Int) ∧ Blk wr w.heap.size 46 #[.slice A 4 c, .slice B 4 d] ∧ Below w.heap.size w wr) (fun _ i _ => 4 - (intOf i).toNat)
    case atStart => exact ⟨0, 0, Nat.zero_le _, rfl, rfl, rfl, by simp, by simp, K0, B0⟩
    case round =>
      obtain ⟨k, q, hk, rfl, rfl, hq, hq1, hq2, kb, hbel⟩ := hrel
      have Hq := hide hq; clear hq
      by_cases hlt : k < 4
      · obtain ⟨b1, o1, x, rfl, hb1, hx, hc1⟩ := ha.at_ hlt
        obtain ⟨b2, o2, y, rfl, hb2, hy, hc2⟩ := hb.at_ hlt
        have hxb := (inB_iff _ _ _).1 (AX.out x (List.mem_of_getElem? hx))
        have hyb := (inB_iff _ _ _).1 (AY.out y (List.mem_of_getElem? hy))
        have Hx := hide hx; clear hx
        have Hy := hide hy; clear hy
        obtain ⟨p0, p1, _, _⟩ := kb.two
        go_wp2_with fail
        refine (spec_TallyValid_c (su.below hbel) (sv.below hbel)).mono ?_
        rintro e w1 ⟨rfl, b1'⟩
        rw [HT.out]
        have hbel1 := below_step hbel b1'
        have kb1 := kb.belowAll b1'
        obtain ⟨q0, q1, _, _⟩ := kb1.two
        have hd1 : w1.cell? ⟨b1, o1 + k, none⟩ = some (.int .i64 x) := (hbel1.cell hb1).trans hc1
        have hd2 : w1.cell? ⟨b2, o2 + k, none⟩ = some (.int .i64 y) := (hbel1.cell hb2).trans hc2
        clear hc1 hc2 p0 p1
        go_wp2_with fail
        go_quiet (fail)
        go_wp2_with fail
        go_roundw
        case rel => exact ⟨k + 1, q + x - y, by omega, by go_num, rfl, by rw [tsum_snoc Hx.out Hy.out, ← Hq.out]; omega, by omega, by omega, kb1.drewN _, below_drewN hbel1 _⟩
        case measure => simp [intOf]; omega
      · go_wp2_with fail
        go_ret
        obtain rfl : k = 4 := by omega
        have h1 := Hq.out
        rw [List.take_of_length_le (by rw [hla.out]; omega), List.take_of_length_le (by rw [hlb.out]; omega)] at h1
        exact ⟨by rw [F.out, ← h1]; rfl, hbel⟩

set_option maxHeartbeats 2000000 in
theorem impl_TallyOf_c {u v : Value} {n m : Nat} {xs ys : List Int} {w : World} (hu : SI w u n xs) (hv : SI w v m ys) :
    Calls Tryd.prog 41 #[.agg #[u, v]] w fun e w' => e = .returned (.int .i64 (tallyN xs ys)) ∧ Below w.heap.size w w' := by
  have su := hu; have sv := hv
  obtain ⟨A, c, rfl, hnc, hn, ha⟩ := hu
  obtain ⟨B, d, rfl, hmd, hm, hb⟩ := hv
  have B0 : Below w.heap.size w (w.alloc (.cells #[.slice A n c, .slice B m d] 46)) := (Below.refl _ _).alloc (Nat.le_refl _) _
  have K0 := Blk.new w 46 #[.slice A n c, .slice B m d]
  cases hT : tallyB xs ys
  · have hf : tallyN xs ys = 0 := by simp [tallyN, hT]
    have F := hide hf; have HT := hide hT; clear hf hT
    go_enter Tryd.func41, Tryd.ntmps41
    go_wp2_with fail
    refine (impl_TallyValid_c (su.below B0) (sv.below B0)).mono ?_
    rintro e w1 ⟨rfl, b1⟩
    rw [HT.out]
    go_wp2_with fail
    go_ret
    exact ⟨by rw [F.out]; rfl, B0.trans (b1.mono (by simp))⟩
  · have hf : tallyN xs ys = tsum xs ys := by simp [tallyN, hT]
    have hX : clockB xs = true := by revert hT; unfold tallyB; cases clockB xs <;> simp
    have hY : clockB ys = true := by revert hT; unfold tallyB; cases clockB ys <;> simp
    obtain rfl : n = 4 := by rw [← ha.len]; exact ((clockB_iff _).1 hX).1
    obtain rfl : m = 4 := by rw [← hb.len]; exact ((clockB_iff _).1 hY).1
    have ax := ((clockB_iff _).1 hX).2; have ay := ((clockB_iff _).1 hY).2
    have AX := hide ax; have AY := hide ay
    have F := hide hf; have HT := hide hT; clear hf hX hY hT ax ay
    have hla := hide ha.len; have hlb := hide hb.len
    go_enter Tryd.func41, Tryd.ntmps41
    go_wp2_with fail
    refine (impl_TallyValid_c (su.below B0) (sv.below B0)).mono ?_
    rintro e w1 ⟨rfl, b1⟩
    rw [HT.out]
    have hbel1 := B0.trans (b1.mono (by simp))
    have kb1 := K0.belowAll b1
    obtain ⟨q0, q1, _, _⟩ := kb1.two
    go_wp2_with fail
    go_loop [3, 13] (fun s3 i => ∃ (k : Nat) (q : Int), k ≤ 4 ∧ i = .int .i64 k ∧ s3 = .int .i64 q ∧ q = tsum (xs.take k) (ys.take k) ∧ -1000 * (k : Int) ≤ q ∧ q ≤ 1000 * (k : Int)) (fun _ i => 4 - (intOf i).toNat)
    case atStart => exact ⟨0, 0, Nat.zero_le _, rfl, rfl, rfl, by simp, by simp⟩
    case round =>
      obtain ⟨k, q, hk, rfl, rfl, hq, hq1, hq2⟩ := hrel
      have Hq := hide hq; clear hq
      by_cases hlt : k < 4
      · obtain ⟨g1, o1, x, rfl, hb1, hx, hc1⟩ := ha.at_ hlt
        obtain ⟨b2, o2, y, rfl, hb2, hy, hc2⟩ := hb.at_ hlt
        have hxb := (inB_iff _ _ _).1 (AX.out x (List.mem_of_getElem? hx))
        have hyb := (inB_iff _ _ _).1 (AY.out y (List.mem_of_getElem? hy))
        have Hx := hide hx; clear hx
        have Hy := hide hy; clear hy
        have hd1 : w1.cell? ⟨g1, o1 + k, none⟩ = some (.int .i64 x) := (hbel1.cell hb1).trans hc1
        have hd2 : w1.cell? ⟨b2, o2 + k, none⟩ = some (.int .i64 y) := (hbel1.cell hb2).trans hc2
        clear hc1 hc2
        go_wp2_with fail
        go_round
        case rel => exact ⟨k + 1, q + (x - y), by omega, by go_num, rfl, by rw [tsum_snoc Hx.out Hy.out, ← Hq.out], by omega, by omega⟩
        case measure => simp [intOf]; omega
      · go_wp2_with fail
        go_ret
        obtain rfl : k = 4 := by omega
        have h1 := Hq.out
        rw [List.take_of_length_le (by rw [hla.out]; omega), List.take_of_length_le (by rw [hlb.out]; omega)] at h1
        exact ⟨by rw [F.out, ← h1]; rfl, hbel1⟩

end Go.Proofs.YtjgjlcpnfiocfaaDoor
