/- Merged (what the law reaches): Ano, Ano2, Edg. -/
import Derived.Test.YtcfkemchekmjbaaGreatDoorQzc
namespace Go.Proofs.YtcfkemchekmjbaaGreatDoor
open Go.RowKit
theorem WK.congr {R S : Nat → Nat → Prop} (h : ∀ i j, R i j ↔ S i j) : ∀ (k i j : Nat), WK R k i j ↔ WK S k i j
  | 0, i, j => h i j
  | k + 1, i, j => by
    show (_ ∨ _) ↔ (_ ∨ _)
    rw [WK.congr h k i j, WK.congr h k i k, WK.congr h k k j]
theorem edgesB_parts {many : Int} {es : List T3} (h : edgesB many es = true) : (0 ≤ many ∧ many ≤ 6) ∧ ∀ e ∈ es, ((0 ≤ e.1 ∧ e.1 < 6) ∧ (0 ≤ e.2.1 ∧ e.2.1 < 6)) ∧ 1 ≤ e.2.2 ∧ e.2.2 ≤ 4 := by
  unfold edgesB at h
  simp only [Bool.and_eq_true, inB_iff, decide_eq_true_eq, List.all_eq_true] at h
  obtain ⟨h1, h2, h3⟩ := h
  refine ⟨h1, fun e he => ?_⟩
  have := h3 e he
  unfold edgeB at this
  simp only [Bool.and_eq_true, inB_iff] at this
  omega
theorem NdK_one {es : List T3} (h : ∀ e ∈ es, 1 ≤ e.2.2) (i j : Nat) : NdK es [1] i j ↔ Nd es 1 i j := by
  unfold NdK Nd Ed
  constructor
  · rintro ⟨k, h1, h2⟩; simp at h2; exact ⟨k, h1, by omega⟩
  · rintro ⟨k, h1, h2⟩; have := h _ h1; dsimp only at this; exact ⟨k, h1, by simp; omega⟩
theorem NdK_two {es : List T3} (h : ∀ e ∈ es, 1 ≤ e.2.2) (i j : Nat) : NdK es [1, 2] i j ↔ Nd es 2 i j := by
  unfold NdK Nd Ed
  constructor
  · rintro ⟨k, h1, h2⟩; simp at h2; exact ⟨k, h1, by omega⟩
  · rintro ⟨k, h1, h2⟩; have := h _ h1; dsimp only at this; exact ⟨k, h1, by simp; omega⟩
theorem NdK_three {es : List T3} (h : ∀ e ∈ es, 1 ≤ e.2.2) (i j : Nat) : NdK es [1, 2, 3] i j ↔ Nd es 3 i j := by
  unfold NdK Nd Ed
  constructor
  · rintro ⟨k, h1, h2⟩; simp at h2; exact ⟨k, h1, by omega⟩
  · rintro ⟨k, h1, h2⟩; have := h _ h1; dsimp only at this; exact ⟨k, h1, by simp; omega⟩
theorem cyc_iff {es : List T3} {m : Int} (h6 : ∀ e ∈ es, (0 ≤ e.1 ∧ e.1 < 6) ∧ (0 ≤ e.2.1 ∧ e.2.1 < 6)) : (∃ i, i < 6 ∧ WK (Nd es m) 6 i i) ↔ ∃ i, Way (Ed es m) i i := by
  constructor
  · rintro ⟨i, _, h⟩; exact ⟨_, (WK.ed h6).1 h⟩
  · rintro ⟨x, h⟩
    obtain ⟨i, j, rfl, e, hi, _, _⟩ := h.nat h6
    exact ⟨i, hi, (WK.ed h6).2 h⟩
theorem anom1 {es : List T3} : anomB es 1 = cd (∃ i, Way (Ed es 1) i i) := cd_congr ⟨fun h => by rcases h with h | h | h | h <;> first | exact h.2 | omega, fun h => .inl ⟨rfl, h⟩⟩
theorem anom2 {es : List T3} : anomB es 2 = cd (∃ i, Way (Ed es 2) i i) := cd_congr ⟨fun h => by rcases h with h | h | h | h <;> first | exact h.2 | omega, fun h => .inr (.inl ⟨rfl, h⟩)⟩
theorem anom3 {es : List T3} : anomB es 3 = cd (∃ i j, (i, j, 3) ∈ es ∧ Way (Ed es 2) j i) := cd_congr ⟨fun h => by rcases h with h | h | h | h <;> first | exact h.2 | omega, fun h => .inr (.inr (.inl ⟨rfl, h⟩))⟩
theorem anom4 {es : List T3} : anomB es 4 = cd (∃ i, Way (Ed es 3) i i) := cd_congr ⟨fun h => by rcases h with h | h | h | h <;> first | exact h.2 | omega, fun h => .inr (.inr (.inr ⟨rfl, h⟩))⟩
section
variable {u : Value} {n : Nat} {es : List T3} {many : Int} {w : World}
set_option maxRecDepth 100000 in
set_option maxHeartbeats 8000000 in
theorem HasAnomaly1_c (hs : S3 w u n es) (hv : edgesB many es = true) : Calls Tryz.prog 110 #[.int .i64 many, u, .int .i64 1] w fun en w' => en = .returned (.bool (anomB es 1)) ∧ Below w.heap.size w w' := by
  obtain ⟨hm, he⟩ := edgesB_parts hv
  have h6 := fun e h => (he e h).1
  have hf : cd (∃ i, i < 6 ∧ WK (NdK es [1]) 6 i i) = anomB es 1 := by
    rw [anom1]
    exact cd_congr ((by simp only [WK.congr (NdK_one (fun e h => (he e h).2.1))] : _ ↔ _).trans (cyc_iff h6))
  have F := hide hf; have HV := hide hv; have H6 := hide h6
  obtain ⟨A, c, rfl⟩ := hs.shape
  clear hf hv h6 he
  go_enter Tryz.func110, Tryz.ntmps110
  go_wp2_with fail
  refine (impl_EdgesValid_c hs).mono ?_
  rintro en w2 ⟨rfl, b2⟩
  rw [HV.out]
  have s2 := (hs.below b2).alloc (.cells #[.int .i64 1] 3)
  have B2 := b2.alloc b2.size (.cells #[.int .i64 1] 3)
  have v2 := SI.one w2 1 1 (Nat.le_refl _)
  clear b2
  go_wp2_with fail
  refine (matrixOf_c s2 v2 H6.out).mono ?_
  rintro en w3 ⟨a, b, c3, d, e, f, rfl, hm3, b3⟩
  have B3 := below_step B2 b3
  go_wp2_with fail
  refine (around_c hm3).mono ?_
  rintro en w4 ⟨rfl, b4⟩
  go_wp2_with fail
  go_ret
  exact ⟨congrArg (fun q => Ending.returned (.bool q)) F.out, below_step B3 b4⟩
theorem SI.two (w : World) (x y : Int) : SI (w.alloc (.cells #[.int .i64 x, .int .i64 y] 3)) (.slice (some ⟨w.heap.size, 0, none⟩) 2 2) 2 [x, y] :=
  SI.of_blk (Blk.new w _ _) (fun k z h => by
    match k, h with
    | 0, h => simp at h; subst h; rfl
    | 1, h => simp at h; subst h; rfl) rfl (Nat.le_refl _) (by omega)
theorem SI.three (w : World) (x y z : Int) : SI (w.alloc (.cells #[.int .i64 x, .int .i64 y, .int .i64 z] 3)) (.slice (some ⟨w.heap.size, 0, none⟩) 3 3) 3 [x, y, z] :=
  SI.of_blk (Blk.new w _ _) (fun k q h => by
    match k, h with
    | 0, h => simp at h; subst h; rfl
    | 1, h => simp at h; subst h; rfl
    | 2, h => simp at h; subst h; rfl) rfl (Nat.le_refl _) (by omega)
set_option maxRecDepth 100000 in
set_option maxHeartbeats 8000000 in
theorem HasAnomaly2_c (hs : S3 w u n es) (hv : edgesB many es = true) : Calls Tryz.prog 110 #[.int .i64 many, u, .int .i64 2] w fun en w' => en = .returned (.bool (anomB es 2)) ∧ Below w.heap.size w w' := by
  obtain ⟨hm, he⟩ := edgesB_parts hv
  have h6 := fun e h => (he e h).1
  have hf : cd (∃ i, i < 6 ∧ WK (NdK es [1, 2]) 6 i i) = anomB es 2 := by
    rw [anom2]
    exact cd_congr ((by simp only [WK.congr (NdK_two (fun e h => (he e h).2.1))] : _ ↔ _).trans (cyc_iff h6))
  have F := hide hf; have HV := hide hv; have H6 := hide h6
  obtain ⟨A, c, rfl⟩ := hs.shape
  clear hf hv h6 he
  go_enter Tryz.func110, Tryz.ntmps110
  go_wp2_with fail
  refine (impl_EdgesValid_c hs).mono ?_
  rintro en w2 ⟨rfl, b2⟩
  rw [HV.out]
  have s2 := (hs.below b2).alloc (.cells #[.int .i64 1, .int .i64 2] 3)
  have B2 := b2.alloc b2.size (.cells #[.int .i64 1, .int .i64 2] 3)
  have v2 := SI.two w2 1 2
  clear b2
  go_wp2_with fail
  refine (matrixOf_c s2 v2 H6.out).mono ?_
  rintro en w3 ⟨a, b, c3, d, e, f, rfl, hm3, b3⟩
  have B3 := below_step B2 b3
  go_wp2_with fail
  refine (around_c hm3).mono ?_
  rintro en w4 ⟨rfl, b4⟩
  go_wp2_with fail
  go_ret
  exact ⟨congrArg (fun q => Ending.returned (.bool q)) F.out, below_step B3 b4⟩
set_option maxRecDepth 100000 in
set_option maxHeartbeats 8000000 in
theorem HasAnomaly4_c (hs : S3 w u n es) (hv : edgesB many es = true) : Calls Tryz.prog 110 #[.int .i64 many, u, .int .i64 4] w fun en w' => en = .returned (.bool (anomB es 4)) ∧ Below w.heap.size w w' := by
  obtain ⟨hm, he⟩ := edgesB_parts hv
  have h6 := fun e h => (he e h).1
  have hf : cd (∃ i, i < 6 ∧ WK (NdK es [1, 2, 3]) 6 i i) = anomB es 4 := by
    rw [anom4]
    exact cd_congr ((by simp only [WK.congr (NdK_three (fun e h => (he e h).2.1))] : _ ↔ _).trans (cyc_iff h6))
  have F := hide hf; have HV := hide hv; have H6 := hide h6
  obtain ⟨A, c, rfl⟩ := hs.shape
  clear hf hv h6 he
  go_enter Tryz.func110, Tryz.ntmps110
  go_wp2_with fail
  refine (impl_EdgesValid_c hs).mono ?_
  rintro en w2 ⟨rfl, b2⟩
  rw [HV.out]
  have s2 := (hs.below b2).alloc (.cells #[.int .i64 1, .int .i64 2, .int .i64 3] 3)
  have B2 := b2.alloc b2.size (.cells #[.int .i64 1, .int .i64 2, .int .i64 3] 3)
  have v2 := SI.three w2 1 2 3
  clear b2
  go_wp2_with fail
  refine (matrixOf_c s2 v2 H6.out).mono ?_
  rintro en w3 ⟨a, b, c3, d, e, f, rfl, hm3, b3⟩
  have B3 := below_step B2 b3
  go_wp2_with fail
  refine (around_c hm3).mono ?_
  rintro en w4 ⟨rfl, b4⟩
  go_wp2_with fail
  go_ret
  exact ⟨congrArg (fun q => Ending.returned (.bool q)) F.out, below_step B3 b4⟩
set_option maxRecDepth 100000 in
set_option maxHeartbeats 8000000 in
theorem HasAnomaly3_c (hs : S3 w u n es) (hv : edgesB many es = true) : Calls Tryz.prog 110 #[.int .i64 many, u, .int .i64 3] w fun en w' => en = .returned (.bool (anomB es 3)) ∧ Below w.heap.size w w' := by
  obtain ⟨hm, he⟩ := edgesB_parts hv
  have h6 := fun e h => (he e h).1
  have hway : ∀ i j : Nat, WK (NdK es [1, 2]) 6 i j ↔ Way (Ed es 2) (i : Int) (j : Int) := fun i j => (WK.congr (NdK_two (fun e h => (he e h).2.1)) 6 i j).trans (WK.ed h6)
  have HV := hide hv; have H6 := hide h6; have HW := hide hway
  have hss := hs
  obtain ⟨A, c, rfl, hnc, hn, ha⟩ := hs
  have hl := hide ha.len
  clear hv h6 he hway
  go_enter Tryz.func110, Tryz.ntmps110
  go_wp2_with fail
  refine (impl_EdgesValid_c hss).mono ?_
  rintro en w2 ⟨rfl, b2⟩
  rw [HV.out]
  have s2 := (hss.below b2).alloc (.cells #[.int .i64 1, .int .i64 2] 3)
  have B2 := b2.alloc b2.size (.cells #[.int .i64 1, .int .i64 2] 3)
  have v2 := SI.two w2 1 2
  clear b2
  go_wp2_with fail
  refine (matrixOf_c s2 v2 H6.out).mono ?_
  rintro en w3 ⟨a0, b0, c0, d0, e0, f0, rfl, hm3, b3⟩
  have B3 := below_step B2 b3
  clear s2 v2 B2 b3
  go_wp2_with fail
  refine (reach_c hm3).mono ?_
  rintro en w4 ⟨a, b, c4, d, e, f, rfl, hm4, b4⟩
  have B4 := below_step B3 b4
  have HM := hide hm4
  have k5 := Blk.new w4 184 #[Value.int .u64 (a : Int), Value.int .u64 (b : Int), Value.int .u64 (c4 : Int), Value.int .u64 (d : Int), Value.int .u64 (e : Int), Value.int .u64 (f : Int)]
  have B5 := B4.alloc B4.size (.cells #[Value.int .u64 (a : Int), Value.int .u64 (b : Int), Value.int .u64 (c4 : Int), Value.int .u64 (d : Int), Value.int .u64 (e : Int), Value.int .u64 (f : Int)] 184)
  have K5 := hide k5; have B5H := hide B5
  clear b4 B3 hm3 hm4 k5 B5 B4
  go_wp2_with fail
  go_loopw [35] (fun i wr => ∃ k : Nat, k ≤ n ∧ i = .int .i64 k ∧ (∀ (x y : Int), (x, y, 3) ∈ es.take k → ¬ Way (Ed es 2) y x) ∧ Blk wr w4.heap.size 184 #[Value.int .u64 (a : Int), Value.int .u64 (b : Int), Value.int .u64 (c4 : Int), Value.int .u64 (d : Int), Value.int .u64 (e : Int), Value.int .u64 (f : Int)] ∧ Below w.heap.size w wr) (fun i _ => n - (intOf i).toNat)
  case atStart => exact ⟨0, Nat.zero_le _, rfl, fun x y h => by simp at h, K5.out, B5H.out⟩
  case round =>
    clear K5 B5H
    obtain ⟨k, hk, rfl, hno, k5, bw⟩ := hrel
    have HNO := hide hno
    clear hno
    by_cases hlt : k < n
    · obtain ⟨b2, o2, x, y, z, rfl, hb2, hx, q0, q1, q2⟩ := ha.at_ hlt
      have d0 := (bw.cell (p := ⟨b2, o2 + k * 3, none⟩) hb2).trans q0
      have d1 := (bw.cell (p := ⟨b2, o2 + k * 3 + 1, none⟩) hb2).trans q1
      have d2 := (bw.cell (p := ⟨b2, o2 + k * 3 + 2, none⟩) hb2).trans q2
      obtain ⟨⟨x0, x6⟩, y0, y6⟩ := H6.out _ (List.mem_of_getElem? hx)
      dsimp only at x0 x6 y0 y6
      obtain ⟨xn, rfl⟩ : ∃ i : Nat, x = i := ⟨x.toNat, by omega⟩
      obtain ⟨yn, rfl⟩ : ∃ i : Nat, y = i := ⟨y.toNat, by omega⟩
      have HX := hide hx
      have k0 : (0 : Int) ≤ k := by omega
      have kn : (k : Int) < n := by omega
      have KE := Blk.new wr 146 #[.int .i64 (xn : Int), .int .i64 (yn : Int), .int .i64 z]
      have hlt5 := k5.lt
      have K6 := hide (k5.alloc (.cells #[.int .i64 (xn : Int), .int .i64 (yn : Int), .int .i64 z] 146))
      have B6 := hide (bw.alloc bw.size (.cells #[.int .i64 (xn : Int), .int .i64 (yn : Int), .int .i64 z] 146))
      have m0 := K6.out.cell 0; have m1 := K6.out.cell 1; have m2 := K6.out.cell 2; have m3 := K6.out.cell 3; have m4 := K6.out.cell 4; have m5 := K6.out.cell 5
      clear q0 q1 q2 hx k5 bw KE
      by_cases hz : z = 3
      · subst hz
        go_wp2_with fail
        refine (has_c (i := yn) (j := xn) HM.out (by omega) (by omega)).mono ?_
        rintro en w7 ⟨rfl, b7⟩
        have B7 := hide (below_step B6.out b7)
        have K7 := hide (K6.out.belowAll b7)
        clear d0 d1 d2 m0 m1 m2 m3 m4 m5 b7
        by_cases hw : WK (NdK es [1, 2]) 6 yn xn
        · rw [cd_yes hw]
          have hf : anomB es 3 = true := by rw [anom3]; exact cd_yes ⟨_, _, List.mem_of_getElem? HX.out, (HW.out _ _).1 hw⟩
          have F := hide hf; clear hf hw
          go_wp2_with fail
          go_ret
          exact ⟨congrArg (fun q => Ending.returned (.bool q)) F.out.symm, B7.out⟩
        · rw [cd_no hw]
          have HN2 := hide (show ∀ (x y : Int), (x, y, 3) ∈ es.take (k + 1) → ¬ Way (Ed es 2) y x from fun x y hm => by
            rw [List.take_add_one, HX.out] at hm
            rcases List.mem_append.1 hm with hm | hm
            · exact HNO.out x y hm
            · simp at hm
              obtain ⟨rfl, rfl⟩ := hm
              exact fun hq => hw ((HW.out _ _).2 hq))
          clear hw
          go_wp2_with fail
          go_roundw
          case rel => exact ⟨k + 1, by omega, by go_num, HN2.out, K7.out, B7.out⟩
          case measure => simp [intOf]; omega
      · have hzb : (z == 3) = false := by simpa using hz
        have HN2 := hide (show ∀ (x y : Int), (x, y, 3) ∈ es.take (k + 1) → ¬ Way (Ed es 2) y x from fun x y hm => by
          rw [List.take_add_one, HX.out] at hm
          rcases List.mem_append.1 hm with hm | hm
          · exact HNO.out x y hm
          · simp at hm; exact absurd hm.2.2.symm hz)
        clear hz
        go_wp2_with fail
        go_roundw
        case rel => exact ⟨k + 1, by omega, by go_num, HN2.out, K6.out, B6.out⟩
        case measure => simp [intOf]; omega
    · obtain rfl : k = n := by omega
      have hf : anomB es 3 = false := by
        rw [anom3]
        refine cd_no ?_
        rintro ⟨x, y, h1, h2⟩
        exact HNO.out x y (by rw [← hl.out, List.take_length]; exact h1) h2
      have F := hide hf; clear hf k5
      go_wp2_with fail
      go_ret
      exact ⟨congrArg (fun q => Ending.returned (.bool q)) F.out.symm, bw⟩
theorem impl_HasAnomaly_c {kind : Nat} (hs : S3 w u n es) (hv : edgesB many es = true) (h1 : 1 ≤ kind) (h4 : kind ≤ 4) : Calls Tryz.prog 110 #[.int .i64 many, u, .int .i64 (kind : Int)] w fun en w' => en = .returned (.bool (anomB es kind)) ∧ Below w.heap.size w w' := by
  match kind, h1, h4 with
  | 1, _, _ => exact HasAnomaly1_c hs hv
  | 2, _, _ => exact HasAnomaly2_c hs hv
  | 3, _, _ => exact HasAnomaly3_c hs hv
  | 4, _, _ => exact HasAnomaly4_c hs hv
end
end Go.Proofs.YtcfkemchekmjbaaGreatDoor

namespace Go.Proofs.YtcfkemchekmjbaaGreatDoor
open Go.RowKit
noncomputable def allB (ts : List Tx) (es : List T3) (lv : Nat) : Bool := !(anyTo es lv) && (decide (lv < 2) || rightB ts)
set_option maxRecDepth 100000 in
set_option maxHeartbeats 8000000 in
theorem allows_c {A : Option Addr} {n c m lv : Nat} {u : Value} {ts : List Tx} {es : List T3} {w : World} (hr : RTs w A n ts) (hh : histB ts = true) (hs : S3 w u m es) (hv : edgesB (n : Int) es = true) (h4 : lv ≤ 4) :
    Calls Tryz.prog 57 #[.slice A n c, u, .int .i64 (lv : Int)] w fun e w' => e = .returned (.bool (allB ts es lv)) ∧ Below w.heap.size w w' := by
  have HH := hide hh; have HV := hide hv
  obtain ⟨Au, cu, rfl⟩ := hs.shape
  clear hh hv
  go_enter Tryz.func57, Tryz.ntmps57
  go_wp2_with fail
  go_loopw [7] (fun i W => ∃ k : Nat, i = .int .i64 (k : Int) ∧ 1 ≤ k ∧ k ≤ lv + 1 ∧ anyTo es (k - 1) = false ∧ Below w.heap.size w W) (fun i _ => lv + 1 - (intOf i).toNat)
  case atStart => exact ⟨1, rfl, by omega, by omega, rfl, Below.refl _ _⟩
  case round =>
    rename World => wr
    obtain ⟨k, rfl, hk1, hkl, hany, bw⟩ := hrel
    have HA := hide hany; clear hany
    by_cases hlt : k ≤ lv
    · have hlt' : (k : Int) ≤ lv := by omega
      go_wp2_with fail
      refine (impl_HasAnomaly_c (hs.below bw) HV.out hk1 (by omega)).mono ?_
      rintro e w3 ⟨rfl, b3⟩
      have B3 := below_step bw b3
      clear bw b3
      cases hb : anomB es k
      · have hn : anyTo es (k + 1 - 1) = false := by
          obtain ⟨q, rfl⟩ : ∃ q, k = q + 1 := ⟨k - 1, by omega⟩
          show (anyTo es q || anomB es (q + 1)) = false
          rw [hb, show anyTo es q = false from HA.out]; rfl
        have HN := hide hn
        clear hn hb
        go_wp2_with fail
        go_roundw
        case rel => exact ⟨k + 1, by go_num, by omega, by omega, HN.out, B3⟩
        case measure => simp [intOf]; omega
      · have hf : allB ts es lv = false := by
          have : anyTo es lv = true := by
            obtain ⟨q, rfl⟩ : ∃ q, k = q + 1 := ⟨k - 1, by omega⟩
            exact anyTo_hit hb hlt
          unfold allB; rw [this]; rfl
        have F := hide hf
        clear hf hb
        go_wp2_with fail
        go_ret
        exact ⟨congrArg (fun q => Ending.returned (.bool q)) F.out.symm, B3⟩
    · obtain rfl : k = lv + 1 := by omega
      have hng : ¬ ((lv : Int) + 1 ≤ lv) := by omega
      have hd : allB ts es lv = (decide (lv < 2) || rightB ts) := by
        unfold allB
        rw [show anyTo es lv = false from HA.out]; rfl
      by_cases h2 : lv < 2
      · have hl2 : (lv : Int) < 2 := by omega
        have F := hide (show allB ts es lv = true by rw [hd]; simp [h2])
        clear hd h2
        go_wp2_with fail
        go_ret
        exact ⟨congrArg (fun q => Ending.returned (.bool q)) F.out.symm, bw⟩
      · have hl2 : ¬ (lv : Int) < 2 := by omega
        have F := hide (show allB ts es lv = rightB ts by rw [hd]; simp [h2])
        have hrw := hr.below bw
        clear hd h2
        go_wp2_with fail
        refine (impl_ReadsRight_c hrw HH.out).mono ?_
        rintro e w3 ⟨rfl, b3⟩
        go_wp2_with fail
        go_ret
        exact ⟨congrArg (fun q => Ending.returned (.bool q)) F.out.symm, below_step bw b3⟩
end Go.Proofs.YtcfkemchekmjbaaGreatDoor

namespace Go.Proofs.YtcfkemchekmjbaaGreatDoor
open Go.RowKit
/-- Where EdgesOf stands: the history's box, the list's box, the list. -/
structure EdS (w : World) (bh bl : Nat) (A : Option Addr) (n c : Nat) (W : World) (v : Value) (k : Nat) (xs : List T3) : Prop where
  hH : Blk W bh 27 #[.slice A n c]
  hL : Blk W bl 97 #[v]
  row : O3 146 W w.heap.size v k xs
  bw : Below w.heap.size w W
  gl : w.heap.size ≤ bl
theorem EdS.below {w : World} {bh bl : Nat} {A : Option Addr} {n c : Nat} {W W' : World} {v : Value} {k : Nat} {xs : List T3} (h : EdS w bh bl A n c W v k xs) (hb : Below W.heap.size W W') : EdS w bh bl A n c W' v k xs :=
  ⟨h.hH.belowAll hb, h.hL.belowAll hb, h.row.below hb, below_step h.bw hb, h.gl⟩
/-- The blocks that put may write. -/
def PutS (bl : Nat) (v : Value) (k : Nat) : Prop := k = bl ∨ v.ownBlock = some k
def PutR (ts : List Tx) (w : World) (bh bl : Nat) (A : Option Addr) (n c : Nat) (W : World) (v : Value) (k : Nat) (xs : List T3) (f t kd : Int) (e : Ending) (W' : World) : Prop :=
  (∃ r, e = .returned r) ∧ ∃ v' k' xs', EdS w bh bl A n c W' v' k' xs' ∧ k' ≤ k + 1 ∧ (∀ e, e ∈ xs' ↔ (e ∈ xs ∨ (e = (f, t, kd) ∧ PutP ts f t))) ∧ Chg (PutS bl v) W W'
theorem o3_ne {te t : TypeId} {w : World} {B n g : Nat} {v : Value} {xs : List T3} {cs : Array Value} (h : O3 te w B v n xs) (hb : Blk w g t cs) (ht : t ≠ te) : v.ownBlock ≠ some g := by
  rcases h.1.2 with ⟨rfl, _⟩ | ⟨g1, cap, cur, rfl, _, hh, _⟩
  · simp [Value.ownBlock]
  · intro e
    have e : g1 = g := by have h : some g1 = some g := e; injection h
    subst e
    unfold Blk at hb
    rw [hh] at hb; injection hb with hb; injection hb with _ h2; exact ht h2.symm
set_option maxRecDepth 100000 in
set_option maxHeartbeats 8000000 in
theorem put_c {w : World} {bh bl : Nat} {A : Option Addr} {n c : Nat} {W : World} {v : Value} {k : Nat} {xs : List T3} {ts : List Tx} {f t kd : Int} (hS : EdS w bh bl A n c W v k xs) (hr : RTs w A n ts) (hk : k ≤ 10000)
    (hf : f < n) (ht : t < n) :
    Calls Tryz.prog 112 #[.int .i64 f, .int .i64 t, .int .i64 kd, .pointer (some ⟨bh, 0, none⟩), .pointer (some ⟨bl, 0, none⟩)] W (PutR ts w bh bl A n c W v k xs f t kd) := by
  have hl := hide hr.1
  have same : ∀ (W' : World), W = W' → ¬ PutP ts f t → ∀ r, PutR ts w bh bl A n c W v k xs f t kd (.returned r) W' := fun W' e hno r => by
    subst e
    exact ⟨⟨_, rfl⟩, v, k, xs, hS, by omega, fun e => ⟨.inl, fun h => h.elim id (fun h => absurd h.2 hno)⟩, ⟨rfl, rfl, rfl, Nat.le_refl _, fun _ _ _ => rfl⟩⟩
  have c1 := hS.hH.cell 0
  have c2 := hS.hL.cell 0
  by_cases hf0 : 0 ≤ f
  · by_cases ht0 : 0 ≤ t
    · by_cases hft : f = t
      · have hno : ¬ PutP ts f t := by rintro ⟨a, b, p, q, rfl, rfl, hab, _⟩; omega
        have hb : (f != t) = false := by simpa using hft
        have SM := hide (same W rfl hno)
        clear same hft
        go_enter Tryz.func112, Tryz.ntmps112
        go_wp2_with fail
        go_end0
        exact SM.out _
      · have hb : (f != t) = true := by simpa using hft
        obtain ⟨a, rfl⟩ : ∃ a : Nat, f = a := ⟨f.toNat, by omega⟩
        obtain ⟨b, rfl⟩ : ∃ b : Nat, t = b := ⟨t.toNat, by omega⟩
        have han : a < n := by omega
        have hbn : b < n := by omega
        obtain ⟨bt, ot, fa, ya, da, Ba, ka, dda, rfl, hbt, hxa, p0, p1, p2, _⟩ := hr.at_ han
        obtain ⟨bt', ot', fb, yb, db, Bb, kb, ddb, eA, hbt', hxb, q0, q1, q2, _⟩ := hr.at_ hbn
        injection eA with eA; injection eA with eA1 eA2; subst eA1; subst eA2
        have g2 := (hS.bw.cell (p := ⟨bt, ot + a * 3 + 2, none⟩) hbt).trans p2
        have h2 := (hS.bw.cell (p := ⟨bt, ot + b * 3 + 2, none⟩) hbt).trans q2
        have hlt := Nat.lt_of_lt_of_le hbt hS.bw.size
        cases da
        · have hno : ¬ PutP ts (a : Int) (b : Int) := by
            rintro ⟨a', b', p, q, e1, e2, _, h3, _, h5, _⟩
            obtain rfl : a = a' := by omega
            rw [hxa] at h3; injection h3 with h3; subst h3; cases h5
          have SM := hide (same W rfl hno)
          clear same hft p0 p1 p2 q0 q1 q2 hxa hxb
          go_enter Tryz.func112, Tryz.ntmps112
          go_wp2_with fail
          go_end0
          exact SM.out _
        · cases db
          · have hno : ¬ PutP ts (a : Int) (b : Int) := by
              rintro ⟨a', b', p, q, e1, e2, _, _, h3, _, h5⟩
              obtain rfl : b = b' := by omega
              rw [hxb] at h3; injection h3 with h3; subst h3; cases h5
            have SM := hide (same W rfl hno)
            clear same hft p0 p1 p2 q0 q1 q2 hxa hxb
            go_enter Tryz.func112, Tryz.ntmps112
            go_wp2_with fail
            go_end0
            exact SM.out _
          · have hput : PutP ts (a : Int) (b : Int) := ⟨a, b, _, _, rfl, rfl, by omega, hxa, hxb, rfl, rfl⟩
            have HP := hide hput; have HS := hide hS
            have ho := hS.row.alloc (.cells #[.int .i64 (a : Int), .int .i64 (b : Int), .int .i64 kd] 146)
            have KN := Blk.new W 146 #[.int .i64 (a : Int), .int .i64 (b : Int), .int .i64 kd]
            have hLA := hS.hL.alloc (.cells #[.int .i64 (a : Int), .int .i64 (b : Int), .int .i64 kd] 146)
            have hnl := o3_ne ho hLA (by decide)
            have hz := hS.bw.size
            obtain ⟨Av, cv, rfl⟩ := hS.row.shape
            clear same hft p0 p1 p2 q0 q1 q2 hxa hxb hput hS
            go_enter Tryz.func112, Tryz.ntmps112
            go_wp2_with (at_builtin; refine wpList_app3 rfl _ _ rfl Tryz.underlying97 infoEd rfl ho rfl (S3.one KN (Nat.le_refl _)) (by omega) (by simp <;> omega) ?_; intro v4 w4 o4 hg4 hat4; obtain ⟨A4, c4, rfl⟩ := o4.shape; have cL := (hLA.grown hg4 (fun e => hnl e.symm)).cell 0; have fL := (hLA.grown hg4 (fun e => hnl e.symm)).frozen 0)
            go_end0
            have hL4 := hLA.grown hg4 (fun e => hnl e.symm)
            have hne4 := o3_ne o4 hL4 (by decide)
            have hH4 := (HS.out.hH.alloc (.cells #[.int .i64 (a : Int), .int .i64 (b : Int), .int .i64 kd] 146)).grown hg4 (fun e => o3_ne ho (HS.out.hH.alloc _) (by decide) e.symm)
            have hbb : bh ≠ bl := fun e => by
              have h1 := HS.out.hH; have h2 := HS.out.hL
              rw [e] at h1; unfold Blk at h1 h2
              rw [h1] at h2; injection h2 with h2; injection h2 with _ h2; exact absurd h2 (by decide)
            have B4 : Below w.heap.size w w4 := below_app3 (HS.out.bw.alloc hz _) ho (Nat.le_refl _) hg4
            refine ⟨⟨_, rfl⟩, .slice A4 (k + 1) c4, k + 1, xs ++ [((a : Int), (b : Int), kd)], ⟨hH4.far (p := ⟨bl, 0, none⟩) hbb _, by simpa using hL4.set_ 0 (.slice A4 (k + 1) c4), ?_, B4.setCell (p := ⟨bl, 0, none⟩) HS.out.gl _, HS.out.gl⟩, Nat.le_refl _, fun e => ?_, ?_⟩
            · exact O3.grown o4 (grown_setCell (World.grownBy.refl w4 (some bl)) (.inl rfl) _) (.inr hne4)
            · rw [List.mem_append, List.mem_singleton]
              exact ⟨fun h => h.imp id (fun h => ⟨h, HP.out⟩), fun h => h.imp id (fun h => h.1)⟩
            · have b0 : Below W.heap.size W (W.alloc (.cells #[.int .i64 (a : Int), .int .i64 (b : Int), .int .i64 kd] 146)) := (Below.refl _ _).alloc (Nat.le_refl _) _
              have ch1 : Chg (PutS bl (.slice Av k cv)) W w4 := (Chg.of_below b0).trans (Chg.of_grown hg4 (fun q e => .inr e))
              exact ch1.trans (Chg.of_grown (grown_setCell (World.grownBy.refl w4 (some bl)) (.inl rfl) _) (fun q e => by injection e with e; exact .inl e.symm))
    · have hno : ¬ PutP ts f t := by rintro ⟨a, b, p, q, rfl, rfl, _⟩; omega
      have SM := hide (same W rfl hno)
      clear same
      go_enter Tryz.func112, Tryz.ntmps112
      go_wp2_with fail
      go_end0
      exact SM.out _
  · have hno : ¬ PutP ts f t := by rintro ⟨a, b, p, q, rfl, rfl, _⟩; omega
    have SM := hide (same W rfl hno)
    clear same
    go_enter Tryz.func112, Tryz.ntmps112
    go_wp2_with fail
    go_end0
    exact SM.out _
end Go.Proofs.YtcfkemchekmjbaaGreatDoor
