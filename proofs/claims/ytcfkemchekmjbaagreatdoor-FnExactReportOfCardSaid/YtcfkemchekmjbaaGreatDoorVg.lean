/- Merged (what the law reaches): HistV, SerF, SerE. -/
import Derived.Test.YtcfkemchekmjbaaGreatDoorVf
import Derived.Deep.DeepCutAuto
import Derived.Deep.RegionHeld3
import Derived.BigQuiet
namespace Go.Proofs.YtcfkemchekmjbaaGreatDoor
open Go.RowKit Go.Maps
theorem opI_cases (x y z : Int) : ((x == 1) = false ∧ (x == 2) = false ∧ opB (x, y, z) = false) ∨ ((x = 1 ∨ x = 2) ∧ inB y 0 2 = false ∧ opB (x, y, z) = false) ∨
    ((x = 1 ∨ x = 2) ∧ inB y 0 2 = true ∧ inB z 0 99 = false ∧ opB (x, y, z) = false) ∨ (x = 1 ∧ inB y 0 2 = true ∧ inB z 0 99 = true ∧ opB (x, y, z) = true) ∨
    (x = 2 ∧ inB y 0 2 = true ∧ inB z 0 99 = true ∧ opB (x, y, z) = !(z == 0)) := by
  by_cases h1 : x = 1
  · subst h1
    cases hy : inB y 0 2
    · simp [opB, hy]
    · cases hz : inB z 0 99
      · simp [opB, hy, hz]
      · right; right; right; left; refine ⟨rfl, rfl, rfl, ?_⟩; simp [opB, hy, hz]; decide
  · by_cases h2 : x = 2
    · subst h2
      cases hy : inB y 0 2
      · simp [opB, hy]
      · cases hz : inB z 0 99
        · simp [opB, hy, hz]
        · right; right; right; right
          refine ⟨rfl, rfl, rfl, ?_⟩
          have := (inB_iff _ _ _).1 hz
          have e2 : inB 2 1 2 = true := by decide
          simp only [opB, hy, hz, e2, Bool.true_and]
          by_cases h0 : z = 0
          · subst h0; rfl
          · have : 0 < z := by omega
            simp [h0, this]
    · left
      have e : inB x 1 2 = false := by
        cases hb : inB x 1 2 with
        | false => rfl
        | true => have := (inB_iff _ _ _).1 hb; omega
      refine ⟨by simpa using h1, by simpa using h2, by simp [opB, e]⟩
theorem readsOp_c {x y z : Int} {w : World} : Calls Tryz.prog 35 #[.agg #[.int .i64 x, .int .i64 y, .int .i64 z]] w fun e w' => e = .returned (.bool (x == 1)) ∧ Below w.heap.size w w' := by
  go_enter Tryz.func35, Tryz.ntmps35
  go_wp2_with fail
  go_ret
  exact ⟨rfl, (Below.refl _ _).alloc (Nat.le_refl _) _⟩
theorem writesOp_c {x y z : Int} {w : World} : Calls Tryz.prog 94 #[.agg #[.int .i64 x, .int .i64 y, .int .i64 z]] w fun e w' => e = .returned (.bool (x == 2)) ∧ Below w.heap.size w w' := by
  go_enter Tryz.func94, Tryz.ntmps94
  go_wp2_with fail
  go_ret
  exact ⟨rfl, (Below.refl _ _).alloc (Nat.le_refl _) _⟩
theorem valueOk_c {n : Int} {w : World} : Calls Tryz.prog 151 #[.int .i64 n] w fun e w' => e = .returned (.bool (inB n 0 99)) ∧ w = w' := by
  go_enter Tryz.func151, Tryz.ntmps151
  go_wp2_with (go_at_call 56; refine (within_c).mono ?_; rintro e w' ⟨rfl, rfl⟩)
  go_ret
  exact ⟨rfl, rfl⟩
set_option maxHeartbeats 4000000 in
theorem impl_OpValid_c {x y z : Int} {w : World} :
    Calls Tryz.prog 99 #[.agg #[.int .i64 x, .int .i64 y, .int .i64 z]] w fun e w' => e = .returned (.bool (opB (x, y, z))) ∧ Below w.heap.size w w' := by
  have b1 : Below w.heap.size w (w.alloc (.cells #[.int .i64 x, .int .i64 y, .int .i64 z] 61)) := (Below.refl _ _).alloc (Nat.le_refl _) _
  have K1 := Blk.new w 61 #[.int .i64 x, .int .i64 y, .int .i64 z]
  have hc : ∀ W, Below (w.alloc (.cells #[.int .i64 x, .int .i64 y, .int .i64 z] 61)).heap.size (w.alloc (.cells #[.int .i64 x, .int .i64 y, .int .i64 z] 61)) W → (W.cell? ⟨w.heap.size, 0, none⟩ = some (.int .i64 x) ∧ W.cell? ⟨w.heap.size, 1, none⟩ = some (.int .i64 y) ∧ W.cell? ⟨w.heap.size, 2, none⟩ = some (.int .i64 z)) := fun W h => (K1.belowAll h).three
  obtain ⟨k0, k1, k2⟩ := K1.three
  rcases opI_cases x y z with ⟨h1, h2, hf⟩ | ⟨hx, hy, hf⟩ | ⟨hx, hy, hz, hf⟩ | ⟨rfl, hy, hz, hf⟩ | ⟨rfl, hy, hz, hf⟩
  · have F := hide hf; have H1 := hide h1; have H2 := hide h2; clear hf h1 h2
    go_enter Tryz.func99, Tryz.ntmps99
    go_wp2_with fail
    refine (readsOp_c).mono ?_
    rintro e w2 ⟨rfl, c2⟩
    have C2 := c2
    obtain ⟨k0, k1, k2⟩ := hc _ C2
    rw [H1.out]
    go_wp2_with fail
    refine (writesOp_c).mono ?_
    rintro e w3 ⟨rfl, c3⟩
    have C3 := below_step C2 c3
    obtain ⟨k0, k1, k2⟩ := hc _ C3
    rw [H2.out]
    go_wp2_with fail
    go_ret
    exact ⟨by rw [F.out]; rfl, below_step b1 C3⟩
  · have F := hide hf; have Hy := hide hy; clear hf hy
    rcases hx with rfl | rfl
    · go_enter Tryz.func99, Tryz.ntmps99
      go_wp2_with fail
      refine (readsOp_c).mono ?_
      rintro e w2 ⟨rfl, c2⟩
      have C2 := c2
      obtain ⟨k0, k1, k2⟩ := hc _ C2
      rw [show ((1 : Int) == 1) = true by rfl]
      go_wp2_with fail
      refine (keyOk_c).mono ?_
      rintro e w' ⟨rfl, rfl⟩
      rw [Hy.out]
      go_wp2_with fail
      go_ret
      exact ⟨by rw [F.out]; rfl, below_step b1 C2⟩
    · go_enter Tryz.func99, Tryz.ntmps99
      go_wp2_with fail
      refine (readsOp_c).mono ?_
      rintro e w2 ⟨rfl, c2⟩
      have C2 := c2
      obtain ⟨k0, k1, k2⟩ := hc _ C2
      rw [show ((2 : Int) == 1) = false by rfl]
      go_wp2_with fail
      refine (writesOp_c).mono ?_
      rintro e w3 ⟨rfl, c3⟩
      have C3 := below_step C2 c3
      obtain ⟨k0, k1, k2⟩ := hc _ C3
      rw [show ((2 : Int) == 2) = true by rfl]
      go_wp2_with fail
      refine (keyOk_c).mono ?_
      rintro e w' ⟨rfl, rfl⟩
      rw [Hy.out]
      go_wp2_with fail
      go_ret
      exact ⟨by rw [F.out]; rfl, below_step b1 C3⟩
  · have F := hide hf; have Hy := hide hy; have Hz := hide hz; clear hf hy hz
    rcases hx with rfl | rfl
    · go_enter Tryz.func99, Tryz.ntmps99
      go_wp2_with fail
      refine (readsOp_c).mono ?_
      rintro e w2 ⟨rfl, c2⟩
      have C2 := c2
      obtain ⟨k0, k1, k2⟩ := hc _ C2
      rw [show ((1 : Int) == 1) = true by rfl]
      go_wp2_with fail
      refine (keyOk_c).mono ?_
      rintro e w' ⟨rfl, rfl⟩
      rw [Hy.out]
      go_wp2_with fail
      refine (valueOk_c).mono ?_
      rintro e w' ⟨rfl, rfl⟩
      rw [Hz.out]
      go_wp2_with fail
      go_ret
      exact ⟨by rw [F.out]; rfl, below_step b1 C2⟩
    · go_enter Tryz.func99, Tryz.ntmps99
      go_wp2_with fail
      refine (readsOp_c).mono ?_
      rintro e w2 ⟨rfl, c2⟩
      have C2 := c2
      obtain ⟨k0, k1, k2⟩ := hc _ C2
      rw [show ((2 : Int) == 1) = false by rfl]
      go_wp2_with fail
      refine (writesOp_c).mono ?_
      rintro e w3 ⟨rfl, c3⟩
      have C3 := below_step C2 c3
      obtain ⟨k0, k1, k2⟩ := hc _ C3
      rw [show ((2 : Int) == 2) = true by rfl]
      go_wp2_with fail
      refine (keyOk_c).mono ?_
      rintro e w' ⟨rfl, rfl⟩
      rw [Hy.out]
      go_wp2_with fail
      refine (valueOk_c).mono ?_
      rintro e w' ⟨rfl, rfl⟩
      rw [Hz.out]
      go_wp2_with fail
      go_ret
      exact ⟨by rw [F.out]; rfl, below_step b1 C3⟩
  · have F := hide hf; have Hy := hide hy; have Hz := hide hz; clear hf hy hz
    go_enter Tryz.func99, Tryz.ntmps99
    go_wp2_with fail
    refine (readsOp_c).mono ?_
    rintro e w2 ⟨rfl, c2⟩
    have C2 := c2
    obtain ⟨k0, k1, k2⟩ := hc _ C2
    rw [show ((1 : Int) == 1) = true by rfl]
    go_wp2_with fail
    refine (keyOk_c).mono ?_
    rintro e w' ⟨rfl, rfl⟩
    rw [Hy.out]
    go_wp2_with fail
    refine (valueOk_c).mono ?_
    rintro e w' ⟨rfl, rfl⟩
    rw [Hz.out]
    go_wp2_with fail
    refine (writesOp_c).mono ?_
    rintro e w3 ⟨rfl, c3⟩
    have C3 := below_step C2 c3
    obtain ⟨k0, k1, k2⟩ := hc _ C3
    rw [show ((1 : Int) == 2) = false by rfl]
    go_wp2_with fail
    go_ret
    exact ⟨by rw [F.out]; rfl, below_step b1 C3⟩
  · have F := hide hf; have Hy := hide hy; have Hz := hide hz; clear hf hy hz
    go_enter Tryz.func99, Tryz.ntmps99
    go_wp2_with fail
    refine (readsOp_c).mono ?_
    rintro e w2 ⟨rfl, c2⟩
    have C2 := c2
    obtain ⟨k0, k1, k2⟩ := hc _ C2
    rw [show ((2 : Int) == 1) = false by rfl]
    go_wp2_with fail
    refine (writesOp_c).mono ?_
    rintro e w3 ⟨rfl, c3⟩
    have C3 := below_step C2 c3
    obtain ⟨k0, k1, k2⟩ := hc _ C3
    rw [show ((2 : Int) == 2) = true by rfl]
    go_wp2_with fail
    refine (keyOk_c).mono ?_
    rintro e w' ⟨rfl, rfl⟩
    rw [Hy.out]
    go_wp2_with fail
    refine (valueOk_c).mono ?_
    rintro e w' ⟨rfl, rfl⟩
    rw [Hz.out]
    go_wp2_with fail
    refine (writesOp_c).mono ?_
    rintro e w4 ⟨rfl, c4⟩
    have C4 := below_step C3 c4
    obtain ⟨k0, k1, k2⟩ := hc _ C4
    rw [show ((2 : Int) == 2) = true by rfl]
    go_wp2_with fail
    go_ret
    exact ⟨by rw [F.out]; rfl, below_step b1 C4⟩
set_option maxHeartbeats 1000000 in
theorem TxnValid_1_c {x y z : Int} {w : World} :
    Calls Tryz.prog 105 #[.agg #[.int .i64 x, .int .i64 y, .int .i64 z]] w fun e w' => e = .returned (.bool (!opB (x, y, z))) ∧ Below w.heap.size w w' := by
  have b1 : Below w.heap.size w (w.alloc (.cells #[.int .i64 x, .int .i64 y, .int .i64 z] 61)) := (Below.refl _ _).alloc (Nat.le_refl _) _
  go_enter Tryz.func105, Tryz.ntmps105
  go_wp2_with fail
  refine (impl_OpValid_c).mono ?_
  rintro e w2 ⟨rfl, b2⟩
  go_wp2_with fail
  go_ret
  exact ⟨rfl, below_step b1 b2⟩
set_option maxHeartbeats 4000000 in
theorem IndexFunc_OpV_c {v : Value} {n : Nat} {ts : List T3} {w : World} (hs : S3 w v n ts) :
    Calls Tryz.prog 152 #[v, .func (.func 105) #[] #[]] w fun e w' => ∃ i : Int, e = .returned (.int .i64 i) ∧ (decide (0 ≤ i)) = ts.any (fun e => !opB e) ∧ Below w.heap.size w w' := by
  obtain ⟨A, c, rfl, hnc, hn, hr⟩ := hs
  have hl := hide hr.len
  go_enter Tryz.func152, Tryz.ntmps152
  go_wp2
  go_loopw [8] (fun i wr => ∃ k : Nat, k ≤ n ∧ i = .int .i64 k ∧ (ts.take k).any (fun e => !opB e) = false ∧ Below w.heap.size w wr) (fun i _ => n - (intOf i).toNat)
  case atStart => exact ⟨0, Nat.zero_le _, rfl, by simp, Below.refl _ _⟩
  case round =>
    obtain ⟨k, hk, rfl, hall, hbel⟩ := hrel
    have Hall := hide hall; clear hall
    by_cases hlt : k < n
    · obtain ⟨b, off, x, y, z, rfl, hbk, hx, p0, p1, p2⟩ := hr.at_ hlt
      have Hx := hide hx; clear hx
      have a0 := (hbel.cell (p := ⟨b, off + k * 3, none⟩) hbk).trans p0
      have a1 := (hbel.cell (p := ⟨b, off + k * 3 + 1, none⟩) hbk).trans p1
      have a2 := (hbel.cell (p := ⟨b, off + k * 3 + 2, none⟩) hbk).trans p2
      clear p0 p1 p2
      cases hv : opB (x, y, z)
      · have Hv := hide hv; clear hv
        go_wp2_with fail
        refine (TxnValid_1_c).mono ?_
        rintro e w2 ⟨rfl, b2⟩
        have B2 := below_step hbel b2
        rw [Hv.out]
        go_wp2_with fail
        go_ret
        exact ⟨_, rfl, by rw [any_atA Hx.out (by simp [Hv.out])]; simp, B2⟩
      · have Hv := hide hv; clear hv
        go_wp2_with fail
        refine (TxnValid_1_c).mono ?_
        rintro e w2 ⟨rfl, b2⟩
        have B2 := below_step hbel b2
        rw [Hv.out]
        go_wp2_with fail
        go_roundw
        case rel => exact ⟨k + 1, by omega, by go_num, any_snocA Hall.out Hx.out (by simp [Hv.out]), B2⟩
        case measure => simp [intOf]; omega
    · go_wp2
      go_ret
      obtain rfl : k = n := by omega
      refine ⟨_, rfl, ?_, hbel⟩
      have h1 := Hall.out
      rw [List.take_of_length_le (by rw [hl.out]; omega)] at h1
      rw [h1]; rfl
set_option maxHeartbeats 1000000 in
theorem ContainsFunc_OpV_c {v : Value} {n : Nat} {ts : List T3} {w : World} (hs : S3 w v n ts) :
    Calls Tryz.prog 104 #[v, .func (.func 105) #[] #[]] w fun e w' => e = .returned (.bool (ts.any (fun e => !opB e))) ∧ Below w.heap.size w w' := by
  obtain ⟨A, c, rfl, hnc, hn, hr⟩ := hs
  go_enter Tryz.func104, Tryz.ntmps104
  go_wp2_with fail
  refine (IndexFunc_OpV_c ⟨A, c, rfl, hnc, hn, hr⟩).mono ?_
  rintro e w2 ⟨i, rfl, hi, b2⟩
  have Hi := hide hi; clear hi
  go_wp2_with fail
  go_ret
  exact ⟨by rw [← Hi.out]; rfl, b2⟩
set_option maxHeartbeats 2000000 in
theorem impl_TxnValid_c {v : Value} {m : Nat} {ys : List T3} {f : Int} {dn : Bool} {w : World} (hv : S3 w v m ys) :
    Calls Tryz.prog 53 #[.agg #[.int .i64 f, v, .bool dn]] w fun e w' => e = .returned (.bool (txnB (f, ys, dn))) ∧ Below w.heap.size w w' := by
  have sv := hv
  have hbd := hv.bd
  have hl := hide hv.len
  obtain ⟨B, d, rfl⟩ := hv.shape
  have b1 : Below w.heap.size w (w.alloc (.cells #[.int .i64 f, .slice B m d, .bool dn] 66)) := (Below.refl _ _).alloc (Nat.le_refl _) _
  have K1 := Blk.new w 66 #[.int .i64 f, .slice B m d, .bool dn]
  obtain ⟨k0, k1, k2⟩ := K1.three
  cases hF : inB f 0 3
  · have hf : txnB (f, ys, dn) = false := by simp [txnB, hF]
    have F := hide hf; have Z := hide hF; clear hf hF
    go_enter Tryz.func53, Tryz.ntmps53
    go_wp2_with (first | (go_at_call 103; refine (sessionOk_c).mono ?_; rintro e w' ⟨rfl, rfl⟩; rw [Z.out]))
    go_ret
    exact ⟨by rw [F.out]; rfl, b1⟩
  · by_cases hL : m ≤ 6
    · have hf : txnB (f, ys, dn) = !(ys.any fun e => !opB e) := by unfold txnB; dsimp only; rw [hF, hl.out, not_allA]; simp [hL]
      have F := hide hf; have Z := hide hF; clear hf hF
      have hd : ¬ ((6 : Int) < m) := by omega
      go_enter Tryz.func53, Tryz.ntmps53
      go_wp2_with (first | (go_at_call 103; refine (sessionOk_c).mono ?_; rintro e w' ⟨rfl, rfl⟩; rw [Z.out]))
      refine (ContainsFunc_OpV_c (sv.below b1)).mono ?_
      rintro e w2 ⟨rfl, b2⟩
      go_wp2_with fail
      go_ret
      exact ⟨by rw [F.out]; rfl, below_step b1 b2⟩
    · have hf : txnB (f, ys, dn) = false := by unfold txnB; dsimp only; rw [hl.out]; simp [hL]
      have F := hide hf; have Z := hide hF; clear hf hF
      go_enter Tryz.func53, Tryz.ntmps53
      go_wp2_with (first | (go_at_call 103; refine (sessionOk_c).mono ?_; rintro e w' ⟨rfl, rfl⟩; rw [Z.out]))
      go_ret
      exact ⟨by rw [F.out]; rfl, b1⟩
set_option maxHeartbeats 1000000 in
theorem HistoryValid_1_c {v : Value} {m : Nat} {ys : List T3} {f : Int} {dn : Bool} {w : World} (hv : S3 w v m ys) :
    Calls Tryz.prog 52 #[.agg #[.int .i64 f, v, .bool dn]] w fun e w' => e = .returned (.bool (!txnB (f, ys, dn))) ∧ Below w.heap.size w w' := by
  have sv := hv
  obtain ⟨B, d, rfl⟩ := hv.shape
  have b1 : Below w.heap.size w (w.alloc (.cells #[.int .i64 f, .slice B m d, .bool dn] 66)) := (Below.refl _ _).alloc (Nat.le_refl _) _
  go_enter Tryz.func52, Tryz.ntmps52
  go_wp2_with fail
  refine (impl_TxnValid_c (sv.below b1)).mono ?_
  rintro e w2 ⟨rfl, b2⟩
  go_wp2_with fail
  go_ret
  exact ⟨rfl, below_step b1 b2⟩
set_option maxHeartbeats 4000000 in
theorem IndexFunc_Txn_c {A : Option Addr} {n c : Nat} {ms : List Tx} {w : World} (hr : RTs w A n ms) (hn : n ≤ 1048576) (hsm : SmallT ms) :
    Calls Tryz.prog 102 #[.slice A n c, .func (.func 52) #[] #[]] w fun e w' => ∃ i : Int, e = .returned (.int .i64 i) ∧ (decide (0 ≤ i)) = ms.any (fun e => !txnB e) ∧ Below w.heap.size w w' := by
  have hl := hide hr.1
  go_enter Tryz.func102, Tryz.ntmps102
  go_wp2
  go_loopw [8] (fun i wr => ∃ k : Nat, k ≤ n ∧ i = .int .i64 k ∧ (ms.take k).any (fun e => !txnB e) = false ∧ Below w.heap.size w wr) (fun i _ => n - (intOf i).toNat)
  case atStart => exact ⟨0, Nat.zero_le _, rfl, by simp, Below.refl _ _⟩
  case round =>
    obtain ⟨k, hk, rfl, hall, bw⟩ := hrel
    have Hall := hide hall; clear hall
    by_cases hlt : k < n
    · obtain ⟨b, off, f, ys, dn, B, kk, d, rfl, hbb, hx, q0, q1, q2, hkd, hdm, hri⟩ := hr.at_ hlt
      have e0 := (bw.cell (p := ⟨b, off + k * 3, none⟩) hbb).trans q0
      have e1 := (bw.cell (p := ⟨b, off + k * 3 + 1, none⟩) hbb).trans q1
      have e2 := (bw.cell (p := ⟨b, off + k * 3 + 2, none⟩) hbb).trans q2
      have hsz := hsm _ (List.mem_of_getElem? hx)
      have hyl := hri.len
      have hk1 : kk ≤ 1048576 := by dsimp only at hsz; omega
      have s1 : S3 wr (.slice B kk d) kk ys := S3.of_args hkd hk1 (hri.below bw)
      have Hx := hide hx
      clear hx q0 q1 q2 hsz hyl
      cases hv : txnB (f, ys, dn)
      · have Hv := hide hv; clear hv
        go_wp2_with fail
        refine (HistoryValid_1_c s1).mono ?_
        rintro e w2 ⟨rfl, b2⟩
        have B2 := below_step bw b2
        rw [Hv.out]
        go_wp2_with fail
        go_ret
        exact ⟨_, rfl, by rw [any_atA Hx.out (by simp [Hv.out])]; simp, B2⟩
      · have Hv := hide hv; clear hv
        go_wp2_with fail
        refine (HistoryValid_1_c s1).mono ?_
        rintro e w2 ⟨rfl, b2⟩
        have B2 := below_step bw b2
        rw [Hv.out]
        go_wp2_with fail
        go_roundw
        case rel => exact ⟨k + 1, by omega, by go_num, any_snocA Hall.out Hx.out (by simp [Hv.out]), B2⟩
        case measure => simp [intOf]; omega
    · go_wp2
      go_ret
      obtain rfl : k = n := by omega
      refine ⟨_, rfl, ?_, bw⟩
      have h1 := Hall.out
      rw [List.take_of_length_le (by rw [hl.out]; omega)] at h1
      rw [h1]; rfl
end Go.Proofs.YtcfkemchekmjbaaGreatDoor

namespace Go.Proofs.YtcfkemchekmjbaaGreatDoor
open Go.RowKit
/-- A store at block sb. -/
def StB (w : World) (sb : Nat) (s : List Int) : Prop := s.length = 3 ∧ Blk w sb 58 (s.map (Value.int .i64)).toArray
theorem StB.cell {w : World} {sb : Nat} {s : List Int} (h : StB w sb s) {k : Nat} (hk : k < 3) : ∃ v, s[k]? = some v ∧ w.cell? ⟨sb, k, none⟩ = some (.int .i64 v) := by
  have hl : k < s.length := by rw [h.1]; exact hk
  exact ⟨s[k], List.getElem?_eq_getElem hl, (h.2.cell k).trans (by simp [List.getElem?_eq_getElem hl])⟩
theorem StB.put {w : World} {sb : Nat} {s : List Int} (h : StB w sb s) (k : Nat) (v : Int) : StB (w.setCell ⟨sb, k, none⟩ (.int .i64 v)) sb (s.set k v) := by
  refine ⟨by simp [h.1], ?_⟩
  have := h.2.set_ k (.int .i64 v)
  simpa [List.map_set] using this
theorem StB.below {w w' : World} {sb : Nat} {s : List Int} (h : StB w sb s) (hb : Below w.heap.size w w') : StB w' sb s := ⟨h.1, h.2.belowAll hb⟩
theorem grownTS {a b c : World} {row : Option Nat} (h : a.grownBy b row) (k : b.grownBy c row) : a.grownBy c row :=
  ⟨k.os.trans h.os, k.tape.trans h.tape, k.output.trans h.output, Nat.le_trans h.size k.size, fun i hi hn => (k.block i (Nat.lt_of_lt_of_le hi h.size) hn).trans (h.block i hi hn)⟩
theorem grownBS {a b c : World} {row : Option Nat} (h : a.grownBy b row) (k : Below b.heap.size b c) : a.grownBy c row :=
  grownTS h ⟨k.os, k.tape, k.output, k.size, fun i hi _ => k.block i hi⟩
def FolR (wb w : World) (sb : Nat) (s : List Int) (ys : List T3) (e : Ending) (w' : World) : Prop :=
  e = .returned (.bool (followL s ys).isSome) ∧ (∀ s', followL s ys = some s' → StB w' sb s') ∧ Below wb.heap.size wb w' ∧ w.grownBy w' (some sb)
set_option maxRecDepth 100000 in
set_option maxHeartbeats 8000000 in
theorem follow_c {u : Value} {m sb : Nat} {ys : List T3} {f : Int} {dn : Bool} {s : List Int} {wb w : World} (hbw : Below wb.heap.size wb w) (hv : S3 wb u m ys) (hsb : wb.heap.size ≤ sb) (hs : StB w sb s) (hk : ∀ o ∈ ys, (o.1 = 1 ∨ o.1 = 2) ∧ 0 ≤ o.2.1 ∧ o.2.1 ≤ 2) :
    Calls Tryz.prog 175 #[.pointer (some ⟨sb, 0, none⟩), .agg #[.int .i64 f, u, .bool dn]] w (FolR wb w sb s ys) := by
  obtain ⟨A, c, rfl, hmc, hm, hry⟩ := hv
  have hyl := hide hry.len
  have B0 := hide (hbw.alloc hbw.size (.cells #[.int .i64 f, .slice A m c, .bool dn] 66))
  have G0 := hide (grownBS (World.grownBy.refl w (some sb)) ((Below.refl w.heap.size w).alloc (Nat.le_refl _) (.cells #[.int .i64 f, .slice A m c, .bool dn] 66)))
  have S0 := hide (hs.below ((Below.refl w.heap.size w).alloc (Nat.le_refl _) (.cells #[.int .i64 f, .slice A m c, .bool dn] 66)))
  go_enter Tryz.func175, Tryz.ntmps175
  go_wp2_with fail
  go_loopw [10] (fun i W => ∃ (k : Nat) (s2 : List Int), i = .int .i64 k ∧ k ≤ m ∧ StB W sb s2 ∧ followL s ys = followL s2 (ys.drop k) ∧ Below wb.heap.size wb W ∧ w.grownBy W (some sb)) (fun i _ => m - (intOf i).toNat)
  case atStart => exact ⟨0, s, rfl, Nat.zero_le _, S0.out, rfl, B0.out, G0.out⟩
  case round =>
    clear S0 B0 G0
    obtain ⟨k, s2, rfl, hkm, hst, he, bw, gw⟩ := hrel
    have HE := hide he; clear he
    by_cases hlt : k < m
    · obtain ⟨b2, o2, x, y, z, rfl, hbb2, hy, p0, p1, p2⟩ := hry.at_ hlt
      have a0 := (bw.cell (p := ⟨b2, o2 + k * 3, none⟩) hbb2).trans p0
      have a1 := (bw.cell (p := ⟨b2, o2 + k * 3 + 1, none⟩) hbb2).trans p1
      have a2 := (bw.cell (p := ⟨b2, o2 + k * 3 + 2, none⟩) hbb2).trans p2
      obtain ⟨hx12, hy0, hy2⟩ := hk (x, y, z) (List.mem_of_getElem? hy)
      dsimp only at hx12 hy0 hy2
      obtain ⟨yn, rfl⟩ : ∃ i : Nat, y = i := ⟨y.toNat, by omega⟩
      have hdrop : ys.drop k = (x, (yn : Int), z) :: ys.drop (k + 1) := by
        have hl : k < ys.length := (List.getElem?_eq_some_iff.1 hy).1
        rw [List.drop_eq_getElem_cons hl, (List.getElem?_eq_some_iff.1 hy).2]
      have hg : followL s ys = followL s2 ((x, (yn : Int), z) :: ys.drop (k + 1)) := by rw [HE.out, hdrop]
      have HG := hide hg
      have K1 := Blk.new wr 61 #[.int .i64 x, .int .i64 (yn : Int), .int .i64 z]
      have al : Below wr.heap.size wr (wr.alloc (.cells #[.int .i64 x, .int .i64 (yn : Int), .int .i64 z] 61)) := (Below.refl _ _).alloc (Nat.le_refl _) _
      have k0 : (0 : Int) ≤ k := by omega
      have k2 : (k : Int) < m := by omega
      have y0 : (0 : Int) ≤ yn := by omega
      have y2 : (yn : Int) < 3 := by omega
      clear p0 p1 p2 hy hdrop hg HE
      go_wp2_with fail
      refine (writesOp_c).mono ?_
      rintro e w2 ⟨rfl, b2⟩
      have BB := al.trans (b2.mono al.size)
      have K2 := K1.belowAll b2
      have hst2 := hst.below BB
      have bw2 := below_step bw BB
      have gw2 := grownBS gw BB
      have hlt1 : sb < wr.heap.size := hst.2.lt
      have hlt2 : wr.heap.size < w2.heap.size := K2.lt
      obtain ⟨f0, f1, f2⟩ := K2.three
      obtain ⟨sv, hsv, cz⟩ := hst2.cell (k := yn) (by omega)
      have fz := hst2.2.frozen yn
      clear a0 a1 a2 K1 al b2
      rcases hx12 with rfl | rfl
      · rw [show ((1 : Int) == 2) = false by rfl]
        have HST := hide hst2; have HBW := hide bw2; have HGW := hide gw2
        clear hst2 bw2 gw2
        by_cases hsz : sv = z
        · have hne : (sv != z) = false := by simpa using hsz
          have hf : followL s ys = followL s2 (ys.drop (k + 1)) := by
            rw [HG.out]; simp only [followL]
            rw [if_neg (by decide), if_pos (by rw [Int.toNat_natCast, List.getD_eq_getElem?_getD, hsv]; exact hsz)]
          have F := hide hf; clear hf hsv
          go_wp2_with fail
          go_big_quiet (fail)
          go_wp2_with fail
          go_roundw
          case rel => exact ⟨k + 1, s2, by go_num, by omega, HST.out, F.out, below_drewN HBW.out _, grownBS HGW.out (below_drewN (Below.refl _ _) _)⟩
          case measure => simp [intOf]; omega
        · have hne : (sv != z) = true := by simpa using hsz
          have hf : followL s ys = none := by
            rw [HG.out]; simp only [followL]
            rw [if_neg (by decide), if_neg (by rw [Int.toNat_natCast, List.getD_eq_getElem?_getD, hsv]; exact hsz)]
          have F := hide hf; clear hf hsv
          go_wp2_with fail
          go_big_quiet (fail)
          go_wp2_with fail
          go_ret
          exact ⟨by rw [F.out]; rfl, (fun s' e => by rw [F.out] at e; cases e), below_drewN HBW.out _, grownBS HGW.out (below_drewN (Below.refl _ _) _)⟩
      · rw [show ((2 : Int) == 2) = true by rfl]
        have hf : followL s ys = followL (s2.set yn z) (ys.drop (k + 1)) := by
          rw [HG.out]; simp only [followL]
          rw [if_pos (by decide), Int.toNat_natCast]
        have F := hide hf; clear hf hsv
        have hdr : Below w2.heap.size w2 w2.drew := (Below.refl _ _).drew
        have HST := hide ((hst2.below hdr).put yn z)
        have HBW := hide ((below_step bw2 hdr).setCell (p := ⟨sb, yn, none⟩) hsb (.int .i64 z))
        have HGW := hide (grown_setCell (p := ⟨sb, yn, none⟩) (grownBS gw2 hdr) (.inl rfl) (.int .i64 z))
        have K3 := (K2.belowAll hdr).far (p := ⟨sb, yn, none⟩) (by show wr.heap.size ≠ sb; omega) (.int .i64 z)
        have HK2 := hide K2; have HK3 := hide K3
        clear hst2 bw2 gw2 hdr K3
        go_upto_region 5 with fail
        go_region_held3 (fun V => V.cell? ⟨wr.heap.size, 1, none⟩ = some (.int .i64 (yn : Int)) ∧ V.cell? ⟨wr.heap.size, 2, none⟩ = some (.int .i64 z)) (first | exact ⟨HK2.out.cell 1, HK2.out.cell 2⟩ | exact ⟨HK3.out.cell 1, HK3.out.cell 2⟩) (fail)
        go_wp2_with fail
        go_roundw
        case rel => exact ⟨k + 1, _, by go_num, by omega, HST.out, F.out, HBW.out, HGW.out⟩
        case measure => simp [intOf]; omega
    · obtain rfl : k = m := by omega
      have h0 : ys.drop k = [] := List.drop_eq_nil_of_le (by rw [hyl.out]; omega)
      have he : followL s ys = some s2 := by rw [HE.out, h0]; rfl
      have F := hide he; clear h0 he
      go_wp2_with fail
      go_ret
      exact ⟨by rw [F.out]; rfl, (fun s' e => by rw [F.out] at e; injection e with e; rw [← e]; exact hst), bw, gw⟩
end Go.Proofs.YtcfkemchekmjbaaGreatDoor

namespace Go.Proofs.YtcfkemchekmjbaaGreatDoor
open Go.RowKit
/-- What does not change while the search runs: the world below, the history, the callback's function and what it captured, the boxes, the list of all. -/
structure EsK where
  wb : World
  A : Option Addr
  n : Nat
  c : Nat
  ts : List Tx
  cN : Nat
  caps : Array Value
  bH : Nat
  bL : Nat
  bC : Nat
  bA : Nat
  bO : Nat
  bF : Nat
  va : Value
  na : Nat
  all : List Int
  cb : Nat → Prop
/-- The search's state: the order so far is the slice v, k numbers, used. -/
structure Es (K : EsK) (w : World) (v : Value) (k : Nat) (used : List Int) : Prop where
  bw : Below K.wb.heap.size K.wb w
  hH : Blk w K.bH 27 #[.slice K.A K.n K.c]
  hL : Blk w K.bL 112 #[.func (.func 75) #[] #[]]
  hC : Blk w K.bC 161 #[.func (.func K.cN) #[] K.caps]
  hA : Blk w K.bA 24 #[K.va]
  hF : Blk w K.bF 195 #[.func (.func 174) #[] #[.pointer (some ⟨K.bO, 0, none⟩), .pointer (some ⟨K.bA, 0, none⟩), .pointer (some ⟨K.bC, 0, none⟩), .pointer (some ⟨K.bL, 0, none⟩), .pointer (some ⟨K.bH, 0, none⟩), .pointer (some ⟨K.bF, 0, none⟩)]]
  hO : Blk w K.bO 24 #[v]
  oA : OI w K.wb.heap.size K.va K.na K.all
  oO : OI w K.wb.heap.size v k used
  apart : K.va.ownBlock = none ∨ K.va.ownBlock ≠ v.ownBlock
  geO : K.wb.heap.size ≤ K.bO
  neAO : K.bA ≠ K.bO
  cbs : ∀ i, K.cb i → K.wb.heap.size ≤ i ∧ i < w.heap.size ∧ (i ≠ K.bH ∧ i ≠ K.bL ∧ i ≠ K.bC ∧ i ≠ K.bA ∧ i ≠ K.bF ∧ i ≠ K.bO) ∧ K.va.ownBlock ≠ some i ∧ v.ownBlock ≠ some i
/-- From (w, v) to (w', v') the order's box, its row and the callback's blocks alone may have changed. -/
structure Fr (K : EsK) (w : World) (v : Value) (w' : World) (v' : Value) : Prop where
  os : w'.os = w.os
  tape : w'.tape = w.tape
  output : w'.output = w.output
  size : w.heap.size ≤ w'.heap.size
  block : ∀ i, i < w.heap.size → i ≠ K.bO → ¬ K.cb i → v.ownBlock ≠ some i → w'.heap[i]? = w.heap[i]?
  row : v'.ownBlock = v.ownBlock ∨ ∀ i, v'.ownBlock = some i → w.heap.size ≤ i
section
variable {K : EsK} {w w' a b c : World} {v v' u x : Value} {k k' : Nat} {used used' : List Int}
theorem Fr.refl : Fr K w v w v := ⟨rfl, rfl, rfl, Nat.le_refl _, fun _ _ _ _ _ => rfl, .inl rfl⟩
theorem Fr.trans (h : Fr K a u b v) (g : Fr K b v c x) : Fr K a u c x := by
  refine ⟨g.os.trans h.os, g.tape.trans h.tape, g.output.trans h.output, Nat.le_trans h.size g.size, fun i hi h1 h2 h3 => (g.block i (Nat.lt_of_lt_of_le hi h.size) h1 h2 ?_).trans (h.block i hi h1 h2 h3), ?_⟩
  · rcases h.row with e | e
    · rw [e]; exact h3
    · intro e2; have := e i e2; omega
  · rcases g.row with e | e
    · rcases h.row with e2 | e2
      · exact .inl (e.trans e2)
      · exact .inr fun i hi => e2 i (e ▸ hi)
    · exact .inr fun i hi => Nat.le_trans h.size (e i hi)
theorem Fr.of_below (h : Below w.heap.size w w') : Fr K w v w' v := ⟨h.os, h.tape, h.output, h.size, fun i hi _ _ _ => h.block i hi, .inl rfl⟩
theorem Fr.below (h : Fr K a u b v) (hb : Below b.heap.size b c) : Fr K a u c v := h.trans (Fr.of_below hb)
theorem Blk.fr {g : Nat} {t : TypeId} {cs : Array Value} (h : Blk w g t cs) (hf : Fr K w v w' v') (h1 : g ≠ K.bO) (h2 : ¬ K.cb g) (h3 : v.ownBlock ≠ some g) : Blk w' g t cs := (hf.block g h.lt h1 h2 h3).trans h
theorem OI.fr {B m : Nat} {q : Value} {xs : List Int} (h : OI w B q m xs) (hf : Fr K w v w' v') (h1 : ∀ g, q.ownBlock = some g → g ≠ K.bO ∧ ¬ K.cb g ∧ v.ownBlock ≠ some g) : OI w' B q m xs := by
  refine ⟨⟨h.1.1, ?_⟩, h.2⟩
  rcases h.1.2 with hn | ⟨g, cap, cur, rfl, hb, hgg, rest⟩
  · exact .inl hn
  · obtain ⟨x1, x2, x3⟩ := h1 g rfl
    exact .inr ⟨g, cap, cur, rfl, hb, (hf.block g (Blk.lt hgg) x1 x2 x3).trans hgg, rest⟩
theorem Es.below (h : Es K w v k used) (hb : Below w.heap.size w w') : Es K w' v k used :=
  ⟨below_step h.bw hb, h.hH.belowAll hb, h.hL.belowAll hb, h.hC.belowAll hb, h.hA.belowAll hb, h.hF.belowAll hb, h.hO.belowAll hb, h.oA.below hb, h.oO.below hb, h.apart, h.geO, h.neAO,
    fun i hi => by obtain ⟨h1, h2, h3⟩ := h.cbs i hi; exact ⟨h1, Nat.lt_of_lt_of_le h2 hb.size, h3⟩⟩
theorem Es.ne_row (h : Es K w v k used) {g : Nat} {t : TypeId} {cs : Array Value} (hb : Blk w g t cs) (ht : t ≠ 3) : v.ownBlock ≠ some g := h.oO.ne_blk hb ht
theorem Es.row_lt (h : Es K w v k used) {g : Nat} (hg : v.ownBlock = some g) : K.wb.heap.size ≤ g ∧ g < w.heap.size := World.ownsRow.lt h.oO.1 g hg
theorem blk_ne {w : World} {g g' : Nat} {t t' : TypeId} {cs cs' : Array Value} (h : Blk w g t cs) (h' : Blk w g' t' cs') (ht : t ≠ t') : g ≠ g' := by
  rintro rfl
  unfold Blk at h h'
  rw [h] at h'; injection h' with h'; injection h' with _ h2; exact ht h2
/-- A new order, put into its box. -/
theorem Es.put (h : Es K w v k used) (hg : w.grownBy w' v.ownBlock) (ho : OI w' K.wb.heap.size v' k' used') (hv : v'.ownBlock = v.ownBlock ∨ ∀ i, v'.ownBlock = some i → w.heap.size ≤ i) :
    Es K (w'.setCell ⟨K.bO, 0, none⟩ v') v' k' used' ∧ Fr K w v (w'.setCell ⟨K.bO, 0, none⟩ v') v' := by
  have nH := h.ne_row h.hH (by decide); have nL := h.ne_row h.hL (by decide); have nC := h.ne_row h.hC (by decide)
  have nA := h.ne_row h.hA (by decide); have nF := h.ne_row h.hF (by decide); have nO := h.ne_row h.hO (by decide)
  have eH := blk_ne h.hH h.hO (by decide); have eL := blk_ne h.hL h.hO (by decide); have eC := blk_ne h.hC h.hO (by decide); have eF := blk_ne h.hF h.hO (by decide)
  have ks : ∀ {g : Nat} {t : TypeId} {cs : Array Value}, Blk w g t cs → v.ownBlock ≠ some g → g ≠ K.bO → Blk (w'.setCell ⟨K.bO, 0, none⟩ v') g t cs := fun hb h1 h2 => (hb.grown hg (fun e => h1 e.symm)).far (p := ⟨K.bO, 0, none⟩) h2 v'
  have hO' : Blk w' K.bO 24 #[v] := h.hO.grown hg (fun e => nO e.symm)
  have hbw : Below K.wb.heap.size K.wb w' := below_of_grown h.bw hg h.bw.size (fun g e => (h.row_lt e).1)
  have far : ∀ {q : Value} {m : Nat} {xs : List Int}, OI w' K.wb.heap.size q m xs → OI (w'.setCell ⟨K.bO, 0, none⟩ v') K.wb.heap.size q m xs := fun {q m xs} hq => by
    have hne := hq.ne_blk hO' (by decide)
    refine hq.grown (row := some K.bO) (grown_setCell (World.grownBy.refl w' (some K.bO)) (.inl rfl) v') (.inr hne)
  refine ⟨⟨hbw.setCell (p := ⟨K.bO, 0, none⟩) h.geO v', ks h.hH nH eH, ks h.hL nL eL, ks h.hC nC eC, ks h.hA nA h.neAO, ks h.hF nF eF, by simpa using hO'.set_ 0 v', ?_, far ho, ?_, h.geO, h.neAO, ?_⟩, ?_⟩
  · exact far (h.oA.grown hg h.apart)
  · rcases h.apart with e | e
    · exact .inl e
    · rcases hv with e2 | e2
      · right; rw [e2]; exact e
      · cases hq : K.va.ownBlock with
        | none => exact .inl rfl
        | some g =>
          right; intro e3
          have l1 := (World.ownsRow.lt h.oA.1 g hq).2
          have l2 := e2 g e3.symm
          omega
  · intro i hi
    obtain ⟨h1, h2, h3, h4, h5⟩ := h.cbs i hi
    refine ⟨h1, by rw [size_setCell]; exact Nat.lt_of_lt_of_le h2 hg.size, h3, h4, ?_⟩
    rcases hv with e2 | e2
    · rw [e2]; exact h5
    · intro e3; have := e2 i e3; omega
  · refine ⟨hg.os, hg.tape, hg.output, by rw [size_setCell]; exact hg.size, fun i hi h1 _ h3 => ?_, hv⟩
    exact (Below.heap_setCell w' ⟨K.bO, 0, none⟩ v' i (fun e => h1 e)).trans (hg.block i hi (fun e => h3 e.symm))
/-- Behind a call that keeps the search's state. -/
theorem Es.cb_kept (h : Es K w v k used) (hf : ∀ i, i < w.heap.size → ¬ K.cb i → w'.heap[i]? = w.heap[i]?) (ho : w'.os = w.os) (ht : w'.tape = w.tape) (hu : w'.output = w.output) (hs : w.heap.size ≤ w'.heap.size) :
    Es K w' v k used ∧ Fr K w v w' v := by
  have F : Fr K w v w' v := ⟨ho, ht, hu, hs, fun i hi _ h2 _ => hf i hi h2, .inl rfl⟩
  have ncb : ∀ {g : Nat}, (g = K.bH ∨ g = K.bL ∨ g = K.bC ∨ g = K.bA ∨ g = K.bF ∨ g = K.bO) → ¬ K.cb g := fun hg hc => by
    obtain ⟨_, _, ⟨h1, h2, h3, h4, h5, h6⟩, _⟩ := h.cbs _ hc
    rcases hg with e | e | e | e | e | e
    · exact h1 e
    · exact h2 e
    · exact h3 e
    · exact h4 e
    · exact h5 e
    · exact h6 e
  have ks : ∀ {g : Nat} {t : TypeId} {cs : Array Value}, Blk w g t cs → ¬ K.cb g → Blk w' g t cs := fun hb h1 => (hf _ hb.lt h1).trans hb
  have kr : ∀ {q : Value} {m : Nat} {xs : List Int}, OI w K.wb.heap.size q m xs → (∀ i, q.ownBlock = some i → ¬ K.cb i) → OI w' K.wb.heap.size q m xs := fun {q m xs} hq h1 => by
    refine ⟨⟨hq.1.1, ?_⟩, hq.2⟩
    rcases hq.1.2 with hn | ⟨g, cap, cur, rfl, hb, hgg, rest⟩
    · exact .inl hn
    · exact .inr ⟨g, cap, cur, rfl, hb, (hf g (Blk.lt hgg) (h1 g rfl)).trans hgg, rest⟩
  refine ⟨⟨?_, ks h.hH (ncb (by simp)), ks h.hL (ncb (by simp)), ks h.hC (ncb (by simp)), ks h.hA (ncb (by simp)), ks h.hF (ncb (by simp)), ks h.hO (ncb (by simp)), kr h.oA ?_, kr h.oO ?_, h.apart, h.geO, h.neAO, ?_⟩, F⟩
  · refine ⟨ho.trans h.bw.os, ht.trans h.bw.tape, hu.trans h.bw.output, Nat.le_trans h.bw.size hs, fun i hi => (hf i (Nat.lt_of_lt_of_le hi h.bw.size) fun hc => ?_).trans (h.bw.block i hi)⟩
    have := (h.cbs i hc).1; omega
  · intro i hi hc; exact (h.cbs i hc).2.2.2.1 hi
  · intro i hi hc; exact (h.cbs i hc).2.2.2.2 hi
  · intro i hi
    obtain ⟨h1, h2, h3⟩ := h.cbs i hi
    exact ⟨h1, Nat.lt_of_lt_of_le h2 hs, h3⟩
/-- The last number is taken away. -/
theorem Es.pop {g d : Nat} {z : Int} (h : Es K w (.slice (some ⟨g, 0, none⟩) (k + 1) d) (k + 1) (used ++ [z])) : OI w K.wb.heap.size (.slice (some ⟨g, 0, none⟩) k d) k used := by
  have hl := h.oO.len
  have h1 := h.oO.1
  rw [List.map_append, List.map_cons, List.map_nil] at h1
  have hb := h.oO.2
  exact ⟨ownsRow_pop (by simp at hl ⊢; omega) h1, by omega⟩
end
/-- The numbers of a bit mask. -/
def MaskOf (g : Nat) (used : List Int) : Prop := g < 64 ∧ ∀ x : Nat, x < 6 → (g.testBit x = used.contains (x : Int))
theorem MaskOf.zero : MaskOf 0 [] := ⟨by omega, fun x _ => by simp⟩
theorem MaskOf.snoc {g n : Nat} {used : List Int} (h : MaskOf g used) (hn : n < 6) : MaskOf (g ||| 2 ^ n) (used ++ [(n : Int)]) := by
  refine ⟨Nat.or_lt_two_pow (n := 6) h.1 (Nat.pow_lt_pow_right (by omega) hn), fun x hx => ?_⟩
  rw [Nat.testBit_or, h.2 x hx, Nat.testBit_two_pow]
  have e : (used ++ [(n : Int)]).contains (x : Int) = (used.contains (x : Int) || decide ((x : Int) = (n : Int))) := by
    rw [Bool.eq_iff_iff]; simp
  rw [e]
  congr 1
  by_cases hxn : x = n
  · subst hxn; simp
  · simp [Ne.symm hxn]; omega
end Go.Proofs.YtcfkemchekmjbaaGreatDoor
