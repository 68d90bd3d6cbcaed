/- impl.OpValid, impl.TxnValid, and their search in lists. Printed by mk_histi.py (parts from XPlanI). -/
import Derived.Test.YtieecneknljmdaaDoorHistP
namespace Go.Proofs.YtieecneknljmdaaDoor
open Go.RowKit Go.Maps

theorem opI_cases (x y z : Int) : ((x == 1) = false ∧ (x == 2) = false ∧ opB (x, y, z) = false) ∨ ((x = 1 ∨ x = 2) ∧ inB y 0 2 = false ∧ opB (x, y, z) = false) ∨
    ((x = 1 ∨ x = 2) ∧ inB y 0 2 = true ∧ inB z 0 99 = false ∧ opB (x, y, z) = false) ∨ (x = 1 ∧ inB y 0 2 = true ∧ inB z 0 99 = true ∧ opB (x, y, z) = true) ∨
    (x = 2 ∧ inB y 0 2 = true ∧ inB z 0 99 = true ∧ opB (x, y, z) = !(z == 0)) := by
  by_cases h1 : x = 1
  · subst h1
    cases hy : inB y 0 2
    · simp [opB, hy]
    · cases hz : inB z 0 99
      · simp [opB, hy, hz]
      · right; right; right; left; refine ⟨rfl, rfl, rfl, ?_⟩; simp [opB, hy, hz]; decide
  · by_cases h2 : x = 2
    · subst h2
      cases hy : inB y 0 2
      · simp [opB, hy]
      · cases hz : inB z 0 99
        · simp [opB, hy, hz]
        · right; right; right; right
          refine ⟨rfl, rfl, rfl, ?_⟩
          have := (inB_iff _ _ _).1 hz
          have e2 : inB 2 1 2 = true := by decide
          simp only [opB, hy, hz, e2, Bool.true_and]
          by_cases h0 : z = 0
          · subst h0; rfl
          · have : 0 < z := by omega
            simp [h0, this]
    · left
      have e : inB x 1 2 = false := by
        cases hb : inB x 1 2 with
        | false => rfl
        | true => have := (inB_iff _ _ _).1 hb; omega
      refine ⟨by simpa using h1, by simpa using h2, by simp [opB, e]⟩
theorem readsOp_c {x y z : Int} {w : World} : Calls Tryd.prog 65 #[.agg #[.int .i64 x, .int .i64 y, .int .i64 z]] w fun e w' => e = .returned (.bool (x == 1)) ∧ Below w.heap.size w w' := by
  go_enter Tryd.func65, Tryd.ntmps65
  go_wp2_with fail
  go_ret
  exact ⟨rfl, (Below.refl _ _).alloc (Nat.le_refl _) _⟩
theorem writesOp_c {x y z : Int} {w : World} : Calls Tryd.prog 58 #[.agg #[.int .i64 x, .int .i64 y, .int .i64 z]] w fun e w' => e = .returned (.bool (x == 2)) ∧ Below w.heap.size w w' := by
  go_enter Tryd.func58, Tryd.ntmps58
  go_wp2_with fail
  go_ret
  exact ⟨rfl, (Below.refl _ _).alloc (Nat.le_refl _) _⟩
theorem valueOk_c {n : Int} {w : World} : Calls Tryd.prog 78 #[.int .i64 n] w fun e w' => e = .returned (.bool (inB n 0 99)) ∧ w = w' := by
  go_enter Tryd.func78, Tryd.ntmps78
  go_wp2_with (go_at_call 83; refine (within_c).mono ?_; rintro e w' ⟨rfl, rfl⟩)
  go_ret
  exact ⟨rfl, rfl⟩
set_option maxHeartbeats 4000000 in
theorem impl_OpValid_c {x y z : Int} {w : World} :
    Calls Tryd.prog 52 #[.agg #[.int .i64 x, .int .i64 y, .int .i64 z]] w fun e w' => e = .returned (.bool (opB (x, y, z))) ∧ Below w.heap.size w w' := by
  have b1 : Below w.heap.size w (w.alloc (.cells #[.int .i64 x, .int .i64 y, .int .i64 z] 51)) := (Below.refl _ _).alloc (Nat.le_refl _) _
  have K1 := Blk.new w 51 #[.int .i64 x, .int .i64 y, .int .i64 z]
  have hc : ∀ W, Below (w.alloc (.cells #[.int .i64 x, .int .i64 y, .int .i64 z] 51)).heap.size (w.alloc (.cells #[.int .i64 x, .int .i64 y, .int .i64 z] 51)) W → (W.cell? ⟨w.heap.size, 0, none⟩ = some (.int .i64 x) ∧ W.cell? ⟨w.heap.size, 1, none⟩ = some (.int .i64 y) ∧ W.cell? ⟨w.heap.size, 2, none⟩ = some (.int .i64 z)) := fun W h => (K1.belowAll h).three
  obtain ⟨k0, k1, k2⟩ := K1.three
  rcases opI_cases x y z with ⟨h1, h2, hf⟩ | ⟨hx, hy, hf⟩ | ⟨hx, hy, hz, hf⟩ | ⟨rfl, hy, hz, hf⟩ | ⟨rfl, hy, hz, hf⟩
  · have F := hide hf; have H1 := hide h1; have H2 := hide h2; clear hf h1 h2
    go_enter Tryd.func52, Tryd.ntmps52
    go_wp2_with fail
    refine (readsOp_c).mono ?_
    rintro e w2 ⟨rfl, c2⟩
    have C2 := c2
    obtain ⟨k0, k1, k2⟩ := hc _ C2
    rw [H1.out]
    go_wp2_with fail
    refine (writesOp_c).mono ?_
    rintro e w3 ⟨rfl, c3⟩
    have C3 := below_step C2 c3
    obtain ⟨k0, k1, k2⟩ := hc _ C3
    rw [H2.out]
    go_wp2_with fail
    go_ret
    exact ⟨by rw [F.out]; rfl, below_step b1 C3⟩
  · have F := hide hf; have Hy := hide hy; clear hf hy
    rcases hx with rfl | rfl
    · go_enter Tryd.func52, Tryd.ntmps52
      go_wp2_with fail
      refine (readsOp_c).mono ?_
      rintro e w2 ⟨rfl, c2⟩
      have C2 := c2
      obtain ⟨k0, k1, k2⟩ := hc _ C2
      rw [show ((1 : Int) == 1) = true by rfl]
      go_wp2_with fail
      refine (keyOk_c).mono ?_
      rintro e w' ⟨rfl, rfl⟩
      rw [Hy.out]
      go_wp2_with fail
      go_ret
      exact ⟨by rw [F.out]; rfl, below_step b1 C2⟩
    · go_enter Tryd.func52, Tryd.ntmps52
      go_wp2_with fail
      refine (readsOp_c).mono ?_
      rintro e w2 ⟨rfl, c2⟩
      have C2 := c2
      obtain ⟨k0, k1, k2⟩ := hc _ C2
      rw [show ((2 : Int) == 1) = false by rfl]
      go_wp2_with fail
      refine (writesOp_c).mono ?_
      rintro e w3 ⟨rfl, c3⟩
      have C3 := below_step C2 c3
      obtain ⟨k0, k1, k2⟩ := hc _ C3
      rw [show ((2 : Int) == 2) = true by rfl]
      go_wp2_with fail
      refine (keyOk_c).mono ?_
      rintro e w' ⟨rfl, rfl⟩
      rw [Hy.out]
      go_wp2_with fail
      go_ret
      exact ⟨by rw [F.out]; rfl, below_step b1 C3⟩
  · have F := hide hf; have Hy := hide hy; have Hz := hide hz; clear hf hy hz
    rcases hx with rfl | rfl
    · go_enter Tryd.func52, Tryd.ntmps52
      go_wp2_with fail
      refine (readsOp_c).mono ?_
      rintro e w2 ⟨rfl, c2⟩
      have C2 := c2
      obtain ⟨k0, k1, k2⟩ := hc _ C2
      rw [show ((1 : Int) == 1) = true by rfl]
      go_wp2_with fail
      refine (keyOk_c).mono ?_
      rintro e w' ⟨rfl, rfl⟩
      rw [Hy.out]
      go_wp2_with fail
      refine (valueOk_c).mono ?_
      rintro e w' ⟨rfl, rfl⟩
      rw [Hz.out]
      go_wp2_with fail
      go_ret
      exact ⟨by rw [F.out]; rfl, below_step b1 C2⟩
    · go_enter Tryd.func52, Tryd.ntmps52
      go_wp2_with fail
      refine (readsOp_c).mono ?_
      rintro e w2 ⟨rfl, c2⟩
      have C2 := c2
      obtain ⟨k0, k1, k2⟩ := hc _ C2
      rw [show ((2 : Int) == 1) = false by rfl]
      go_wp2_with fail
      refine (writesOp_c).mono ?_
      rintro e w3 ⟨rfl, c3⟩
      have C3 := below_step C2 c3
      obtain ⟨k0, k1, k2⟩ := hc _ C3
      rw [show ((2 : Int) == 2) = true by rfl]
      go_wp2_with fail
      refine (keyOk_c).mono ?_
      rintro e w' ⟨rfl, rfl⟩
      rw [Hy.out]
      go_wp2_with fail
      refine (valueOk_c).mono ?_
      rintro e w' ⟨rfl, rfl⟩
      rw [Hz.out]
      go_wp2_with fail
      go_ret
      exact ⟨by rw [F.out]; rfl, below_step b1 C3⟩
  · have F := hide hf; have Hy := hide hy; have Hz := hide hz; clear hf hy hz
    go_enter Tryd.func52, Tryd.ntmps52
    go_wp2_with fail
    refine (readsOp_c).mono ?_
    rintro e w2 ⟨rfl, c2⟩
    have C2 := c2
    obtain ⟨k0, k1, k2⟩ := hc _ C2
    rw [show ((1 : Int) == 1) = true by rfl]
    go_wp2_with fail
    refine (keyOk_c).mono ?_
    rintro e w' ⟨rfl, rfl⟩
    rw [Hy.out]
    go_wp2_with fail
    refine (valueOk_c).mono ?_
    rintro e w' ⟨rfl, rfl⟩
    rw [Hz.out]
    go_wp2_with fail
    refine (writesOp_c).mono ?_
    rintro e w3 ⟨rfl, c3⟩
    have C3 := below_step C2 c3
    obtain ⟨k0, k1, k2⟩ := hc _ C3
    rw [show ((1 : Int) == 2) = false by rfl]
    go_wp2_with fail
    go_ret
    exact ⟨by rw [F.out]; rfl, below_step b1 C3⟩
  · have F := hide hf; have Hy := hide hy; have Hz := hide hz; clear hf hy hz
    go_enter Tryd.func52, Tryd.ntmps52
    go_wp2_with fail
    refine (readsOp_c).mono ?_
    rintro e w2 ⟨rfl, c2⟩
    have C2 := c2
    obtain ⟨k0, k1, k2⟩ := hc _ C2
    rw [show ((2 : Int) == 1) = false by rfl]
    go_wp2_with fail
    refine (writesOp_c).mono ?_
    rintro e w3 ⟨rfl, c3⟩
    have C3 := below_step C2 c3
    obtain ⟨k0, k1, k2⟩ := hc _ C3
    rw [show ((2 : Int) == 2) = true by rfl]
    go_wp2_with fail
    refine (keyOk_c).mono ?_
    rintro e w' ⟨rfl, rfl⟩
    rw [Hy.out]
    go_wp2_with fail
    refine (valueOk_c).mono ?_
    rintro e w' ⟨rfl, rfl⟩
    rw [Hz.out]
    go_wp2_with fail
    refine (writesOp_c).mono ?_
    rintro e w4 ⟨rfl, c4⟩
    have C4 := below_step C3 c4
    obtain ⟨k0, k1, k2⟩ := hc _ C4
    rw [show ((2 : Int) == 2) = true by rfl]
    go_wp2_with fail
    go_ret
    exact ⟨by rw [F.out]; rfl, below_step b1 C4⟩
set_option maxHeartbeats 1000000 in
theorem TxnValid_1_c {x y z : Int} {w : World} :
    Calls Tryd.prog 75 #[.agg #[.int .i64 x, .int .i64 y, .int .i64 z]] w fun e w' => e = .returned (.bool (!opB (x, y, z))) ∧ Below w.heap.size w w' := by
  have b1 : Below w.heap.size w (w.alloc (.cells #[.int .i64 x, .int .i64 y, .int .i64 z] 51)) := (Below.refl _ _).alloc (Nat.le_refl _) _
  go_enter Tryd.func75, Tryd.ntmps75
  go_wp2_with fail
  refine (impl_OpValid_c).mono ?_
  rintro e w2 ⟨rfl, b2⟩
  go_wp2_with fail
  go_ret
  exact ⟨rfl, below_step b1 b2⟩

set_option maxHeartbeats 4000000 in
theorem IndexFunc_OpV_c {v : Value} {n : Nat} {ts : List T3} {w : World} (hs : S3 w v n ts) :
    Calls Tryd.prog 87 #[v, .func (.func 75) #[] #[]] w fun e w' => ∃ i : Int, e = .returned (.int .i64 i) ∧ (decide (0 ≤ i)) = ts.any (fun e => !opB e) ∧ Below w.heap.size w w' := by
  obtain ⟨A, c, rfl, hnc, hn, hr⟩ := hs
  have hl := hide hr.len
  go_enter Tryd.func87, Tryd.ntmps87
  go_wp2
  go_loopw [8] (fun i wr => ∃ k : Nat, k ≤ n ∧ i = .int .i64 k ∧ (ts.take k).any (fun e => !opB e) = false ∧ Below w.heap.size w wr) (fun i _ => n - (intOf i).toNat)
  case atStart => exact ⟨0, Nat.zero_le _, rfl, by simp, Below.refl _ _⟩
  case round =>
    obtain ⟨k, hk, rfl, hall, hbel⟩ := hrel
    have Hall := hide hall; clear hall
    by_cases hlt : k < n
    · obtain ⟨b, off, x, y, z, rfl, hbk, hx, p0, p1, p2⟩ := hr.at_ hlt
      have Hx := hide hx; clear hx
      have a0 := (hbel.cell (p := ⟨b, off + k * 3, none⟩) hbk).trans p0
      have a1 := (hbel.cell (p := ⟨b, off + k * 3 + 1, none⟩) hbk).trans p1
      have a2 := (hbel.cell (p := ⟨b, off + k * 3 + 2, none⟩) hbk).trans p2
      clear p0 p1 p2
      cases hv : opB (x, y, z)
      · have Hv := hide hv; clear hv
        go_wp2_with fail
        refine (TxnValid_1_c).mono ?_
        rintro e w2 ⟨rfl, b2⟩
        have B2 := below_step hbel b2
        rw [Hv.out]
        go_wp2_with fail
        go_ret
        exact ⟨_, rfl, by rw [any_atA Hx.out (by simp [Hv.out])]; simp, B2⟩
      · have Hv := hide hv; clear hv
        go_wp2_with fail
        refine (TxnValid_1_c).mono ?_
        rintro e w2 ⟨rfl, b2⟩
        have B2 := below_step hbel b2
        rw [Hv.out]
        go_wp2_with fail
        go_roundw
        case rel => exact ⟨k + 1, by omega, by go_num, any_snocA Hall.out Hx.out (by simp [Hv.out]), B2⟩
        case measure => simp [intOf]; omega
    · go_wp2
      go_ret
      obtain rfl : k = n := by omega
      refine ⟨_, rfl, ?_, hbel⟩
      have h1 := Hall.out
      rw [List.take_of_length_le (by rw [hl.out]; omega)] at h1
      rw [h1]; rfl
set_option maxHeartbeats 1000000 in
theorem ContainsFunc_OpV_c {v : Value} {n : Nat} {ts : List T3} {w : World} (hs : S3 w v n ts) :
    Calls Tryd.prog 74 #[v, .func (.func 75) #[] #[]] w fun e w' => e = .returned (.bool (ts.any (fun e => !opB e))) ∧ Below w.heap.size w w' := by
  obtain ⟨A, c, rfl, hnc, hn, hr⟩ := hs
  go_enter Tryd.func74, Tryd.ntmps74
  go_wp2_with fail
  refine (IndexFunc_OpV_c ⟨A, c, rfl, hnc, hn, hr⟩).mono ?_
  rintro e w2 ⟨i, rfl, hi, b2⟩
  have Hi := hide hi; clear hi
  go_wp2_with fail
  go_ret
  exact ⟨by rw [← Hi.out]; rfl, b2⟩

set_option maxHeartbeats 2000000 in
theorem impl_TxnValid_c {v : Value} {m : Nat} {ys : List T3} {f : Int} {dn : Bool} {w : World} (hv : S3 w v m ys) :
    Calls Tryd.prog 43 #[.agg #[.int .i64 f, v, .bool dn]] w fun e w' => e = .returned (.bool (txnB (f, ys, dn))) ∧ Below w.heap.size w w' := by
  have sv := hv
  have hbd := hv.bd
  have hl := hide hv.len
  obtain ⟨B, d, rfl⟩ := hv.shape
  have b1 : Below w.heap.size w (w.alloc (.cells #[.int .i64 f, .slice B m d, .bool dn] 58)) := (Below.refl _ _).alloc (Nat.le_refl _) _
  have K1 := Blk.new w 58 #[.int .i64 f, .slice B m d, .bool dn]
  obtain ⟨k0, k1, k2⟩ := K1.three
  cases hF : inB f 0 3
  · have hf : txnB (f, ys, dn) = false := by simp [txnB, hF]
    have F := hide hf; have Z := hide hF; clear hf hF
    go_enter Tryd.func43, Tryd.ntmps43
    go_wp2_with (first | (go_at_call 73; refine (sessionOk_c).mono ?_; rintro e w' ⟨rfl, rfl⟩; rw [Z.out]))
    go_ret
    exact ⟨by rw [F.out]; rfl, b1⟩
  · by_cases hL : m ≤ 6
    · have hf : txnB (f, ys, dn) = !(ys.any fun e => !opB e) := by unfold txnB; dsimp only; rw [hF, hl.out, not_allA]; simp [hL]
      have F := hide hf; have Z := hide hF; clear hf hF
      have hd : ¬ ((6 : Int) < m) := by omega
      go_enter Tryd.func43, Tryd.ntmps43
      go_wp2_with (first | (go_at_call 73; refine (sessionOk_c).mono ?_; rintro e w' ⟨rfl, rfl⟩; rw [Z.out]))
      refine (ContainsFunc_OpV_c (sv.below b1)).mono ?_
      rintro e w2 ⟨rfl, b2⟩
      go_wp2_with fail
      go_ret
      exact ⟨by rw [F.out]; rfl, below_step b1 b2⟩
    · have hf : txnB (f, ys, dn) = false := by unfold txnB; dsimp only; rw [hl.out]; simp [hL]
      have F := hide hf; have Z := hide hF; clear hf hF
      go_enter Tryd.func43, Tryd.ntmps43
      go_wp2_with (first | (go_at_call 73; refine (sessionOk_c).mono ?_; rintro e w' ⟨rfl, rfl⟩; rw [Z.out]))
      go_ret
      exact ⟨by rw [F.out]; rfl, b1⟩
set_option maxHeartbeats 1000000 in
theorem HistoryValid_1_c {v : Value} {m : Nat} {ys : List T3} {f : Int} {dn : Bool} {w : World} (hv : S3 w v m ys) :
    Calls Tryd.prog 42 #[.agg #[.int .i64 f, v, .bool dn]] w fun e w' => e = .returned (.bool (!txnB (f, ys, dn))) ∧ Below w.heap.size w w' := by
  have sv := hv
  obtain ⟨B, d, rfl⟩ := hv.shape
  have b1 : Below w.heap.size w (w.alloc (.cells #[.int .i64 f, .slice B m d, .bool dn] 58)) := (Below.refl _ _).alloc (Nat.le_refl _) _
  go_enter Tryd.func42, Tryd.ntmps42
  go_wp2_with fail
  refine (impl_TxnValid_c (sv.below b1)).mono ?_
  rintro e w2 ⟨rfl, b2⟩
  go_wp2_with fail
  go_ret
  exact ⟨rfl, below_step b1 b2⟩

set_option maxHeartbeats 4000000 in
theorem IndexFunc_Txn_c {A : Option Addr} {n c : Nat} {ms : List Tx} {w : World} (hr : RTs w A n ms) (hn : n ≤ 1048576) (hsm : SmallT ms) :
    Calls Tryd.prog 72 #[.slice A n c, .func (.func 42) #[] #[]] w fun e w' => ∃ i : Int, e = .returned (.int .i64 i) ∧ (decide (0 ≤ i)) = ms.any (fun e => !txnB e) ∧ Below w.heap.size w w' := by
  have hl := hide hr.1
  go_enter Tryd.func72, Tryd.ntmps72
  go_wp2
  go_loopw [8] (fun i wr => ∃ k : Nat, k ≤ n ∧ i = .int .i64 k ∧ (ms.take k).any (fun e => !txnB e) = false ∧ Below w.heap.size w wr) (fun i _ => n - (intOf i).toNat)
  case atStart => exact ⟨0, Nat.zero_le _, rfl, by simp, Below.refl _ _⟩
  case round =>
    obtain ⟨k, hk, rfl, hall, bw⟩ := hrel
    have Hall := hide hall; clear hall
    by_cases hlt : k < n
    · obtain ⟨b, off, f, ys, dn, B, kk, d, rfl, hbb, hx, q0, q1, q2, hkd, hdm, hri⟩ := hr.at_ hlt
      have e0 := (bw.cell (p := ⟨b, off + k * 3, none⟩) hbb).trans q0
      have e1 := (bw.cell (p := ⟨b, off + k * 3 + 1, none⟩) hbb).trans q1
      have e2 := (bw.cell (p := ⟨b, off + k * 3 + 2, none⟩) hbb).trans q2
      have hsz := hsm _ (List.mem_of_getElem? hx)
      have hyl := hri.len
      have hk1 : kk ≤ 1048576 := by dsimp only at hsz; omega
      have s1 : S3 wr (.slice B kk d) kk ys := S3.of_args hkd hk1 (hri.below bw)
      have Hx := hide hx
      clear hx q0 q1 q2 hsz hyl
      cases hv : txnB (f, ys, dn)
      · have Hv := hide hv; clear hv
        go_wp2_with fail
        refine (HistoryValid_1_c s1).mono ?_
        rintro e w2 ⟨rfl, b2⟩
        have B2 := below_step bw b2
        rw [Hv.out]
        go_wp2_with fail
        go_ret
        exact ⟨_, rfl, by rw [any_atA Hx.out (by simp [Hv.out])]; simp, B2⟩
      · have Hv := hide hv; clear hv
        go_wp2_with fail
        refine (HistoryValid_1_c s1).mono ?_
        rintro e w2 ⟨rfl, b2⟩
        have B2 := below_step bw b2
        rw [Hv.out]
        go_wp2_with fail
        go_roundw
        case rel => exact ⟨k + 1, by omega, by go_num, any_snocA Hall.out Hx.out (by simp [Hv.out]), B2⟩
        case measure => simp [intOf]; omega
    · go_wp2
      go_ret
      obtain rfl : k = n := by omega
      refine ⟨_, rfl, ?_, bw⟩
      have h1 := Hall.out
      rw [List.take_of_length_le (by rw [hl.out]; omega)] at h1
      rw [h1]; rfl

end Go.Proofs.YtieecneknljmdaaDoor
