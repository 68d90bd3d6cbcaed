/- impl.touched, impl.MeetingTxns. -/
import Derived.Test.YtieecneknljmdaaDoorMeetP
import Derived.Test.YtieecneknljmdaaDoorHistI
namespace Go.Proofs.YtieecneknljmdaaDoor
open Go.RowKit

theorem sliceI_hi {A : Option Addr} {n c k : Nat} {xs : List Int} {w : World} (hs : SI w (.slice A n c) n xs) (hk : k ≤ n) :
    ∃ A', (∀ w', (Instr.slice 27 (.slice A n c) none (some (.int .i64 (k : Int))) none).run Tryd.prog w' = .ok (.slice A' k c) w') ∧ SI w (.slice A' k c) k (xs.take k) := by
  obtain ⟨A0, c0, e, hnc, hn, hl, hr⟩ := hs
  injection e with e1 e2 e3
  subst e1; subst e3
  obtain ⟨i, hi, hz, hsz, hb⟩ := info_parts intInfo
  refine ⟨if c = 0 then A else A.map (·.add (0 * i.size)), fun w' => ?_, _, _, rfl, by omega, by omega, by simp; omega, fun hk0 => ?_⟩
  · have h2 : k ≤ c := by omega
    simp [Instr.slice, Instr.sliceBounds, Instr.sliceBound, run_underlying Tryd.underlying27, sizeOf, typeInfo, hi, asIntOf, h2]
  · obtain ⟨b, off, rfl, hb', hc⟩ := hr (by omega)
    refine ⟨b, off, ?_, hb', fun j x hj => ?_⟩
    · rw [if_neg (by omega), Nat.zero_mul]; simp [addr_add]
    · rw [List.getElem?_take] at hj
      split at hj
      · exact hc j x hj
      · cases hj

set_option maxHeartbeats 4000000 in
theorem touched_c {v : Value} {m : Nat} {ys : List T3} {f : Int} {dn : Bool} {w : World} (hv : S3 w v m ys) (hk : ∀ o ∈ ys, 0 ≤ o.2.1 ∧ o.2.1 ≤ 2) :
    Calls Tryd.prog 31 #[.agg #[.int .i64 f, v, .bool dn]] w fun e w' => e = .returned (.tuple #[.int .u64 (maskU ys : Nat), .int .u64 (maskW ys : Nat)]) ∧ Below w.heap.size w w' := by
  obtain ⟨A, c, rfl, hnc, hm, hr⟩ := hv
  have hl := hide hr.len
  have HK := hide hk; clear hk
  have B0 := hide ((Below.refl w.heap.size w).alloc (Nat.le_refl _) (.cells #[.int .i64 f, .slice A m c, .bool dn] 58))
  have K0 := Blk.new w 58 #[.int .i64 f, .slice A m c, .bool dn]
  obtain ⟨g0, g1, g2⟩ := K0.three
  clear K0
  go_enter Tryd.func31, Tryd.ntmps31
  go_wp2_with fail
  go_loopw [4, 5, 11] (fun u v i wr => ∃ k : Nat, i = .int .i64 k ∧ k ≤ m ∧ u = .int .u64 (maskU (ys.take k) : Nat) ∧ v = .int .u64 (maskW (ys.take k) : Nat) ∧ Below w.heap.size w wr) (fun _ _ i _ => m - (intOf i).toNat)
  case atStart => exact ⟨0, rfl, Nat.zero_le _, rfl, rfl, B0.out⟩
  case round =>
    clear B0 g0 g1 g2
    obtain ⟨k, rfl, hkm, rfl, rfl, bw⟩ := hrel
    have BW := hide bw; clear bw
    by_cases hlt : k < m
    · obtain ⟨b, off, x, y, z, rfl, hbb, hx, p0, p1, p2⟩ := hr.at_ hlt
      have a0 := (BW.out.cell (p := ⟨b, off + k * 3, none⟩) hbb).trans p0
      have a1 := (BW.out.cell (p := ⟨b, off + k * 3 + 1, none⟩) hbb).trans p1
      have a2 := (BW.out.cell (p := ⟨b, off + k * 3 + 2, none⟩) hbb).trans p2
      have hy := HK.out _ (List.mem_of_getElem? hx)
      dsimp only at hy
      obtain ⟨y0, y2⟩ := hy
      have htk : ys.take (k + 1) = ys.take k ++ [(x, y, z)] := by rw [List.take_add_one, hx]; rfl
      have hu := maskU_step (ys.take k) (x := x) (z := z) ⟨y0, y2⟩
      rw [← htk] at hu
      have HU := hide hu
      have k0 : (0 : Int) ≤ k := by omega
      have k2 : (k : Int) < m := by omega
      have b1 : Below w.heap.size w (wr.alloc (.cells #[.int .i64 x, .int .i64 y, .int .i64 z] 51)) := BW.out.alloc BW.out.size _
      have K1 := Blk.new wr 51 #[.int .i64 x, .int .i64 y, .int .i64 z]
      clear hx p0 p1 p2 hu
      by_cases hx2 : x = 2
      · subst hx2
        have hw := maskW_step (ys.take k) (z := z) ⟨y0, y2⟩
        rw [← htk] at hw
        have HW := hide hw
        clear hw htk
        go_wp2_with fail
        refine (writesOp_c).mono ?_
        rintro e w2 ⟨rfl, b2⟩
        rw [show ((2 : Int) == 2) = true by rfl]
        have B2 := below_step b1 b2
        have K2 := K1.belowAll b2
        obtain ⟨f0, f1, f2⟩ := K2.three
        clear K1 K2
        go_wp2_with fail
        go_roundw
        case rel => exact ⟨k + 1, by go_num, by omega, by rw [← HU.out], by rw [← HW.out], B2⟩
        case measure => simp [intOf]; omega
      · have hw := maskW_snoc_r (ys.take k) (y := y) (z := z) hx2
        rw [← htk] at hw
        have HW := hide hw
        have hxb : (x == 2) = false := by simpa using hx2
        clear hw htk hx2
        go_wp2_with fail
        refine (writesOp_c).mono ?_
        rintro e w2 ⟨rfl, b2⟩
        rw [hxb]
        have B2 := below_step b1 b2
        clear K1
        go_wp2_with fail
        go_roundw
        case rel => exact ⟨k + 1, by go_num, by omega, by rw [← HU.out], by rw [HW.out], B2⟩
        case measure => simp [intOf]; omega
    · obtain rfl : k = m := by omega
      have ht : ys.take k = ys := List.take_of_length_le (by rw [hl.out]; omega)
      have HT := hide ht; clear ht
      go_wp2_with fail
      refine bodyPost_ret (v := .tuple #[.int .u64 (maskU (ys.take k) : Nat), .int .u64 (maskW (ys.take k) : Nat)]) (by simp [results, Tryd.results31, go_sem]) rfl ⟨by rw [HT.out], BW.out⟩

theorem opB_keys {f : Int} {dn : Bool} {ys : List T3} (h : txnB (f, ys, dn) = true) : ∀ o ∈ ys, 0 ≤ o.2.1 ∧ o.2.1 ≤ 2 := fun o ho => by
  obtain ⟨j, hj, hg⟩ := List.mem_iff_getElem.1 ho
  have := txnB_opH h (k := j) (o := o) (by rw [← hg]; exact List.getElem?_eq_getElem hj)
  unfold opB at this
  simp only [Bool.and_eq_true, inB_iff] at this
  exact this.2.1
/-- What the committed ones are. -/
theorem doneTo_mem (ts : List Tx) : ∀ (k : Nat) (x : Int), x ∈ doneTo ts k → ∃ i : Nat, x = i ∧ i < k
  | 0, x, h => by simp [doneTo] at h
  | k + 1, x, h => by
    simp only [doneTo, List.mem_append] at h
    rcases h with h | h
    · obtain ⟨i, h1, h2⟩ := doneTo_mem ts k x h; exact ⟨i, h1, by omega⟩
    · split at h
      · simp at h; exact ⟨k, h, by omega⟩
      · simp at h
theorem take_snocI {xs : List Int} {k : Nat} {x : Int} (h : xs[k]? = some x) : xs.take (k + 1) = xs.take k ++ [x] := by rw [List.take_add_one, h]; rfl
set_option maxRecDepth 100000 in
set_option maxHeartbeats 8000000 in
theorem impl_MeetingTxns_c {A : Option Addr} {n c : Nat} {ts : List Tx} {w : World} (hr : RTs w A n ts) (hn : n ≤ 1048576) (hsm : SmallT ts) :
    Calls Tryd.prog 11 #[.slice A n c] w fun e w' => e = .returned (.int .i64 (meetV ts)) ∧ Below w.heap.size w w' := by
  have hl := hide hr.1
  cases hv : histB ts
  · have hf : meetV ts = -1 := by simp [meetV, hv]
    have F := hide hf; have V := hide hv; clear hf hv
    go_enter Tryd.func11, Tryd.ntmps11
    go_wp2_with fail
    refine (impl_HistoryValid_c hr hn hsm).mono ?_
    rintro e w2 ⟨rfl, b2⟩
    rw [V.out]
    go_wp2_with fail
    go_ret
    exact ⟨by rw [F.out]; rfl, b2⟩
  · have hf : meetV ts = (meetsL ts (doneL ts) : Int) := by simp [meetV, hv]
    obtain ⟨h6, htx, _⟩ := histB_parts hv
    have HTX := hide htx
    have hd6 : (doneL ts).length ≤ 6 := by have := doneTo_len ts ts.length; unfold doneL; omega
    have F := hide hf; have V := hide hv; clear hf hv htx
    go_enter Tryd.func11, Tryd.ntmps11
    go_wp2_with fail
    refine (impl_HistoryValid_c hr hn hsm).mono ?_
    rintro e w2 ⟨rfl, b2⟩
    rw [V.out]
    go_wp2_with fail
    refine (impl_done_c (hr.below b2) (by rw [hl.out] at h6; omega)).mono ?_
    rintro e w3 ⟨r, k3, rfl, o3, b3⟩
    have B3 := hide (below_step b2 b3)
    obtain ⟨Ar, cr, rfl⟩ := o3.shape
    have HRT := hide (hr.below (below_step b2 b3))
    have hk3 := o3.len
    have HSI := hide o3.si
    obtain ⟨A9, c9, e9, _, _, hri⟩ := o3.si
    obtain ⟨rfl, rfl⟩ : Ar = A9 ∧ cr = c9 := by simpa using e9
    have HRI := hide hri
    clear o3 e9 hri b2 b3
    go_wp2_with fail
    go_loopw [3, 20] (fun v i wr => ∃ k : Nat, i = .int .i64 k ∧ k ≤ k3 ∧ v = .int .i64 (meetsL ts ((doneL ts).take k) : Nat) ∧ Below w3.heap.size w3 wr) (fun _ i _ => k3 - (intOf i).toNat)
    case atStart => exact ⟨0, rfl, Nat.zero_le _, rfl, Below.refl _ _⟩
    case round =>
      obtain ⟨k, rfl, hk, rfl, bw⟩ := hrel
      have BW := hide bw; clear bw
      by_cases hkk : k < k3
      · obtain ⟨b, off, x, rfl, hbb, hx, hc⟩ := HRI.out.at_ hkk
        obtain ⟨a, rfl, ha⟩ := doneTo_mem ts _ _ (List.mem_of_getElem? hx)
        have hc1 := (BW.out.cell (p := ⟨b, off + k, none⟩) hbb).trans hc
        obtain ⟨Ac, rc, sc⟩ := sliceI_hi HSI.out hk
        have HSC := hide sc; have HRC := hide rc
        have hn2 : a < n := by rw [← hl.out]; exact ha
        obtain ⟨bt, ot, f, ys, dn, B, kk, d, rfl, hbt, hxt, q0, q1, q2, hkd, hdm, hri3⟩ := HRT.out.at_ hn2
        have e0 := (BW.out.cell (p := ⟨bt, ot + a * 3, none⟩) hbt).trans q0
        have e1 := (BW.out.cell (p := ⟨bt, ot + a * 3 + 1, none⟩) hbt).trans q1
        have e2 := (BW.out.cell (p := ⟨bt, ot + a * 3 + 2, none⟩) hbt).trans q2
        have hkeys := opB_keys (HTX.out _ (List.mem_of_getElem? hxt))
        have hopa : opsAt ts (a : Int) = ys := by simp [opsAt, opsOf, List.getD, hxt]
        have HOPA := hide hopa; have HKEYS := hide hkeys
        have h61 : kk ≤ 1048576 := by have h1 := hsm _ (List.mem_of_getElem? hxt); have h2 := hri3.len; dsimp only at h1; omega
        have s1 : S3 w3 (.slice B kk d) kk ys := S3.of_args hkd h61 hri3
        have HX := hide hx
        have k0 : (0 : Int) ≤ k := by omega
        have k2 : (k : Int) < k3 := by omega
        have a0 : (0 : Int) ≤ a := by omega
        have a2 : (a : Int) < n := by omega
        clear hx hc q0 q1 q2 hxt hopa hkeys sc rc hri3
        go_wp2_with fail
        refine (touched_c (s1.below BW.out) HKEYS.out).mono ?_
        rintro e w4 ⟨rfl, b4⟩
        have B4 := hide (below_step BW.out b4)
        have hrc := HRC.out
        obtain ⟨Ac', cc', ec, _, _, hrs⟩ := HSC.out
        obtain ⟨rfl, rfl⟩ : Ac = Ac' ∧ cr = cc' := by simpa using ec
        have HRS := hide hrs
        clear e0 e1 e2 hc1 b4 ec hrs
        go_wp2_with fail
        go_loopw [3, 37] (fun v i wr => ∃ j : Nat, i = .int .i64 j ∧ j ≤ k ∧ v = .int .i64 (meetsL ts ((doneL ts).take k) + cntM ts (a : Int) ((doneL ts).take j) : Nat) ∧ Below w3.heap.size w3 wr) (fun _ i _ => k - (intOf i).toNat)
        case atStart => exact ⟨0, rfl, Nat.zero_le _, rfl, B4.out⟩
        case round =>
          clear B4 hrc
          obtain ⟨j, rfl, hj, rfl, bw⟩ := hrel
          have BW4 := hide bw; clear bw
          by_cases hjk : j < k
          · obtain ⟨b', off', x', rfl, hbb', hx', hc'⟩ := HRS.out.at_ hjk
            rw [List.getElem?_take_of_lt hjk] at hx'
            obtain ⟨p, rfl, hp⟩ := doneTo_mem ts _ _ (List.mem_of_getElem? hx')
            have hc1' := (BW4.out.cell (p := ⟨b', off' + j, none⟩) hbb').trans hc'
            have hn3 : p < n := by rw [← hl.out]; exact hp
            obtain ⟨bt', ot', f', ys', dn', B', kk', d', ea, hbt', hxt', q0', q1', q2', hkd', hdm', hri3'⟩ := HRT.out.at_ hn3
            injection ea with ea; injection ea with ea1 ea2; subst ea1; subst ea2
            have e0' := (BW4.out.cell (p := ⟨bt, ot + p * 3, none⟩) hbt').trans q0'
            have e1' := (BW4.out.cell (p := ⟨bt, ot + p * 3 + 1, none⟩) hbt').trans q1'
            have e2' := (BW4.out.cell (p := ⟨bt, ot + p * 3 + 2, none⟩) hbt').trans q2'
            have hkeys' := opB_keys (HTX.out _ (List.mem_of_getElem? hxt'))
            have hopp : opsAt ts (p : Int) = ys' := by simp [opsAt, opsOf, List.getD, hxt']
            have h62 : kk' ≤ 1048576 := by have h1 := hsm _ (List.mem_of_getElem? hxt'); have h2 := hri3'.len; dsimp only at h1; omega
            have s1' : S3 w3 (.slice B' kk' d') kk' ys' := S3.of_args hkd' h62 hri3'
            have hst := cntM_snoc ts (a : Int) (p : Int) ((doneL ts).take j)
            rw [← take_snocI hx', HOPA.out, hopp] at hst
            have hmb := meet_bits64 (a := ys) (b := ys') HKEYS.out
            have hb1 := meetsL_small ts (l := (doneL ts).take k) (by rw [List.length_take]; omega)
            have hb2 := cntM_le ts (a : Int) ((doneL ts).take j)
            rw [List.length_take] at hb2
            have j0 : (0 : Int) ≤ j := by omega
            have j2 : (j : Int) < k := by omega
            have p0 : (0 : Int) ≤ p := by omega
            have p2 : (p : Int) < n := by omega
            have HST := hide hst; have HKP := hide hkeys'
            obtain ⟨M1, hM1⟩ : ∃ q, meetsL ts ((doneL ts).take k) = q := ⟨_, rfl⟩
            obtain ⟨M2, hM2⟩ : ∃ q, cntM ts (a : Int) ((doneL ts).take j) = q := ⟨_, rfl⟩
            rw [hM1] at hb1
            rw [hM2] at hb2 HST
            rw [hM1, hM2]
            have HM1 := hide hM1
            clear hM1 hM2 hst hx' hc' q0' q1' q2' hxt' hri3' hopp hkeys'
            cases hmm : meetB ys ys'
            · rw [hmm] at hmb HST
              have HMM := hide hmm; clear hmm
              go_wp2_with fail
              refine (touched_c (s1'.below BW4.out) HKP.out).mono ?_
              rintro e w5 ⟨rfl, b5⟩
              have B5 := hide (below_step BW4.out b5)
              clear e0' e1' e2' hc1' b5
              go_wp2_with fail
              go_roundw
              case rel => exact ⟨j + 1, by go_num, by omega, by rw [HST.out]; congr 1, B5.out⟩
              case measure => simp [intOf]; omega
            · rw [hmm] at hmb HST
              have HMM := hide hmm; clear hmm
              go_wp2_with fail
              refine (touched_c (s1'.below BW4.out) HKP.out).mono ?_
              rintro e w5 ⟨rfl, b5⟩
              have B5 := hide (below_step BW4.out b5)
              clear e0' e1' e2' hc1' b5
              go_wp2_with fail
              go_roundw
              case rel => exact ⟨j + 1, by go_num, by omega, by rw [HST.out, if_pos trivial]; congr 1, B5.out⟩
              case measure => simp [intOf]; omega
          · obtain rfl : j = k := by omega
            have hst := meetsL_snoc ts (a : Int) ((doneL ts).take j)
            rw [← take_snocI HX.out] at hst
            have HST := hide hst; clear hst
            go_wp2_with fail
            go_roundw
            case rel => exact ⟨j + 1, by go_num, by omega, by rw [HST.out], BW4.out⟩
            case measure => simp [intOf]; omega
      · obtain rfl : k = k3 := by omega
        have ht : (doneL ts).take k = doneL ts := List.take_of_length_le (by rw [hk3]; omega)
        have HT := hide ht; clear ht
        go_wp2_with fail
        go_ret
        exact ⟨by rw [F.out, HT.out]; rfl, below_step B3.out BW.out⟩

end Go.Proofs.YtieecneknljmdaaDoor
