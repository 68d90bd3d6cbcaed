/- The reference's l22Meet, MeetingTxns. -/
import Derived.Test.YtipmfpfmhgdgdaaDoorMeetP
import Derived.Test.YtipmfpfmhgdgdaaDoorHistS
import Derived.Test.YtipmfpfmhgdgdaaDoorHistI
namespace Go.Proofs.YtipmfpfmhgdgdaaDoor
open Go.RowKit

theorem any_snocB {α : Type} {p : α → Bool} {xs : List α} {k : Nat} {x : α} (h : (xs.take k).any p = false) (hx : xs[k]? = some x) (hp : p x = false) : (xs.take (k + 1)).any p = false := any_snocA h hx hp
set_option maxRecDepth 100000 in
set_option maxHeartbeats 16000000 in
theorem l22Meet_c {u v : Value} {n m : Nat} {xs ys : List T3} {f f' : Int} {d d' : Bool} {w : World} (hu : S3 w u n xs) (hv : S3 w v m ys) :
    Calls Tryd.prog 27 #[.agg #[.int .i64 f, u, .bool d], .agg #[.int .i64 f', v, .bool d']] w fun e w' => e = .returned (.bool (meetB xs ys)) ∧ Below w.heap.size w w' := by
  obtain ⟨A, c, rfl, hnc, hn, hra⟩ := hu
  obtain ⟨B, c', rfl, hmc, hm, hrb⟩ := hv
  have hla := hide hra.len; have hlb := hide hrb.len
  have b0 : Below w.heap.size w ((w.alloc (.cells #[.int .i64 f, .slice A n c, .bool d] 36)).alloc (.cells #[.int .i64 f', .slice B m c', .bool d'] 36)) := ((Below.refl _ _).alloc (Nat.le_refl _) _).alloc (by simp) _
  have K2 := (Blk.new w 36 #[.int .i64 f, .slice A n c, .bool d]).alloc (.cells #[.int .i64 f', .slice B m c', .bool d'] 36)
  have K3 := Blk.new (w.alloc (.cells #[.int .i64 f, .slice A n c, .bool d] 36)) 36 #[.int .i64 f', .slice B m c', .bool d']
  simp only [World.size_alloc] at K3
  have HB0 := hide b0; have HK2 := hide K2; have HK3 := hide K3
  clear b0 K2 K3
  go_enter Tryd.func27, Tryd.ntmps27
  go_wp2_with fail
  go_loopw [5] (fun i wr => ∃ k : Nat, i = .int .i64 k ∧ k ≤ n ∧ (xs.take k).any (fun o => ys.any fun p => hitB o p) = false ∧ Below w.heap.size w wr ∧ Blk wr w.heap.size 36 #[.int .i64 f, .slice A n c, .bool d] ∧ Blk wr (w.heap.size + 1) 36 #[.int .i64 f', .slice B m c', .bool d']) (fun i _ => n - (intOf i).toNat)
  case atStart => exact ⟨0, rfl, Nat.zero_le _, by simp, HB0.out, HK2.out, HK3.out⟩
  case round =>
    clear HB0 HK2 HK3
    obtain ⟨k, rfl, hk, hno, bw, k2b, k3b⟩ := hrel
    have HNO := hide hno; have BW := hide bw; have HK2 := hide k2b; have HK3 := hide k3b
    obtain ⟨_, g1, _⟩ := k2b.three
    clear hno bw k2b k3b
    by_cases hkn : k < n
    · obtain ⟨b, off, x, y, z, rfl, hbb, hx, p0, p1, p2⟩ := hra.at_ hkn
      have HX := hide hx; have P0 := hide p0; have P1 := hide p1
      have k0 : (0 : Int) ≤ k := by omega
      have k2 : (k : Int) < n := by omega
      clear hx p0 p1 p2
      go_wp2_with fail
      clear g1
      go_loopw [6] (fun i wr2 => ∃ j : Nat, i = .int .i64 j ∧ j ≤ m ∧ (ys.take j).any (fun p => hitB (x, y, z) p) = false ∧ Below w.heap.size w wr2 ∧ Blk wr2 w.heap.size 36 #[.int .i64 f, .slice (some ⟨b, off, none⟩) n c, .bool d] ∧ Blk wr2 (w.heap.size + 1) 36 #[.int .i64 f', .slice B m c', .bool d']) (fun i _ => m - (intOf i).toNat)
      case atStart => exact ⟨0, rfl, Nat.zero_le _, by simp, BW.out, HK2.out, HK3.out⟩
      case round =>
        clear BW HK2 HK3
        obtain ⟨j, rfl, hj, hno2, bw, k2b, k3b⟩ := hrel
        rename World => wr2
        have HNO2 := hide hno2; have BW := hide bw; have HK2 := hide k2b; have HK3 := hide k3b
        obtain ⟨_, g1, _⟩ := k2b.three
        obtain ⟨_, g2, _⟩ := k3b.three
        clear hno2 bw k2b k3b
        by_cases hjm : j < m
        · obtain ⟨b', off', x', y', z', rfl, hbb', hx', p0', p1', p2'⟩ := hrb.at_ hjm
          have HX' := hide hx'
          have a0 := (BW.out.cell (p := ⟨b, off + k * 3, none⟩) hbb).trans P0.out
          have a1 := (BW.out.cell (p := ⟨b, off + k * 3 + 1, none⟩) hbb).trans P1.out
          have a0' := (BW.out.cell (p := ⟨b', off' + j * 3, none⟩) hbb').trans p0'
          have a1' := (BW.out.cell (p := ⟨b', off' + j * 3 + 1, none⟩) hbb').trans p1'
          have j0 : (0 : Int) ≤ j := by omega
          have j2 : (j : Int) < m := by omega
          have i1 : decide ((k : Int) < 0) = false := by simp
          have i2 : decide (n ≤ k) = false := by simp; omega
          have i3 : decide ((j : Int) < 0) = false := by simp
          have i4 : decide (m ≤ j) = false := by simp; omega
          have hmiss : hitB (x, y, z) (x', y', z') = false → (ys.take (j + 1)).any (fun p => hitB (x, y, z) p) = false := fun h => any_snocA HNO2.out HX'.out h
          have HMISS := hide hmiss
          clear hx' p0' p1' p2' hmiss
          by_cases hy : y = y'
          · subst hy
            have hyy : (y == y) = true := by simp
            by_cases h2 : x = 2
            · subst h2
              have hf : meetB xs ys = true := meetB_hit HX.out HX'.out (by simp [hitB])
              have F := hide hf
              have h22 : ((2 : Int) == 2) = true := rfl
              clear hf
              go_wp2_with fail
              go_big_quiet (fail)
              go_wp2_with fail
              go_ret
              exact ⟨by rw [F.out]; rfl, below_drewN BW.out _⟩
            · have hx2 : (x == 2) = false := by simpa using h2
              by_cases h2' : x' = 2
              · subst h2'
                have hf : meetB xs ys = true := meetB_hit HX.out HX'.out (by simp [hitB])
                have F := hide hf
                have h22 : ((2 : Int) == 2) = true := rfl
                clear hf h2
                go_wp2_with fail
                go_big_quiet (fail)
                go_wp2_with fail
                go_ret
                exact ⟨by rw [F.out]; rfl, below_drewN BW.out _⟩
              · have hx2' : (x' == 2) = false := by simpa using h2'
                have hm2 := HMISS.out (by simp [hitB, h2, h2'])
                have HM2 := hide hm2
                clear h2 h2' hm2
                go_wp2_with fail
                go_big_quiet (fail)
                go_wp2_with fail
                go_roundw
                case rel => exact ⟨j + 1, by go_num, by omega, HM2.out, below_drewN BW.out _, HK2.out, HK3.out⟩
                case measure => simp [intOf]; omega
          · have hyb : (y == y') = false := by simpa using hy
            have hm2 := HMISS.out (by simp [hitB, hyb])
            have HM2 := hide hm2
            clear hy hm2
            go_wp2_with fail
            go_big_quiet (fail)
            go_wp2_with fail
            go_roundw
            case rel => exact ⟨j + 1, by go_num, by omega, HM2.out, below_drewN BW.out _, HK2.out, HK3.out⟩
            case measure => simp [intOf]; omega
        · obtain rfl : j = m := by omega
          have h1 := HNO2.out
          rw [List.take_of_length_le (by rw [hlb.out]; omega)] at h1
          have h2 := any_snocA (p := fun o => ys.any fun p => hitB o p) HNO.out HX.out h1
          have H2 := hide h2
          clear h1 h2
          go_wp2_with fail
          go_roundw
          case rel => exact ⟨k + 1, by go_num, by omega, H2.out, BW.out, HK2.out, HK3.out⟩
          case measure => simp [intOf]; omega
    · obtain rfl : k = n := by omega
      have h1 := HNO.out
      rw [List.take_of_length_le (by rw [hla.out]; omega)] at h1
      have hf : meetB xs ys = false := h1
      have F := hide hf; clear hf h1
      go_wp2_with fail
      go_ret
      exact ⟨by rw [F.out]; rfl, BW.out⟩

/-- How many pairs meet before place (k, j). -/
def midM (ts : List Tx) (k j : Nat) : Nat := meetsL ts (doneTo ts k) + if (ts.getD k (0, [], false)).2.2 then cntM ts (k : Int) (doneTo ts j) else 0
theorem midM_zero (ts : List Tx) (k : Nat) : midM ts k 0 = meetsL ts (doneTo ts k) := by unfold midM; split <;> rfl
theorem midM_off {ts : List Tx} {k : Nat} {t : Tx} (h : ts[k]? = some t) (hd : t.2.2 = false) (j : Nat) : midM ts k j = meetsL ts (doneTo ts k) := by simp [midM, List.getD, h, hd]
theorem midM_on {ts : List Tx} {k : Nat} {t : Tx} (h : ts[k]? = some t) (hd : t.2.2 = true) (j : Nat) : midM ts k j = meetsL ts (doneTo ts k) + cntM ts (k : Int) (doneTo ts j) := by simp [midM, List.getD, h, hd]
theorem midM_end {ts : List Tx} {k : Nat} {t : Tx} (h : ts[k]? = some t) : midM ts (k + 1) 0 = midM ts k k := by
  rw [midM_zero]
  cases hd : t.2.2
  · rw [midM_off h hd, doneTo_no h hd]
  · rw [midM_on h hd, doneTo_yes h hd, meetsL_snoc]
set_option maxRecDepth 100000 in
set_option maxHeartbeats 16000000 in
theorem spec_MeetingTxns_c {A : Option Addr} {n c : Nat} {ts : List Tx} {w : World} (hr : RTs w A n ts) (hn : n ≤ 1048576) (hsum : (allOps ts).length ≤ 1048576) (hsm : SmallT ts) :
    Calls Tryd.prog 12 #[.slice A n c] w fun e w' => e = .returned (.int .i64 (meetV ts)) ∧ Below w.heap.size w w' := by
  have hl := hide hr.1
  cases hv : histB ts
  · have hf : meetV ts = -1 := by simp [meetV, hv]
    have F := hide hf; have V := hide hv; clear hf hv
    go_enter Tryd.func12, Tryd.ntmps12
    go_wp2_with fail
    refine (spec_HistoryValid_c hr hn hsum hsm).mono ?_
    rintro e w2 ⟨rfl, b2⟩
    rw [V.out]
    go_wp2_with fail
    go_ret
    exact ⟨by rw [F.out]; rfl, b2⟩
  · have hf : meetV ts = (meetsL ts (doneL ts) : Int) := by simp [meetV, hv]
    obtain ⟨h6, htx, _⟩ := histB_parts hv
    rw [hl.out] at h6
    have F := hide hf; have V := hide hv; clear hf hv htx
    have hbd : ∀ k, k ≤ n → meetsL ts (doneTo ts k) ≤ 15 := fun k hk => meetsL_small ts (by have := doneTo_len ts k; omega)
    have HBD := hide hbd
    go_enter Tryd.func12, Tryd.ntmps12
    go_wp2_with fail
    refine (spec_HistoryValid_c hr hn hsum hsm).mono ?_
    rintro e w2 ⟨rfl, b2⟩
    rw [V.out]
    have HRT := hide (hr.below b2); have B2 := hide b2
    clear hbd b2
    go_wp2_with fail
    go_loopw [3, 4] (fun v i wr => ∃ k : Nat, i = .int .i64 k ∧ k ≤ n ∧ v = .int .i64 (midM ts k 0 : Nat) ∧ Below w2.heap.size w2 wr) (fun _ i _ => n - (intOf i).toNat)
    case atStart => exact ⟨0, rfl, Nat.zero_le _, by rw [midM_zero]; rfl, Below.refl _ _⟩
    case round =>
      obtain ⟨k, rfl, hk, rfl, bw⟩ := hrel
      have BW := hide bw; clear bw
      by_cases hkn : k < n
      · obtain ⟨b, off, f, ys, dk, B, kk, d, rfl, hbb, hx, q0, q1, q2, hkd, hdm, hri⟩ := HRT.out.at_ hkn
        have h61 : kk ≤ 1048576 := by have h1 := hsm _ (List.mem_of_getElem? hx); have h2 := hri.len; dsimp only at h1; omega
        have s1 : S3 w2 (.slice B kk d) kk ys := S3.of_args hkd h61 hri
        have hopk : opsAt ts (k : Int) = ys := by simp [opsAt, opsOf, List.getD, hx]
        have HOPK := hide hopk
        have HX := hide hx; have Q0 := hide q0; have Q1 := hide q1; have Q2 := hide q2
        have k0 : (0 : Int) ≤ k := by omega
        have k2 : (k : Int) < n := by omega
        have i1 : decide ((k : Int) < 0) = false := by simp
        have i2 : decide (n ≤ k) = false := by simp; omega
        clear hx q0 q1 q2 hri hopk
        go_wp2_with fail
        go_loopw [3, 5] (fun v i wr => ∃ j : Nat, i = .int .i64 j ∧ j ≤ k ∧ v = .int .i64 (midM ts k j : Nat) ∧ Below w2.heap.size w2 wr) (fun _ i _ => k - (intOf i).toNat)
        case atStart => exact ⟨0, rfl, Nat.zero_le _, rfl, BW.out⟩
        case round =>
          clear BW
          obtain ⟨j, rfl, hj, rfl, bw⟩ := hrel
          rename World => wr2
          have BW := hide bw; clear bw
          by_cases hjk : j < k
          · obtain ⟨b', off', f', ys', dj, B', kk', d', ea, hbb', hx', q0', q1', q2', hkd', hdm', hri'⟩ := HRT.out.at_ (show j < n by omega)
            injection ea with ea; injection ea with ea1 ea2; subst ea1; subst ea2
            have h62 : kk' ≤ 1048576 := by have h1 := hsm _ (List.mem_of_getElem? hx'); have h2 := hri'.len; dsimp only at h1; omega
            have s1' : S3 w2 (.slice B' kk' d') kk' ys' := S3.of_args hkd' h62 hri'
            have hopj : opsAt ts (j : Int) = ys' := by simp [opsAt, opsOf, List.getD, hx']
            have HX' := hide hx'
            have c0 := (BW.out.cell (p := ⟨b, off + k * 3, none⟩) hbb).trans Q0.out
            have c1 := (BW.out.cell (p := ⟨b, off + k * 3 + 1, none⟩) hbb).trans Q1.out
            have c2 := (BW.out.cell (p := ⟨b, off + k * 3 + 2, none⟩) hbb).trans Q2.out
            have c0' := (BW.out.cell (p := ⟨b, off + j * 3, none⟩) hbb).trans q0'
            have c1' := (BW.out.cell (p := ⟨b, off + j * 3 + 1, none⟩) hbb).trans q1'
            have c2' := (BW.out.cell (p := ⟨b, off + j * 3 + 2, none⟩) hbb).trans q2'
            have j0 : (0 : Int) ≤ j := by omega
            have j2 : (j : Int) < n := by omega
            have i3 : decide ((j : Int) < 0) = false := by simp
            have i4 : decide (n ≤ j) = false := by simp; omega
            cases dk
            · have e1 := midM_off HX.out rfl j
              have e2 := midM_off HX.out rfl (j + 1)
              have HE := hide (e2.trans e1.symm)
              clear e1 e2 hx' q0' q1' q2' hri' hopj
              go_wp2_with fail
              go_big_quiet (fail)
              go_wp2_with fail
              go_roundw
              case rel => exact ⟨j + 1, by go_num, by omega, by rw [HE.out], below_drewN BW.out _⟩
              case measure => simp [intOf]; omega
            · cases dj
              · have e1 := midM_on HX.out rfl j
                have e2 := midM_on HX.out rfl (j + 1)
                rw [doneTo_no HX'.out rfl] at e2
                have HE := hide (e2.trans e1.symm)
                clear e1 e2 hx' q0' q1' q2' hri' hopj
                go_wp2_with fail
                go_big_quiet (fail)
                go_wp2_with fail
                go_roundw
                case rel => exact ⟨j + 1, by go_num, by omega, by rw [HE.out], below_drewN BW.out _⟩
                case measure => simp [intOf]; omega
              · have e1 := midM_on HX.out rfl j
                have e2 := midM_on HX.out rfl (j + 1)
                rw [doneTo_yes HX'.out rfl, cntM_snoc, HOPK.out, hopj, ← Nat.add_assoc, ← e1] at e2
                have hb1 := HBD.out k hk
                have hb2 := cntM_le ts (k : Int) (doneTo ts j)
                have hb3 := doneTo_len ts j
                have hbm : midM ts k j ≤ 30 := by rw [e1]; omega
                obtain ⟨M, hM⟩ : ∃ q, midM ts k j = q := ⟨_, rfl⟩
                rw [hM] at e2 hbm ⊢
                have HE := hide e2
                have hc : ∀ W, Below w2.heap.size w2 W → W.cell? ⟨b, off + k * 3, none⟩ = some (.int .i64 f) ∧ W.cell? ⟨b, off + k * 3 + 1, none⟩ = some (.slice B kk d) ∧ W.cell? ⟨b, off + k * 3 + 2, none⟩ = some (.bool true) ∧ W.cell? ⟨b, off + j * 3, none⟩ = some (.int .i64 f') ∧ W.cell? ⟨b, off + j * 3 + 1, none⟩ = some (.slice B' kk' d') ∧ W.cell? ⟨b, off + j * 3 + 2, none⟩ = some (.bool true) := fun W h =>
                  ⟨(h.cell (p := ⟨b, off + k * 3, none⟩) hbb).trans Q0.out, (h.cell (p := ⟨b, off + k * 3 + 1, none⟩) hbb).trans Q1.out, (h.cell (p := ⟨b, off + k * 3 + 2, none⟩) hbb).trans Q2.out, (h.cell (p := ⟨b, off + j * 3, none⟩) hbb).trans q0', (h.cell (p := ⟨b, off + j * 3 + 1, none⟩) hbb).trans q1', (h.cell (p := ⟨b, off + j * 3 + 2, none⟩) hbb).trans q2'⟩
                have BZ := BW.out.drew
                clear e1 e2 hx' hri' hopj hb1 hb2 hb3 hM
                go_wp2_with fail
                go_region_held3 (fun W => W.cell? ⟨b, off + k * 3, none⟩ = some (.int .i64 f) ∧ W.cell? ⟨b, off + k * 3 + 1, none⟩ = some (.slice B kk d) ∧ W.cell? ⟨b, off + k * 3 + 2, none⟩ = some (.bool true) ∧ W.cell? ⟨b, off + j * 3, none⟩ = some (.int .i64 f') ∧ W.cell? ⟨b, off + j * 3 + 1, none⟩ = some (.slice B' kk' d') ∧ W.cell? ⟨b, off + j * 3 + 2, none⟩ = some (.bool true))
                  (first | exact hc _ BZ)
                  (first | (go_at_call 27; refine (l22Meet_c (s1.below BZ) (s1'.below BZ)).mono ?_; rintro e w7 ⟨rfl, b7⟩; have BY := below_step BZ b7; clear BZ; have BZ := BY; clear BY))
                clear c0 c1 c2 c0' c1' c2' hc
                cases hmm : meetB ys ys'
                · rw [hmm] at HE
                  go_wp2_with fail
                  go_roundw
                  case rel => exact ⟨j + 1, by go_num, by omega, by rw [HE.out]; simp, BZ⟩
                  case measure => simp [intOf]; omega
                · rw [hmm] at HE
                  go_wp2_with fail
                  go_roundw
                  case rel => exact ⟨j + 1, by go_num, by omega, by rw [HE.out]; simp, BZ⟩
                  case measure => simp [intOf]; omega
          · obtain rfl : j = k := by omega
            have hst := midM_end HX.out
            have HST := hide hst; clear hst
            go_wp2_with fail
            go_roundw
            case rel => exact ⟨j + 1, by go_num, by omega, by rw [HST.out], BW.out⟩
            case measure => simp [intOf]; omega
      · obtain rfl : k = n := by omega
        have ht : midM ts k 0 = meetsL ts (doneL ts) := by rw [midM_zero]; unfold doneL; rw [hl.out]
        have HT := hide ht; clear ht
        go_wp2_with fail
        go_ret
        exact ⟨by rw [F.out, ← HT.out]; rfl, below_step B2.out BW.out⟩

end Go.Proofs.YtipmfpfmhgdgdaaDoor
