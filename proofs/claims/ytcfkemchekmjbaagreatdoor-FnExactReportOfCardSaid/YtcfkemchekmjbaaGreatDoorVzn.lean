/- Merged (what the law reaches): BsS, RepS, Txt, MkT. -/
import Derived.Test.YtcfkemchekmjbaaGreatDoorVzm
import Derived.Deep.QuietTactic
import Derived.BigQuiet
import Derived.Deep.RegionHeld3
import Derived.Deep.DeepCutAuto
namespace Go.Proofs.YtcfkemchekmjbaaGreatDoor
open Go.RowKit
set_option maxRecDepth 100000 in
set_option maxHeartbeats 4000000 in
theorem spec_BestLevel_c {A : Option Addr} {n c : Nat} {ts : List Tx} {w : World} (hr : RTs w A n ts) (hh : histB ts = true) (hsum : (allOps ts).length ≤ 1048576) (hsm : SmallT ts) :
    Calls Tryz.prog 70 #[.slice A n c] w fun e w' => e = .returned (.int .i64 (bestV ts)) ∧ Below w.heap.size w w' := by
  have HH := hide hh
  clear hh
  go_enter Tryz.func70, Tryz.ntmps70
  go_wp2_with fail
  refine (spec_AllOrders_c hr HH.out hsum hsm).mono ?_
  rintro e w2 ⟨A2, n2, c2, rfl, hnc, hn2, hrll, b2⟩
  have hlen := hide hrll.1
  have HRLL := hide hrll; have B2 := hide b2
  clear b2 hrll
  go_wp2_with fail
  go_loopw [3, 5] (fun q i W => ∃ k : Nat, q = .int .i64 (bestTo ts k) ∧ i = .int .i64 k ∧ k ≤ n2 ∧ Below w2.heap.size w2 W) (fun _ i _ => n2 - (intOf i).toNat)
  case atStart => exact ⟨0, rfl, rfl, Nat.zero_le _, Below.refl _ _⟩
  case round =>
    obtain ⟨k, rfl, rfl, hk, bw⟩ := hrel
    rename World => wr
    have BW := hide bw; clear bw
    by_cases hkn : k < n2
    · obtain ⟨b, off, os, A', n', c', rfl, hbb, hos, hc, hnc', hrl⟩ := HRLL.out.at_ hkn
      have c1 := (BW.out.cell (p := ⟨b, off + k, none⟩) hbb).trans hc
      have HS := hide (bestTo_succ hos)
      have hn3 := hide (show n' ≤ 1048576 by
        have h1 := HRLL.out.1
        have h2 := hrl.1
        have hmem := List.mem_of_getElem? hos
        unfold allV at hmem
        split at hmem
        · have := outTo_rows 3 os hmem; omega
        · cases hmem)
      have k2 : (k : Int) < n2 := by omega
      clear hos hc
      go_wp2_with fail
      refine (spec_LevelOf_c (hr.below (below_step B2.out BW.out)) HH.out hsum hsm (hrl.below BW.out) hn3.out).mono ?_
      rintro e w5 ⟨rfl, b5⟩
      have B5 := hide (below_step BW.out b5)
      clear b5 c1
      go_wp2_with fail
      go_roundw
      case rel => exact ⟨k + 1, by rw [HS.out], by go_num, by omega, B5.out⟩
      case measure => simp [intOf]; omega
    · obtain rfl : n2 = k := by omega
      have hf := hide (show bestV ts = bestTo ts n2 by unfold bestV; rw [hlen.out])
      go_wp2_with fail
      go_ret
      exact ⟨by rw [hf.out]; rfl, below_step B2.out BW.out⟩
theorem spec_AllOrders_len {A : Option Addr} {n c : Nat} {ts : List Tx} {w : World} (hr : RTs w A n ts) (hn : n ≤ 1048576) (hsum : (allOps ts).length ≤ 1048576) (hsm : SmallT ts) :
    Calls Tryz.prog 63 #[.slice A n c] w (AllR w (allV ts)) := by
  cases hh : histB ts
  · exact spec_AllOrders_no hr hn hsum hsm hh
  · exact spec_AllOrders_c hr hh hsum hsm
end Go.Proofs.YtcfkemchekmjbaaGreatDoor

namespace Go.Proofs.YtcfkemchekmjbaaGreatDoor
open Go.RowKit
set_option maxRecDepth 100000 in
set_option maxHeartbeats 4000000 in
theorem spec_ReportOf_c {A : Option Addr} {n c : Nat} {ts : List Tx} {w : World} (hr : RTs w A n ts) (hn : n ≤ 1048576) (hsum : (allOps ts).length ≤ 1048576) (hsm : SmallT ts) :
    Calls Tryz.prog 18 #[.slice A n c] w fun e w' => ∃ v, e = .returned v ∧ RS w' w.heap.size v (repL ts) ∧ Below w.heap.size w w' := by
  by_cases h0 : 0 < (allV ts).length
  · have hh := allV_hist h0
    have h6 := (histB_parts hh).1
    have hd6 := hide (show (doneL ts).length ≤ 6 from Nat.le_trans (doneTo_len ts ts.length) h6)
    have HDV := hide (show doneV ts = doneL ts by unfold doneV; rw [if_pos hh])
    have hrep : repL ts = [(⟨#[100, 111, 110, 101, 32]⟩ : ByteArray) ++ str (digs (doneL ts).length), (⟨#[98, 97, 100, 32]⟩ : ByteArray) ++ str (digs (sumTo ts 4)), (⟨#[108, 101, 118, 101, 108, 32]⟩ : ByteArray) ++ lvS (bestV ts), serB ts] := by unfold repL; rw [if_pos h0]
    have HREP := hide hrep
    have H0 := hide h0; have HH := hide hh; have H6 := hide h6
    have hsz := hide (sumTo_le ts)
    clear hrep hh h6 h0
    go_enter Tryz.func18, Tryz.ntmps18
    go_wp2_with fail
    refine (spec_AllOrders_len hr hn hsum hsm).mono ?_
    rintro e w2 ⟨A2, n2, c2, rfl, hnc2, hn2, hrll, b2⟩
    have hn0 : 0 < n2 := by have := H0.out; rw [hrll.1] at this; exact this
    have hn1 : ((n2 : Int) == 0) = false := by simp; omega
    have hr2 := hr.below b2
    have B2 := hide b2
    clear b2 hrll
    go_wp2_with fail
    go_loopw [3, 4] (fun s i W => ∃ k : Nat, k ≤ 4 ∧ s = .int .i64 (sumTo ts k) ∧ i = .int .i64 ((k : Int) + 1) ∧ Below w2.heap.size w2 W) (fun _ i _ => 6 - (intOf i).toNat)
    case atStart => exact ⟨0, by omega, rfl, rfl, Below.refl _ _⟩
    case round =>
      obtain ⟨k, hk, rfl, rfl, bw⟩ := hrel
      rename World => wr
      have BW := hide bw; clear bw
      have hs1 := hsz.out k
      have hs2 := hsz.out (k + 1)
      have HST := hide (show sumTo ts (k + 1) = sumTo ts k + badN ts ((k + 1 : Nat) : Int) from rfl)
      have hbn := badN_le ts ((k + 1 : Nat) : Int)
      by_cases hk4 : k < 4
      · have k1 : (k : Int) + 1 ≤ 4 := by omega
        go_wp2_with fail
        refine (spec_BadReads_c (kk0 := k + 1) (hr2.below BW.out) HH.out hsum hsm (by omega) (by omega)).mono ?_
        rintro e w4 ⟨A4, c4, rfl, b4⟩
        have B4 := hide (below_step BW.out b4)
        clear b4
        go_wp2_with fail
        go_roundw
        case rel =>
          refine ⟨k + 1, by omega, ?_, by simp, B4.out⟩
          have e : ((k + 1 : Nat) : Int) = (k : Int) + 1 := by omega
          rw [HST.out, e]
          rw [e] at hbn
          obtain ⟨z, hz⟩ : ∃ z, badN ts ((k : Int) + 1) = z := ⟨_, rfl⟩
          obtain ⟨y, hy⟩ : ∃ y, sumTo ts k = y := ⟨_, rfl⟩
          rw [hz] at hbn ⊢
          rw [hy] at hs1 ⊢
          rw [show wrap64 ((y : Int) + (z : Int)) = (y : Int) + (z : Int) by unfold wrap64; omega]; rfl
        case measure => simp [intOf]; omega
      · obtain rfl : k = 4 := by omega
        clear hs1 hs2 HST hbn hk hk4
        have hs4 := hsz.out 4
        have B5 := hide (below_step B2.out BW.out)
        have hr5 := hide (hr.below B5.out)
        clear BW
        obtain ⟨Y, hY⟩ : ∃ y, sumTo ts 4 = y := ⟨_, rfl⟩
        rw [hY] at hs4 ⊢
        have HY := hide hY; clear hY
        go_wp2_with fail
        refine (spec_FindSerial_c hr5.out HH.out hsum hsm).mono ?_
        rintro e w6 ⟨v6, k6, rfl, s6, b6⟩
        have B6 := hide (below_step B5.out b6); clear b6
        cases hfs : fstV ts with
        | none =>
          rw [hfs] at s6
          have SB := hide (serB_none hfs)
          have hk6 : k6 = 0 := by have := s6.len; simpa using this.symm
          subst hk6
          obtain ⟨A6, c6, rfl, _⟩ := s6
          clear hfs
          simp only [Option.isSome_none]
          go_wp2_with fail
          refine (spec_DoneTxns_c (hr.below B6.out) (by have := hr.1; have := H6.out; omega) hsum hsm).mono ?_
          rintro e wd ⟨rd, kd, rfl, od, bd⟩
          rw [HDV.out] at od
          have hkd : (doneL ts).length = kd := od.len
          obtain ⟨Ad, cd, rfl⟩ := od.shape
          have hkd6 : kd ≤ 6 := by rw [← hkd]; exact hd6.out
          have HKD := hide hkd
          have Bd := hide (below_step B6.out bd)
          clear od bd hkd
          have dl1 := digs_len 3 kd (by omega)
          have dl2 := digs_len 3 Y (by omega)
          have s1 := fun W : World => run_string_add_sum (P := Tryz.prog) (w := W) ⟨#[100, 111, 110, 101, 32]⟩ (str (digs kd)) (by rw [str_size]; show 5 + _ ≤ _; omega)
          have s2 := fun W : World => run_string_add_sum (P := Tryz.prog) (w := W) ⟨#[98, 97, 100, 32]⟩ (str (digs Y)) (by rw [str_size]; show 4 + _ ≤ _; omega)
          have s3 := fun W : World => run_string_add_sum (P := Tryz.prog) (w := W) ⟨#[108, 101, 118, 101, 108, 32]⟩ (lvS (bestV ts)) (by have := lvS_size (bestV ts); show 6 + _ ≤ _; omega)
          clear dl1 dl2
          go_wp2_with fail
          refine (l1Number_c (n := kd) (by omega)).mono ?_
          rintro e we ⟨rfl, be⟩
          have Be := hide (below_step Bd.out be)
          clear be
          go_wp2_with fail
          refine (l1Number_c (n := Y) (by omega)).mono ?_
          rintro e wf ⟨rfl, bf⟩
          have Bf := hide (below_step Be.out bf)
          clear bf
          go_wp2_with fail
          refine (spec_BestLevel_c (hr.below Bf.out) HH.out hsum hsm).mono ?_
          rintro e wg ⟨rfl, bg⟩
          have Bg := hide (below_step Bf.out bg)
          clear bg
          go_wp2_with fail
          refine (spec_LevelText_c).mono ?_
          rintro e wh ⟨rfl, bh⟩
          rw [textV_s]
          have Bh := hide (below_step Bg.out bh)
          clear bh
          have hsz := Bh.out.size
          go_wp2_with fail
          go_ret
          rw [HREP.out, HKD.out, HY.out, SB.out]
          exact ⟨_, rfl, RS.of_blk (ss := [_, _, _, _]) (Blk.new wh _ _) hsz (by simp), Bh.out.alloc hsz _⟩
        | some l =>
          rw [hfs] at s6
          have hkl : l.length = k6 := s6.len
          have HS6 := hide s6
          obtain ⟨A6, c6, rfl, _⟩ := s6
          have hll := fstV_len hfs
          have htl := textL_len (fstV_num hfs)
          simp only [Option.isSome_some]
          by_cases hl0 : l = []
          · subst hl0
            have SB := hide (serB_nil hfs)
            have hk0 : k6 = 0 := by simpa using hkl.symm
            subst hk0
            clear hfs HS6 htl
            go_wp2_with fail
            refine (spec_DoneTxns_c (hr.below B6.out) (by have := hr.1; have := H6.out; omega) hsum hsm).mono ?_
            rintro e wd ⟨rd, kd, rfl, od, bd⟩
            rw [HDV.out] at od
            have hkd : (doneL ts).length = kd := od.len
            obtain ⟨Ad, cd, rfl⟩ := od.shape
            have hkd6 : kd ≤ 6 := by rw [← hkd]; exact hd6.out
            have HKD := hide hkd
            have Bd := hide (below_step B6.out bd)
            clear od bd hkd
            have dl1 := digs_len 3 kd (by omega)
            have dl2 := digs_len 3 Y (by omega)
            have s1 := fun W : World => run_string_add_sum (P := Tryz.prog) (w := W) ⟨#[100, 111, 110, 101, 32]⟩ (str (digs kd)) (by rw [str_size]; show 5 + _ ≤ _; omega)
            have s2 := fun W : World => run_string_add_sum (P := Tryz.prog) (w := W) ⟨#[98, 97, 100, 32]⟩ (str (digs Y)) (by rw [str_size]; show 4 + _ ≤ _; omega)
            have s3 := fun W : World => run_string_add_sum (P := Tryz.prog) (w := W) ⟨#[108, 101, 118, 101, 108, 32]⟩ (lvS (bestV ts)) (by have := lvS_size (bestV ts); show 6 + _ ≤ _; omega)
            clear dl1 dl2
            go_wp2_with fail
            refine (l1Number_c (n := kd) (by omega)).mono ?_
            rintro e we ⟨rfl, be⟩
            have Be := hide (below_step Bd.out be)
            clear be
            go_wp2_with fail
            refine (l1Number_c (n := Y) (by omega)).mono ?_
            rintro e wf ⟨rfl, bf⟩
            have Bf := hide (below_step Be.out bf)
            clear bf
            go_wp2_with fail
            refine (spec_BestLevel_c (hr.below Bf.out) HH.out hsum hsm).mono ?_
            rintro e wg ⟨rfl, bg⟩
            have Bg := hide (below_step Bf.out bg)
            clear bg
            go_wp2_with fail
            refine (spec_LevelText_c).mono ?_
            rintro e wh ⟨rfl, bh⟩
            rw [textV_s]
            have Bh := hide (below_step Bg.out bh)
            clear bh
            have hsz := Bh.out.size
            go_wp2_with fail
            go_ret
            rw [HREP.out, HKD.out, HY.out, SB.out]
            exact ⟨_, rfl, RS.of_blk (ss := [_, _, _, _]) (Blk.new wh _ _) hsz (by simp), Bh.out.alloc hsz _⟩
          · have SB := hide (serB_some hfs hl0)
            have hk0 : 0 < k6 := by rw [← hkl]; exact List.length_pos_iff.2 hl0
            have hk1 : (0 : Int) < k6 := by omega
            have s0 := fun W : World => run_string_add_sum (P := Tryz.prog) (w := W) ⟨#[115, 101, 114, 105, 97, 108, 32]⟩ (str (textL l)) (by rw [str_size]; show 7 + _ ≤ _; omega)
            clear hfs
            go_wp2_with fail
            refine (spec_NumbersText_c HS6.out).mono ?_
            rintro e wa ⟨rfl, ba⟩
            have Ba := hide (below_step B6.out ba)
            clear ba
            simp only [Option.getD_some]
            go_wp2_with fail
            refine (spec_DoneTxns_c (hr.below Ba.out) (by have := hr.1; have := H6.out; omega) hsum hsm).mono ?_
            rintro e wd ⟨rd, kd, rfl, od, bd⟩
            rw [HDV.out] at od
            have hkd : (doneL ts).length = kd := od.len
            obtain ⟨Ad, cd, rfl⟩ := od.shape
            have hkd6 : kd ≤ 6 := by rw [← hkd]; exact hd6.out
            have HKD := hide hkd
            have Bd := hide (below_step Ba.out bd)
            clear od bd hkd
            have dl1 := digs_len 3 kd (by omega)
            have dl2 := digs_len 3 Y (by omega)
            have s1 := fun W : World => run_string_add_sum (P := Tryz.prog) (w := W) ⟨#[100, 111, 110, 101, 32]⟩ (str (digs kd)) (by rw [str_size]; show 5 + _ ≤ _; omega)
            have s2 := fun W : World => run_string_add_sum (P := Tryz.prog) (w := W) ⟨#[98, 97, 100, 32]⟩ (str (digs Y)) (by rw [str_size]; show 4 + _ ≤ _; omega)
            have s3 := fun W : World => run_string_add_sum (P := Tryz.prog) (w := W) ⟨#[108, 101, 118, 101, 108, 32]⟩ (lvS (bestV ts)) (by have := lvS_size (bestV ts); show 6 + _ ≤ _; omega)
            clear dl1 dl2
            go_wp2_with fail
            refine (l1Number_c (n := kd) (by omega)).mono ?_
            rintro e we ⟨rfl, be⟩
            have Be := hide (below_step Bd.out be)
            clear be
            go_wp2_with fail
            refine (l1Number_c (n := Y) (by omega)).mono ?_
            rintro e wf ⟨rfl, bf⟩
            have Bf := hide (below_step Be.out bf)
            clear bf
            go_wp2_with fail
            refine (spec_BestLevel_c (hr.below Bf.out) HH.out hsum hsm).mono ?_
            rintro e wg ⟨rfl, bg⟩
            have Bg := hide (below_step Bf.out bg)
            clear bg
            go_wp2_with fail
            refine (spec_LevelText_c).mono ?_
            rintro e wh ⟨rfl, bh⟩
            rw [textV_s]
            have Bh := hide (below_step Bg.out bh)
            clear bh
            have hsz := Bh.out.size
            go_wp2_with fail
            go_ret
            rw [HREP.out, HKD.out, HY.out, SB.out]
            exact ⟨_, rfl, RS.of_blk (ss := [_, _, _, _]) (Blk.new wh _ _) hsz (by simp), Bh.out.alloc hsz _⟩
  · have h1 : repL ts = [] := by unfold repL; rw [if_neg h0]
    have H1 := hide h1; have H0 := hide h0
    clear h1 h0
    go_enter Tryz.func18, Tryz.ntmps18
    go_wp2_with fail
    refine (spec_AllOrders_len hr hn hsum hsm).mono ?_
    rintro e w2 ⟨A2, n2, c2, rfl, hnc2, hn2, hrll, b2⟩
    have hn0 : n2 = 0 := by have := H0.out; rw [hrll.1] at this; omega
    subst hn0
    have hsz := b2.size
    clear hrll
    go_wp2_with fail
    go_ret
    rw [H1.out]
    exact ⟨_, rfl, RS.of_blk (ss := []) (Blk.new w2 _ _) hsz (by simp), b2.alloc hsz _⟩
end Go.Proofs.YtcfkemchekmjbaaGreatDoor

namespace Go.Proofs.YtcfkemchekmjbaaGreatDoor
open Go.RowKit
theorem RS.below {w w' : World} {lo : Nat} {v : Value} {ss : List ByteArray} (h : RS w lo v ss) (hb : Below w.heap.size w w') : RS w' lo v ss := own_bel h hb
/-- The row as read. -/
def RR (w : World) (A : Option Addr) (n : Nat) (ss : List ByteArray) : Prop := ss.length = n ∧ (0 < n → ∃ g, A = some ⟨g, 0, none⟩ ∧ g < w.heap.size ∧ ∀ (k : Nat) (s : ByteArray), ss[k]? = some s → w.cell? ⟨g, k, none⟩ = some (.string s))
theorem RS.rr {w : World} {lo : Nat} {v : Value} {ss : List ByteArray} (h : RS w lo v ss) : ∃ A c, v = .slice A ss.length c ∧ RR w A ss.length ss := by
  rcases h.2 with ⟨e, h0⟩ | ⟨g, cap, cur, e, hB, hg, hc, hm, hs, ht⟩
  · rw [e, h0]; exact ⟨none, 0, rfl, h0, fun hn => by omega⟩
  · subst e
    refine ⟨_, _, rfl, rfl, fun _ => ⟨g, rfl, Blk.lt hg, fun k s hk => ?_⟩⟩
    have hk2 : k < ss.length := (List.getElem?_eq_some_iff.1 hk).1
    have h1 := World.ownsRow.cellAt h k (by simpa using hk2)
    rw [h1]
    rw [List.getElem?_eq_getElem hk2] at hk
    injection hk with hk
    rw [← hk]; simp
theorem RR.at_ {w : World} {A : Option Addr} {n : Nat} {ss : List ByteArray} (h : RR w A n ss) {k : Nat} (hk : k < n) : ∃ g s, A = some ⟨g, 0, none⟩ ∧ g < w.heap.size ∧ ss[k]? = some s ∧ w.cell? ⟨g, k, none⟩ = some (.string s) := by
  obtain ⟨g, e, hlt, hc⟩ := h.2 (by omega)
  have hk2 : k < ss.length := by rw [h.1]; exact hk
  have hx : ss[k]? = some ss[k] := List.getElem?_eq_getElem hk2
  exact ⟨g, _, e, hlt, hx, hc k _ hx⟩
theorem RR.below {w w' : World} {A : Option Addr} {n : Nat} {ss : List ByteArray} (h : RR w A n ss) (hb : Below w.heap.size w w') : RR w' A n ss :=
  ⟨h.1, fun hn => by
    obtain ⟨g, e, hlt, hc⟩ := h.2 hn
    exact ⟨g, e, Nat.lt_of_lt_of_le hlt hb.size, fun k s hk => (hb.cell (p := ⟨g, k, none⟩) hlt).trans (hc k s hk)⟩⟩
set_option maxHeartbeats 2000000 in
theorem eqStringS_c {A B : Option Addr} {n c d : Nat} {ss : List ByteArray} {w : World} (ha : RR w A n ss) (hb : RR w B n ss) (hn : n ≤ 1048576) :
    Calls Tryz.prog 21 #[.slice A n c, .slice B n d] w fun e w' => e = .returned (.bool true) ∧ Below w.heap.size w w' := by
  go_enter Tryz.func21, Tryz.ntmps21
  go_wp2
  go_loopw [5] (fun i wr => ∃ k : Nat, k ≤ n ∧ i = .int .i64 k ∧ Below w.heap.size w wr) (fun i _ => n - (intOf i).toNat)
  case atStart => exact ⟨0, Nat.zero_le _, rfl, Below.refl _ _⟩
  case round =>
    obtain ⟨k, hk, rfl, hbel⟩ := hrel
    by_cases hlt : k < n
    · obtain ⟨b1, x, rfl, hb1, hx, hc1⟩ := ha.at_ hlt
      obtain ⟨b2, y, rfl, hb2, hy, hc2⟩ := hb.at_ hlt
      obtain rfl : x = y := by rw [hx] at hy; injection hy
      have hd1 : wr.cell? ⟨b1, k, none⟩ = some (.string x) := (hbel.cell hb1).trans hc1
      have hd2 : wr.cell? ⟨b2, k, none⟩ = some (.string x) := (hbel.cell hb2).trans hc2
      clear hc1 hc2 hx hy
      go_wp2
      go_quiet (fail)
      go_wp2
      go_roundw
      case rel => exact ⟨k + 1, by omega, by go_num, below_drewN hbel _⟩
      case measure => simp [intOf]; omega
    · go_wp2
      go_ret
      exact ⟨rfl, hbel⟩
end Go.Proofs.YtcfkemchekmjbaaGreatDoor

namespace Go.Proofs.YtcfkemchekmjbaaGreatDoor
open Go.RowKit
/-- The text of mark k, k of one digit. -/
def mt (k : Nat) : ByteArray := (⟨#[109]⟩ : ByteArray) ++ str [dg k]
set_option maxRecDepth 100000 in
set_option maxHeartbeats 4000000 in
theorem markText_c {k : Nat} {w : World} (h1 : 1 ≤ k) (h9 : k ≤ 9) :
    Calls Tryz.prog 81 #[.int .i64 (k : Int)] w fun e w' => e = .returned (.string (mt k)) ∧ Below w.heap.size w w' := by
  have c1 : ¬ (k : Int) ≤ 0 := by omega
  go_enter Tryz.func81, Tryz.ntmps81
  go_wp2_with fail
  go_loopw [0, 3] (fun i v wr => ∃ m : Nat, i = .int .i64 (m : Int) ∧ ((m = k ∧ v = .string ⟨#[]⟩) ∨ (m = 0 ∧ v = .string (str [dg k]))) ∧ Below w.heap.size w wr) (fun i _ _ => (intOf i).toNat)
  case atStart => exact ⟨k, rfl, .inl ⟨rfl, rfl⟩, Below.refl _ _⟩
  case round =>
    obtain ⟨m, rfl, hm, bw⟩ := hrel
    have BW := hide bw; clear bw
    rcases hm with ⟨rfl, rfl⟩ | ⟨rfl, rfl⟩
    · have k0 : (0 : Int) < m := by omega
      have k1 := conv_dg wr m
      have s1 := fun W : World => run_string_add_sum (P := Tryz.prog) (w := W) (str [dg m]) ⟨#[]⟩ (by rw [str_size]; show 1 + 0 ≤ _; omega)
      have B2 := hide (below_step BW.out ((Below.refl _ wr).alloc (Nat.le_refl _) (.cells #[.int .u8 (48 + (m : Int) % 10)] 5)))
      have hq : m / 10 = 0 := by omega
      have HQ := hide hq; clear hq
      go_wp2_with fail
      go_roundw
      case rel => exact ⟨m / 10, by go_num, .inr ⟨HQ.out, rfl⟩, B2.out⟩
      case measure => simp [intOf]; omega
    · have s2 := fun W : World => run_string_add_sum (P := Tryz.prog) (w := W) ⟨#[109]⟩ (str [dg k]) (by rw [str_size]; show 1 + 1 ≤ _; omega)
      go_wp2_with fail
      go_ret
      exact ⟨rfl, BW.out⟩
theorem markText_s {j : Nat} {w : World} (h : j ≤ 8) :
    Calls Tryz.prog 81 #[.int .i64 ((j : Int) + 1)] w fun e w' => e = .returned (.string (mt (j + 1))) ∧ Below w.heap.size w w' := markText_c (k := j + 1) (by omega) (by omega)
/-- The first n marks. -/
def mts (n : Nat) : List ByteArray := (List.range n).map fun j => mt (j + 1)
theorem mts_len (n : Nat) : (mts n).length = n := by simp [mts]
theorem mts_get {n k : Nat} (h : k < n) : (mts n)[k]? = some (mt (k + 1)) := by simp [mts, h]
/-- Half marked. -/
def half (ss : List ByteArray) (j : Nat) : List ByteArray := mts j ++ ss.drop j
theorem half_zero (ss : List ByteArray) : half ss 0 = ss := by simp [half, mts]
theorem half_len {ss : List ByteArray} {j : Nat} (h : j ≤ ss.length) : (half ss j).length = ss.length := by simp [half, mts_len]; omega
theorem half_full (ss : List ByteArray) : half ss ss.length = mts ss.length := by simp [half]
theorem half_step {ss : List ByteArray} {j : Nat} (h : j < ss.length) : (half ss j).set j (mt (j + 1)) = half ss (j + 1) := by
  unfold half
  have hd : ss.drop j = ss[j] :: ss.drop (j + 1) := List.drop_eq_getElem_cons h
  rw [List.set_append_right _ _ (by rw [mts_len]; exact Nat.le_refl _), mts_len, Nat.sub_self, hd, List.set_cons_zero]
  have : mts (j + 1) = mts j ++ [mt (j + 1)] := by simp [mts, List.range_succ]
  rw [this]; simp
theorem RS.chg {S : Nat → Prop} {w w' : World} {lo : Nat} {v : Value} {ss : List ByteArray} (h : RS w lo v ss) (hc : Chg S w w') (hS : ∀ k, v.ownBlock = some k → ¬ S k) : RS w' lo v ss := own_chg h hc hS
set_option maxRecDepth 100000 in
set_option maxHeartbeats 4000000 in
theorem markStringS_c {lo : Nat} {v : Value} {ss : List ByteArray} {w : World} (hr : RS w lo v ss) (hn : ss.length ≤ 8) :
    Calls Tryz.prog 24 #[v, .int .i64 1] w fun e w' => e = .returned (.int .i64 (1 + (ss.length : Int))) ∧ RS w' lo v (mts ss.length) ∧ Chg (fun b => v.ownBlock = some b) w w' := by
  obtain ⟨n, hl⟩ : ∃ n, ss.length = n := ⟨_, rfl⟩
  have hr' : w.ownsRow lo 9 1 v n (ss.map Value.string) := by rw [← hl]; exact hr
  rw [hl] at hn ⊢
  have HL := hide hl
  rcases hr'.2 with ⟨rfl, h0⟩ | ⟨g, c, cur, rfl, hB, hg, hc, hm, hs, ht⟩
  · subst h0
    have hr0 : RS w lo (.slice none 0 0) (mts 0) := ⟨rfl, .inl ⟨rfl, rfl⟩⟩
    have H0 := hide hr0
    clear hr' hr hr0 hl
    go_enter Tryz.func24, Tryz.ntmps24
    go_wp2_with fail
    go_loopw [1, 5] (fun q i wr => q = .int .i64 1 ∧ i = .int .i64 0 ∧ wr = w) (fun _ _ _ => 0)
    case atStart => exact ⟨rfl, rfl, rfl⟩
    case round =>
      obtain ⟨rfl, rfl, rfl⟩ := hrel
      go_wp2_with fail
      go_ret
      exact ⟨rfl, H0.out, Chg.refl _⟩
  · have H0 := hide (show w.ownsRow lo 9 1 (.slice (some ⟨g, 0, none⟩) n c) n ((half ss 0).map Value.string) by rw [half_zero]; exact hr')
    clear hr' hr hg hs ht cur hl
    go_enter Tryz.func24, Tryz.ntmps24
    go_wp2_with fail
    go_loopw [1, 5] (fun q i wr => ∃ j : Nat, j ≤ n ∧ q = .int .i64 ((j : Int) + 1) ∧ i = .int .i64 (j : Int) ∧ wr.ownsRow lo 9 1 (.slice (some ⟨g, 0, none⟩) n c) n ((half ss j).map Value.string) ∧ Chg (fun b => (Value.slice (some ⟨g, 0, none⟩) n c).ownBlock = some b) w wr) (fun _ i _ => n - (intOf i).toNat)
    case atStart => exact ⟨0, Nat.zero_le _, rfl, rfl, H0.out, Chg.refl _⟩
    case round =>
      clear H0
      obtain ⟨j, hj, rfl, rfl, ho, hch⟩ := hrel
      have HO := hide ho; have HCH := hide hch
      clear hch
      by_cases hjn : j < n
      · have hcell := fun W (h : Below wr.heap.size wr W) => World.ownsRow.cellAt (own_bel ho h) j (by omega)
        have hfz := fun W (h : Below wr.heap.size wr W) => World.ownsRow.frozenAt (own_bel ho h) j
        have HC := hide hcell; have HF := hide hfz
        have j2 : (j : Int) < n := by omega
        clear hcell hfz ho
        go_wp2_with fail
        refine (markText_s (by omega)).mono ?_
        rintro e w5 ⟨rfl, b5⟩
        have HB5 := hide b5
        have c5 := HC.out _ b5
        have f5 := HF.out _ b5
        have hx : ((half ss j).map Value.string)[j]? = some (((half ss j).map Value.string)[j]'(by rw [List.length_map, half_len (by rw [HL.out]; omega), HL.out]; exact hjn)) := List.getElem?_eq_getElem _
        rw [hx] at c5
        clear hx b5
        go_wp2_with fail
        go_roundw
        case rel =>
          refine ⟨j + 1, by omega, by go_num, by go_num, ?_, ?_⟩
          · have h2 := (World.ownsRow.stored (own_bel HO.out HB5.out) j (.string (mt (j + 1)))).1
            rw [← List.map_set, half_step (by rw [HL.out]; exact hjn)] at h2
            exact h2
          · exact (HCH.out.trans (Chg.of_below HB5.out)).trans (Chg.setCell (S := fun b => (Value.slice (some ⟨g, 0, none⟩) n c).ownBlock = some b) (p := ⟨g, j, none⟩) rfl _)
        case measure => simp [intOf]; omega
      · obtain rfl : j = n := by omega
        have hfin : (half ss j).map Value.string = (mts j).map Value.string := by
          have := half_full ss
          rw [HL.out] at this; rw [this]
        rw [hfin] at ho
        have HO' := hide ho
        clear ho hfin HO
        go_wp2_with fail
        go_ret
        refine ⟨by go_num, ?_, HCH.out⟩
        show World.ownsRow _ _ _ _ _ _ _
        rw [mts_len]; exact HO'.out
set_option maxRecDepth 100000 in
set_option maxHeartbeats 4000000 in
theorem heldStringS_c {lo n : Nat} {v : Value} {w : World} (hr : RS w lo v (mts n)) (hn : n ≤ 8) :
    Calls Tryz.prog 25 #[v, .int .i64 1] w fun e w' => e = .returned (.int .i64 (1 + (n : Int))) ∧ Below w.heap.size w w' := by
  obtain ⟨A, c, rfl, hrr⟩ := hr.rr
  rw [mts_len] at hrr ⊢
  have HR := hide hrr
  clear hr hrr
  go_enter Tryz.func25, Tryz.ntmps25
  go_wp2_with fail
  go_loopw [1, 5] (fun q i wr => ∃ j : Nat, j ≤ n ∧ q = .int .i64 ((j : Int) + 1) ∧ i = .int .i64 (j : Int) ∧ Below w.heap.size w wr) (fun _ i _ => n - (intOf i).toNat)
  case atStart => exact ⟨0, Nat.zero_le _, rfl, rfl, Below.refl _ _⟩
  case round =>
    obtain ⟨j, hj, rfl, rfl, bw⟩ := hrel
    have BW := hide bw
    by_cases hjn : j < n
    · obtain ⟨g, s, rfl, hg, hs, hc⟩ := HR.out.at_ hjn
      obtain rfl : s = mt (j + 1) := by rw [mts_get hjn] at hs; injection hs with hs; exact hs.symm
      have HC := hide (show ∀ W, Below w.heap.size w W → W.cell? ⟨g, j, none⟩ = some (.string (mt (j + 1))) from fun W h => (h.cell (p := ⟨g, j, none⟩) hg).trans hc)
      have j2 : (j : Int) < n := by omega
      have BZ := hide (show Below w.heap.size w wr.drew from bw.drew)
      clear hs hc bw
      go_wp2_with fail
      refine wp_region_held_drew (S := (fun W => W.cell? ⟨g, j, none⟩ = some (.string (mt (j + 1))))) (by kernel_rfl) ?_ (fun hHeld => ?_)
      · first | exact HC.out _ BZ.out | exact HC.out _ B5.out
      refine wpAnyH_take (i := 0) (v := ?vv1_0) (by rw [List.getElem?_toArray]; exact rfl) (by kernel_rfl) (by kernel_rfl) (by kernel_rfl) (by intro _ _ _ h; exact h) (Or.inl ⟨by rfl, ?hy1_0⟩) hHeld ?rest1_0
      case' hy1_0 => (intro w hSw; (try dsimp only at hSw); go_simp; try (with_reducible rfl))
      (try simp only [Act.put, List.setIfInBounds_toArray, List.set_cons_zero, List.set_cons_succ])
      refine wpAnyH_take (i := 1) (v := ?vv1_1) (by rw [List.getElem?_toArray]; exact rfl) (by kernel_rfl) (by kernel_rfl) (by kernel_rfl) (by intro _ _ _ h; exact h) (Or.inl ⟨by rfl, ?hy1_1⟩) hHeld ?rest1_1
      case' hy1_1 => (intro w hSw; (try dsimp only at hSw); go_simp; try (with_reducible rfl))
      (try simp only [Act.put, List.setIfInBounds_toArray, List.set_cons_zero, List.set_cons_succ])
      refine wpAnyH_take (i := 2) (v := ?vv1_2) (by rw [List.getElem?_toArray]; exact rfl) (by kernel_rfl) (by kernel_rfl) (by kernel_rfl) (by intro _ _ _ h; exact h) (Or.inl ⟨by rfl, ?hy1_2⟩) hHeld ?rest1_2
      case' hy1_2 => (intro w hSw; (try dsimp only at hSw); go_simp; try (with_reducible rfl))
      (try simp only [Act.put, List.setIfInBounds_toArray, List.set_cons_zero, List.set_cons_succ])
      refine wpAnyH_take (i := 3) (v := ?vv1_3) (by rw [List.getElem?_toArray]; exact rfl) (by kernel_rfl) (by kernel_rfl) (by kernel_rfl) (by intro _ _ _ h; exact h) (Or.inl ⟨by rfl, ?hy1_3⟩) hHeld ?rest1_3
      case' hy1_3 => (intro w hSw; (try dsimp only at hSw); go_simp; try (with_reducible rfl))
      (try simp only [Act.put, List.setIfInBounds_toArray, List.set_cons_zero, List.set_cons_succ])
      refine wpAnyH_take (i := 4) (v := ?vv1_4) (by rw [List.getElem?_toArray]; exact rfl) (by kernel_rfl) (by kernel_rfl) (by kernel_rfl) (by intro _ _ _ h; exact h) (Or.inl ⟨by rfl, ?hy1_4⟩) hHeld ?rest1_4
      case' hy1_4 => (intro w hSw; (try dsimp only at hSw); go_simp; try (with_reducible rfl))
      (try simp only [Act.put, List.setIfInBounds_toArray, List.set_cons_zero, List.set_cons_succ])
      refine wpAnyH_ready (rs := [5]) (by kernel_rfl) (by simp) ?_
      refine AllReadyH.cons (by rw [List.getElem?_toArray]; exact rfl) (fun K hK => ?_) AllReadyH.nil
      go_simp
      refine (markText_s (by omega)).mono ?_
      rintro e w5 ⟨rfl, b5⟩
      have B5 := hide (below_step BZ.out b5)
      refine hK.out _ _ ?_ (fun hHeld => ?_)
      · first | exact HC.out _ BZ.out | exact HC.out _ B5.out
      clear hK K
      (try simp only [Act.put, List.setIfInBounds_toArray, List.set_cons_zero, List.set_cons_succ])
      refine wpAnyH_take (i := 6) (v := ?vv1_6) (by rw [List.getElem?_toArray]; exact rfl) (by kernel_rfl) (by kernel_rfl) (by kernel_rfl) (by intro _ _ _ h; exact h) (Or.inl ⟨by rfl, ?hy1_6⟩) hHeld ?rest1_6
      case' hy1_6 => (intro w hSw; (try dsimp only at hSw); go_simp; try (with_reducible rfl))
      (try simp only [Act.put, List.setIfInBounds_toArray, List.set_cons_zero, List.set_cons_succ])
      refine wpAnyH_done (by kernel_rfl) ?_ _
      go_wp2_with fail
      go_roundw
      case rel => exact ⟨j + 1, by omega, by go_num, by go_num, B5.out⟩
      case measure => simp [intOf]; omega
    · obtain rfl : j = n := by omega
      go_wp2_with fail
      go_ret
      exact ⟨by go_num, bw⟩
end Go.Proofs.YtcfkemchekmjbaaGreatDoor
