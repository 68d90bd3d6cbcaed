/- Merged (what the law reaches): FnS, RepI, Own. -/
import Derived.Test.YtcfkemchekmjbaaGreatDoorVzk
import Derived.Laws.Concat
import Derived.Deep.DeepCutAuto
import Derived.Lib.AppendZeros
namespace Go.Proofs.YtcfkemchekmjbaaGreatDoor
open Go.RowKit
theorem histB_keys {ts : List Tx} (hh : histB ts = true) : ∀ t ∈ ts, ∀ o ∈ t.2.1, (o.1 = 1 ∨ o.1 = 2) ∧ 0 ≤ o.2.1 ∧ o.2.1 ≤ 2 := fun t ht o ho => by
  have h1 := (histB_parts hh).2.1 t ht
  unfold txnB at h1
  simp only [Bool.and_eq_true, List.all_eq_true] at h1
  have h2 := h1.1 o ho
  unfold opB at h2
  simp only [Bool.and_eq_true, inB_iff] at h2
  omega
set_option maxRecDepth 100000 in
set_option maxHeartbeats 4000000 in
theorem spec_FindSerial_c {A : Option Addr} {n c : Nat} {ts : List Tx} {w : World} (hr : RTs w A n ts) (hh : histB ts = true) (hsum : (allOps ts).length ≤ 1048576) (hsm : SmallT ts) :
    Calls Tryz.prog 65 #[.slice A n c] w (FindR w (fstV ts)) := by
  have HH := hide hh
  have hn6 : n ≤ 6 := by rw [← hr.1]; exact (histB_parts hh).1
  have HK := hide (histB_keys hh)
  have hl := hide hr.1
  have hdv : doneV ts = doneL ts := by unfold doneV; rw [if_pos hh]
  have HF := hide (show fstV ts = findF ts (doneL ts).length [] (doneL ts) by unfold fstV; rw [if_pos hh]; exact srch_fstF ts (doneL_nodup ts))
  have HDV := hide hdv
  have hd6 := hide (show (doneL ts).length ≤ 6 from Nat.le_trans (doneTo_len ts ts.length) (histB_parts hh).1)
  clear hh hdv
  go_enter Tryz.func65, Tryz.ntmps65
  go_wp2_with fail
  refine (spec_HistoryValid_c hr (by omega) hsum hsm).mono ?_
  rintro e w2 ⟨rfl, b2⟩
  rw [HH.out]
  have b3 : Below w.heap.size w (w2.alloc (.cells #[] 3)) := b2.alloc b2.size _
  have oE := hide (OI.empty w2)
  have B3 := hide b3
  have hr3 := hr.below b3
  clear b2 b3
  go_wp2_with fail
  refine (spec_DoneTxns_c hr3 (by omega) hsum hsm).mono ?_
  rintro e w4 ⟨r4, k4, rfl, o4, b4⟩
  rw [HDV.out] at o4
  have hk4 : (doneL ts).length = k4 := o4.len
  subst hk4
  have s4 := o4.si
  have E4 := oE.out.below b4
  have B4 := hide (below_step B3.out b4)
  have hr4 := hr3.below b4
  obtain ⟨A4, c4, rfl⟩ := o4.shape
  clear o4 b4 hr3 oE B3
  go_wp2_with fail
  refine (l12Find_c HK.out hsm hn6 _ 0 _ _ [] (doneL ts) A c w4 (fun x hx => by
    obtain ⟨j, rfl, hj⟩ := doneTo_lt ts ts.length x (by rw [List.nil_append] at hx; exact hx)
    have := hl.out; omega) (by have := hd6.out; omega) hr4 E4.si s4).mono ?_
  rintro e w5 ⟨v5, k5, rfl, s5, b5⟩
  have B5 := hide (below_step B4.out b5)
  have S5 := hide s5
  obtain ⟨A5, c5, rfl, _, _, _⟩ := s5
  clear b5
  go_wp2_with fail
  refine bodyPost_ret (v := .tuple #[.slice A5 k5 c5, .bool (findF ts (doneL ts).length [] (doneL ts)).isSome]) (by simp [results, Tryz.results65, go_sem]) rfl ?_
  rw [HF.out]
  exact ⟨_, k5, rfl, S5.out, B5.out⟩
end Go.Proofs.YtcfkemchekmjbaaGreatDoor

namespace Go.Proofs.YtcfkemchekmjbaaGreatDoor
open Go.RowKit
theorem fstV_hist {ts : List Tx} (hh : histB ts = true) : fstV ts = (srch goFst ts (doneL ts) (doneL ts).length [0, 0, 0] [] none).1 := by unfold fstV; rw [if_pos hh]
theorem RS.nil (w : World) (lo : Nat) : RS w lo (.slice none 0 0) [] := ⟨rfl, .inl ⟨rfl, rfl⟩⟩
theorem RS.of_blk {w : World} {g lo : Nat} {ss : List ByteArray} (h : Blk w g 9 (ss.map Value.string).toArray) (hl : lo ≤ g) (hs : ss.length ≤ 1048576) : RS w lo (.slice (some ⟨g, 0, none⟩) ss.length ss.length) ss :=
  ⟨by simp, .inr ⟨g, ss.length, _, rfl, hl, h, Nat.le_refl _, by unfold maxLen; omega, by simp, by simp [List.take_of_length_le]⟩⟩
set_option maxRecDepth 100000 in
set_option maxHeartbeats 4000000 in
theorem impl_ReportOf_c {A : Option Addr} {n c : Nat} {ts : List Tx} {w : World} (hr : RTs w A n ts) (hn : n ≤ 1048576) (hsm : SmallT ts) (hT : Tab w) :
    Calls Tryz.prog 20 #[.slice A n c] w fun e w' => ∃ v, e = .returned v ∧ RS w' w.heap.size v (repL ts) ∧ Below w.heap.size w w' := by
  by_cases h0 : 0 < (allV ts).length
  · have hh := allV_hist h0
    have HK := hide (histB_keys hh)
    have h6 := (histB_parts hh).1
    have hd6 := hide (show (doneL ts).length ≤ 6 from Nat.le_trans (doneTo_len ts ts.length) h6)
    have hrep : repL ts = [(⟨#[100, 111, 110, 101, 32]⟩ : ByteArray) ++ str (digs (doneL ts).length), (⟨#[98, 97, 100, 32]⟩ : ByteArray) ++ str (digs (sumTo ts 4)), (⟨#[108, 101, 118, 101, 108, 32]⟩ : ByteArray) ++ lvS (bestV ts), serB ts] := by unfold repL; rw [if_pos h0]
    have HREP := hide hrep
    have h00 : decide (0 < (allV ts).length) = true := by simpa using h0
    have H00 := hide h00; have HH := hide hh; have H6 := hide h6; have HT := hide hT
    have hsz := hide (sumTo_le ts)
    clear hrep h00 hh h6 hT h0
    go_enter Tryz.func20, Tryz.ntmps20
    go_wp2_with fail
    refine (ordersIn_c hr hn hsm).mono ?_
    rintro e w2 ⟨v2, rfl, b2⟩
    rw [H00.out]
    have hr2 := hr.below b2
    have B2 := hide b2
    clear b2
    go_wp2_with fail
    go_loopw [5, 6] (fun s i W => ∃ k : Nat, k ≤ 4 ∧ s = .int .i64 (sumTo ts k) ∧ i = .int .i64 ((k : Int) + 1) ∧ Below w2.heap.size w2 W) (fun _ i _ => 6 - (intOf i).toNat)
    case atStart => exact ⟨0, by omega, rfl, rfl, Below.refl _ _⟩
    case round =>
      obtain ⟨k, hk, rfl, rfl, bw⟩ := hrel
      rename World => wr
      have BW := hide bw; clear bw
      have hs1 := hsz.out k
      have hs2 := hsz.out (k + 1)
      have HST := hide (show sumTo ts (k + 1) = sumTo ts k + badN ts ((k + 1 : Nat) : Int) from rfl)
      have hbn := badN_le ts ((k + 1 : Nat) : Int)
      by_cases hk4 : k < 4
      · have k1 : (k : Int) + 1 ≤ 4 := by omega
        go_wp2_with fail
        refine (impl_BadReads_c (kk0 := k + 1) (hr2.below BW.out) HH.out (by omega) (by omega)).mono ?_
        rintro e w4 ⟨A4, c4, rfl, b4⟩
        have B4 := hide (below_step BW.out b4)
        clear b4
        go_wp2_with fail
        go_roundw
        case rel =>
          refine ⟨k + 1, by omega, ?_, by simp, B4.out⟩
          have e : ((k + 1 : Nat) : Int) = (k : Int) + 1 := by omega
          rw [HST.out, e]
          rw [e] at hbn
          obtain ⟨z, hz⟩ : ∃ z, badN ts ((k : Int) + 1) = z := ⟨_, rfl⟩
          obtain ⟨y, hy⟩ : ∃ y, sumTo ts k = y := ⟨_, rfl⟩
          rw [hz] at hbn ⊢
          rw [hy] at hs1 ⊢
          rw [show wrap64 ((y : Int) + (z : Int)) = (y : Int) + (z : Int) by unfold wrap64; omega]; rfl
        case measure => simp [intOf]; omega
      · obtain rfl : k = 4 := by omega
        clear hs1 hs2 HST hbn hk hk4
        have hs4 := hsz.out 4
        have B5 := hide (below_step B2.out BW.out)
        have hr5 := hide (hr.below B5.out)
        clear BW
        obtain ⟨Y, hY⟩ : ∃ y, sumTo ts 4 = y := ⟨_, rfl⟩
        rw [hY] at hs4 ⊢
        have HY := hide hY; clear hY
        go_wp2_with fail
        refine (firstSerial_c hr5.out H6.out HK.out hsm).mono ?_
        have hf := fstV_hist HH.out
        rw [← hf]
        rintro e w6 ⟨v6, k6, rfl, s6, b6⟩
        have B6 := hide (below_step B5.out b6); clear b6 hf
        cases hfs : fstV ts with
        | none =>
          rw [hfs] at s6
          have SB := hide (serB_none hfs)
          clear s6 hfs
          simp only [Option.isSome_none]
          go_wp2_with fail
          refine (impl_done_c (hr.below B6.out) (by have := hr.1; have := H6.out; omega)).mono ?_
          rintro e wd ⟨rd, kd, rfl, od, bd⟩
          have hkd : (doneL ts).length = kd := od.len
          obtain ⟨Ad, cd, rfl⟩ := od.shape
          have hkd6 : kd ≤ 6 := by rw [← hkd]; exact hd6.out
          have HKD := hide hkd
          have Bd := hide (below_step B6.out bd)
          have HTd := hide (HT.out.below Bd.out)
          clear od bd hkd
          have dl1 := digs_len 3 kd (by omega)
          have dl2 := digs_len 3 Y (by omega)
          have s1 := fun W : World => run_string_add_sum (P := Tryz.prog) (w := W) ⟨#[100, 111, 110, 101, 32]⟩ (str (digs kd)) (by rw [str_size]; show 5 + _ ≤ _; omega)
          have s2 := fun W : World => run_string_add_sum (P := Tryz.prog) (w := W) ⟨#[98, 97, 100, 32]⟩ (str (digs Y)) (by rw [str_size]; show 4 + _ ≤ _; omega)
          have s3 := fun W : World => run_string_add_sum (P := Tryz.prog) (w := W) ⟨#[108, 101, 118, 101, 108, 32]⟩ (lvS (bestV ts)) (by have := lvS_size (bestV ts); show 6 + _ ≤ _; omega)
          clear dl1 dl2
          go_wp2_with fail
          refine (Itoa_c (y := kd) (by omega) HTd.out).mono ?_
          rintro e we ⟨rfl, be⟩
          have Be := hide (below_step Bd.out be)
          have HTe := hide (HT.out.below Be.out)
          clear be
          go_wp2_with fail
          refine (Itoa_c (y := Y) (by omega) HTe.out).mono ?_
          rintro e wf ⟨rfl, bf⟩
          have Bf := hide (below_step Be.out bf)
          clear bf
          go_wp2_with fail
          refine (BestLevel_c (hr.below Bf.out) HH.out).mono ?_
          rintro e wg ⟨rfl, bg⟩
          have Bg := hide (below_step Bf.out bg)
          clear bg
          go_wp2_with fail
          refine (impl_LevelText_c).mono ?_
          rintro e wh ⟨rfl, bh⟩
          rw [textV_s]
          have Bh := hide (below_step Bg.out bh)
          clear bh
          have hsz := Bh.out.size
          go_wp2_with fail
          go_ret
          rw [HREP.out, HKD.out, HY.out, SB.out]
          exact ⟨_, rfl, RS.of_blk (ss := [_, _, _, _]) (Blk.new wh _ _) hsz (by simp), Bh.out.alloc hsz _⟩
        | some l =>
          rw [hfs] at s6
          have HS6 := hide s6
          have HF := hide hfs
          have hll := fstV_len hfs
          have htl := textL_len (fstV_num hfs)
          have SB := hide (serB_trim hfs)
          clear s6 hfs
          simp only [Option.isSome_some]
          have s0 := fun W : World => run_string_add_sum (P := Tryz.prog) (w := W) ⟨#[115, 101, 114, 105, 97, 108, 32]⟩ (str (textL l)) (by rw [str_size]; show 7 + _ ≤ _; omega)
          have hz0 : ((⟨#[115, 101, 114, 105, 97, 108, 32]⟩ : ByteArray) ++ str (textL l)).size ≤ 9223372036854775807 := by
            rw [show (⟨#[115, 101, 114, 105, 97, 108, 32]⟩ : ByteArray) = str [115, 101, 114, 105, 97, 108, 32] from rfl, str_add, str_size]; simp; omega
          have HZ0 := hide hz0
          have HT6 := hide (HT.out.below B6.out)
          clear hz0
          go_wp2_with fail
          refine (impl_NumbersText_c HS6.out HT6.out).mono ?_
          rintro e wa ⟨rfl, ba⟩
          have Ba := hide (below_step B6.out ba)
          clear ba
          simp only [Option.getD_some]
          go_wp2_with fail
          refine (strings_TrimSuffix _ ⟨#[32]⟩ wa HZ0.out).mono ?_
          rintro e wb ⟨rfl, rfl⟩
          rw [show ((⟨#[32]⟩ : ByteArray).data.toList) = [32] from rfl, SB.out]
          clear s0
          go_wp2_with fail
          refine (impl_done_c (hr.below Ba.out) (by have := hr.1; have := H6.out; omega)).mono ?_
          rintro e wd ⟨rd, kd, rfl, od, bd⟩
          have hkd : (doneL ts).length = kd := od.len
          obtain ⟨Ad, cd, rfl⟩ := od.shape
          have hkd6 : kd ≤ 6 := by rw [← hkd]; exact hd6.out
          have HKD := hide hkd
          have Bd := hide (below_step Ba.out bd)
          have HTd := hide (HT.out.below Bd.out)
          clear od bd hkd
          have dl1 := digs_len 3 kd (by omega)
          have dl2 := digs_len 3 Y (by omega)
          have s1 := fun W : World => run_string_add_sum (P := Tryz.prog) (w := W) ⟨#[100, 111, 110, 101, 32]⟩ (str (digs kd)) (by rw [str_size]; show 5 + _ ≤ _; omega)
          have s2 := fun W : World => run_string_add_sum (P := Tryz.prog) (w := W) ⟨#[98, 97, 100, 32]⟩ (str (digs Y)) (by rw [str_size]; show 4 + _ ≤ _; omega)
          have s3 := fun W : World => run_string_add_sum (P := Tryz.prog) (w := W) ⟨#[108, 101, 118, 101, 108, 32]⟩ (lvS (bestV ts)) (by have := lvS_size (bestV ts); show 6 + _ ≤ _; omega)
          clear dl1 dl2
          go_wp2_with fail
          refine (Itoa_c (y := kd) (by omega) HTd.out).mono ?_
          rintro e we ⟨rfl, be⟩
          have Be := hide (below_step Bd.out be)
          have HTe := hide (HT.out.below Be.out)
          clear be
          go_wp2_with fail
          refine (Itoa_c (y := Y) (by omega) HTe.out).mono ?_
          rintro e wf ⟨rfl, bf⟩
          have Bf := hide (below_step Be.out bf)
          clear bf
          go_wp2_with fail
          refine (BestLevel_c (hr.below Bf.out) HH.out).mono ?_
          rintro e wg ⟨rfl, bg⟩
          have Bg := hide (below_step Bf.out bg)
          clear bg
          go_wp2_with fail
          refine (impl_LevelText_c).mono ?_
          rintro e wh ⟨rfl, bh⟩
          rw [textV_s]
          have Bh := hide (below_step Bg.out bh)
          clear bh
          have hsz := Bh.out.size
          go_wp2_with fail
          go_ret
          rw [HREP.out, HKD.out, HY.out]
          exact ⟨_, rfl, RS.of_blk (ss := [_, _, _, _]) (Blk.new wh _ _) hsz (by simp), Bh.out.alloc hsz _⟩
  · have h1 : repL ts = [] := by unfold repL; rw [if_neg h0]
    have h00 : decide (0 < (allV ts).length) = false := by simpa using h0
    have H1 := hide h1; have H00 := hide h00
    clear h1 h00 h0
    go_enter Tryz.func20, Tryz.ntmps20
    go_wp2_with fail
    refine (ordersIn_c hr hn hsm).mono ?_
    rintro e w2 ⟨v2, rfl, b2⟩
    rw [H00.out]
    go_wp2_with fail
    go_ret
    rw [H1.out]
    exact ⟨_, rfl, RS.nil _ _, b2⟩
end Go.Proofs.YtcfkemchekmjbaaGreatDoor

namespace Go.Proofs.YtcfkemchekmjbaaGreatDoor
open Go.RowKit
def RetT (w : World) (f : Int) (ys : List T3) (dn : Bool) (e : Ending) (w' : World) : Prop := ∃ A n c, e = .returned (.agg #[.int .i64 f, .slice A n c, .bool dn]) ∧ O3 61 w' w.heap.size (.slice A n c) n ys ∧ Below w.heap.size w w'
set_option maxRecDepth 100000 in
set_option maxHeartbeats 2000000 in
theorem l1OwnTxn_c {v : Value} {m : Nat} {ys : List T3} {f : Int} {dn : Bool} {w : World} (hv : S3 w v m ys) :
    Calls Tryz.prog 166 #[.agg #[.int .i64 f, v, .bool dn]] w (RetT w f ys dn) := by
  have sv := hv
  have hbd := hv.bd
  obtain ⟨B, d, rfl⟩ := hv.shape
  have B0 : Below w.heap.size w ((((w.alloc (.cells #[.int .i64 f, .slice B m d, .bool dn] 66)).alloc (.cells #[.int .i64 0, .slice none 0 0, .bool false] 66)).alloc (.cells #[.int .i64 f, .slice B m d, .bool dn] 66)).alloc (.cells #[] 61)) := ((((Below.refl _ _).alloc (Nat.le_refl _) _).alloc (by simp) _).alloc (by simp; omega) _).alloc (by simp; omega) _
  have K1 := (((Blk.new (w.alloc (.cells #[.int .i64 f, .slice B m d, .bool dn] 66)) 66 #[.int .i64 0, .slice none 0 0, .bool false]).alloc (.cells #[.int .i64 f, .slice B m d, .bool dn] 66)).alloc (.cells #[] 61))
  have K2 := (Blk.new ((w.alloc (.cells #[.int .i64 f, .slice B m d, .bool dn] 66)).alloc (.cells #[.int .i64 0, .slice none 0 0, .bool false] 66)) 66 #[.int .i64 f, .slice B m d, .bool dn]).alloc (.cells #[] 61)
  have o3 := O3.empty 61 (((w.alloc (.cells #[.int .i64 f, .slice B m d, .bool dn] 66)).alloc (.cells #[.int .i64 0, .slice none 0 0, .bool false] 66)).alloc (.cells #[.int .i64 f, .slice B m d, .bool dn] 66))
  simp only [World.size_alloc] at K1 K2 o3
  go_enter Tryz.func166, Tryz.ntmps166
  go_wp2_with (at_builtin; refine wpList_app3 rfl _ _ rfl Tryz.underlying64 infoOpz rfl o3 rfl (sv.below B0) (by omega) (by simp) ?_; intro v1 w4 h4 hg4 hat; obtain ⟨A1, c1, rfl⟩ := h4.shape; have K1' := K1.grown hg4 (o3.far (by omega)); have K2' := K2.grown hg4 (o3.far (by omega)); obtain ⟨p0, p1, p2⟩ := K1'.three; obtain ⟨r0, r1, r2⟩ := K2'.three; have p3 := K1'.frozen 0; have p4 := K1'.frozen 1; have p5 := K1'.frozen 2; have r3 := K2'.frozen 0; have r4 := K2'.frozen 1; have r5 := K2'.frozen 2)
  obtain ⟨t0, t1, t2⟩ := ((K1'.far (p := ⟨w.heap.size + 1 + 1, 1, none⟩) (by simp) (.slice A1 m c1)).set_ 0 (.int .i64 f) |>.set_ 1 (.slice A1 m c1) |>.set_ 2 (.bool dn)).three
  rw [Nat.zero_add] at h4
  have B4 := below_app3 B0 o3 (by omega) hg4
  refine bodyPost_ret (v := .agg #[.int .i64 f, .slice A1 m c1, .bool dn]) (by simp [results, Tryz.results166, go_sem, t0, t1, t2]) rfl ⟨A1, m, c1, rfl, ?_, ?_⟩
  · exact ((((h4.set_low (p := ⟨w.heap.size + 1 + 1, 1, none⟩) (by simp) _).set_low (p := ⟨w.heap.size + 1, 0, none⟩) (by simp) _).set_low (p := ⟨w.heap.size + 1, 1, none⟩) (by simp) _).set_low (p := ⟨w.heap.size + 1, 2, none⟩) (by simp) _).mono (by omega)
  · exact (((B4.setCell (p := ⟨w.heap.size + 1 + 1, 1, none⟩) (by simp; omega) _).setCell (p := ⟨w.heap.size + 1, 0, none⟩) (by simp) _).setCell (p := ⟨w.heap.size + 1, 1, none⟩) (by simp) _).setCell (p := ⟨w.heap.size + 1, 2, none⟩) (by simp) _
/-- A slice of transactions of the call's own. -/
def RT (w : World) (lo : Nat) (v : Value) (k : Nat) (rs : List Tx) : Prop := ∃ cs, w.ownsRow lo 66 3 v k cs ∧ rs.length = k ∧ ∀ (i : Nat) (t : Tx), rs[i]? = some t → ∃ u n, cs[i * 3]? = some (.int .i64 t.1) ∧ cs[i * 3 + 1]? = some u ∧ cs[i * 3 + 2]? = some (.bool t.2.2) ∧ O3 61 w lo u n t.2.1
theorem RT.empty (w : World) : RT (w.alloc (.cells #[] 66)) w.heap.size (.slice (some ⟨w.heap.size, 0, none⟩) 0 0) 0 [] :=
  ⟨[], ⟨rfl, .inr ⟨w.heap.size, 0, #[], rfl, Nat.le_refl _, Blk.new w _ _, Nat.le_refl _, by simp [maxLen], rfl, rfl⟩⟩, rfl, fun i t h => by simp at h⟩
theorem RT.below {w w' : World} {lo k : Nat} {v : Value} {rs : List Tx} (h : RT w lo v k rs) (hb : Below w.heap.size w w') : RT w' lo v k rs := by
  obtain ⟨cs, h1, h2, h3⟩ := h
  exact ⟨cs, own_bel h1 hb, h2, fun i t hi => by obtain ⟨u, n, e1, e2, e3, e4⟩ := h3 i t hi; exact ⟨u, n, e1, e2, e3, e4.below hb⟩⟩
theorem RT.shape {w : World} {lo k : Nat} {v : Value} {rs : List Tx} (h : RT w lo v k rs) : ∃ A c, v = .slice A k c := by
  obtain ⟨cs, h1, h2⟩ := h
  rcases h1.2 with ⟨e, h0⟩ | ⟨g, cap, cur, e, _⟩
  · subst h0; exact ⟨_, _, e⟩
  · exact ⟨_, _, e⟩
theorem RT.grows {a w w' : World} {lo k : Nat} {v : Value} {rs : List Tx} (o : RT w lo v k rs) (h : Below a.heap.size a w) (hB : a.heap.size ≤ lo) (hg : w.grownBy w' v.ownBlock) : Below a.heap.size a w' := by
  obtain ⟨cs, o, _⟩ := o
  exact h.grown hg h.size (fun q hq => by have := (World.ownsRow.lt o q hq).1; omega)
theorem RT.rts {w : World} {lo k c : Nat} {A : Option Addr} {rs : List Tx} (h : RT w lo (.slice A k c) k rs) : RTs w A k rs := by
  obtain ⟨cs, h1, h2, h3⟩ := h
  have hcl := h1.1
  refine ⟨h2, fun hn => ?_⟩
  rcases h1.2 with ⟨_, h0⟩ | ⟨g, cap, cur, e, hB, hg, hc, hcm, hs, ht⟩
  · omega
  · injection e with e _ e3
    subst e; subst e3
    refine ⟨g, 0, rfl, Blk.lt (t := 66) (cs := cur) hg, fun i t hi => ?_⟩
    obtain ⟨u, n, e1, e2, e3, o⟩ := h3 i t hi
    obtain ⟨B, c9, rfl, hn1, hcm9, hri⟩ := o.form
    have hi' : i < k := by have := (List.getElem?_eq_some_iff.1 hi).1; omega
    refine ⟨B, n, c9, ?_, ?_, ?_, hn1, hcm9, hri⟩
    · rw [Nat.zero_add, World.ownsRow.cellAt h1 (i * 3) (by omega)]; exact e1
    · rw [Nat.zero_add, World.ownsRow.cellAt h1 (i * 3 + 1) (by omega)]; exact e2
    · rw [Nat.zero_add, World.ownsRow.cellAt h1 (i * 3 + 2) (by omega)]; exact e3
theorem o3_ne_row {w : World} {lo lo' n k s : Nat} {u v : Value} {ys : List T3} {cs : List Value} {t : TypeId} (ho : O3 61 w lo u n ys) (hv : w.ownsRow lo' t s v k cs) (ht : 61 ≠ t) : u.ownBlock = none ∨ u.ownBlock ≠ v.ownBlock := by
  rcases ho.1.2 with ⟨rfl, _⟩ | ⟨g1, cap, cur, rfl, _, hh, _⟩
  · left; rfl
  · right
    rcases hv.2 with ⟨rfl, _⟩ | ⟨g2, cap2, cur2, rfl, _, hh2, _⟩
    · simp [Value.ownBlock]
    · intro he
      have e : g1 = g2 := by have h : some g1 = some g2 := he; injection h
      subst e
      rw [hh] at hh2; injection hh2 with hh2; injection hh2 with _ h2; exact ht h2
theorem RT.run {w : World} {lo k : Nat} {v : Value} {rs : List Tx} (h : RT w lo v k rs) (ty : TypeId) {b n : Nat} {f : Int} {u : Value} {d : Bool} {zs : List T3} (hK : Blk w b 66 #[.int .i64 f, u, .bool d]) (hu : O3 61 w lo u n zs) (hk : k ≤ 1048576) (hlo : lo ≤ w.heap.size) :
    ∃ v' w', (Builtin.append_ #[27, 27] ty #[v, .slice (some ⟨b, 0, none⟩) 1 1]).run Tryz.prog w = .ok v' w' ∧ RT w' lo v' (k + 1) (rs ++ [(f, zs, d)]) ∧ w.grownBy w' v.ownBlock := by
  obtain ⟨i, hi, hz, hsz, hby⟩ := info_parts infoTh
  obtain ⟨cs, h1, h2, h3⟩ := h
  have hcl := h1.1
  have hc1 : ∀ x ∈ [Value.int .i64 f, u, .bool d], x.oneCell' = true := fun x hx => by
    obtain ⟨A, c, rfl⟩ := hu.shape
    simp at hx; rcases hx with rfl | rfl | rfl <;> rfl
  obtain ⟨v', w', hrun, hown, hg, hat⟩ := app_rd (P := Tryz.prog) (w := w) lo 27 ty 66 i (.agg #[.int .i64 0, .slice none 0 0, .bool false]) 3 40 Tryz.underlying27 hi hz hsz hby rfl (by omega) v k cs h1 _ 1 1 _ (Rd.three' hK) hc1 (by simp only [maxLen]; omega) (by omega) hlo
  refine ⟨v', w', hrun, ⟨_, hown, by simp [h2], fun j t hj => ?_⟩, hg⟩
  by_cases e : j < k
  · rw [List.getElem?_append_left (by omega)] at hj
    obtain ⟨x, m, e1, e2, e3, e4⟩ := h3 j t hj
    exact ⟨x, m, by rw [List.getElem?_append_left (by omega)]; exact e1, by rw [List.getElem?_append_left (by omega)]; exact e2, by rw [List.getElem?_append_left (by omega)]; exact e3, e4.grown hg (o3_ne_row e4 h1 (by decide))⟩
  · have : j = k := by have := (List.getElem?_eq_some_iff.1 hj).1; simp at this; omega
    subst this
    rw [← h2] at hj
    simp at hj; subst hj
    exact ⟨u, n, by rw [List.getElem?_append_right (by omega), show j * 3 - cs.length = 0 by omega]; rfl, by rw [List.getElem?_append_right (by omega), show j * 3 + 1 - cs.length = 1 by omega]; rfl, by rw [List.getElem?_append_right (by omega), show j * 3 + 2 - cs.length = 2 by omega]; rfl, hu.grown hg (o3_ne_row hu h1 (by decide))⟩
set_option maxRecDepth 100000 in
set_option maxHeartbeats 4000000 in
theorem l1OwnTxnList_c {A : Option Addr} {n c : Nat} {ts : List Tx} {w : World} (hr : RTs w A n ts) (hn : n ≤ 1048576) (hsm : SmallT ts) :
    Calls Tryz.prog 117 #[.slice A n c] w fun e w' => ∃ A' c', e = .returned (.slice A' n c') ∧ RTs w' A' n ts ∧ Below w.heap.size w w' := by
  have hl := hide hr.1
  have D0 := hide (RT.empty w)
  have B0 := hide ((Below.refl w.heap.size w).alloc (Nat.le_refl _) (.cells #[] 66))
  go_enter Tryz.func117, Tryz.ntmps117
  go_wp2_with fail
  go_loopw [3, 4] (fun s i W => ∃ k : Nat, k ≤ n ∧ i = .int .i64 k ∧ RT W w.heap.size s k (ts.take k) ∧ Below w.heap.size w W) (fun _ i _ => n - (intOf i).toNat)
  case atStart => exact ⟨0, Nat.zero_le _, rfl, D0.out, B0.out⟩
  case round =>
    clear D0 B0
    obtain ⟨k, hk, rfl, D, bw⟩ := hrel
    rename World => wr
    have HD := hide D; have BW := hide bw
    obtain ⟨Aq, cq, rfl⟩ := D.shape
    clear D bw
    by_cases hkn : k < n
    · obtain ⟨b, off, f, ys, dn, B, kk, d, rfl, hbb, hx, q0, q1, q2, hkd, hdm, hri⟩ := hr.at_ hkn
      have e0 := (BW.out.cell (p := ⟨b, off + k * 3, none⟩) hbb).trans q0
      have e1 := (BW.out.cell (p := ⟨b, off + k * 3 + 1, none⟩) hbb).trans q1
      have e2 := (BW.out.cell (p := ⟨b, off + k * 3 + 2, none⟩) hbb).trans q2
      have hsz := hsm _ (List.mem_of_getElem? hx)
      have hyl := hri.len
      have hk1 : kk ≤ 1048576 := by dsimp only at hsz; omega
      have s1 : S3 wr (.slice B kk d) kk ys := S3.of_args hkd hk1 (hri.below BW.out)
      have htk := hide (show ts.take (k + 1) = ts.take k ++ [(f, ys, dn)] by rw [List.take_add_one, hx]; rfl)
      have k2 : (k : Int) < n := by omega
      clear hx q0 q1 q2 hsz hyl
      go_wp2_with fail
      refine (l1OwnTxn_c s1).mono ?_
      rintro e w2 ⟨A2, n2, c2, rfl, o2, b2⟩
      have b3 : Below w2.heap.size w2 (w2.alloc (.cells #[.int .i64 f, .slice A2 n2 c2, .bool dn] 66)) := (Below.refl _ _).alloc (Nat.le_refl _) _
      have K3 := Blk.new w2 66 #[.int .i64 f, .slice A2 n2 c2, .bool dn]
      have o3 := (o2.mono (B' := w.heap.size) BW.out.size).below b3
      have D3 := (HD.out.below b2).below b3
      have B3 := hide (below_step (below_step BW.out b2) b3)
      clear o2 b2 b3 e0 e1 e2
      go_wp2_with (at_builtin; obtain ⟨v6, w6, hrun, L6, g6⟩ := RT.run D3 27 K3 o3 (by omega) B3.out.size; refine Lib.wpList_append_run _ rfl _ _ _ _ rfl _ _ rfl rfl _ _ hrun ?_)
      have B6 := D3.grows B3.out (Nat.le_refl _) g6
      go_roundw
      case rel => exact ⟨k + 1, by omega, by go_num, by rw [htk.out]; exact L6, B6⟩
      case measure => simp [intOf]; omega
    · obtain rfl : n = k := by omega
      have hfin : ts.take n = ts := List.take_of_length_le (by rw [hl.out]; exact Nat.le_refl _)
      rw [hfin] at HD
      clear hfin
      go_wp2_with fail
      go_ret
      exact ⟨Aq, cq, rfl, HD.out.rts, BW.out⟩
set_option maxRecDepth 100000 in
set_option maxHeartbeats 4000000 in
theorem l1OwnRowsInt_c {A : Option Addr} {n c : Nat} {ls : Ls} {w : World} (hr : RL w A n ls) (hn : n ≤ 1000) :
    Calls Tryz.prog 121 #[.slice A n c] w fun e w' => ∃ v, e = .returned v ∧ LL w' w.heap.size v ls ∧ Below w.heap.size w w' := by
  have hl := hide hr.1
  have L0 := hide (LL.empty w)
  have B0 := hide ((Below.refl w.heap.size w).alloc (Nat.le_refl _) (.cells #[] 24))
  go_enter Tryz.func121, Tryz.ntmps121
  go_wp2_with fail
  go_loopw [3, 4] (fun s i W => ∃ k : Nat, k ≤ n ∧ i = .int .i64 k ∧ LL W w.heap.size s (ls.take k) ∧ Below w.heap.size w W) (fun _ i _ => n - (intOf i).toNat)
  case atStart => exact ⟨0, Nat.zero_le _, rfl, L0.out, B0.out⟩
  case round =>
    clear L0 B0
    obtain ⟨k, hk, rfl, D, bw⟩ := hrel
    rename World => wr
    have HD := hide D; have BW := hide bw
    obtain ⟨Aq, cq, hsh⟩ := D.shape
    have hkl : (ls.take k).length = k := by rw [List.length_take]; have := hl.out; omega
    rw [hkl] at hsh
    subst hsh
    clear D bw
    by_cases hkn : k < n
    · obtain ⟨b, off, xs, B, kk, d, rfl, hbb, hx, hc, hkd, hkm, hri⟩ := hr.at_ hkn
      have c1 := (BW.out.cell (p := ⟨b, off + k, none⟩) hbb).trans hc
      have oE := OI.empty wr
      have b1 : Below wr.heap.size wr (wr.alloc (.cells #[] 3)) := (Below.refl _ _).alloc (Nat.le_refl _) _
      have c2 := (b1.cell (p := ⟨b, off + k, none⟩) (Nat.lt_of_lt_of_le hbb BW.out.size)).trans c1
      have s1 := ((SI.of_args hkd hkm hri).below BW.out).below b1
      have htk := hide (show ls.take (k + 1) = ls.take k ++ [xs] by rw [List.take_add_one, hx]; rfl)
      have k2 : (k : Int) < n := by omega
      clear hx hc hri
      go_wp2_with (first | (at_builtin; refine wpList_appI rfl _ _ rfl rfl oE rfl s1 (by omega) (by simp) ?_; intro v4 w4 o4 g4 _; rw [Nat.zero_add, List.nil_append] at o4; obtain ⟨A4, c4, hs4⟩ := o4.shape; subst hs4; have b4 := below_of_grown b1 g4 b1.size (oE.grown_le (Nat.le_refl _)); have b5 : Below wr.heap.size wr (w4.alloc (.cells #[.slice A4 kk c4] 24)) := b4.alloc b4.size _; have K5 := Blk.new w4 24 #[.slice A4 kk c4]; have o5 := (o4.alloc (.cells #[.slice A4 kk c4] 24)).mono (B' := w.heap.size) BW.out.size; have L5 := HD.out.below b5; clear o4 g4 b4) | (at_builtin; obtain ⟨v6, w6, hrun, L6, g6, hat⟩ := LL.run L5 37 K5 o5 (by omega) (Nat.le_trans BW.out.size b5.size); refine Lib.wpList_append_run _ rfl _ _ _ _ rfl _ _ rfl rfl _ _ hrun ?_))
      have B6 := L5.grows (below_step BW.out b5) (Nat.le_refl _) g6
      go_roundw
      case rel => exact ⟨k + 1, by omega, by go_num, by rw [htk.out]; exact L6, B6⟩
      case measure => simp [intOf]; omega
    · obtain rfl : n = k := by omega
      have hfin : ls.take n = ls := List.take_of_length_le (by rw [hl.out]; exact Nat.le_refl _)
      rw [hfin] at HD
      clear hfin
      go_wp2_with fail
      go_ret
      exact ⟨_, rfl, HD.out, BW.out⟩
end Go.Proofs.YtcfkemchekmjbaaGreatDoor
