/- Merged (what the law reaches): Bad5, Bad6. -/
import Derived.Test.YtcfkemchekmjbaaGreatDoorVo
namespace Go.Proofs.YtcfkemchekmjbaaGreatDoor
open Go.RowKit
/-- What changes at committed transactions alone is the same wherever as many of them lie ahead. -/
theorem doneTo_le_of {α : Type} {ts : List Tx} {F : Nat → α} (hF : ∀ (k : Nat) (t : Tx), ts[k]? = some t → t.2.2 = false → F (k + 1) = F k) {k : Nat} : ∀ k', k ≤ k' → k' ≤ ts.length → (doneTo ts k).length = (doneTo ts k').length → F k' = F k := by
  intro k'
  induction k' with
  | zero => intro h _ _; obtain rfl : k = 0 := by omega
            rfl
  | succ k' ih =>
    intro h hk hl
    by_cases e : k = k' + 1
    · subst e; rfl
    · obtain ⟨t, ht⟩ : ∃ t, ts[k']? = some t := ⟨_, List.getElem?_eq_getElem (by omega)⟩
      have mono : (doneTo ts k).length ≤ (doneTo ts k').length := by
        have : ∀ q, k ≤ q → (doneTo ts k).length ≤ (doneTo ts q).length := by
          intro q
          induction q with
          | zero => intro h; obtain rfl : k = 0 := by omega
                    exact Nat.le_refl _
          | succ q ihq =>
            intro h
            by_cases e : k = q + 1
            · subst e; exact Nat.le_refl _
            · have := ihq (by omega)
              have hs : doneTo ts (q + 1) = doneTo ts q ++ (if (ts.getD q (0, [], false)).2.2 then [(q : Int)] else []) := rfl
              rw [hs, List.length_append]; omega
        exact this k' (by omega)
      cases hd : t.2.2
      · rw [hF k' t ht hd]
        rw [doneTo_no ht hd] at hl
        exact ih (by omega) (by omega) hl
      · rw [doneTo_yes ht hd, List.length_append] at hl
        simp at hl; omega
theorem doneTo_same {α : Type} {ts : List Tx} {F : Nat → α} (hF : ∀ (k : Nat) (t : Tx), ts[k]? = some t → t.2.2 = false → F (k + 1) = F k) {k k' : Nat} (hk : k ≤ ts.length) (hk' : k' ≤ ts.length) (hl : (doneTo ts k).length = (doneTo ts k').length) : F k = F k' := by
  rcases Nat.le_total k k' with h | h
  · exact (doneTo_le_of hF k' h hk' hl).symm
  · exact doneTo_le_of hF k h hk hl.symm
theorem doneTo_at {ts : List Tx} {j : Nat} {x : Int} : ∀ k, k ≤ ts.length → (doneTo ts k)[j]? = some x → ∃ (d : Nat) (t : Tx), x = d ∧ d < k ∧ ts[d]? = some t ∧ t.2.2 = true ∧ (doneTo ts d).length = j := by
  intro k
  induction k with
  | zero => intro _ h; simp [doneTo] at h
  | succ k ih =>
    intro hk h
    obtain ⟨t, ht⟩ : ∃ t, ts[k]? = some t := ⟨_, List.getElem?_eq_getElem (by omega)⟩
    cases hd : t.2.2
    · rw [doneTo_no ht hd] at h
      obtain ⟨d, t', h1, h2, h3⟩ := ih (by omega) h
      exact ⟨d, t', h1, by omega, h3⟩
    · rw [doneTo_yes ht hd] at h
      by_cases e : j < (doneTo ts k).length
      · rw [List.getElem?_append_left e] at h
        obtain ⟨d, t', h1, h2, h3⟩ := ih (by omega) h
        exact ⟨d, t', h1, by omega, h3⟩
      · have hj := (List.getElem?_eq_some_iff.1 h).1
        rw [List.length_append] at hj
        simp at hj
        obtain rfl : j = (doneTo ts k).length := by omega
        rw [List.getElem?_append_right (Nat.le_refl _)] at h
        simp at h
        exact ⟨k, t, h.symm, by omega, ht, hd, rfl⟩
theorem doneL_at {ts : List Tx} {j : Nat} {x : Int} (h : (doneL ts)[j]? = some x) : ∃ (d : Nat) (t : Tx), x = d ∧ ts[d]? = some t ∧ t.2.2 = true ∧ (doneTo ts d).length = j ∧ (doneTo ts (d + 1)).length = j + 1 := by
  obtain ⟨d, t, h1, h2, h3, h4, h5⟩ := doneTo_at ts.length (Nat.le_refl _) h
  exact ⟨d, t, h1, h3, h4, h5, by rw [doneTo_yes h3 h4, List.length_append, h5]; rfl⟩
def RetLen (w : World) (k : Nat) (e : Ending) (w' : World) : Prop := ∃ A c, e = .returned (.slice A k c) ∧ Below w.heap.size w w'
/-- Rows of different types lie apart. -/
theorem own_ne2 {w : World} {B1 B2 s1 s2 n1 n2 : Nat} {t1 t2 : TypeId} {v1 v2 : Value} {x1 x2 : List Value} (h1 : w.ownsRow B1 t1 s1 v1 n1 x1) (h2 : w.ownsRow B2 t2 s2 v2 n2 x2) (ht : t1 ≠ t2) : v1.ownBlock = none ∨ v1.ownBlock ≠ v2.ownBlock := by
  rcases h1.2 with ⟨rfl, _⟩ | ⟨g1, cap, cur, rfl, _, hh, _⟩
  · left; rfl
  · right
    rcases h2.2 with ⟨rfl, _⟩ | ⟨g2, cap2, cur2, rfl, _, hh2, _⟩
    · simp [Value.ownBlock]
    · intro he
      have e : g1 = g2 := by have h : some g1 = some g2 := he; injection h
      subst e
      rw [hh] at hh2; injection hh2 with hh2; injection hh2 with _ h2; exact ht h2
theorem made_places (w : World) : (Instr.makeSlice 105 (.int .i64 0) (.int .i64 0)).run Tryz.prog w = .ok (.slice (some ⟨w.heap.size, 0, none⟩) 0 0) (w.alloc (.cells #[] 155)) := by
  obtain ⟨i, hi, hz, hs, hb⟩ := info_parts infoPl
  have := run_make_rowN 105 155 i (.agg #[.int .i64 0, .int .i64 0]) Tryz.underlying105 hi hz .i64 .i64 0 0 (Nat.zero_le _) (by rw [hb]; omega) (by omega) w
  rw [Nat.zero_mul] at this
  have e : madeCells (Value.agg #[.int .i64 0, .int .i64 0]).cells 0 = #[] := by simp [madeCells]
  rw [e] at this
  exact this
theorem txnB_all {f : Int} {ys : List T3} {dn : Bool} (h : txnB (f, ys, dn) = true) {x y z : Int} {k : Nat} (hx : ys[k]? = some (x, y, z)) : opB (x, y, z) = true := txnB_opH h hx
set_option maxRecDepth 100000 in
set_option maxHeartbeats 16000000 in
theorem impl_BadReads_c {A : Option Addr} {n c kk0 : Nat} {ts : List Tx} {w : World} (hr : RTs w A n ts) (hh : histB ts = true) (hk1 : 1 ≤ kk0) (hk4 : kk0 ≤ 4) :
    Calls Tryz.prog 73 #[.slice A n c, .int .i64 (kk0 : Int)] w (RetLen w (badN ts (kk0 : Int))) := by
  obtain ⟨h6, hv, hnd⟩ := histB_parts hh
  have hl := hide hr.1
  have HH := hide hh; have HV := hide hv
  have hn6 : n ≤ 6 := by rw [← hl.out]; exact h6
  have hsm : SmallT ts := fun t ht => by have h : t.2.1.length ≤ 6 := txnB_lenH (hv t ht); omega
  have hF := fun (k : Nat) (t : Tx) (h1 : ts[k]? = some t) (h2 : t.2.2 = false) => badAt_not (kind := (kk0 : Int)) h1 h2
  have HF := hide hF
  have hfin : badN ts (kk0 : Int) = badAt ts (kk0 : Int) ts.length := by unfold badN; rw [if_pos ⟨hh, by omega, by omega⟩]
  have HFIN := hide hfin
  have hkk : (decide ((1 : Int) ≤ (kk0 : Int)) && decide ((kk0 : Int) ≤ 4)) = true := by simp; omega
  have hmk := made_places
  have hi1 : inB (kk0 : Int) 1 4 = true := (inB_iff _ _ _).2 (by omega)
  clear hh hv hnd h6 hF hfin hkk
  go_enter Tryz.func73, Tryz.ntmps73
  go_wp2_with fail
  refine (impl_HistoryValid_c hr (by omega) hsm).mono ?_
  rintro e w2 ⟨rfl, b2⟩
  rw [HH.out]
  go_wp2_with fail
  refine (within_c).mono ?_
  rintro e w2' ⟨rfl, rfl⟩
  rw [hi1]
  have hr2 := hr.below b2
  have o2 := (OF.emptyP w2).mono (B' := w.heap.size) b2.size
  have B2 := b2.alloc b2.size (.cells #[] 155)
  have hr2' := hr2.below ((Below.refl w2.heap.size w2).alloc (Nat.le_refl _) (.cells #[] 155))
  have O2 := hide o2; have B2H := hide B2; have HR := hide hr2'
  clear o2 B2 b2 hr2 hr2'
  go_wp2_with fail
  refine (impl_done_c HR.out (by omega)).mono ?_
  rintro e w3 ⟨dv, dk, rfl, od, b3⟩
  have O3' := hide (O2.out.below b3); have B3 := hide (below_step B2H.out b3)
  have OD := hide (od.mono (B' := w.heap.size) B2H.out.size)
  obtain ⟨Ad, cd, rfl⟩ := od.shape
  clear od b3 hmk O2 B2H HR
  go_wp2_with fail
  go_loopw [5, 22] (fun v i W => ∃ (j q k : Nat) (xs : List Int), i = .int .i64 j ∧ j ≤ dk ∧ OF 155 2 W w.heap.size v q xs ∧ OI W w.heap.size (.slice Ad dk cd) dk (doneL ts) ∧ k ≤ ts.length ∧ (doneTo ts k).length = j ∧ q = badAt ts (kk0 : Int) k ∧ Below w.heap.size w W) (fun _ i _ => dk - (intOf i).toNat)
  case atStart => exact ⟨0, 0, 0, [], rfl, Nat.zero_le _, O3'.out, OD.out, Nat.zero_le _, rfl, rfl, B3.out⟩
  case round =>
    clear O3' B3 OD
    rename World => wr
    obtain ⟨j, q, k, xs, rfl, hjd, ho, od, hkl, hjk, hq, bw⟩ := hrel
    have HQ := hide hq; have HJK := hide hjk; have HO := hide ho; have BW := hide bw; have HOD := hide od
    have hq36 : q ≤ 36 := by rw [hq]; have := badAt_le (kind := (kk0 : Int)) HV.out k hkl; have := hl.out; omega
    obtain ⟨Ad', cd', ed, hdc, hdm, hrd⟩ := od.si
    obtain ⟨rfl, rfl⟩ : Ad = Ad' ∧ cd = cd' := by simpa using ed
    have hdl := hide hrd.len
    clear hq hjk ed od
    obtain ⟨Ao, co, rfl⟩ := ho.shapeP
    by_cases hlt : j < dk
    · obtain ⟨b, off, x, rfl, hbb, hx, hcd⟩ := hrd.at_ hlt
      obtain ⟨d, t, rfl, ht, htd, hd1, hd2⟩ := doneL_at hx
      have hdn : d < n := by have := (List.getElem?_eq_some_iff.1 ht).1; have := hl.out; omega
      have hqd : q = badAt ts (kk0 : Int) d := by rw [HQ.out]; exact doneTo_same HF.out hkl (by have := hl.out; omega) (HJK.out.trans hd1.symm)
      obtain ⟨bt, ot, f, ys, dn, B, kk, dd, rfl, hbt, hxt, q0, q1, q2, hkd, hdm2, hry⟩ := hr.at_ hdn
      obtain rfl : (f, ys, dn) = t := by rw [ht] at hxt; injection hxt with hxt; exact hxt.symm
      have hb1 : badAt ts (kk0 : Int) (d + 1) = badAt ts (kk0 : Int) d + badTo ts (kk0 : Int) d ys ys.length := badAt_done ht htd
      have hv1 := HV.out _ (List.mem_of_getElem? ht)
      have e0 := (bw.cell (p := ⟨bt, ot + d * 3, none⟩) hbt).trans q0
      have e1 := (bw.cell (p := ⟨bt, ot + d * 3 + 1, none⟩) hbt).trans q1
      have e2 := (bw.cell (p := ⟨bt, ot + d * 3 + 2, none⟩) hbt).trans q2
      have h6y : kk ≤ 6 := by have h1 := txnB_lenH hv1; have h2 := hry.len; omega
      have HB1 := hide hb1; have HQD := hide hqd; have HD2 := hide hd2; have HV1 := hide hv1
      have hyl := hide hry.len
      have HDL : Hid (d + 1 ≤ ts.length) := hide (by have := hl.out; omega)
      have j0 : (0 : Int) ≤ j := by omega
      have j2 : (j : Int) < dk := by omega
      have d0 : (0 : Int) ≤ d := by omega
      have d2 : (d : Int) < n := by omega
      clear hx hb1 hqd hd1 hd2 hv1 q0 q1 q2 ht hxt htd hrd
      by_cases h4 : kk0 = 4
      · have h4b : ((kk0 : Int) == 4) = true := by simp; omega
        have e4 := hide (show (kk0 : Int) = 4 by omega)
        clear h4
        have s3 : S3 wr (.slice B kk dd) kk ys := (S3.of_args hkd (by omega) hry).below bw
        go_wp2_with fail
        refine (ownErrors_c ts d s3 HV1.out).mono ?_
        rintro e w5 ⟨A5, n5, c5, xs5, rfl, hn5, o5, b5⟩
        have HN5 := hide hn5
        have hn56 : n5 ≤ 6 := by rw [hn5]; exact Nat.le_trans (badTo_le ts 4 d ys ys.length) (by have := hyl.out; omega)
        have ho5 := HO.out.below b5
        have od5 := HOD.out.below b5
        have B5 := below_step BW.out b5
        have rd5 := o5.rd
        have hz5 := B5.size
        clear hn5 e0 e1 e2 hcd o5 b5
        go_wp2_with (at_builtin; refine wpList_appP rfl _ _ rfl rfl ho5 rfl rd5 (by omega) hz5 ?_; intro v7 w7 o7 hg7)
        have B7 := OF.belowG B5 ho5 (Nat.le_refl _) hg7
        have od7 := od5.grown hg7 (own_ne2 od5.1 ho5.1 (by decide))
        go_roundw
        case rel => exact ⟨j + 1, q + n5, d + 1, _, by go_num, by omega, o7, od7, HDL.out, HD2.out, by rw [HB1.out, HQD.out, HN5.out, e4.out], B7⟩
        case measure => simp [intOf]; omega
      · have h4b : ((kk0 : Int) == 4) = false := by simp; omega
        have hcase : ∀ (i : Nat) (o : T3), (if (kk0 : Int) = 4 then ownBad ys i o else decide (badK ts d o = (kk0 : Int))) = decide (badK ts d o = (kk0 : Int)) := fun i o => if_neg (by omega)
        have HC := hide hcase
        clear hcase
        go_wp2_with fail
        go_loopw [5, 42] (fun v i W => ∃ (i' q' : Nat) (xs : List Int), i = .int .i64 i' ∧ i' ≤ kk ∧ OF 155 2 W w.heap.size v q' xs ∧ OI W w.heap.size (.slice (some ⟨b, off, none⟩) dk cd) dk (doneL ts) ∧ q' = q + badTo ts (kk0 : Int) d ys i' ∧ Below w.heap.size w W) (fun _ i _ => kk - (intOf i).toNat)
        case atStart => exact ⟨0, q, xs, rfl, Nat.zero_le _, HO.out, HOD.out, rfl, BW.out⟩
        case round =>
          clear HO HOD BW e0 e1 e2 hcd
          rename World => wr2
          obtain ⟨i', q', xs', rfl, hik, ho, od, hq', bw⟩ := hrel
          have HQ2 := hide hq'; have HO := hide ho; have HOD := hide od
          have hq42 : q' ≤ 42 := by rw [hq']; have := badTo_le ts (kk0 : Int) d ys i'; omega
          clear hq' od
          obtain ⟨Ao2, co2, rfl⟩ := ho.shapeP
          by_cases hil : i' < kk
          · obtain ⟨b2, off2, x, y, z, rfl, hbb2, hx, p0, p1, p2⟩ := hry.at_ hil
            have a0 := (bw.cell (p := ⟨b2, off2 + i' * 3, none⟩) hbb2).trans p0
            have a1 := (bw.cell (p := ⟨b2, off2 + i' * 3 + 1, none⟩) hbb2).trans p1
            have a2 := (bw.cell (p := ⟨b2, off2 + i' * 3 + 2, none⟩) hbb2).trans p2
            have hop := txnB_all HV1.out hx
            have HX := hide hx; have HOP := hide hop
            have k0 : (0 : Int) ≤ i' := by omega
            have k2 : (i' : Int) < kk := by omega
            have b1 := bw.alloc bw.size (.cells #[.int .i64 x, .int .i64 y, .int .i64 z] 61)
            have hrA := hide (hr.below b1)
            have hoA := hide (HO.out.alloc (.cells #[.int .i64 x, .int .i64 y, .int .i64 z] 61))
            have odA := hide (HOD.out.alloc (.cells #[.int .i64 x, .int .i64 y, .int .i64 z] 61))
            have B1 := hide b1
            clear hx p0 p1 p2 hop b1
            go_wp2_with fail
            refine (badKind_c (who := d) hrA.out HH.out HOP.out).mono ?_
            rintro e w5 ⟨rfl, b5⟩
            have B5 := hide (below_step B1.out b5)
            have ho5 := hide (hoA.out.below b5)
            have od5 := hide (odA.out.below b5)
            clear a0 a1 a2 b5
            by_cases hbk : badK ts d (x, y, z) = (kk0 : Int)
            · have hy := badTo_yes (ts := ts) (kind := (kk0 : Int)) (who := d) HX.out (by rw [HC.out]; simpa using hbk)
              have HY := hide hy
              have ho6 := ho5.out.alloc (.cells #[.int .i64 (d : Int), .int .i64 (i' : Int)] 155)
              have od6 := od5.out.alloc (.cells #[.int .i64 (d : Int), .int .i64 (i' : Int)] 155)
              have B6 := B5.out.alloc B5.out.size (.cells #[.int .i64 (d : Int), .int .i64 (i' : Int)] 155)
              have rd6 := Rd.twoP (Blk.new w5 155 #[.int .i64 (d : Int), .int .i64 (i' : Int)])
              have hz6 := B5.out.size
              have hne6 := own_ne2 od6.1 ho6.1 (by decide)
              rw [hbk]
              clear hy hbk
              go_wp2_with (at_builtin; refine wpList_appP rfl _ _ rfl rfl ho6 rfl rd6 (by omega) (by simp <;> omega) ?_; intro v7 w7 o7 hg7)
              have B7 := OF.belowG B6 ho6 (Nat.le_refl _) hg7
              have od7 := od6.grown hg7 hne6
              go_roundw
              case rel => exact ⟨i' + 1, q' + 1, _, by go_num, by omega, o7, od7, by rw [HY.out, HQ2.out]; omega, B7⟩
              case measure => simp [intOf]; omega
            · have hno := badTo_no (ts := ts) (kind := (kk0 : Int)) (who := d) HX.out (by rw [HC.out]; simpa using hbk)
              have hbb : (badK ts d (x, y, z) == (kk0 : Int)) = false := by simpa using hbk
              have HNO := hide hno
              clear hno hbk
              go_wp2_with fail
              go_roundw
              case rel => exact ⟨i' + 1, q', xs', by go_num, by omega, ho5.out, od5.out, by rw [HNO.out]; exact HQ2.out, B5.out⟩
              case measure => simp [intOf]; omega
          · obtain rfl : i' = kk := by omega
            have BW := hide bw
            clear bw ho
            go_wp2_with fail
            go_roundw
            case rel => exact ⟨j + 1, q', d + 1, xs', by go_num, by omega, HO.out, HOD.out, HDL.out, HD2.out, by rw [HB1.out, HQ2.out, HQD.out, hyl.out], BW.out⟩
            case measure => simp [intOf]; omega
    · obtain rfl : j = dk := by omega
      have hqf : q = badN ts (kk0 : Int) := by rw [HQ.out, HFIN.out]; exact doneTo_same HF.out hkl (Nat.le_refl _) (by rw [HJK.out]; exact hdl.out.symm)
      have HQF := hide hqf
      obtain ⟨Ao', co', eo, hqc, _, _, _⟩ := HO.out.form
      obtain ⟨rfl, rfl⟩ : Ao = Ao' ∧ co = co' := by simpa using eo
      have hsl : ∃ A', ∀ W, (Instr.slice 105 (.slice Ao q co) none (some (.int .i64 (q : Int))) (some (.int .i64 (q : Int)))).run Tryz.prog W = .ok (.slice A' q q) W := by
        obtain ⟨i, hi, hz, hsz, hb⟩ := info_parts infoPl
        refine ⟨if q = 0 then Ao else Ao.map (·.add (0 * i.size)), fun W => ?_⟩
        simp [Instr.slice, Instr.sliceBounds, Instr.sliceBound, run_underlying Tryz.underlying105, sizeOf, typeInfo, hi, asIntOf, hqc]
      obtain ⟨A', hsl⟩ := hsl
      clear hqf eo ho hrd
      go_wp2_with fail
      go_ret
      exact ⟨A', q, by rw [← HQF.out]; rfl, BW.out⟩
end Go.Proofs.YtcfkemchekmjbaaGreatDoor

namespace Go.Proofs.YtcfkemchekmjbaaGreatDoor
open Go.RowKit
def noEarly (ts : List Tx) (k : Nat) : Bool := (ts.take k).all (fun t => !(t.2.2 && earlyB t.2.1))
theorem noEarly_not {ts : List Tx} {k : Nat} {t : Tx} (h : ts[k]? = some t) (hd : t.2.2 = false) : noEarly ts (k + 1) = noEarly ts k := by
  unfold noEarly; rw [List.take_add_one, h, List.all_append]; simp [hd]
theorem noEarly_done {ts : List Tx} {k : Nat} {t : Tx} (h : ts[k]? = some t) (hd : t.2.2 = true) : noEarly ts (k + 1) = (noEarly ts k && !(earlyB t.2.1)) := by
  unfold noEarly; rw [List.take_add_one, h, List.all_append]; simp [hd]
theorem noEarly_all (ts : List Tx) : noEarly ts ts.length = ts.all (fun t => !(t.2.2 && earlyB t.2.1)) := by unfold noEarly; rw [List.take_length]
theorem noEarly_no {ts : List Tx} {d : Nat} {t : Tx} (h : ts[d]? = some t) (hd : t.2.2 = true) (he : earlyB t.2.1 = true) : ts.all (fun t => !(t.2.2 && earlyB t.2.1)) = false := by
  rw [List.all_eq_false]
  exact ⟨t, List.mem_of_getElem? h, by simp [hd, he]⟩
set_option maxRecDepth 100000 in
set_option maxHeartbeats 16000000 in
theorem impl_ReadsRight_c {A : Option Addr} {n c : Nat} {ts : List Tx} {w : World} (hr : RTs w A n ts) (hh : histB ts = true) :
    Calls Tryz.prog 111 #[.slice A n c] w fun e w' => e = .returned (.bool (rightB ts)) ∧ Below w.heap.size w w' := by
  obtain ⟨h6, hv, hnd⟩ := histB_parts hh
  have hl := hide hr.1
  have HH := hide hh; have HV := hide hv
  have hn6 : n ≤ 6 := by rw [← hl.out]; exact h6
  have hsm : SmallT ts := fun t ht => by have h : t.2.1.length ≤ 6 := txnB_lenH (hv t ht); omega
  have HF := hide (fun (k : Nat) (t : Tx) (h1 : ts[k]? = some t) (h2 : t.2.2 = false) => noEarly_not h1 h2)
  have hbad : ∀ k : Nat, 1 ≤ k → k ≤ 4 → badN ts (k : Int) ≠ 0 → rightB ts = false := fun k k1 k4 hb => by
    unfold rightB
    match k, k1, k4 with
    | 1, _, _ => have : badN ts 1 ≠ 0 := hb
                 simp [this]
    | 2, _, _ => have : badN ts 2 ≠ 0 := hb
                 simp [this]
    | 3, _, _ => have : badN ts 3 ≠ 0 := hb
                 simp [this]
    | 4, _, _ => have : badN ts 4 ≠ 0 := hb
                 simp [this]
  have HBAD := hide hbad
  clear hh hv hnd h6 hbad
  go_enter Tryz.func111, Tryz.ntmps111
  go_wp2_with fail
  refine (impl_HistoryValid_c hr (by omega) hsm).mono ?_
  rintro e w2 ⟨rfl, b2⟩
  rw [HH.out]
  go_wp2_with fail
  go_loopw [3] (fun i W => ∃ k : Nat, i = .int .i64 k ∧ 1 ≤ k ∧ k ≤ 5 ∧ (∀ q : Nat, 1 ≤ q → q < k → badN ts (q : Int) = 0) ∧ Below w.heap.size w W) (fun i _ => 5 - (intOf i).toNat)
  case atStart => exact ⟨1, rfl, by omega, by omega, fun q h1 h2 => by omega, b2⟩
  case round =>
    clear b2
    rename World => wr
    obtain ⟨k, rfl, hk1, hk5, hz, bw⟩ := hrel
    have HZ := hide hz; clear hz
    by_cases hlt : k < 5
    · have k4 : (k : Int) ≤ 4 := by omega
      go_wp2_with fail
      refine (impl_BadReads_c (hr.below bw) HH.out hk1 (by omega)).mono ?_
      rintro e w3 ⟨A3, c3, rfl, b3⟩
      have B3 := below_step bw b3
      by_cases h0 : badN ts (k : Int) = 0
      · have hz2 : ∀ q : Nat, 1 ≤ q → q < k + 1 → badN ts (q : Int) = 0 := fun q h1 h2 => by
          by_cases e : q = k
          · subst e; exact h0
          · exact HZ.out q h1 (by omega)
        have HZ2 := hide hz2
        have hng : ¬ (0 : Int) < ((badN ts (k : Int) : Nat) : Int) := by omega
        clear hz2 h0
        go_wp2_with fail
        go_roundw
        case rel => exact ⟨k + 1, by go_num, by omega, by omega, HZ2.out, B3⟩
        case measure => simp [intOf]; omega
      · have F := hide (HBAD.out k hk1 (by omega) h0)
        have hng : (0 : Int) < ((badN ts (k : Int) : Nat) : Int) := by omega
        clear h0
        go_wp2_with fail
        go_ret
        exact ⟨congrArg (fun q => Ending.returned (.bool q)) F.out.symm, B3⟩
    · obtain rfl : k = 5 := by omega
      have hrt : rightB ts = ts.all (fun t => !(t.2.2 && earlyB t.2.1)) := by
        have h1 : badN ts 1 = 0 := HZ.out 1 (by omega) (by omega)
        have h2 : badN ts 2 = 0 := HZ.out 2 (by omega) (by omega)
        have h3 : badN ts 3 = 0 := HZ.out 3 (by omega) (by omega)
        have h4 : badN ts 4 = 0 := HZ.out 4 (by omega) (by omega)
        unfold rightB
        rw [HH.out, h1, h2, h3, h4]; rfl
      have HRT := hide hrt
      clear hrt HZ
      have hrw := hr.below bw
      go_wp2_with fail
      refine (impl_done_c hrw (by omega)).mono ?_
      rintro e w3 ⟨dv, dk, rfl, od, b3⟩
      have B3 := below_step bw b3
      obtain ⟨Ad, cd, rfl⟩ := od.shape
      obtain ⟨Ad', cd', ed, hdc, hdm, hrd⟩ := od.si
      obtain ⟨rfl, rfl⟩ : Ad = Ad' ∧ cd = cd' := by simpa using ed
      have hdl := hide hrd.len
      have hz3 := B3.size
      clear ed od b3 hrw bw
      go_wp2_with fail
      go_loopw [21] (fun i W => ∃ (j k : Nat), i = .int .i64 j ∧ j ≤ dk ∧ k ≤ ts.length ∧ (doneTo ts k).length = j ∧ noEarly ts k = true ∧ Below w.heap.size w W ∧ Below w3.heap.size w3 W) (fun i _ => dk - (intOf i).toNat)
      case atStart => exact ⟨0, 0, rfl, Nat.zero_le _, Nat.zero_le _, rfl, rfl, B3, Below.refl _ _⟩
      case round =>
        clear B3
        rename World => wr2
        obtain ⟨j, k, rfl, hjd, hkl, hjk, hne, bw, bw3⟩ := hrel
        have HJK := hide hjk; have HNE := hide hne
        clear hjk hne
        by_cases hlt : j < dk
        · obtain ⟨b, off, x, rfl, hbb, hx, hc⟩ := hrd.at_ hlt
          obtain ⟨d, t, rfl, ht, htd, hd1, hd2⟩ := doneL_at hx
          have hcd := (bw3.cell (p := ⟨b, off + j, none⟩) hbb).trans hc
          have hdn : d < n := by have := (List.getElem?_eq_some_iff.1 ht).1; have := hl.out; omega
          have hned : noEarly ts d = true := by rw [← HNE.out]; exact (doneTo_same HF.out hkl (by have := hl.out; omega) (HJK.out.trans hd1.symm)).symm
          obtain ⟨bt, ot, f, ys, dn, B, kk, dd, rfl, hbt, hxt, q0, q1, q2, hkd, hdm2, hry⟩ := hr.at_ hdn
          obtain rfl : (f, ys, dn) = t := by rw [ht] at hxt; injection hxt with hxt; exact hxt.symm
          have hv1 := HV.out _ (List.mem_of_getElem? ht)
          have e0 := (bw.cell (p := ⟨bt, ot + d * 3, none⟩) hbt).trans q0
          have e1 := (bw.cell (p := ⟨bt, ot + d * 3 + 1, none⟩) hbt).trans q1
          have e2 := (bw.cell (p := ⟨bt, ot + d * 3 + 2, none⟩) hbt).trans q2
          have h6y : kk ≤ 6 := by have h1 := txnB_lenH hv1; have h2 := hry.len; omega
          have hdl2 : Hid (d + 1 ≤ ts.length) := hide (by have := hl.out; omega)
          have j0 : (0 : Int) ≤ j := by omega
          have j2 : (j : Int) < dk := by omega
          have d0 : (0 : Int) ≤ d := by omega
          have d2 : (d : Int) < n := by omega
          have s3 : S3 wr2 (.slice B kk dd) kk ys := (S3.of_args hkd (by omega) hry).below bw
          have HT := hide ht; have HTD := hide htd; have HD2 := hide hd2; have HND := hide hned
          clear hx hc q0 q1 q2 ht hxt htd hd1 hd2 hned hv1 hry
          go_wp2_with fail
          refine (early_c s3 h6y).mono ?_
          rintro e w5 ⟨rfl, b5⟩
          have B5 := below_step bw b5
          have B53 := below_step bw3 b5
          clear e0 e1 e2 hcd bw b5 bw3
          cases he : earlyB ys
          · have hn2 : noEarly ts (d + 1) = true := by rw [noEarly_done HT.out HTD.out, HND.out]; simp [he]
            have HN2 := hide hn2
            clear hn2 he
            go_wp2_with fail
            go_roundw
            case rel => exact ⟨j + 1, d + 1, by go_num, by omega, hdl2.out, HD2.out, HN2.out, B5, B53⟩
            case measure => simp [intOf]; omega
          · have hf : rightB ts = false := by rw [HRT.out]; exact noEarly_no HT.out HTD.out he
            have F := hide hf
            clear hf he
            go_wp2_with fail
            go_ret
            exact ⟨congrArg (fun q => Ending.returned (.bool q)) F.out.symm, B5⟩
        · obtain rfl : j = dk := by omega
          have hf : rightB ts = true := by
            rw [HRT.out, ← noEarly_all, ← HNE.out]
            exact (doneTo_same HF.out hkl (Nat.le_refl _) (by rw [HJK.out]; exact hdl.out.symm)).symm
          have F := hide hf
          clear hf
          go_wp2_with fail
          go_ret
          exact ⟨congrArg (fun q => Ending.returned (.bool q)) F.out.symm, bw⟩
theorem lastW_filter {ys : List T3} {key : Nat} (hk : key < 3) : (lastW ys).filter (fun o => decide (o.2.1 = (key : Int))) = (lastK ys (key : Int)).toList := by
  have h : ∀ (j : Int), ((lastK ys j).toList).filter (fun o => decide (o.2.1 = (key : Int))) = if j = (key : Int) then (lastK ys j).toList else [] := fun j => by
    cases hl : lastK ys j with
    | none => simp
    | some o =>
      have h2 := (lastK_some hl).2.2
      by_cases e : j = (key : Int)
      · rw [if_pos e]; simp [h2, e]
      · rw [if_neg e]; simp [h2, e]
  unfold lastW
  rw [List.filter_append, List.filter_append, h, h, h]
  match key, hk with
  | 0, _ => simp
  | 1, _ => simp
  | 2, _ => simp
def instP (ys : List T3) (key : Nat) (i : Nat) : List Int := (((lastW ys).take i).filter (fun o => decide (o.2.1 = (key : Int)))).map (·.2.2)
theorem instP_yes {ys : List T3} {key i : Nat} {x y z : Int} (h : (lastW ys)[i]? = some (x, y, z)) (hy : y = (key : Int)) : instP ys key (i + 1) = instP ys key i ++ [z] := by
  unfold instP; rw [List.take_add_one, h, List.filter_append, List.map_append]; simp [hy]
theorem instP_no {ys : List T3} {key i : Nat} {x y z : Int} (h : (lastW ys)[i]? = some (x, y, z)) (hy : y ≠ (key : Int)) : instP ys key (i + 1) = instP ys key i := by
  unfold instP; rw [List.take_add_one, h, List.filter_append, List.map_append]; simp [hy]
theorem instP_all {ys : List T3} {key i : Nat} (hk : key < 3) (hi : (lastW ys).length ≤ i) : instP ys key i = ((lastK ys (key : Int)).toList).map (·.2.2) := by
  unfold instP; rw [List.take_of_length_le hi, lastW_filter hk]
theorem instP_len (ys : List T3) (key i : Nat) : (instP ys key i).length ≤ i := by
  unfold instP; rw [List.length_map]
  exact Nat.le_trans (List.length_filter_le _ _) (List.length_take_le _ _)
set_option maxRecDepth 100000 in
set_option maxHeartbeats 16000000 in
theorem impl_Installed_c {A : Option Addr} {n c key : Nat} {ts : List Tx} {w : World} (hr : RTs w A n ts) (hh : histB ts = true) (hk : key < 3) :
    Calls Tryz.prog 108 #[.slice A n c, .int .i64 (key : Int)] w (RetI w (inst ts (key : Int))) := by
  obtain ⟨h6, hv, hnd⟩ := histB_parts hh
  have hl := hide hr.1
  have HH := hide hh; have HV := hide hv
  have hn6 : n ≤ 6 := by rw [← hl.out]; exact h6
  have hsm : SmallT ts := fun t ht => by have h : t.2.1.length ≤ 6 := txnB_lenH (hv t ht); omega
  have HF := hide (fun (k : Nat) (t : Tx) (h1 : ts[k]? = some t) (h2 : t.2.2 = false) => instTo_not (key := (key : Int)) h1 h2)
  have hmk := run_make_J0 n (by omega)
  have hi1 : inB (key : Int) 0 2 = true := (inB_iff _ _ _).2 (by omega)
  clear hh hv hnd h6
  go_enter Tryz.func108, Tryz.ntmps108
  go_wp2_with fail
  refine (impl_HistoryValid_c hr (by omega) hsm).mono ?_
  rintro e w2 ⟨rfl, b2⟩
  rw [HH.out]
  go_wp2_with fail
  refine (keyOk_c).mono ?_
  rintro e w2' ⟨rfl, rfl⟩
  rw [hi1]
  have o2 := (own_J0 w2 n (by omega)).mono (B' := w.heap.size) b2.size
  have B2 := b2.alloc b2.size (.cells (madeCells #[.int .i64 0] n) 3)
  have O2 := hide o2; have B2H := hide B2
  clear o2 B2
  go_wp2_with fail
  refine (impl_done_c (hr.below B2H.out) (by omega)).mono ?_
  rintro e w3 ⟨dv, dk, rfl, od, b3⟩
  have O3' := hide (O2.out.below b3); have B3 := hide (below_step B2H.out b3)
  have AP := hide (O2.out.apart od).symm
  have OD := hide (od.mono (B' := w.heap.size) B2H.out.size)
  obtain ⟨Ad, cd, rfl⟩ := od.shape
  clear od b3 hmk O2 B2H b2
  go_wp2_with fail
  go_loopw [5, 24] (fun v i W => ∃ (j q k : Nat), i = .int .i64 j ∧ j ≤ dk ∧ OI W w.heap.size v q (instTo ts (key : Int) k) ∧ OI W w.heap.size (.slice Ad dk cd) dk (doneL ts) ∧ Apart (.slice Ad dk cd) v ∧ k ≤ ts.length ∧ (doneTo ts k).length = j ∧ Below w.heap.size w W) (fun _ i _ => dk - (intOf i).toNat)
  case atStart => exact ⟨0, 0, 0, rfl, Nat.zero_le _, O3'.out, OD.out, AP.out, Nat.zero_le _, rfl, B3.out⟩
  case round =>
    clear O3' B3 OD AP
    rename World => wr
    obtain ⟨j, q, k, rfl, hjd, ho, od, hap, hkl, hjk, bw⟩ := hrel
    have HJK := hide hjk; have HO := hide ho; have BW := hide bw; have HOD := hide od; have HAP := hide hap
    have hq6 : q ≤ 6 := by have h1 := ho.len; have h2 := instTo_len ts (key : Int) k; have := hl.out; omega
    obtain ⟨Ad', cd', ed, hdc, hdm, hrd⟩ := od.si
    obtain ⟨rfl, rfl⟩ : Ad = Ad' ∧ cd = cd' := by simpa using ed
    have hdl := hide hrd.len
    clear hjk ed od hap
    obtain ⟨Ao, co, rfl⟩ := ho.shape
    by_cases hlt : j < dk
    · obtain ⟨b, off, x, rfl, hbb, hx, hcd⟩ := hrd.at_ hlt
      obtain ⟨d, t, rfl, ht, htd, hd1, hd2⟩ := doneL_at hx
      have hdn : d < n := by have := (List.getElem?_eq_some_iff.1 ht).1; have := hl.out; omega
      have hqd : instTo ts (key : Int) k = instTo ts (key : Int) d := doneTo_same HF.out hkl (by have := hl.out; omega) (HJK.out.trans hd1.symm)
      obtain ⟨bt, ot, f, ys, dn, B, kk, dd, rfl, hbt, hxt, q0, q1, q2, hkd, hdm2, hry⟩ := hr.at_ hdn
      obtain rfl : (f, ys, dn) = t := by rw [ht] at hxt; injection hxt with hxt; exact hxt.symm
      have hb1 : instTo ts (key : Int) (d + 1) = instTo ts (key : Int) d ++ ((lastK ys (key : Int)).toList).map (·.2.2) := instTo_done ht htd
      have hv1 := HV.out _ (List.mem_of_getElem? ht)
      have e0 := (bw.cell (p := ⟨bt, ot + d * 3, none⟩) hbt).trans q0
      have e1 := (bw.cell (p := ⟨bt, ot + d * 3 + 1, none⟩) hbt).trans q1
      have e2 := (bw.cell (p := ⟨bt, ot + d * 3 + 2, none⟩) hbt).trans q2
      have h6y : kk ≤ 6 := by have h1 := txnB_lenH hv1; have h2 := hry.len; omega
      have HB1 := hide hb1; have HQD := hide hqd; have HD2 := hide hd2; have HV1 := hide hv1
      have HDL : Hid (d + 1 ≤ ts.length) := hide (by have := hl.out; omega)
      have j0 : (0 : Int) ≤ j := by omega
      have j2 : (j : Int) < dk := by omega
      have d0 : (0 : Int) ≤ d := by omega
      have d2 : (d : Int) < n := by omega
      have s3 : S3 wr (.slice B kk dd) kk ys := (S3.of_args hkd (by omega) hry).below bw
      clear hx hb1 hqd hd1 hd2 hv1 q0 q1 q2 ht hxt htd hrd ho
      go_wp2_with fail
      refine (impl_lastWrites_c s3 HV1.out).mono ?_
      rintro e w5 ⟨lv, lk, rfl, ol, b5⟩
      have ho5 := hide (HO.out.below b5)
      have od5 := hide (HOD.out.below b5)
      have hap5 := hide (HAP.out)
      have B5 := hide (below_step BW.out b5)
      have ol5 := hide (ol.mono (B' := w.heap.size) BW.out.size)
      obtain ⟨Al, cl, rfl⟩ := ol.shape
      have hll := hide ol.len
      have hl3 : lk ≤ 3 := by have : (lastW ys).length ≤ 3 := (by rw [← lastTo_three]; exact lastTo_len ys 3); have := ol.len; omega
      clear e0 e1 e2 hcd b5 HO HOD HAP BW s3 ol
      go_wp2_with fail
      go_loopw [5, 34] (fun v i W => ∃ (i' q' : Nat), i = .int .i64 i' ∧ i' ≤ lk ∧ OI W w.heap.size v q' (instTo ts (key : Int) k ++ instP ys key i') ∧ OI W w.heap.size (.slice (some ⟨b, off, none⟩) dk cd) dk (doneL ts) ∧ Apart (.slice (some ⟨b, off, none⟩) dk cd) v ∧ O3 61 W w.heap.size (.slice Al lk cl) lk (lastW ys) ∧ Below w.heap.size w W) (fun _ i _ => lk - (intOf i).toNat)
      case atStart => exact ⟨0, q, rfl, Nat.zero_le _, by simpa [instP] using ho5.out, od5.out, hap5.out, ol5.out, B5.out⟩
      case round =>
        clear ho5 od5 hap5 ol5 B5
        rename World => wr2
        obtain ⟨i', q', rfl, hik, ho, od, hap, hol, bw⟩ := hrel
        have HOL := hide hol; have HOD := hide od; have HAP := hide hap
        have hq9 : q' ≤ 9 := by have h1 := ho.len; rw [List.length_append] at h1; have h2 := instTo_len ts (key : Int) k; have h3 := instP_len ys key i'; have := hl.out; omega
        obtain ⟨Ao2, co2, rfl⟩ := ho.shape
        by_cases hil : i' < lk
        · obtain ⟨Al', cl', el, hlc, hlm, hrl⟩ := hol.s3
          obtain ⟨rfl, rfl⟩ : Al = Al' ∧ cl = cl' := by simpa using el
          obtain ⟨b2, off2, x, y, z, rfl, hbb2, hx, p0, p1, p2⟩ := hrl.at_ hil
          have HX := hide hx
          have k0 : (0 : Int) ≤ i' := by omega
          have k2 : (i' : Int) < lk := by omega
          have ho6 := hide (ho.alloc (.cells #[.int .i64 x, .int .i64 y, .int .i64 z] 61))
          have od6 := hide (HOD.out.alloc (.cells #[.int .i64 x, .int .i64 y, .int .i64 z] 61))
          have ol6 := hide (HOL.out.alloc (.cells #[.int .i64 x, .int .i64 y, .int .i64 z] 61))
          have B6 := hide (bw.alloc bw.size (.cells #[.int .i64 x, .int .i64 y, .int .i64 z] 61))
          clear hx el hrl hol ho od hap bw
          by_cases hy : y = (key : Int)
          · have hyb : (y == (key : Int)) = true := by simpa using hy
            have HY := hide (instP_yes HX.out hy)
            have ho7 := ho6.out.alloc (.cells #[.int .i64 z] 3)
            have od7 := od6.out.alloc (.cells #[.int .i64 z] 3)
            have ol7 := ol6.out.alloc (.cells #[.int .i64 z] 3)
            have B7 := B6.out.alloc B6.out.size (.cells #[.int .i64 z] 3)
            have s7 := SI.one (wr2.alloc (.cells #[.int .i64 x, .int .i64 y, .int .i64 z] 61)) z 1 (Nat.le_refl _)
            simp only [World.size_alloc] at s7
            have hz7 := B6.out.size
            have hzo := (World.ownsRow.lt ho7.1)
            have hne7 := own_ne2 ol7.1 ho7.1 (by decide)
            clear hy
            go_wp2_with (at_builtin; refine wpList_appI rfl _ _ rfl rfl ho7 rfl s7 (by omega) (by simp at hz7 ⊢; omega) ?_; intro v8 w8 o8 hg8 hat8)
            have od8 := od7.grown hg8 HAP.out
            have ol8 := ol7.grown hg8 hne7
            have hap8 : Apart (.slice (some ⟨b, off, none⟩) dk cd) v8 := by
              rcases hat8 with e | e
              · unfold Apart; rw [e]; exact HAP.out
              · right; rw [e]; intro e2
                have := (World.ownsRow.lt od7.1 _ e2).2; omega
            go_roundw
            case rel => exact ⟨i' + 1, q' + 1, by go_num, by omega, by rw [HY.out, ← List.append_assoc]; exact o8, od8, hap8, ol8, below_app B7 ho7 (Nat.le_refl _) hg8⟩
            case measure => simp [intOf]; omega
          · have hyb : (y == (key : Int)) = false := by simpa using hy
            have HY := hide (instP_no HX.out hy)
            clear hy
            go_wp2_with fail
            go_roundw
            case rel => exact ⟨i' + 1, q', by go_num, by omega, by rw [HY.out]; exact ho6.out, od6.out, HAP.out, ol6.out, B6.out⟩
            case measure => simp [intOf]; omega
        · obtain rfl : i' = lk := by omega
          have BW := hide bw; have HO := hide ho
          have hfin : instTo ts (key : Int) (d + 1) = instTo ts (key : Int) k ++ instP ys key i' := by rw [HB1.out, HQD.out, instP_all hk (by rw [hll.out]; exact Nat.le_refl _)]
          have HFI := hide hfin
          clear bw ho od hap hol hfin
          go_wp2_with fail
          go_roundw
          case rel => exact ⟨j + 1, q', d + 1, by go_num, by omega, by rw [HFI.out]; exact HO.out, HOD.out, HAP.out, HDL.out, HD2.out, BW.out⟩
          case measure => simp [intOf]; omega
    · obtain rfl : j = dk := by omega
      have hf : instTo ts (key : Int) k = inst ts (key : Int) := doneTo_same HF.out hkl (Nat.le_refl _) (by rw [HJK.out]; exact hdl.out.symm)
      have HFF := hide hf
      clear hf ho hrd bw
      go_wp2_with fail
      go_ret
      exact ⟨_, q, rfl, by rw [← HFF.out]; exact HO.out, BW.out⟩
end Go.Proofs.YtcfkemchekmjbaaGreatDoor
