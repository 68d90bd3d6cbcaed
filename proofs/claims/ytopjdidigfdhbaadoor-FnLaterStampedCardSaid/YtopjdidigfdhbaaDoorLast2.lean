/- LastStamped: the reference's. -/
import Derived.Test.YtopjdidigfdhbaaDoorLast
import Derived.Deep.DeepCutAuto
namespace Go.Proofs.YtopjdidigfdhbaaDoor
open Go.RowKit

theorem lsV_valid {a b c x y z : Int} (h1 : stampB a b c = true) (h2 : stampB x y z = true) : lsV a b c x y z = vT3 (later3 (a, b, c) (x, y, z)) := by
  unfold lsV; rw [h1, h2]; exact later3_val a b c x y z
theorem fold_st : ∀ (ts : List T3) (a : T3), ts.all st3 = true → st3 a = true → st3 (ts.foldl later3 a) = true := by
  intro ts
  induction ts with
  | nil => intro a _ h; exact h
  | cons b ts ih => intro a h ha; simp at h; exact ih _ (by simpa using h.2) (st_later ha h.1)
theorem all_take {ts : List T3} (h : ts.all st3 = true) (k : Nat) : (ts.take k).all st3 = true := by
  rw [List.all_eq_true] at h ⊢; intro x hx; exact h x (List.mem_of_mem_take hx)

set_option maxHeartbeats 8000000 in
theorem spec_LastStamped_c {v : Value} {n : Nat} {ts : List T3} {w : World} (hs : S3 w v n ts) :
    Calls Tryd.prog 16 #[v] w fun e w' => e = .returned (.tuple #[vT3 (lastR ts), .bool (lastOk ts)]) ∧ Below w.heap.size w w' := by
  obtain ⟨A, c, rfl, hnc, hn, hr⟩ := hs
  have hl := hide hr.len
  have B0 : Below w.heap.size w (w.alloc (.cells #[.int .i64 0, .int .i64 0, .int .i64 0] 24)) := (Below.refl _ _).alloc (Nat.le_refl _) _
  have K0 := Blk.new w 24 #[.int .i64 0, .int .i64 0, .int .i64 0]
  go_enter Tryd.func16, Tryd.ntmps16
  go_wp2_with fail
  go_loopw [4] (fun i wr => ∃ (k : Nat), k ≤ n ∧ i = .int .i64 k ∧ (ts.take k).all st3 = true ∧ Blk wr w.heap.size 24 #[.int .i64 0, .int .i64 0, .int .i64 0] ∧ Below w.heap.size w wr) (fun i _ => n - (intOf i).toNat)
  case atStart => exact ⟨0, Nat.zero_le _, rfl, by simp, K0, B0⟩
  case round =>
    obtain ⟨k, hk, rfl, hall, KR, hbel⟩ := hrel
    have Hall := hide hall; clear hall
    by_cases hlt : k < n
    · obtain ⟨b, off, x, y, z, rfl, hbk, hx, q0, q1, q2⟩ := hr.at_ hlt
      have Hx := hide hx; clear hx
      have a0 := (hbel.cell (p := ⟨b, off + k * 3, none⟩) hbk).trans q0
      have a1 := (hbel.cell (p := ⟨b, off + k * 3 + 1, none⟩) hbk).trans q1
      have a2 := (hbel.cell (p := ⟨b, off + k * 3 + 2, none⟩) hbk).trans q2
      clear q0 q1 q2
      go_wp2_with fail
      refine (spec_StampedValid_c).mono ?_
      rintro e w2 ⟨rfl, b2⟩
      have B2 := below_step hbel b2
      have KR2 := KR.belowAll b2
      obtain ⟨⟨cr0, cr1, cr2⟩, fr0, fr1, fr2⟩ := KR2.three
      cases hv : stampB x y z
      · have hf := lastOk_bad Hx.out (show st3 (x, y, z) = false from hv)
        have hf2 : lastR ts = (0, 0, 0) := by simp [lastR, hf]
        have F := hide hf; have F2 := hide hf2; clear hf hf2 hv
        go_wp2_with fail
        have t0 := (((KR2.set_ 0 (.int .i64 0)).set_ 1 (.int .i64 0)).set_ 2 (.int .i64 0)).three
        obtain ⟨⟨t0, t1, t2⟩, _⟩ := t0
        exact bodyPost_ret (v := .tuple #[.agg #[.int .i64 0, .int .i64 0, .int .i64 0], .bool false]) (by simp [results, Tryd.results16, go_sem, t0, t1, t2]) rfl ⟨by rw [F.out, F2.out]; rfl, ((B2.setCell (p := ⟨w.heap.size, 0, none⟩) (Nat.le_refl _) _).setCell (p := ⟨w.heap.size, 1, none⟩) (Nat.le_refl _) _).setCell (p := ⟨w.heap.size, 2, none⟩) (Nat.le_refl _) _⟩
      · have Hv := hide hv; clear hv cr0 cr1 cr2 fr0 fr1 fr2 a0 a1 a2
        go_wp2_with fail
        go_roundw
        case rel => exact ⟨k + 1, by omega, by go_num, all_snocT Hall.out Hx.out Hv.out, KR2, B2⟩
        case measure => simp [intOf]; omega
    · obtain rfl : k = n := by omega
      have hats : ts.all st3 = true := by have h2 := Hall.out; rw [List.take_of_length_le (by rw [hl.out]; omega)] at h2; exact h2
      have Hats := hide hats; clear hats hlt hk Hall
      obtain ⟨⟨cr0, cr1, cr2⟩, fr0, fr1, fr2⟩ := KR.three
      cases h1 : inB k 1 20
      · have hf : lastOk ts = false := by unfold lastOk; rw [hl.out, h1]; simp
        have hf2 : lastR ts = (0, 0, 0) := by simp [lastR, hf]
        have F := hide hf; have F2 := hide hf2; have H1 := hide h1; clear hf hf2 h1
        go_wp2_with (go_at_call 46; refine (l1In_c).mono ?_; rintro e w' ⟨rfl, rfl⟩; rw [H1.out])
        have t0 := (((KR.set_ 0 (.int .i64 0)).set_ 1 (.int .i64 0)).set_ 2 (.int .i64 0)).three
        obtain ⟨⟨t0, t1, t2⟩, _⟩ := t0
        exact bodyPost_ret (v := .tuple #[.agg #[.int .i64 0, .int .i64 0, .int .i64 0], .bool false]) (by simp [results, Tryd.results16, go_sem, t0, t1, t2]) rfl ⟨by rw [F.out, F2.out]; rfl, ((hbel.setCell (p := ⟨w.heap.size, 0, none⟩) (Nat.le_refl _) _).setCell (p := ⟨w.heap.size, 1, none⟩) (Nat.le_refl _) _).setCell (p := ⟨w.heap.size, 2, none⟩) (Nat.le_refl _) _⟩
      · have hh := (inB_iff _ _ _).1 h1
        have hn0 : 0 < k := by omega
        have hn20 : k ≤ 20 := by omega
        have hl1 : inB ts.length 1 20 = true := by rw [hl.out]; exact h1
        obtain ⟨b0, off0, x0, y0, z0, rfl, hb0, hx0, p0, p1, p2⟩ := hr.at_ hn0
        rw [Nat.zero_mul, Nat.add_zero] at p0 p1 p2
        have HL := hide hl1; have Hx0 := hide hx0; have H1 := hide h1; clear h1 hx0 hl1 hh
        have a0 := (hbel.cell (p := ⟨b0, off0, none⟩) hb0).trans p0
        have a1 := (hbel.cell (p := ⟨b0, off0 + 1, none⟩) hb0).trans p1
        have a2 := (hbel.cell (p := ⟨b0, off0 + 2, none⟩) hb0).trans p2
        obtain ⟨wo, rfl⟩ : ∃ wo : World, wo = wr := ⟨_, rfl⟩
        clear cr0 cr1 cr2 fr0 fr1 fr2
        have hf : lastOk ts = true := by simp [lastOk, Hats.out, HL.out]
        have F := hide hf; clear hf
        have s0 : st3 (x0, y0, z0) = true := List.all_eq_true.1 Hats.out _ (List.mem_of_getElem? Hx0.out)
        have S0 := hide s0; clear s0
        go_wp2_with (go_at_call 46; refine (l1In_c).mono ?_; rintro e w' ⟨rfl, rfl⟩; rw [H1.out])
        have hw := KR.lt
        have hz0 := hbel.size
        have f1 : (ts.take 1).foldl later3 (x0, y0, z0) = (x0, y0, z0) := by
          rw [show (1 : Nat) = 0 + 1 from rfl, fold_snoc Hx0.out]; simp [later3_self]
        go_loopw [6] (fun i wr => ∃ (j : Nat) (l0 l1 l2 : Int), 1 ≤ j ∧ j ≤ k ∧ i = .int .i64 j ∧ (ts.take j).foldl later3 (x0, y0, z0) = (l0, l1, l2) ∧ Blk wr w.heap.size 24 #[.int .i64 0, .int .i64 0, .int .i64 0] ∧ Blk wr wo.heap.size 24 #[.int .i64 l0, .int .i64 l1, .int .i64 l2] ∧ Below w.heap.size w wr) (fun i _ => k - (intOf i).toNat)
        case atStart => exact ⟨1, x0, y0, z0, Nat.le_refl _, by omega, rfl, f1, KR.alloc _, Blk.new _ _ _, hbel.alloc hz0 _⟩
        case round =>
          obtain ⟨j, l0, l1, l2, hj1, hj, rfl, hacc, KR, KL, hbel⟩ := hrel
          have Hacc := hide hacc; clear hacc f1
          by_cases hlt : j < k
          · obtain ⟨b, off, x, y, z, e0, hbk, hx, q0, q1, q2⟩ := hr.at_ hlt
            injection e0 with e0; injection e0 with e1 e2 _; subst e1; subst e2
            have Hx := hide hx; clear hx
            have a0 := (hbel.cell (p := ⟨b0, off0 + j * 3, none⟩) hb0).trans q0
            have a1 := (hbel.cell (p := ⟨b0, off0 + j * 3 + 1, none⟩) hb0).trans q1
            have a2 := (hbel.cell (p := ⟨b0, off0 + j * 3 + 2, none⟩) hb0).trans q2
            clear q0 q1 q2
            have sl : st3 (l0, l1, l2) = true := by rw [← Hacc.out]; exact fold_st _ _ (all_take Hats.out j) S0.out
            have se : st3 (x, y, z) = true := List.all_eq_true.1 Hats.out _ (List.mem_of_getElem? Hx.out)
            have hp := lsV_valid sl se
            obtain ⟨m0, m1, m2, hm⟩ : ∃ m0 m1 m2, later3 (l0, l1, l2) (x, y, z) = (m0, m1, m2) := ⟨_, _, _, rfl⟩
            rw [hm] at hp
            have Hm := hide hm; have Hp := hide hp; clear hm hp sl se
            obtain ⟨⟨cl0, cl1, cl2⟩, _⟩ := KL.three
            have k0 : (0 : Int) ≤ j := by omega
            have k1 : (j : Int) < k := by omega
            go_wp2_with fail
            go_region_with (go_at_call 11; refine (spec_LaterStamped_c).mono ?_; rintro e yy ⟨rfl, byy⟩; rw [Hp.out]; unfold vT3; have KLy := KL.drew.belowAll byy; obtain ⟨⟨dl0, dl1, dl2⟩, gl0, gl1, gl2⟩ := KLy.three)
            all_goals
              go_wp2_with fail
              have B2 := below_step hbel (below_of_drew byy)
              go_roundw
              case rel =>
                refine ⟨j + 1, m0, m1, m2, by omega, by omega, by go_num, by rw [fold_snoc Hx.out, Hacc.out, Hm.out], ?_, ((KLy.set_ 0 _).set_ 1 _).set_ 2 _, ((B2.setCell (p := ⟨wo.heap.size, 0, none⟩) hz0 _).setCell (p := ⟨wo.heap.size, 1, none⟩) hz0 _).setCell (p := ⟨wo.heap.size, 2, none⟩) hz0 _⟩
                exact (((KR.drew.belowAll byy).far (p := ⟨wo.heap.size, 0, none⟩) (by simp; omega) _).far (p := ⟨wo.heap.size, 1, none⟩) (by simp; omega) _).far (p := ⟨wo.heap.size, 2, none⟩) (by simp; omega) _
              case measure => simp [intOf]; omega
          · obtain rfl : j = k := by omega
            obtain ⟨⟨cr0, cr1, cr2⟩, fr0, fr1, fr2⟩ := KR.three
            obtain ⟨⟨cl0, cl1, cl2⟩, _⟩ := KL.three
            have ht : ts.take j = ts := List.take_of_length_le (by rw [hl.out]; omega)
            have hf2 : lastR ts = (l0, l1, l2) := by have h2 := Hacc.out; rw [ht] at h2; simp [lastR, F.out, lastT_eq Hx0.out, h2]
            have F2 := hide hf2; clear hf2 ht
            go_wp2_with fail
            have t0 := (((KR.set_ 0 (.int .i64 l0)).set_ 1 (.int .i64 l1)).set_ 2 (.int .i64 l2)).three
            obtain ⟨⟨t0, t1, t2⟩, _⟩ := t0
            exact bodyPost_ret (v := .tuple #[.agg #[.int .i64 l0, .int .i64 l1, .int .i64 l2], .bool true]) (by simp [results, Tryd.results16, go_sem, t0, t1, t2]) rfl ⟨by rw [F.out, F2.out]; rfl, ((hbel.setCell (p := ⟨w.heap.size, 0, none⟩) (Nat.le_refl _) _).setCell (p := ⟨w.heap.size, 1, none⟩) (Nat.le_refl _) _).setCell (p := ⟨w.heap.size, 2, none⟩) (Nat.le_refl _) _⟩

end Go.Proofs.YtopjdidigfdhbaaDoor
