/- Merged (what the law reaches): Far4, Lal. -/
import Derived.Test.YtcfkemchekmjbaaGreatDoorVzg
import Derived.Deep.RegionHeld3
namespace Go.Proofs.YtcfkemchekmjbaaGreatDoor
open Go.RowKit
theorem edgesB_in {many : Nat} {es : List T3} (h : edgesB (many : Int) es = true) : many ≤ 6 ∧ InR many es ∧ ∀ e ∈ es, e.1 ≠ e.2.1 := by
  unfold edgesB at h
  simp only [Bool.and_eq_true, List.all_eq_true, inB_iff, decide_eq_true_eq] at h
  have hall : ∀ e ∈ es, edgeB ((many : Int) - 1) e = true := by
    exact h.2.2
  refine ⟨by omega, fun e he => ?_, fun e he => ?_⟩
  · have := hall e he
    unfold edgeB at this
    simp only [Bool.and_eq_true, inB_iff] at this
    omega
  · have := hall e he
    unfold edgeB at this
    simp only [Bool.and_eq_true, inB_iff, Bool.not_eq_true', beq_eq_false_iff_ne] at this
    exact this.2.2.1
theorem edgesB_upto {many : Nat} {es : List T3} (h : edgesB (many : Int) es = true) (k : Int) : edgesB (many : Int) (upto es k) = true := by
  have hl : (upto es k).length ≤ es.length := List.length_filter_le _ _
  unfold edgesB at *
  simp only [Bool.and_eq_true, List.all_eq_true, inB_iff, decide_eq_true_eq] at *
  have sub : ∀ e ∈ upto es k, e ∈ es := fun e he => (List.mem_filter.1 he).1
  exact ⟨h.1, by omega, fun e he => h.2.2 e (sub e he)⟩
/-- One of these edges closes a way. -/
def singE (many : Nat) (es : List T3) (e : T3) : Bool := decide (e.2.2 = 3) && decide (0 ≤ (farL many (upto es 2) e.1.toNat).getD e.2.1.toNat (-1))
theorem singB_eq (many : Nat) (es : List T3) : singB many es = es.any (singE many es) := rfl
set_option maxRecDepth 100000 in
set_option maxHeartbeats 8000000 in
theorem spec_HasAnomaly_c {many n k : Nat} {v : Value} {es : List T3} {w : World} (hs : S3 w v n es) (hE : edgesB (many : Int) es = true) (h1 : 1 ≤ k) (h4 : k ≤ 4) :
    Calls Tryz.prog 196 #[.int .i64 (many : Int), v, .int .i64 (k : Int)] w fun e w' => e = .returned (.bool (anomB es k)) ∧ Below w.heap.size w w' := by
  have sv := hs
  obtain ⟨hm, hR, hne⟩ := edgesB_in hE
  obtain ⟨e1, e2, e3, e4⟩ := anomB_spec hR hne
  have hu : ∀ q, edgesB (many : Int) (upto es q) = true := edgesB_upto hE
  have hru : ∀ q, InR many (upto es q) := upto_in hR
  have V := hide hE; have HU := hide hu; have HRU := hide hru; have HR := hide hR
  obtain ⟨A, c, rfl, hnc, hn, hr⟩ := hs
  have hl := hide hr.len
  clear hE hu hru hR hne
  have hcase : k = 1 ∨ k = 2 ∨ k = 4 ∨ k = 3 := by omega
  rcases hcase with rfl | rfl | rfl | hk
  · have F := hide e1; clear e1 e2 e3 e4
    go_enter Tryz.func196, Tryz.ntmps196
    go_wp2_with fail
    refine (spec_EdgesValid_c sv).mono ?_
    rintro e w2 ⟨rfl, b2⟩
    rw [V.out]
    go_wp2_with fail
    refine (l10Upto_c (sv.below b2)).mono ?_
    rintro e w3 ⟨r3, rfl, o3, b3⟩
    go_wp2_with fail
    refine (CycleOf_c o3.s3 hm (HRU.out _) (HU.out _)).mono ?_
    rintro e w4 ⟨A4, k4, c4, rfl, hd, b4⟩
    have B4 := below_step (below_step b2 b3) b4
    go_wp2_with fail
    go_ret
    exact ⟨by rw [F.out, ← hd]; rfl, B4⟩
  · have F := hide e2; clear e1 e2 e3 e4
    go_enter Tryz.func196, Tryz.ntmps196
    go_wp2_with fail
    refine (spec_EdgesValid_c sv).mono ?_
    rintro e w2 ⟨rfl, b2⟩
    rw [V.out]
    go_wp2_with fail
    refine (l10Upto_c (sv.below b2)).mono ?_
    rintro e w3 ⟨r3, rfl, o3, b3⟩
    go_wp2_with fail
    refine (CycleOf_c o3.s3 hm (HRU.out _) (HU.out _)).mono ?_
    rintro e w4 ⟨A4, k4, c4, rfl, hd, b4⟩
    have B4 := below_step (below_step b2 b3) b4
    go_wp2_with fail
    go_ret
    exact ⟨by rw [F.out, ← hd]; rfl, B4⟩
  · have F := hide e4; clear e1 e2 e3 e4
    go_enter Tryz.func196, Tryz.ntmps196
    go_wp2_with fail
    refine (spec_EdgesValid_c sv).mono ?_
    rintro e w2 ⟨rfl, b2⟩
    rw [V.out]
    go_wp2_with fail
    refine (l10Upto_c (sv.below b2)).mono ?_
    rintro e w3 ⟨r3, rfl, o3, b3⟩
    go_wp2_with fail
    refine (CycleOf_c o3.s3 hm (HRU.out _) (HU.out _)).mono ?_
    rintro e w4 ⟨A4, k4, c4, rfl, hd, b4⟩
    have B4 := below_step (below_step b2 b3) b4
    go_wp2_with fail
    go_ret
    exact ⟨by rw [F.out, ← hd]; rfl, B4⟩
  · have hF : anomB es k = singB many es := by rw [hk]; exact e3
    have F := hide hF
    have k1 : ((k : Int) == 1) = false := by subst hk; rfl
    have k2 : ((k : Int) == 2) = false := by subst hk; rfl
    have k4 : ((k : Int) == 4) = false := by subst hk; rfl
    have k3 : ((k : Int) == 3) = true := by subst hk; rfl
    clear e1 e2 e3 e4 hF hk h1 h4
    go_enter Tryz.func196, Tryz.ntmps196
    go_wp2_with fail
    refine (spec_EdgesValid_c sv).mono ?_
    rintro e w2 ⟨rfl, b2⟩
    rw [V.out]
    go_wp2_with fail
    refine (l10Upto_c (sv.below b2)).mono ?_
    rintro e w3 ⟨r3, rfl, o3, b3⟩
    have B3 := hide (below_step b2 b3)
    have s3 := hide o3.s3
    obtain ⟨A3, c3, rfl⟩ := o3.shape
    generalize hn3 : (upto es 2).length = n3 at s3
    clear o3 b2 b3 hn3
    go_wp2_with fail
    go_loopw [8] (fun i W => ∃ j : Nat, i = .int .i64 j ∧ j ≤ n ∧ (es.take j).any (singE many es) = false ∧ Below w.heap.size w W ∧ S3 W (.slice A3 n3 c3) n3 (upto es 2)) (fun i _ => n - (intOf i).toNat)
    case atStart => exact ⟨0, rfl, Nat.zero_le _, rfl, B3.out, s3.out⟩
    case round =>
      clear B3 s3
      obtain ⟨j, rfl, hj, hno, bw, s3⟩ := hrel
      rename World => wr
      have HNO := hide hno; have BW := hide bw; have S3' := hide s3
      clear hno
      by_cases hjn : j < n
      · obtain ⟨b, off, x, y, z, rfl, hbk, hx, p0, p1, p2⟩ := hr.at_ hjn
        have hin := HR.out _ (List.mem_of_getElem? hx)
        dsimp only at hin
        obtain ⟨x, rfl⟩ : ∃ q : Nat, x = q := ⟨x.toNat, by omega⟩
        obtain ⟨y, rfl⟩ : ∃ q : Nat, y = q := ⟨y.toNat, by omega⟩
        have hxk : x < many := by omega
        have hyk : y < many := by omega
        have a0 := (bw.cell (p := ⟨b, off + j * 3, none⟩) hbk).trans p0
        have a1 := (bw.cell (p := ⟨b, off + j * 3 + 1, none⟩) hbk).trans p1
        have a2 := (bw.cell (p := ⟨b, off + j * 3 + 2, none⟩) hbk).trans p2
        have hat : (es.take (j + 1)).any (singE many es) = ((es.take j).any (singE many es) || singE many es ((x : Int), (y : Int), z)) := any_take hx
        have HX := hide hx; have HA := hide hat
        have j2 : (j : Int) < n := by omega
        have y2 : (y : Int) < many := by omega
        have hbw := Nat.lt_of_lt_of_le hbk bw.size
        clear p0 p1 p2 hx hin hat s3 hbk
        by_cases hz : z = 3
        · subst hz
          have BZ : Below wr.heap.size wr wr.drew := (Below.refl _ _).drew
          have hcl : ∀ W, Below wr.heap.size wr W → (W.cell? ⟨b, off + j * 3, none⟩ = some (.int .i64 x) ∧ W.cell? ⟨b, off + j * 3 + 1, none⟩ = some (.int .i64 y) ∧ W.cell? ⟨b, off + j * 3 + 2, none⟩ = some (.int .i64 3)) := fun W hW => ⟨(hW.cell (p := ⟨b, off + j * 3, none⟩) hbw).trans a0, (hW.cell (p := ⟨b, off + j * 3 + 1, none⟩) hbw).trans a1, (hW.cell (p := ⟨b, off + j * 3 + 2, none⟩) hbw).trans a2⟩
          obtain ⟨f, hf⟩ : ∃ f, (farL many (upto es 2) x)[y]? = some f := ⟨_, List.getElem?_eq_getElem (by rw [farL_len]; exact hyk)⟩
          have hsg : singE many es ((x : Int), (y : Int), 3) = decide (0 ≤ f) := by
            unfold singE
            simp only [Int.toNat_natCast, List.getD_eq_getElem?_getD, hf, Option.getD_some, decide_true, Bool.true_and]
          have HF := hide hf; have HSG := hide hsg; clear hf hsg
          go_wp2_with fail
          refine wp_region_held_drew (S := (fun W => W.cell? ⟨b, off + j * 3, none⟩ = some (.int .i64 x) ∧ W.cell? ⟨b, off + j * 3 + 1, none⟩ = some (.int .i64 y) ∧ W.cell? ⟨b, off + j * 3 + 2, none⟩ = some (.int .i64 3))) (by kernel_rfl) ?_ (fun hHeld => ?_)
          · exact hcl _ BZ
          refine wpAnyH_take (i := 0) (v := ?vv1_0) (by rw [List.getElem?_toArray]; exact rfl) (by kernel_rfl) (by kernel_rfl) (by kernel_rfl) (by intro _ _ _ h; exact h) (Or.inl ⟨by rfl, ?hy1_0⟩) hHeld ?rest1_0
          case' hy1_0 => (intro w hSw; (try dsimp only at hSw); go_simp; try (with_reducible rfl))
          (try simp only [Act.put, List.setIfInBounds_toArray, List.set_cons_zero, List.set_cons_succ])
          refine wpAnyH_take (i := 1) (v := ?vv1_1) (by rw [List.getElem?_toArray]; exact rfl) (by kernel_rfl) (by kernel_rfl) (by kernel_rfl) (by intro _ _ _ h; exact h) (Or.inl ⟨by rfl, ?hy1_1⟩) hHeld ?rest1_1
          case' hy1_1 => (intro w hSw; (try dsimp only at hSw); go_simp; try (with_reducible rfl))
          (try simp only [Act.put, List.setIfInBounds_toArray, List.set_cons_zero, List.set_cons_succ])
          refine wpAnyH_take (i := 2) (v := ?vv1_2) (by rw [List.getElem?_toArray]; exact rfl) (by kernel_rfl) (by kernel_rfl) (by kernel_rfl) (by intro _ _ _ h; exact h) (Or.inl ⟨by rfl, ?hy1_2⟩) hHeld ?rest1_2
          case' hy1_2 => (intro w hSw; (try dsimp only at hSw); go_simp; try (with_reducible rfl))
          (try simp only [Act.put, List.setIfInBounds_toArray, List.set_cons_zero, List.set_cons_succ])
          refine wpAnyH_take (i := 3) (v := ?vv1_3) (by rw [List.getElem?_toArray]; exact rfl) (by kernel_rfl) (by kernel_rfl) (by kernel_rfl) (by intro _ _ _ h; exact h) (Or.inl ⟨by rfl, ?hy1_3⟩) hHeld ?rest1_3
          case' hy1_3 => (intro w hSw; (try dsimp only at hSw); go_simp; try (with_reducible rfl))
          (try simp only [Act.put, List.setIfInBounds_toArray, List.set_cons_zero, List.set_cons_succ])
          refine wpAnyH_take (i := 4) (v := ?vv1_4) (by rw [List.getElem?_toArray]; exact rfl) (by kernel_rfl) (by kernel_rfl) (by kernel_rfl) (by intro _ _ _ h; exact h) (Or.inl ⟨by rfl, ?hy1_4⟩) hHeld ?rest1_4
          case' hy1_4 => (intro w hSw; (try dsimp only at hSw); go_simp; try (with_reducible rfl))
          (try simp only [Act.put, List.setIfInBounds_toArray, List.set_cons_zero, List.set_cons_succ])
          refine wpAnyH_take (i := 5) (v := ?vv1_5) (by rw [List.getElem?_toArray]; exact rfl) (by kernel_rfl) (by kernel_rfl) (by kernel_rfl) (by intro _ _ _ h; exact h) (Or.inl ⟨by rfl, ?hy1_5⟩) hHeld ?rest1_5
          case' hy1_5 => (intro w hSw; (try dsimp only at hSw); go_simp; try (with_reducible rfl))
          (try simp only [Act.put, List.setIfInBounds_toArray, List.set_cons_zero, List.set_cons_succ])
          refine wpAnyH_take (i := 6) (v := ?vv1_6) (by rw [List.getElem?_toArray]; exact rfl) (by kernel_rfl) (by kernel_rfl) (by kernel_rfl) (by intro _ _ _ h; exact h) (Or.inl ⟨by rfl, ?hy1_6⟩) hHeld ?rest1_6
          case' hy1_6 => (intro w hSw; (try dsimp only at hSw); go_simp; try (with_reducible rfl))
          (try simp only [Act.put, List.setIfInBounds_toArray, List.set_cons_zero, List.set_cons_succ])
          refine wpAnyH_take (i := 7) (v := ?vv1_7) (by rw [List.getElem?_toArray]; exact rfl) (by kernel_rfl) (by kernel_rfl) (by kernel_rfl) (by intro _ _ _ h; exact h) (Or.inl ⟨by rfl, ?hy1_7⟩) hHeld ?rest1_7
          case' hy1_7 => (intro w hSw; (try dsimp only at hSw); go_simp; try (with_reducible rfl))
          (try simp only [Act.put, List.setIfInBounds_toArray, List.set_cons_zero, List.set_cons_succ])
          refine wpAnyH_take (i := 8) (v := ?vv1_8) (by rw [List.getElem?_toArray]; exact rfl) (by kernel_rfl) (by kernel_rfl) (by kernel_rfl) (by intro _ _ _ h; exact h) (Or.inl ⟨by rfl, ?hy1_8⟩) hHeld ?rest1_8
          case' hy1_8 => (intro w hSw; (try dsimp only at hSw); go_simp; try (with_reducible rfl))
          (try simp only [Act.put, List.setIfInBounds_toArray, List.set_cons_zero, List.set_cons_succ])
          refine wpAnyH_take (i := 9) (v := ?vv1_9) (by rw [List.getElem?_toArray]; exact rfl) (by kernel_rfl) (by kernel_rfl) (by kernel_rfl) (by intro _ _ _ h; exact h) (Or.inl ⟨by rfl, ?hy1_9⟩) hHeld ?rest1_9
          case' hy1_9 => (intro w hSw; (try dsimp only at hSw); go_simp; try (with_reducible rfl))
          (try simp only [Act.put, List.setIfInBounds_toArray, List.set_cons_zero, List.set_cons_succ])
          refine wpAnyH_take (i := 10) (v := ?vv1_10) (by rw [List.getElem?_toArray]; exact rfl) (by kernel_rfl) (by kernel_rfl) (by kernel_rfl) (by intro _ _ _ h; exact h) (Or.inl ⟨by rfl, ?hy1_10⟩) hHeld ?rest1_10
          case' hy1_10 => (intro w hSw; (try dsimp only at hSw); go_simp; try (with_reducible rfl))
          (try simp only [Act.put, List.setIfInBounds_toArray, List.set_cons_zero, List.set_cons_succ])
          refine wpAnyH_take (i := 11) (v := ?vv1_11) (by rw [List.getElem?_toArray]; exact rfl) (by kernel_rfl) (by kernel_rfl) (by kernel_rfl) (by intro _ _ _ h; exact h) (Or.inl ⟨by rfl, ?hy1_11⟩) hHeld ?rest1_11
          case' hy1_11 => (intro w hSw; (try dsimp only at hSw); go_simp; try (with_reducible rfl))
          (try simp only [Act.put, List.setIfInBounds_toArray, List.set_cons_zero, List.set_cons_succ])
          refine wpAnyH_take (i := 12) (v := ?vv1_12) (by rw [List.getElem?_toArray]; exact rfl) (by kernel_rfl) (by kernel_rfl) (by kernel_rfl) (by intro _ _ _ h; exact h) (Or.inl ⟨by rfl, ?hy1_12⟩) hHeld ?rest1_12
          case' hy1_12 => (intro w hSw; (try dsimp only at hSw); go_simp; try (with_reducible rfl))
          (try simp only [Act.put, List.setIfInBounds_toArray, List.set_cons_zero, List.set_cons_succ])
          refine wpAnyH_take (i := 13) (v := ?vv1_13) (by rw [List.getElem?_toArray]; exact rfl) (by kernel_rfl) (by kernel_rfl) (by kernel_rfl) (by intro _ _ _ h; exact h) (Or.inl ⟨by rfl, ?hy1_13⟩) hHeld ?rest1_13
          case' hy1_13 => (intro w hSw; (try dsimp only at hSw); go_simp; try (with_reducible rfl))
          (try simp only [Act.put, List.setIfInBounds_toArray, List.set_cons_zero, List.set_cons_succ])
          refine wpAnyH_take (i := 15) (v := ?vv1_15) (by rw [List.getElem?_toArray]; exact rfl) (by kernel_rfl) (by kernel_rfl) (by kernel_rfl) (by intro _ _ _ h; exact h) (Or.inl ⟨by rfl, ?hy1_15⟩) hHeld ?rest1_15
          case' hy1_15 => (intro w hSw; (try dsimp only at hSw); go_simp; try (with_reducible rfl))
          (try simp only [Act.put, List.setIfInBounds_toArray, List.set_cons_zero, List.set_cons_succ])
          refine wpAnyH_take (i := 16) (v := ?vv1_16) (by rw [List.getElem?_toArray]; exact rfl) (by kernel_rfl) (by kernel_rfl) (by kernel_rfl) (by intro _ _ _ h; exact h) (Or.inl ⟨by rfl, ?hy1_16⟩) hHeld ?rest1_16
          case' hy1_16 => (intro w hSw; (try dsimp only at hSw); go_simp; try (with_reducible rfl))
          (try simp only [Act.put, List.setIfInBounds_toArray, List.set_cons_zero, List.set_cons_succ])
          refine wpAnyH_take (i := 17) (v := ?vv1_17) (by rw [List.getElem?_toArray]; exact rfl) (by kernel_rfl) (by kernel_rfl) (by kernel_rfl) (by intro _ _ _ h; exact h) (Or.inl ⟨by rfl, ?hy1_17⟩) hHeld ?rest1_17
          case' hy1_17 => (intro w hSw; (try dsimp only at hSw); go_simp; try (with_reducible rfl))
          (try simp only [Act.put, List.setIfInBounds_toArray, List.set_cons_zero, List.set_cons_succ])
          refine wpAnyH_take (i := 18) (v := ?vv1_18) (by rw [List.getElem?_toArray]; exact rfl) (by kernel_rfl) (by kernel_rfl) (by kernel_rfl) (by intro _ _ _ h; exact h) (Or.inl ⟨by rfl, ?hy1_18⟩) hHeld ?rest1_18
          case' hy1_18 => (intro w hSw; (try dsimp only at hSw); go_simp; try (with_reducible rfl))
          (try simp only [Act.put, List.setIfInBounds_toArray, List.set_cons_zero, List.set_cons_succ])
          refine wpAnyH_take (i := 19) (v := ?vv1_19) (by rw [List.getElem?_toArray]; exact rfl) (by kernel_rfl) (by kernel_rfl) (by kernel_rfl) (by intro _ _ _ h; exact h) (Or.inl ⟨by rfl, ?hy1_19⟩) hHeld ?rest1_19
          case' hy1_19 => (intro w hSw; (try dsimp only at hSw); go_simp; try (with_reducible rfl))
          (try simp only [Act.put, List.setIfInBounds_toArray, List.set_cons_zero, List.set_cons_succ])
          refine wpAnyH_ready (rs := [14]) (by kernel_rfl) (by simp) ?_
          refine AllReadyH.cons (by rw [List.getElem?_toArray]; exact rfl) (fun K hK => ?_) AllReadyH.nil
          go_simp
          go_at_call 232
          refine (l9Far_c (S3'.out.below BZ) hm hxk (HRU.out _)).mono ?_
          rintro e w5 ⟨r5, k5, rfl, o5, b5⟩
          have hl5 : k5 = many := (by rw [← o5.len]; exact farL_len _ _ _)
          subst hl5
          obtain ⟨A5, c5, rfl, hc5, _, hr5, _, hg5⟩ := o5.form
          obtain ⟨b6, off6, f6, rfl, hb6, hf6, cf⟩ := hr5.at_ hyk
          rw [HF.out] at hf6; injection hf6 with hf6; subst hf6
          replace BZ := below_step BZ b5
          clear o5 hr5 hg5 b5
          refine hK.out _ _ ?_ (fun hHeld => ?_)
          · exact hcl _ BZ
          clear hK K
          (try simp only [Act.put, List.setIfInBounds_toArray, List.set_cons_zero, List.set_cons_succ])
          refine wpAnyH_take (i := 20) (v := ?vv1_20) (by rw [List.getElem?_toArray]; exact rfl) (by kernel_rfl) (by kernel_rfl) (by kernel_rfl) (by intro _ _ _ h; exact h) (Or.inl ⟨by rfl, ?hy1_20⟩) hHeld ?rest1_20
          case' hy1_20 => (intro w hSw; (try dsimp only at hSw); go_simp; try (with_reducible rfl))
          (try simp only [Act.put, List.setIfInBounds_toArray, List.set_cons_zero, List.set_cons_succ])
          refine wpAnyH_ready (rs := [21]) (by kernel_rfl) (by simp) ?_
          refine AllReadyH.cons (by rw [List.getElem?_toArray]; exact rfl) (fun K hK => ?_) AllReadyH.nil
          go_simp
          refine hK.out _ _ ?_ (fun hHeld => ?_)
          · exact hcl _ BZ
          clear hK K
          (try simp only [Act.put, List.setIfInBounds_toArray, List.set_cons_zero, List.set_cons_succ])
          refine wpAnyH_take (i := 22) (v := ?vv1_22) (by rw [List.getElem?_toArray]; exact rfl) (by kernel_rfl) (by kernel_rfl) (by kernel_rfl) (by intro _ _ _ h; exact h) (Or.inl ⟨by rfl, ?hy1_22⟩) hHeld ?rest1_22
          case' hy1_22 => (intro w hSw; (try dsimp only at hSw); go_simp; try (with_reducible rfl))
          (try simp only [Act.put, List.setIfInBounds_toArray, List.set_cons_zero, List.set_cons_succ])
          refine wpAnyH_take (i := 23) (v := ?vv1_23) (by rw [List.getElem?_toArray]; exact rfl) (by kernel_rfl) (by kernel_rfl) (by kernel_rfl) (by intro _ _ _ h; exact h) (Or.inl ⟨by rfl, ?hy1_23⟩) hHeld ?rest1_23
          case' hy1_23 => (intro w hSw; (try dsimp only at hSw); go_simp; try (with_reducible rfl))
          (try simp only [Act.put, List.setIfInBounds_toArray, List.set_cons_zero, List.set_cons_succ])
          refine wpAnyH_done (by kernel_rfl) ?_ _
          by_cases h0 : 0 ≤ f
          · have hf : anomB es k = true := by rw [F.out, singB_eq]; exact List.any_eq_true.2 ⟨_, List.mem_of_getElem? HX.out, by rw [HSG.out]; exact decide_eq_true h0⟩
            have G := hide hf; clear hf
            go_wp2_with fail
            go_ret
            exact ⟨by rw [G.out]; rfl, below_step BW.out BZ⟩
          · go_wp2_with fail
            go_roundw
            case rel => exact ⟨j + 1, by go_num, by omega, by rw [HA.out, HNO.out, HSG.out]; simp [h0], below_step BW.out BZ, S3'.out.below BZ⟩
            case measure => simp [intOf]; omega
        · have hsg : singE many es ((x : Int), (y : Int), z) = false := by unfold singE; simp [hz]
          have HSG := hide hsg; clear hsg
          have hzb : (z == 3) = false := by simpa using hz
          have BZ : Below wr.heap.size wr wr.drew := (Below.refl _ _).drew
          have hcl : ∀ W, Below wr.heap.size wr W → (W.cell? ⟨b, off + j * 3, none⟩ = some (.int .i64 x) ∧ W.cell? ⟨b, off + j * 3 + 1, none⟩ = some (.int .i64 y) ∧ W.cell? ⟨b, off + j * 3 + 2, none⟩ = some (.int .i64 z)) := fun W hW => ⟨(hW.cell (p := ⟨b, off + j * 3, none⟩) hbw).trans a0, (hW.cell (p := ⟨b, off + j * 3 + 1, none⟩) hbw).trans a1, (hW.cell (p := ⟨b, off + j * 3 + 2, none⟩) hbw).trans a2⟩
          go_wp2_with fail
          refine wp_region_held_drew (S := (fun W => W.cell? ⟨b, off + j * 3, none⟩ = some (.int .i64 x) ∧ W.cell? ⟨b, off + j * 3 + 1, none⟩ = some (.int .i64 y) ∧ W.cell? ⟨b, off + j * 3 + 2, none⟩ = some (.int .i64 z))) (by kernel_rfl) ?_ (fun hHeld => ?_)
          · exact hcl _ BZ
          refine wpAnyH_take (i := 0) (v := ?vv2_0) (by rw [List.getElem?_toArray]; exact rfl) (by kernel_rfl) (by kernel_rfl) (by kernel_rfl) (by intro _ _ _ h; exact h) (Or.inl ⟨by rfl, ?hy2_0⟩) hHeld ?rest2_0
          case' hy2_0 => (intro w hSw; (try dsimp only at hSw); go_simp; try (with_reducible rfl))
          (try simp only [Act.put, List.setIfInBounds_toArray, List.set_cons_zero, List.set_cons_succ])
          refine wpAnyH_take (i := 1) (v := ?vv2_1) (by rw [List.getElem?_toArray]; exact rfl) (by kernel_rfl) (by kernel_rfl) (by kernel_rfl) (by intro _ _ _ h; exact h) (Or.inl ⟨by rfl, ?hy2_1⟩) hHeld ?rest2_1
          case' hy2_1 => (intro w hSw; (try dsimp only at hSw); go_simp; try (with_reducible rfl))
          (try simp only [Act.put, List.setIfInBounds_toArray, List.set_cons_zero, List.set_cons_succ])
          refine wpAnyH_take (i := 2) (v := ?vv2_2) (by rw [List.getElem?_toArray]; exact rfl) (by kernel_rfl) (by kernel_rfl) (by kernel_rfl) (by intro _ _ _ h; exact h) (Or.inl ⟨by rfl, ?hy2_2⟩) hHeld ?rest2_2
          case' hy2_2 => (intro w hSw; (try dsimp only at hSw); go_simp; try (with_reducible rfl))
          (try simp only [Act.put, List.setIfInBounds_toArray, List.set_cons_zero, List.set_cons_succ])
          refine wpAnyH_take (i := 3) (v := ?vv2_3) (by rw [List.getElem?_toArray]; exact rfl) (by kernel_rfl) (by kernel_rfl) (by kernel_rfl) (by intro _ _ _ h; exact h) (Or.inl ⟨by rfl, ?hy2_3⟩) hHeld ?rest2_3
          case' hy2_3 => (intro w hSw; (try dsimp only at hSw); go_simp; try (with_reducible rfl))
          (try simp only [Act.put, List.setIfInBounds_toArray, List.set_cons_zero, List.set_cons_succ])
          refine wpAnyH_take (i := 4) (v := ?vv2_4) (by rw [List.getElem?_toArray]; exact rfl) (by kernel_rfl) (by kernel_rfl) (by kernel_rfl) (by intro _ _ _ h; exact h) (Or.inl ⟨by rfl, ?hy2_4⟩) hHeld ?rest2_4
          case' hy2_4 => (intro w hSw; (try dsimp only at hSw); go_simp; try (with_reducible rfl))
          (try simp only [Act.put, List.setIfInBounds_toArray, List.set_cons_zero, List.set_cons_succ])
          refine wpAnyH_take (i := 5) (v := ?vv2_5) (by rw [List.getElem?_toArray]; exact rfl) (by kernel_rfl) (by kernel_rfl) (by kernel_rfl) (by intro _ _ _ h; exact h) (Or.inl ⟨by rfl, ?hy2_5⟩) hHeld ?rest2_5
          case' hy2_5 => (intro w hSw; (try dsimp only at hSw); go_simp; try (with_reducible rfl))
          (try simp only [Act.put, List.setIfInBounds_toArray, List.set_cons_zero, List.set_cons_succ])
          refine wpAnyH_take (i := 6) (v := ?vv2_6) (by rw [List.getElem?_toArray]; exact rfl) (by kernel_rfl) (by kernel_rfl) (by kernel_rfl) (by intro _ _ _ h; exact h) (Or.inl ⟨by rfl, ?hy2_6⟩) hHeld ?rest2_6
          case' hy2_6 => (intro w hSw; (try dsimp only at hSw); go_simp; try (with_reducible rfl))
          (try simp only [Act.put, List.setIfInBounds_toArray, List.set_cons_zero, List.set_cons_succ])
          refine wpAnyH_take (i := 7) (by rw [List.getElem?_toArray]; exact rfl) (by kernel_rfl) (by kernel_rfl) (by kernel_rfl) (by intro _ _ _ h; exact h) (Or.inr ⟨by rfl, rfl⟩) hHeld ?_
          (try simp only [Act.put, List.setIfInBounds_toArray, List.set_cons_zero, List.set_cons_succ])
          refine wpAnyH_take (i := 8) (by rw [List.getElem?_toArray]; exact rfl) (by kernel_rfl) (by kernel_rfl) (by kernel_rfl) (by intro _ _ _ h; exact h) (Or.inr ⟨by rfl, rfl⟩) hHeld ?_
          (try simp only [Act.put, List.setIfInBounds_toArray, List.set_cons_zero, List.set_cons_succ])
          refine wpAnyH_take (i := 9) (by rw [List.getElem?_toArray]; exact rfl) (by kernel_rfl) (by kernel_rfl) (by kernel_rfl) (by intro _ _ _ h; exact h) (Or.inr ⟨by rfl, rfl⟩) hHeld ?_
          (try simp only [Act.put, List.setIfInBounds_toArray, List.set_cons_zero, List.set_cons_succ])
          refine wpAnyH_take (i := 10) (by rw [List.getElem?_toArray]; exact rfl) (by kernel_rfl) (by kernel_rfl) (by kernel_rfl) (by intro _ _ _ h; exact h) (Or.inr ⟨by rfl, rfl⟩) hHeld ?_
          (try simp only [Act.put, List.setIfInBounds_toArray, List.set_cons_zero, List.set_cons_succ])
          refine wpAnyH_take (i := 11) (by rw [List.getElem?_toArray]; exact rfl) (by kernel_rfl) (by kernel_rfl) (by kernel_rfl) (by intro _ _ _ h; exact h) (Or.inr ⟨by rfl, rfl⟩) hHeld ?_
          (try simp only [Act.put, List.setIfInBounds_toArray, List.set_cons_zero, List.set_cons_succ])
          refine wpAnyH_take (i := 12) (by rw [List.getElem?_toArray]; exact rfl) (by kernel_rfl) (by kernel_rfl) (by kernel_rfl) (by intro _ _ _ h; exact h) (Or.inr ⟨by rfl, rfl⟩) hHeld ?_
          (try simp only [Act.put, List.setIfInBounds_toArray, List.set_cons_zero, List.set_cons_succ])
          refine wpAnyH_take (i := 13) (by rw [List.getElem?_toArray]; exact rfl) (by kernel_rfl) (by kernel_rfl) (by kernel_rfl) (by intro _ _ _ h; exact h) (Or.inr ⟨by rfl, rfl⟩) hHeld ?_
          (try simp only [Act.put, List.setIfInBounds_toArray, List.set_cons_zero, List.set_cons_succ])
          refine wpAnyH_take (i := 14) (by rw [List.getElem?_toArray]; exact rfl) (by kernel_rfl) (by kernel_rfl) (by kernel_rfl) (by intro _ _ _ h; exact h) (Or.inr ⟨by rfl, rfl⟩) hHeld ?_
          (try simp only [Act.put, List.setIfInBounds_toArray, List.set_cons_zero, List.set_cons_succ])
          refine wpAnyH_take (i := 15) (by rw [List.getElem?_toArray]; exact rfl) (by kernel_rfl) (by kernel_rfl) (by kernel_rfl) (by intro _ _ _ h; exact h) (Or.inr ⟨by rfl, rfl⟩) hHeld ?_
          (try simp only [Act.put, List.setIfInBounds_toArray, List.set_cons_zero, List.set_cons_succ])
          refine wpAnyH_take (i := 16) (by rw [List.getElem?_toArray]; exact rfl) (by kernel_rfl) (by kernel_rfl) (by kernel_rfl) (by intro _ _ _ h; exact h) (Or.inr ⟨by rfl, rfl⟩) hHeld ?_
          (try simp only [Act.put, List.setIfInBounds_toArray, List.set_cons_zero, List.set_cons_succ])
          refine wpAnyH_take (i := 17) (by rw [List.getElem?_toArray]; exact rfl) (by kernel_rfl) (by kernel_rfl) (by kernel_rfl) (by intro _ _ _ h; exact h) (Or.inr ⟨by rfl, rfl⟩) hHeld ?_
          (try simp only [Act.put, List.setIfInBounds_toArray, List.set_cons_zero, List.set_cons_succ])
          refine wpAnyH_take (i := 18) (by rw [List.getElem?_toArray]; exact rfl) (by kernel_rfl) (by kernel_rfl) (by kernel_rfl) (by intro _ _ _ h; exact h) (Or.inr ⟨by rfl, rfl⟩) hHeld ?_
          (try simp only [Act.put, List.setIfInBounds_toArray, List.set_cons_zero, List.set_cons_succ])
          refine wpAnyH_take (i := 19) (by rw [List.getElem?_toArray]; exact rfl) (by kernel_rfl) (by kernel_rfl) (by kernel_rfl) (by intro _ _ _ h; exact h) (Or.inr ⟨by rfl, rfl⟩) hHeld ?_
          (try simp only [Act.put, List.setIfInBounds_toArray, List.set_cons_zero, List.set_cons_succ])
          refine wpAnyH_take (i := 20) (by rw [List.getElem?_toArray]; exact rfl) (by kernel_rfl) (by kernel_rfl) (by kernel_rfl) (by intro _ _ _ h; exact h) (Or.inr ⟨by rfl, rfl⟩) hHeld ?_
          (try simp only [Act.put, List.setIfInBounds_toArray, List.set_cons_zero, List.set_cons_succ])
          refine wpAnyH_take (i := 21) (by rw [List.getElem?_toArray]; exact rfl) (by kernel_rfl) (by kernel_rfl) (by kernel_rfl) (by intro _ _ _ h; exact h) (Or.inr ⟨by rfl, rfl⟩) hHeld ?_
          (try simp only [Act.put, List.setIfInBounds_toArray, List.set_cons_zero, List.set_cons_succ])
          refine wpAnyH_take (i := 22) (by rw [List.getElem?_toArray]; exact rfl) (by kernel_rfl) (by kernel_rfl) (by kernel_rfl) (by intro _ _ _ h; exact h) (Or.inr ⟨by rfl, rfl⟩) hHeld ?_
          (try simp only [Act.put, List.setIfInBounds_toArray, List.set_cons_zero, List.set_cons_succ])
          refine wpAnyH_take (i := 23) (v := ?vv2_23) (by rw [List.getElem?_toArray]; exact rfl) (by kernel_rfl) (by kernel_rfl) (by kernel_rfl) (by intro _ _ _ h; exact h) (Or.inl ⟨by rfl, ?hy2_23⟩) hHeld ?rest2_23
          case' hy2_23 => (intro w hSw; (try dsimp only at hSw); go_simp; try (with_reducible rfl))
          (try simp only [Act.put, List.setIfInBounds_toArray, List.set_cons_zero, List.set_cons_succ])
          refine wpAnyH_done (by kernel_rfl) ?_ _
          go_wp2_with fail
          go_roundw
          case rel => exact ⟨j + 1, by go_num, by omega, by rw [HA.out, HNO.out, HSG.out]; rfl, below_step BW.out BZ, S3'.out.below BZ⟩
          case measure => simp [intOf]; omega
      · obtain rfl : n = j := by omega
        have hf : anomB es k = false := by rw [F.out, singB_eq, ← HNO.out, List.take_of_length_le (by rw [hl.out]; omega)]
        have G := hide hf; clear hf
        go_wp2_with fail
        go_ret
        exact ⟨by rw [G.out]; rfl, bw⟩
end Go.Proofs.YtcfkemchekmjbaaGreatDoor

namespace Go.Proofs.YtcfkemchekmjbaaGreatDoor
open Go.RowKit
theorem edgesL_edgesB {ts : List Tx} {os : Ls} {n : Nat} (hn : ts.length = n) (h6 : n ≤ 6) : edgesB (n : Int) (edgesL ts os) = true := by
  have hlen : (edgesL ts os).length ≤ 144 := by
    cases h : ordersB ts os
    · rw [edgesL_no h]; simp
    · rw [edgesL_yes h]; exact canonL_len _
  have hall : (edgesL ts os).all (edgeB ((n : Int) - 1)) = true := by
    rw [List.all_eq_true]
    intro e he
    obtain ⟨_, h⟩ := mem_edgesL.1 he
    obtain ⟨h1, h2, h3⟩ := h.put
    obtain ⟨⟨a, b⟩, ⟨c, d⟩, g⟩ := h1.range
    unfold edgeB
    simp only [Bool.and_eq_true, inB_iff, Bool.not_eq_true', beq_eq_false_iff_ne]
    exact ⟨⟨a, by omega⟩, ⟨c, by omega⟩, g, h2, by omega⟩
  unfold edgesB
  rw [hall, (inB_iff _ _ _).2 ⟨by omega, by omega⟩, decide_eq_true hlen]; rfl
end Go.Proofs.YtcfkemchekmjbaaGreatDoor
