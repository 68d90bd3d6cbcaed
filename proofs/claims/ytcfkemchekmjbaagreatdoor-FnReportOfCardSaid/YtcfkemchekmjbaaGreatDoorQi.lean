/- Merged (what the law reaches): SerS, HistV, SerF. -/
import Derived.Test.YtcfkemchekmjbaaGreatDoorQh
import Derived.BigQuiet
import Derived.Deep.RegionHeld3
import Derived.Deep.DeepCutAuto
namespace Go.Proofs.YtcfkemchekmjbaaGreatDoor
open Go.RowKit
theorem make3S (w : World) : (Instr.makeSlice 24 (.int .i64 3) (.int .i64 3)).run Tryz.prog w = .ok (.slice (some ⟨w.heap.size, 0, none⟩) 3 3) (w.alloc (.cells (List.replicate 3 (Value.int .i64 0)).toArray 3)) := run_make_ints 3 (by omega) w
theorem set_sameS {s : List Int} {k : Nat} {z : Int} (hk : k < s.length) (h : s.getD k 0 = z) : s.set k z = s := by
  apply List.ext_getElem?
  intro i
  by_cases e : k = i
  · subst e
    rw [List.getElem?_set_self hk, List.getElem?_eq_getElem hk]
    rw [List.getD_eq_getElem?_getD, List.getElem?_eq_getElem hk] at h
    simp at h; rw [h]
  · rw [List.getElem?_set_ne e]
def goesOn (ts : List Tx) (s : List Int) (ys : List T3) (r : List Int) : Bool := match followL s ys with
  | none => false
  | some s' => runsF ts s' r
set_option maxRecDepth 100000 in
set_option maxHeartbeats 8000000 in
theorem l12Runs_c {A : Option Addr} {n c q : Nat} {ts : List Tx} {u : Value} {os : List Int} {w : World} (hr : RTs w A n ts) (hu : SI w u q os) (hin : ∀ x ∈ os, 0 ≤ x ∧ x < n) (hk : ∀ t ∈ ts, ∀ o ∈ t.2.1, (o.1 = 1 ∨ o.1 = 2) ∧ 0 ≤ o.2.1 ∧ o.2.1 ≤ 2) (hsm : SmallT ts) :
    Calls Tryz.prog 170 #[.slice A n c, u] w fun e w' => e = .returned (.bool (runsF ts [0, 0, 0] os)) ∧ Below w.heap.size w w' := by
  obtain ⟨Au, cu, rfl, hqc, hq, hri⟩ := hu
  have hql := hide hri.len
  have hmk := make3S
  have o0 : OI (w.alloc (.cells (List.replicate 3 (Value.int .i64 0)).toArray 3)) w.heap.size (.slice (some ⟨w.heap.size, 0, none⟩) 3 3) 3 [0, 0, 0] := OI.of_blk (Blk.new w _ _) (Nat.le_refl _) rfl rfl (by omega)
  have B0 : Below w.heap.size w (w.alloc (.cells (List.replicate 3 (Value.int .i64 0)).toArray 3)) := (Below.refl _ _).alloc (Nat.le_refl _) _
  have O0 := hide o0; have HB0 := hide B0; clear o0 B0
  go_enter Tryz.func170, Tryz.ntmps170
  go_wp2_with fail
  go_loopw [6] (fun i wr => ∃ (k : Nat) (s : List Int), i = .int .i64 k ∧ k ≤ q ∧ OI wr w.heap.size (.slice (some ⟨w.heap.size, 0, none⟩) 3 3) 3 s ∧ runsF ts [0, 0, 0] os = runsF ts s (os.drop k) ∧ Below w.heap.size w wr) (fun i _ => q - (intOf i).toNat)
  case atStart => exact ⟨0, _, rfl, Nat.zero_le _, O0.out, rfl, HB0.out⟩
  case round =>
    clear O0 HB0
    obtain ⟨k, s, rfl, hkq, hs, he, bw⟩ := hrel
    have HS := hide hs; have HE := hide he; clear hs he
    by_cases hkl : k < q
    · obtain ⟨b1, o1, x, rfl, hb1, hx, hc1⟩ := hri.at_ hkl
      have c1 := (bw.cell (p := ⟨b1, o1 + k, none⟩) hb1).trans hc1
      obtain ⟨hx0, hx1⟩ := hin x (List.mem_of_getElem? hx)
      obtain ⟨xn, rfl⟩ : ∃ j : Nat, x = j := ⟨x.toNat, by omega⟩
      obtain ⟨b, off, f, ys, dn, B, kk, d, rfl, hbb, ht, q0, q1, q2, hkd, hdm, hry⟩ := hr.at_ (k := xn) (by omega)
      have e1 := (bw.cell (p := ⟨b, off + xn * 3 + 1, none⟩) hbb).trans q1
      have hdrop : os.drop k = (xn : Int) :: os.drop (k + 1) := by
        have hl : k < os.length := (List.getElem?_eq_some_iff.1 hx).1
        rw [List.drop_eq_getElem_cons hl]
        have := (List.getElem?_eq_some_iff.1 hx).2
        rw [this]
      have hops : opsOf ts ((xn : Int)).toNat = ys := by unfold opsOf; rw [List.getD_eq_getElem?_getD, Int.toNat_natCast, ht]; rfl
      have hgo : runsF ts [0, 0, 0] os = goesOn ts s (ys.drop 0) (os.drop (k + 1)) := by rw [HE.out, hdrop]; unfold goesOn; rw [List.drop_zero, runsF, hops]; rfl
      have HK := hide (hk _ (List.mem_of_getElem? ht))
      have hyl := hide hry.len
      have hkk : kk ≤ 1048576 := by have := hsm _ (List.mem_of_getElem? ht); have h2 := hry.len; dsimp only at this; omega
      have HGO := hide hgo; have BW := hide bw
      have k0 : (0 : Int) ≤ k := by omega
      have k2 : (k : Int) < q := by omega
      have x0 : (0 : Int) ≤ xn := by omega
      have x2 : (xn : Int) < n := by omega
      clear q0 q1 q2 hx ht hdrop hops hgo bw
      go_wp2_with fail
      go_loopw [8] (fun i wr2 => ∃ (j : Nat) (s2 : List Int), i = .int .i64 j ∧ j ≤ kk ∧ OI wr2 w.heap.size (.slice (some ⟨w.heap.size, 0, none⟩) 3 3) 3 s2 ∧ runsF ts [0, 0, 0] os = goesOn ts s2 (ys.drop j) (os.drop (k + 1)) ∧ Below w.heap.size w wr2) (fun i _ => kk - (intOf i).toNat)
      case atStart => exact ⟨0, s, rfl, Nat.zero_le _, HS.out, HGO.out, BW.out⟩
      case round =>
        clear HS HGO BW c1 e1
        rename World => wr2
        obtain ⟨j, s2, rfl, hj, hs, hg, bw⟩ := hrel
        have hsl := hs.len
        by_cases hjk : j < kk
        · obtain ⟨b2, o2, x, y, z, rfl, hbb2, hy, p0, p1, p2⟩ := hry.at_ hjk
          have a0 := (bw.cell (p := ⟨b2, o2 + j * 3, none⟩) hbb2).trans p0
          have a1 := (bw.cell (p := ⟨b2, o2 + j * 3 + 1, none⟩) hbb2).trans p1
          have a2 := (bw.cell (p := ⟨b2, o2 + j * 3 + 2, none⟩) hbb2).trans p2
          obtain ⟨hx12, hy0, hy2⟩ := HK.out (x, y, z) (List.mem_of_getElem? hy)
          dsimp only at hx12 hy0 hy2
          obtain ⟨yn, rfl⟩ : ∃ i : Nat, y = i := ⟨y.toNat, by omega⟩
          obtain ⟨sv, hsv, cz⟩ := hs.cell yn (by omega)
          have fz := hs.free yn
          have hdrop : ys.drop j = (x, (yn : Int), z) :: ys.drop (j + 1) := by
            have hl : j < ys.length := (List.getElem?_eq_some_iff.1 hy).1
            rw [List.drop_eq_getElem_cons hl, (List.getElem?_eq_some_iff.1 hy).2]
          have hgd : s2.getD yn 0 = sv := by rw [List.getD_eq_getElem?_getD, hsv]; rfl
          rw [hdrop] at hg
          have j0 : (0 : Int) ≤ j := by omega
          have j2 : (j : Int) < kk := by omega
          have j3 : decide ((j : Int) < 0) = false := by simp
          have j4 : decide (kk ≤ j) = false := by simp; omega
          have y0 : (0 : Int) ≤ yn := by omega
          have y2 : (yn : Int) < 3 := by omega
          have y3 : decide ((yn : Int) < 0) = false := by simp
          have y4 : decide (3 ≤ yn) = false := by simp; omega
          have hc : ∀ W, Below w.heap.size w W → W.cell? ⟨b2, o2 + j * 3 + 1, none⟩ = some (.int .i64 (yn : Int)) ∧ W.cell? ⟨b2, o2 + j * 3 + 2, none⟩ = some (.int .i64 z) := fun W h => ⟨(h.cell (p := ⟨b2, o2 + j * 3 + 1, none⟩) hbb2).trans p1, (h.cell (p := ⟨b2, o2 + j * 3 + 2, none⟩) hbb2).trans p2⟩
          have HC := hide hc; have HYN := hide hsv; have HGD := hide hgd; have HG := hide hg; have BW := hide bw; have HS2 := hide hs
          clear p0 p1 p2 hy hdrop hsv hgd hg hc bw hs
          rcases hx12 with rfl | rfl
          · by_cases hsz : sv = z
            · have hne : (sv != z) = false := by simpa using hsz
              go_wp2_with fail
              go_big_quiet (fail)
              go_upto_region 11 with fail
              rename Nat => nq
              have BQ : Below wr2.heap.size wr2 (wr2.drewN nq).drew := (below_drewN (Below.refl _ _) nq).drew
              have BQ2 : Below w.heap.size w (wr2.drewN nq).drew := below_step BW.out BQ
              have O5 := hide ((HS2.out.below BQ).store yn z)
              have HG2 := hide (show runsF ts [0, 0, 0] os = goesOn ts (s2.set yn z) (ys.drop (j + 1)) (os.drop (k + 1)) by
                rw [set_sameS (by omega) (by rw [HGD.out]; exact hsz), HG.out]; unfold goesOn; simp only [followL]; rw [if_neg (by decide), if_pos (by rw [Int.toNat_natCast, HGD.out]; exact hsz)])
              go_region_held3 (fun W => W.cell? ⟨b2, o2 + j * 3 + 1, none⟩ = some (.int .i64 (yn : Int)) ∧ W.cell? ⟨b2, o2 + j * 3 + 2, none⟩ = some (.int .i64 z)) (first | exact HC.out _ BQ2 | exact HC.out _ (BQ2.setCell (p := ⟨w.heap.size, yn, none⟩) (Nat.le_refl _) _)) (fail)
              go_wp2_with fail
              go_roundw
              case rel => exact ⟨j + 1, _, by go_num, by omega, O5.out, HG2.out, BQ2.setCell (p := ⟨w.heap.size, yn, none⟩) (Nat.le_refl _) _⟩
              case measure => simp [intOf]; omega
            · have hne : (sv != z) = true := by simpa using hsz
              have hf : runsF ts [0, 0, 0] os = false := by rw [HG.out]; unfold goesOn; simp only [followL]; rw [if_neg (by decide), if_neg (by rw [Int.toNat_natCast, HGD.out]; exact hsz)]
              have F := hide hf; clear hf
              go_wp2_with fail
              go_big_quiet (fail)
              go_wp2_with fail
              go_ret
              exact ⟨by rw [F.out]; rfl, below_drewN BW.out _⟩
          · go_wp2_with fail
            go_big_quiet (fail)
            go_upto_region 11 with fail
            rename Nat => nq
            have BQ : Below wr2.heap.size wr2 (wr2.drewN nq).drew := (below_drewN (Below.refl _ _) nq).drew
            have BQ2 : Below w.heap.size w (wr2.drewN nq).drew := below_step BW.out BQ
            have O5 := hide ((HS2.out.below BQ).store yn z)
            have HG2 := hide (show runsF ts [0, 0, 0] os = goesOn ts (s2.set yn z) (ys.drop (j + 1)) (os.drop (k + 1)) by
              rw [HG.out]; unfold goesOn; simp only [followL]; rw [if_pos (by decide), Int.toNat_natCast])
            go_region_held3 (fun W => W.cell? ⟨b2, o2 + j * 3 + 1, none⟩ = some (.int .i64 (yn : Int)) ∧ W.cell? ⟨b2, o2 + j * 3 + 2, none⟩ = some (.int .i64 z)) (first | exact HC.out _ BQ2 | exact HC.out _ (BQ2.setCell (p := ⟨w.heap.size, yn, none⟩) (Nat.le_refl _) _)) (fail)
            go_wp2_with fail
            go_roundw
            case rel => exact ⟨j + 1, _, by go_num, by omega, O5.out, HG2.out, BQ2.setCell (p := ⟨w.heap.size, yn, none⟩) (Nat.le_refl _) _⟩
            case measure => simp [intOf]; omega
        · obtain rfl : j = kk := by omega
          have h0 : ys.drop j = [] := List.drop_eq_nil_of_le (by rw [hyl.out]; omega)
          have he : runsF ts [0, 0, 0] os = runsF ts s2 (os.drop (k + 1)) := by rw [hg, h0]; rfl
          have HE2 := hide he; have HS2 := hide hs; have BW := hide bw
          clear h0 he hs bw hg
          go_wp2_with fail
          go_roundw
          case rel => exact ⟨k + 1, s2, by go_num, by omega, HS2.out, HE2.out, BW.out⟩
          case measure => simp [intOf]; omega
    · obtain rfl : k = q := by omega
      have h0 : os.drop k = [] := List.drop_eq_nil_of_le (by rw [hql.out]; omega)
      have he : runsF ts [0, 0, 0] os = true := by rw [HE.out, h0]; rfl
      have F := hide he; clear h0 he
      go_wp2_with fail
      go_ret
      exact ⟨by rw [F.out]; rfl, bw⟩
end Go.Proofs.YtcfkemchekmjbaaGreatDoor

namespace Go.Proofs.YtcfkemchekmjbaaGreatDoor
open Go.RowKit Go.Maps
theorem opI_cases (x y z : Int) : ((x == 1) = false ∧ (x == 2) = false ∧ opB (x, y, z) = false) ∨ ((x = 1 ∨ x = 2) ∧ inB y 0 2 = false ∧ opB (x, y, z) = false) ∨
    ((x = 1 ∨ x = 2) ∧ inB y 0 2 = true ∧ inB z 0 99 = false ∧ opB (x, y, z) = false) ∨ (x = 1 ∧ inB y 0 2 = true ∧ inB z 0 99 = true ∧ opB (x, y, z) = true) ∨
    (x = 2 ∧ inB y 0 2 = true ∧ inB z 0 99 = true ∧ opB (x, y, z) = !(z == 0)) := by
  by_cases h1 : x = 1
  · subst h1
    cases hy : inB y 0 2
    · simp [opB, hy]
    · cases hz : inB z 0 99
      · simp [opB, hy, hz]
      · right; right; right; left; refine ⟨rfl, rfl, rfl, ?_⟩; simp [opB, hy, hz]; decide
  · by_cases h2 : x = 2
    · subst h2
      cases hy : inB y 0 2
      · simp [opB, hy]
      · cases hz : inB z 0 99
        · simp [opB, hy, hz]
        · right; right; right; right
          refine ⟨rfl, rfl, rfl, ?_⟩
          have := (inB_iff _ _ _).1 hz
          have e2 : inB 2 1 2 = true := by decide
          simp only [opB, hy, hz, e2, Bool.true_and]
          by_cases h0 : z = 0
          · subst h0; rfl
          · have : 0 < z := by omega
            simp [h0, this]
    · left
      have e : inB x 1 2 = false := by
        cases hb : inB x 1 2 with
        | false => rfl
        | true => have := (inB_iff _ _ _).1 hb; omega
      refine ⟨by simpa using h1, by simpa using h2, by simp [opB, e]⟩
theorem readsOp_c {x y z : Int} {w : World} : Calls Tryz.prog 35 #[.agg #[.int .i64 x, .int .i64 y, .int .i64 z]] w fun e w' => e = .returned (.bool (x == 1)) ∧ Below w.heap.size w w' := by
  go_enter Tryz.func35, Tryz.ntmps35
  go_wp2_with fail
  go_ret
  exact ⟨rfl, (Below.refl _ _).alloc (Nat.le_refl _) _⟩
theorem writesOp_c {x y z : Int} {w : World} : Calls Tryz.prog 94 #[.agg #[.int .i64 x, .int .i64 y, .int .i64 z]] w fun e w' => e = .returned (.bool (x == 2)) ∧ Below w.heap.size w w' := by
  go_enter Tryz.func94, Tryz.ntmps94
  go_wp2_with fail
  go_ret
  exact ⟨rfl, (Below.refl _ _).alloc (Nat.le_refl _) _⟩
theorem valueOk_c {n : Int} {w : World} : Calls Tryz.prog 151 #[.int .i64 n] w fun e w' => e = .returned (.bool (inB n 0 99)) ∧ w = w' := by
  go_enter Tryz.func151, Tryz.ntmps151
  go_wp2_with (go_at_call 56; refine (within_c).mono ?_; rintro e w' ⟨rfl, rfl⟩)
  go_ret
  exact ⟨rfl, rfl⟩
set_option maxHeartbeats 4000000 in
theorem impl_OpValid_c {x y z : Int} {w : World} :
    Calls Tryz.prog 99 #[.agg #[.int .i64 x, .int .i64 y, .int .i64 z]] w fun e w' => e = .returned (.bool (opB (x, y, z))) ∧ Below w.heap.size w w' := by
  have b1 : Below w.heap.size w (w.alloc (.cells #[.int .i64 x, .int .i64 y, .int .i64 z] 61)) := (Below.refl _ _).alloc (Nat.le_refl _) _
  have K1 := Blk.new w 61 #[.int .i64 x, .int .i64 y, .int .i64 z]
  have hc : ∀ W, Below (w.alloc (.cells #[.int .i64 x, .int .i64 y, .int .i64 z] 61)).heap.size (w.alloc (.cells #[.int .i64 x, .int .i64 y, .int .i64 z] 61)) W → (W.cell? ⟨w.heap.size, 0, none⟩ = some (.int .i64 x) ∧ W.cell? ⟨w.heap.size, 1, none⟩ = some (.int .i64 y) ∧ W.cell? ⟨w.heap.size, 2, none⟩ = some (.int .i64 z)) := fun W h => (K1.belowAll h).three
  obtain ⟨k0, k1, k2⟩ := K1.three
  rcases opI_cases x y z with ⟨h1, h2, hf⟩ | ⟨hx, hy, hf⟩ | ⟨hx, hy, hz, hf⟩ | ⟨rfl, hy, hz, hf⟩ | ⟨rfl, hy, hz, hf⟩
  · have F := hide hf; have H1 := hide h1; have H2 := hide h2; clear hf h1 h2
    go_enter Tryz.func99, Tryz.ntmps99
    go_wp2_with fail
    refine (readsOp_c).mono ?_
    rintro e w2 ⟨rfl, c2⟩
    have C2 := c2
    obtain ⟨k0, k1, k2⟩ := hc _ C2
    rw [H1.out]
    go_wp2_with fail
    refine (writesOp_c).mono ?_
    rintro e w3 ⟨rfl, c3⟩
    have C3 := below_step C2 c3
    obtain ⟨k0, k1, k2⟩ := hc _ C3
    rw [H2.out]
    go_wp2_with fail
    go_ret
    exact ⟨by rw [F.out]; rfl, below_step b1 C3⟩
  · have F := hide hf; have Hy := hide hy; clear hf hy
    rcases hx with rfl | rfl
    · go_enter Tryz.func99, Tryz.ntmps99
      go_wp2_with fail
      refine (readsOp_c).mono ?_
      rintro e w2 ⟨rfl, c2⟩
      have C2 := c2
      obtain ⟨k0, k1, k2⟩ := hc _ C2
      rw [show ((1 : Int) == 1) = true by rfl]
      go_wp2_with fail
      refine (keyOk_c).mono ?_
      rintro e w' ⟨rfl, rfl⟩
      rw [Hy.out]
      go_wp2_with fail
      go_ret
      exact ⟨by rw [F.out]; rfl, below_step b1 C2⟩
    · go_enter Tryz.func99, Tryz.ntmps99
      go_wp2_with fail
      refine (readsOp_c).mono ?_
      rintro e w2 ⟨rfl, c2⟩
      have C2 := c2
      obtain ⟨k0, k1, k2⟩ := hc _ C2
      rw [show ((2 : Int) == 1) = false by rfl]
      go_wp2_with fail
      refine (writesOp_c).mono ?_
      rintro e w3 ⟨rfl, c3⟩
      have C3 := below_step C2 c3
      obtain ⟨k0, k1, k2⟩ := hc _ C3
      rw [show ((2 : Int) == 2) = true by rfl]
      go_wp2_with fail
      refine (keyOk_c).mono ?_
      rintro e w' ⟨rfl, rfl⟩
      rw [Hy.out]
      go_wp2_with fail
      go_ret
      exact ⟨by rw [F.out]; rfl, below_step b1 C3⟩
  · have F := hide hf; have Hy := hide hy; have Hz := hide hz; clear hf hy hz
    rcases hx with rfl | rfl
    · go_enter Tryz.func99, Tryz.ntmps99
      go_wp2_with fail
      refine (readsOp_c).mono ?_
      rintro e w2 ⟨rfl, c2⟩
      have C2 := c2
      obtain ⟨k0, k1, k2⟩ := hc _ C2
      rw [show ((1 : Int) == 1) = true by rfl]
      go_wp2_with fail
      refine (keyOk_c).mono ?_
      rintro e w' ⟨rfl, rfl⟩
      rw [Hy.out]
      go_wp2_with fail
      refine (valueOk_c).mono ?_
      rintro e w' ⟨rfl, rfl⟩
      rw [Hz.out]
      go_wp2_with fail
      go_ret
      exact ⟨by rw [F.out]; rfl, below_step b1 C2⟩
    · go_enter Tryz.func99, Tryz.ntmps99
      go_wp2_with fail
      refine (readsOp_c).mono ?_
      rintro e w2 ⟨rfl, c2⟩
      have C2 := c2
      obtain ⟨k0, k1, k2⟩ := hc _ C2
      rw [show ((2 : Int) == 1) = false by rfl]
      go_wp2_with fail
      refine (writesOp_c).mono ?_
      rintro e w3 ⟨rfl, c3⟩
      have C3 := below_step C2 c3
      obtain ⟨k0, k1, k2⟩ := hc _ C3
      rw [show ((2 : Int) == 2) = true by rfl]
      go_wp2_with fail
      refine (keyOk_c).mono ?_
      rintro e w' ⟨rfl, rfl⟩
      rw [Hy.out]
      go_wp2_with fail
      refine (valueOk_c).mono ?_
      rintro e w' ⟨rfl, rfl⟩
      rw [Hz.out]
      go_wp2_with fail
      go_ret
      exact ⟨by rw [F.out]; rfl, below_step b1 C3⟩
  · have F := hide hf; have Hy := hide hy; have Hz := hide hz; clear hf hy hz
    go_enter Tryz.func99, Tryz.ntmps99
    go_wp2_with fail
    refine (readsOp_c).mono ?_
    rintro e w2 ⟨rfl, c2⟩
    have C2 := c2
    obtain ⟨k0, k1, k2⟩ := hc _ C2
    rw [show ((1 : Int) == 1) = true by rfl]
    go_wp2_with fail
    refine (keyOk_c).mono ?_
    rintro e w' ⟨rfl, rfl⟩
    rw [Hy.out]
    go_wp2_with fail
    refine (valueOk_c).mono ?_
    rintro e w' ⟨rfl, rfl⟩
    rw [Hz.out]
    go_wp2_with fail
    refine (writesOp_c).mono ?_
    rintro e w3 ⟨rfl, c3⟩
    have C3 := below_step C2 c3
    obtain ⟨k0, k1, k2⟩ := hc _ C3
    rw [show ((1 : Int) == 2) = false by rfl]
    go_wp2_with fail
    go_ret
    exact ⟨by rw [F.out]; rfl, below_step b1 C3⟩
  · have F := hide hf; have Hy := hide hy; have Hz := hide hz; clear hf hy hz
    go_enter Tryz.func99, Tryz.ntmps99
    go_wp2_with fail
    refine (readsOp_c).mono ?_
    rintro e w2 ⟨rfl, c2⟩
    have C2 := c2
    obtain ⟨k0, k1, k2⟩ := hc _ C2
    rw [show ((2 : Int) == 1) = false by rfl]
    go_wp2_with fail
    refine (writesOp_c).mono ?_
    rintro e w3 ⟨rfl, c3⟩
    have C3 := below_step C2 c3
    obtain ⟨k0, k1, k2⟩ := hc _ C3
    rw [show ((2 : Int) == 2) = true by rfl]
    go_wp2_with fail
    refine (keyOk_c).mono ?_
    rintro e w' ⟨rfl, rfl⟩
    rw [Hy.out]
    go_wp2_with fail
    refine (valueOk_c).mono ?_
    rintro e w' ⟨rfl, rfl⟩
    rw [Hz.out]
    go_wp2_with fail
    refine (writesOp_c).mono ?_
    rintro e w4 ⟨rfl, c4⟩
    have C4 := below_step C3 c4
    obtain ⟨k0, k1, k2⟩ := hc _ C4
    rw [show ((2 : Int) == 2) = true by rfl]
    go_wp2_with fail
    go_ret
    exact ⟨by rw [F.out]; rfl, below_step b1 C4⟩
set_option maxHeartbeats 1000000 in
theorem TxnValid_1_c {x y z : Int} {w : World} :
    Calls Tryz.prog 105 #[.agg #[.int .i64 x, .int .i64 y, .int .i64 z]] w fun e w' => e = .returned (.bool (!opB (x, y, z))) ∧ Below w.heap.size w w' := by
  have b1 : Below w.heap.size w (w.alloc (.cells #[.int .i64 x, .int .i64 y, .int .i64 z] 61)) := (Below.refl _ _).alloc (Nat.le_refl _) _
  go_enter Tryz.func105, Tryz.ntmps105
  go_wp2_with fail
  refine (impl_OpValid_c).mono ?_
  rintro e w2 ⟨rfl, b2⟩
  go_wp2_with fail
  go_ret
  exact ⟨rfl, below_step b1 b2⟩
set_option maxHeartbeats 4000000 in
theorem IndexFunc_OpV_c {v : Value} {n : Nat} {ts : List T3} {w : World} (hs : S3 w v n ts) :
    Calls Tryz.prog 152 #[v, .func (.func 105) #[] #[]] w fun e w' => ∃ i : Int, e = .returned (.int .i64 i) ∧ (decide (0 ≤ i)) = ts.any (fun e => !opB e) ∧ Below w.heap.size w w' := by
  obtain ⟨A, c, rfl, hnc, hn, hr⟩ := hs
  have hl := hide hr.len
  go_enter Tryz.func152, Tryz.ntmps152
  go_wp2
  go_loopw [8] (fun i wr => ∃ k : Nat, k ≤ n ∧ i = .int .i64 k ∧ (ts.take k).any (fun e => !opB e) = false ∧ Below w.heap.size w wr) (fun i _ => n - (intOf i).toNat)
  case atStart => exact ⟨0, Nat.zero_le _, rfl, by simp, Below.refl _ _⟩
  case round =>
    obtain ⟨k, hk, rfl, hall, hbel⟩ := hrel
    have Hall := hide hall; clear hall
    by_cases hlt : k < n
    · obtain ⟨b, off, x, y, z, rfl, hbk, hx, p0, p1, p2⟩ := hr.at_ hlt
      have Hx := hide hx; clear hx
      have a0 := (hbel.cell (p := ⟨b, off + k * 3, none⟩) hbk).trans p0
      have a1 := (hbel.cell (p := ⟨b, off + k * 3 + 1, none⟩) hbk).trans p1
      have a2 := (hbel.cell (p := ⟨b, off + k * 3 + 2, none⟩) hbk).trans p2
      clear p0 p1 p2
      cases hv : opB (x, y, z)
      · have Hv := hide hv; clear hv
        go_wp2_with fail
        refine (TxnValid_1_c).mono ?_
        rintro e w2 ⟨rfl, b2⟩
        have B2 := below_step hbel b2
        rw [Hv.out]
        go_wp2_with fail
        go_ret
        exact ⟨_, rfl, by rw [any_atA Hx.out (by simp [Hv.out])]; simp, B2⟩
      · have Hv := hide hv; clear hv
        go_wp2_with fail
        refine (TxnValid_1_c).mono ?_
        rintro e w2 ⟨rfl, b2⟩
        have B2 := below_step hbel b2
        rw [Hv.out]
        go_wp2_with fail
        go_roundw
        case rel => exact ⟨k + 1, by omega, by go_num, any_snocA Hall.out Hx.out (by simp [Hv.out]), B2⟩
        case measure => simp [intOf]; omega
    · go_wp2
      go_ret
      obtain rfl : k = n := by omega
      refine ⟨_, rfl, ?_, hbel⟩
      have h1 := Hall.out
      rw [List.take_of_length_le (by rw [hl.out]; omega)] at h1
      rw [h1]; rfl
set_option maxHeartbeats 1000000 in
theorem ContainsFunc_OpV_c {v : Value} {n : Nat} {ts : List T3} {w : World} (hs : S3 w v n ts) :
    Calls Tryz.prog 104 #[v, .func (.func 105) #[] #[]] w fun e w' => e = .returned (.bool (ts.any (fun e => !opB e))) ∧ Below w.heap.size w w' := by
  obtain ⟨A, c, rfl, hnc, hn, hr⟩ := hs
  go_enter Tryz.func104, Tryz.ntmps104
  go_wp2_with fail
  refine (IndexFunc_OpV_c ⟨A, c, rfl, hnc, hn, hr⟩).mono ?_
  rintro e w2 ⟨i, rfl, hi, b2⟩
  have Hi := hide hi; clear hi
  go_wp2_with fail
  go_ret
  exact ⟨by rw [← Hi.out]; rfl, b2⟩
set_option maxHeartbeats 2000000 in
theorem impl_TxnValid_c {v : Value} {m : Nat} {ys : List T3} {f : Int} {dn : Bool} {w : World} (hv : S3 w v m ys) :
    Calls Tryz.prog 53 #[.agg #[.int .i64 f, v, .bool dn]] w fun e w' => e = .returned (.bool (txnB (f, ys, dn))) ∧ Below w.heap.size w w' := by
  have sv := hv
  have hbd := hv.bd
  have hl := hide hv.len
  obtain ⟨B, d, rfl⟩ := hv.shape
  have b1 : Below w.heap.size w (w.alloc (.cells #[.int .i64 f, .slice B m d, .bool dn] 66)) := (Below.refl _ _).alloc (Nat.le_refl _) _
  have K1 := Blk.new w 66 #[.int .i64 f, .slice B m d, .bool dn]
  obtain ⟨k0, k1, k2⟩ := K1.three
  cases hF : inB f 0 3
  · have hf : txnB (f, ys, dn) = false := by simp [txnB, hF]
    have F := hide hf; have Z := hide hF; clear hf hF
    go_enter Tryz.func53, Tryz.ntmps53
    go_wp2_with (first | (go_at_call 103; refine (sessionOk_c).mono ?_; rintro e w' ⟨rfl, rfl⟩; rw [Z.out]))
    go_ret
    exact ⟨by rw [F.out]; rfl, b1⟩
  · by_cases hL : m ≤ 6
    · have hf : txnB (f, ys, dn) = !(ys.any fun e => !opB e) := by unfold txnB; dsimp only; rw [hF, hl.out, not_allA]; simp [hL]
      have F := hide hf; have Z := hide hF; clear hf hF
      have hd : ¬ ((6 : Int) < m) := by omega
      go_enter Tryz.func53, Tryz.ntmps53
      go_wp2_with (first | (go_at_call 103; refine (sessionOk_c).mono ?_; rintro e w' ⟨rfl, rfl⟩; rw [Z.out]))
      refine (ContainsFunc_OpV_c (sv.below b1)).mono ?_
      rintro e w2 ⟨rfl, b2⟩
      go_wp2_with fail
      go_ret
      exact ⟨by rw [F.out]; rfl, below_step b1 b2⟩
    · have hf : txnB (f, ys, dn) = false := by unfold txnB; dsimp only; rw [hl.out]; simp [hL]
      have F := hide hf; have Z := hide hF; clear hf hF
      go_enter Tryz.func53, Tryz.ntmps53
      go_wp2_with (first | (go_at_call 103; refine (sessionOk_c).mono ?_; rintro e w' ⟨rfl, rfl⟩; rw [Z.out]))
      go_ret
      exact ⟨by rw [F.out]; rfl, b1⟩
set_option maxHeartbeats 1000000 in
theorem HistoryValid_1_c {v : Value} {m : Nat} {ys : List T3} {f : Int} {dn : Bool} {w : World} (hv : S3 w v m ys) :
    Calls Tryz.prog 52 #[.agg #[.int .i64 f, v, .bool dn]] w fun e w' => e = .returned (.bool (!txnB (f, ys, dn))) ∧ Below w.heap.size w w' := by
  have sv := hv
  obtain ⟨B, d, rfl⟩ := hv.shape
  have b1 : Below w.heap.size w (w.alloc (.cells #[.int .i64 f, .slice B m d, .bool dn] 66)) := (Below.refl _ _).alloc (Nat.le_refl _) _
  go_enter Tryz.func52, Tryz.ntmps52
  go_wp2_with fail
  refine (impl_TxnValid_c (sv.below b1)).mono ?_
  rintro e w2 ⟨rfl, b2⟩
  go_wp2_with fail
  go_ret
  exact ⟨rfl, below_step b1 b2⟩
set_option maxHeartbeats 4000000 in
theorem IndexFunc_Txn_c {A : Option Addr} {n c : Nat} {ms : List Tx} {w : World} (hr : RTs w A n ms) (hn : n ≤ 1048576) (hsm : SmallT ms) :
    Calls Tryz.prog 102 #[.slice A n c, .func (.func 52) #[] #[]] w fun e w' => ∃ i : Int, e = .returned (.int .i64 i) ∧ (decide (0 ≤ i)) = ms.any (fun e => !txnB e) ∧ Below w.heap.size w w' := by
  have hl := hide hr.1
  go_enter Tryz.func102, Tryz.ntmps102
  go_wp2
  go_loopw [8] (fun i wr => ∃ k : Nat, k ≤ n ∧ i = .int .i64 k ∧ (ms.take k).any (fun e => !txnB e) = false ∧ Below w.heap.size w wr) (fun i _ => n - (intOf i).toNat)
  case atStart => exact ⟨0, Nat.zero_le _, rfl, by simp, Below.refl _ _⟩
  case round =>
    obtain ⟨k, hk, rfl, hall, bw⟩ := hrel
    have Hall := hide hall; clear hall
    by_cases hlt : k < n
    · obtain ⟨b, off, f, ys, dn, B, kk, d, rfl, hbb, hx, q0, q1, q2, hkd, hdm, hri⟩ := hr.at_ hlt
      have e0 := (bw.cell (p := ⟨b, off + k * 3, none⟩) hbb).trans q0
      have e1 := (bw.cell (p := ⟨b, off + k * 3 + 1, none⟩) hbb).trans q1
      have e2 := (bw.cell (p := ⟨b, off + k * 3 + 2, none⟩) hbb).trans q2
      have hsz := hsm _ (List.mem_of_getElem? hx)
      have hyl := hri.len
      have hk1 : kk ≤ 1048576 := by dsimp only at hsz; omega
      have s1 : S3 wr (.slice B kk d) kk ys := S3.of_args hkd hk1 (hri.below bw)
      have Hx := hide hx
      clear hx q0 q1 q2 hsz hyl
      cases hv : txnB (f, ys, dn)
      · have Hv := hide hv; clear hv
        go_wp2_with fail
        refine (HistoryValid_1_c s1).mono ?_
        rintro e w2 ⟨rfl, b2⟩
        have B2 := below_step bw b2
        rw [Hv.out]
        go_wp2_with fail
        go_ret
        exact ⟨_, rfl, by rw [any_atA Hx.out (by simp [Hv.out])]; simp, B2⟩
      · have Hv := hide hv; clear hv
        go_wp2_with fail
        refine (HistoryValid_1_c s1).mono ?_
        rintro e w2 ⟨rfl, b2⟩
        have B2 := below_step bw b2
        rw [Hv.out]
        go_wp2_with fail
        go_roundw
        case rel => exact ⟨k + 1, by omega, by go_num, any_snocA Hall.out Hx.out (by simp [Hv.out]), B2⟩
        case measure => simp [intOf]; omega
    · go_wp2
      go_ret
      obtain rfl : k = n := by omega
      refine ⟨_, rfl, ?_, bw⟩
      have h1 := Hall.out
      rw [List.take_of_length_le (by rw [hl.out]; omega)] at h1
      rw [h1]; rfl
end Go.Proofs.YtcfkemchekmjbaaGreatDoor

namespace Go.Proofs.YtcfkemchekmjbaaGreatDoor
open Go.RowKit
/-- A store at block sb. -/
def StB (w : World) (sb : Nat) (s : List Int) : Prop := s.length = 3 ∧ Blk w sb 58 (s.map (Value.int .i64)).toArray
theorem StB.cell {w : World} {sb : Nat} {s : List Int} (h : StB w sb s) {k : Nat} (hk : k < 3) : ∃ v, s[k]? = some v ∧ w.cell? ⟨sb, k, none⟩ = some (.int .i64 v) := by
  have hl : k < s.length := by rw [h.1]; exact hk
  exact ⟨s[k], List.getElem?_eq_getElem hl, (h.2.cell k).trans (by simp [List.getElem?_eq_getElem hl])⟩
theorem StB.put {w : World} {sb : Nat} {s : List Int} (h : StB w sb s) (k : Nat) (v : Int) : StB (w.setCell ⟨sb, k, none⟩ (.int .i64 v)) sb (s.set k v) := by
  refine ⟨by simp [h.1], ?_⟩
  have := h.2.set_ k (.int .i64 v)
  simpa [List.map_set] using this
theorem StB.below {w w' : World} {sb : Nat} {s : List Int} (h : StB w sb s) (hb : Below w.heap.size w w') : StB w' sb s := ⟨h.1, h.2.belowAll hb⟩
theorem grownTS {a b c : World} {row : Option Nat} (h : a.grownBy b row) (k : b.grownBy c row) : a.grownBy c row :=
  ⟨k.os.trans h.os, k.tape.trans h.tape, k.output.trans h.output, Nat.le_trans h.size k.size, fun i hi hn => (k.block i (Nat.lt_of_lt_of_le hi h.size) hn).trans (h.block i hi hn)⟩
theorem grownBS {a b c : World} {row : Option Nat} (h : a.grownBy b row) (k : Below b.heap.size b c) : a.grownBy c row :=
  grownTS h ⟨k.os, k.tape, k.output, k.size, fun i hi _ => k.block i hi⟩
def FolR (wb w : World) (sb : Nat) (s : List Int) (ys : List T3) (e : Ending) (w' : World) : Prop :=
  e = .returned (.bool (followL s ys).isSome) ∧ (∀ s', followL s ys = some s' → StB w' sb s') ∧ Below wb.heap.size wb w' ∧ w.grownBy w' (some sb)
set_option maxRecDepth 100000 in
set_option maxHeartbeats 8000000 in
theorem follow_c {u : Value} {m sb : Nat} {ys : List T3} {f : Int} {dn : Bool} {s : List Int} {wb w : World} (hbw : Below wb.heap.size wb w) (hv : S3 wb u m ys) (hsb : wb.heap.size ≤ sb) (hs : StB w sb s) (hk : ∀ o ∈ ys, (o.1 = 1 ∨ o.1 = 2) ∧ 0 ≤ o.2.1 ∧ o.2.1 ≤ 2) :
    Calls Tryz.prog 175 #[.pointer (some ⟨sb, 0, none⟩), .agg #[.int .i64 f, u, .bool dn]] w (FolR wb w sb s ys) := by
  obtain ⟨A, c, rfl, hmc, hm, hry⟩ := hv
  have hyl := hide hry.len
  have B0 := hide (hbw.alloc hbw.size (.cells #[.int .i64 f, .slice A m c, .bool dn] 66))
  have G0 := hide (grownBS (World.grownBy.refl w (some sb)) ((Below.refl w.heap.size w).alloc (Nat.le_refl _) (.cells #[.int .i64 f, .slice A m c, .bool dn] 66)))
  have S0 := hide (hs.below ((Below.refl w.heap.size w).alloc (Nat.le_refl _) (.cells #[.int .i64 f, .slice A m c, .bool dn] 66)))
  go_enter Tryz.func175, Tryz.ntmps175
  go_wp2_with fail
  go_loopw [10] (fun i W => ∃ (k : Nat) (s2 : List Int), i = .int .i64 k ∧ k ≤ m ∧ StB W sb s2 ∧ followL s ys = followL s2 (ys.drop k) ∧ Below wb.heap.size wb W ∧ w.grownBy W (some sb)) (fun i _ => m - (intOf i).toNat)
  case atStart => exact ⟨0, s, rfl, Nat.zero_le _, S0.out, rfl, B0.out, G0.out⟩
  case round =>
    clear S0 B0 G0
    obtain ⟨k, s2, rfl, hkm, hst, he, bw, gw⟩ := hrel
    have HE := hide he; clear he
    by_cases hlt : k < m
    · obtain ⟨b2, o2, x, y, z, rfl, hbb2, hy, p0, p1, p2⟩ := hry.at_ hlt
      have a0 := (bw.cell (p := ⟨b2, o2 + k * 3, none⟩) hbb2).trans p0
      have a1 := (bw.cell (p := ⟨b2, o2 + k * 3 + 1, none⟩) hbb2).trans p1
      have a2 := (bw.cell (p := ⟨b2, o2 + k * 3 + 2, none⟩) hbb2).trans p2
      obtain ⟨hx12, hy0, hy2⟩ := hk (x, y, z) (List.mem_of_getElem? hy)
      dsimp only at hx12 hy0 hy2
      obtain ⟨yn, rfl⟩ : ∃ i : Nat, y = i := ⟨y.toNat, by omega⟩
      have hdrop : ys.drop k = (x, (yn : Int), z) :: ys.drop (k + 1) := by
        have hl : k < ys.length := (List.getElem?_eq_some_iff.1 hy).1
        rw [List.drop_eq_getElem_cons hl, (List.getElem?_eq_some_iff.1 hy).2]
      have hg : followL s ys = followL s2 ((x, (yn : Int), z) :: ys.drop (k + 1)) := by rw [HE.out, hdrop]
      have HG := hide hg
      have K1 := Blk.new wr 61 #[.int .i64 x, .int .i64 (yn : Int), .int .i64 z]
      have al : Below wr.heap.size wr (wr.alloc (.cells #[.int .i64 x, .int .i64 (yn : Int), .int .i64 z] 61)) := (Below.refl _ _).alloc (Nat.le_refl _) _
      have k0 : (0 : Int) ≤ k := by omega
      have k2 : (k : Int) < m := by omega
      have y0 : (0 : Int) ≤ yn := by omega
      have y2 : (yn : Int) < 3 := by omega
      clear p0 p1 p2 hy hdrop hg HE
      go_wp2_with fail
      refine (writesOp_c).mono ?_
      rintro e w2 ⟨rfl, b2⟩
      have BB := al.trans (b2.mono al.size)
      have K2 := K1.belowAll b2
      have hst2 := hst.below BB
      have bw2 := below_step bw BB
      have gw2 := grownBS gw BB
      have hlt1 : sb < wr.heap.size := hst.2.lt
      have hlt2 : wr.heap.size < w2.heap.size := K2.lt
      obtain ⟨f0, f1, f2⟩ := K2.three
      obtain ⟨sv, hsv, cz⟩ := hst2.cell (k := yn) (by omega)
      have fz := hst2.2.frozen yn
      clear a0 a1 a2 K1 al b2
      rcases hx12 with rfl | rfl
      · rw [show ((1 : Int) == 2) = false by rfl]
        have HST := hide hst2; have HBW := hide bw2; have HGW := hide gw2
        clear hst2 bw2 gw2
        by_cases hsz : sv = z
        · have hne : (sv != z) = false := by simpa using hsz
          have hf : followL s ys = followL s2 (ys.drop (k + 1)) := by
            rw [HG.out]; simp only [followL]
            rw [if_neg (by decide), if_pos (by rw [Int.toNat_natCast, List.getD_eq_getElem?_getD, hsv]; exact hsz)]
          have F := hide hf; clear hf hsv
          go_wp2_with fail
          go_big_quiet (fail)
          go_wp2_with fail
          go_roundw
          case rel => exact ⟨k + 1, s2, by go_num, by omega, HST.out, F.out, below_drewN HBW.out _, grownBS HGW.out (below_drewN (Below.refl _ _) _)⟩
          case measure => simp [intOf]; omega
        · have hne : (sv != z) = true := by simpa using hsz
          have hf : followL s ys = none := by
            rw [HG.out]; simp only [followL]
            rw [if_neg (by decide), if_neg (by rw [Int.toNat_natCast, List.getD_eq_getElem?_getD, hsv]; exact hsz)]
          have F := hide hf; clear hf hsv
          go_wp2_with fail
          go_big_quiet (fail)
          go_wp2_with fail
          go_ret
          exact ⟨by rw [F.out]; rfl, (fun s' e => by rw [F.out] at e; cases e), below_drewN HBW.out _, grownBS HGW.out (below_drewN (Below.refl _ _) _)⟩
      · rw [show ((2 : Int) == 2) = true by rfl]
        have hf : followL s ys = followL (s2.set yn z) (ys.drop (k + 1)) := by
          rw [HG.out]; simp only [followL]
          rw [if_pos (by decide), Int.toNat_natCast]
        have F := hide hf; clear hf hsv
        have hdr : Below w2.heap.size w2 w2.drew := (Below.refl _ _).drew
        have HST := hide ((hst2.below hdr).put yn z)
        have HBW := hide ((below_step bw2 hdr).setCell (p := ⟨sb, yn, none⟩) hsb (.int .i64 z))
        have HGW := hide (grown_setCell (p := ⟨sb, yn, none⟩) (grownBS gw2 hdr) (.inl rfl) (.int .i64 z))
        have K3 := (K2.belowAll hdr).far (p := ⟨sb, yn, none⟩) (by show wr.heap.size ≠ sb; omega) (.int .i64 z)
        have HK2 := hide K2; have HK3 := hide K3
        clear hst2 bw2 gw2 hdr K3
        go_upto_region 5 with fail
        go_region_held3 (fun V => V.cell? ⟨wr.heap.size, 1, none⟩ = some (.int .i64 (yn : Int)) ∧ V.cell? ⟨wr.heap.size, 2, none⟩ = some (.int .i64 z)) (first | exact ⟨HK2.out.cell 1, HK2.out.cell 2⟩ | exact ⟨HK3.out.cell 1, HK3.out.cell 2⟩) (fail)
        go_wp2_with fail
        go_roundw
        case rel => exact ⟨k + 1, _, by go_num, by omega, HST.out, F.out, HBW.out, HGW.out⟩
        case measure => simp [intOf]; omega
    · obtain rfl : k = m := by omega
      have h0 : ys.drop k = [] := List.drop_eq_nil_of_le (by rw [hyl.out]; omega)
      have he : followL s ys = some s2 := by rw [HE.out, h0]; rfl
      have F := hide he; clear h0 he
      go_wp2_with fail
      go_ret
      exact ⟨by rw [F.out]; rfl, (fun s' e => by rw [F.out] at e; injection e with e; rw [← e]; exact hst), bw, gw⟩
end Go.Proofs.YtcfkemchekmjbaaGreatDoor
