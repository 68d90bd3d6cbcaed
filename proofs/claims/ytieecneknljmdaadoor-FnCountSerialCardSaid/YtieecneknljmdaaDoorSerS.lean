/- The reference's l12Runs. -/
import Derived.Test.YtieecneknljmdaaDoorSerP
import Derived.Test.YtieecneknljmdaaDoorHistS
import Derived.Test.YtieecneknljmdaaDoorInts
import Derived.BigQuiet
import Derived.Deep.RegionHeld3
import Derived.Deep.DeepCutAuto
namespace Go.Proofs.YtieecneknljmdaaDoor
open Go.RowKit

theorem make3S (w : World) : (Instr.makeSlice 27 (.int .i64 3) (.int .i64 3)).run Tryd.prog w = .ok (.slice (some ⟨w.heap.size, 0, none⟩) 3 3) (w.alloc (.cells (List.replicate 3 (Value.int .i64 0)).toArray 3)) := run_make_ints 3 (by omega) w
theorem set_sameS {s : List Int} {k : Nat} {z : Int} (hk : k < s.length) (h : s.getD k 0 = z) : s.set k z = s := by
  apply List.ext_getElem?
  intro i
  by_cases e : k = i
  · subst e
    rw [List.getElem?_set_self hk, List.getElem?_eq_getElem hk]
    rw [List.getD_eq_getElem?_getD, List.getElem?_eq_getElem hk] at h
    simp at h; rw [h]
  · rw [List.getElem?_set_ne e]
def goesOn (ts : List Tx) (s : List Int) (ys : List T3) (r : List Int) : Bool := match followL s ys with
  | none => false
  | some s' => runsF ts s' r
set_option maxRecDepth 100000 in
set_option maxHeartbeats 8000000 in
theorem l12Runs_c {A : Option Addr} {n c q : Nat} {ts : List Tx} {u : Value} {os : List Int} {w : World} (hr : RTs w A n ts) (hu : SI w u q os) (hin : ∀ x ∈ os, 0 ≤ x ∧ x < n) (hk : ∀ t ∈ ts, ∀ o ∈ t.2.1, (o.1 = 1 ∨ o.1 = 2) ∧ 0 ≤ o.2.1 ∧ o.2.1 ≤ 2) (hsm : SmallT ts) :
    Calls Tryd.prog 27 #[.slice A n c, u] w fun e w' => e = .returned (.bool (runsF ts [0, 0, 0] os)) ∧ Below w.heap.size w w' := by
  obtain ⟨Au, cu, rfl, hqc, hq, hri⟩ := hu
  have hql := hide hri.len
  have hmk := make3S
  have o0 : OI (w.alloc (.cells (List.replicate 3 (Value.int .i64 0)).toArray 3)) w.heap.size (.slice (some ⟨w.heap.size, 0, none⟩) 3 3) 3 [0, 0, 0] := OI.of_blk (Blk.new w _ _) (Nat.le_refl _) rfl rfl (by omega)
  have B0 : Below w.heap.size w (w.alloc (.cells (List.replicate 3 (Value.int .i64 0)).toArray 3)) := (Below.refl _ _).alloc (Nat.le_refl _) _
  have O0 := hide o0; have HB0 := hide B0; clear o0 B0
  go_enter Tryd.func27, Tryd.ntmps27
  go_wp2_with fail
  go_loopw [6] (fun i wr => ∃ (k : Nat) (s : List Int), i = .int .i64 k ∧ k ≤ q ∧ OI wr w.heap.size (.slice (some ⟨w.heap.size, 0, none⟩) 3 3) 3 s ∧ runsF ts [0, 0, 0] os = runsF ts s (os.drop k) ∧ Below w.heap.size w wr) (fun i _ => q - (intOf i).toNat)
  case atStart => exact ⟨0, _, rfl, Nat.zero_le _, O0.out, rfl, HB0.out⟩
  case round =>
    clear O0 HB0
    obtain ⟨k, s, rfl, hkq, hs, he, bw⟩ := hrel
    have HS := hide hs; have HE := hide he; clear hs he
    by_cases hkl : k < q
    · obtain ⟨b1, o1, x, rfl, hb1, hx, hc1⟩ := hri.at_ hkl
      have c1 := (bw.cell (p := ⟨b1, o1 + k, none⟩) hb1).trans hc1
      obtain ⟨hx0, hx1⟩ := hin x (List.mem_of_getElem? hx)
      obtain ⟨xn, rfl⟩ : ∃ j : Nat, x = j := ⟨x.toNat, by omega⟩
      obtain ⟨b, off, f, ys, dn, B, kk, d, rfl, hbb, ht, q0, q1, q2, hkd, hdm, hry⟩ := hr.at_ (k := xn) (by omega)
      have e1 := (bw.cell (p := ⟨b, off + xn * 3 + 1, none⟩) hbb).trans q1
      have hdrop : os.drop k = (xn : Int) :: os.drop (k + 1) := by
        have hl : k < os.length := (List.getElem?_eq_some_iff.1 hx).1
        rw [List.drop_eq_getElem_cons hl]
        have := (List.getElem?_eq_some_iff.1 hx).2
        rw [this]
      have hops : opsOf ts ((xn : Int)).toNat = ys := by unfold opsOf; rw [List.getD_eq_getElem?_getD, Int.toNat_natCast, ht]; rfl
      have hgo : runsF ts [0, 0, 0] os = goesOn ts s (ys.drop 0) (os.drop (k + 1)) := by rw [HE.out, hdrop]; unfold goesOn; rw [List.drop_zero, runsF, hops]; rfl
      have HK := hide (hk _ (List.mem_of_getElem? ht))
      have hyl := hide hry.len
      have hkk : kk ≤ 1048576 := by have := hsm _ (List.mem_of_getElem? ht); have h2 := hry.len; dsimp only at this; omega
      have HGO := hide hgo; have BW := hide bw
      have k0 : (0 : Int) ≤ k := by omega
      have k2 : (k : Int) < q := by omega
      have x0 : (0 : Int) ≤ xn := by omega
      have x2 : (xn : Int) < n := by omega
      clear q0 q1 q2 hx ht hdrop hops hgo bw
      go_wp2_with fail
      go_loopw [8] (fun i wr2 => ∃ (j : Nat) (s2 : List Int), i = .int .i64 j ∧ j ≤ kk ∧ OI wr2 w.heap.size (.slice (some ⟨w.heap.size, 0, none⟩) 3 3) 3 s2 ∧ runsF ts [0, 0, 0] os = goesOn ts s2 (ys.drop j) (os.drop (k + 1)) ∧ Below w.heap.size w wr2) (fun i _ => kk - (intOf i).toNat)
      case atStart => exact ⟨0, s, rfl, Nat.zero_le _, HS.out, HGO.out, BW.out⟩
      case round =>
        clear HS HGO BW c1 e1
        rename World => wr2
        obtain ⟨j, s2, rfl, hj, hs, hg, bw⟩ := hrel
        have hsl := hs.len
        by_cases hjk : j < kk
        · obtain ⟨b2, o2, x, y, z, rfl, hbb2, hy, p0, p1, p2⟩ := hry.at_ hjk
          have a0 := (bw.cell (p := ⟨b2, o2 + j * 3, none⟩) hbb2).trans p0
          have a1 := (bw.cell (p := ⟨b2, o2 + j * 3 + 1, none⟩) hbb2).trans p1
          have a2 := (bw.cell (p := ⟨b2, o2 + j * 3 + 2, none⟩) hbb2).trans p2
          obtain ⟨hx12, hy0, hy2⟩ := HK.out (x, y, z) (List.mem_of_getElem? hy)
          dsimp only at hx12 hy0 hy2
          obtain ⟨yn, rfl⟩ : ∃ i : Nat, y = i := ⟨y.toNat, by omega⟩
          obtain ⟨sv, hsv, cz⟩ := hs.cell yn (by omega)
          have fz := hs.free yn
          have hdrop : ys.drop j = (x, (yn : Int), z) :: ys.drop (j + 1) := by
            have hl : j < ys.length := (List.getElem?_eq_some_iff.1 hy).1
            rw [List.drop_eq_getElem_cons hl, (List.getElem?_eq_some_iff.1 hy).2]
          have hgd : s2.getD yn 0 = sv := by rw [List.getD_eq_getElem?_getD, hsv]; rfl
          rw [hdrop] at hg
          have j0 : (0 : Int) ≤ j := by omega
          have j2 : (j : Int) < kk := by omega
          have j3 : decide ((j : Int) < 0) = false := by simp
          have j4 : decide (kk ≤ j) = false := by simp; omega
          have y0 : (0 : Int) ≤ yn := by omega
          have y2 : (yn : Int) < 3 := by omega
          have y3 : decide ((yn : Int) < 0) = false := by simp
          have y4 : decide (3 ≤ yn) = false := by simp; omega
          have hc : ∀ W, Below w.heap.size w W → W.cell? ⟨b2, o2 + j * 3 + 1, none⟩ = some (.int .i64 (yn : Int)) ∧ W.cell? ⟨b2, o2 + j * 3 + 2, none⟩ = some (.int .i64 z) := fun W h => ⟨(h.cell (p := ⟨b2, o2 + j * 3 + 1, none⟩) hbb2).trans p1, (h.cell (p := ⟨b2, o2 + j * 3 + 2, none⟩) hbb2).trans p2⟩
          have HC := hide hc; have HYN := hide hsv; have HGD := hide hgd; have HG := hide hg; have BW := hide bw; have HS2 := hide hs
          clear p0 p1 p2 hy hdrop hsv hgd hg hc bw hs
          rcases hx12 with rfl | rfl
          · by_cases hsz : sv = z
            · have hne : (sv != z) = false := by simpa using hsz
              go_wp2_with fail
              go_big_quiet (fail)
              go_upto_region 11 with fail
              rename Nat => nq
              have BQ : Below wr2.heap.size wr2 (wr2.drewN nq).drew := (below_drewN (Below.refl _ _) nq).drew
              have BQ2 : Below w.heap.size w (wr2.drewN nq).drew := below_step BW.out BQ
              have O5 := hide ((HS2.out.below BQ).store yn z)
              have HG2 := hide (show runsF ts [0, 0, 0] os = goesOn ts (s2.set yn z) (ys.drop (j + 1)) (os.drop (k + 1)) by
                rw [set_sameS (by omega) (by rw [HGD.out]; exact hsz), HG.out]; unfold goesOn; simp only [followL]; rw [if_neg (by decide), if_pos (by rw [Int.toNat_natCast, HGD.out]; exact hsz)])
              go_region_held3 (fun W => W.cell? ⟨b2, o2 + j * 3 + 1, none⟩ = some (.int .i64 (yn : Int)) ∧ W.cell? ⟨b2, o2 + j * 3 + 2, none⟩ = some (.int .i64 z)) (first | exact HC.out _ BQ2 | exact HC.out _ (BQ2.setCell (p := ⟨w.heap.size, yn, none⟩) (Nat.le_refl _) _)) (fail)
              go_wp2_with fail
              go_roundw
              case rel => exact ⟨j + 1, _, by go_num, by omega, O5.out, HG2.out, BQ2.setCell (p := ⟨w.heap.size, yn, none⟩) (Nat.le_refl _) _⟩
              case measure => simp [intOf]; omega
            · have hne : (sv != z) = true := by simpa using hsz
              have hf : runsF ts [0, 0, 0] os = false := by rw [HG.out]; unfold goesOn; simp only [followL]; rw [if_neg (by decide), if_neg (by rw [Int.toNat_natCast, HGD.out]; exact hsz)]
              have F := hide hf; clear hf
              go_wp2_with fail
              go_big_quiet (fail)
              go_wp2_with fail
              go_ret
              exact ⟨by rw [F.out]; rfl, below_drewN BW.out _⟩
          · go_wp2_with fail
            go_big_quiet (fail)
            go_upto_region 11 with fail
            rename Nat => nq
            have BQ : Below wr2.heap.size wr2 (wr2.drewN nq).drew := (below_drewN (Below.refl _ _) nq).drew
            have BQ2 : Below w.heap.size w (wr2.drewN nq).drew := below_step BW.out BQ
            have O5 := hide ((HS2.out.below BQ).store yn z)
            have HG2 := hide (show runsF ts [0, 0, 0] os = goesOn ts (s2.set yn z) (ys.drop (j + 1)) (os.drop (k + 1)) by
              rw [HG.out]; unfold goesOn; simp only [followL]; rw [if_pos (by decide), Int.toNat_natCast])
            go_region_held3 (fun W => W.cell? ⟨b2, o2 + j * 3 + 1, none⟩ = some (.int .i64 (yn : Int)) ∧ W.cell? ⟨b2, o2 + j * 3 + 2, none⟩ = some (.int .i64 z)) (first | exact HC.out _ BQ2 | exact HC.out _ (BQ2.setCell (p := ⟨w.heap.size, yn, none⟩) (Nat.le_refl _) _)) (fail)
            go_wp2_with fail
            go_roundw
            case rel => exact ⟨j + 1, _, by go_num, by omega, O5.out, HG2.out, BQ2.setCell (p := ⟨w.heap.size, yn, none⟩) (Nat.le_refl _) _⟩
            case measure => simp [intOf]; omega
        · obtain rfl : j = kk := by omega
          have h0 : ys.drop j = [] := List.drop_eq_nil_of_le (by rw [hyl.out]; omega)
          have he : runsF ts [0, 0, 0] os = runsF ts s2 (os.drop (k + 1)) := by rw [hg, h0]; rfl
          have HE2 := hide he; have HS2 := hide hs; have BW := hide bw
          clear h0 he hs bw hg
          go_wp2_with fail
          go_roundw
          case rel => exact ⟨k + 1, s2, by go_num, by omega, HS2.out, HE2.out, BW.out⟩
          case measure => simp [intOf]; omega
    · obtain rfl : k = q := by omega
      have h0 : os.drop k = [] := List.drop_eq_nil_of_le (by rw [hql.out]; omega)
      have he : runsF ts [0, 0, 0] os = true := by rw [HE.out, h0]; rfl
      have F := hide he; clear h0 he
      go_wp2_with fail
      go_ret
      exact ⟨by rw [F.out]; rfl, bw⟩

end Go.Proofs.YtieecneknljmdaaDoor
