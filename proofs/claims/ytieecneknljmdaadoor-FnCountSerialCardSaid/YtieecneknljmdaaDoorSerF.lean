/- impl.store.follow. -/
import Derived.Test.YtieecneknljmdaaDoorSerS
import Derived.Test.YtieecneknljmdaaDoorHistV
import Derived.Deep.DeepCutAuto
import Derived.Deep.RegionHeld3
import Derived.BigQuiet
namespace Go.Proofs.YtieecneknljmdaaDoor
open Go.RowKit

/-- A store at block sb. -/
def StB (w : World) (sb : Nat) (s : List Int) : Prop := s.length = 3 ∧ Blk w sb 80 (s.map (Value.int .i64)).toArray
theorem StB.cell {w : World} {sb : Nat} {s : List Int} (h : StB w sb s) {k : Nat} (hk : k < 3) : ∃ v, s[k]? = some v ∧ w.cell? ⟨sb, k, none⟩ = some (.int .i64 v) := by
  have hl : k < s.length := by rw [h.1]; exact hk
  exact ⟨s[k], List.getElem?_eq_getElem hl, (h.2.cell k).trans (by simp [List.getElem?_eq_getElem hl])⟩
theorem StB.put {w : World} {sb : Nat} {s : List Int} (h : StB w sb s) (k : Nat) (v : Int) : StB (w.setCell ⟨sb, k, none⟩ (.int .i64 v)) sb (s.set k v) := by
  refine ⟨by simp [h.1], ?_⟩
  have := h.2.set_ k (.int .i64 v)
  simpa [List.map_set] using this
theorem StB.below {w w' : World} {sb : Nat} {s : List Int} (h : StB w sb s) (hb : Below w.heap.size w w') : StB w' sb s := ⟨h.1, h.2.belowAll hb⟩
theorem grownTS {a b c : World} {row : Option Nat} (h : a.grownBy b row) (k : b.grownBy c row) : a.grownBy c row :=
  ⟨k.os.trans h.os, k.tape.trans h.tape, k.output.trans h.output, Nat.le_trans h.size k.size, fun i hi hn => (k.block i (Nat.lt_of_lt_of_le hi h.size) hn).trans (h.block i hi hn)⟩
theorem grownBS {a b c : World} {row : Option Nat} (h : a.grownBy b row) (k : Below b.heap.size b c) : a.grownBy c row :=
  grownTS h ⟨k.os, k.tape, k.output, k.size, fun i hi _ => k.block i hi⟩
def FolR (wb w : World) (sb : Nat) (s : List Int) (ys : List T3) (e : Ending) (w' : World) : Prop :=
  e = .returned (.bool (followL s ys).isSome) ∧ (∀ s', followL s ys = some s' → StB w' sb s') ∧ Below wb.heap.size wb w' ∧ w.grownBy w' (some sb)
set_option maxRecDepth 100000 in
set_option maxHeartbeats 8000000 in
theorem follow_c {u : Value} {m sb : Nat} {ys : List T3} {f : Int} {dn : Bool} {s : List Int} {wb w : World} (hbw : Below wb.heap.size wb w) (hv : S3 wb u m ys) (hsb : wb.heap.size ≤ sb) (hs : StB w sb s) (hk : ∀ o ∈ ys, (o.1 = 1 ∨ o.1 = 2) ∧ 0 ≤ o.2.1 ∧ o.2.1 ≤ 2) :
    Calls Tryd.prog 49 #[.pointer (some ⟨sb, 0, none⟩), .agg #[.int .i64 f, u, .bool dn]] w (FolR wb w sb s ys) := by
  obtain ⟨A, c, rfl, hmc, hm, hry⟩ := hv
  have hyl := hide hry.len
  have B0 := hide (hbw.alloc hbw.size (.cells #[.int .i64 f, .slice A m c, .bool dn] 58))
  have G0 := hide (grownBS (World.grownBy.refl w (some sb)) ((Below.refl w.heap.size w).alloc (Nat.le_refl _) (.cells #[.int .i64 f, .slice A m c, .bool dn] 58)))
  have S0 := hide (hs.below ((Below.refl w.heap.size w).alloc (Nat.le_refl _) (.cells #[.int .i64 f, .slice A m c, .bool dn] 58)))
  go_enter Tryd.func49, Tryd.ntmps49
  go_wp2_with fail
  go_loopw [10] (fun i W => ∃ (k : Nat) (s2 : List Int), i = .int .i64 k ∧ k ≤ m ∧ StB W sb s2 ∧ followL s ys = followL s2 (ys.drop k) ∧ Below wb.heap.size wb W ∧ w.grownBy W (some sb)) (fun i _ => m - (intOf i).toNat)
  case atStart => exact ⟨0, s, rfl, Nat.zero_le _, S0.out, rfl, B0.out, G0.out⟩
  case round =>
    clear S0 B0 G0
    obtain ⟨k, s2, rfl, hkm, hst, he, bw, gw⟩ := hrel
    have HE := hide he; clear he
    by_cases hlt : k < m
    · obtain ⟨b2, o2, x, y, z, rfl, hbb2, hy, p0, p1, p2⟩ := hry.at_ hlt
      have a0 := (bw.cell (p := ⟨b2, o2 + k * 3, none⟩) hbb2).trans p0
      have a1 := (bw.cell (p := ⟨b2, o2 + k * 3 + 1, none⟩) hbb2).trans p1
      have a2 := (bw.cell (p := ⟨b2, o2 + k * 3 + 2, none⟩) hbb2).trans p2
      obtain ⟨hx12, hy0, hy2⟩ := hk (x, y, z) (List.mem_of_getElem? hy)
      dsimp only at hx12 hy0 hy2
      obtain ⟨yn, rfl⟩ : ∃ i : Nat, y = i := ⟨y.toNat, by omega⟩
      have hdrop : ys.drop k = (x, (yn : Int), z) :: ys.drop (k + 1) := by
        have hl : k < ys.length := (List.getElem?_eq_some_iff.1 hy).1
        rw [List.drop_eq_getElem_cons hl, (List.getElem?_eq_some_iff.1 hy).2]
      have hg : followL s ys = followL s2 ((x, (yn : Int), z) :: ys.drop (k + 1)) := by rw [HE.out, hdrop]
      have HG := hide hg
      have K1 := Blk.new wr 51 #[.int .i64 x, .int .i64 (yn : Int), .int .i64 z]
      have al : Below wr.heap.size wr (wr.alloc (.cells #[.int .i64 x, .int .i64 (yn : Int), .int .i64 z] 51)) := (Below.refl _ _).alloc (Nat.le_refl _) _
      have k0 : (0 : Int) ≤ k := by omega
      have k2 : (k : Int) < m := by omega
      have y0 : (0 : Int) ≤ yn := by omega
      have y2 : (yn : Int) < 3 := by omega
      clear p0 p1 p2 hy hdrop hg HE
      go_wp2_with fail
      refine (writesOp_c).mono ?_
      rintro e w2 ⟨rfl, b2⟩
      have BB := al.trans (b2.mono al.size)
      have K2 := K1.belowAll b2
      have hst2 := hst.below BB
      have bw2 := below_step bw BB
      have gw2 := grownBS gw BB
      have hlt1 : sb < wr.heap.size := hst.2.lt
      have hlt2 : wr.heap.size < w2.heap.size := K2.lt
      obtain ⟨f0, f1, f2⟩ := K2.three
      obtain ⟨sv, hsv, cz⟩ := hst2.cell (k := yn) (by omega)
      have fz := hst2.2.frozen yn
      clear a0 a1 a2 K1 al b2
      rcases hx12 with rfl | rfl
      · rw [show ((1 : Int) == 2) = false by rfl]
        have HST := hide hst2; have HBW := hide bw2; have HGW := hide gw2
        clear hst2 bw2 gw2
        by_cases hsz : sv = z
        · have hne : (sv != z) = false := by simpa using hsz
          have hf : followL s ys = followL s2 (ys.drop (k + 1)) := by
            rw [HG.out]; simp only [followL]
            rw [if_neg (by decide), if_pos (by rw [Int.toNat_natCast, List.getD_eq_getElem?_getD, hsv]; exact hsz)]
          have F := hide hf; clear hf hsv
          go_wp2_with fail
          go_big_quiet (fail)
          go_wp2_with fail
          go_roundw
          case rel => exact ⟨k + 1, s2, by go_num, by omega, HST.out, F.out, below_drewN HBW.out _, grownBS HGW.out (below_drewN (Below.refl _ _) _)⟩
          case measure => simp [intOf]; omega
        · have hne : (sv != z) = true := by simpa using hsz
          have hf : followL s ys = none := by
            rw [HG.out]; simp only [followL]
            rw [if_neg (by decide), if_neg (by rw [Int.toNat_natCast, List.getD_eq_getElem?_getD, hsv]; exact hsz)]
          have F := hide hf; clear hf hsv
          go_wp2_with fail
          go_big_quiet (fail)
          go_wp2_with fail
          go_ret
          exact ⟨by rw [F.out]; rfl, (fun s' e => by rw [F.out] at e; cases e), below_drewN HBW.out _, grownBS HGW.out (below_drewN (Below.refl _ _) _)⟩
      · rw [show ((2 : Int) == 2) = true by rfl]
        have hf : followL s ys = followL (s2.set yn z) (ys.drop (k + 1)) := by
          rw [HG.out]; simp only [followL]
          rw [if_pos (by decide), Int.toNat_natCast]
        have F := hide hf; clear hf hsv
        have hdr : Below w2.heap.size w2 w2.drew := (Below.refl _ _).drew
        have HST := hide ((hst2.below hdr).put yn z)
        have HBW := hide ((below_step bw2 hdr).setCell (p := ⟨sb, yn, none⟩) hsb (.int .i64 z))
        have HGW := hide (grown_setCell (p := ⟨sb, yn, none⟩) (grownBS gw2 hdr) (.inl rfl) (.int .i64 z))
        have K3 := (K2.belowAll hdr).far (p := ⟨sb, yn, none⟩) (by show wr.heap.size ≠ sb; omega) (.int .i64 z)
        have HK2 := hide K2; have HK3 := hide K3
        clear hst2 bw2 gw2 hdr K3
        go_upto_region 5 with fail
        go_region_held3 (fun V => V.cell? ⟨wr.heap.size, 1, none⟩ = some (.int .i64 (yn : Int)) ∧ V.cell? ⟨wr.heap.size, 2, none⟩ = some (.int .i64 z)) (first | exact ⟨HK2.out.cell 1, HK2.out.cell 2⟩ | exact ⟨HK3.out.cell 1, HK3.out.cell 2⟩) (fail)
        go_wp2_with fail
        go_roundw
        case rel => exact ⟨k + 1, _, by go_num, by omega, HST.out, F.out, HBW.out, HGW.out⟩
        case measure => simp [intOf]; omega
    · obtain rfl : k = m := by omega
      have h0 : ys.drop k = [] := List.drop_eq_nil_of_le (by rw [hyl.out]; omega)
      have he : followL s ys = some s2 := by rw [HE.out, h0]; rfl
      have F := hide he; clear h0 he
      go_wp2_with fail
      go_ret
      exact ⟨by rw [F.out]; rfl, (fun s' e => by rw [F.out] at e; injection e with e; rw [← e]; exact hst), bw, gw⟩

end Go.Proofs.YtieecneknljmdaaDoor
