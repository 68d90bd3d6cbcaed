/- Merged (what the law reaches): Fst, MatP, Mat1. -/
import Derived.Test.YtcfkemchekmjbaaGreatDoorVz
import Derived.Laws.Bits64
import Derived.Laws.BitsAllLaws
import Derived.Deep.DeepCutAuto
namespace Go.Proofs.YtcfkemchekmjbaaGreatDoor
open Go.RowKit Go.Maps
theorem kF_inj {x y : Int} (h : kF x = kF y) : x = y := by unfold kF at h; injection h
set_option maxRecDepth 100000 in
theorem plainB_inv2 {H : Type} {v : Value} {z : DataW H × List MemPlace} (h : plainElem Tryz.prog 4 v = some z) : ∃ x, v = .bool x ∧ z = (.lit (.bool x), []) := by
  unfold plainElem at h
  rw [Tryz.underlying4] at h
  cases v <;> simp at h
  exact ⟨_, rfl, h.symm⟩
/-- The map at block b: the keys of os. -/
def TX (w : World) (b n : Nat) (os : List T3) : Prop := ∃ D : DataW Unit, w.ownsMap Tryz.prog 3 (plainElem Tryz.prog 4) b n D ∧ ∀ q, D.atKey (kF q) (.lit (.bool false)) = .lit (.bool (lastO os q).isSome)
theorem TX.zero (w : World) : TX (w.alloc (.map #[] 0)) w.heap.size 0 [] := ⟨_, World.ownsMap_made w _ _ _, fun _ => rfl⟩
theorem TX.lt {w : World} {b n : Nat} {os : List T3} (h : TX w b n os) : b < w.heap.size := by obtain ⟨D, ho, _⟩ := h; exact ho.lt
theorem TX.below {w w' : World} {b n : Nat} {os : List T3} (h : TX w b n os) (hb : Below w.heap.size w w') : TX w' b n os := by
  obtain ⟨D, ho, h2⟩ := h
  have hlt := ho.lt
  obtain ⟨es, cl, h3, h4⟩ := ho
  exact ⟨D, ⟨es, cl, (hb.block b hlt).trans h3, h4⟩, h2⟩
theorem TX.grown {w w' : World} {b n : Nat} {row : Option Nat} {os : List T3} (h : TX w b n os) (hg : w.grownBy w' row) (hne : some b ≠ row) : TX w' b n os := by
  obtain ⟨D, ho, h2⟩ := h
  have hlt := ho.lt
  obtain ⟨es, cl, h3, h4⟩ := ho
  exact ⟨D, ⟨es, cl, (hg.block b hlt hne).trans h3, h4⟩, h2⟩
theorem TX.alloc {w : World} {b n : Nat} {os : List T3} (h : TX w b n os) (o : Obj) : TX (w.alloc o) b n os := h.below ((Below.refl _ _).alloc (Nat.le_refl _) _)
theorem TX.tm {w : World} {b n : Nat} {os : List T3} (h : TX w b n os) : TM w b n := by obtain ⟨D, ho, _⟩ := h; exact ⟨D, ho⟩
set_option maxRecDepth 100000 in
theorem TX.look {w : World} {b n : Nat} {os : List T3} {y : Int} (h : TX w b n os) (h0 : 0 ≤ y) (h1 : y ≤ 1000) : (Instr.lookup 179 (.map (some b)) (.int .i64 y) false).run Tryz.prog w = .ok (.bool (lastO os y).isSome) w := by
  obtain ⟨D, hown, hD⟩ := h
  obtain ⟨v, ps, hrun, hv⟩ := hown.lookup lawIntF Tryz.underlying179 (zeroBo w) (plainB false) (keyF h0 h1)
  obtain ⟨c, rfl, hc⟩ := plainB_inv2 hv
  have hc1 := congrArg Prod.fst hc
  have e : c = (lastO os y).isSome := by
    have := (hD y).symm.trans hc1
    injection this with this; injection this with this; exact this.symm
  rw [← e]
  simpa using hrun
theorem TX.step {w' : World} {b n k : Nat} {os : List T3} {o : T3} {D : DataW Unit} (hm : IsMap D) (h2 : ∀ q, D.atKey (kF q) (.lit (.bool false)) = .lit (.bool (lastO (os.take k) q).isSome))
    (hk : os[k]? = some o) (h : w'.ownsMap Tryz.prog 3 (plainElem Tryz.prog 4) b n (D.put (kF o.2.1) (.lit (.bool true)))) : TX w' b n (os.take (k + 1)) := by
  refine ⟨_, h, fun q => ?_⟩
  rw [List.take_add_one, hk]
  simp only [Option.toList_some]
  rw [lastO_snoc]
  by_cases e : o.2.1 = q
  · subst e
    rw [if_pos rfl, atKey_put_same hm (show Go.WideAt.IsKeyLit (kF _) from trivial)]; rfl
  · rw [if_neg e, atKey_put_other (fun h => e (kF_inj h).symm)]
    exact h2 q
set_option maxRecDepth 100000 in
set_option maxHeartbeats 8000000 in
theorem firstReads_x {u : Value} {m : Nat} {ys : List T3} {f : Int} {dn : Bool} {w : World} (hu : S3 w u m ys) (hm : m ≤ 6) (hk : ∀ o ∈ ys, 0 ≤ o.2.1 ∧ o.2.1 ≤ 2) :
    Calls Tryz.prog 101 #[.agg #[.int .i64 f, u, .bool dn]] w fun e w' => ∃ A n, e = .returned (.slice A n n) ∧ n ≤ m ∧ SO w' (.slice A n n) n (firstR ys) ∧ Below w.heap.size w w' := by
  obtain ⟨A, c, rfl, hnc, hmm, hr⟩ := hu
  have hl := hide hr.len
  have hmk := fun (v : World) => run_makeMap (P := Tryz.prog) 179 v
  have hm3 := made3
  have KB := Blk.new w 66 #[.int .i64 f, .slice A m c, .bool dn]
  have o0 := ((made3_o (w.alloc (.cells #[.int .i64 f, .slice A m c, .bool dn] 66))).mono (B' := w.heap.size) (by simp)).alloc (.map #[] 0)
  have T0 := TX.zero ((w.alloc (.cells #[.int .i64 f, .slice A m c, .bool dn] 66)).alloc (.cells (madeCells #[.int .i64 0, .int .i64 0, .int .i64 0] 9) 61))
  have B0 : Below w.heap.size w (((w.alloc (.cells #[.int .i64 f, .slice A m c, .bool dn] 66)).alloc (.cells (madeCells #[.int .i64 0, .int .i64 0, .int .i64 0] 9) 61)).alloc (.map #[] 0)) := (((Below.refl w.heap.size w).alloc (Nat.le_refl _) _).alloc (by simp) _).alloc (by simp <;> omega) _
  simp only [World.size_alloc] at o0 T0
  have O0 := hide o0; have T0' := hide T0; have B0' := hide B0
  clear o0 T0 B0 KB
  go_enter Tryz.func101, Tryz.ntmps101
  go_wp2_with fail
  go_loopw [3, 12] (fun v i W => ∃ (k n : Nat), i = .int .i64 k ∧ k ≤ m ∧ O3 61 W w.heap.size v n (firstTo ys k) ∧ n ≤ k ∧ TX W (w.heap.size + 1 + 1) k (ys.take k) ∧ Below w.heap.size w W) (fun _ i _ => m - (intOf i).toNat)
  case atStart => exact ⟨0, 0, rfl, Nat.zero_le _, O0.out, Nat.le_refl _, T0'.out, B0'.out⟩
  case round =>
    clear O0 T0' B0' hm3 hmk
    rename World => wr
    obtain ⟨k, n, rfl, hkm, ho, hnk, hT, bw⟩ := hrel
    by_cases hlt : k < m
    · obtain ⟨b, off, x, y, z, rfl, hbb, hx, p0, p1, p2⟩ := hr.at_ hlt
      have a0 := (bw.cell (p := ⟨b, off + k * 3, none⟩) hbb).trans p0
      have a1 := (bw.cell (p := ⟨b, off + k * 3 + 1, none⟩) hbb).trans p1
      have a2 := (bw.cell (p := ⟨b, off + k * 3 + 2, none⟩) hbb).trans p2
      obtain ⟨hy0, hy2⟩ := hk _ (List.mem_of_getElem? hx)
      dsimp only at hy0 hy2
      have HX := hide hx
      clear hx p0 p1 p2
      have k0 : (0 : Int) ≤ k := by omega
      have k2 : (k : Int) < m := by omega
      have K1 := Blk.new wr 61 #[.int .i64 x, .int .i64 y, .int .i64 z]
      have b1 : Below w.heap.size w (wr.alloc (.cells #[.int .i64 x, .int .i64 y, .int .i64 z] 61)) := bw.alloc bw.size _
      have ho1 := ho.alloc (.cells #[.int .i64 x, .int .i64 y, .int .i64 z] 61)
      have hT1 := hT.alloc (.cells #[.int .i64 x, .int .i64 y, .int .i64 z] 61)
      have hfr := ho.fresh
      clear ho hT
      go_wp2_with fail
      refine (readsOp_c).mono ?_
      rintro e w2 ⟨rfl, b2⟩
      have B2 := below_step b1 b2
      have K2 := K1.belowAll b2
      have ho2 := ho1.below b2
      have hT2 := hT1.below b2
      have hlt2 := hT2.lt
      obtain ⟨f0, f1, f2⟩ := K2.three
      clear K1 ho1 hT1 b1 b2 bw a0 a1 a2
      by_cases hx1 : x = 1
      · subst hx1
        rw [show ((1 : Int) == 1) = true by rfl]
        have hlk := hT2.look hy0 (by omega)
        by_cases hlo : lastO (ys.take k) y = none
        · rw [hlo] at hlk
          have HF := hide (firstTo_yes HX.out rfl hlo)
          have KN := Blk.new w2 61 #[.int .i64 1, .int .i64 y, .int .i64 z]
          have ho3 := ho2.alloc (.cells #[.int .i64 1, .int .i64 y, .int .i64 z] 61)
          have hT3 := hT2.alloc (.cells #[.int .i64 1, .int .i64 y, .int .i64 z] 61)
          have B3 := B2.alloc B2.size (.cells #[.int .i64 1, .int .i64 y, .int .i64 z] 61)
          have K3 := K2.alloc (.cells #[.int .i64 1, .int .i64 y, .int .i64 z] 61)
          have hs3 := B2.size
          clear ho2 hT2 K2 hlo
          have f0' := K3.three
          obtain ⟨e0, e1, e2⟩ := f0'
          go_upto_region 8 with (at_builtin; refine wpList_app3 rfl _ _ rfl Tryz.underlying64 infoOh rfl ho3 rfl (S3.one KN (Nat.le_refl _)) (by omega) (by simp <;> omega) ?_; intro v4 w4 o4 hg4 hat4)
          have hT4 := hT3.grown hg4 (TM.ne hT3.tm ho3.1)
          have B4 := below_app3 B3 ho3 (Nat.le_refl _) hg4
          have K4 : w4.cell? ⟨wr.heap.size, 1, none⟩ = some (.int .i64 y) := (K3.grown hg4 hfr).cell 1
          rw [← HF.out] at o4
          clear f0 f1 f2 ho3 hT3 K3 KN hlk
          obtain ⟨D, hown, hD⟩ := hT4
          have HD := hide hD
          have hown2 := hown
          have HM := hide hown.isMap
          have hneO := TM.ne ⟨D, hown⟩ o4.1
          have KF := hide (keyF (x := y) (by omega) (by omega))
          clear hD
          go_wp2_with (at_mapUpdate; refine wpList_mapUpdate_own _ rfl _ _ _ 179 rfl 3 4 lawIntF Tryz.underlying179 (plainElem Tryz.prog 4) (w.heap.size + 1 + 1) k D rfl hown2 (by unfold maxLen; omega) _ _ _ rfl rfl KF.out _ [] (plainB true) ?_; intro w9 hown9 hg9)
          go_roundw
          case rel => exact ⟨k + 1, n + 1, by go_num, by omega, O3.grown o4 hg9 (.inr (fun e => hneO e.symm)), by omega, TX.step HM.out HD.out HX.out hown9, B4.grown hg9 B4.size (fun j e => by injection e with e; omega)⟩
          case measure => simp [intOf]; omega
        · have hsm : (lastO (ys.take k) y).isSome = true := by cases h : lastO (ys.take k) y with
            | none => exact absurd h hlo
            | some p => rfl
          rw [hsm] at hlk
          have HF := hide (firstTo_no HX.out (fun h => hlo h.2))
          clear K2 hlo hsm
          obtain ⟨D, hown, hD⟩ := hT2
          have HD := hide hD
          have hown2 := hown
          have HM := hide hown.isMap
          have hneO := TM.ne ⟨D, hown⟩ ho2.1
          have KF := hide (keyF (x := y) (by omega) (by omega))
          clear hD
          go_wp2_with (at_mapUpdate; refine wpList_mapUpdate_own _ rfl _ _ _ 179 rfl 3 4 lawIntF Tryz.underlying179 (plainElem Tryz.prog 4) (w.heap.size + 1 + 1) k D rfl hown2 (by unfold maxLen; omega) _ _ _ rfl rfl KF.out _ [] (plainB true) ?_; intro w9 hown9 hg9)
          go_roundw
          case rel => exact ⟨k + 1, n, by go_num, by omega, by rw [HF.out]; exact O3.grown ho2 hg9 (.inr (fun e => hneO e.symm)), by omega, TX.step HM.out HD.out HX.out hown9, B2.grown hg9 B2.size (fun j e => by injection e with e; omega)⟩
          case measure => simp [intOf]; omega
      · have hxb : (x == 1) = false := by simpa using hx1
        have HF := hide (firstTo_no HX.out (fun h => hx1 h.1))
        rw [hxb]
        go_upto_region 8 with fail
        clear K2 hx1
        obtain ⟨D, hown, hD⟩ := hT2
        have HD := hide hD
        have hown2 := hown
        have HM := hide hown.isMap
        have hneO := TM.ne ⟨D, hown⟩ ho2.1
        have KF := hide (keyF (x := y) (by omega) (by omega))
        clear hD
        go_wp2_with (at_mapUpdate; refine wpList_mapUpdate_own _ rfl _ _ _ 179 rfl 3 4 lawIntF Tryz.underlying179 (plainElem Tryz.prog 4) (w.heap.size + 1 + 1) k D rfl hown2 (by unfold maxLen; omega) _ _ _ rfl rfl KF.out _ [] (plainB true) ?_; intro w9 hown9 hg9)
        go_roundw
        case rel => exact ⟨k + 1, n, by go_num, by omega, by rw [HF.out]; exact O3.grown ho2 hg9 (.inr (fun e => hneO e.symm)), by omega, TX.step HM.out HD.out HX.out hown9, B2.grown hg9 B2.size (fun j e => by injection e with e; omega)⟩
        case measure => simp [intOf]; omega
    · obtain rfl : k = m := by omega
      obtain ⟨Ao, co, rfl⟩ := ho.shape
      obtain ⟨A', rc, sc⟩ := slice3 ho
      have hfr : firstTo ys k = firstR ys := by unfold firstR; rw [hl.out]
      rw [hfr] at sc
      have HR3 := hide sc
      clear sc hfr
      go_wp2_with fail
      go_ret
      exact ⟨A', n, rfl, hnk, HR3.out, bw⟩
end Go.Proofs.YtcfkemchekmjbaaGreatDoor

namespace Go.Proofs.YtcfkemchekmjbaaGreatDoor
open Go.RowKit
/-- Reached over the first k nodes. -/
def WK (R : Nat → Nat → Prop) : Nat → Nat → Nat → Prop
  | 0, i, j => R i j
  | k + 1, i, j => WK R k i j ∨ (WK R k i k ∧ WK R k k j)
theorem WK.way {R : Nat → Nat → Prop} : ∀ (k i j : Nat), WK R k i j → Way R i j
  | 0, _, _, h => .one h
  | k + 1, i, j, h => by
    rcases h with h | ⟨h, g⟩
    · exact WK.way k i j h
    · exact (WK.way k i k h).trans (WK.way k k j g)
theorem WK.to {R : Nat → Nat → Prop} {k i : Nat} : WK R (k + 1) i k ↔ WK R k i k := ⟨fun h => h.elim id (fun h => h.1), .inl⟩
theorem WK.from {R : Nat → Nat → Prop} {k j : Nat} : WK R (k + 1) k j ↔ WK R k k j := ⟨fun h => h.elim id (fun h => h.2), .inl⟩
theorem WK.trans {R : Nat → Nat → Prop} : ∀ (k m i j : Nat), m < k → WK R k i m → WK R k m j → WK R k i j
  | 0, m, i, j, hm, _, _ => by omega
  | k + 1, m, i, j, hm, h, g => by
    by_cases e : m = k
    · subst e
      exact .inr ⟨WK.to.1 h, WK.from.1 g⟩
    · have hm' : m < k := by omega
      rcases h with h | ⟨h1, h2⟩
      · rcases g with g | ⟨g1, g2⟩
        · exact .inl (WK.trans k m i j hm' h g)
        · exact .inr ⟨WK.trans k m i k hm' h g1, g2⟩
      · rcases g with g | ⟨g1, g2⟩
        · exact .inr ⟨h1, WK.trans k m k j hm' h2 g⟩
        · exact .inr ⟨h1, g2⟩
theorem WK.base {R : Nat → Nat → Prop} : ∀ (k i j : Nat), R i j → WK R k i j
  | 0, _, _, h => h
  | k + 1, i, j, h => .inl (WK.base k i j h)
theorem WK.of_way {R : Nat → Nat → Prop} {n : Nat} (hR : ∀ i j, R i j → j < n) {i j : Nat} (h : Way R i j) : WK R n i j := by
  induction h with
  | one h => exact WK.base _ _ _ h
  | cons h _ ih => exact WK.trans n _ _ _ (hR _ _ h) (WK.base _ _ _ h) ih
/-- A matrix of bits that is a relation. -/
def MatOf (ms : List Nat) (R : Nat → Nat → Prop) : Prop := ms.length = 6 ∧ (∀ x ∈ ms, x < 64) ∧ ∀ i j, i < 6 → j < 6 → ((ms.getD i 0).testBit j = true ↔ R i j)
theorem MatOf.lt {ms : List Nat} {R : Nat → Nat → Prop} (h : MatOf ms R) (i : Nat) : ms.getD i 0 < 64 := by
  rw [List.getD_eq_getElem?_getD]
  cases e : ms[i]? with
  | none => simp
  | some x => exact h.2.1 x (List.mem_of_getElem? e)
theorem MatOf.get {ms : List Nat} {R : Nat → Nat → Prop} (h : MatOf ms R) {i : Nat} (hi : i < 6) : ms[i]? = some (ms.getD i 0) := by
  have hl : i < ms.length := by rw [h.1]; exact hi
  rw [List.getD_eq_getElem?_getD, List.getElem?_eq_getElem hl]; rfl
theorem MatOf.congr {ms : List Nat} {R S : Nat → Nat → Prop} (h : MatOf ms R) (hs : ∀ i j, i < 6 → j < 6 → (R i j ↔ S i j)) : MatOf ms S :=
  ⟨h.1, h.2.1, fun i j hi hj => (h.2.2 i j hi hj).trans (hs i j hi hj)⟩
theorem getD_setN (xs : List Nat) (i j v : Nat) (hi : i < xs.length) : (xs.set i v).getD j 0 = if i = j then v else xs.getD j 0 := by
  simp only [List.getD_eq_getElem?_getD]
  by_cases e : i = j
  · subst e; rw [if_pos rfl, List.getElem?_set_self hi]; rfl
  · rw [if_neg e, List.getElem?_set_ne e]
theorem or64 {a b : Nat} (ha : a < 64) (hb : b < 64) : a ||| b < 64 := Nat.or_lt_two_pow (n := 6) ha hb
theorem MatOf.or {ms : List Nat} {R : Nat → Nat → Prop} (h : MatOf ms R) {i x : Nat} (hi : i < 6) (hx : x < 64) (Q : Nat → Prop) (hq : ∀ j, j < 6 → (x.testBit j = true ↔ Q j)) :
    MatOf (ms.set i (ms.getD i 0 ||| x)) (fun a b => R a b ∨ (a = i ∧ Q b)) := by
  refine ⟨by rw [List.length_set]; exact h.1, fun y hy => ?_, fun a b ha hb => ?_⟩
  · rcases List.mem_or_eq_of_mem_set hy with hy | rfl
    · exact h.2.1 y hy
    · exact or64 (h.lt i) hx
  · rw [getD_setN _ _ _ _ (by rw [h.1]; exact hi)]
    by_cases e : i = a
    · subst e
      rw [if_pos rfl, Nat.testBit_or, Bool.or_eq_true, h.2.2 i b hi hb, hq b hb]
      constructor
      · rintro (x | x)
        · exact .inl x
        · exact .inr ⟨rfl, x⟩
      · rintro (x | ⟨_, x⟩)
        · exact .inl x
        · exact .inr x
    · rw [if_neg e, h.2.2 a b ha hb]
      constructor
      · exact .inl
      · rintro (x | ⟨x, _⟩)
        · exact x
        · exact absurd x.symm e
/-- In the middle of a round. -/
def WM (R : Nat → Nat → Prop) (k i : Nat) (a b : Nat) : Prop := if a < i then WK R (k + 1) a b else WK R k a b
theorem MatOf.hit {ms : List Nat} {R : Nat → Nat → Prop} {k i : Nat} (h : MatOf ms (WM R k i)) (hk : k < 6) (hi : i < 6) (hb : (ms.getD i 0).testBit k = true) : MatOf (ms.set i (ms.getD i 0 ||| ms.getD k 0)) (WM R k (i + 1)) := by
  have h1 : WK R k i k := by have := (h.2.2 i k hi hk).1 hb; unfold WM at this; rw [if_neg (by omega)] at this; exact this
  refine (h.or hi (h.lt k) (fun j => WK R k k j) (fun j hj => ?_)).congr (fun a b ha hb => ?_)
  · rw [h.2.2 k j hk hj]
    unfold WM
    by_cases e : k < i
    · rw [if_pos e]; exact WK.from
    · rw [if_neg e]
  · unfold WM
    by_cases e : a = i
    · subst e
      rw [if_neg (by omega), if_pos (by omega)]
      constructor
      · rintro (x | ⟨_, x⟩)
        · exact .inl x
        · exact .inr ⟨h1, x⟩
      · rintro (x | ⟨_, x⟩)
        · exact .inl x
        · exact .inr ⟨rfl, x⟩
    · by_cases e2 : a < i
      · rw [if_pos e2, if_pos (by omega)]
        exact ⟨fun x => x.elim id (fun x => absurd x.1 e), .inl⟩
      · rw [if_neg e2, if_neg (by omega)]
        exact ⟨fun x => x.elim id (fun x => absurd x.1 e), .inl⟩
theorem MatOf.miss {ms : List Nat} {R : Nat → Nat → Prop} {k i : Nat} (h : MatOf ms (WM R k i)) (hk : k < 6) (hi : i < 6) (hb : (ms.getD i 0).testBit k = false) : MatOf ms (WM R k (i + 1)) := by
  have h1 : ¬ WK R k i k := fun hw => by
    have := (h.2.2 i k hi hk).2 (by unfold WM; rw [if_neg (by omega)]; exact hw)
    rw [hb] at this; cases this
  refine h.congr (fun a b ha hb => ?_)
  unfold WM
  by_cases e : a = i
  · subst e
    rw [if_neg (by omega), if_pos (by omega)]
    constructor
    · exact .inl
    · rintro (x | ⟨x, _⟩)
      · exact x
      · exact absurd x h1
  · by_cases e2 : a < i
    · rw [if_pos e2, if_pos (by omega)]
    · rw [if_neg e2, if_neg (by omega)]
theorem MatOf.start {ms : List Nat} {R : Nat → Nat → Prop} {k : Nat} (h : MatOf ms (WK R k)) : MatOf ms (WM R k 0) := h.congr fun a b _ _ => by unfold WM; rw [if_neg (by omega)]
theorem MatOf.end_ {ms : List Nat} {R : Nat → Nat → Prop} {k : Nat} (h : MatOf ms (WM R k 6)) : MatOf ms (WK R (k + 1)) := h.congr fun a b ha _ => by unfold WM; rw [if_pos ha]
theorem MatOf.zero : MatOf [0, 0, 0, 0, 0, 0] (fun _ _ => False) := ⟨rfl, fun x hx => by simp at hx; omega, fun i j hi _ => by
  have : ([0, 0, 0, 0, 0, 0] : List Nat).getD i 0 = 0 := by
    match i, hi with
    | 0, _ => rfl
    | 1, _ => rfl
    | 2, _ => rfl
    | 3, _ => rfl
    | 4, _ => rfl
    | 5, _ => rfl
  rw [this]; simp⟩
theorem bit_and {g m : Nat} (h1 : g < 64) : (bits .and .u64 ((g : Int) / 2 ^ m) 1 == 1) = g.testBit m := by
  have e : ((g : Int) / 2 ^ m) = ((g / 2 ^ m : Nat) : Int) := by
    rw [Int.natCast_ediv]; congr 1
  have hq : g / 2 ^ m ≤ g := Nat.div_le_self _ _
  rw [e, show (1 : Int) = ((1 : Nat) : Int) from rfl, u64_and_nat _ _ (by omega) (by omega)]
  rw [Nat.and_one_is_mod, Nat.testBit_eq_decide_div_mod_eq, Bool.eq_iff_iff]
  simp
  omega
theorem bit_or {a b : Nat} (ha : a < 64) (hb : b < 64) : bits .or .u64 (a : Int) (b : Int) = ((a ||| b : Nat) : Int) := u64_or_nat a b (by omega) (by omega)
theorem pow64 {m : Nat} (hm : m < 6) : 2 ^ m < 64 := Nat.pow_lt_pow_right (by omega) hm
theorem wrap_pow {m : Nat} (hm : m < 6) : IntKind.u64.wrap (2 ^ m) = ((2 ^ m : Nat) : Int) := by
  match m, hm with
  | 0, _ => rfl
  | 1, _ => rfl
  | 2, _ => rfl
  | 3, _ => rfl
  | 4, _ => rfl
  | 5, _ => rfl
/-- The matrix as a value. -/
def matV (ms : List Nat) : Array Value := (ms.map fun (x : Nat) => Value.int .u64 (x : Int)).toArray
theorem matV_get {ms : List Nat} {i x : Nat} (h : ms[i]? = some x) : (matV ms)[i]? = some (.int .u64 (x : Int)) := by unfold matV; simp [h]
theorem matV_set (ms : List Nat) (i x : Nat) : (matV ms).setIfInBounds i (.int .u64 (x : Int)) = matV (ms.set i x) := by
  unfold matV; simp [List.map_set]
theorem six_of {l : List Nat} (h : l.length = 6) : ∃ a b c d e f, l = [a, b, c, d, e, f] := by
  match l, h with
  | [a, b, c, d, e, f], _ => exact ⟨a, b, c, d, e, f, rfl⟩
/-- Edges between nodes, as a relation of numbers. -/
def Nd (es : List T3) (m : Int) (i j : Nat) : Prop := Ed es m (i : Int) (j : Int)
theorem Way.nat {es : List T3} {m : Int} (h6 : ∀ e ∈ es, (0 ≤ e.1 ∧ e.1 < 6) ∧ (0 ≤ e.2.1 ∧ e.2.1 < 6)) {x y : Int} (h : Way (Ed es m) x y) : ∃ i j : Nat, x = i ∧ y = j ∧ i < 6 ∧ j < 6 ∧ Way (Nd es m) i j := by
  induction h with
  | @one i j h =>
    obtain ⟨k, h1, h2⟩ := h
    have := h6 _ h1
    dsimp only at this
    refine ⟨i.toNat, j.toNat, by omega, by omega, by omega, by omega, .one ⟨k, ?_, h2⟩⟩
    rw [show ((i.toNat : Nat) : Int) = i by omega, show ((j.toNat : Nat) : Int) = j by omega]; exact h1
  | @cons i j l h _ ih =>
    obtain ⟨k, h1, h2⟩ := h
    have := h6 _ h1
    dsimp only at this
    obtain ⟨a, b, rfl, rfl, ha, hb, hw⟩ := ih
    refine ⟨i.toNat, b, by omega, rfl, by omega, hb, .cons ⟨k, ?_, h2⟩ hw⟩
    rw [show ((i.toNat : Nat) : Int) = i by omega]; exact h1
theorem Way.int {es : List T3} {m : Int} {i j : Nat} (h : Way (Nd es m) i j) : Way (Ed es m) i j := by
  induction h with
  | one h => exact .one h
  | cons h _ ih => exact .cons h ih
theorem WK.ed {es : List T3} {m : Int} (h6 : ∀ e ∈ es, (0 ≤ e.1 ∧ e.1 < 6) ∧ (0 ≤ e.2.1 ∧ e.2.1 < 6)) {i j : Nat} : WK (Nd es m) 6 i j ↔ Way (Ed es m) (i : Int) (j : Int) := by
  constructor
  · intro h; exact (WK.way _ _ _ h).int
  · intro h
    obtain ⟨a, b, ha, hb, _, _, hw⟩ := h.nat h6
    obtain rfl : i = a := by omega
    obtain rfl : j = b := by omega
    refine WK.of_way (fun a b hab => ?_) hw
    obtain ⟨k, h1, _⟩ := hab
    have := h6 _ h1
    dsimp only at this; omega
end Go.Proofs.YtcfkemchekmjbaaGreatDoor

namespace Go.Proofs.YtcfkemchekmjbaaGreatDoor
open Go.RowKit
def idxV (xs : List Int) (x : Int) : Int := match xs.idxOf? x with | some i => (i : Int) | none => -1
set_option maxHeartbeats 2000000 in
theorem IndexInt_c {u : Value} {n : Nat} {xs : List Int} {x : Int} {w : World} (hu : SI w u n xs) :
    Calls Tryz.prog 114 #[u, .int .i64 x] w fun e w' => e = .returned (.int .i64 (idxV xs x)) ∧ w = w' := by
  obtain ⟨A, c, rfl, _, hn, ha⟩ := hu
  have hl := hide ha.len
  go_enter Tryz.func114, Tryz.ntmps114
  go_wp2_with fail
  go_loopw [8] (fun i wr => ∃ k : Nat, k ≤ n ∧ i = .int .i64 k ∧ x ∉ xs.take k ∧ w = wr) (fun i _ => n - (intOf i).toNat)
  case atStart => exact ⟨0, Nat.zero_le _, rfl, by simp, rfl⟩
  case round =>
    obtain ⟨k, hk, rfl, hno, rfl⟩ := hrel
    have HNO := hide hno; clear hno
    by_cases hlt : k < n
    · obtain ⟨b2, o2, x', rfl, hb2, hx', q0⟩ := ha.at_ hlt
      have k0 : (0 : Int) ≤ k := by omega
      have k1 : (k : Int) < n := by omega
      have HX := hide hx'
      clear hx'
      by_cases he : x = x'
      · have hb : (x == x') = true := by simpa using he
        have hf : xs.idxOf? x = some k := by
          obtain ⟨h1, h2⟩ := List.getElem?_eq_some_iff.1 HX.out
          unfold List.idxOf?
          rw [List.findIdx?_eq_some_iff_getElem]
          refine ⟨h1, by simp [h2, he], fun j hj => ?_⟩
          have : x ≠ xs[j]'(by omega) := fun e => HNO.out (by rw [List.mem_take_iff_getElem]; exact ⟨j, by omega, e.symm⟩)
          simpa using fun e => this e.symm
        have hv : idxV xs x = (k : Int) := by unfold idxV; rw [hf]
        have F := hide hv
        clear hf he hv
        go_wp2_with fail
        go_ret
        exact ⟨congrArg (fun q => Ending.returned (.int .i64 q)) F.out.symm, rfl⟩
      · have hb : (x == x') = false := by simpa using he
        have hno2 : x ∉ xs.take (k + 1) := by
          rw [List.take_add_one, HX.out]
          intro hm
          rcases List.mem_append.1 hm with hm | hm
          · exact HNO.out hm
          · simp at hm; exact he hm
        have HN2 := hide hno2
        clear hno2 he
        go_wp2_with fail
        go_roundw
        case rel => exact ⟨k + 1, by omega, by go_num, HN2.out, trivial⟩
        case measure => simp [intOf]; omega
    · obtain rfl : k = n := by omega
      have hf : xs.idxOf? x = none := by
        unfold List.idxOf?
        rw [List.findIdx?_eq_none_iff]
        intro y hy
        have := HNO.out
        rw [← hl.out, List.take_length] at this
        simpa using fun e => this (by rw [← e]; exact hy)
      have hv : idxV xs x = -1 := by unfold idxV; rw [hf]
      have F := hide hv; clear hf hv
      go_wp2_with fail
      go_ret
      exact ⟨congrArg (fun q => Ending.returned (.int .i64 q)) F.out.symm, rfl⟩
theorem idxOf_mem {xs : List Int} {x : Int} : (xs.idxOf? x).isSome = decide (x ∈ xs) := by
  unfold List.idxOf?
  rw [Bool.eq_iff_iff, List.findIdx?_isSome, List.any_eq_true, decide_eq_true_eq]
  constructor
  · rintro ⟨y, hy, e⟩
    have : y = x := by simpa using e
    rw [← this]; exact hy
  · intro h; exact ⟨x, h, by simp⟩
set_option maxHeartbeats 2000000 in
theorem ContainsInt_c {u : Value} {n : Nat} {xs : List Int} {x : Int} {w : World} (hu : SI w u n xs) :
    Calls Tryz.prog 60 #[u, .int .i64 x] w fun e w' => e = .returned (.bool (decide (x ∈ xs))) ∧ w = w' := by
  obtain ⟨A, c, rfl⟩ := hu.shape
  go_enter Tryz.func60, Tryz.ntmps60
  go_wp2_with fail
  refine (IndexInt_c hu).mono ?_
  rintro e w2 ⟨rfl, rfl⟩
  cases hi : xs.idxOf? x with
  | none =>
    have hf : decide (x ∈ xs) = false := by rw [← idxOf_mem, hi]; rfl
    have hv : idxV xs x = -1 := by unfold idxV; rw [hi]
    rw [hv]
    have F := hide hf; clear hf hi hv
    go_wp2_with fail
    go_ret
    exact ⟨congrArg (fun q => Ending.returned (.bool q)) F.out.symm, rfl⟩
  | some i =>
    have hf : decide (x ∈ xs) = true := by rw [← idxOf_mem, hi]; rfl
    have hv : idxV xs x = (i : Int) := by unfold idxV; rw [hi]
    rw [hv]
    have F := hide hf; clear hf hi hv
    have i0 : (0 : Int) ≤ i := by omega
    go_wp2_with fail
    go_ret
    exact ⟨congrArg (fun q => Ending.returned (.bool q)) F.out.symm, rfl⟩
set_option maxRecDepth 100000 in
set_option maxHeartbeats 8000000 in
theorem reach_c {a b c d e f : Nat} {R : Nat → Nat → Prop} {w : World} (hm : MatOf [a, b, c, d, e, f] R) :
    Calls Tryz.prog 159 #[.agg #[.int .u64 a, .int .u64 b, .int .u64 c, .int .u64 d, .int .u64 e, .int .u64 f]] w fun en w' => ∃ a' b' c' d' e' f' : Nat, en = .returned (.agg #[.int .u64 a', .int .u64 b', .int .u64 c', .int .u64 d', .int .u64 e', .int .u64 f']) ∧ MatOf [a', b', c', d', e', f'] (WK R 6) ∧ Below w.heap.size w w' := by
  obtain ⟨W, hW⟩ : ∃ q, (w.alloc (.cells #[.int .u64 a, .int .u64 b, .int .u64 c, .int .u64 d, .int .u64 e, .int .u64 f] 184)).alloc (.cells #[.int .u64 0, .int .u64 0, .int .u64 0, .int .u64 0, .int .u64 0, .int .u64 0] 184) = q := ⟨_, rfl⟩
  have k1 : Blk W w.heap.size 184 (matV [a, b, c, d, e, f]) := by rw [← hW]; exact (Blk.new w _ _).alloc _
  have k2 : Blk W (w.heap.size + 1) 184 #[.int .u64 0, .int .u64 0, .int .u64 0, .int .u64 0, .int .u64 0, .int .u64 0] := by
    rw [← hW]; have := Blk.new (w.alloc (.cells #[.int .u64 a, .int .u64 b, .int .u64 c, .int .u64 d, .int .u64 e, .int .u64 f] 184)) 184 #[.int .u64 0, .int .u64 0, .int .u64 0, .int .u64 0, .int .u64 0, .int .u64 0]
    rw [World.size_alloc] at this; exact this
  have bW : Below w.heap.size w W := by rw [← hW]; exact ((Below.refl _ _).alloc (Nat.le_refl _) _).alloc (by simp) _
  have K1 := hide k1; have K2 := hide k2; have BW := hide bW; have HM := hide hm; have HW := hide hW
  clear k1 k2 bW hm hW
  go_enter Tryz.func159, Tryz.ntmps159
  go_wp2_with fail
  rw [HW.out]
  go_loopw [5] (fun i wr => ∃ (k : Nat) (ms : List Nat), k ≤ 6 ∧ i = .int .i64 k ∧ Blk wr w.heap.size 184 (matV ms) ∧ MatOf ms (WK R k) ∧ Blk wr (w.heap.size + 1) 184 #[.int .u64 0, .int .u64 0, .int .u64 0, .int .u64 0, .int .u64 0, .int .u64 0] ∧ Below w.heap.size w wr) (fun i _ => 6 - (intOf i).toNat)
  case atStart => exact ⟨0, _, Nat.zero_le _, rfl, K1.out, HM.out, K2.out, BW.out⟩
  case round =>
    clear K1 K2 BW HM
    obtain ⟨k, ms, hk, rfl, k1, hm, k2, bw⟩ := hrel
    have K1 := hide k1; have K2 := hide k2; have BW := hide bw; have HM := hide hm
    by_cases hlt : k < 6
    · have kk0 : (0 : Int) ≤ k := by omega
      have kk1 : (k : Int) < 6 := by omega
      have kk2 : (k : Int) < 64 := by omega
      clear k1 k2 bw hm
      go_wp2_with fail
      go_loopw [8] (fun i wr => ∃ (j : Nat) (ms : List Nat), j ≤ 6 ∧ i = .int .i64 j ∧ Blk wr w.heap.size 184 (matV ms) ∧ MatOf ms (WM R k j) ∧ Blk wr (w.heap.size + 1) 184 #[.int .u64 0, .int .u64 0, .int .u64 0, .int .u64 0, .int .u64 0, .int .u64 0] ∧ Below w.heap.size w wr) (fun i _ => 6 - (intOf i).toNat)
      case atStart => exact ⟨0, ms, Nat.zero_le _, rfl, K1.out, HM.out.start, K2.out, BW.out⟩
      case round =>
        clear K1 K2 BW HM
        rename World => wr2
        obtain ⟨j, ms, hj, rfl, k1, hm, k2, bw⟩ := hrel
        have K1 := hide k1; have K2 := hide k2; have BW := hide bw; have HM := hide hm
        by_cases hlt2 : j < 6
        · have j0 : (0 : Int) ≤ j := by omega
          have j1 : (j : Int) < 6 := by omega
          obtain ⟨gj, hgj⟩ : ∃ g, ms.getD j 0 = g := ⟨_, rfl⟩
          obtain ⟨gk, hgk⟩ : ∃ g, ms.getD k 0 = g := ⟨_, rfl⟩
          have cj : wr2.cell? ⟨w.heap.size, j, none⟩ = some (.int .u64 (gj : Int)) := by rw [← hgj]; exact (k1.cell j).trans (matV_get (hm.get hlt2))
          have ck : wr2.cell? ⟨w.heap.size, k, none⟩ = some (.int .u64 (gk : Int)) := by rw [← hgk]; exact (k1.cell k).trans (matV_get (hm.get hlt))
          have fj := k1.frozen j
          have lj : gj < 64 := by rw [← hgj]; exact hm.lt j
          have lk : gk < 64 := by rw [← hgk]; exact hm.lt k
          have hbit := bit_and (m := k) lj
          have hor := bit_or lj lk
          have HGJ := hide hgj; have HGK := hide hgk
          clear k1 k2 bw hm hgj hgk
          cases ht : gj.testBit k
          · rw [ht] at hbit
            have HM2 := hide (HM.out.miss hlt hlt2 (by rw [HGJ.out]; exact ht))
            clear ht hor
            go_wp2_with fail
            go_roundw
            case rel => exact ⟨j + 1, ms, by omega, by go_num, K1.out, HM2.out, K2.out, BW.out⟩
            case measure => simp [intOf]; omega
          · rw [ht] at hbit
            have hm2 := HM.out.hit hlt hlt2 (by rw [HGJ.out]; exact ht)
            rw [HGJ.out, HGK.out] at hm2
            have HM2 := hide hm2
            have kz := K1.out.set_ j (.int .u64 ((gj ||| gk : Nat) : Int))
            rw [matV_set] at kz
            have KZ := hide kz
            have K2Z := hide (K2.out.far (p := ⟨w.heap.size, j, none⟩) (by show w.heap.size + 1 ≠ w.heap.size; omega) (.int .u64 ((gj ||| gk : Nat) : Int)))
            have BZ := hide (BW.out.setCell (p := ⟨w.heap.size, j, none⟩) (Nat.le_refl _) (.int .u64 ((gj ||| gk : Nat) : Int)))
            clear ht hm2 kz
            go_wp2_with fail
            go_region
            go_wp2_with fail
            go_roundw
            case rel => exact ⟨j + 1, _, by omega, by go_num, KZ.out.drew, HM2.out, K2Z.out.drew, BZ.out.drew⟩
            case measure => simp [intOf]; omega
        · obtain rfl : j = 6 := by omega
          have HM2 := hide HM.out.end_
          clear k1 k2 bw hm
          go_wp2_with fail
          go_roundw
          case rel => exact ⟨k + 1, ms, by omega, by go_num, K1.out, HM2.out, K2.out, BW.out⟩
          case measure => simp [intOf]; omega
    · obtain rfl : k = 6 := by omega
      obtain ⟨a', b', c', d', e', f', rfl⟩ := six_of hm.1
      have c0 := k1.cell 0; have c1 := k1.cell 1; have c2 := k1.cell 2; have c3 := k1.cell 3; have c4 := k1.cell 4; have c5 := k1.cell 5
      have d0 := k2.cell 0; have d1 := k2.cell 1; have d2 := k2.cell 2; have d3 := k2.cell 3; have d4 := k2.cell 4; have d5 := k2.cell 5
      have f0 := k2.frozen 0; have f1 := k2.frozen 1; have f2 := k2.frozen 2; have f3 := k2.frozen 3; have f4 := k2.frozen 4; have f5 := k2.frozen 5
      simp only [matV, List.map_cons, List.map_nil, List.getElem?_toArray, List.getElem?_cons_zero, List.getElem?_cons_succ] at c0 c1 c2 c3 c4 c5
      clear k1 k2 bw hm
      go_wp2_with fail
      obtain ⟨W6, hW6⟩ : ∃ q, ((((((wr.setCell ⟨w.heap.size + 1, 0, none⟩ (.int .u64 (a' : Int))).setCell ⟨w.heap.size + 1, 1, none⟩ (.int .u64 (b' : Int))).setCell ⟨w.heap.size + 1, 2, none⟩ (.int .u64 (c' : Int))).setCell ⟨w.heap.size + 1, 3, none⟩ (.int .u64 (d' : Int))).setCell ⟨w.heap.size + 1, 4, none⟩ (.int .u64 (e' : Int))).setCell ⟨w.heap.size + 1, 5, none⟩ (.int .u64 (f' : Int))) = q := ⟨_, rfl⟩
      rw [hW6]
      have kk : Blk W6 (w.heap.size + 1) 184 #[.int .u64 (a' : Int), .int .u64 (b' : Int), .int .u64 (c' : Int), .int .u64 (d' : Int), .int .u64 (e' : Int), .int .u64 (f' : Int)] := by
        rw [← hW6]; exact (((((K2.out.set_ 0 _).set_ 1 _).set_ 2 _).set_ 3 _).set_ 4 _).set_ 5 _
      have B6 : Below w.heap.size w W6 := by
        rw [← hW6]
        have hz : w.heap.size ≤ w.heap.size + 1 := by omega
        exact (((((BW.out.setCell (p := ⟨w.heap.size + 1, 0, none⟩) hz _).setCell (p := ⟨w.heap.size + 1, 1, none⟩) hz _).setCell (p := ⟨w.heap.size + 1, 2, none⟩) hz _).setCell (p := ⟨w.heap.size + 1, 3, none⟩) hz _).setCell (p := ⟨w.heap.size + 1, 4, none⟩) hz _).setCell (p := ⟨w.heap.size + 1, 5, none⟩) hz _
      have g0 := kk.cell 0; have g1 := kk.cell 1; have g2 := kk.cell 2; have g3 := kk.cell 3; have g4 := kk.cell 4; have g5 := kk.cell 5
      clear c0 c1 c2 c3 c4 c5 d0 d1 d2 d3 d4 d5 f0 f1 f2 f3 f4 f5 hW6
      refine bodyPost_ret (v := .agg #[.int .u64 (a' : Int), .int .u64 (b' : Int), .int .u64 (c' : Int), .int .u64 (d' : Int), .int .u64 (e' : Int), .int .u64 (f' : Int)]) (by simp [results, Tryz.results159, go_sem]; go_simp) rfl ?_
      exact ⟨a', b', c', d', e', f', rfl, HM.out, B6⟩
end Go.Proofs.YtcfkemchekmjbaaGreatDoor
