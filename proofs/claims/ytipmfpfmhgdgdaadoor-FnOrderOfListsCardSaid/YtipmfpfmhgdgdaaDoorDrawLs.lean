/- l20Lists: drawn lists. -/
import Derived.Test.YtipmfpfmhgdgdaaDoorLstI
import Derived.Test.YtipmfpfmhgdgdaaDoorDraw3
import Derived.Test.YtipmfpfmhgdgdaaDoorDrawB
namespace Go.Proofs.YtipmfpfmhgdgdaaDoor
open Go.RowKit

theorem infoLs : (Tryd.prog.info? 25).map (fun i => (i.zero, i.size, i.bytes)) = some (some (.slice none 0 0), 1, 24) := by kernel_rfl
def EOI (w : World) (lo : Nat) (u : Value) : Prop := ∃ (k : Nat) (xs : List Int), OI w lo u k xs
/-- The value v is a slice of n lists; all is the call's own. -/
def LO (w : World) (lo : Nat) (v : Value) (n : Nat) : Prop := ∃ cs, w.ownsRow lo 25 1 v n cs ∧ ∀ u ∈ cs, EOI w lo u
section
variable {w w' : World} {g lo n : Nat} {v : Value}
theorem OI.ne_own {q : Value} {k lo' : Nat} {xs : List Int} {cs : List Value} (h : OI w lo q k xs) (hv : w.ownsRow lo' 25 1 v n cs) : q.ownBlock = none ∨ q.ownBlock ≠ v.ownBlock := by
  rcases h.1.2 with ⟨rfl, _⟩ | ⟨g1, cap, cur, rfl, _, hh, _⟩
  · left; rfl
  · right
    rcases hv.2 with ⟨rfl, _⟩ | ⟨g2, cap2, cur2, rfl, _, hh2, _⟩
    · simp [Value.ownBlock]
    · intro he
      have e : g1 = g2 := by have h : some g1 = some g2 := he; injection h
      subst e
      rw [hh] at hh2; injection hh2 with hh2; injection hh2 with _ h2; exact absurd h2 (by decide)
theorem LO.block_ne (h : LO w lo v n) (hg : g < lo) : v.ownBlock = none ∨ v.ownBlock ≠ some g := by
  obtain ⟨cs, h, _⟩ := h
  cases hv : v.ownBlock with
  | none => exact .inl rfl
  | some k => right; intro e; injection e with e; have := (World.ownsRow.lt h k hv).1; omega
theorem LO.kp (h : LO w lo v n) (hg : w.grownBy w' (some g)) (hl : g < lo) : LO w' lo v n := by
  have hne := h.block_ne hl
  obtain ⟨cs, h1, h2⟩ := h
  exact ⟨cs, h1.kept hg hne, fun u hu => by obtain ⟨k, xs, o⟩ := h2 u hu; exact ⟨k, xs, o.grown hg (o.block_ne hl)⟩⟩
theorem LO.below (h : LO w lo v n) (hb : Below w.heap.size w w') : LO w' lo v n := by
  obtain ⟨cs, h1, h2⟩ := h
  exact ⟨cs, h1.kept (row := none) ⟨hb.os, hb.tape, hb.output, hb.size, fun k hk _ => hb.block k hk⟩ (by cases hv : v.ownBlock <;> simp), fun u hu => by obtain ⟨k, xs, o⟩ := h2 u hu; exact ⟨k, xs, o.below hb⟩⟩
theorem LO.alloc (h : LO w lo v n) (o : Obj) : LO (w.alloc o) lo v n := h.below (beB0 _ _)
theorem LO.grownOI {q : Value} {k : Nat} {xs : List Int} {B : Nat} (h : LO w lo v n) (ho : OI w B q k xs) (hg : w.grownBy w' q.ownBlock) (hB : w.heap.size ≤ B) : LO w' lo v n :=
  h.below ((Below.refl _ _).grown hg (Nat.le_refl _) (ho.grown_le hB))
theorem LO.empty (w : World) : LO (w.alloc (.cells #[] 25)) w.heap.size (.slice (some ⟨w.heap.size, 0, none⟩) 0 0) 0 :=
  ⟨[], ⟨rfl, .inr ⟨w.heap.size, 0, #[], rfl, Nat.le_refl _, Blk.new w _ _, Nat.le_refl _, by simp [maxLen], rfl, rfl⟩⟩, fun u hu => by simp at hu⟩
theorem LO.mono {lo' : Nat} (h : LO w lo v n) (hl : lo' ≤ lo) : LO w lo' v n := by
  obtain ⟨cs, ⟨h1, h2⟩, h3⟩ := h
  refine ⟨cs, ⟨h1, ?_⟩, fun u hu => by obtain ⟨k, xs, o⟩ := h3 u hu; exact ⟨k, xs, o.mono hl⟩⟩
  rcases h2 with h2 | ⟨g, cap, cur, hv, hb, r⟩
  · exact .inl h2
  · exact .inr ⟨g, cap, cur, hv, by omega, r⟩
theorem Rd.one1 {b : Nat} {t : TypeId} {u : Value} (h : Blk w b t #[u]) : Rd w 1 (some ⟨b, 0, none⟩) 1 [u] :=
  ⟨rfl, fun _ => ⟨b, 0, rfl, h.lt, fun k x hx => by
    match k, hx with
    | 0, hx => simp at hx; subst hx; exact h.cell 0⟩⟩
theorem lists_of : ∀ (cs : List Value), (∀ u ∈ cs, EOI w lo u) → ∃ ls : Ls, ls.length = cs.length ∧ ∀ (k : Nat) (xs : List Int), ls[k]? = some xs → ∃ u m, cs[k]? = some u ∧ OI w lo u m xs
  | [], _ => ⟨[], rfl, fun k xs h => by simp at h⟩
  | u :: cs, h => by
    obtain ⟨m, xs, o⟩ := h u (by simp)
    obtain ⟨ls, h1, h2⟩ := lists_of cs (fun u hu => h u (by simp [hu]))
    refine ⟨xs :: ls, by simp [h1], fun k ys hk => ?_⟩
    cases k with
    | zero => simp at hk; subst hk; exact ⟨u, m, rfl, o⟩
    | succ k => exact h2 k ys (by simpa using hk)
theorem LO.rl (h : LO w lo v n) : ∃ A c ls, v = .slice A n c ∧ n ≤ c ∧ RL w A n ls := by
  obtain ⟨cs, h1, h2⟩ := h
  obtain ⟨ls, h3, h4⟩ := lists_of cs h2
  have hl : cs.length = n := by have := h1.1; omega
  rcases h1.2 with ⟨rfl, h0⟩ | ⟨g, cap, cur, rfl, hB, hg, hc, hcm, hs, ht⟩
  · subst h0
    exact ⟨none, 0, ls, rfl, Nat.le_refl _, by omega, fun h => by omega⟩
  · refine ⟨some ⟨g, 0, none⟩, cap, ls, rfl, hc, by omega, fun hn => ⟨g, 0, rfl, Blk.lt (t := 25) (cs := cur) hg, fun k xs hk => ?_⟩⟩
    obtain ⟨u, m, hu, o⟩ := h4 k xs hk
    obtain ⟨B, d, rfl, hmd, hm1, hri⟩ := o.si
    have hk' : k < n := by have := (List.getElem?_eq_some_iff.1 hu).1; omega
    refine ⟨B, m, d, ?_, hmd, hm1, hri⟩
    have := World.ownsRow.cellAt h1 k (by omega)
    rw [Nat.zero_add, this]; exact hu
end
/-- 'append(out, x)' on [][]int. -/
theorem LO.app {w : World} {o : Oper} {a : Act} {Q : Exit → Act → World → Prop} {ops : Array Oper} {rest : List Oper} (hgd : o.guard = none) (s x : Operand)
    (ho : o.op = .call { callee := .builtin .append, args := #[s, x], argTypes := #[23, 23] })
    {lo : Nat} {v : Value} {n : Nat} (hs : a.eval s = v) (h : LO w lo v n) {b : Nat} {u : Value} {m : Nat} {xs : List Int} (hx : a.eval x = .slice (some ⟨b, 0, none⟩) 1 1) (hK : Blk w b 25 #[u]) (hu : OI w lo u m xs) (hn : n ≤ 1000) (hlo : lo ≤ w.heap.size)
    (hh : ∀ v' w', LO w' lo v' (n + 1) → w.grownBy w' v.ownBlock → wpList Tryd.prog ops Q rest (a.put o.dst v') w') : wpList Tryd.prog ops Q (o :: rest) a w := by
  obtain ⟨i, hi, hz, hsz, hby⟩ := info_parts infoLs
  obtain ⟨cs, h1, h2⟩ := h
  have hc1 : ∀ x ∈ [u], x.oneCell' = true := fun x hx => by
    obtain ⟨A, c, rfl⟩ := hu.shape
    simp at hx; subst hx; rfl
  refine wpList_app hgd s x _ ho lo 25 i (.slice none 0 0) 1 24 Tryd.underlying23 hi hz hsz hby rfl (by omega) v n cs hs h1 _ 1 1 [u] hx (Rd.one1 hK) hc1 (by simp only [maxLen]; omega) (by omega) hlo ?_
  intro v' w' hown hg hat
  refine hh v' w' ⟨_, hown, fun y hy => ?_⟩ hg
  rcases List.mem_append.1 hy with hy | hy
  · obtain ⟨k, ys, oy⟩ := h2 y hy; exact ⟨k, ys, oy.grown hg (oy.ne_own h1)⟩
  · simp at hy; subst hy; exact ⟨m, xs, hu.grown hg (hu.ne_own h1)⟩
def DrawLsR (w : World) (g P : Nat) (e : Ending) (w' : World) : Prop := ∃ v n, e = .returned v ∧ LO w' w.heap.size v n ∧ n ≤ 6 ∧ RD w' g P ∧ w.grownBy w' (some g)
theorem grown_lo {a b c : World} {row : Option Nat} {B n : Nat} {v : Value} (h : a.grownBy b row) (o : LO b B v n) (hB : a.heap.size ≤ B) (k : b.grownBy c v.ownBlock) : a.grownBy c row := by
  obtain ⟨cs, o, _⟩ := o
  exact ⟨k.os.trans h.os, k.tape.trans h.tape, k.output.trans h.output, Nat.le_trans h.size k.size, fun i hi hn => (k.block i (Nat.lt_of_lt_of_le hi h.size) (fun e => by have := (World.ownsRow.lt o i e.symm).1; omega)).trans (h.block i hi hn)⟩
theorem RD.lo {b c : World} {g P B n : Nat} {v : Value} (r : RD b g P) (o : LO b B v n) (hB : g < B) (k : b.grownBy c v.ownBlock) : RD c g P := by
  obtain ⟨cs, o, _⟩ := o
  exact r.grown k fun i hi => by have := (World.ownsRow.lt o i hi).1; omega
theorem OI.lo {b c : World} {B B' n k : Nat} {q v : Value} {xs : List Int} (h : OI b B' q k xs) (o : LO b B v n) (hk : b.grownBy c v.ownBlock) : OI c B' q k xs := by
  obtain ⟨cs, o, _⟩ := o
  exact h.grown hk (h.ne_own o)
set_option maxRecDepth 100000 in
set_option maxHeartbeats 16000000 in
theorem l20Lists_c {w : World} {g P : Nat} {q : Int} (hr : RD w g P) (hP : P ≤ 10000) (hq1 : 0 ≤ q) (hq2 : q ≤ 100000) :
    Calls Tryd.prog 15 #[.pointer (some ⟨g, 0, none⟩), .int .i64 q] w (DrawLsR w g (P + 40)) := by
  have hg := hr.lt
  have oA := OI.empty w
  have G0 := grown_alloc (World.grownBy.refl w (some g)) (.cells #[] 3)
  have r0 := hr.alloc (.cells #[] 3)
  go_enter Tryd.func15, Tryd.ntmps15
  go_wp2_with fail
  refine (pick_c r0 (by omega) (by omega) (by omega)).mono ?_
  rintro e w1 ⟨x, rfl, x0, x1, r1, g1⟩
  obtain ⟨j0, rfl⟩ : ∃ j : Nat, x = j := ⟨x.toNat, by omega⟩
  have G1 := grown_trans' G0 g1
  have o1 := oA.grown g1 (oA.block_ne hg)
  clear oA G0 r0 g1 hr
  go_wp2_with fail
  go_loopw [5, 6] (fun v i wr => ∃ (j m : Nat) (xs : List Int), i = .int .i64 j ∧ m + j ≤ 6 ∧ OI wr w.heap.size v m xs ∧ RD wr g (P + 10 - j) ∧ w.grownBy wr (some g)) (fun _ i _ => (intOf i).toNat)
  case atStart => exact ⟨j0, 0, [], rfl, by omega, o1, r1.mono (by omega), G1⟩
  case round =>
    clear o1 r1 G1
    obtain ⟨j, m, xs, rfl, hmj, oA, rA, GA⟩ := hrel
    by_cases hlt : 0 < j
    · have hlt' : (0 : Int) < j := by omega
      go_wp2_with fail
      refine (pick_c rA (by omega) (by omega) (by omega)).mono ?_
      rintro e w2 ⟨y, rfl, y0, y1, r2, g2⟩
      have o2 := (oA.grown g2 (oA.block_ne hg))
      have G2 := grown_trans' GA g2
      clear oA rA GA g2
      go_wp2_with (at_builtin; refine wpList_appI rfl _ _ rfl rfl (o2.alloc _) rfl (SI.one _ _ _ (by omega)) (by omega) (by have := G2.size; simp <;> omega) ?_; intro v4 w4 h4 hg4 hat)
      have G4 := grown_own (grown_alloc G2 _) (o2.alloc _) (Nat.le_refl _) hg4
      have r4 := (r2.alloc _).own (o2.alloc _) hg hg4
      go_roundw
      case rel => exact ⟨j - 1, m + 1, _, by go_num, by omega, h4, r4.mono (by omega), G4⟩
      case measure => simp [intOf]; omega
    · obtain rfl : j = 0 := by omega
      clear hlt
      have oA0 := oA.alloc (.cells #[] 25)
      have rA0 := rA.alloc (.cells #[] 25)
      have GA0 := grown_alloc GA (.cells #[] 25)
      have lA0 := (LO.empty wr).mono GA.size
      clear oA rA GA
      go_wp2_with fail
      generalize wr.alloc (.cells #[] 25) = wa at *
      refine (pick_c rA0 (by omega) (by omega) (by omega)).mono ?_
      rintro e w2 ⟨x, rfl, x0, x1, r2, g2⟩
      obtain ⟨j0, rfl⟩ : ∃ j : Nat, x = j := ⟨x.toNat, by omega⟩
      have o2 := oA0.grown g2 (oA0.block_ne hg)
      have l2 := lA0.kp g2 hg
      have G2 := grown_trans' GA0 g2
      obtain ⟨AA, cA, rfl⟩ := oA0.shape
      clear oA0 lA0 rA0 GA0 g2
      go_wp2_with fail
      go_loopw [7, 8] (fun v i wr => ∃ (j n : Nat), i = .int .i64 j ∧ n + j ≤ 5 ∧ LO wr w.heap.size v n ∧ OI wr w.heap.size (.slice AA m cA) m xs ∧ RD wr g (P + 25 - 2 * j) ∧ w.grownBy wr (some g)) (fun _ i _ => (intOf i).toNat)
      case atStart => exact ⟨j0, 0, rfl, by omega, l2, o2, r2.mono (by omega), G2⟩
      case round =>
        clear o2 l2 r2 G2
        rename World => wr2
        obtain ⟨j, n, rfl, hnj, lA, oA, rA, GA⟩ := hrel
        by_cases hlt : 0 < j
        · have hlt' : (0 : Int) < j := by omega
          have oE := OI.empty wr2
          have rE := rA.alloc (.cells #[] 3)
          have GE := grown_alloc (World.grownBy.refl wr2 (some g)) (.cells #[] 3)
          have hm0 : (1 : Int) ≤ (m : Int) + 1 := by omega
          go_wp2_with fail
          refine (pick_c rE (by omega) hm0 (by omega)).mono ?_
          rintro e w3 ⟨x, rfl, x0, x1, r3, g3⟩
          obtain ⟨p, rfl⟩ : ∃ j : Nat, x = j := ⟨x.toNat, by omega⟩
          have hgw := rA.lt
          have G3 := grown_trans' GE g3
          have o3 := oE.grown g3 (oE.block_ne hgw)
          have oA3 := oA.grown G3 (oA.block_ne hg)
          obtain ⟨A', rc, sc⟩ := sliceL_hi oA3.si (show p ≤ m by omega)
          clear oE rE GE g3 oA3
          go_wp2_with (at_builtin; refine wpList_appI rfl _ _ rfl rfl o3 rfl sc (by omega) (by have := G3.size; omega) ?_; intro v4 w4 o4 hg4 hat)
          rw [Nat.zero_add] at o4
          have G4 := grown_own G3 o3 (Nat.le_refl _) hg4
          have r4 := r3.own o3 hgw hg4
          refine (odd_c r4 (by omega) (by omega) (by omega)).mono ?_
          rintro e w5 ⟨b, rfl, r5, g5⟩
          have o5 := o4.grown g5 (o4.block_ne hgw)
          have G5 := grown_trans' G4 g5
          clear o4 G4 r4 g5 o3 G3 r3 rc sc hg4 hat rA
          cases b
          · have lB := lA.kp G5 hg
            have oB := oA.grown G5 (oA.block_ne hg)
            have GB := grown_trans' GA G5
            obtain ⟨Ax, cx, rfl⟩ := o5.shape
            have oX := o5.mono GA.size
            have K := Blk.new w5 25 #[.slice Ax p cx]
            go_wp2_with (at_builtin; refine LO.app rfl _ _ rfl rfl (lB.alloc _) rfl K (oX.alloc _) (by omega) (by have := GB.size; simp <;> omega) ?_; intro v9 w9 l9 hg9)
            have G9 := grown_lo (grown_alloc GB _) (lB.alloc _) (Nat.le_refl _) hg9
            have r9 := (r5.alloc _).lo (lB.alloc _) hg hg9
            have o9 := (oB.alloc _).lo (lB.alloc _) hg9
            go_roundw
            case rel => exact ⟨j - 1, n + 1, by go_num, by omega, l9, o9, r9.mono (by omega), G9⟩
            case measure => simp [intOf]; omega
          · go_upto_region 13 with (at_builtin; refine wpList_appI rfl _ _ rfl rfl (o5.alloc _) rfl (SI.one _ _ _ (by omega)) (by omega) (by have := G5.size; simp <;> omega) ?_; intro v6 w6 o6 hg6 hat6)
            have G6 := grown_own (grown_alloc G5 _) (o5.alloc _) (Nat.le_refl _) hg6
            have r6 := (r5.alloc _).own (o5.alloc _) hgw hg6
            clear o5 G5 r5 hg6 hat6
            have lB := lA.kp G6 hg
            have oB := oA.grown G6 (oA.block_ne hg)
            have GB := grown_trans' GA G6
            obtain ⟨Ax, cx, rfl⟩ := o6.shape
            have oX := o6.mono GA.size
            have K := Blk.new w6 25 #[.slice Ax (p + 1) cx]
            go_wp2_with (at_builtin; refine LO.app rfl _ _ rfl rfl (lB.alloc _) rfl K (oX.alloc _) (by omega) (by have := GB.size; simp <;> omega) ?_; intro v9 w9 l9 hg9)
            have G9 := grown_lo (grown_alloc GB _) (lB.alloc _) (Nat.le_refl _) hg9
            have r9 := (r6.alloc _).lo (lB.alloc _) hg hg9
            have o9 := (oB.alloc _).lo (lB.alloc _) hg9
            go_roundw
            case rel => exact ⟨j - 1, n + 1, by go_num, by omega, l9, o9, r9.mono (by omega), G9⟩
            case measure => simp [intOf]; omega
        · obtain rfl : j = 0 := by omega
          go_wp2_with fail
          refine (odd_c rA (by omega) hq1 hq2).mono ?_
          rintro e w5 ⟨b, rfl, r5, g5⟩
          have l5 := lA.kp g5 hg
          have G5 := grown_trans' GA g5
          clear lA oA rA GA g5
          cases b
          · go_wp2_with fail
            go_ret
            exact ⟨_, n, rfl, l5, by omega, r5.mono (by omega), G5⟩
          · have lt5 := r5.lt
            have sz5 := G5.size
            have K0 := (((((Blk.new w5 3 #[.int .i64 0]).alloc (.cells #[.int .i64 5, .int .i64 5] 3)).alloc (.cells #[.int .i64 100] 3)).alloc (.cells #[.int .i64 1, .int .i64 2, .int .i64 3, .int .i64 4, .int .i64 5, .int .i64 6, .int .i64 7, .int .i64 8, .int .i64 9] 3)).alloc (.cells #[.slice (some ⟨w5.heap.size, 0, none⟩) 1 1, .slice (some ⟨w5.heap.size + 1, 0, none⟩) 2 2, .slice (some ⟨w5.heap.size + 1 + 1, 0, none⟩) 1 1, .slice (some ⟨w5.heap.size + 1 + 1 + 1, 0, none⟩) 9 9] 25))
            have K1 := ((((Blk.new (w5.alloc (.cells #[.int .i64 0] 3)) 3 #[.int .i64 5, .int .i64 5]).alloc (.cells #[.int .i64 100] 3)).alloc (.cells #[.int .i64 1, .int .i64 2, .int .i64 3, .int .i64 4, .int .i64 5, .int .i64 6, .int .i64 7, .int .i64 8, .int .i64 9] 3)).alloc (.cells #[.slice (some ⟨w5.heap.size, 0, none⟩) 1 1, .slice (some ⟨w5.heap.size + 1, 0, none⟩) 2 2, .slice (some ⟨w5.heap.size + 1 + 1, 0, none⟩) 1 1, .slice (some ⟨w5.heap.size + 1 + 1 + 1, 0, none⟩) 9 9] 25))
            have K2 := (((Blk.new ((w5.alloc (.cells #[.int .i64 0] 3)).alloc (.cells #[.int .i64 5, .int .i64 5] 3)) 3 #[.int .i64 100]).alloc (.cells #[.int .i64 1, .int .i64 2, .int .i64 3, .int .i64 4, .int .i64 5, .int .i64 6, .int .i64 7, .int .i64 8, .int .i64 9] 3)).alloc (.cells #[.slice (some ⟨w5.heap.size, 0, none⟩) 1 1, .slice (some ⟨w5.heap.size + 1, 0, none⟩) 2 2, .slice (some ⟨w5.heap.size + 1 + 1, 0, none⟩) 1 1, .slice (some ⟨w5.heap.size + 1 + 1 + 1, 0, none⟩) 9 9] 25))
            have K3 := ((Blk.new (((w5.alloc (.cells #[.int .i64 0] 3)).alloc (.cells #[.int .i64 5, .int .i64 5] 3)).alloc (.cells #[.int .i64 100] 3)) 3 #[.int .i64 1, .int .i64 2, .int .i64 3, .int .i64 4, .int .i64 5, .int .i64 6, .int .i64 7, .int .i64 8, .int .i64 9]).alloc (.cells #[.slice (some ⟨w5.heap.size, 0, none⟩) 1 1, .slice (some ⟨w5.heap.size + 1, 0, none⟩) 2 2, .slice (some ⟨w5.heap.size + 1 + 1, 0, none⟩) 1 1, .slice (some ⟨w5.heap.size + 1 + 1 + 1, 0, none⟩) 9 9] 25))
            have KT := Blk.new ((((w5.alloc (.cells #[.int .i64 0] 3)).alloc (.cells #[.int .i64 5, .int .i64 5] 3)).alloc (.cells #[.int .i64 100] 3)).alloc (.cells #[.int .i64 1, .int .i64 2, .int .i64 3, .int .i64 4, .int .i64 5, .int .i64 6, .int .i64 7, .int .i64 8, .int .i64 9] 3)) 25 #[.slice (some ⟨w5.heap.size, 0, none⟩) 1 1, .slice (some ⟨w5.heap.size + 1, 0, none⟩) 2 2, .slice (some ⟨w5.heap.size + 1 + 1, 0, none⟩) 1 1, .slice (some ⟨w5.heap.size + 1 + 1 + 1, 0, none⟩) 9 9]
            simp only [World.size_alloc] at K0 K1 K2 K3 KT
            have G6 := (grown_alloc (grown_alloc (grown_alloc (grown_alloc (grown_alloc G5 (.cells #[.int .i64 0] 3)) (.cells #[.int .i64 5, .int .i64 5] 3)) (.cells #[.int .i64 100] 3)) (.cells #[.int .i64 1, .int .i64 2, .int .i64 3, .int .i64 4, .int .i64 5, .int .i64 6, .int .i64 7, .int .i64 8, .int .i64 9] 3)) (.cells #[.slice (some ⟨w5.heap.size, 0, none⟩) 1 1, .slice (some ⟨w5.heap.size + 1, 0, none⟩) 2 2, .slice (some ⟨w5.heap.size + 1 + 1, 0, none⟩) 1 1, .slice (some ⟨w5.heap.size + 1 + 1 + 1, 0, none⟩) 9 9] 25))
            have r6 := (((((r5.alloc (.cells #[.int .i64 0] 3)).alloc (.cells #[.int .i64 5, .int .i64 5] 3)).alloc (.cells #[.int .i64 100] 3)).alloc (.cells #[.int .i64 1, .int .i64 2, .int .i64 3, .int .i64 4, .int .i64 5, .int .i64 6, .int .i64 7, .int .i64 8, .int .i64 9] 3)).alloc (.cells #[.slice (some ⟨w5.heap.size, 0, none⟩) 1 1, .slice (some ⟨w5.heap.size + 1, 0, none⟩) 2 2, .slice (some ⟨w5.heap.size + 1 + 1, 0, none⟩) 1 1, .slice (some ⟨w5.heap.size + 1 + 1 + 1, 0, none⟩) 9 9] 25))
            have l6 := (((((l5.alloc (.cells #[.int .i64 0] 3)).alloc (.cells #[.int .i64 5, .int .i64 5] 3)).alloc (.cells #[.int .i64 100] 3)).alloc (.cells #[.int .i64 1, .int .i64 2, .int .i64 3, .int .i64 4, .int .i64 5, .int .i64 6, .int .i64 7, .int .i64 8, .int .i64 9] 3)).alloc (.cells #[.slice (some ⟨w5.heap.size, 0, none⟩) 1 1, .slice (some ⟨w5.heap.size + 1, 0, none⟩) 2 2, .slice (some ⟨w5.heap.size + 1 + 1, 0, none⟩) 1 1, .slice (some ⟨w5.heap.size + 1 + 1 + 1, 0, none⟩) 9 9] 25))
            go_wp2_with fail
            generalize (((((w5.alloc (.cells #[.int .i64 0] 3)).alloc (.cells #[.int .i64 5, .int .i64 5] 3)).alloc (.cells #[.int .i64 100] 3)).alloc (.cells #[.int .i64 1, .int .i64 2, .int .i64 3, .int .i64 4, .int .i64 5, .int .i64 6, .int .i64 7, .int .i64 8, .int .i64 9] 3)).alloc (.cells #[.slice (some ⟨w5.heap.size, 0, none⟩) 1 1, .slice (some ⟨w5.heap.size + 1, 0, none⟩) 2 2, .slice (some ⟨w5.heap.size + 1 + 1, 0, none⟩) 1 1, .slice (some ⟨w5.heap.size + 1 + 1 + 1, 0, none⟩) 9 9] 25)) = w6 at *
            refine (pick_c r6 (by omega) (by omega) (by omega)).mono ?_
            rintro e w7 ⟨x, rfl, x0, x1, r7, g7⟩
            have G7 := grown_trans' G6 g7
            have l7 := l6.kp g7 hg
            have hx : x = 0 ∨ x = 1 ∨ x = 2 ∨ x = 3 := by omega
            have KL := KT.grown g7 (fun e => by injection e with e; omega)
            rcases hx with rfl | rfl | rfl | rfl
            · have c := KL.cell 0
              have c' : w7.cell? ⟨w5.heap.size + 1 + 1 + 1 + 1, 0, none⟩ = some (.slice (some ⟨w5.heap.size, 0, none⟩) 1 1) := c
              clear c
              have oX : OI w7 w.heap.size (.slice (some ⟨w5.heap.size, 0, none⟩) 1 1) 1 [0] := OI.of_blk (K0.grown g7 (fun e => by injection e with e; omega)) (by omega) rfl rfl (by omega)
              have K := Blk.new w7 25 #[.slice (some ⟨w5.heap.size, 0, none⟩) 1 1]
              go_wp2_with (at_builtin; refine LO.app rfl _ _ rfl rfl (l7.alloc _) rfl K (oX.alloc _) (by omega) (by have := G7.size; simp <;> omega) ?_; intro v9 w9 l9 hg9)
              have G9 := grown_lo (grown_alloc G7 _) (l7.alloc _) (Nat.le_refl _) hg9
              have r9 := (r7.alloc _).lo (l7.alloc _) hg hg9
              go_ret
              exact ⟨_, n + 1, rfl, l9, by omega, r9.mono (by omega), G9⟩
            · have c := KL.cell 1
              have c' : w7.cell? ⟨w5.heap.size + 1 + 1 + 1 + 1, 1, none⟩ = some (.slice (some ⟨w5.heap.size + 1, 0, none⟩) 2 2) := c
              clear c
              have oX : OI w7 w.heap.size (.slice (some ⟨w5.heap.size + 1, 0, none⟩) 2 2) 2 [5, 5] := OI.of_blk (K1.grown g7 (fun e => by injection e with e; omega)) (by omega) rfl rfl (by omega)
              have K := Blk.new w7 25 #[.slice (some ⟨w5.heap.size + 1, 0, none⟩) 2 2]
              go_wp2_with (at_builtin; refine LO.app rfl _ _ rfl rfl (l7.alloc _) rfl K (oX.alloc _) (by omega) (by have := G7.size; simp <;> omega) ?_; intro v9 w9 l9 hg9)
              have G9 := grown_lo (grown_alloc G7 _) (l7.alloc _) (Nat.le_refl _) hg9
              have r9 := (r7.alloc _).lo (l7.alloc _) hg hg9
              go_ret
              exact ⟨_, n + 1, rfl, l9, by omega, r9.mono (by omega), G9⟩
            · have c := KL.cell 2
              have c' : w7.cell? ⟨w5.heap.size + 1 + 1 + 1 + 1, 2, none⟩ = some (.slice (some ⟨w5.heap.size + 1 + 1, 0, none⟩) 1 1) := c
              clear c
              have oX : OI w7 w.heap.size (.slice (some ⟨w5.heap.size + 1 + 1, 0, none⟩) 1 1) 1 [100] := OI.of_blk (K2.grown g7 (fun e => by injection e with e; omega)) (by omega) rfl rfl (by omega)
              have K := Blk.new w7 25 #[.slice (some ⟨w5.heap.size + 1 + 1, 0, none⟩) 1 1]
              go_wp2_with (at_builtin; refine LO.app rfl _ _ rfl rfl (l7.alloc _) rfl K (oX.alloc _) (by omega) (by have := G7.size; simp <;> omega) ?_; intro v9 w9 l9 hg9)
              have G9 := grown_lo (grown_alloc G7 _) (l7.alloc _) (Nat.le_refl _) hg9
              have r9 := (r7.alloc _).lo (l7.alloc _) hg hg9
              go_ret
              exact ⟨_, n + 1, rfl, l9, by omega, r9.mono (by omega), G9⟩
            · have c := KL.cell 3
              have c' : w7.cell? ⟨w5.heap.size + 1 + 1 + 1 + 1, 3, none⟩ = some (.slice (some ⟨w5.heap.size + 1 + 1 + 1, 0, none⟩) 9 9) := c
              clear c
              have oX : OI w7 w.heap.size (.slice (some ⟨w5.heap.size + 1 + 1 + 1, 0, none⟩) 9 9) 9 [1, 2, 3, 4, 5, 6, 7, 8, 9] := OI.of_blk (K3.grown g7 (fun e => by injection e with e; omega)) (by omega) rfl rfl (by omega)
              have K := Blk.new w7 25 #[.slice (some ⟨w5.heap.size + 1 + 1 + 1, 0, none⟩) 9 9]
              go_wp2_with (at_builtin; refine LO.app rfl _ _ rfl rfl (l7.alloc _) rfl K (oX.alloc _) (by omega) (by have := G7.size; simp <;> omega) ?_; intro v9 w9 l9 hg9)
              have G9 := grown_lo (grown_alloc G7 _) (l7.alloc _) (Nat.le_refl _) hg9
              have r9 := (r7.alloc _).lo (l7.alloc _) hg hg9
              go_ret
              exact ⟨_, n + 1, rfl, l9, by omega, r9.mono (by omega), G9⟩

def DrawOlR (w : World) (e : Ending) (w' : World) : Prop := ∃ A n c ls, e = .returned (.slice A n c) ∧ RL w' A n ls ∧ n ≤ 1048576 ∧ Below w.heap.size w w'
set_option maxRecDepth 100000 in
theorem DrawOrderOfLists_c {w : World} {A : Option Addr} {n c : Nat} (hnc : n ≤ c) (hmx : c ≤ maxLen) (hb : BY w w.heap.size A n) : Calls Tryd.prog 5 #[.slice A n c] w (DrawOlR w) := by
  go_enter Tryd.func5, Tryd.ntmps5
  go_wp2_with fail
  refine (l20Open_c hnc hmx hb).mono ?_
  rintro e w1 ⟨rfl, r1, b1⟩
  go_wp2_with fail
  refine (l20Lists_c r1 (by omega) (by omega) (by omega)).mono ?_
  rintro e w2 ⟨v, k, rfl, l2, hk, r2, g2⟩
  obtain ⟨A', c', ls, rfl, hkc, hrl⟩ := l2.rl
  go_wp2_with fail
  go_ret
  exact ⟨_, _, _, ls, rfl, hrl, by omega, belowG b1 g2 (Nat.le_refl _)⟩

end Go.Proofs.YtipmfpfmhgdgdaaDoor
