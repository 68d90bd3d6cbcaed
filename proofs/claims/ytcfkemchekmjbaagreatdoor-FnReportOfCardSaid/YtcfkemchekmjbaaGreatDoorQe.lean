/- Merged (what the law reaches): DrawH. -/
import Derived.Test.YtcfkemchekmjbaaGreatDoorQd
import Derived.Deep.DeepCutAuto
namespace Go.Proofs.YtcfkemchekmjbaaGreatDoor
open Go.RowKit
def zs3 : Array Value := (List.replicate 3 (Value.int .i64 0)).toArray
def zt7 : Array Value := madeCells #[.int .i64 0, .slice none 0 0, .bool false] 21
theorem make3h (w : World) : (Instr.makeSlice 24 (.int .i64 3) (.int .i64 3)).run Tryz.prog w = .ok (.slice (some ⟨w.heap.size, 0, none⟩) 3 3) (w.alloc (.cells zs3 3)) := run_make_ints 3 (by omega) w
theorem make7 (w : World) : (Instr.makeSlice 27 (.int .i64 7) (.int .i64 7)).run Tryz.prog w = .ok (.slice (some ⟨w.heap.size, 0, none⟩) 7 7) (w.alloc (.cells zt7 66)) := by
  obtain ⟨i, hi, hz, hs, hb⟩ := info_parts infoTh
  have := run_make_rowN 27 66 i (.agg #[.int .i64 0, .slice none 0 0, .bool false]) Tryz.underlying27 hi hz .i64 .i64 7 7 (Nat.le_refl _) (by rw [hb]; omega) (by omega) w
  rw [hs] at this
  exact this
theorem EO.nil (w : World) (lo : Nat) : EO w lo (.slice none 0 0) := ⟨0, [], ⟨World.ownsRow_nil _ _ _ _, by omega⟩, by omega⟩
theorem zt7_to {w : World} {b lo : Nat} (h : Blk w b 66 zt7) (hlo : lo ≤ b) : TO w lo (.slice (some ⟨b, 0, none⟩) 7 7) 7 := by
  have hl : zt7.toList = [.int .i64 0, .slice none 0 0, .bool false, .int .i64 0, .slice none 0 0, .bool false, .int .i64 0, .slice none 0 0, .bool false, .int .i64 0, .slice none 0 0, .bool false, .int .i64 0, .slice none 0 0, .bool false, .int .i64 0, .slice none 0 0, .bool false, .int .i64 0, .slice none 0 0, .bool false] := by kernel_rfl
  refine ⟨zt7.toList, ⟨by rw [hl]; rfl, .inr ⟨b, 7, zt7, rfl, hlo, h, Nat.le_refl _, by simp [maxLen], by kernel_rfl, by rw [hl]; rfl⟩⟩, by rw [hl]; rfl, fun j hj => ?_⟩
  have hj' : j = 0 ∨ j = 1 ∨ j = 2 ∨ j = 3 ∨ j = 4 ∨ j = 5 ∨ j = 6 := by omega
  rw [hl]
  rcases hj' with rfl | rfl | rfl | rfl | rfl | rfl | rfl <;> exact ⟨0, _, false, rfl, rfl, rfl, EO.nil w lo⟩
/-- Where a drawn transaction stands: its box tb, its operations u, the row of what it has seen. -/
structure HS (wr : World) (g : Nat) (W : World) (tb sb cs : Nat) (f : Int) (d : Bool) (u : Value) (m P : Nat) : Prop where
  box : Blk W tb 66 #[.int .i64 f, u, .bool d]
  ops : ∃ ys, O3 61 W wr.heap.size u m ys
  seen : ∃ sn, OI W wr.heap.size (.slice (some ⟨sb, 0, none⟩) 3 cs) 3 sn
  rd : RD W g P
  frame : wr.grownBy W (some g)
  hb : wr.heap.size ≤ tb
  hg : g < wr.heap.size
section
variable {wr W W' : World} {g tb sb cs m P P' : Nat} {f : Int} {d : Bool} {u : Value}
theorem HS.sbB (h : HS wr g W tb sb cs f d u m P) : wr.heap.size ≤ sb := by
  obtain ⟨sn, o⟩ := h.seen; exact (World.ownsRow.lt o.1 sb rfl).1
theorem HS.kp (h : HS wr g W tb sb cs f d u m P) (k : W.grownBy W' (some g)) (r : RD W' g P') : HS wr g W' tb sb cs f d u m P' := by
  obtain ⟨ys, o⟩ := h.ops; obtain ⟨sn, s⟩ := h.seen
  have hb := h.hb; have hg := h.hg
  exact ⟨h.box.grown k (fun e => by injection e with e; omega), ⟨ys, o.1.kept k (own_bne o.1 hg), o.2⟩, ⟨sn, s.1.kept k (own_bne s.1 hg), s.2⟩, r, grown_trans' h.frame k, hb, hg⟩
theorem HS.alloc (h : HS wr g W tb sb cs f d u m P) (o : Obj) : HS wr g (W.alloc o) tb sb cs f d u m P := h.kp (grown_alloc (World.grownBy.refl W (some g)) o) (h.rd.alloc o)
theorem HS.mono (h : HS wr g W tb sb cs f d u m P) (hp : P ≤ P') : HS wr g W tb sb cs f d u m P' := ⟨h.box, h.ops, h.seen, h.rd.mono hp, h.frame, h.hb, h.hg⟩
theorem HS.put (h : HS wr g W tb sb cs f d u m P) (i : Nat) (x : Int) : HS wr g (W.setCell ⟨sb, i, none⟩ (.int .i64 x)) tb sb cs f d u m P := by
  obtain ⟨ys, o⟩ := h.ops; obtain ⟨sn, s⟩ := h.seen
  have hb := h.hb; have hg := h.hg; have hs := h.sbB
  have k : W.grownBy (W.setCell ⟨sb, i, none⟩ (.int .i64 x)) (some sb) := grown_setCell (World.grownBy.refl W (some sb)) (.inl rfl) _
  have hne : tb ≠ sb := fun e => by
    subst e
    rcases s.1.2 with ⟨e, _⟩ | ⟨g1, cap, cur, e, _, hh, _⟩
    · cases e
    · injection e with e _ _; injection e with e; injection e with e; subst e
      have hB := h.box
      unfold Blk at hB; rw [hh] at hB; injection hB with hB; injection hB with _ h2; exact absurd h2 (by decide)
  exact ⟨h.box.grown k (fun e => by injection e with e; exact hne e), ⟨ys, o.1.kept k (own_ne o.1 s.1 (by decide)), o.2⟩, ⟨_, s.store i x⟩, h.rd.setC (p := ⟨sb, i, none⟩) (by show g < sb; omega) _, grown_setCell (p := ⟨sb, i, none⟩) h.frame (.inr hs) _, hb, hg⟩
theorem HS.box' (h : HS wr g W tb sb cs f d u m P) (k : W.grownBy W' u.ownBlock) : Blk W' tb 66 #[.int .i64 f, u, .bool d] := by
  obtain ⟨ys, o⟩ := h.ops
  have hbx := h.box
  exact hbx.grown k (fun e => by
    rcases own_neB o.1 hbx (by decide) with q | q
    · rw [q] at e; cases e
    · exact q e.symm)
theorem HS.app {u' : Value} {m' : Nat} {ys' : List T3} (h : HS wr g W tb sb cs f d u m P) (k : W.grownBy W' u.ownBlock) (o' : O3 61 W' wr.heap.size u' m' ys') : HS wr g (W'.setCell ⟨tb, 1, none⟩ u') tb sb cs f d u' m' P := by
  obtain ⟨ys, o⟩ := h.ops; obtain ⟨sn, s⟩ := h.seen
  have hb := h.hb; have hg := h.hg
  have hbx := h.box
  have f1 : wr.grownBy W' (some g) := ⟨k.os.trans h.frame.os, k.tape.trans h.frame.tape, k.output.trans h.frame.output, Nat.le_trans h.frame.size k.size, fun i hi hn => (k.block i (Nat.lt_of_lt_of_le hi h.frame.size) (fun e => by have := (World.ownsRow.lt o.1 i e.symm).1; omega)).trans (h.frame.block i hi hn)⟩
  have b1 : Blk W' tb 66 #[.int .i64 f, u, .bool d] := hbx.grown k (fun e => by
    rcases own_neB o.1 hbx (by decide) with q | q
    · rw [q] at e; cases e
    · exact q e.symm)
  have s1 : OI W' wr.heap.size (.slice (some ⟨sb, 0, none⟩) 3 cs) 3 sn := ⟨s.1.kept k (own_ne s.1 o.1 (by decide)), s.2⟩
  have r1 : RD W' g P := h.rd.grown k (fun i hi => by have := (World.ownsRow.lt o.1 i hi).1; omega)
  have k2 : W'.grownBy (W'.setCell ⟨tb, 1, none⟩ u') (some tb) := grown_setCell (World.grownBy.refl W' (some tb)) (.inl rfl) _
  exact ⟨b1.set_ 1 u', ⟨ys', o'.1.kept k2 (own_neB o'.1 b1 (by decide)), o'.2⟩, ⟨sn, s1.1.kept k2 (own_neB s1.1 b1 (by decide)), s1.2⟩, r1.setC (p := ⟨tb, 1, none⟩) (by show g < tb; omega) _, grown_setCell (p := ⟨tb, 1, none⟩) f1 (.inr hb) _, hb, hg⟩
end
theorem EO.alloc {w : World} {lo : Nat} {u : Value} (h : EO w lo u) (o : Obj) : EO (w.alloc o) lo u := h.map (fun _ _ q => q.alloc o)
section
variable {w w' : World} {lo n b c : Nat}
theorem TO.at_ (h : TO w lo (.slice (some ⟨b, 0, none⟩) n c) n) {j : Nat} (hj : j < n) : ∃ f u d, w.cell? ⟨b, j * 3, none⟩ = some (.int .i64 f) ∧ w.cell? ⟨b, j * 3 + 1, none⟩ = some u ∧ w.cell? ⟨b, j * 3 + 2, none⟩ = some (.bool d) ∧ EO w lo u := by
  obtain ⟨cs, h1, h2⟩ := h
  have hl := h2.1
  obtain ⟨f, u, d, e1, e2, e3, e4⟩ := h2.2 j hj
  have g1 := World.ownsRow.cellAt h1 (j * 3) (by omega)
  have g2 := World.ownsRow.cellAt h1 (j * 3 + 1) (by omega)
  have g3 := World.ownsRow.cellAt h1 (j * 3 + 2) (by omega)
  exact ⟨f, u, d, g1.trans e1, g2.trans e2, g3.trans e3, e4⟩
theorem TO.free (h : TO w lo (.slice (some ⟨b, 0, none⟩) n c) n) (i : Nat) : w.frozen? ⟨b, i, none⟩ = false := by
  obtain ⟨cs, h1, h2⟩ := h
  exact World.ownsRow.frozenAt h1 i
theorem TO.base (h : TO w lo (.slice (some ⟨b, 0, none⟩) n c) n) : lo ≤ b ∧ b < w.heap.size := by
  obtain ⟨cs, h1, h2⟩ := h
  exact World.ownsRow.lt h1 b rfl
theorem TO.set_ (h : TO w lo (.slice (some ⟨b, 0, none⟩) n c) n) {j : Nat} (hj : j < n) {f : Int} {u : Value} {d : Bool} (hu : EO w lo u) :
    TO (((w.setCell ⟨b, j * 3, none⟩ (.int .i64 f)).setCell ⟨b, j * 3 + 1, none⟩ u).setCell ⟨b, j * 3 + 2, none⟩ (.bool d)) lo (.slice (some ⟨b, 0, none⟩) n c) n := by
  obtain ⟨cs, h1, h2⟩ := h
  have hl := h2.1
  have k1 := (World.ownsRow.stored h1 (j * 3) (.int .i64 f)).1
  have k2 := (World.ownsRow.stored k1 (j * 3 + 1) u).1
  have k3 := (World.ownsRow.stored k2 (j * 3 + 2) (.bool d)).1
  have hg : w.grownBy (((w.setCell ⟨b, j * 3, none⟩ (.int .i64 f)).setCell ⟨b, j * 3 + 1, none⟩ u).setCell ⟨b, j * 3 + 2, none⟩ (.bool d)) (some b) :=
    grown_setCell (p := ⟨b, j * 3 + 2, none⟩) (grown_setCell (p := ⟨b, j * 3 + 1, none⟩) (grown_setCell (p := ⟨b, j * 3, none⟩) (World.grownBy.refl w (some b)) (.inl rfl) _) (.inl rfl) _) (.inl rfl) _
  have fE : ∀ y, EO w lo y → EO (((w.setCell ⟨b, j * 3, none⟩ (.int .i64 f)).setCell ⟨b, j * 3 + 1, none⟩ u).setCell ⟨b, j * 3 + 2, none⟩ (.bool d)) lo y := fun y hy => hy.map (fun _ _ o => ⟨o.1.kept hg (own_ne o.1 h1 (by decide)), o.2⟩)
  refine ⟨_, k3, by simp [hl], fun i hi => ?_⟩
  by_cases e : i = j
  · subst e
    refine ⟨f, u, d, ?_, ?_, ?_, fE u hu⟩
    · rw [List.getElem?_set_ne (by omega), List.getElem?_set_ne (by omega), List.getElem?_set_self (by omega)]
    · rw [List.getElem?_set_ne (by omega), List.getElem?_set_self (by simp; omega)]
    · rw [List.getElem?_set_self (by simp; omega)]
  · obtain ⟨a, x, dd, e1, e2, e3, e4⟩ := h2.2 i hi
    refine ⟨a, x, dd, ?_, ?_, ?_, fE x e4⟩
    · rw [List.getElem?_set_ne (by omega), List.getElem?_set_ne (by omega), List.getElem?_set_ne (by omega)]; exact e1
    · rw [List.getElem?_set_ne (by omega), List.getElem?_set_ne (by omega), List.getElem?_set_ne (by omega)]; exact e2
    · rw [List.getElem?_set_ne (by omega), List.getElem?_set_ne (by omega), List.getElem?_set_ne (by omega)]; exact e3
theorem TO.setE (h : TO w lo (.slice (some ⟨b, 0, none⟩) n c) n) {y : Value} (hy : EO w lo y) (i j k : Nat) (x1 x2 x3 : Value) :
    EO (((w.setCell ⟨b, i, none⟩ x1).setCell ⟨b, j, none⟩ x2).setCell ⟨b, k, none⟩ x3) lo y := by
  obtain ⟨cs, h1, h2⟩ := h
  have hg : w.grownBy (((w.setCell ⟨b, i, none⟩ x1).setCell ⟨b, j, none⟩ x2).setCell ⟨b, k, none⟩ x3) (some b) :=
    grown_setCell (p := ⟨b, k, none⟩) (grown_setCell (p := ⟨b, j, none⟩) (grown_setCell (p := ⟨b, i, none⟩) (World.grownBy.refl w (some b)) (.inl rfl) _) (.inl rfl) _) (.inl rfl) _
  exact hy.map (fun _ _ o => ⟨o.1.kept hg (own_ne o.1 h1 (by decide)), o.2⟩)
theorem EO.shape {y : Value} (h : EO w lo y) : ∃ A m c, y = .slice A m c := by
  obtain ⟨m, ys, o, _⟩ := h
  obtain ⟨A, c, e⟩ := o.shape
  exact ⟨A, m, c, e⟩
theorem TO.form {v : Value} (h : TO w lo v n) (hn : 0 < n) : ∃ b c, v = .slice (some ⟨b, 0, none⟩) n c ∧ n ≤ c := by
  obtain ⟨cs, h1, h2⟩ := h
  rcases h1.2 with ⟨_, h0⟩ | ⟨g, cap, cur, rfl, hB, hg, hc, r⟩
  · omega
  · exact ⟨g, cap, rfl, hc⟩
theorem TO.shape {v : Value} (h : TO w lo v n) : ∃ A c, v = .slice A n c := by
  obtain ⟨cs, h1, h2⟩ := h
  rcases h1.2 with ⟨e, h0⟩ | ⟨g, cap, cur, e, _⟩
  · subst h0; exact ⟨_, _, e⟩
  · exact ⟨_, _, e⟩
end
def DrawHR (w : World) (g P : Nat) (e : Ending) (w' : World) : Prop := ∃ v n, e = .returned v ∧ TO w' w.heap.size v n ∧ n ≤ 8 ∧ RD w' g P ∧ w.grownBy w' (some g)
set_option maxRecDepth 100000 in
set_option maxHeartbeats 16000000 in
theorem l20History_c {w : World} {g P : Nat} {most q : Int} (hr : RD w g P) (hP : P ≤ 10000) (hm1 : 0 ≤ most) (hm2 : most ≤ 6) (hq1 : 0 ≤ q) (hq2 : q ≤ 100000) :
    Calls Tryz.prog 82 #[.pointer (some ⟨g, 0, none⟩), .int .i64 most, .int .i64 q] w (DrawHR w g (P + 400)) := by
  have hg := hr.lt
  have hmk3 := make3h
  have hmk7 := make7
  have t0 := TO.empty w
  have K3 := Blk.new (w.alloc (.cells #[] 66)) 3 zs3
  have t1 := t0.alloc (.cells zs3 3)
  have r1 := (hr.alloc (.cells #[] 66)).alloc (.cells zs3 3)
  have G1 := grown_alloc (grown_alloc (World.grownBy.refl w (some g)) (.cells #[] 66)) (.cells zs3 3)
  have o1 : OI ((w.alloc (.cells #[] 66)).alloc (.cells zs3 3)) w.heap.size (.slice (some ⟨(w.alloc (.cells #[] 66)).heap.size, 0, none⟩) 3 3) 3 [0, 0, 0] := OI.of_blk K3 (by simp) rfl rfl (by omega)
  simp only [World.size_alloc] at o1
  clear K3 t0
  go_enter Tryz.func82, Tryz.ntmps82
  go_wp2_with fail
  generalize (w.alloc (.cells #[] 66)).alloc (.cells zs3 3) = wa at *
  refine (pick_c r1 (by omega) (by omega) (by omega)).mono ?_
  rintro e w2 ⟨x, rfl, x0, x1, r2, g2⟩
  obtain ⟨j0, rfl⟩ : ∃ j : Nat, x = j := ⟨x.toNat, by omega⟩
  have G2 := grown_trans' G1 g2
  have t2 := t1.kp g2 hg
  have o2 := o1.grown g2 (o1.block_ne hg)
  clear G1 t1 o1 r1 g2
  go_wp2_with fail
  go_loopw [7, 8, 9, 10] (fun v nx st i wr => ∃ (j n : Nat) (y : Nat) (xs : List Int), i = .int .i64 j ∧ n + j ≤ 6 ∧ TO wr w.heap.size v n ∧ nx = .int .i64 y ∧ y + 4 * j ≤ 25 ∧ OI wr w.heap.size st 3 xs ∧ RD wr g (P + 200 - 30 * j) ∧ w.grownBy wr (some g)) (fun _ _ _ i _ => (intOf i).toNat)
  case atStart => exact ⟨j0, 0, 1, _, rfl, by omega, t2, rfl, by omega, o2, r2.mono (by omega), G2⟩
  case round =>
    clear t2 o2 r2 G2
    obtain ⟨j, n, y, xs, rfl, hnj, tA, rfl, hy, oA, rA, GA⟩ := hrel
    by_cases hlt : 0 < j
    · have hlt' : (0 : Int) < j := by omega
      have hgr := rA.lt
      go_wp2_with fail
      refine (pick_c rA (by omega) (by omega) (by omega)).mono ?_
      rintro e w3 ⟨f, rfl, f0, f1, r3, g3⟩
      have u3 := O3.empty 61 w3
      have F3 := grown_alloc g3 (.cells #[] 61)
      have s3 := g3.size
      go_wp2_with fail
      refine (pick_c (r3.alloc _) (by omega) (by omega) (by omega)).mono ?_
      rintro e w4 ⟨dd, rfl, d0, d1, r4, g4⟩
      have lt3 := r3.lt
      have u4 := (u3.grown g4 (u3.block_ne lt3)).mono s3
      have F4 := grown_trans' F3 g4
      have s4 := F4.size
      have K4 := Blk.new w4 66 #[.int .i64 f, .slice (some ⟨w3.heap.size, 0, none⟩) 0 0, .bool (decide ((0 : Int) < dd))]
      have u5 := u4.alloc (.cells #[.int .i64 f, .slice (some ⟨w3.heap.size, 0, none⟩) 0 0, .bool (decide ((0 : Int) < dd))] 66)
      have r5 := r4.alloc (.cells #[.int .i64 f, .slice (some ⟨w3.heap.size, 0, none⟩) 0 0, .bool (decide ((0 : Int) < dd))] 66)
      have F5 := grown_alloc F4 (.cells #[.int .i64 f, .slice (some ⟨w3.heap.size, 0, none⟩) 0 0, .bool (decide ((0 : Int) < dd))] 66)
      have oA5 := oA.grown F5 (oA.block_ne hg)
      clear u3 F3 g3 u4 F4 g4 r3 r4
      go_upto_region 8 with fail
      generalize w4.alloc (.cells #[.int .i64 f, .slice (some ⟨w3.heap.size, 0, none⟩) 0 0, .bool (decide ((0 : Int) < dd))] 66) = w5 at *
      obtain ⟨d, hd⟩ : ∃ d, decide ((0 : Int) < dd) = d := ⟨_, rfl⟩
      rw [hd] at K4 ⊢
      clear hd
      have oE := OI.empty w5
      have s5 := F5.size
      go_upto_region 9 with (at_builtin; go_loud (refine wpList_appI rfl _ _ rfl rfl oE rfl (oA5.si.alloc _) (by omega) (by simp) ?_; intro v6 w6 o6 hg6 hat6))
      obtain ⟨sb, cs, rfl, hsb, hsb2⟩ := o6.1.form (by omega)
      have F6 := grown_own (grown_alloc F5 (.cells #[] 3)) oE s5 hg6
      have r6 := (r5.alloc (.cells #[] 3)).own oE (by omega) hg6
      have u6 := O3.grown (u5.alloc (.cells #[] 3)) hg6 (own_ne (u5.alloc (.cells #[] 3)).1 oE.1 (by decide))
      have K6 := (K4.alloc (.cells #[] 3)).grown hg6 (fun e => by
        have e' : some w4.heap.size = (Value.slice (some ⟨w5.heap.size, 0, none⟩) 0 0).ownBlock := e
        rcases own_neB oE.1 (K4.alloc (.cells #[] 3)) (by decide) with q | q
        · rw [q] at e'; cases e'
        · exact q e'.symm)
      have H6 : HS wr g w6 w4.heap.size sb cs f d (.slice (some ⟨w3.heap.size, 0, none⟩) 0 0) 0 (P + 200 - 30 * j + 2) := ⟨K6, ⟨_, u6⟩, ⟨_, o6.mono s5⟩, r6, F6, s4, hgr⟩
      clear F6 r6 u6 K6 o6 hg6 hat6 oE F5 r5 u5 K4 oA5 s5
      go_wp2_with fail
      refine (pick_c H6.rd (by omega) (by omega) (by omega)).mono ?_
      rintro e w7 ⟨x, rfl, x0, x1, r7, g7⟩
      obtain ⟨i0, rfl⟩ : ∃ j : Nat, x = j := ⟨x.toNat, by omega⟩
      have H7 := hide (H6.kp g7 r7)
      clear H6 r7 g7
      go_wp2_with fail
      go_loopw [8, 13] (fun nx i W => ∃ (k y' m : Nat) (u : Value), i = .int .i64 k ∧ nx = .int .i64 y' ∧ y' + k ≤ y + 4 ∧ m + k ≤ 4 ∧ HS wr g W w4.heap.size sb cs f d u m (P + 224 - 30 * j - 5 * k)) (fun _ i _ => (intOf i).toNat)
      case atStart => exact ⟨i0, y, 0, _, rfl, rfl, by omega, by omega, H7.out.mono (by omega)⟩
      case round =>
        clear H7
        rename World => W0
        obtain ⟨k, y', m, u, rfl, rfl, hyk, hmk, H⟩ := hrel
        by_cases hk0 : 0 < k
        · have hk0' : (0 : Int) < k := by omega
          have KT := Blk.new W0 3 #[.int .i64 0, .int .i64 0, .int .i64 1, .int .i64 1, .int .i64 2]
          have H1 := H.alloc (.cells #[.int .i64 0, .int .i64 0, .int .i64 1, .int .i64 1, .int .i64 2] 3)
          have ltW := H.rd.lt
          clear H
          go_wp2_with fail
          generalize W0.alloc (.cells #[.int .i64 0, .int .i64 0, .int .i64 1, .int .i64 1, .int .i64 2] 3) = W1 at *
          refine (pick_c H1.rd (by omega) (by omega) (by omega)).mono ?_
          rintro e W2 ⟨x, rfl, x0, x1, rW2, gW2⟩
          obtain ⟨xi, rfl⟩ : ∃ j : Nat, x = j := ⟨x.toNat, by omega⟩
          have H2 := H1.kp gW2 rW2
          have KT2 := KT.grown gW2 (fun e => by injection e with e; omega)
          obtain ⟨key, hkey, ck⟩ : ∃ key : Nat, key ≤ 2 ∧ W2.cell? ⟨W0.heap.size, xi, none⟩ = some (.int .i64 key) := by
            have : xi = 0 ∨ xi = 1 ∨ xi = 2 ∨ xi = 3 ∨ xi = 4 := by omega
            rcases this with rfl | rfl | rfl | rfl | rfl
            · exact ⟨0, by omega, KT2.cell 0⟩
            · exact ⟨0, by omega, KT2.cell 1⟩
            · exact ⟨1, by omega, KT2.cell 2⟩
            · exact ⟨1, by omega, KT2.cell 3⟩
            · exact ⟨2, by omega, KT2.cell 4⟩
          clear KT KT2 H1 rW2 gW2
          go_wp2_with fail
          refine (pick_c H2.rd (by omega) (by omega) (by omega)).mono ?_
          rintro e W3 ⟨x, rfl, x0, x1, rW3, gW3⟩
          have H3 := H2.kp gW3 rW3
          clear H2 rW3 gW3 ck
          obtain ⟨sn, oS⟩ := H3.seen
          obtain ⟨zz, hzz, cz⟩ := oS.cell key (by omega)
          have fz := oS.free key
          have key0 : (0 : Int) ≤ key := by omega
          have key1 : (key : Int) < 3 := by omega
          clear oS hzz
          by_cases hx0 : x = 0
          · subst hx0
            have H4 := H3.put key (y' : Int)
            clear H3
            go_upto_region 15 with fail
            generalize W3.setCell ⟨sb, key, none⟩ (.int .i64 (y' : Int)) = W4 at *
            obtain ⟨ys, oU⟩ := H4.ops
            obtain ⟨q0, q1, q2⟩ := H4.box.three'
            have hsW := H4.frame.size
            have H5 := H4.alloc (.cells #[.int .i64 2, .int .i64 key, .int .i64 y'] 61)
            have KN := Blk.new W4 61 #[.int .i64 2, .int .i64 key, .int .i64 y']
            have oU5 := oU.alloc (.cells #[.int .i64 2, .int .i64 key, .int .i64 y'] 61)
            clear H4 oU
            go_wp2_with (at_builtin; refine wpList_app3 rfl _ _ rfl Tryz.underlying64 infoOh rfl oU5 rfl (S3.one KN (Nat.le_refl _)) (by omega) (by simp <;> omega) ?_; intro v6 W6 o6 hg6 hat6; obtain ⟨A6, c6, rfl⟩ := O3.shape o6; have b6 := HS.box' H5 hg6; obtain ⟨p0, p1, p2⟩ := Blk.three' b6; have fz6 := Blk.frozen b6 1)
            have H6 := H5.app hg6 o6
            clear o6 hg6 b6 p0 p1 p2 fz6 H5 KN oU5
            go_roundw
            case rel => exact ⟨k - 1, y' + 1, m + 1, _, by go_num, by go_num, by omega, by omega, H6.mono (by omega)⟩
            case measure => simp [intOf]; omega
          · have hx0' : (x == 0) = false := by simpa using hx0
            go_wp2_with fail
            refine (pick_c H3.rd (by omega) (by omega) (by omega)).mono ?_
            rintro e W4 ⟨z, rfl, z0, z1, rW4, gW4⟩
            have H4 := H3.kp gW4 rW4
            clear H3 rW4 gW4 cz fz
            by_cases hz0 : z = 0
            · subst hz0
              have hy1 : (1 : Int) ≤ (y' : Int) + 1 := by omega
              go_wp2_with fail
              refine (pick_c H4.rd (by omega) hy1 (by omega)).mono ?_
              rintro e W5 ⟨v2, rfl, v20, v21, rW5, gW5⟩
              have H4b := H4.kp gW5 rW5
              clear H4 rW5 gW5
              go_wp2_with fail
              refine (pick_c H4b.rd (by omega) (by omega) (by omega)).mono ?_
              rintro e W6 ⟨v3, rfl, v30, v31, rW6, gW6⟩
              have H4c := H4b.kp gW6 rW6
              clear H4b rW6 gW6
              by_cases hv3 : v3 = 0
              · subst hv3
                obtain ⟨ys, oU⟩ := H4c.ops
                obtain ⟨q0, q1, q2⟩ := H4c.box.three'
                have hsW := H4c.frame.size
                have H5 := H4c.alloc (.cells #[.int .i64 1, .int .i64 key, .int .i64 0] 61)
                have KN := Blk.new W6 61 #[.int .i64 1, .int .i64 key, .int .i64 0]
                have oU5 := oU.alloc (.cells #[.int .i64 1, .int .i64 key, .int .i64 0] 61)
                clear H4c oU
                go_wp2_with (at_builtin; refine wpList_app3 rfl _ _ rfl Tryz.underlying64 infoOh rfl oU5 rfl (S3.one KN (Nat.le_refl _)) (by omega) (by simp <;> omega) ?_; intro v6 W6 o6 hg6 hat6; obtain ⟨A6, c6, rfl⟩ := O3.shape o6; have b6 := HS.box' H5 hg6; obtain ⟨p0, p1, p2⟩ := Blk.three' b6; have fz6 := Blk.frozen b6 1)
                have H6 := H5.app hg6 o6
                clear o6 hg6 b6 p0 p1 p2 fz6 H5 KN oU5
                go_roundw
                case rel => exact ⟨k - 1, y', m + 1, _, by go_num, by go_num, by omega, by omega, H6.mono (by omega)⟩
                case measure => simp [intOf]; omega
              · have hv3' : (v3 == 0) = false := by simpa using hv3
                obtain ⟨ys, oU⟩ := H4c.ops
                obtain ⟨q0, q1, q2⟩ := H4c.box.three'
                have hsW := H4c.frame.size
                have H5 := H4c.alloc (.cells #[.int .i64 1, .int .i64 key, .int .i64 v2] 61)
                have KN := Blk.new W6 61 #[.int .i64 1, .int .i64 key, .int .i64 v2]
                have oU5 := oU.alloc (.cells #[.int .i64 1, .int .i64 key, .int .i64 v2] 61)
                clear H4c oU
                go_wp2_with (at_builtin; refine wpList_app3 rfl _ _ rfl Tryz.underlying64 infoOh rfl oU5 rfl (S3.one KN (Nat.le_refl _)) (by omega) (by simp <;> omega) ?_; intro v6 W6 o6 hg6 hat6; obtain ⟨A6, c6, rfl⟩ := O3.shape o6; have b6 := HS.box' H5 hg6; obtain ⟨p0, p1, p2⟩ := Blk.three' b6; have fz6 := Blk.frozen b6 1)
                have H6 := H5.app hg6 o6
                clear o6 hg6 b6 p0 p1 p2 fz6 H5 KN oU5
                go_roundw
                case rel => exact ⟨k - 1, y', m + 1, _, by go_num, by go_num, by omega, by omega, H6.mono (by omega)⟩
                case measure => simp [intOf]; omega
            · have hz0' : (z == 0) = false := by simpa using hz0
              obtain ⟨ys, oU⟩ := H4.ops
              obtain ⟨q0, q1, q2⟩ := H4.box.three'
              have hsW := H4.frame.size
              have H5 := H4.alloc (.cells #[.int .i64 1, .int .i64 key, .int .i64 zz] 61)
              have KN := Blk.new W4 61 #[.int .i64 1, .int .i64 key, .int .i64 zz]
              have oU5 := oU.alloc (.cells #[.int .i64 1, .int .i64 key, .int .i64 zz] 61)
              clear H4 oU
              go_wp2_with (at_builtin; refine wpList_app3 rfl _ _ rfl Tryz.underlying64 infoOh rfl oU5 rfl (S3.one KN (Nat.le_refl _)) (by omega) (by simp <;> omega) ?_; intro v6 W6 o6 hg6 hat6; obtain ⟨A6, c6, rfl⟩ := O3.shape o6; have b6 := HS.box' H5 hg6; obtain ⟨p0, p1, p2⟩ := Blk.three' b6; have fz6 := Blk.frozen b6 1)
              have H6 := H5.app hg6 o6
              clear o6 hg6 b6 p0 p1 p2 fz6 H5 KN oU5
              go_roundw
              case rel => exact ⟨k - 1, y', m + 1, _, by go_num, by go_num, by omega, by omega, H6.mono (by omega)⟩
              case measure => simp [intOf]; omega
        · obtain rfl : k = 0 := by omega
          obtain ⟨q0, q1, q2⟩ := H.box.three'
          cases d
          · clear q0 q1 q2
            obtain ⟨q0, q1, q2⟩ := H.box.three'
            have tB := tA.kp H.frame hg
            have GB := grown_trans' GA H.frame
            obtain ⟨ys, oU⟩ := H.ops
            obtain ⟨q0, q1, q2⟩ := H.box.three'
            have eU : EO W0 w.heap.size u := ⟨m, ys, oU.mono GA.size, by omega⟩
            have K := Blk.new W0 66 #[.int .i64 f, u, .bool false]
            have oSt := oA.grown H.frame (oA.block_ne hg)
            have hsz := GB.size
            go_wp2_with (at_builtin; refine TO.app rfl _ _ rfl rfl (tB.alloc _) rfl K (eU.alloc _) (by omega) (by simp <;> omega) ?_; intro v9 w9 l9 hg9)
            have G9 := TO.grows (grown_alloc GB (.cells #[.int .i64 f, u, .bool false] 66)) (tB.alloc _) (Nat.le_refl _) hg9
            have r9 := TO.rd (tB.alloc (.cells #[.int .i64 f, u, .bool false] 66)) (H.rd.alloc _) hg hg9
            have o9 := TO.int (tB.alloc (.cells #[.int .i64 f, u, .bool false] 66)) (oSt.alloc _) hg9
            go_roundw
            case rel => exact ⟨j - 1, n + 1, y', _, by go_num, by omega, l9, rfl, by omega, o9, r9.mono (by omega), G9⟩
            case measure => simp [intOf]; omega
          · go_wp2_with fail
            refine (pick_c H.rd (by omega) (by omega) (by omega)).mono ?_
            rintro e W1 ⟨x, rfl, x0, x1, rW1, gW1⟩
            have H1 := H.kp gW1 rW1
            clear H q0 q1 q2 rW1 gW1
            by_cases hx0 : 0 < x
            · have hx1 : decide (0 < x) = true := by simpa using hx0
              have tB := tA.kp H1.frame hg
              have GB := grown_trans' GA H1.frame
              obtain ⟨ys, oU⟩ := H1.ops
              obtain ⟨q0, q1, q2⟩ := H1.box.three'
              have eU : EO W1 w.heap.size u := ⟨m, ys, oU.mono GA.size, by omega⟩
              have K := Blk.new W1 66 #[.int .i64 f, u, .bool true]
              obtain ⟨sn, oS⟩ := H1.seen
              have oSt := oS.mono GA.size
              have hsz := GB.size
              go_wp2_with (at_builtin; refine TO.app rfl _ _ rfl rfl (tB.alloc _) rfl K (eU.alloc _) (by omega) (by simp <;> omega) ?_; intro v9 w9 l9 hg9)
              have G9 := TO.grows (grown_alloc GB (.cells #[.int .i64 f, u, .bool true] 66)) (tB.alloc _) (Nat.le_refl _) hg9
              have r9 := TO.rd (tB.alloc (.cells #[.int .i64 f, u, .bool true] 66)) (H1.rd.alloc _) hg hg9
              have o9 := TO.int (tB.alloc (.cells #[.int .i64 f, u, .bool true] 66)) (oSt.alloc _) hg9
              go_roundw
              case rel => exact ⟨j - 1, n + 1, y', _, by go_num, by omega, l9, rfl, by omega, o9, r9.mono (by omega), G9⟩
              case measure => simp [intOf]; omega
            · have hx1 : decide (0 < x) = false := by simpa using hx0
              have tB := tA.kp H1.frame hg
              have GB := grown_trans' GA H1.frame
              obtain ⟨ys, oU⟩ := H1.ops
              obtain ⟨q0, q1, q2⟩ := H1.box.three'
              have eU : EO W1 w.heap.size u := ⟨m, ys, oU.mono GA.size, by omega⟩
              have K := Blk.new W1 66 #[.int .i64 f, u, .bool true]
              have oSt := oA.grown H1.frame (oA.block_ne hg)
              have hsz := GB.size
              go_wp2_with (at_builtin; refine TO.app rfl _ _ rfl rfl (tB.alloc _) rfl K (eU.alloc _) (by omega) (by simp <;> omega) ?_; intro v9 w9 l9 hg9)
              have G9 := TO.grows (grown_alloc GB (.cells #[.int .i64 f, u, .bool true] 66)) (tB.alloc _) (Nat.le_refl _) hg9
              have r9 := TO.rd (tB.alloc (.cells #[.int .i64 f, u, .bool true] 66)) (H1.rd.alloc _) hg hg9
              have o9 := TO.int (tB.alloc (.cells #[.int .i64 f, u, .bool true] 66)) (oSt.alloc _) hg9
              go_roundw
              case rel => exact ⟨j - 1, n + 1, y', _, by go_num, by omega, l9, rfl, by omega, o9, r9.mono (by omega), G9⟩
              case measure => simp [intOf]; omega
    · obtain rfl : j = 0 := by omega
      obtain ⟨AO, cO, rfl⟩ := tA.shape
      have HT := hide tA; have HG := hide GA
      clear tA GA oA hmk3
      go_upto_region 26 with fail
      rename World => wA
      obtain ⟨PP, hPP⟩ : ∃ p, P + 200 - 30 * 0 = p := ⟨_, rfl⟩
      rw [hPP] at rA
      go_cut [107] (fun s wx => ∃ b : Bool, s = .bool b ∧ (b = true → 1 < n) ∧ TO wx w.heap.size (.slice AO n cO) n ∧ RD wx g (PP + 1) ∧ w.grownBy wx (some g))
      case first =>
        by_cases hn1 : 1 < n
        · have hn1' : (1 : Int) < n := by omega
          go_wp2_with fail
          refine (pick_c rA (by omega) (by omega) (by omega)).mono ?_
          rintro e w2 ⟨f, rfl, f0, f1, r2, g2⟩
          have T2 := HT.out.kp g2 hg
          have G2 := grown_trans' HG.out g2
          go_wp2_with fail
          go_meet
          case rel => exact ⟨_, rfl, fun _ => hn1, T2, r2, G2⟩
        · have hn1' : ¬ (1 : Int) < n := by omega
          go_wp2_with fail
          go_meet
          case rel => exact ⟨false, rfl, (fun h => by cases h), HT.out, rA.mono (by omega), HG.out⟩
      case rest =>
        obtain ⟨bb, rfl, hbb, hT2, hR2, hG2⟩ := hcut
        have HT2 := hide hT2; have HG2 := hide hG2
        clear hT2 hG2 HT HG rA
        go_upto_if 107 with fail
        go_cut [7] (fun v wx => TO wx w.heap.size v n ∧ RD wx g (PP + 2) ∧ w.grownBy wx (some g))
        case first =>
          cases bb
          · go_wp2_with fail
            go_meet
            case rel => exact ⟨HT2.out, hR2.mono (by omega), HG2.out⟩
          · have hn1 := hbb rfl
            obtain ⟨b, c, e, hc⟩ := HT2.out.form (by omega)
            obtain ⟨rfl, rfl⟩ : AO = some ⟨b, 0, none⟩ ∧ cO = c := by simpa using e
            clear e
            have hn2 : (1 : Int) ≤ (n : Int) - 1 := by omega
            have hn6 := n
            go_wp2_with fail
            refine (pick_c hR2 (by omega) hn2 (by omega)).mono ?_
            rintro e w3 ⟨x, rfl, x0, x1, r3, g3⟩
            obtain ⟨kk, rfl⟩ : ∃ j : Nat, x = j := ⟨x.toNat, by omega⟩
            have T3 := HT2.out.kp g3 hg
            have G3 := grown_trans' HG2.out g3
            clear HT2 HG2 g3
            obtain ⟨f, u, d, c0, c1, c2, eU⟩ := T3.at_ (j := kk) (by omega)
            obtain ⟨f', u', d', c0', c1', c2', eU'⟩ := T3.at_ (j := kk + 1) (by omega)
            obtain ⟨Au, mu, cu, rfl⟩ := eU.shape
            obtain ⟨Av, mv, cv, rfl⟩ := eU'.shape
            have hb := T3.base
            have kk0 : (0 : Int) ≤ kk := by omega
            have kk1 : (kk : Int) < n := by omega
            have kk2 : (kk : Int) + 1 < n := by omega
            have kk3 : (0 : Int) ≤ (kk : Int) + 1 := by omega
            have KX := Blk.new w3 66 #[.int .i64 f, .slice Au mu cu, .bool d]
            have T4 := T3.alloc (.cells #[.int .i64 f, .slice Au mu cu, .bool d] 66)
            have G4 := grown_alloc G3 (.cells #[.int .i64 f, .slice Au mu cu, .bool d] 66)
            have r4 := r3.alloc (.cells #[.int .i64 f, .slice Au mu cu, .bool d] 66)
            have eU4 := eU.alloc (.cells #[.int .i64 f, .slice Au mu cu, .bool d] 66)
            have eU4' := eU'.alloc (.cells #[.int .i64 f, .slice Au mu cu, .bool d] 66)
            go_upto_region 29 with fail
            have d0 := (World.cell?_alloc_lt w3 (.cells #[.int .i64 f, .slice Au mu cu, .bool d] 66) ⟨b, (kk + 1) * 3, none⟩ hb.2).trans c0'
            have d1 := (World.cell?_alloc_lt w3 (.cells #[.int .i64 f, .slice Au mu cu, .bool d] 66) ⟨b, (kk + 1) * 3 + 1, none⟩ hb.2).trans c1'
            have d2 := (World.cell?_alloc_lt w3 (.cells #[.int .i64 f, .slice Au mu cu, .bool d] 66) ⟨b, (kk + 1) * 3 + 2, none⟩ hb.2).trans c2'
            have e0 := (World.cell?_alloc_lt w3 (.cells #[.int .i64 f, .slice Au mu cu, .bool d] 66) ⟨b, kk * 3, none⟩ hb.2).trans c0
            have e1 := (World.cell?_alloc_lt w3 (.cells #[.int .i64 f, .slice Au mu cu, .bool d] 66) ⟨b, kk * 3 + 1, none⟩ hb.2).trans c1
            have e2 := (World.cell?_alloc_lt w3 (.cells #[.int .i64 f, .slice Au mu cu, .bool d] 66) ⟨b, kk * 3 + 2, none⟩ hb.2).trans c2
            clear c0 c1 c2 c0' c1' c2' T3 G3 r3 eU eU'
            have hb2 := hb.2
            have hb1 := hb.1
            obtain ⟨xb, hxb⟩ : ∃ q, w3.heap.size = q := ⟨_, rfl⟩
            have hne : xb ≠ b := by omega
            rw [hxb] at KX ⊢
            generalize w3.alloc (.cells #[.int .i64 f, .slice Au mu cu, .bool d] 66) = w4 at *
            have z0 := T4.free (kk * 3)
            have z1 := T4.free (kk * 3 + 1)
            have z2 := T4.free (kk * 3 + 2)
            go_upto_region 30 with fail
            have T5 := T4.set_ (j := kk) (by omega) (f := f') (d := d') eU4'
            have eU5 := T4.setE eU4 (kk * 3) (kk * 3 + 1) (kk * 3 + 2) (.int .i64 f') (.slice Av mv cv) (.bool d')
            have K5 := ((KX.far (p := ⟨b, kk * 3, none⟩) hne (.int .i64 f')).far (p := ⟨b, kk * 3 + 1, none⟩) hne (.slice Av mv cv)).far (p := ⟨b, kk * 3 + 2, none⟩) hne (.bool d')
            have r5 := ((r4.setC (p := ⟨b, kk * 3, none⟩) (by show g < b; omega) (.int .i64 f')).setC (p := ⟨b, kk * 3 + 1, none⟩) (by show g < b; omega) (.slice Av mv cv)).setC (p := ⟨b, kk * 3 + 2, none⟩) (by show g < b; omega) (.bool d')
            have G5 := grown_setCell (p := ⟨b, kk * 3 + 2, none⟩) (grown_setCell (p := ⟨b, kk * 3 + 1, none⟩) (grown_setCell (p := ⟨b, kk * 3, none⟩) G4 (.inr hb1) (.int .i64 f')) (.inr hb1) (.slice Av mv cv)) (.inr hb1) (.bool d')
            clear T4 eU4 eU4' KX r4 G4 d0 d1 d2 e0 e1 e2 z0 z1 z2
            generalize ((w4.setCell ⟨b, kk * 3, none⟩ (.int .i64 f')).setCell ⟨b, kk * 3 + 1, none⟩ (.slice Av mv cv)).setCell ⟨b, kk * 3 + 2, none⟩ (.bool d') = w5 at *
            obtain ⟨f9, u9, d9, e0, e1, e2, _⟩ := T5.at_ (j := kk + 1) (by omega)
            obtain ⟨q0, q1, q2⟩ := K5.three'
            have z0 := T5.free ((kk + 1) * 3)
            have z1 := T5.free ((kk + 1) * 3 + 1)
            have z2 := T5.free ((kk + 1) * 3 + 2)
            go_wp2_with fail
            go_meet
            case rel => exact ⟨T5.set_ (j := kk + 1) (by omega) eU5, (((r5.mono (by omega)).setC (p := ⟨b, (kk + 1) * 3, none⟩) (by show g < b; omega) _).setC (p := ⟨b, (kk + 1) * 3 + 1, none⟩) (by show g < b; omega) _).setC (p := ⟨b, (kk + 1) * 3 + 2, none⟩) (by show g < b; omega) _, grown_setCell (p := ⟨b, (kk + 1) * 3 + 2, none⟩) (grown_setCell (p := ⟨b, (kk + 1) * 3 + 1, none⟩) (grown_setCell (p := ⟨b, (kk + 1) * 3, none⟩) G5 (.inr hb1) _) (.inr hb1) _) (.inr hb1) _⟩
        case rest =>
          obtain ⟨tA, rA, GA⟩ := hcut
          clear hR2 HT2 HG2
          go_wp2_with fail
          refine (odd_c rA (by omega) hq1 hq2).mono ?_
          rintro e w2 ⟨b, rfl, r2, g2⟩
          have T2 := tA.kp g2 hg
          have G2 := grown_trans' GA g2
          clear tA rA GA g2
          cases b
          · go_wp2_with fail
            go_ret
            exact ⟨_, n, rfl, T2, by omega, r2.mono (by omega), G2⟩
          · go_wp2_with fail
            refine (pick_c r2 (by omega) (by omega) (by omega)).mono ?_
            rintro e w3 ⟨x, rfl, x0, x1, r3, g3⟩
            have T3 := T2.kp g3 hg
            have G3 := grown_trans' G2 g3
            clear T2 r2 G2 g3
            have hx : x = 0 ∨ x = 1 ∨ x = 2 ∨ x = 3 := by omega
            rcases hx with rfl | rfl | rfl | rfl
            · have KT := Blk.new w3 3 #[.int .i64 (-1), .int .i64 4]
              have T4 := T3.alloc (.cells #[.int .i64 (-1), .int .i64 4] 3)
              have r4 := r3.alloc (.cells #[.int .i64 (-1), .int .i64 4] 3)
              have G4 := grown_alloc G3 (.cells #[.int .i64 (-1), .int .i64 4] 3)
              have lt3 := r3.lt
              clear T3 r3 G3
              go_wp2_with fail
              generalize w3.alloc (.cells #[.int .i64 (-1), .int .i64 4] 3) = w4 at *
              refine (pick_c r4 (by omega) (by omega) (by omega)).mono ?_
              rintro e w5 ⟨z, rfl, z0, z1, r5, g5⟩
              obtain ⟨zi, rfl⟩ : ∃ j : Nat, z = j := ⟨z.toNat, by omega⟩
              have T5 := T4.kp g5 hg
              have G5 := grown_trans' G4 g5
              have K5 := KT.grown g5 (fun e => by injection e with e; omega)
              obtain ⟨se, cse⟩ : ∃ se : Int, w5.cell? ⟨w3.heap.size, zi, none⟩ = some (.int .i64 se) := by
                have : zi = 0 ∨ zi = 1 := by omega
                rcases this with rfl | rfl
                · exact ⟨_, K5.cell 0⟩
                · exact ⟨_, K5.cell 1⟩
              clear KT K5 T4 r4 G4 g5
              have K := Blk.new w5 66 #[.int .i64 se, .slice none 0 0, .bool false]
              have eK : EO (w5.alloc (.cells #[.int .i64 se, .slice none 0 0, .bool false] 66)) w.heap.size (.slice none 0 0) := EO.nil _ _
              have hsz := G5.size
              go_wp2_with (at_builtin; refine TO.app rfl _ _ rfl rfl (T5.alloc _) rfl K eK (by omega) (by simp <;> omega) ?_; intro v9 w9 l9 hg9)
              have G9 := TO.grows (grown_alloc G5 (.cells #[.int .i64 se, .slice none 0 0, .bool false] 66)) (T5.alloc _) (Nat.le_refl _) hg9
              have r9 := TO.rd (T5.alloc (.cells #[.int .i64 se, .slice none 0 0, .bool false] 66)) (r5.alloc _) hg hg9
              go_ret
              exact ⟨_, n + 1, rfl, l9, by omega, r9.mono (by omega), G9⟩
            · have KO := Blk.new w3 61 #[.int .i64 2, .int .i64 0, .int .i64 90, .int .i64 2, .int .i64 0, .int .i64 90]
              have oO : O3 61 (w3.alloc (.cells #[.int .i64 2, .int .i64 0, .int .i64 90, .int .i64 2, .int .i64 0, .int .i64 90] 61)) w.heap.size (.slice (some ⟨w3.heap.size, 0, none⟩) 2 2) 2 [(2, 0, 90), (2, 0, 90)] := O3.of_blk KO G3.size rfl rfl (by omega)
              have T4 := T3.alloc (.cells #[.int .i64 2, .int .i64 0, .int .i64 90, .int .i64 2, .int .i64 0, .int .i64 90] 61)
              have r4 := r3.alloc (.cells #[.int .i64 2, .int .i64 0, .int .i64 90, .int .i64 2, .int .i64 0, .int .i64 90] 61)
              have G4 := grown_alloc G3 (.cells #[.int .i64 2, .int .i64 0, .int .i64 90, .int .i64 2, .int .i64 0, .int .i64 90] 61)
              clear T3 r3 G3 KO
              have K := Blk.new (w3.alloc (.cells #[.int .i64 2, .int .i64 0, .int .i64 90, .int .i64 2, .int .i64 0, .int .i64 90] 61)) 66 #[.int .i64 0, .slice (some ⟨w3.heap.size, 0, none⟩) 2 2, .bool false]
              have eK : EO ((w3.alloc (.cells #[.int .i64 2, .int .i64 0, .int .i64 90, .int .i64 2, .int .i64 0, .int .i64 90] 61)).alloc (.cells #[.int .i64 0, .slice (some ⟨w3.heap.size, 0, none⟩) 2 2, .bool false] 66)) w.heap.size (.slice (some ⟨w3.heap.size, 0, none⟩) 2 2) := ⟨2, _, oO.alloc _, by omega⟩
              have hsz := G4.size
              simp only [World.size_alloc] at K hsz
              go_wp2_with (at_builtin; refine TO.app rfl _ _ rfl rfl (T4.alloc _) rfl K eK (by omega) (by simp <;> omega) ?_; intro v9 w9 l9 hg9)
              have G9 := TO.grows (grown_alloc G4 (.cells #[.int .i64 0, .slice (some ⟨w3.heap.size, 0, none⟩) 2 2, .bool false] 66)) (T4.alloc _) (Nat.le_refl _) hg9
              have r9 := TO.rd (T4.alloc (.cells #[.int .i64 0, .slice (some ⟨w3.heap.size, 0, none⟩) 2 2, .bool false] 66)) (r4.alloc _) hg hg9
              go_ret
              exact ⟨_, n + 1, rfl, l9, by omega, r9.mono (by omega), G9⟩
            · go_wp2_with fail
              refine (l20Op_c r3 (by omega) (by omega) (by omega)).mono ?_
              rintro e w4 ⟨o1, o2, o3, rfl, r4, g4⟩
              have T4 := T3.kp g4 hg
              have G4 := grown_trans' G3 g4
              have KO := Blk.new w4 61 #[.int .i64 o1, .int .i64 o2, .int .i64 o3]
              have oO : O3 61 (w4.alloc (.cells #[.int .i64 o1, .int .i64 o2, .int .i64 o3] 61)) w.heap.size (.slice (some ⟨w4.heap.size, 0, none⟩) 1 1) 1 [(o1, o2, o3)] := O3.of_blk KO G4.size rfl rfl (by omega)
              have T5 := T4.alloc (.cells #[.int .i64 o1, .int .i64 o2, .int .i64 o3] 61)
              have r5 := r4.alloc (.cells #[.int .i64 o1, .int .i64 o2, .int .i64 o3] 61)
              have G5 := grown_alloc G4 (.cells #[.int .i64 o1, .int .i64 o2, .int .i64 o3] 61)
              clear T3 r3 G3 KO T4 r4 G4 g4
              have K := Blk.new (w4.alloc (.cells #[.int .i64 o1, .int .i64 o2, .int .i64 o3] 61)) 66 #[.int .i64 0, .slice (some ⟨w4.heap.size, 0, none⟩) 1 1, .bool false]
              have eK : EO ((w4.alloc (.cells #[.int .i64 o1, .int .i64 o2, .int .i64 o3] 61)).alloc (.cells #[.int .i64 0, .slice (some ⟨w4.heap.size, 0, none⟩) 1 1, .bool false] 66)) w.heap.size (.slice (some ⟨w4.heap.size, 0, none⟩) 1 1) := ⟨1, _, oO.alloc _, by omega⟩
              have hsz := G5.size
              simp only [World.size_alloc] at K hsz
              go_wp2_with (at_builtin; refine TO.app rfl _ _ rfl rfl (T5.alloc _) rfl K eK (by omega) (by simp <;> omega) ?_; intro v9 w9 l9 hg9)
              have G9 := TO.grows (grown_alloc G5 (.cells #[.int .i64 0, .slice (some ⟨w4.heap.size, 0, none⟩) 1 1, .bool false] 66)) (T5.alloc _) (Nat.le_refl _) hg9
              have r9 := TO.rd (T5.alloc (.cells #[.int .i64 0, .slice (some ⟨w4.heap.size, 0, none⟩) 1 1, .bool false] 66)) (r5.alloc _) hg hg9
              go_ret
              exact ⟨_, n + 1, rfl, l9, by omega, r9.mono (by omega), G9⟩
            · have K7 := Blk.new w3 66 zt7
              have T7 := zt7_to K7 G3.size
              have r7 := r3.alloc (.cells zt7 66)
              have G7 := grown_alloc G3 (.cells zt7 66)
              clear T3 r3 G3 K7
              go_wp2_with fail
              go_ret
              exact ⟨_, 7, rfl, T7, by omega, r7.mono (by omega), G7⟩
end Go.Proofs.YtcfkemchekmjbaaGreatDoor
