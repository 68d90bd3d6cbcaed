/- The draws of clocks, tallies, stamped values, levels. -/
import Derived.Test.YtjgjlcpnfiocfaaDoorDraw4
import Derived.Test.YtjgjlcpnfiocfaaDoorClockJ2
namespace Go.Proofs.YtjgjlcpnfiocfaaDoor
open Go.RowKit

theorem below_g {w a b : World} {g : Nat} (h : Below w.heap.size w a) (k : a.grownBy b (some g)) (hg : w.heap.size ≤ g) : Below w.heap.size w b :=
  h.grown k h.size (fun i hi => by injection hi with hi; omega)
theorem RD.setCell {w : World} {g P : Nat} (h : RD w g P) {p : Addr} (hp : g < p.block) (u : Value) : RD (w.setCell p u) g P :=
  h.grown (grown_setCell (World.grownBy.refl w (some p.block)) (.inl rfl) u) (fun k hk => by injection hk with hk; omega)
theorem BY.up {w : World} {A : Option Addr} {n : Nat} (h : BY w w.heap.size A n) (o : Obj) : BY (w.alloc o) (w.alloc o).heap.size A n := fun k hk => by
  obtain ⟨b, off, x, h1, h2, h3, h4⟩ := h k hk
  exact ⟨b, off, x, h1, by simp; omega, (World.cell?_of_block (a := ⟨b, off + k, none⟩) (Below.heap_alloc w o b h2)).trans h3, h4⟩
def Two (w : World) (e : Ending) (w' : World) : Prop := ∃ u k xs v m ys, e = .returned (.tuple #[u, v]) ∧ OI w' w.heap.size u k xs ∧ OI w' w.heap.size v m ys ∧ Below w.heap.size w w'
def OneAt (w : World) (e : Ending) (w' : World) : Prop := ∃ u k xs x, e = .returned (.tuple #[u, .int .i64 x]) ∧ OI w' w.heap.size u k xs ∧ -1 ≤ x ∧ x ≤ 4 ∧ Below w.heap.size w w'
def TwoT (w : World) (e : Ending) (w' : World) : Prop := ∃ A n c xs B m d ys, e = .returned (.agg #[.slice A n c, .slice B m d]) ∧ OI w' w.heap.size (.slice A n c) n xs ∧ OI w' w.heap.size (.slice B m d) m ys ∧ Below w.heap.size w w'
def DrawT (w : World) (g P : Nat) (e : Ending) (w' : World) : Prop := ∃ A n c xs B m d ys, e = .returned (.agg #[.slice A n c, .slice B m d]) ∧ OI w' w.heap.size (.slice A n c) n xs ∧ OI w' w.heap.size (.slice B m d) m ys ∧ RD w' g P ∧ w.grownBy w' (some g)

section
variable {w : World} {A : Option Addr} {n c : Nat}
set_option maxHeartbeats 4000000 in
theorem DrawClockBefore_c (hnc : n ≤ c) (hmx : c ≤ maxLen) (hb : BY w w.heap.size A n) : Calls Tryd.prog 27 #[.slice A n c] w (Two w) := by
  go_enter Tryd.func27, Tryd.ntmps27
  go_wp2_with fail
  refine (l20Open_c hnc hmx hb).mono ?_
  rintro e w1 ⟨rfl, r1, b1⟩
  go_wp2_with fail
  refine (l20Clock_c r1 (by omega) (by omega) (by omega)).mono ?_
  rintro e w2 ⟨u, k, xs, rfl, o2, hk, r2, g2⟩
  have B2 := below_g b1 g2 (Nat.le_refl _)
  go_wp2_with fail
  refine (pick_c r2 (by omega) (by omega) (by omega)).mono ?_
  rintro e w3 ⟨x, rfl, x0, x1, r3, g3⟩
  have B3 := below_g B2 g3 (Nat.le_refl _)
  have o3 := o2.grown g3 (o2.block_ne r1.lt)
  by_cases hx : x = 0
  · subst hx
    go_wp2_with fail
    refine (l20Clock_c r3 (by omega) (by omega) (by omega)).mono ?_
    rintro e w4 ⟨v, m, ys, rfl, o4, hm, r4, g4⟩
    have B4 := below_g B3 g4 (Nat.le_refl _)
    have o5 := o3.grown g4 (o3.block_ne r1.lt)
    go_wp2_with fail
    refine (spec_ClockJoin_c o5.si o4.si).mono ?_
    rintro e w5 ⟨r, q, rfl, o6, b5⟩
    go_wp2_with fail
    go_ret2
    exact ⟨u, k, xs, r, q, _, rfl, (o5.below b5).mono b1.size, o6.mono B4.size, below_step B4 b5⟩
  · have hx' : (x == 0) = false := by simpa using hx
    go_wp2_with fail
    refine (l20Clock_c r3 (by omega) (by omega) (by omega)).mono ?_
    rintro e w4 ⟨v, m, ys, rfl, o4, hm, r4, g4⟩
    have B4 := below_g B3 g4 (Nat.le_refl _)
    have o5 := o3.grown g4 (o3.block_ne r1.lt)
    go_wp2_with fail
    go_ret2
    exact ⟨u, k, xs, v, m, ys, rfl, o5.mono b1.size, o4.mono B3.size, B4⟩

set_option maxHeartbeats 4000000 in
theorem DrawClockJoin_c (hnc : n ≤ c) (hmx : c ≤ maxLen) (hb : BY w w.heap.size A n) : Calls Tryd.prog 34 #[.slice A n c] w (Two w) := by
  go_enter Tryd.func34, Tryd.ntmps34
  go_wp2_with fail
  refine (l20Open_c hnc hmx hb).mono ?_
  rintro e w1 ⟨rfl, r1, b1⟩
  go_wp2_with fail
  refine (l20Clock_c r1 (by omega) (by omega) (by omega)).mono ?_
  rintro e w2 ⟨u, k, xs, rfl, o2, hk, r2, g2⟩
  have B2 := below_g b1 g2 (Nat.le_refl _)
  go_wp2_with fail
  refine (l20Clock_c r2 (by omega) (by omega) (by omega)).mono ?_
  rintro e w3 ⟨v, m, ys, rfl, o3, hm, r3, g3⟩
  have B3 := below_g B2 g3 (Nat.le_refl _)
  have o4 := o2.grown g3 (o2.block_ne r1.lt)
  go_wp2_with fail
  go_ret2
  exact ⟨u, k, xs, v, m, ys, rfl, o4.mono b1.size, o3.mono B2.size, B3⟩

set_option maxHeartbeats 4000000 in
theorem DrawClockStep_c (hnc : n ≤ c) (hmx : c ≤ maxLen) (hb : BY w w.heap.size A n) : Calls Tryd.prog 31 #[.slice A n c] w (OneAt w) := by
  go_enter Tryd.func31, Tryd.ntmps31
  go_wp2_with fail
  refine (l20Open_c hnc hmx hb).mono ?_
  rintro e w1 ⟨rfl, r1, b1⟩
  go_wp2_with fail
  refine (l20Clock_c r1 (by omega) (by omega) (by omega)).mono ?_
  rintro e w2 ⟨u, k, xs, rfl, o2, hk, r2, g2⟩
  have B2 := below_g b1 g2 (Nat.le_refl _)
  go_wp2_with fail
  refine (pick_c r2 (by omega) (by omega) (by omega)).mono ?_
  rintro e w3 ⟨x, rfl, x0, x1, r3, g3⟩
  have B3 := below_g B2 g3 (Nat.le_refl _)
  have o3 := o2.grown g3 (o2.block_ne r1.lt)
  go_wp2_with fail
  refine (pick_c r3 (by omega) (by omega) (by omega)).mono ?_
  rintro e w4 ⟨y, rfl, y0, y1, r4, g4⟩
  have B4 := below_g B3 g4 (Nat.le_refl _)
  have o4 := o3.grown g4 (o3.block_ne r1.lt)
  go_wp2_with fail
  go_ret2
  exact ⟨u, k, xs, _, rfl, o4.mono b1.size, by omega, by omega, B4⟩

set_option maxHeartbeats 4000000 in
theorem l20Tally_c {g P : Nat} {q : Int} (hr : RD w g P) (hP : P ≤ 40000) (hq1 : 0 ≤ q) (hq2 : q ≤ 100000) : Calls Tryd.prog 65 #[.pointer (some ⟨g, 0, none⟩), .int .i64 q] w (DrawT w g (P + 20)) := by
  have hg := hr.lt
  have K0 := Blk.new w 46 #[.slice none 0 0, .slice none 0 0]
  go_enter Tryd.func65, Tryd.ntmps65
  go_wp2_with fail
  refine (l20Clock_c (hr.alloc _) (by omega) hq1 hq2).mono ?_
  rintro e w2 ⟨u, k, xs, rfl, o2, hk, r2, g2⟩
  have K2 := K0.grown g2 (fun e => by injection e with e; omega)
  have G2 := grown_trans' (grown_alloc (World.grownBy.refl w (some g)) _) g2
  have hz2 := g2.size
  simp only [World.size_alloc] at o2 hz2
  go_wp2_with fail
  refine (l20Clock_c r2 (by omega) hq1 hq2).mono ?_
  rintro e w3 ⟨v, m, ys, rfl, o3, hm, r3, g3⟩
  have K3 := K2.grown g3 (fun e => by injection e with e; omega)
  have G3 := grown_trans' G2 g3
  have o4 := o2.grown g3 (o2.block_ne (by omega))
  obtain ⟨A1, c1, rfl⟩ := o4.shape
  obtain ⟨A2, c2, rfl⟩ := o3.shape
  obtain ⟨p0, p1, p2, p3⟩ := K3.two
  go_wp2_with fail
  obtain ⟨t0, t1, _, _⟩ := ((K3.set_ 0 (.slice A1 k c1)).set_ 1 (.slice A2 m c2)).two
  refine bodyPost_ret (v := .agg #[.slice A1 k c1, .slice A2 m c2]) (by simp [results, Tryd.results65, go_sem, t0, t1]) rfl ⟨A1, k, c1, xs, A2, m, c2, ys, rfl, ?_, ?_, ?_, ?_⟩
  · exact ((o4.set_low (p := ⟨w.heap.size, 0, none⟩) (by simp) _).set_low (p := ⟨w.heap.size, 1, none⟩) (by simp) _).mono (by omega)
  · exact ((o3.set_low (p := ⟨w.heap.size, 0, none⟩) (by simp; omega) _).set_low (p := ⟨w.heap.size, 1, none⟩) (by simp; omega) _).mono (by omega)
  · exact ((r3.setCell (p := ⟨w.heap.size, 0, none⟩) hg _).setCell (p := ⟨w.heap.size, 1, none⟩) hg _).mono (by omega)
  · exact grown_setCell (p := ⟨w.heap.size, 1, none⟩) (grown_setCell (p := ⟨w.heap.size, 0, none⟩) G3 (.inr (Nat.le_refl _)) _) (.inr (Nat.le_refl _)) _

set_option maxHeartbeats 4000000 in
theorem DrawTallyValid_c (hnc : n ≤ c) (hmx : c ≤ maxLen) (hb : BY w w.heap.size A n) : Calls Tryd.prog 37 #[.slice A n c] w (TwoT w) := by
  have K0 := Blk.new w 46 #[.slice none 0 0, .slice none 0 0]
  go_enter Tryd.func37, Tryd.ntmps37
  go_wp2_with fail
  refine (l20Open_c hnc hmx (hb.up _)).mono ?_
  rintro e w1 ⟨rfl, r1, b1⟩
  have B1 := below_step (beB0 w _) b1
  have K1 := K0.belowAll b1
  have hz1 := b1.size
  simp only [World.size_alloc] at r1 hz1
  simp only [World.size_alloc]
  go_wp2_with fail
  refine (l20Tally_c r1 (by omega) (by omega) (by omega)).mono ?_
  rintro e w2 ⟨A1, k, c1, xs, A2, m, c2, ys, rfl, o1, o2, r2, g2⟩
  have B2 := below_g B1 g2 (by omega)
  have K2 := K1.grown g2 (fun e => by injection e with e; omega)
  obtain ⟨p0, p1, p2, p3⟩ := K2.two
  go_wp2_with fail
  obtain ⟨t0, t1, _, _⟩ := ((K2.set_ 0 (.slice A1 k c1)).set_ 1 (.slice A2 m c2)).two
  refine bodyPost_ret (v := .agg #[.slice A1 k c1, .slice A2 m c2]) (by simp [results, Tryd.results37, go_sem, t0, t1]) rfl ⟨A1, k, c1, xs, A2, m, c2, ys, rfl, ?_, ?_, ?_⟩
  · exact ((o1.set_low (p := ⟨w.heap.size, 0, none⟩) (by simp; omega) _).set_low (p := ⟨w.heap.size, 1, none⟩) (by simp; omega) _).mono (by omega)
  · exact ((o2.set_low (p := ⟨w.heap.size, 0, none⟩) (by simp; omega) _).set_low (p := ⟨w.heap.size, 1, none⟩) (by simp; omega) _).mono (by omega)
  · exact (B2.setCell (p := ⟨w.heap.size, 0, none⟩) (Nat.le_refl _) _).setCell (p := ⟨w.heap.size, 1, none⟩) (Nat.le_refl _) _

set_option maxHeartbeats 4000000 in
theorem DrawTallyOf_c (hnc : n ≤ c) (hmx : c ≤ maxLen) (hb : BY w w.heap.size A n) : Calls Tryd.prog 40 #[.slice A n c] w (TwoT w) := by
  have K0 := Blk.new w 46 #[.slice none 0 0, .slice none 0 0]
  go_enter Tryd.func40, Tryd.ntmps40
  go_wp2_with fail
  refine (l20Open_c hnc hmx (hb.up _)).mono ?_
  rintro e w1 ⟨rfl, r1, b1⟩
  have B1 := below_step (beB0 w _) b1
  have K1 := K0.belowAll b1
  have hz1 := b1.size
  simp only [World.size_alloc] at r1 hz1
  simp only [World.size_alloc]
  go_wp2_with fail
  refine (l20Tally_c r1 (by omega) (by omega) (by omega)).mono ?_
  rintro e w2 ⟨A1, k, c1, xs, A2, m, c2, ys, rfl, o1, o2, r2, g2⟩
  have B2 := below_g B1 g2 (by omega)
  have K2 := K1.grown g2 (fun e => by injection e with e; omega)
  obtain ⟨p0, p1, p2, p3⟩ := K2.two
  go_wp2_with fail
  obtain ⟨t0, t1, _, _⟩ := ((K2.set_ 0 (.slice A1 k c1)).set_ 1 (.slice A2 m c2)).two
  refine bodyPost_ret (v := .agg #[.slice A1 k c1, .slice A2 m c2]) (by simp [results, Tryd.results40, go_sem, t0, t1]) rfl ⟨A1, k, c1, xs, A2, m, c2, ys, rfl, ?_, ?_, ?_⟩
  · exact ((o1.set_low (p := ⟨w.heap.size, 0, none⟩) (by simp; omega) _).set_low (p := ⟨w.heap.size, 1, none⟩) (by simp; omega) _).mono (by omega)
  · exact ((o2.set_low (p := ⟨w.heap.size, 0, none⟩) (by simp; omega) _).set_low (p := ⟨w.heap.size, 1, none⟩) (by simp; omega) _).mono (by omega)
  · exact (B2.setCell (p := ⟨w.heap.size, 0, none⟩) (Nat.le_refl _) _).setCell (p := ⟨w.heap.size, 1, none⟩) (Nat.le_refl _) _

set_option maxHeartbeats 4000000 in
theorem DrawLevelText_c (hnc : n ≤ c) (hmx : c ≤ maxLen) (hb : BY w w.heap.size A n) : Calls Tryd.prog 14 #[.slice A n c] w fun e w' => (∃ x : Int, e = .returned (.int .i64 x) ∧ -1 ≤ x ∧ x ≤ 5) ∧ Below w.heap.size w w' := by
  go_enter Tryd.func14, Tryd.ntmps14
  go_wp2_with fail
  refine (l20Open_c hnc hmx hb).mono ?_
  rintro e w1 ⟨rfl, r1, b1⟩
  go_wp2_with fail
  refine (pick_c r1 (by omega) (by omega) (by omega)).mono ?_
  rintro e w2 ⟨x, rfl, x0, x1, r2, g2⟩
  go_wp2_with fail
  go_ret
  exact ⟨⟨_, rfl, by omega, by omega⟩, below_g b1 g2 (Nat.le_refl _)⟩
end

end Go.Proofs.YtjgjlcpnfiocfaaDoor
