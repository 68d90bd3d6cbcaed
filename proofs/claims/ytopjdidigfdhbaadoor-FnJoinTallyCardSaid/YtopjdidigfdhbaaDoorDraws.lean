/- The draws of clocks, tallies, stamped values, levels. -/
import Derived.Test.YtopjdidigfdhbaaDoorDraw4
import Derived.Test.YtopjdidigfdhbaaDoorClockJ2
namespace Go.Proofs.YtopjdidigfdhbaaDoor
open Go.RowKit

theorem below_g {w a b : World} {g : Nat} (h : Below w.heap.size w a) (k : a.grownBy b (some g)) (hg : w.heap.size ≤ g) : Below w.heap.size w b :=
  h.grown k h.size (fun i hi => by injection hi with hi; omega)
theorem RD.setCell {w : World} {g P : Nat} (h : RD w g P) {p : Addr} (hp : g < p.block) (u : Value) : RD (w.setCell p u) g P :=
  h.grown (grown_setCell (World.grownBy.refl w (some p.block)) (.inl rfl) u) (fun k hk => by injection hk with hk; omega)
theorem BY.up {w : World} {A : Option Addr} {n : Nat} (h : BY w w.heap.size A n) (o : Obj) : BY (w.alloc o) (w.alloc o).heap.size A n := fun k hk => by
  obtain ⟨b, off, x, h1, h2, h3, h4⟩ := h k hk
  exact ⟨b, off, x, h1, by simp; omega, (World.cell?_of_block (a := ⟨b, off + k, none⟩) (Below.heap_alloc w o b h2)).trans h3, h4⟩
def Two (w : World) (e : Ending) (w' : World) : Prop := ∃ u k xs v m ys, e = .returned (.tuple #[u, v]) ∧ OI w' w.heap.size u k xs ∧ OI w' w.heap.size v m ys ∧ Below w.heap.size w w'
def OneAt (w : World) (e : Ending) (w' : World) : Prop := ∃ u k xs x, e = .returned (.tuple #[u, .int .i64 x]) ∧ OI w' w.heap.size u k xs ∧ -1 ≤ x ∧ x ≤ 4 ∧ Below w.heap.size w w'
def TwoT (w : World) (e : Ending) (w' : World) : Prop := ∃ A n c xs B m d ys, e = .returned (.agg #[.slice A n c, .slice B m d]) ∧ OI w' w.heap.size (.slice A n c) n xs ∧ OI w' w.heap.size (.slice B m d) m ys ∧ Below w.heap.size w w'
def DrawT (w : World) (g P : Nat) (e : Ending) (w' : World) : Prop := ∃ A n c xs B m d ys, e = .returned (.agg #[.slice A n c, .slice B m d]) ∧ OI w' w.heap.size (.slice A n c) n xs ∧ OI w' w.heap.size (.slice B m d) m ys ∧ RD w' g P ∧ w.grownBy w' (some g)

section
variable {w : World} {A : Option Addr} {n c : Nat}



set_option maxHeartbeats 4000000 in
theorem l20Tally_c {g P : Nat} {q : Int} (hr : RD w g P) (hP : P ≤ 40000) (hq1 : 0 ≤ q) (hq2 : q ≤ 100000) : Calls Tryd.prog 49 #[.pointer (some ⟨g, 0, none⟩), .int .i64 q] w (DrawT w g (P + 20)) := by
  have hg := hr.lt
  have K0 := Blk.new w 43 #[.slice none 0 0, .slice none 0 0]
  go_enter Tryd.func49, Tryd.ntmps49
  go_wp2_with fail
  refine (l20Clock_c (hr.alloc _) (by omega) hq1 hq2).mono ?_
  rintro e w2 ⟨u, k, xs, rfl, o2, hk, r2, g2⟩
  have K2 := K0.grown g2 (fun e => by injection e with e; omega)
  have G2 := grown_trans' (grown_alloc (World.grownBy.refl w (some g)) _) g2
  have hz2 := g2.size
  simp only [World.size_alloc] at o2 hz2
  go_wp2_with fail
  refine (l20Clock_c r2 (by omega) hq1 hq2).mono ?_
  rintro e w3 ⟨v, m, ys, rfl, o3, hm, r3, g3⟩
  have K3 := K2.grown g3 (fun e => by injection e with e; omega)
  have G3 := grown_trans' G2 g3
  have o4 := o2.grown g3 (o2.block_ne (by omega))
  obtain ⟨A1, c1, rfl⟩ := o4.shape
  obtain ⟨A2, c2, rfl⟩ := o3.shape
  obtain ⟨p0, p1, p2, p3⟩ := K3.two
  go_wp2_with fail
  obtain ⟨t0, t1, _, _⟩ := ((K3.set_ 0 (.slice A1 k c1)).set_ 1 (.slice A2 m c2)).two
  refine bodyPost_ret (v := .agg #[.slice A1 k c1, .slice A2 m c2]) (by simp [results, Tryd.results49, go_sem, t0, t1]) rfl ⟨A1, k, c1, xs, A2, m, c2, ys, rfl, ?_, ?_, ?_, ?_⟩
  · exact ((o4.set_low (p := ⟨w.heap.size, 0, none⟩) (by simp) _).set_low (p := ⟨w.heap.size, 1, none⟩) (by simp) _).mono (by omega)
  · exact ((o3.set_low (p := ⟨w.heap.size, 0, none⟩) (by simp; omega) _).set_low (p := ⟨w.heap.size, 1, none⟩) (by simp; omega) _).mono (by omega)
  · exact ((r3.setCell (p := ⟨w.heap.size, 0, none⟩) hg _).setCell (p := ⟨w.heap.size, 1, none⟩) hg _).mono (by omega)
  · exact grown_setCell (p := ⟨w.heap.size, 1, none⟩) (grown_setCell (p := ⟨w.heap.size, 0, none⟩) G3 (.inr (Nat.le_refl _)) _) (.inr (Nat.le_refl _)) _



end

end Go.Proofs.YtopjdidigfdhbaaDoor
