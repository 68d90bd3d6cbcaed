/- The drawing reader: odd, l20Open, l20Clock. -/
import Derived.Test.YtefopnkicllpeaaDoorDraw2
namespace Go.Proofs.YtefopnkicllpeaaDoor
open Go.RowKit

def OddR (w : World) (g P : Nat) (e : Ending) (w' : World) : Prop := ∃ b : Bool, e = .returned (.bool b) ∧ RD w' g (P + 1) ∧ w.grownBy w' (some g)
set_option maxHeartbeats 4000000 in
theorem odd_c {w : World} {g P : Nat} {k : Int} (hr : RD w g P) (hP : P ≤ 100000) (hk1 : 0 ≤ k) (hk2 : k ≤ 100000) :
    Calls Tryd.prog 31 #[.pointer (some ⟨g, 0, none⟩), .int .i64 k] w (OddR w g P) := by
  by_cases h0 : 0 < k
  · go_enter Tryd.func31, Tryd.ntmps31
    go_wp2_with fail
    refine (pick_c hr hP (by omega) hk2).mono ?_
    rintro e w2 ⟨x, rfl, x0, x1, r2, g2⟩
    go_wp2_with fail
    go_ret
    exact ⟨_, rfl, r2, g2⟩
  · go_enter Tryd.func31, Tryd.ntmps31
    go_wp2_with fail
    go_ret
    exact ⟨false, rfl, hr.mono (by omega), World.grownBy.refl _ _⟩

set_option maxHeartbeats 4000000 in
theorem l20Open_c {w : World} {A : Option Addr} {n c : Nat} (hnc : n ≤ c) (hc : c ≤ maxLen) (hb : BY w w.heap.size A n) :
    Calls Tryd.prog 29 #[.slice A n c] w fun e w' => e = .returned (.pointer (some ⟨w.heap.size, 0, none⟩)) ∧ RD w' w.heap.size 0 ∧ Below w.heap.size w w' := by
  unfold maxLen at hc
  by_cases h : n ≤ 2000
  · go_enter Tryd.func29, Tryd.ntmps29
    go_wp2_with fail
    go_ret
    exact ⟨rfl, ⟨A, n, c, 0, Blk.new _ _ _, Nat.le_refl _, h, hnc, hb.kept fun b hbg => Below.heap_alloc w _ b hbg⟩, beB0 _ _⟩
  · have hsz : 2000 ≤ c := by omega
    obtain ⟨b, off, x, rfl, _, _, _⟩ := hb 0 (by omega)
    go_enter Tryd.func29, Tryd.ntmps29
    go_wp2_with fail
    go_ret
    exact ⟨rfl, ⟨_, 2000, c, 0, Blk.new _ _ _, Nat.le_refl _, Nat.le_refl _, hsz, fun k hk => hb.kept (fun b hbg => Below.heap_alloc w _ b hbg) k (by omega)⟩, beB0 _ _⟩

/-- What a draw of a list leaves. -/
def DrawI (w : World) (g P : Nat) (e : Ending) (w' : World) : Prop := ∃ v k xs, e = .returned v ∧ OI w' w.heap.size v k xs ∧ k ≤ 5 ∧ RD w' g P ∧ w.grownBy w' (some g)
theorem grown_trans' {a b c : World} {row : Option Nat} (h : a.grownBy b row) (k : b.grownBy c row) : a.grownBy c row :=
  ⟨k.os.trans h.os, k.tape.trans h.tape, k.output.trans h.output, Nat.le_trans h.size k.size, fun i hi hn => (k.block i (Nat.lt_of_lt_of_le hi h.size) hn).trans (h.block i hi hn)⟩
theorem grown_below {a b c : World} {row : Option Nat} (h : a.grownBy b row) (k : Below b.heap.size b c) : a.grownBy c row := grown_trans' h (grown_of_below k row)
theorem grown_alloc {a b : World} {row : Option Nat} (h : a.grownBy b row) (o : Obj) : a.grownBy (b.alloc o) row := grown_below h (beB0 _ _)
/-- A row of the call's own, begun behind a, is written: for a that is nothing. -/
theorem grown_own {a b c : World} {row : Option Nat} {B : Nat} {v : Value} {n : Nat} {xs : List Int} (h : a.grownBy b row) (o : OI b B v n xs) (hB : a.heap.size ≤ B) (k : b.grownBy c v.ownBlock) : a.grownBy c row :=
  ⟨k.os.trans h.os, k.tape.trans h.tape, k.output.trans h.output, Nat.le_trans h.size k.size, fun i hi hn => (k.block i (Nat.lt_of_lt_of_le hi h.size) (fun e => by have := (World.ownsRow.lt o.1 i e.symm).1; omega)).trans (h.block i hi hn)⟩
theorem RD.own {b c : World} {g P B : Nat} {v : Value} {n : Nat} {xs : List Int} (r : RD b g P) (o : OI b B v n xs) (hB : g < B) (k : b.grownBy c v.ownBlock) : RD c g P :=
  r.grown k fun i hi => by have := (World.ownsRow.lt o.1 i hi).1; omega
theorem below_grown {a b : World} {g B : Nat} (h : a.grownBy b (some g)) (hg : B ≤ g) (hB : B ≤ a.heap.size) : Below B a b := (Below.refl _ _).grown h hB (fun k hk => by injection hk with hk; omega)

end Go.Proofs.YtefopnkicllpeaaDoor
