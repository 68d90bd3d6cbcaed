/- Merged (what the law reaches): Draw2, Draw3, OpenB, Row3, Row3b, App3, Deep. -/
import Derived.Test.YtcfkemchekmjbaaGreatDoorQa
import Derived.Deep.RegionHeld3
import Derived.Deep.DeepCutAuto
import Derived.Laws.Concat
import Derived.Test.YtcfkemchekmjbaaGreatDoorCards
import Derived.Test.YtcfkemchekmjbaaGreatDoorTie
import Derived.ProofKit
import Derived.OpenShut
import Derived.ShutString
import Derived.ChangeOld
import Derived.LaidMore
import Derived.Stop.Joined
import Derived.SevenTiedAt
namespace Go.Proofs.YtcfkemchekmjbaaGreatDoor
open Go.RowKit
def aliveS : ByteArray := ⟨#[119, 48, 61, 53]⟩
set_option maxHeartbeats 4000000 in
theorem OpText205_c {w : World} : Calls Tryz.prog 46 #[.agg #[.int .i64 2, .int .i64 0, .int .i64 5]] w fun e w' => e = .returned (.string aliveS) ∧ Below w.heap.size w w' := by
  have K0 := Blk.new w 61 #[.int .i64 2, .int .i64 0, .int .i64 5]
  go_enter Tryz.func46, Tryz.ntmps46
  go_wp2_with fail
  refine (OpValid205_c).mono ?_
  rintro e w2 ⟨rfl, b2⟩
  have B2 := below_step (beB0 _ _) b2
  replace K0 := K0.belowAll b2
  have l0 := K0.lt
  obtain ⟨p0, p1, p2⟩ := K0.three'
  have s1 := fun W : World => run_string_add_sum (P := Tryz.prog) (w := W) ⟨#[119]⟩ (dig 0) (by decide +kernel)
  have s2 := fun W : World => run_string_add_sum (P := Tryz.prog) (w := W) (⟨#[119]⟩ ++ dig 0) ⟨#[61]⟩ (by decide +kernel)
  have s3 := fun W : World => run_string_add_sum (P := Tryz.prog) (w := W) (⟨#[119]⟩ ++ dig 0 ++ ⟨#[61]⟩) (dig 5) (by decide +kernel)
  go_wp2_with fail
  go_region_held3 (fun W => W.cell? ⟨w.heap.size, 0, none⟩ = some (.int .i64 2) ∧ W.cell? ⟨w.heap.size, 1, none⟩ = some (.int .i64 0) ∧ W.cell? ⟨w.heap.size, 2, none⟩ = some (.int .i64 5))
    (first | (go_keep; done) | (go_split_ands; refine ⟨?_, ?_, ?_⟩ <;> (rw [bq.cell (by exact l0)]; assumption)))
    (first | (go_at_call 100; refine (letter205_c).mono ?_; rintro e wq ⟨rfl, bq⟩) | (go_at_call_of 78 (Value.int IntKind.i64 0); refine (Itoa0_c).mono ?_; rintro e w' ⟨rfl, rfl⟩) | (go_at_call_of 78 (Value.int IntKind.i64 5); refine (Itoa5_c).mono ?_; rintro e w' ⟨rfl, rfl⟩))
  all_goals
    replace bq := below_of_drew bq
    have BQ := below_step B2 bq
    go_wp2_with fail
    go_ret
    exact ⟨rfl, BQ⟩
set_option maxHeartbeats 4000000 in
theorem alive_c {w : World} : Calls Tryz.prog 12 #[] w fun e w' => e = .returned (.bool true) ∧ Below w.heap.size w w' := by
  go_enter Tryz.func12, Tryz.ntmps12
  go_wp2_with fail
  refine (OpText205_c).mono ?_
  rintro e w2 ⟨rfl, b2⟩
  unfold aliveS
  go_wp2_with fail
  go_ret
  exact ⟨rfl, b2⟩
/-- The bytes of a code: n of them at A, below block g. -/
def BY (w : World) (g : Nat) (A : Option Addr) (n : Nat) : Prop :=
  ∀ k, k < n → ∃ (b off : Nat) (x : Int), A = some ⟨b, off, none⟩ ∧ b < g ∧ w.cell? ⟨b, off + k, none⟩ = some (.int .u8 x) ∧ 0 ≤ x ∧ x ≤ 255
theorem BY.kept {w w' : World} {g : Nat} {A : Option Addr} {n : Nat} (h : BY w g A n) (hk : ∀ b, b < g → w'.heap[b]? = w.heap[b]?) : BY w' g A n := fun k hk' => by
  obtain ⟨b, off, x, e, hb, hc, h0, h1⟩ := h k hk'
  exact ⟨b, off, x, e, hb, (World.cell?_of_block (hk b hb)).trans hc, h0, h1⟩
/-- The reader lies in block g; it was asked at most P times. -/
def RD (w : World) (g P : Nat) : Prop := ∃ (A : Option Addr) (n c p : Nat), Blk w g 174 #[.slice A n c, .int .i64 p] ∧ p ≤ P ∧ n ≤ 2000 ∧ n ≤ c ∧ BY w g A n
theorem RD.lt {w : World} {g P : Nat} (h : RD w g P) : g < w.heap.size := by obtain ⟨A, n, c, p, hb, _⟩ := h; exact hb.lt
theorem RD.mono {w : World} {g P Q : Nat} (h : RD w g P) (hq : P ≤ Q) : RD w g Q := by obtain ⟨A, n, c, p, h1, h2, h3⟩ := h; exact ⟨A, n, c, p, h1, by omega, h3⟩
theorem RD.below {w w' : World} {g P : Nat} (h : RD w g P) (hb : Below w.heap.size w w') : RD w' g P := by
  have hlt := h.lt
  obtain ⟨A, n, c, p, h1, h2, h3, h4, h5⟩ := h
  exact ⟨A, n, c, p, h1.belowAll hb, h2, h3, h4, h5.kept fun b hbg => hb.block b (by omega)⟩
theorem RD.grown {w w' : World} {g P : Nat} {row : Option Nat} (h : RD w g P) (hg : w.grownBy w' row) (hr : ∀ k, row = some k → g < k) : RD w' g P := by
  have hlt := h.lt
  obtain ⟨A, n, c, p, h1, h2, h3, h4, h5⟩ := h
  have hne : ∀ b, b ≤ g → w'.heap[b]? = w.heap[b]? := fun b hb => hg.block b (by omega) (fun e => by have := hr b e.symm; omega)
  exact ⟨A, n, c, p, (hne g (Nat.le_refl _)).trans h1, h2, h3, h4, h5.kept fun b hb => hne b (by omega)⟩
theorem RD.alloc {w : World} {g P : Nat} (h : RD w g P) (o : Obj) : RD (w.alloc o) g P := h.below (beB0 _ _)
def PickR (w : World) (g P : Nat) (k : Int) (e : Ending) (w' : World) : Prop := ∃ x : Int, e = .returned (.int .i64 x) ∧ 0 ≤ x ∧ x < k ∧ RD w' g (P + 1) ∧ w.grownBy w' (some g)
theorem xor_nat (m : Nat) (h : m ≤ 1000000000) : ∃ q : Nat, bits .xor .i64 (m : Int) ((m : Int) / 64) = (q : Int) ∧ q < 4611686018427387904 := by
  have e : ((m : Int) / 64) = ((m / 64 : Nat) : Int) := by omega
  have ha : (m : Nat) < 9223372036854775808 := by omega
  have hb : (m / 64 : Nat) < 9223372036854775808 := by omega
  have of1 : ∀ a : Nat, a < 9223372036854775808 → (BitVec.ofInt 64 (a : Int)).toNat = a := fun a ha => by
    rw [BitVec.ofInt_natCast, BitVec.toNat_ofNat]; exact Nat.mod_eq_of_lt (by omega)
  have hx : m ^^^ (m / 64) < 2 ^ 31 := Nat.xor_lt_two_pow (by omega) (by omega)
  refine ⟨m ^^^ (m / 64), ?_, by omega⟩
  rw [e]
  show IntKind.i64.wrap ((BitVec.ofInt 64 (m : Int) ^^^ BitVec.ofInt 64 ((m / 64 : Nat) : Int)).toNat : Int) = _
  rw [BitVec.toNat_xor, of1 m ha, of1 _ hb, IntKind.wrap_i64]
  omega
set_option maxRecDepth 100000 in
set_option maxHeartbeats 8000000 in
theorem pick_c {w : World} {g P : Nat} {k : Int} (hr : RD w g P) (hP : P ≤ 100000) (hk1 : 1 ≤ k) (hk2 : k ≤ 100000) :
    Calls Tryz.prog 140 #[.pointer (some ⟨g, 0, none⟩), .int .i64 k] w (PickR w g P k) := by
  obtain ⟨A, n, c, p, hblk, hp, hn, hnc, hby⟩ := hr
  have fin : ∀ w', (w.setCell ⟨g, 1, none⟩ (.int .i64 ((p : Int) + 1))) = w' → RD w' g (P + 1) ∧ w.grownBy w' (some g) := fun w' e => by
    subst e
    refine ⟨⟨A, n, c, p + 1, ?_, by omega, hn, hnc, hby.kept fun b hb => ?_⟩, grown_setCell (p := ⟨g, 1, none⟩) (World.grownBy.refl w (some g)) (.inl rfl) _⟩
    · have := hblk.set_ 1 (.int .i64 ((p : Int) + 1)); simpa using this
    · exact Below.heap_setCell w ⟨g, 1, none⟩ _ b (by show b ≠ g; omega)
  have Fin := hide fin; clear fin
  have c0 : w.cell? ⟨g, 0, none⟩ = some (.slice A n c) := hblk.cell 0
  have c1 : w.cell? ⟨g, 1, none⟩ = some (.int .i64 p) := hblk.cell 1
  have f1 : w.frozen? ⟨g, 1, none⟩ = false := hblk.frozen 1
  have p0 : (0 : Int) ≤ p := by omega
  have p9 : (p : Int) ≤ 100000 := by omega
  clear hblk
  by_cases hn0 : n = 0
  · subst hn0
    go_enter Tryz.func140, Tryz.ntmps140
    go_wp2_with fail
    go_ret
    obtain ⟨h1, h2⟩ := Fin.out _ rfl
    exact ⟨0, rfl, by omega, by omega, h1, h2⟩
  · have hn1 : ((n : Int) == 0) = false := by simp; omega
    have hk3 : ¬ k < 1 := by omega
    have nn : (1 : Int) ≤ n := by omega
    have nn2 : (n : Int) ≤ 2000 := by omega
    by_cases hlt : p < n
    · obtain ⟨b, off, x, rfl, hb, hc, x0, x1⟩ := hby p hlt
      have hbg : b ≠ g := by omega
      have hlt' : (p : Int) < n := by omega
      have hcc : ∀ u, (w.setCell ⟨g, 1, none⟩ u).cell? ⟨b, off + p, none⟩ = some (.int .u8 x) := fun u => (World.cell?_setCell_other _ _ _ _ (fun e => hbg.symm (by injection e))).trans hc
      clear hby hn0
      go_enter Tryz.func140, Tryz.ntmps140
      go_wp2_with fail
      go_ret
      obtain ⟨h1, h2⟩ := Fin.out _ rfl
      exact ⟨x % k, rfl, Int.emod_nonneg _ (by omega), Int.emod_lt_of_pos _ (by omega), h1, h2⟩
    · obtain ⟨i1, hi1⟩ : ∃ i, i = p % n := ⟨_, rfl⟩
      obtain ⟨i2, hi2⟩ : ∃ i, i = (p * 7 + 3) % n := ⟨_, rfl⟩
      obtain ⟨q, hq⟩ : ∃ i, i = p / n := ⟨_, rfl⟩
      have hmod1 : i1 < n := by rw [hi1]; exact Nat.mod_lt _ (by omega)
      have hmod2 : i2 < n := by rw [hi2]; exact Nat.mod_lt _ (by omega)
      have hq1 : q ≤ p := by rw [hq]; exact Nat.div_le_self _ _
      obtain ⟨b, off, x, rfl, hb, hc, x0, x1⟩ := hby _ hmod1
      obtain ⟨b', off', y, e2, hb', hd, y0, y1⟩ := hby _ hmod2
      injection e2 with e2; injection e2 with e21 e22 _; subst e21; subst e22
      have hbg : b ≠ g := by omega
      have hge : ¬ (p : Int) < n := by omega
      have d0 : (w.setCell ⟨g, 1, none⟩ (.int .i64 ((p : Int) + 1))).cell? ⟨b, off + i1, none⟩ = some (.int .u8 x) := (World.cell?_setCell_other _ _ _ _ (fun e => hbg.symm (by injection e))).trans hc
      have d1 : (w.setCell ⟨g, 1, none⟩ (.int .i64 ((p : Int) + 1))).cell? ⟨b, off + i2, none⟩ = some (.int .u8 y) := (World.cell?_setCell_other _ _ _ _ (fun e => hbg.symm (by injection e))).trans hd
      have d2 : (w.setCell ⟨g, 1, none⟩ (.int .i64 ((p : Int) + 1))).cell? ⟨g, 0, none⟩ = some (.slice (some ⟨b, off, none⟩) n c) := (World.cell?_setCell_other _ _ _ _ (fun e => by injection e with _ e; cases e)).trans c0
      have tm1 : Int.tmod (p : Int) (n : Int) = (i1 : Int) := by rw [Int.tmod_eq_emod_of_nonneg p0, hi1]; omega
      have tm2 : Int.tmod ((p : Int) * 7 + 3) (n : Int) = (i2 : Int) := by rw [Int.tmod_eq_emod_of_nonneg (by omega), hi2]; push_cast; rfl
      have td : Int.tdiv (p : Int) (n : Int) = (q : Int) := by rw [Int.tdiv_eq_ediv_of_nonneg p0, hq]; omega
      have i10 : (0 : Int) ≤ i1 := by omega
      have i11 : (i1 : Int) < n := by omega
      have i20 : (0 : Int) ≤ i2 := by omega
      have i21 : (i2 : Int) < n := by omega
      have q0 : (0 : Int) ≤ q := by omega
      have q9 : (q : Int) ≤ 100000 := by omega
      clear hi1 hi2 hq hby hn0 hmod1 hmod2 hq1 hc hd
      go_enter Tryz.func140, Tryz.ntmps140
      go_wp2_with fail
      have Fin2 := Fin.out _ rfl
      generalize w.setCell ⟨g, 1, none⟩ (.int .i64 ((p : Int) + 1)) = w1 at *
      go_upto_region 7 with fail
      go_cut [6] (fun s wx => ∃ m : Nat, s = .int .i64 m ∧ m ≤ 1000000000 ∧ ∃ a, wx = w1.drewN a)
      case first =>
        have wr : ∀ z : Int, 0 ≤ z → z ≤ 1000000000 → IntKind.i64.wrap z = z := fun z h0 h1 => by rw [IntKind.wrap_i64]; omega
        have u1 := wr ((p : Int) * 7) (by omega) (by omega)
        have u2 := wr ((p : Int) * 7 + 3) (by omega) (by omega)
        have u3 := wr (x * 131) (by omega) (by omega)
        have u4 := wr (y * 1117) (by omega) (by omega)
        have u5 := wr (x * 131 + y * 1117) (by omega) (by omega)
        have u6 := wr ((p : Int) * 29) (by omega) (by omega)
        have u7 := wr (x * 131 + y * 1117 + (p : Int) * 29) (by omega) (by omega)
        have u8 := wr ((q : Int) * 53) (by omega) (by omega)
        have u9 := wr (x * 131 + y * 1117 + (p : Int) * 29 + (q : Int) * 53) (by omega) (by omega)
        have v1 := wr x (by omega) (by omega)
        have v2 := wr y (by omega) (by omega)
        have fm : ∃ m : Nat, x * 131 + y * 1117 + (p : Int) * 29 + (q : Int) * 53 = m ∧ m ≤ 1000000000 := ⟨(x * 131 + y * 1117 + (p : Int) * 29 + (q : Int) * 53).toNat, by omega, by omega⟩
        obtain ⟨m, hm, hm9⟩ := fm
        have Hm := hide hm; clear hm wr
        go_quiet (fail)
        go_wp2_with fail
        go_meet
        exact ⟨m, by rw [← Hm.out], hm9, _, rfl⟩
      case rest =>
        obtain ⟨m, rfl, hm9, a, rfl⟩ := hcut
        obtain ⟨z, hz, hz9⟩ := xor_nat m hm9
        have m0 : (0 : Int) ≤ m := by omega
        have m9 : (m : Int) ≤ 1000000000 := by omega
        have z0 : (0 : Int) ≤ z := by omega
        have z9 : (z : Int) < 4611686018427387904 := by omega
        clear d0 d1 d2 tm1 tm2 td
        go_wp2_with fail
        go_ret
        exact ⟨(z : Int) % k, rfl, Int.emod_nonneg _ (by omega), Int.emod_lt_of_pos _ (by omega), (Fin2.1).below (below_drewN (Below.refl _ _) _), ⟨Fin2.2.os, Fin2.2.tape, Fin2.2.output, Fin2.2.size, Fin2.2.block⟩⟩
end Go.Proofs.YtcfkemchekmjbaaGreatDoor

namespace Go.Proofs.YtcfkemchekmjbaaGreatDoor
open Go.RowKit
def OddR (w : World) (g P : Nat) (e : Ending) (w' : World) : Prop := ∃ b : Bool, e = .returned (.bool b) ∧ RD w' g (P + 1) ∧ w.grownBy w' (some g)
set_option maxHeartbeats 4000000 in
theorem odd_c {w : World} {g P : Nat} {k : Int} (hr : RD w g P) (hP : P ≤ 100000) (hk1 : 0 ≤ k) (hk2 : k ≤ 100000) :
    Calls Tryz.prog 141 #[.pointer (some ⟨g, 0, none⟩), .int .i64 k] w (OddR w g P) := by
  by_cases h0 : 0 < k
  · go_enter Tryz.func141, Tryz.ntmps141
    go_wp2_with fail
    refine (pick_c hr hP (by omega) hk2).mono ?_
    rintro e w2 ⟨x, rfl, x0, x1, r2, g2⟩
    go_wp2_with fail
    go_ret
    exact ⟨_, rfl, r2, g2⟩
  · go_enter Tryz.func141, Tryz.ntmps141
    go_wp2_with fail
    go_ret
    exact ⟨false, rfl, hr.mono (by omega), World.grownBy.refl _ _⟩
set_option maxHeartbeats 4000000 in
theorem l20Open_c {w : World} {A : Option Addr} {n c : Nat} (hnc : n ≤ c) (hc : c ≤ maxLen) (hb : BY w w.heap.size A n) :
    Calls Tryz.prog 83 #[.slice A n c] w fun e w' => e = .returned (.pointer (some ⟨w.heap.size, 0, none⟩)) ∧ RD w' w.heap.size 0 ∧ Below w.heap.size w w' := by
  unfold maxLen at hc
  by_cases h : n ≤ 2000
  · go_enter Tryz.func83, Tryz.ntmps83
    go_wp2_with fail
    go_ret
    exact ⟨rfl, ⟨A, n, c, 0, Blk.new _ _ _, Nat.le_refl _, h, hnc, hb.kept fun b hbg => Below.heap_alloc w _ b hbg⟩, beB0 _ _⟩
  · have hsz : 2000 ≤ c := by omega
    obtain ⟨b, off, x, rfl, _, _, _⟩ := hb 0 (by omega)
    go_enter Tryz.func83, Tryz.ntmps83
    go_wp2_with fail
    go_ret
    exact ⟨rfl, ⟨_, 2000, c, 0, Blk.new _ _ _, Nat.le_refl _, Nat.le_refl _, hsz, fun k hk => hb.kept (fun b hbg => Below.heap_alloc w _ b hbg) k (by omega)⟩, beB0 _ _⟩
theorem grown_trans' {a b c : World} {row : Option Nat} (h : a.grownBy b row) (k : b.grownBy c row) : a.grownBy c row :=
  ⟨k.os.trans h.os, k.tape.trans h.tape, k.output.trans h.output, Nat.le_trans h.size k.size, fun i hi hn => (k.block i (Nat.lt_of_lt_of_le hi h.size) hn).trans (h.block i hi hn)⟩
theorem grown_below {a b c : World} {row : Option Nat} (h : a.grownBy b row) (k : Below b.heap.size b c) : a.grownBy c row := grown_trans' h (grown_of_below k row)
theorem grown_alloc {a b : World} {row : Option Nat} (h : a.grownBy b row) (o : Obj) : a.grownBy (b.alloc o) row := grown_below h (beB0 _ _)
/-- A row of the call's own, begun behind a, is written: for a that is nothing. -/
theorem grown_own {a b c : World} {row : Option Nat} {B : Nat} {v : Value} {n : Nat} {xs : List Int} (h : a.grownBy b row) (o : OI b B v n xs) (hB : a.heap.size ≤ B) (k : b.grownBy c v.ownBlock) : a.grownBy c row :=
  ⟨k.os.trans h.os, k.tape.trans h.tape, k.output.trans h.output, Nat.le_trans h.size k.size, fun i hi hn => (k.block i (Nat.lt_of_lt_of_le hi h.size) (fun e => by have := (World.ownsRow.lt o.1 i e.symm).1; omega)).trans (h.block i hi hn)⟩
theorem RD.own {b c : World} {g P B : Nat} {v : Value} {n : Nat} {xs : List Int} (r : RD b g P) (o : OI b B v n xs) (hB : g < B) (k : b.grownBy c v.ownBlock) : RD c g P :=
  r.grown k fun i hi => by have := (World.ownsRow.lt o.1 i hi).1; omega
end Go.Proofs.YtcfkemchekmjbaaGreatDoor

namespace Go.Proofs.YtcfkemchekmjbaaGreatDoor
open Go.ChangeShapes Go.WideShapes Go.ChangeAt Go.RowKit
theorem own : ownKnob Tryz.prog.godebug = none := by kernel_rfl
theorem laidOut : laidOutB Tryz.prog = true := by kernel_rfl
set_option maxRecDepth 100000 in
theorem open_bytesA {H : Type} {enc : TypeId × Value → H} {W : World} {base : Nat} {sp : Nat → Bool} {hd : Bool} {b0 : Nat} {v : Value} {d : DataW H} {p : List MemPlace} (hv : Value.okWide Tryz.prog W .any base 22 v) (h : DataW.Trod enc Tryz.prog W b0 sp hd 22 v d p) :
    ∃ a n c, v = .slice a n c ∧ n ≤ c ∧ c ≤ maxLen ∧ BY W W.heap.size a n := by
  obtain ⟨a, n, c, rfl⟩ := okWide_slice Tryz.underlying22 hv
  obtain ⟨fuel, hf⟩ := h
  have hf' : DataW.trod enc Tryz.prog W b0 sp hd fuel 22 [.slice a n c] = some (d, p) := by simpa [Value.cells] using hf
  rcases open_ints Tryz.underlying22 Tryz.underlying5 (by kernel_rfl) hf' with ⟨hcs, _⟩ | ⟨y, l, k, zs, hcs, _, hl, hm, hz, _, hcell, hwf⟩
  · simp at hcs
    obtain ⟨rfl, rfl, rfl⟩ := hcs
    exact ⟨none, 0, 0, rfl, Nat.le_refl _, Nat.zero_le _, fun k hk => absurd hk (by omega)⟩
  · simp at hcs
    obtain ⟨rfl, rfl, rfl⟩ := hcs
    have hz' : n ≤ zs.length := by rw [hz]; split <;> omega
    refine ⟨_, n, c, rfl, hl, hm, fun j hj => ?_⟩
    have hc0 := hcell 0 (by omega)
    obtain ⟨b, off, sp0⟩ := y
    have hsp : sp0 = none := by
      cases sp0 with
      | none => rfl
      | some s =>
        simp only [Addr.add, World.cell?] at hc0
        split at hc0
        · simp at hc0
        · cases hc0
    subst hsp
    have hadd : ∀ k : Nat, (⟨b, off, none⟩ : Addr).add k = ⟨b, off + k, none⟩ := fun k => by unfold Addr.add; split <;> simp_all
    have hj' : j < zs.length := by omega
    have hc := hcell j hj'
    rw [hadd] at hc
    obtain ⟨h0, h1⟩ := bounds_u8 (hwf (zs[j]) (List.getElem_mem hj'))
    refine ⟨b, off, zs[j], rfl, World.block_lt_of_cell? W _ hc, ?_, h0, h1⟩
    rw [hc]; simp [hj']
end Go.Proofs.YtcfkemchekmjbaaGreatDoor

namespace Go.Proofs.YtcfkemchekmjbaaGreatDoor
open Go.RowKit
abbrev T3 := Int × Int × Int
/-- The cells of a row of triples. -/
def flat3 : List T3 → List Int
  | [] => []
  | (x, y, z) :: ts => x :: y :: z :: flat3 ts
theorem flat3_len : ∀ ts : List T3, (flat3 ts).length = ts.length * 3
  | [] => rfl
  | (x, y, z) :: ts => by simp [flat3, flat3_len ts]; omega
theorem flat3_get : ∀ (ts : List T3) (k : Nat) (x y z : Int), ts[k]? = some (x, y, z) → (flat3 ts)[k * 3]? = some x ∧ (flat3 ts)[k * 3 + 1]? = some y ∧ (flat3 ts)[k * 3 + 2]? = some z
  | [], k, x, y, z, h => by simp at h
  | (a, b, c) :: ts, 0, x, y, z, h => by
    simp only [List.getElem?_cons_zero, Option.some.injEq, Prod.mk.injEq] at h
    obtain ⟨rfl, rfl, rfl⟩ := h
    simp [flat3]
  | (a, b, c) :: ts, k + 1, x, y, z, h => by
    simp only [List.getElem?_cons_succ] at h
    have := flat3_get ts k x y z h
    simp only [flat3, show (k + 1) * 3 = k * 3 + 1 + 1 + 1 by omega, List.getElem?_cons_succ]
    exact this
/-- A row at A of n triples ts. -/
def R3 (w : World) (A : Option Addr) (n : Nat) (ts : List T3) : Prop :=
  ts.length = n ∧ (0 < n → ∃ b off, A = some ⟨b, off, none⟩ ∧ b < w.heap.size ∧ ∀ (k : Nat) (x : Int), (flat3 ts)[k]? = some x → w.cell? ⟨b, off + k, none⟩ = some (.int .i64 x))
theorem R3.len {w : World} {A : Option Addr} {n : Nat} {ts : List T3} (h : R3 w A n ts) : ts.length = n := h.1
theorem R3.nil {w : World} {A : Option Addr} : R3 w A 0 [] := ⟨rfl, fun h => absurd h (by omega)⟩
theorem R3.below {w w' : World} {A : Option Addr} {n : Nat} {ts : List T3} (h : R3 w A n ts) (hb : Below w.heap.size w w') : R3 w' A n ts :=
  ⟨h.1, fun hn => by
    obtain ⟨b, off, e, hlt, hc⟩ := h.2 hn
    exact ⟨b, off, e, Nat.lt_of_lt_of_le hlt hb.size, fun k x hx => (hb.cell (p := ⟨b, off + k, none⟩) hlt).trans (hc k x hx)⟩⟩
theorem R3.at_ {w : World} {A : Option Addr} {n : Nat} {ts : List T3} (h : R3 w A n ts) {k : Nat} (hk : k < n) :
    ∃ b off x y z, A = some ⟨b, off, none⟩ ∧ b < w.heap.size ∧ ts[k]? = some (x, y, z) ∧ w.cell? ⟨b, off + k * 3, none⟩ = some (.int .i64 x) ∧ w.cell? ⟨b, off + k * 3 + 1, none⟩ = some (.int .i64 y) ∧ w.cell? ⟨b, off + k * 3 + 2, none⟩ = some (.int .i64 z) := by
  obtain ⟨b, off, e, hlt, hc⟩ := h.2 (by omega)
  have hl : k < ts.length := by have := h.1; omega
  obtain ⟨⟨x, y, z⟩, hg⟩ : ∃ q, ts[k]? = some q := ⟨ts[k], List.getElem?_eq_getElem hl⟩
  obtain ⟨h1, h2, h3⟩ := flat3_get ts k x y z hg
  exact ⟨b, off, x, y, z, e, hlt, hg, hc _ _ h1, by rw [Nat.add_assoc]; exact hc _ _ h2, by rw [Nat.add_assoc]; exact hc _ _ h3⟩
/-- The value v is a slice of n triples that reads as ts. -/
def S3 (w : World) (v : Value) (n : Nat) (ts : List T3) : Prop := ∃ A c, v = .slice A n c ∧ n ≤ c ∧ n ≤ 1048576 ∧ R3 w A n ts
theorem S3.below {w w' : World} {v : Value} {n : Nat} {ts : List T3} (h : S3 w v n ts) (hb : Below w.heap.size w w') : S3 w' v n ts := by
  obtain ⟨A, c, h1, h2, h3, h4⟩ := h
  exact ⟨A, c, h1, h2, h3, h4.below hb⟩
theorem S3.of_args {w : World} {A : Option Addr} {n c : Nat} {ts : List T3} (hnc : n ≤ c) (hn : n ≤ 1048576) (h : R3 w A n ts) : S3 w (.slice A n c) n ts := ⟨A, c, rfl, hnc, hn, h⟩
theorem S3.alloc {w : World} {v : Value} {n : Nat} {ts : List T3} (h : S3 w v n ts) (o : Obj) : S3 (w.alloc o) v n ts := h.below ((Below.refl _ _).alloc (Nat.le_refl _) _)
theorem S3.drew {w : World} {v : Value} {n : Nat} {ts : List T3} (h : S3 w v n ts) : S3 w.drew v n ts := h.below (Below.refl _ _).drew
theorem S3.shape {w : World} {v : Value} {n : Nat} {ts : List T3} (h : S3 w v n ts) : ∃ A c, v = .slice A n c := by obtain ⟨A, c, h1, _⟩ := h; exact ⟨A, c, h1⟩
/-- The slice value v, n elements of type t of three cells, is the call's own. -/
def O3 (t : TypeId) (w : World) (B : Nat) (v : Value) (n : Nat) (ts : List T3) : Prop := w.ownsRow B t 3 v n ((flat3 ts).map (Value.int .i64)) ∧ n ≤ 1048576
section
variable {t : TypeId} {w w' : World} {B B' : Nat} {v : Value} {n : Nat} {ts : List T3}
theorem O3.len (h : O3 t w B v n ts) : ts.length = n := by have := h.1.1; simp [flat3_len] at this; omega
theorem O3.below (h : O3 t w B v n ts) (hb : Below w.heap.size w w') : O3 t w' B v n ts :=
  ⟨h.1.kept (row := none) ⟨hb.os, hb.tape, hb.output, hb.size, fun k hk _ => hb.block k hk⟩ (by cases hv : v.ownBlock <;> simp), h.2⟩
theorem O3.mono (h : O3 t w B v n ts) (hB : B' ≤ B) : O3 t w B' v n ts := by
  obtain ⟨⟨h1, h2⟩, h3⟩ := h
  refine ⟨⟨h1, ?_⟩, h3⟩
  rcases h2 with h2 | ⟨g, cap, cur, hv, hb, r⟩
  · exact .inl h2
  · exact .inr ⟨g, cap, cur, hv, by omega, r⟩
theorem O3.drew (h : O3 t w B v n ts) : O3 t w.drew B v n ts := ⟨h.1.drew, h.2⟩
theorem O3.of_blk {g : Nat} {cs : Array Value} (h : Blk w g t cs) (hB : B ≤ g) (hx : cs.toList = (flat3 ts).map (Value.int .i64)) (hn : ts.length = n) (hm : n ≤ 1048576) :
    O3 t w B (.slice (some ⟨g, 0, none⟩) n n) n ts := by
  subst hn
  have hsz : cs.size = ts.length * 3 := by rw [← Array.length_toList, hx]; simp [flat3_len]
  exact ⟨⟨by simp [flat3_len], .inr ⟨g, ts.length, cs, rfl, hB, h, Nat.le_refl _, by simp [maxLen]; omega, hsz, by rw [hx, List.take_of_length_le (by simp [flat3_len])]⟩⟩, hm⟩
theorem O3.s3 (h : O3 t w B v n ts) : S3 w v n ts := by
  have hl := h.len
  obtain ⟨⟨h1, h2⟩, h3⟩ := h
  rcases h2 with ⟨rfl, hn⟩ | ⟨g, cap, cur, rfl, hB, hg, hc, hm, hs, ht⟩
  · subst hn
    have hx : ts = [] := List.eq_nil_of_length_eq_zero hl
    subst hx
    exact ⟨none, 0, rfl, by simp, by simp, R3.nil⟩
  · refine ⟨some ⟨g, 0, none⟩, cap, rfl, hc, h3, hl, fun _ => ⟨g, 0, rfl, Blk.lt hg, fun k x hx => ?_⟩⟩
    rw [Blk.cell (t := t) (cs := cur) hg]
    have : (cur.toList.take (n * 3))[k]? = some (.int .i64 x) := by rw [ht]; simp [hx]
    rw [List.getElem?_take] at this
    split at this
    · simpa using this
    · cases this
end
end Go.Proofs.YtcfkemchekmjbaaGreatDoor

namespace Go.Proofs.YtcfkemchekmjbaaGreatDoor
open Go.RowKit
theorem toList_madeCells3' (z : Value) (n : Nat) : (madeCells #[z, z, z] (n * 3)).toList = List.replicate (n * 3) z := by
  unfold madeCells
  rw [Array.toList_map, List.eq_replicate_iff]
  refine ⟨by simp, fun x hx => ?_⟩
  obtain ⟨i, _, rfl⟩ := List.mem_map.1 hx
  have h3 : i % 3 < 3 := Nat.mod_lt _ (by omega)
  show (#[z, z, z] : Array Value)[i % 3]! = z
  rcases (show i % 3 = 0 ∨ i % 3 = 1 ∨ i % 3 = 2 by omega) with h | h | h <;> rw [h] <;> rfl
/-- The slice value v, n elements of type t of s cells that are all integers, is the call's own; xs: all cells. -/
def OF (t : TypeId) (s : Nat) (w : World) (B : Nat) (v : Value) (n : Nat) (xs : List Int) : Prop := w.ownsRow B t s v n (xs.map (Value.int .i64)) ∧ n ≤ 1048576
section
variable {t : TypeId} {s : Nat} {w w' : World} {B B' : Nat} {v : Value} {n : Nat} {xs : List Int} {ts : List T3}
theorem O3.grown {row : Option Nat} (h : O3 t w B v n ts) (hg : w.grownBy w' row) (hne : v.ownBlock = none ∨ v.ownBlock ≠ row) : O3 t w' B v n ts := ⟨h.1.kept hg hne, h.2⟩
theorem O3.of (h : O3 t w B v n ts) : OF t 3 w B v n (flat3 ts) := h
theorem OF.len (h : OF t s w B v n xs) : xs.length = n * s := by have := h.1.1; simpa using this
theorem OF.below (h : OF t s w B v n xs) (hb : Below w.heap.size w w') : OF t s w' B v n xs :=
  ⟨h.1.kept (row := none) ⟨hb.os, hb.tape, hb.output, hb.size, fun k hk _ => hb.block k hk⟩ (by cases hv : v.ownBlock <;> simp), h.2⟩
theorem OF.grown {row : Option Nat} (h : OF t s w B v n xs) (hg : w.grownBy w' row) (hne : v.ownBlock = none ∨ v.ownBlock ≠ row) : OF t s w' B v n xs := ⟨h.1.kept hg hne, h.2⟩
theorem OF.form (h : OF t s w B v n xs) :
    ∃ A c, v = .slice A n c ∧ n ≤ c ∧ c ≤ maxLen ∧ (A = none → n = 0 ∧ c = 0) ∧ (∀ a, A = some a → ∃ g, a = ⟨g, 0, none⟩ ∧ B ≤ g ∧ g < w.heap.size) := by
  obtain ⟨⟨h1, h2⟩, _⟩ := h
  rcases h2 with ⟨rfl, hn⟩ | ⟨g, cap, cur, rfl, hB, hg, hc, hm, hs, ht⟩
  · subst hn
    exact ⟨none, 0, rfl, by simp, by simp [maxLen], fun _ => ⟨rfl, rfl⟩, fun a ha => by cases ha⟩
  · refine ⟨some ⟨g, 0, none⟩, cap, rfl, hc, hm, (fun h => by cases h), fun a ha => ?_⟩
    injection ha with ha
    exact ⟨g, ha.symm, hB, Blk.lt hg⟩
theorem OF.store {g c : Nat} (h : OF t s w B (.slice (some ⟨g, 0, none⟩) n c) n xs) (j : Nat) (x : Int) :
    OF t s (w.setCell ⟨g, j, none⟩ (.int .i64 x)) B (.slice (some ⟨g, 0, none⟩) n c) n (xs.set j x) := by
  have := (World.ownsRow.stored h.1 j (.int .i64 x)).1
  exact ⟨by simpa [List.map_set] using this, h.2⟩
theorem OF.cell {g c : Nat} (h : OF t s w B (.slice (some ⟨g, 0, none⟩) n c) n xs) (j : Nat) (hj : j < n * s) : ∃ x, xs[j]? = some x ∧ w.cell? ⟨g, j, none⟩ = some (.int .i64 x) := by
  have h1 := World.ownsRow.cellAt h.1 j hj
  have hl := h.len
  exact ⟨xs[j]'(by omega), List.getElem?_eq_getElem _, h1.trans (by simp [List.getElem?_eq_getElem (show j < xs.length by omega)])⟩
theorem OF.free {g c : Nat} (h : OF t s w B (.slice (some ⟨g, 0, none⟩) n c) n xs) (j : Nat) : w.frozen? ⟨g, j, none⟩ = false := World.ownsRow.frozenAt h.1 j
/-- Two slices of the call's own, the second made behind the first: they lie apart. -/
theorem own_apart {w w' : World} {B1 n1 n2 s1 s2 : Nat} {t1 t2 : TypeId} {v1 v2 : Value} {x1 x2 : List Value} (h1 : w.ownsRow B1 t1 s1 v1 n1 x1) (h2 : w'.ownsRow w.heap.size t2 s2 v2 n2 x2) : Apart v1 v2 := by
  unfold Apart
  cases hv : v1.ownBlock with
  | none => exact .inl rfl
  | some k =>
    right; intro e
    have a := (World.ownsRow.lt h1 k hv).2
    have b := (World.ownsRow.lt h2 k e.symm).1
    omega
end
theorem S3.len {w : World} {v : Value} {n : Nat} {ts : List T3} (h : S3 w v n ts) : ts.length = n := by obtain ⟨A, c, h1, h2, h3, h4⟩ := h; exact h4.1
theorem S3.bd {w : World} {v : Value} {n : Nat} {ts : List T3} (h : S3 w v n ts) : n ≤ 1048576 := by obtain ⟨A, c, h1, h2, h3, h4⟩ := h; exact h3
end Go.Proofs.YtcfkemchekmjbaaGreatDoor

namespace Go.Proofs.YtcfkemchekmjbaaGreatDoor
open Go.RowKit
theorem flat3_append (ts us : List T3) : flat3 (ts ++ us) = flat3 ts ++ flat3 us := by
  induction ts with
  | nil => rfl
  | cons a ts ih => obtain ⟨x, y, z⟩ := a; simp [flat3, ih]
theorem R3.rd {w : World} {A : Option Addr} {n : Nat} {ts : List T3} (h : R3 w A n ts) : Rd w 3 A n ((flat3 ts).map (Value.int .i64)) :=
  ⟨by simp [flat3_len, h.1], fun hn => by
    obtain ⟨b, off, e, hlt, hc⟩ := h.2 hn
    refine ⟨b, off, e, hlt, fun k u hu => ?_⟩
    rw [List.getElem?_map] at hu
    cases hx : (flat3 ts)[k]? with
    | none => rw [hx] at hu; cases hu
    | some x => rw [hx] at hu; injection hu with hu; subst hu; exact hc k x hx⟩
/-- 'append(v, u...)' on slices of such structs: v the call's own, u whatever slice. -/
theorem wpList_app3 {w : World} {o : Oper} {a : Act} {Q : Exit → Act → World → Prop} {ops : Array Oper} {rest : List Oper} (hgd : o.guard = none) (s x : Operand) {t te : TypeId}
    (ho : o.op = .call { callee := .builtin .append, args := #[s, x], argTypes := #[t, t] })
    (hU : Tryz.prog.underlying t = some (.slice te)) (hI : (Tryz.prog.info? te).map (fun i => (i.zero, i.size, i.bytes)) = some (some (.agg #[.int .i64 0, .int .i64 0, .int .i64 0]), 3, 24))
    {B : Nat} {v : Value} {n : Nat} {ts : List T3} (hs : a.eval s = v) (hown : O3 te w B v n ts)
    {u : Value} {m : Nat} {us : List T3} (hx : a.eval x = u) (hr : S3 w u m us) (hnm : n + m ≤ 1048576) (hbase : B ≤ w.heap.size)
    (h : ∀ v' w', O3 te w' B v' (n + m) (ts ++ us) → w.grownBy w' v.ownBlock → (v'.ownBlock = v.ownBlock ∨ v'.ownBlock = some w.heap.size) → wpList Tryz.prog ops Q rest (a.put o.dst v') w') : wpList Tryz.prog ops Q (o :: rest) a w := by
  obtain ⟨i, hi, hz, hsz, hby⟩ := info_parts hI
  obtain ⟨A, c, rfl, _, _, hR⟩ := hr
  refine wpList_app hgd s x _ ho B te i (.agg #[.int .i64 0, .int .i64 0, .int .i64 0]) 3 24 hU hi hz hsz hby rfl (by omega) v n _ hs hown.1 A m c _ hx hR.rd (ints_oneCell _ _) (by simp only [maxLen]; omega) (by omega) hbase ?_
  intro v' w' h1 h2 h3
  exact h v' w' ⟨by rw [flat3_append]; simpa using h1, hnm⟩ h2 h3
theorem O3.empty (te : TypeId) (w : World) : O3 te (w.alloc (.cells #[] te)) w.heap.size (.slice (some ⟨w.heap.size, 0, none⟩) 0 0) 0 [] := O3.of_blk (Blk.new w _ _) (Nat.le_refl _) rfl rfl (by omega)
theorem S3.one {w : World} {g c : Nat} {te : TypeId} {x y z : Int} (h : Blk w g te #[.int .i64 x, .int .i64 y, .int .i64 z]) (hc : 1 ≤ c) : S3 w (.slice (some ⟨g, 0, none⟩) 1 c) 1 [(x, y, z)] := by
  refine ⟨_, _, rfl, hc, by omega, rfl, fun _ => ⟨g, 0, rfl, h.lt, fun k q hq => ?_⟩⟩
  rw [Nat.zero_add, h.cell]
  match k, hq with
  | 0, hq => simp [flat3] at hq; subst hq; rfl
  | 1, hq => simp [flat3] at hq; subst hq; rfl
  | 2, hq => simp [flat3] at hq; subst hq; rfl
theorem O3.alloc {te : TypeId} {w : World} {B : Nat} {v : Value} {n : Nat} {ts : List T3} (h : O3 te w B v n ts) (o : Obj) : O3 te (w.alloc o) B v n ts := h.below ((Below.refl _ _).alloc (Nat.le_refl _) _)
theorem O3.far {te : TypeId} {w : World} {B : Nat} {v : Value} {n : Nat} {ts : List T3} (h : O3 te w B v n ts) {b : Nat} (hb : b < B) : some b ≠ v.ownBlock := fun e => by
  have := (World.ownsRow.lt h.1 b e.symm).1; omega
theorem O3.block_ne {te : TypeId} {w : World} {B : Nat} {v : Value} {n : Nat} {ts : List T3} {g : Nat} (h : O3 te w B v n ts) (hg : g < B) : v.ownBlock = none ∨ v.ownBlock ≠ some g := by
  cases hv : v.ownBlock with
  | none => exact .inl rfl
  | some k => right; intro e; injection e with e; have := (World.ownsRow.lt h.1 k hv).1; omega
theorem O3.shape {te : TypeId} {w : World} {B : Nat} {v : Value} {n : Nat} {ts : List T3} (h : O3 te w B v n ts) : ∃ A c, v = .slice A n c := by obtain ⟨A, c, h1, _⟩ := h.s3; exact ⟨A, c, h1⟩
theorem below_app3 {te : TypeId} {a w w' : World} {B : Nat} {v : Value} {n : Nat} {ts : List T3} (h : Below a.heap.size a w) (ho : O3 te w B v n ts) (hB : a.heap.size ≤ B) (hg : w.grownBy w' v.ownBlock) : Below a.heap.size a w' :=
  h.grown hg h.size (fun k hk => by have := (World.ownsRow.lt ho.1 k hk).1; omega)
end Go.Proofs.YtcfkemchekmjbaaGreatDoor

namespace Go.Proofs.YtcfkemchekmjbaaGreatDoor
open Go.RowKit
section
variable {T ti : TypeId} {s : Nat} {w w' : World} {lo B n : Nat} {v : Value} {xs : List Int}
theorem OF.ne_blk {g : Nat} {t : TypeId} {cs : Array Value} (h : OF ti s w B v n xs) (hb : Blk w g t cs) (ht : t ≠ ti) : v.ownBlock ≠ some g := by
  rcases h.1.2 with ⟨rfl, _⟩ | ⟨g', cap, cur, rfl, _, hh, _⟩
  · simp [Value.ownBlock]
  · intro he
    have e : g' = g := by have h : some g' = some g := he; injection h
    subst e
    unfold Blk at hb; rw [hh] at hb; injection hb with hb; injection hb with _ h2; exact ht h2.symm
theorem OF.chg {S : Nat → Prop} (h : OF ti s w B v n xs) (hc : Chg S w w') (hS : ∀ k, v.ownBlock = some k → ¬ S k) : OF ti s w' B v n xs := by
  refine ⟨⟨h.1.1, ?_⟩, h.2⟩
  rcases h.1.2 with hn | ⟨g, cap, cur, rfl, hb, hgg, rest⟩
  · exact .inl hn
  · exact .inr ⟨g, cap, cur, rfl, hb, (hc.block g (Blk.lt hgg) (hS g rfl)).trans hgg, rest⟩
theorem OF.lt (h : OF ti s w B v n xs) : ∀ k, v.ownBlock = some k → B ≤ k ∧ k < w.heap.size := fun k hk => World.ownsRow.lt h.1 k hk
theorem OF.mono {B' : Nat} (h : OF ti s w B v n xs) (hB : B' ≤ B) : OF ti s w B' v n xs := by
  obtain ⟨⟨h1, h2⟩, h3⟩ := h
  refine ⟨⟨h1, ?_⟩, h3⟩
  rcases h2 with h2 | ⟨g, cap, cur, hv, hb, r⟩
  · exact .inl h2
  · exact .inr ⟨g, cap, cur, hv, by omega, r⟩
theorem Chg.refl {S : Nat → Prop} (w : World) : Chg S w w := ⟨rfl, rfl, rfl, Nat.le_refl _, fun _ _ _ => rfl⟩
theorem Chg.mono {S S' : Nat → Prop} (h : Chg S w w') (hS : ∀ k, S k → S' k) : Chg S' w w' := ⟨h.os, h.tape, h.output, h.size, fun k hk hn => h.block k hk (fun hs => hn (hS k hs))⟩
theorem Chg.setCell {S : Nat → Prop} {p : Addr} (hp : S p.block) (u : Value) : Chg S w (w.setCell p u) :=
  ⟨rfl, rfl, rfl, by simp [World.setCell], fun k _ hn => Below.heap_setCell w p u k (fun e => hn (e ▸ hp))⟩
abbrev In := Value × Nat × List Int
/-- The row lies in block g (cells cs); the slices are 'is'. -/
structure Dp (T ti : TypeId) (s : Nat) (w : World) (lo g : Nat) (cs : List Value) (is : List In) : Prop where
  blk : Blk w g T cs.toArray
  le : lo ≤ g
  ne : T ≠ ti
  own : ∀ (j : Nat) (q : In), is[j]? = some q → OF ti s w lo q.1 q.2.1 q.2.2
  apart : ∀ (i j : Nat) (p q : In), i ≠ j → is[i]? = some p → is[j]? = some q → Apart p.1 q.1
variable {g : Nat} {cs : List Value} {is : List In}
theorem Dp.chg {S : Nat → Prop} (h : Dp T ti s w lo g cs is) (hc : Chg S w w') (hg : ¬ S g) (hi : ∀ (j : Nat) (q : In) k, is[j]? = some q → q.1.ownBlock = some k → ¬ S k) : Dp T ti s w' lo g cs is :=
  ⟨h.blk.chg hc hg, h.le, h.ne, fun j q hj => (h.own j q hj).chg hc (fun k hk => hi j q k hj hk), h.apart⟩
theorem Dp.below (h : Dp T ti s w lo g cs is) (hb : Below w.heap.size w w') : Dp T ti s w' lo g cs is :=
  ⟨h.blk.belowAll hb, h.le, h.ne, fun j q hj => (h.own j q hj).below hb, h.apart⟩
theorem Dp.mono {lo' : Nat} (h : Dp T ti s w lo g cs is) (hl : lo' ≤ lo) : Dp T ti s w lo' g cs is :=
  ⟨h.blk, Nat.le_trans hl h.le, h.ne, fun j q hj => (h.own j q hj).mono hl, h.apart⟩
theorem Dp.cell (h : Dp T ti s w lo g cs is) (i : Nat) : w.cell? ⟨g, i, none⟩ = cs[i]? := (h.blk.cell i).trans (by simp)
theorem Dp.free (h : Dp T ti s w lo g cs is) (i : Nat) : w.frozen? ⟨g, i, none⟩ = false := h.blk.frozen i
/-- All of its blocks. -/
theorem Dp.range (h : Dp T ti s w lo g cs is) : (lo ≤ g ∧ g < w.heap.size) ∧ ∀ (j : Nat) (q : In) k, is[j]? = some q → q.1.ownBlock = some k → lo ≤ k ∧ k < w.heap.size :=
  ⟨⟨h.le, h.blk.lt⟩, fun j q k hj hk => (h.own j q hj).lt k hk⟩
theorem Dp.set_ (h : Dp T ti s w lo g cs is) (i : Nat) (u : Value) : Dp T ti s (w.setCell ⟨g, i, none⟩ u) lo g (cs.set i u) is :=
  ⟨by have := h.blk.set_ i u; simpa using this, h.le, h.ne,
   fun j q hj => (h.own j q hj).chg (Chg.setCell (S := fun k => k = g) (p := ⟨g, i, none⟩) rfl u) (fun k hk e => (h.own j q hj).ne_blk h.blk h.ne (by rw [hk, e])), h.apart⟩
theorem Dp.push (h : Dp T ti s w lo g cs is) {q : In} (ho : OF ti s w lo q.1 q.2.1 q.2.2) (ha : ∀ (j : Nat) (p : In), is[j]? = some p → Apart p.1 q.1) : Dp T ti s w lo g cs (is ++ [q]) := by
  have key : ∀ (i : Nat) (p : In), (is ++ [q])[i]? = some p → (i < is.length ∧ is[i]? = some p) ∨ (i = is.length ∧ p = q) := fun i p hi => by
    by_cases e : i < is.length
    · rw [List.getElem?_append_left e] at hi; exact .inl ⟨e, hi⟩
    · have : i = is.length := by have := (List.getElem?_eq_some_iff.1 hi).1; simp at this; omega
      subst this
      simp at hi
      exact .inr ⟨rfl, hi.symm⟩
  refine ⟨h.blk, h.le, h.ne, fun i p hi => ?_, fun i k p r hik hi hk => ?_⟩
  · rcases key i p hi with ⟨_, hi⟩ | ⟨_, rfl⟩
    · exact h.own i p hi
    · exact ho
  · rcases key i p hi with ⟨_, hi2⟩ | ⟨e1, ei⟩
    · rcases key k r hk with ⟨_, hk2⟩ | ⟨_, ek⟩
      · exact h.apart i k p r hik hi2 hk2
      · exact ek ▸ ha i p hi2
    · rcases key k r hk with ⟨_, hk2⟩ | ⟨e2, _⟩
      · exact ei ▸ (ha k r hk2).symm
      · omega
theorem Dp.new (hb : Blk w g T cs.toArray) (hl : lo ≤ g) (hne : T ≠ ti) : Dp T ti s w lo g cs [] :=
  ⟨hb, hl, hne, fun j q h => by simp at h, fun i j p q _ h => by simp at h⟩
/-- A slice that was made behind all of them lies apart. -/
theorem Dp.fresh {q : In} {w2 : World} (h : Dp T ti s w lo g cs is) (ho : OF ti s w2 w.heap.size q.1 q.2.1 q.2.2) : ∀ (j : Nat) (p : In), is[j]? = some p → Apart p.1 q.1 := fun j p hj => own_apart (h.own j p hj).1 ho.1
end
end Go.Proofs.YtcfkemchekmjbaaGreatDoor
