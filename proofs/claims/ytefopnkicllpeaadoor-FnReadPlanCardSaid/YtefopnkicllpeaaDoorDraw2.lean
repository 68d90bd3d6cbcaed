/- 'alive'; the drawing reader: l20Open, pick, odd. -/
import Derived.Test.YtefopnkicllpeaaDoorDraw
import Derived.Deep.RegionHeld3
import Derived.Deep.DeepCutAuto
import Derived.Laws.Concat
namespace Go.Proofs.YtefopnkicllpeaaDoor
open Go.RowKit

def aliveS : ByteArray := ⟨#[119, 48, 61, 53]⟩
set_option maxHeartbeats 4000000 in
theorem OpText205_c {w : World} : Calls Tryd.prog 33 #[.agg #[.int .i64 2, .int .i64 0, .int .i64 5]] w fun e w' => e = .returned (.string aliveS) ∧ Below w.heap.size w w' := by
  have K0 := Blk.new w 42 #[.int .i64 2, .int .i64 0, .int .i64 5]
  go_enter Tryd.func33, Tryd.ntmps33
  go_wp2_with fail
  refine (OpValid205_c).mono ?_
  rintro e w2 ⟨rfl, b2⟩
  have B2 := below_step (beB0 _ _) b2
  replace K0 := K0.belowAll b2
  have l0 := K0.lt
  obtain ⟨p0, p1, p2⟩ := K0.three'
  have s1 := fun W : World => run_string_add_sum (P := Tryd.prog) (w := W) ⟨#[119]⟩ (dig 0) (by decide +kernel)
  have s2 := fun W : World => run_string_add_sum (P := Tryd.prog) (w := W) (⟨#[119]⟩ ++ dig 0) ⟨#[61]⟩ (by decide +kernel)
  have s3 := fun W : World => run_string_add_sum (P := Tryd.prog) (w := W) (⟨#[119]⟩ ++ dig 0 ++ ⟨#[61]⟩) (dig 5) (by decide +kernel)
  go_wp2_with fail
  go_region_held3 (fun W => W.cell? ⟨w.heap.size, 0, none⟩ = some (.int .i64 2) ∧ W.cell? ⟨w.heap.size, 1, none⟩ = some (.int .i64 0) ∧ W.cell? ⟨w.heap.size, 2, none⟩ = some (.int .i64 5))
    (first | (go_keep; done) | (go_split_ands; refine ⟨?_, ?_, ?_⟩ <;> (rw [bq.cell (by exact l0)]; assumption)))
    (first | (go_at_call 35; refine (letter205_c).mono ?_; rintro e wq ⟨rfl, bq⟩) | (go_at_call_of 34 (Value.int IntKind.i64 0); refine (Itoa0_c).mono ?_; rintro e w' ⟨rfl, rfl⟩) | (go_at_call_of 34 (Value.int IntKind.i64 5); refine (Itoa5_c).mono ?_; rintro e w' ⟨rfl, rfl⟩))
  all_goals
    replace bq := below_of_drew bq
    have BQ := below_step B2 bq
    go_wp2_with fail
    go_ret
    exact ⟨rfl, BQ⟩

set_option maxHeartbeats 4000000 in
theorem alive_c {w : World} : Calls Tryd.prog 12 #[] w fun e w' => e = .returned (.bool true) ∧ Below w.heap.size w w' := by
  go_enter Tryd.func12, Tryd.ntmps12
  go_wp2_with fail
  refine (OpText205_c).mono ?_
  rintro e w2 ⟨rfl, b2⟩
  unfold aliveS
  go_wp2_with fail
  go_ret
  exact ⟨rfl, b2⟩

/-- The bytes of a code: n of them at A, below block g. -/
def BY (w : World) (g : Nat) (A : Option Addr) (n : Nat) : Prop :=
  ∀ k, k < n → ∃ (b off : Nat) (x : Int), A = some ⟨b, off, none⟩ ∧ b < g ∧ w.cell? ⟨b, off + k, none⟩ = some (.int .u8 x) ∧ 0 ≤ x ∧ x ≤ 255
theorem BY.kept {w w' : World} {g : Nat} {A : Option Addr} {n : Nat} (h : BY w g A n) (hk : ∀ b, b < g → w'.heap[b]? = w.heap[b]?) : BY w' g A n := fun k hk' => by
  obtain ⟨b, off, x, e, hb, hc, h0, h1⟩ := h k hk'
  exact ⟨b, off, x, e, hb, (World.cell?_of_block (hk b hb)).trans hc, h0, h1⟩
/-- The reader lies in block g; it was asked at most P times. -/
def RD (w : World) (g P : Nat) : Prop := ∃ (A : Option Addr) (n c p : Nat), Blk w g 77 #[.slice A n c, .int .i64 p] ∧ p ≤ P ∧ n ≤ 2000 ∧ n ≤ c ∧ BY w g A n
theorem RD.lt {w : World} {g P : Nat} (h : RD w g P) : g < w.heap.size := by obtain ⟨A, n, c, p, hb, _⟩ := h; exact hb.lt
theorem RD.mono {w : World} {g P Q : Nat} (h : RD w g P) (hq : P ≤ Q) : RD w g Q := by obtain ⟨A, n, c, p, h1, h2, h3⟩ := h; exact ⟨A, n, c, p, h1, by omega, h3⟩
theorem RD.below {w w' : World} {g P : Nat} (h : RD w g P) (hb : Below w.heap.size w w') : RD w' g P := by
  have hlt := h.lt
  obtain ⟨A, n, c, p, h1, h2, h3, h4, h5⟩ := h
  exact ⟨A, n, c, p, h1.belowAll hb, h2, h3, h4, h5.kept fun b hbg => hb.block b (by omega)⟩
theorem RD.grown {w w' : World} {g P : Nat} {row : Option Nat} (h : RD w g P) (hg : w.grownBy w' row) (hr : ∀ k, row = some k → g < k) : RD w' g P := by
  have hlt := h.lt
  obtain ⟨A, n, c, p, h1, h2, h3, h4, h5⟩ := h
  have hne : ∀ b, b ≤ g → w'.heap[b]? = w.heap[b]? := fun b hb => hg.block b (by omega) (fun e => by have := hr b e.symm; omega)
  exact ⟨A, n, c, p, (hne g (Nat.le_refl _)).trans h1, h2, h3, h4, h5.kept fun b hb => hne b (by omega)⟩
theorem RD.alloc {w : World} {g P : Nat} (h : RD w g P) (o : Obj) : RD (w.alloc o) g P := h.below (beB0 _ _)

def PickR (w : World) (g P : Nat) (k : Int) (e : Ending) (w' : World) : Prop := ∃ x : Int, e = .returned (.int .i64 x) ∧ 0 ≤ x ∧ x < k ∧ RD w' g (P + 1) ∧ w.grownBy w' (some g)
theorem xor_nat (m : Nat) (h : m ≤ 1000000000) : ∃ q : Nat, bits .xor .i64 (m : Int) ((m : Int) / 64) = (q : Int) ∧ q < 4611686018427387904 := by
  have e : ((m : Int) / 64) = ((m / 64 : Nat) : Int) := by omega
  have ha : (m : Nat) < 9223372036854775808 := by omega
  have hb : (m / 64 : Nat) < 9223372036854775808 := by omega
  have of1 : ∀ a : Nat, a < 9223372036854775808 → (BitVec.ofInt 64 (a : Int)).toNat = a := fun a ha => by
    rw [BitVec.ofInt_natCast, BitVec.toNat_ofNat]; exact Nat.mod_eq_of_lt (by omega)
  have hx : m ^^^ (m / 64) < 2 ^ 31 := Nat.xor_lt_two_pow (by omega) (by omega)
  refine ⟨m ^^^ (m / 64), ?_, by omega⟩
  rw [e]
  show IntKind.i64.wrap ((BitVec.ofInt 64 (m : Int) ^^^ BitVec.ofInt 64 ((m / 64 : Nat) : Int)).toNat : Int) = _
  rw [BitVec.toNat_xor, of1 m ha, of1 _ hb, IntKind.wrap_i64]
  omega

set_option maxRecDepth 100000 in
set_option maxHeartbeats 8000000 in
theorem pick_c {w : World} {g P : Nat} {k : Int} (hr : RD w g P) (hP : P ≤ 100000) (hk1 : 1 ≤ k) (hk2 : k ≤ 100000) :
    Calls Tryd.prog 32 #[.pointer (some ⟨g, 0, none⟩), .int .i64 k] w (PickR w g P k) := by
  obtain ⟨A, n, c, p, hblk, hp, hn, hnc, hby⟩ := hr
  have fin : ∀ w', (w.setCell ⟨g, 1, none⟩ (.int .i64 ((p : Int) + 1))) = w' → RD w' g (P + 1) ∧ w.grownBy w' (some g) := fun w' e => by
    subst e
    refine ⟨⟨A, n, c, p + 1, ?_, by omega, hn, hnc, hby.kept fun b hb => ?_⟩, grown_setCell (p := ⟨g, 1, none⟩) (World.grownBy.refl w (some g)) (.inl rfl) _⟩
    · have := hblk.set_ 1 (.int .i64 ((p : Int) + 1)); simpa using this
    · exact Below.heap_setCell w ⟨g, 1, none⟩ _ b (by show b ≠ g; omega)
  have Fin := hide fin; clear fin
  have c0 : w.cell? ⟨g, 0, none⟩ = some (.slice A n c) := hblk.cell 0
  have c1 : w.cell? ⟨g, 1, none⟩ = some (.int .i64 p) := hblk.cell 1
  have f1 : w.frozen? ⟨g, 1, none⟩ = false := hblk.frozen 1
  have p0 : (0 : Int) ≤ p := by omega
  have p9 : (p : Int) ≤ 100000 := by omega
  clear hblk
  by_cases hn0 : n = 0
  · subst hn0
    go_enter Tryd.func32, Tryd.ntmps32
    go_wp2_with fail
    go_ret
    obtain ⟨h1, h2⟩ := Fin.out _ rfl
    exact ⟨0, rfl, by omega, by omega, h1, h2⟩
  · have hn1 : ((n : Int) == 0) = false := by simp; omega
    have hk3 : ¬ k < 1 := by omega
    have nn : (1 : Int) ≤ n := by omega
    have nn2 : (n : Int) ≤ 2000 := by omega
    by_cases hlt : p < n
    · obtain ⟨b, off, x, rfl, hb, hc, x0, x1⟩ := hby p hlt
      have hbg : b ≠ g := by omega
      have hlt' : (p : Int) < n := by omega
      have hcc : ∀ u, (w.setCell ⟨g, 1, none⟩ u).cell? ⟨b, off + p, none⟩ = some (.int .u8 x) := fun u => (World.cell?_setCell_other _ _ _ _ (fun e => hbg.symm (by injection e))).trans hc
      clear hby hn0
      go_enter Tryd.func32, Tryd.ntmps32
      go_wp2_with fail
      go_ret
      obtain ⟨h1, h2⟩ := Fin.out _ rfl
      exact ⟨x % k, rfl, Int.emod_nonneg _ (by omega), Int.emod_lt_of_pos _ (by omega), h1, h2⟩
    · obtain ⟨i1, hi1⟩ : ∃ i, i = p % n := ⟨_, rfl⟩
      obtain ⟨i2, hi2⟩ : ∃ i, i = (p * 7 + 3) % n := ⟨_, rfl⟩
      obtain ⟨q, hq⟩ : ∃ i, i = p / n := ⟨_, rfl⟩
      have hmod1 : i1 < n := by rw [hi1]; exact Nat.mod_lt _ (by omega)
      have hmod2 : i2 < n := by rw [hi2]; exact Nat.mod_lt _ (by omega)
      have hq1 : q ≤ p := by rw [hq]; exact Nat.div_le_self _ _
      obtain ⟨b, off, x, rfl, hb, hc, x0, x1⟩ := hby _ hmod1
      obtain ⟨b', off', y, e2, hb', hd, y0, y1⟩ := hby _ hmod2
      injection e2 with e2; injection e2 with e21 e22 _; subst e21; subst e22
      have hbg : b ≠ g := by omega
      have hge : ¬ (p : Int) < n := by omega
      have d0 : (w.setCell ⟨g, 1, none⟩ (.int .i64 ((p : Int) + 1))).cell? ⟨b, off + i1, none⟩ = some (.int .u8 x) := (World.cell?_setCell_other _ _ _ _ (fun e => hbg.symm (by injection e))).trans hc
      have d1 : (w.setCell ⟨g, 1, none⟩ (.int .i64 ((p : Int) + 1))).cell? ⟨b, off + i2, none⟩ = some (.int .u8 y) := (World.cell?_setCell_other _ _ _ _ (fun e => hbg.symm (by injection e))).trans hd
      have d2 : (w.setCell ⟨g, 1, none⟩ (.int .i64 ((p : Int) + 1))).cell? ⟨g, 0, none⟩ = some (.slice (some ⟨b, off, none⟩) n c) := (World.cell?_setCell_other _ _ _ _ (fun e => by injection e with _ e; cases e)).trans c0
      have tm1 : Int.tmod (p : Int) (n : Int) = (i1 : Int) := by rw [Int.tmod_eq_emod_of_nonneg p0, hi1]; omega
      have tm2 : Int.tmod ((p : Int) * 7 + 3) (n : Int) = (i2 : Int) := by rw [Int.tmod_eq_emod_of_nonneg (by omega), hi2]; push_cast; rfl
      have td : Int.tdiv (p : Int) (n : Int) = (q : Int) := by rw [Int.tdiv_eq_ediv_of_nonneg p0, hq]; omega
      have i10 : (0 : Int) ≤ i1 := by omega
      have i11 : (i1 : Int) < n := by omega
      have i20 : (0 : Int) ≤ i2 := by omega
      have i21 : (i2 : Int) < n := by omega
      have q0 : (0 : Int) ≤ q := by omega
      have q9 : (q : Int) ≤ 100000 := by omega
      clear hi1 hi2 hq hby hn0 hmod1 hmod2 hq1 hc hd
      go_enter Tryd.func32, Tryd.ntmps32
      go_wp2_with fail
      have Fin2 := Fin.out _ rfl
      generalize w.setCell ⟨g, 1, none⟩ (.int .i64 ((p : Int) + 1)) = w1 at *
      go_upto_region 7 with fail
      go_cut [6] (fun s wx => ∃ m : Nat, s = .int .i64 m ∧ m ≤ 1000000000 ∧ ∃ a, wx = w1.drewN a)
      case first =>
        have wr : ∀ z : Int, 0 ≤ z → z ≤ 1000000000 → IntKind.i64.wrap z = z := fun z h0 h1 => by rw [IntKind.wrap_i64]; omega
        have u1 := wr ((p : Int) * 7) (by omega) (by omega)
        have u2 := wr ((p : Int) * 7 + 3) (by omega) (by omega)
        have u3 := wr (x * 131) (by omega) (by omega)
        have u4 := wr (y * 1117) (by omega) (by omega)
        have u5 := wr (x * 131 + y * 1117) (by omega) (by omega)
        have u6 := wr ((p : Int) * 29) (by omega) (by omega)
        have u7 := wr (x * 131 + y * 1117 + (p : Int) * 29) (by omega) (by omega)
        have u8 := wr ((q : Int) * 53) (by omega) (by omega)
        have u9 := wr (x * 131 + y * 1117 + (p : Int) * 29 + (q : Int) * 53) (by omega) (by omega)
        have v1 := wr x (by omega) (by omega)
        have v2 := wr y (by omega) (by omega)
        have fm : ∃ m : Nat, x * 131 + y * 1117 + (p : Int) * 29 + (q : Int) * 53 = m ∧ m ≤ 1000000000 := ⟨(x * 131 + y * 1117 + (p : Int) * 29 + (q : Int) * 53).toNat, by omega, by omega⟩
        obtain ⟨m, hm, hm9⟩ := fm
        have Hm := hide hm; clear hm wr
        go_quiet (fail)
        go_wp2_with fail
        go_meet
        exact ⟨m, by rw [← Hm.out], hm9, _, rfl⟩
      case rest =>
        obtain ⟨m, rfl, hm9, a, rfl⟩ := hcut
        obtain ⟨z, hz, hz9⟩ := xor_nat m hm9
        have m0 : (0 : Int) ≤ m := by omega
        have m9 : (m : Int) ≤ 1000000000 := by omega
        have z0 : (0 : Int) ≤ z := by omega
        have z9 : (z : Int) < 4611686018427387904 := by omega
        clear d0 d1 d2 tm1 tm2 td
        go_wp2_with fail
        go_ret
        exact ⟨(z : Int) % k, rfl, Int.emod_nonneg _ (by omega), Int.emod_lt_of_pos _ (by omega), (Fin2.1).below (below_drewN (Below.refl _ _) _), ⟨Fin2.2.os, Fin2.2.tape, Fin2.2.output, Fin2.2.size, Fin2.2.block⟩⟩

end Go.Proofs.YtefopnkicllpeaaDoor
