/- Contracts of the laws' own helpers on Op and []Op. XEdgeS with another name; heldOpS besides. -/
import Derived.Test.YtgjepagejongpaaDoorRow3b
import Derived.Deep.RegionHeld3
namespace Go.Proofs.YtgjepagejongpaaDoor
open Go.RowKit

set_option maxHeartbeats 1000000 in
theorem toOp_c {v t p : Int} {w : World} :
    Calls Tryd.prog 52 #[.agg #[.int .i64 v, .int .i64 t, .int .i64 p]] w fun e w' => e = .returned (.agg #[.int .i64 v, .int .i64 t, .int .i64 p]) ∧ Below w.heap.size w w' := by
  go_enter Tryd.func52, Tryd.ntmps52
  go_wp2
  exact bodyPost_ret (v := .agg #[.int .i64 v, .int .i64 t, .int .i64 p]) (by simp [results, Tryd.results52, go_sem]) rfl ⟨rfl, (((Below.refl _ _).alloc (Nat.le_refl _) _).alloc (by simp) _).alloc (by simp <;> omega) _⟩

set_option maxHeartbeats 1000000 in
theorem eqOp_c {v t p v' t' p' : Int} {w : World} :
    Calls Tryd.prog 62 #[.agg #[.int .i64 v, .int .i64 t, .int .i64 p], .agg #[.int .i64 v', .int .i64 t', .int .i64 p']] w fun e w' => e = .returned (.bool (v == v' && (t == t' && p == p'))) ∧ Below w.heap.size w w' := by
  have B0 : ∀ o o', Below w.heap.size w ((w.alloc o).alloc o') := fun o o' => ((Below.refl _ _).alloc (Nat.le_refl _) o).alloc (by simp) o'
  obtain ⟨r, hr⟩ : ∃ r, r = (v == v' && (t == t' && p == p')) := ⟨_, rfl⟩
  rw [← hr]
  cases h1 : (v == v')
  · have hf : r = false := by simp [hr, h1]
    have F := hide hf; clear hf hr
    go_enter Tryd.func62, Tryd.ntmps62
    go_wp2
    go_ret
    exact ⟨by rw [F.out]; rfl, B0 _ _⟩
  · cases h2 : (t == t')
    · have hf : r = false := by simp [hr, h1, h2]
      have F := hide hf; clear hf hr
      go_enter Tryd.func62, Tryd.ntmps62
      go_wp2
      go_ret
      exact ⟨by rw [F.out]; rfl, B0 _ _⟩
    · cases h3 : (p == p')
      · have hf : r = false := by simp [hr, h1, h2, h3]
        have F := hide hf; clear hf hr
        go_enter Tryd.func62, Tryd.ntmps62
        go_wp2
        go_ret
        exact ⟨by rw [F.out]; rfl, B0 _ _⟩
      · have hf : r = true := by simp [hr, h1, h2, h3]
        have F := hide hf; clear hf hr
        go_enter Tryd.func62, Tryd.ntmps62
        go_wp2
        go_ret
        exact ⟨by rw [F.out]; rfl, B0 _ _⟩

theorem infoOp : (Tryd.prog.info? 46).map (fun i => (i.zero, i.size, i.bytes)) = some (some (.agg #[.int .i64 0, .int .i64 0, .int .i64 0]), 3, 24) := by kernel_rfl
theorem run_make_Op (n : Nat) (hn : n ≤ 1048576) (w : World) :
    (Instr.makeSlice 35 (.int .i64 (n : Int)) (.int .i64 (n : Int))).run Tryd.prog w = .ok (.slice (some ⟨w.heap.size, 0, none⟩) n n) (w.alloc (.cells ((List.replicate (n * 3) (Value.int .i64 0)).toArray) 46)) := by
  obtain ⟨i, hi, hz, hs, hb⟩ := info_parts infoOp
  rw [run_make_rowN 35 46 i (.agg #[.int .i64 0, .int .i64 0, .int .i64 0]) Tryd.underlying35 hi hz .i64 .i64 n n (Nat.le_refl _) (by rw [hb]; omega) (by omega) w]
  have e1 : madeCells (Value.agg #[.int .i64 0, .int .i64 0, .int .i64 0]).cells (n * i.size) = (List.replicate (n * 3) (Value.int .i64 0)).toArray := by
    rw [hs, ← Array.toArray_toList (xs := madeCells _ _)]
    rw [show (Value.agg #[.int .i64 0, .int .i64 0, .int .i64 0]).cells = #[Value.int .i64 0, Value.int .i64 0, Value.int .i64 0] from rfl, toList_madeCells3']
  rw [e1]

set_option maxHeartbeats 1000000 in
theorem toOpS_c {v : Value} {n : Nat} {ts : List T3} {w : World} (hs : S3 w v n ts) :
    Calls Tryd.prog 34 #[v] w fun e w' => ∃ v, e = .returned v ∧ O3 46 w' w.heap.size v n ts ∧ Below w.heap.size w w' := by
  obtain ⟨A, c, rfl, hnc, hn, hr⟩ := hs
  have hmk := run_make_Op n hn
  have hlen := hide hr.len
  have hfl : (flat3 ts).length = n * 3 := by rw [flat3_len, hr.len]
  have Hfl := hide hfl; clear hfl
  go_enter Tryd.func34, Tryd.ntmps34
  go_wp2
  go_loopw [4] (fun i wr => ∃ k : Nat, k ≤ n ∧ i = .int .i64 k ∧ Blk wr w.heap.size 46 (cpy (flat3 ts) (k * 3)).toArray ∧ Below w.heap.size w wr) (fun i _ => n - (intOf i).toNat)
  case atStart => exact ⟨0, Nat.zero_le _, rfl, by rw [show 0 * 3 = 0 from rfl, cpy_zero, Hfl.out]; exact Blk.new _ _ _, (Below.refl _ _).alloc (Nat.le_refl _) _⟩
  case round =>
    obtain ⟨k, hk, rfl, hblk, hbel⟩ := hrel
    by_cases hlt : k < n
    · obtain ⟨b, off, x, y, z, rfl, hb, hx, hc0, hc1, hc2⟩ := hr.at_ hlt
      have Hx := hide hx; clear hx
      have a0 := (hbel.cell (p := ⟨b, off + k * 3, none⟩) hb).trans hc0
      have a1 := (hbel.cell (p := ⟨b, off + k * 3 + 1, none⟩) hb).trans hc1
      have a2 := (hbel.cell (p := ⟨b, off + k * 3 + 2, none⟩) hb).trans hc2
      clear hc0 hc1 hc2
      go_wp2_with fail
      refine (toOp_c).mono ?_
      rintro e w2 ⟨rfl, b2⟩
      have B2 := below_step hbel b2
      replace hblk := hblk.belowAll b2
      have hk3 : k * 3 + 2 < (cpy (flat3 ts) (k * 3)).length := by rw [cpy_len _ _ (by rw [Hfl.out]; omega), Hfl.out]; omega
      obtain ⟨u0, s0⟩ : ∃ u, w2.cell? ⟨w.heap.size, k * 3, none⟩ = some u := by rw [hblk.cell]; exact ⟨(cpy (flat3 ts) (k * 3))[k * 3]'(by omega), by simp⟩
      obtain ⟨u1, s1⟩ : ∃ u, w2.cell? ⟨w.heap.size, k * 3 + 1, none⟩ = some u := by rw [hblk.cell]; exact ⟨(cpy (flat3 ts) (k * 3))[k * 3 + 1]'(by omega), by simp⟩
      obtain ⟨u2, s2⟩ : ∃ u, w2.cell? ⟨w.heap.size, k * 3 + 2, none⟩ = some u := by rw [hblk.cell]; exact ⟨(cpy (flat3 ts) (k * 3))[k * 3 + 2]'(by omega), by simp⟩
      have f0 : w2.frozen? ⟨w.heap.size, k * 3, none⟩ = false := hblk.frozen _
      have f1 : w2.frozen? ⟨w.heap.size, k * 3 + 1, none⟩ = false := hblk.frozen _
      have f2 : w2.frozen? ⟨w.heap.size, k * 3 + 2, none⟩ = false := hblk.frozen _
      go_wp2_with fail
      go_roundw
      case rel =>
        refine ⟨k + 1, by omega, by go_num, ?_, ((B2.setCell (p := ⟨w.heap.size, k * 3, none⟩) (Nat.le_refl _) _).setCell (p := ⟨w.heap.size, k * 3 + 1, none⟩) (Nat.le_refl _) _).setCell (p := ⟨w.heap.size, k * 3 + 2, none⟩) (Nat.le_refl _) _⟩
        obtain ⟨g0, g1, g2⟩ := flat3_get ts k x y z Hx.out
        have := ((hblk.set_ (k * 3) (.int .i64 x)).set_ (k * 3 + 1) (.int .i64 y)).set_ (k * 3 + 2) (.int .i64 z)
        rw [show (k + 1) * 3 = k * 3 + 1 + 1 + 1 by omega, ← cpy_step _ _ z g2, ← cpy_step _ _ y g1, ← cpy_step _ _ x g0]
        simpa using this
      case measure => simp [intOf]; omega
    · go_wp2
      go_ret
      obtain rfl : k = n := by omega
      refine ⟨_, rfl, O3.of_blk hblk (Nat.le_refl _) ?_ hlen.out hn, hbel⟩
      rw [← Hfl.out, cpy_full]

set_option maxHeartbeats 400000 in
theorem szOpS_c {A : Option Addr} {n c : Nat} {left : Int} {w : World} (h0 : -1 ≤ left) (h1 : left ≤ 1048576) (hn : n ≤ maxLen) :
    Calls Tryd.prog 33 #[.slice A n c, .int .i64 left] w fun e w' => e = .returned (.int .i64 (szN left n)) ∧ w = w' := by
  unfold maxLen at hn
  by_cases h : (n : Int) ≤ left
  · have hf : szN left n = left - n := by simp [szN, h]
    have F := hide hf; clear hf
    go_enter Tryd.func33, Tryd.ntmps33
    go_wp2
    go_ret
    exact ⟨by rw [F.out]; rfl, rfl⟩
  · have hf : szN left n = -1 := by simp [szN, h]
    have F := hide hf; clear hf
    go_enter Tryd.func33, Tryd.ntmps33
    go_wp2
    go_ret
    exact ⟨by rw [F.out]; rfl, rfl⟩

set_option maxHeartbeats 4000000 in
theorem eqOpS_c {u v : Value} {n m : Nat} {xs ys : List T3} {w : World} (hu : S3 w u n xs) (hv : S3 w v m ys) :
    Calls Tryd.prog 43 #[u, v] w fun e w' => e = .returned (.bool (decide (xs = ys))) ∧ Below w.heap.size w w' := by
  obtain ⟨A, c, rfl, _, hn, ha⟩ := hu
  obtain ⟨B, d, rfl, _, hm, hb⟩ := hv
  have hla := hide ha.len
  have hlb := hide hb.len
  by_cases hnm : n = m
  · subst hnm
    go_enter Tryd.func43, Tryd.ntmps43
    go_wp2
    go_loopw [5] (fun i wr => ∃ k : Nat, k ≤ n ∧ i = .int .i64 k ∧ xs.take k = ys.take k ∧ Below w.heap.size w wr) (fun i _ => n - (intOf i).toNat)
    case atStart => exact ⟨0, Nat.zero_le _, rfl, rfl, Below.refl _ _⟩
    case round =>
      obtain ⟨k, hk, rfl, heq, hbel⟩ := hrel
      have Heq := hide heq; clear heq
      by_cases hlt : k < n
      · obtain ⟨b1, o1, x, y, z, rfl, hb1, hx, p0, p1, p2⟩ := ha.at_ hlt
        obtain ⟨b2, o2, x', y', z', rfl, hb2, hy, q0, q1, q2⟩ := hb.at_ hlt
        have Hx := hide hx; clear hx
        have Hy := hide hy; clear hy
        have c0 : wr.cell? ⟨b1, o1 + k * 3, none⟩ = some (.int .i64 x) := (hbel.cell hb1).trans p0
        have c1 : wr.cell? ⟨b1, o1 + k * 3 + 1, none⟩ = some (.int .i64 y) := (hbel.cell hb1).trans p1
        have c2 : wr.cell? ⟨b1, o1 + k * 3 + 2, none⟩ = some (.int .i64 z) := (hbel.cell hb1).trans p2
        have d0 : wr.cell? ⟨b2, o2 + k * 3, none⟩ = some (.int .i64 x') := (hbel.cell hb2).trans q0
        have d1 : wr.cell? ⟨b2, o2 + k * 3 + 1, none⟩ = some (.int .i64 y') := (hbel.cell hb2).trans q1
        have d2 : wr.cell? ⟨b2, o2 + k * 3 + 2, none⟩ = some (.int .i64 z') := (hbel.cell hb2).trans q2
        have k0 : (0 : Int) ≤ k := by omega
        have k1 : (k : Int) < n := by omega
        have l1 : b1 < wr.heap.size := Nat.lt_of_lt_of_le hb1 hbel.size
        have l2 : b2 < wr.heap.size := Nat.lt_of_lt_of_le hb2 hbel.size
        clear p0 p1 p2 q0 q1 q2
        obtain ⟨r, hr⟩ : ∃ r, r = (x == x' && (y == y' && z == z')) := ⟨_, rfl⟩
        have Hr := hide hr; clear hr
        go_wp2
        go_region_held3 (fun W => W.cell? ⟨b1, o1 + k * 3, none⟩ = some (.int .i64 x) ∧ W.cell? ⟨b1, o1 + k * 3 + 1, none⟩ = some (.int .i64 y) ∧ W.cell? ⟨b1, o1 + k * 3 + 2, none⟩ = some (.int .i64 z) ∧ W.cell? ⟨b2, o2 + k * 3, none⟩ = some (.int .i64 x') ∧ W.cell? ⟨b2, o2 + k * 3 + 1, none⟩ = some (.int .i64 y') ∧ W.cell? ⟨b2, o2 + k * 3 + 2, none⟩ = some (.int .i64 z'))
          (first | (go_keep; done) | (go_split_ands; refine ⟨?_, ?_, ?_, ?_, ?_, ?_⟩ <;> (rw [bq.cell (by first | exact l1 | exact l2)]; assumption)))
          (first | (go_at_call 62; refine (eqOp_c).mono ?_; rintro e wq ⟨rfl, bq⟩; rw [← Hr.out]))
        replace bq := below_of_drew bq
        have BQ := below_step hbel bq
        clear c0 c1 c2 d0 d1 d2 l1 l2
        cases r
        · go_wp2_with fail
          go_ret
          have hne : ¬ xs = ys := by
            intro h
            have e1 := Hx.out; rw [h, Hy.out] at e1
            injection e1 with e1; injection e1 with e1 e2; injection e2 with e2 e3
            have := Hr.out; subst e1; subst e2; subst e3; simp [] at this
          exact ⟨by simp [hne], BQ⟩
        · have he : x = x' ∧ y = y' ∧ z = z' := by have := Hr.out; simpa [] using this.symm
          have He := hide he; clear he
          go_wp2_with fail
          go_roundw
          case rel =>
            obtain ⟨e1, e2, e3⟩ := He.out
            subst e1; subst e2; subst e3
            exact ⟨k + 1, by omega, by go_num, take_snoc_eq3 _ _ _ _ Heq.out Hx.out Hy.out, BQ⟩
          case measure => simp [intOf]; omega
      · go_wp2
        go_ret
        obtain rfl : k = n := by omega
        have h1 := Heq.out
        rw [List.take_of_length_le (by rw [hla.out]; omega), List.take_of_length_le (by rw [hlb.out]; omega)] at h1
        exact ⟨by simp [h1], hbel⟩
  · have hne : ¬ xs = ys := by
      intro h; apply hnm; rw [← hla.out, ← hlb.out, h]
    have Hne := hide hne; clear hne
    go_enter Tryd.func43, Tryd.ntmps43
    go_wp2
    go_ret
    exact ⟨by simp [Hne.out], Below.refl _ _⟩



end Go.Proofs.YtgjepagejongpaaDoor
