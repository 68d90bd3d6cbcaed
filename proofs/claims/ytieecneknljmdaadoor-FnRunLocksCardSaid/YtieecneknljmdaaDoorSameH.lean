/- sameOps, sameTxn, sameHistory, for like ones. -/
import Derived.Test.YtieecneknljmdaaDoorTx2
import Derived.BigQuiet
import Derived.Laws.StructEq
namespace Go.Proofs.YtieecneknljmdaaDoor
open Go.RowKit

theorem fieldsOp : Tryd.prog.underlying 51 = some (.struct (Tryd.prog.fieldsOf 51)) := by kernel_rfl
theorem heldOp : Tryd.prog.stoodInHeld 51 = false := by kernel_rfl
theorem guardOp : Tryd.prog.eqGuardType Tryd.prog.depth 51 = false := by kernel_rfl
theorem equalInOp (w : World) (a b c a' b' c' : Int) : (Op.equalIn 10000 51 (.agg #[.int .i64 a, .int .i64 b, .int .i64 c]) (.agg #[.int .i64 a', .int .i64 b', .int .i64 c'])).run Tryd.prog w = .ok (a == a' && (b == b' && c == c')) w := by
  have z3 := Tryd.sizeOf3
  have a3 := Tryd.isAgg3
  have u3 := Tryd.underlying3
  rw [show (10000 : Nat) = 9999 + 1 from rfl, run_equalIn_agg w 9999 51 _ _ fieldsOp heldOp]
  simp only [Program.fieldsOf, Tryd.underlying51]
  go_simp
  by_cases h1 : a = a' <;> by_cases h2 : b = b' <;> by_cases h3 : c = c' <;> simp [h1, h2, h3]
theorem eqOpL (w : World) (a b c a' b' c' : Int) : (binOp .eql 51 (.agg #[.int .i64 a, .int .i64 b, .int .i64 c]) (.agg #[.int .i64 a', .int .i64 b', .int .i64 c'])).run Tryd.prog w = .ok (.bool (a == a' && (b == b' && c == c'))) w := by
  rw [run_eql_struct, equalInOp]; rfl
theorem neqOpL (w : World) (a b c a' b' c' : Int) : (binOp .neq 51 (.agg #[.int .i64 a, .int .i64 b, .int .i64 c]) (.agg #[.int .i64 a', .int .i64 b', .int .i64 c'])).run Tryd.prog w = .ok (.bool (!(a == a' && (b == b' && c == c')))) w := by
  rw [run_neq_struct, equalInOp]; rfl
theorem eqOpL_same (w : World) (a b c : Int) : (binOp .eql 51 (.agg #[.int .i64 a, .int .i64 b, .int .i64 c]) (.agg #[.int .i64 a, .int .i64 b, .int .i64 c])).run Tryd.prog w = .ok (.bool true) w := by rw [eqOpL]; simp
theorem neqOpL_same (w : World) (a b c : Int) : (binOp .neq 51 (.agg #[.int .i64 a, .int .i64 b, .int .i64 c]) (.agg #[.int .i64 a, .int .i64 b, .int .i64 c])).run Tryd.prog w = .ok (.bool false) w := by rw [neqOpL]; simp

set_option maxHeartbeats 2000000 in
theorem sameOps_c {u v : Value} {n m : Nat} {ts : List T3} {w : World} (hu : S3 w u n ts) (hv : S3 w v m ts) :
    Calls Tryd.prog 70 #[u, v] w fun e w' => e = .returned (.bool true) ∧ Below w.heap.size w w' := by
  obtain ⟨A, c, rfl, _, hn, ha⟩ := hu
  obtain ⟨B, d, rfl, _, hm, hb⟩ := hv
  obtain rfl : n = m := ha.len.symm.trans hb.len
  have hq := fun w x y z => neqOpL_same w x y z
  go_enter Tryd.func70, Tryd.ntmps70
  go_wp2_with fail
  go_loopw [5] (fun i wr => ∃ k : Nat, k ≤ n ∧ i = .int .i64 k ∧ Below w.heap.size w wr) (fun i _ => n - (intOf i).toNat)
  case atStart => exact ⟨0, Nat.zero_le _, rfl, Below.refl _ _⟩
  case round =>
    obtain ⟨k, hk, rfl, hbel⟩ := hrel
    by_cases hlt : k < n
    · obtain ⟨b1, o1, x, y, z, rfl, hb1, hx, p0, p1, p2⟩ := ha.at_ hlt
      obtain ⟨b2, o2, x', y', z', rfl, hb2, hx', q0, q1, q2⟩ := hb.at_ hlt
      have e := hx.symm.trans hx'
      injection e with e
      obtain ⟨rfl, rfl, rfl⟩ : x = x' ∧ y = y' ∧ z = z' := by simpa using e
      have c0 := (hbel.cell (p := ⟨b1, o1 + k * 3, none⟩) hb1).trans p0
      have c1 := (hbel.cell (p := ⟨b1, o1 + k * 3 + 1, none⟩) hb1).trans p1
      have c2 := (hbel.cell (p := ⟨b1, o1 + k * 3 + 2, none⟩) hb1).trans p2
      have d0 := (hbel.cell (p := ⟨b2, o2 + k * 3, none⟩) hb2).trans q0
      have d1 := (hbel.cell (p := ⟨b2, o2 + k * 3 + 1, none⟩) hb2).trans q1
      have d2 := (hbel.cell (p := ⟨b2, o2 + k * 3 + 2, none⟩) hb2).trans q2
      have k0 : (0 : Int) ≤ k := by omega
      have k1 : (k : Int) < n := by omega
      clear hx hx' e p0 p1 p2 q0 q1 q2
      go_wp2_with fail
      go_region
      all_goals
        go_wp2_with fail
        go_roundw
      case rel => exact ⟨k + 1, by omega, by go_num, hbel.drew⟩
      case measure => simp [intOf]; omega
    · obtain rfl : k = n := by omega
      go_wp2_with fail
      go_ret
      exact ⟨rfl, hbel⟩

set_option maxHeartbeats 1000000 in
theorem sameTxn_c {v v' : Value} {m m' : Nat} {ys : List T3} {f : Int} {d : Bool} {w : World} (hv : S3 w v m ys) (hv' : S3 w v' m' ys) :
    Calls Tryd.prog 35 #[.agg #[.int .i64 f, v, .bool d], .agg #[.int .i64 f, v', .bool d]] w fun e w' => e = .returned (.bool true) ∧ Below w.heap.size w w' := by
  obtain ⟨B, c, rfl⟩ := hv.shape
  obtain ⟨B', c', rfl⟩ := hv'.shape
  have B0 : Below w.heap.size w ((w.alloc (.cells #[.int .i64 f, .slice B m c, .bool d] 58)).alloc (.cells #[.int .i64 f, .slice B' m' c', .bool d] 58)) := ((Below.refl _ _).alloc (Nat.le_refl _) _).alloc (by simp) _
  have K1 := (Blk.new w 58 #[.int .i64 f, .slice B m c, .bool d]).alloc (.cells #[.int .i64 f, .slice B' m' c', .bool d] 58)
  have K2 := Blk.new (w.alloc (.cells #[.int .i64 f, .slice B m c, .bool d] 58)) 58 #[.int .i64 f, .slice B' m' c', .bool d]
  simp only [World.size_alloc] at K2
  have hdd : (f == f) = true := by simp
  have hde : (d == d) = true := by simp
  obtain ⟨p0, p1, p2⟩ := K1.three
  obtain ⟨q0, q1, q2⟩ := K2.three
  go_enter Tryd.func35, Tryd.ntmps35
  go_wp2_with fail
  refine (sameOps_c (hv.below B0) (hv'.below B0)).mono ?_
  rintro e w2 ⟨rfl, b2⟩
  have B2 := below_step B0 b2
  go_wp2_with fail
  go_ret
  exact ⟨rfl, B2⟩

set_option maxHeartbeats 8000000 in
theorem sameHistory_c {u u' : Value} {n n' : Nat} {ts : List Tx} {w : World} (hr : STs w u n ts) (hr' : STs w u' n' ts) (hsm : SmallT ts) :
    Calls Tryd.prog 14 #[u, u'] w fun e w' => e = .returned (.bool true) ∧ Below w.heap.size w w' := by
  obtain ⟨A, c, rfl, _, hn, hr⟩ := hr
  obtain ⟨A', c', rfl, _, _, hr'⟩ := hr'
  have hl := hide hr.1
  obtain rfl : n = n' := hr.1.symm.trans hr'.1
  go_enter Tryd.func14, Tryd.ntmps14
  go_wp2_with fail
  go_loopw [5] (fun i wr => ∃ k : Nat, k ≤ n ∧ i = .int .i64 k ∧ Below w.heap.size w wr) (fun i _ => n - (intOf i).toNat)
  case atStart => exact ⟨0, Nat.zero_le _, rfl, Below.refl _ _⟩
  case round =>
    obtain ⟨k, hk, rfl, bw⟩ := hrel
    by_cases hkn : k < n
    · obtain ⟨b, off, f, ys, dn, B, kk, d, rfl, hbb, hx, q0, q1, q2, hkd, hdm, hri⟩ := hr.at_ hkn
      obtain ⟨b', off', f', ys', dn', B', kk', d', rfl, hbb', hx', q0', q1', q2', hkd', hdm', hri'⟩ := hr'.at_ hkn
      obtain ⟨rfl, rfl, rfl⟩ : f = f' ∧ ys = ys' ∧ dn = dn' := by
        have := hx.symm.trans hx'
        simpa using this
      have hsz := hsm _ (List.mem_of_getElem? hx)
      have hk1 : kk ≤ 1048576 := by have := hri.len; dsimp only at hsz; omega
      have hk2 : kk' ≤ 1048576 := by have := hri'.len; dsimp only at hsz; omega
      have s1 : S3 w (.slice B kk d) kk ys := S3.of_args hkd hk1 hri
      have s2 : S3 w (.slice B' kk' d') kk' ys := S3.of_args hkd' hk2 hri'
      have BZ := bw.drew
      have hc : ∀ W, Below w.heap.size w W → W.cell? ⟨b, off + k * 3, none⟩ = some (.int .i64 f) ∧ W.cell? ⟨b, off + k * 3 + 1, none⟩ = some (.slice B kk d) ∧ W.cell? ⟨b, off + k * 3 + 2, none⟩ = some (.bool dn) ∧ W.cell? ⟨b', off' + k * 3, none⟩ = some (.int .i64 f) ∧ W.cell? ⟨b', off' + k * 3 + 1, none⟩ = some (.slice B' kk' d') ∧ W.cell? ⟨b', off' + k * 3 + 2, none⟩ = some (.bool dn) := fun W h =>
        ⟨(h.cell (p := ⟨b, off + k * 3, none⟩) hbb).trans q0, (h.cell (p := ⟨b, off + k * 3 + 1, none⟩) hbb).trans q1, (h.cell (p := ⟨b, off + k * 3 + 2, none⟩) hbb).trans q2, (h.cell (p := ⟨b', off' + k * 3, none⟩) hbb').trans q0', (h.cell (p := ⟨b', off' + k * 3 + 1, none⟩) hbb').trans q1', (h.cell (p := ⟨b', off' + k * 3 + 2, none⟩) hbb').trans q2'⟩
      obtain ⟨e0, e1, e2, e3, e4, e5⟩ := hc _ bw
      have k0 : (0 : Int) ≤ k := by omega
      have k2 : (k : Int) < n := by omega
      clear hx hx' hsz hri hri'
      go_wp2_with fail
      go_region_held3 (fun W => W.cell? ⟨b, off + k * 3, none⟩ = some (.int .i64 f) ∧ W.cell? ⟨b, off + k * 3 + 1, none⟩ = some (.slice B kk d) ∧ W.cell? ⟨b, off + k * 3 + 2, none⟩ = some (.bool dn) ∧ W.cell? ⟨b', off' + k * 3, none⟩ = some (.int .i64 f) ∧ W.cell? ⟨b', off' + k * 3 + 1, none⟩ = some (.slice B' kk' d') ∧ W.cell? ⟨b', off' + k * 3 + 2, none⟩ = some (.bool dn))
        (first | exact hc _ BZ)
        (first | (go_at_call 35; refine (sameTxn_c (s1.below BZ) (s2.below BZ)).mono ?_; rintro e w2 ⟨rfl, b2⟩; replace BZ := below_step BZ b2))
      go_wp2_with fail
      go_roundw
      case rel => exact ⟨k + 1, by omega, by go_num, BZ⟩
      case measure => simp [intOf]; omega
    · obtain rfl : k = n := by omega
      go_wp2_with fail
      go_ret
      exact ⟨rfl, bw⟩

end Go.Proofs.YtieecneknljmdaaDoor
