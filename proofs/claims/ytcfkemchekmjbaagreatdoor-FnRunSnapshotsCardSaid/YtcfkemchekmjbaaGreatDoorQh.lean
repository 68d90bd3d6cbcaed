/- Merged (what the law reaches): Tx2, SameO, SameH, RunI2. -/
import Derived.Test.YtcfkemchekmjbaaGreatDoorQg
import Derived.Deep.RegionHeld3
import Derived.BigQuiet
import Derived.Laws.StructEq
namespace Go.Proofs.YtcfkemchekmjbaaGreatDoor
open Go.RowKit
theorem Blk.three {w : World} {g : Nat} {t : TypeId} {a b c : Value} (h : Blk w g t #[a, b, c]) : w.cell? ⟨g, 0, none⟩ = some a ∧ w.cell? ⟨g, 1, none⟩ = some b ∧ w.cell? ⟨g, 2, none⟩ = some c := ⟨h.cell 0, h.cell 1, h.cell 2⟩
def m3 (x : Int) : Bool := decide (x % 3 = 0)
theorem set_set {α : Type} (l : List α) (j : Nat) (a b : α) : (l.set j a).set j b = l.set j b := by simp
end Go.Proofs.YtcfkemchekmjbaaGreatDoor

namespace Go.Proofs.YtcfkemchekmjbaaGreatDoor
open Go.RowKit
theorem fieldsOp : Tryz.prog.underlying 61 = some (.struct (Tryz.prog.fieldsOf 61)) := by kernel_rfl
theorem heldOp : Tryz.prog.stoodInHeld 61 = false := by kernel_rfl
theorem equalInOp (w : World) (a b c a' b' c' : Int) : (Op.equalIn 10000 61 (.agg #[.int .i64 a, .int .i64 b, .int .i64 c]) (.agg #[.int .i64 a', .int .i64 b', .int .i64 c'])).run Tryz.prog w = .ok (a == a' && (b == b' && c == c')) w := by
  have z3 := Tryz.sizeOf3
  have a3 := Tryz.isAgg3
  have u3 := Tryz.underlying3
  rw [show (10000 : Nat) = 9999 + 1 from rfl, run_equalIn_agg w 9999 61 _ _ fieldsOp heldOp]
  simp only [Program.fieldsOf, Tryz.underlying61]
  go_simp
  by_cases h1 : a = a' <;> by_cases h2 : b = b' <;> by_cases h3 : c = c' <;> simp [h1, h2, h3]
theorem eqOpL (w : World) (a b c a' b' c' : Int) : (binOp .eql 61 (.agg #[.int .i64 a, .int .i64 b, .int .i64 c]) (.agg #[.int .i64 a', .int .i64 b', .int .i64 c'])).run Tryz.prog w = .ok (.bool (a == a' && (b == b' && c == c'))) w := by
  rw [run_eql_struct, equalInOp]; rfl
theorem neqOpL (w : World) (a b c a' b' c' : Int) : (binOp .neq 61 (.agg #[.int .i64 a, .int .i64 b, .int .i64 c]) (.agg #[.int .i64 a', .int .i64 b', .int .i64 c'])).run Tryz.prog w = .ok (.bool (!(a == a' && (b == b' && c == c')))) w := by
  rw [run_neq_struct, equalInOp]; rfl
theorem neqOpL_same (w : World) (a b c : Int) : (binOp .neq 61 (.agg #[.int .i64 a, .int .i64 b, .int .i64 c]) (.agg #[.int .i64 a, .int .i64 b, .int .i64 c])).run Tryz.prog w = .ok (.bool false) w := by rw [neqOpL]; simp
set_option maxHeartbeats 2000000 in
theorem sameOps_c {u v : Value} {n m : Nat} {ts : List T3} {w : World} (hu : S3 w u n ts) (hv : S3 w v m ts) :
    Calls Tryz.prog 96 #[u, v] w fun e w' => e = .returned (.bool true) ∧ Below w.heap.size w w' := by
  obtain ⟨A, c, rfl, _, hn, ha⟩ := hu
  obtain ⟨B, d, rfl, _, hm, hb⟩ := hv
  obtain rfl : n = m := ha.len.symm.trans hb.len
  have hq := fun w x y z => neqOpL_same w x y z
  go_enter Tryz.func96, Tryz.ntmps96
  go_wp2_with fail
  go_loopw [5] (fun i wr => ∃ k : Nat, k ≤ n ∧ i = .int .i64 k ∧ Below w.heap.size w wr) (fun i _ => n - (intOf i).toNat)
  case atStart => exact ⟨0, Nat.zero_le _, rfl, Below.refl _ _⟩
  case round =>
    obtain ⟨k, hk, rfl, hbel⟩ := hrel
    by_cases hlt : k < n
    · obtain ⟨b1, o1, x, y, z, rfl, hb1, hx, p0, p1, p2⟩ := ha.at_ hlt
      obtain ⟨b2, o2, x', y', z', rfl, hb2, hx', q0, q1, q2⟩ := hb.at_ hlt
      have e := hx.symm.trans hx'
      injection e with e
      obtain ⟨rfl, rfl, rfl⟩ : x = x' ∧ y = y' ∧ z = z' := by simpa using e
      have c0 := (hbel.cell (p := ⟨b1, o1 + k * 3, none⟩) hb1).trans p0
      have c1 := (hbel.cell (p := ⟨b1, o1 + k * 3 + 1, none⟩) hb1).trans p1
      have c2 := (hbel.cell (p := ⟨b1, o1 + k * 3 + 2, none⟩) hb1).trans p2
      have d0 := (hbel.cell (p := ⟨b2, o2 + k * 3, none⟩) hb2).trans q0
      have d1 := (hbel.cell (p := ⟨b2, o2 + k * 3 + 1, none⟩) hb2).trans q1
      have d2 := (hbel.cell (p := ⟨b2, o2 + k * 3 + 2, none⟩) hb2).trans q2
      have k0 : (0 : Int) ≤ k := by omega
      have k1 : (k : Int) < n := by omega
      clear hx hx' e p0 p1 p2 q0 q1 q2
      go_wp2_with fail
      go_region
      all_goals
        go_wp2_with fail
        go_roundw
      case rel => exact ⟨k + 1, by omega, by go_num, hbel.drew⟩
      case measure => simp [intOf]; omega
    · obtain rfl : k = n := by omega
      go_wp2_with fail
      go_ret
      exact ⟨rfl, hbel⟩
end Go.Proofs.YtcfkemchekmjbaaGreatDoor

namespace Go.Proofs.YtcfkemchekmjbaaGreatDoor
open Go.RowKit
set_option maxHeartbeats 1000000 in
theorem sameTxn_c {v v' : Value} {m m' : Nat} {ys : List T3} {f : Int} {d : Bool} {w : World} (hv : S3 w v m ys) (hv' : S3 w v' m' ys) :
    Calls Tryz.prog 40 #[.agg #[.int .i64 f, v, .bool d], .agg #[.int .i64 f, v', .bool d]] w fun e w' => e = .returned (.bool true) ∧ Below w.heap.size w w' := by
  obtain ⟨B, c, rfl⟩ := hv.shape
  obtain ⟨B', c', rfl⟩ := hv'.shape
  have B0 : Below w.heap.size w ((w.alloc (.cells #[.int .i64 f, .slice B m c, .bool d] 66)).alloc (.cells #[.int .i64 f, .slice B' m' c', .bool d] 66)) := ((Below.refl _ _).alloc (Nat.le_refl _) _).alloc (by simp) _
  have K1 := (Blk.new w 66 #[.int .i64 f, .slice B m c, .bool d]).alloc (.cells #[.int .i64 f, .slice B' m' c', .bool d] 66)
  have K2 := Blk.new (w.alloc (.cells #[.int .i64 f, .slice B m c, .bool d] 66)) 66 #[.int .i64 f, .slice B' m' c', .bool d]
  simp only [World.size_alloc] at K2
  have hdd : (f == f) = true := by simp
  have hde : (d == d) = true := by simp
  obtain ⟨p0, p1, p2⟩ := K1.three
  obtain ⟨q0, q1, q2⟩ := K2.three
  go_enter Tryz.func40, Tryz.ntmps40
  go_wp2_with fail
  refine (sameOps_c (hv.below B0) (hv'.below B0)).mono ?_
  rintro e w2 ⟨rfl, b2⟩
  have B2 := below_step B0 b2
  go_wp2_with fail
  go_ret
  exact ⟨rfl, B2⟩
set_option maxHeartbeats 8000000 in
theorem sameHistory_c {u u' : Value} {n n' : Nat} {ts : List Tx} {w : World} (hr : STs w u n ts) (hr' : STs w u' n' ts) (hsm : SmallT ts) :
    Calls Tryz.prog 8 #[u, u'] w fun e w' => e = .returned (.bool true) ∧ Below w.heap.size w w' := by
  obtain ⟨A, c, rfl, _, hn, hr⟩ := hr
  obtain ⟨A', c', rfl, _, _, hr'⟩ := hr'
  have hl := hide hr.1
  obtain rfl : n = n' := hr.1.symm.trans hr'.1
  go_enter Tryz.func8, Tryz.ntmps8
  go_wp2_with fail
  go_loopw [5] (fun i wr => ∃ k : Nat, k ≤ n ∧ i = .int .i64 k ∧ Below w.heap.size w wr) (fun i _ => n - (intOf i).toNat)
  case atStart => exact ⟨0, Nat.zero_le _, rfl, Below.refl _ _⟩
  case round =>
    obtain ⟨k, hk, rfl, bw⟩ := hrel
    by_cases hkn : k < n
    · obtain ⟨b, off, f, ys, dn, B, kk, d, rfl, hbb, hx, q0, q1, q2, hkd, hdm, hri⟩ := hr.at_ hkn
      obtain ⟨b', off', f', ys', dn', B', kk', d', rfl, hbb', hx', q0', q1', q2', hkd', hdm', hri'⟩ := hr'.at_ hkn
      obtain ⟨rfl, rfl, rfl⟩ : f = f' ∧ ys = ys' ∧ dn = dn' := by
        have := hx.symm.trans hx'
        simpa using this
      have hsz := hsm _ (List.mem_of_getElem? hx)
      have hk1 : kk ≤ 1048576 := by have := hri.len; dsimp only at hsz; omega
      have hk2 : kk' ≤ 1048576 := by have := hri'.len; dsimp only at hsz; omega
      have s1 : S3 w (.slice B kk d) kk ys := S3.of_args hkd hk1 hri
      have s2 : S3 w (.slice B' kk' d') kk' ys := S3.of_args hkd' hk2 hri'
      have BZ := bw.drew
      have hc : ∀ W, Below w.heap.size w W → W.cell? ⟨b, off + k * 3, none⟩ = some (.int .i64 f) ∧ W.cell? ⟨b, off + k * 3 + 1, none⟩ = some (.slice B kk d) ∧ W.cell? ⟨b, off + k * 3 + 2, none⟩ = some (.bool dn) ∧ W.cell? ⟨b', off' + k * 3, none⟩ = some (.int .i64 f) ∧ W.cell? ⟨b', off' + k * 3 + 1, none⟩ = some (.slice B' kk' d') ∧ W.cell? ⟨b', off' + k * 3 + 2, none⟩ = some (.bool dn) := fun W h =>
        ⟨(h.cell (p := ⟨b, off + k * 3, none⟩) hbb).trans q0, (h.cell (p := ⟨b, off + k * 3 + 1, none⟩) hbb).trans q1, (h.cell (p := ⟨b, off + k * 3 + 2, none⟩) hbb).trans q2, (h.cell (p := ⟨b', off' + k * 3, none⟩) hbb').trans q0', (h.cell (p := ⟨b', off' + k * 3 + 1, none⟩) hbb').trans q1', (h.cell (p := ⟨b', off' + k * 3 + 2, none⟩) hbb').trans q2'⟩
      obtain ⟨e0, e1, e2, e3, e4, e5⟩ := hc _ bw
      have k0 : (0 : Int) ≤ k := by omega
      have k2 : (k : Int) < n := by omega
      clear hx hx' hsz hri hri'
      go_wp2_with fail
      go_region_held3 (fun W => W.cell? ⟨b, off + k * 3, none⟩ = some (.int .i64 f) ∧ W.cell? ⟨b, off + k * 3 + 1, none⟩ = some (.slice B kk d) ∧ W.cell? ⟨b, off + k * 3 + 2, none⟩ = some (.bool dn) ∧ W.cell? ⟨b', off' + k * 3, none⟩ = some (.int .i64 f) ∧ W.cell? ⟨b', off' + k * 3 + 1, none⟩ = some (.slice B' kk' d') ∧ W.cell? ⟨b', off' + k * 3 + 2, none⟩ = some (.bool dn))
        (first | exact hc _ BZ)
        (first | (go_at_call 40; refine (sameTxn_c (s1.below BZ) (s2.below BZ)).mono ?_; rintro e w2 ⟨rfl, b2⟩; replace BZ := below_step BZ b2))
      go_wp2_with fail
      go_roundw
      case rel => exact ⟨k + 1, by omega, by go_num, BZ⟩
      case measure => simp [intOf]; omega
    · obtain rfl : k = n := by omega
      go_wp2_with fail
      go_ret
      exact ⟨rfl, bw⟩
end Go.Proofs.YtcfkemchekmjbaaGreatDoor

namespace Go.Proofs.YtcfkemchekmjbaaGreatDoor
open Go.RowKit
/-- What a machine's row shows at place n0. -/
theorem Mach.look {w : World} {lo gm n c : Nat} {A : Option Addr} {v : Value} {ts : List Tx} {es : List El} (M : Mach w lo gm A n c v ts es) {n0 : Nat} {t : Tx} (hn : n0 < n) (ht : ts[n0]? = some t) :
    ∃ g cg Au cu, v = .slice (some ⟨g, 0, none⟩) n cg ∧ n ≤ cg ∧ lo ≤ g ∧ g < w.heap.size ∧ es[n0]? = some (t.1, (.slice Au t.2.1.length cu, t.2.1.length, flat3 t.2.1), t.2.2) ∧ t.2.1.length ≤ cu ∧
      w.cell? ⟨g, n0 * 3 + 1, none⟩ = some (.slice Au t.2.1.length cu) ∧ w.cell? ⟨g, n0 * 3 + 2, none⟩ = some (.bool t.2.2) ∧ O3 61 w lo (.slice Au t.2.1.length cu) t.2.1.length t.2.1 := by
  obtain ⟨u, he, ho⟩ := M.says.ops M.own ht
  rcases M.own.shape with ⟨_, h0⟩ | ⟨g, cg, rfl, hlg, hgs, hnc, hcm, _⟩
  · omega
  obtain ⟨c0, c1, c2⟩ := M.own.cells he
  obtain ⟨Au, cu, rfl, huc, _, _⟩ := ho.form
  exact ⟨g, cg, Au, cu, rfl, hnc, hlg, hgs, he, huc, c1, c2, ho⟩
set_option maxRecDepth 100000 in
set_option maxHeartbeats 4000000 in
theorem step_full_c {w : World} {lo gm n c : Nat} {A : Option Addr} {v : Value} {ts : List Tx} {es : List El} {ms : Ds} (M : Mach w lo gm A n c v ts es) (hr : RDs w A n ms) {n0 : Nat} {t : Tx} {f : Int} {ys : List T3}
    (hn : n0 < n) (ht : ts[n0]? = some t) (hd : ms[n0]? = some (f, ys)) (hL : t.2.1.length = ys.length) :
    Calls Tryz.prog 34 #[.pointer (some ⟨gm, 0, none⟩), .int .i64 (n0 : Int)] w fun e w' => e = .returned (.tuple #[.agg #[.int .i64 0, .int .i64 0, .int .i64 0], .bool false]) ∧ Below w.heap.size w w' := by
  obtain ⟨g, cg, Au, cu, rfl, hnc, hlg, hgs, he, huc, c1, c2, ho⟩ := M.look hn ht
  obtain ⟨bp, op, f', ys', B', kk', d', rfl, hbp, hx', p0, p1, hkd', hdm', hri'⟩ := hr.at_ hn
  have e2 := hd.symm.trans hx'
  injection e2 with e2
  obtain ⟨rfl, rfl⟩ : f = f' ∧ ys = ys' := by simpa using e2
  have hyl := hri'.len
  obtain rfl : t.2.1.length = kk' := by rw [hL, hyl]
  obtain ⟨m0, m1, mf0, mf1⟩ := M.box.two
  have hgl := M.box.lt
  have n0i : (0 : Int) ≤ n0 := by omega
  have n1i : (n0 : Int) < n := by omega
  obtain ⟨L, hLL⟩ : ∃ L, t.2.1.length = L := ⟨_, rfl⟩
  rw [hLL] at c1 p1
  clear he ho hd hx' e2 hL hyl hLL hri' M huc hkd'
  have B0 : Below w.heap.size w (w.alloc (.cells #[.int .i64 0, .int .i64 0, .int .i64 0] 61)) := (Below.refl _ _).alloc (Nat.le_refl _) _
  obtain ⟨t0, t1, t2⟩ := (Blk.new w 61 #[.int .i64 0, .int .i64 0, .int .i64 0]).three
  go_enter Tryz.func34, Tryz.ntmps34
  go_wp2_with fail
  exact bodyPost_ret (v := .tuple #[.agg #[.int .i64 0, .int .i64 0, .int .i64 0], .bool false]) (by simp [results, Tryz.results34, go_sem]) rfl ⟨rfl, B0⟩
set_option maxRecDepth 100000 in
set_option maxHeartbeats 4000000 in
theorem step_c {w : World} {lo gm n c : Nat} {A : Option Addr} {v : Value} {ts : List Tx} {es : List El} {ms : Ds} (M : Mach w lo gm A n c v ts es) (hr : RDs w A n ms) (hn4 : n ≤ 4) {n0 : Nat} {t : Tx} {f x y : Int} {ys : List T3}
    (hn : n0 < n) (ht : ts[n0]? = some t) (hd : ms[n0]? = some (f, ys)) (hL4 : t.2.1.length < 4) (hs : ys[t.2.1.length]? = some (x, y, 0)) {q : Int} (hq : q = if x = 2 then valOf n0 t.2.1.length else 0) :
    Calls Tryz.prog 34 #[.pointer (some ⟨gm, 0, none⟩), .int .i64 (n0 : Int)] w fun e w' => e = .returned (.tuple #[.agg #[.int .i64 x, .int .i64 y, .int .i64 q], .bool true]) ∧ Below w.heap.size w w' := by
  obtain ⟨g, cg, Au, cu, rfl, hnc, hlg, hgs, he, huc, c1, c2, ho⟩ := M.look hn ht
  obtain ⟨bp, op, f', ys', B', kk', d', rfl, hbp, hx', p0, p1, hkd', hdm', hri'⟩ := hr.at_ hn
  have e2 := hd.symm.trans hx'
  injection e2 with e2
  obtain ⟨rfl, rfl⟩ : f = f' ∧ ys = ys' := by simpa using e2
  have hyl := hri'.len
  have hlt : t.2.1.length < kk' := by rw [← hyl]; exact (List.getElem?_eq_some_iff.1 hs).1
  obtain ⟨bs, os, x', y', z', rfl, hbs, hs', r0, r1, r2⟩ := hri'.at_ hlt
  have e3 := hs.symm.trans hs'
  injection e3 with e3
  obtain ⟨rfl, rfl, rfl⟩ : x = x' ∧ y = y' ∧ 0 = z' := by simpa using e3
  obtain ⟨m0, m1, mf0, mf1⟩ := M.box.two
  have hgl := M.box.lt
  have n0i : (0 : Int) ≤ n0 := by omega
  have n1i : (n0 : Int) < n := by omega
  obtain ⟨L, hLL⟩ : ∃ L, t.2.1.length = L := ⟨_, rfl⟩
  rw [hLL] at c1 hL4 hlt r0 r1 r2 hq
  have Li : (L : Int) < kk' := by omega
  have n4i : (n0 : Int) < 4 := by omega
  have L4i : (L : Int) < 4 := by omega
  have Hq := hide hq
  clear he ho hd hx' e2 hyl hLL hri' M huc hs hs' e3 hq
  have B0 : Below w.heap.size w ((w.alloc (.cells #[.int .i64 0, .int .i64 0, .int .i64 0] 61)).alloc (.cells #[.int .i64 x, .int .i64 y, .int .i64 0] 61)) := ((Below.refl _ _).alloc (Nat.le_refl _) _).alloc (by simp) _
  have K1 := (Blk.new w 61 #[.int .i64 0, .int .i64 0, .int .i64 0]).alloc (.cells #[.int .i64 x, .int .i64 y, .int .i64 0] 61)
  have K2 := Blk.new (w.alloc (.cells #[.int .i64 0, .int .i64 0, .int .i64 0] 61)) 61 #[.int .i64 x, .int .i64 y, .int .i64 0]
  simp only [World.size_alloc] at K2
  by_cases hx2 : x = 2
  · subst hx2
    have hqv : q = valOf n0 L := by rw [Hq.out]; simp
    have HQ := hide hqv
    clear hqv
    go_enter Tryz.func34, Tryz.ntmps34
    go_wp2_with fail
    refine (writes_c).mono ?_
    rintro e w2 ⟨rfl, b2⟩
    rw [show ((2 : Int) == 2) = true by rfl]
    have B2 := below_step B0 b2
    replace K1 := K1.belowAll b2
    replace K2 := K2.belowAll b2
    obtain ⟨k0, k1, k2⟩ := K1.three
    obtain ⟨l0, l1, l2⟩ := K2.three
    have kf0 := K1.frozen 0; have kf1 := K1.frozen 1; have kf2 := K1.frozen 2; have lf2 := K2.frozen 2
    have hlt2 := K2.lt
    go_wp2_with fail
    obtain ⟨t0, t1, t2⟩ := ((((K1.far (p := ⟨w.heap.size + 1, 2, none⟩) (by simp) (.int .i64 (10 * ((n0 : Int) + 1) + L + 1))).set_ 0 (.int .i64 2)).set_ 1 (.int .i64 y)).set_ 2 (.int .i64 (10 * ((n0 : Int) + 1) + L + 1))).three
    refine bodyPost_ret (v := .tuple #[.agg #[.int .i64 2, .int .i64 y, .int .i64 (10 * ((n0 : Int) + 1) + L + 1)], .bool true]) (by simp [results, Tryz.results34, go_sem, t0, t1, t2]) rfl ⟨by rw [HQ.out]; rfl, ?_⟩
    exact (((B2.setCell (p := ⟨w.heap.size + 1, 2, none⟩) (by simp) _).setCell (p := ⟨w.heap.size, 0, none⟩) (Nat.le_refl _) _).setCell (p := ⟨w.heap.size, 1, none⟩) (Nat.le_refl _) _).setCell (p := ⟨w.heap.size, 2, none⟩) (Nat.le_refl _) _
  · have hqv : q = 0 := by rw [Hq.out]; simp [hx2]
    have HQ := hide hqv
    have hxb : (x == 2) = false := by simpa using hx2
    have HXB := hide hxb
    clear hqv hxb
    go_enter Tryz.func34, Tryz.ntmps34
    go_wp2_with fail
    refine (writes_c).mono ?_
    rintro e w2 ⟨rfl, b2⟩
    rw [HXB.out]
    have B2 := below_step B0 b2
    replace K1 := K1.belowAll b2
    replace K2 := K2.belowAll b2
    obtain ⟨k0, k1, k2⟩ := K1.three
    obtain ⟨l0, l1, l2⟩ := K2.three
    have kf0 := K1.frozen 0; have kf1 := K1.frozen 1; have kf2 := K1.frozen 2
    go_wp2_with fail
    obtain ⟨t0, t1, t2⟩ := (((K1.set_ 0 (.int .i64 x)).set_ 1 (.int .i64 y)).set_ 2 (.int .i64 0)).three
    refine bodyPost_ret (v := .tuple #[.agg #[.int .i64 x, .int .i64 y, .int .i64 0], .bool true]) (by simp [results, Tryz.results34, go_sem, t0, t1, t2]) rfl ⟨by rw [HQ.out], ?_⟩
    exact ((B2.setCell (p := ⟨w.heap.size, 0, none⟩) (Nat.le_refl _) _).setCell (p := ⟨w.heap.size, 1, none⟩) (Nat.le_refl _) _).setCell (p := ⟨w.heap.size, 2, none⟩) (Nat.le_refl _) _
end Go.Proofs.YtcfkemchekmjbaaGreatDoor
