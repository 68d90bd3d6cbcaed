/- The program's machine: step. -/
import Derived.Test.YtieecneknljmdaaDoorRunI1
import Derived.Test.YtieecneknljmdaaDoorRunS
import Derived.Test.YtieecneknljmdaaDoorTx2
namespace Go.Proofs.YtieecneknljmdaaDoor
open Go.RowKit

/-- What a machine's row shows at place n0. -/
theorem Mach.look {w : World} {lo gm n c : Nat} {A : Option Addr} {v : Value} {ts : List Tx} {es : List El} (M : Mach w lo gm A n c v ts es) {n0 : Nat} {t : Tx} (hn : n0 < n) (ht : ts[n0]? = some t) :
    ∃ g cg Au cu, v = .slice (some ⟨g, 0, none⟩) n cg ∧ n ≤ cg ∧ lo ≤ g ∧ g < w.heap.size ∧ es[n0]? = some (t.1, (.slice Au t.2.1.length cu, t.2.1.length, flat3 t.2.1), t.2.2) ∧ t.2.1.length ≤ cu ∧
      w.cell? ⟨g, n0 * 3 + 1, none⟩ = some (.slice Au t.2.1.length cu) ∧ w.cell? ⟨g, n0 * 3 + 2, none⟩ = some (.bool t.2.2) ∧ O3 51 w lo (.slice Au t.2.1.length cu) t.2.1.length t.2.1 := by
  obtain ⟨u, he, ho⟩ := M.says.ops M.own ht
  rcases M.own.shape with ⟨_, h0⟩ | ⟨g, cg, rfl, hlg, hgs, hnc, hcm, _⟩
  · omega
  obtain ⟨c0, c1, c2⟩ := M.own.cells he
  obtain ⟨Au, cu, rfl, huc, _, _⟩ := ho.form
  exact ⟨g, cg, Au, cu, rfl, hnc, hlg, hgs, he, huc, c1, c2, ho⟩

set_option maxRecDepth 100000 in
set_option maxHeartbeats 4000000 in
theorem step_full_c {w : World} {lo gm n c : Nat} {A : Option Addr} {v : Value} {ts : List Tx} {es : List El} {ms : Ds} (M : Mach w lo gm A n c v ts es) (hr : RDs w A n ms) {n0 : Nat} {t : Tx} {f : Int} {ys : List T3}
    (hn : n0 < n) (ht : ts[n0]? = some t) (hd : ms[n0]? = some (f, ys)) (hL : t.2.1.length = ys.length) :
    Calls Tryd.prog 64 #[.pointer (some ⟨gm, 0, none⟩), .int .i64 (n0 : Int)] w fun e w' => e = .returned (.tuple #[.agg #[.int .i64 0, .int .i64 0, .int .i64 0], .bool false]) ∧ Below w.heap.size w w' := by
  obtain ⟨g, cg, Au, cu, rfl, hnc, hlg, hgs, he, huc, c1, c2, ho⟩ := M.look hn ht
  obtain ⟨bp, op, f', ys', B', kk', d', rfl, hbp, hx', p0, p1, hkd', hdm', hri'⟩ := hr.at_ hn
  have e2 := hd.symm.trans hx'
  injection e2 with e2
  obtain ⟨rfl, rfl⟩ : f = f' ∧ ys = ys' := by simpa using e2
  have hyl := hri'.len
  obtain rfl : t.2.1.length = kk' := by rw [hL, hyl]
  obtain ⟨m0, m1, mf0, mf1⟩ := M.box.two
  have hgl := M.box.lt
  have n0i : (0 : Int) ≤ n0 := by omega
  have n1i : (n0 : Int) < n := by omega
  obtain ⟨L, hLL⟩ : ∃ L, t.2.1.length = L := ⟨_, rfl⟩
  rw [hLL] at c1 p1
  clear he ho hd hx' e2 hL hyl hLL hri' M huc hkd'
  have B0 : Below w.heap.size w (w.alloc (.cells #[.int .i64 0, .int .i64 0, .int .i64 0] 51)) := (Below.refl _ _).alloc (Nat.le_refl _) _
  obtain ⟨t0, t1, t2⟩ := (Blk.new w 51 #[.int .i64 0, .int .i64 0, .int .i64 0]).three
  go_enter Tryd.func64, Tryd.ntmps64
  go_wp2_with fail
  exact bodyPost_ret (v := .tuple #[.agg #[.int .i64 0, .int .i64 0, .int .i64 0], .bool false]) (by simp [results, Tryd.results64, go_sem]) rfl ⟨rfl, B0⟩

set_option maxRecDepth 100000 in
set_option maxHeartbeats 4000000 in
theorem step_c {w : World} {lo gm n c : Nat} {A : Option Addr} {v : Value} {ts : List Tx} {es : List El} {ms : Ds} (M : Mach w lo gm A n c v ts es) (hr : RDs w A n ms) (hn4 : n ≤ 4) {n0 : Nat} {t : Tx} {f x y : Int} {ys : List T3}
    (hn : n0 < n) (ht : ts[n0]? = some t) (hd : ms[n0]? = some (f, ys)) (hL4 : t.2.1.length < 4) (hs : ys[t.2.1.length]? = some (x, y, 0)) {q : Int} (hq : q = if x = 2 then valOf n0 t.2.1.length else 0) :
    Calls Tryd.prog 64 #[.pointer (some ⟨gm, 0, none⟩), .int .i64 (n0 : Int)] w fun e w' => e = .returned (.tuple #[.agg #[.int .i64 x, .int .i64 y, .int .i64 q], .bool true]) ∧ Below w.heap.size w w' := by
  obtain ⟨g, cg, Au, cu, rfl, hnc, hlg, hgs, he, huc, c1, c2, ho⟩ := M.look hn ht
  obtain ⟨bp, op, f', ys', B', kk', d', rfl, hbp, hx', p0, p1, hkd', hdm', hri'⟩ := hr.at_ hn
  have e2 := hd.symm.trans hx'
  injection e2 with e2
  obtain ⟨rfl, rfl⟩ : f = f' ∧ ys = ys' := by simpa using e2
  have hyl := hri'.len
  have hlt : t.2.1.length < kk' := by rw [← hyl]; exact (List.getElem?_eq_some_iff.1 hs).1
  obtain ⟨bs, os, x', y', z', rfl, hbs, hs', r0, r1, r2⟩ := hri'.at_ hlt
  have e3 := hs.symm.trans hs'
  injection e3 with e3
  obtain ⟨rfl, rfl, rfl⟩ : x = x' ∧ y = y' ∧ 0 = z' := by simpa using e3
  obtain ⟨m0, m1, mf0, mf1⟩ := M.box.two
  have hgl := M.box.lt
  have n0i : (0 : Int) ≤ n0 := by omega
  have n1i : (n0 : Int) < n := by omega
  obtain ⟨L, hLL⟩ : ∃ L, t.2.1.length = L := ⟨_, rfl⟩
  rw [hLL] at c1 hL4 hlt r0 r1 r2 hq
  have Li : (L : Int) < kk' := by omega
  have n4i : (n0 : Int) < 4 := by omega
  have L4i : (L : Int) < 4 := by omega
  have Hq := hide hq
  clear he ho hd hx' e2 hyl hLL hri' M huc hs hs' e3 hq
  have B0 : Below w.heap.size w ((w.alloc (.cells #[.int .i64 0, .int .i64 0, .int .i64 0] 51)).alloc (.cells #[.int .i64 x, .int .i64 y, .int .i64 0] 51)) := ((Below.refl _ _).alloc (Nat.le_refl _) _).alloc (by simp) _
  have K1 := (Blk.new w 51 #[.int .i64 0, .int .i64 0, .int .i64 0]).alloc (.cells #[.int .i64 x, .int .i64 y, .int .i64 0] 51)
  have K2 := Blk.new (w.alloc (.cells #[.int .i64 0, .int .i64 0, .int .i64 0] 51)) 51 #[.int .i64 x, .int .i64 y, .int .i64 0]
  simp only [World.size_alloc] at K2
  by_cases hx2 : x = 2
  · subst hx2
    have hqv : q = valOf n0 L := by rw [Hq.out]; simp
    have HQ := hide hqv
    clear hqv
    go_enter Tryd.func64, Tryd.ntmps64
    go_wp2_with fail
    refine (writes_c).mono ?_
    rintro e w2 ⟨rfl, b2⟩
    rw [show ((2 : Int) == 2) = true by rfl]
    have B2 := below_step B0 b2
    replace K1 := K1.belowAll b2
    replace K2 := K2.belowAll b2
    obtain ⟨k0, k1, k2⟩ := K1.three
    obtain ⟨l0, l1, l2⟩ := K2.three
    have kf0 := K1.frozen 0; have kf1 := K1.frozen 1; have kf2 := K1.frozen 2; have lf2 := K2.frozen 2
    have hlt2 := K2.lt
    go_wp2_with fail
    obtain ⟨t0, t1, t2⟩ := ((((K1.far (p := ⟨w.heap.size + 1, 2, none⟩) (by simp) (.int .i64 (10 * ((n0 : Int) + 1) + L + 1))).set_ 0 (.int .i64 2)).set_ 1 (.int .i64 y)).set_ 2 (.int .i64 (10 * ((n0 : Int) + 1) + L + 1))).three
    refine bodyPost_ret (v := .tuple #[.agg #[.int .i64 2, .int .i64 y, .int .i64 (10 * ((n0 : Int) + 1) + L + 1)], .bool true]) (by simp [results, Tryd.results64, go_sem, t0, t1, t2]) rfl ⟨by rw [HQ.out]; rfl, ?_⟩
    exact (((B2.setCell (p := ⟨w.heap.size + 1, 2, none⟩) (by simp) _).setCell (p := ⟨w.heap.size, 0, none⟩) (Nat.le_refl _) _).setCell (p := ⟨w.heap.size, 1, none⟩) (Nat.le_refl _) _).setCell (p := ⟨w.heap.size, 2, none⟩) (Nat.le_refl _) _
  · have hqv : q = 0 := by rw [Hq.out]; simp [hx2]
    have HQ := hide hqv
    have hxb : (x == 2) = false := by simpa using hx2
    have HXB := hide hxb
    clear hqv hxb
    go_enter Tryd.func64, Tryd.ntmps64
    go_wp2_with fail
    refine (writes_c).mono ?_
    rintro e w2 ⟨rfl, b2⟩
    rw [HXB.out]
    have B2 := below_step B0 b2
    replace K1 := K1.belowAll b2
    replace K2 := K2.belowAll b2
    obtain ⟨k0, k1, k2⟩ := K1.three
    obtain ⟨l0, l1, l2⟩ := K2.three
    have kf0 := K1.frozen 0; have kf1 := K1.frozen 1; have kf2 := K1.frozen 2
    go_wp2_with fail
    obtain ⟨t0, t1, t2⟩ := (((K1.set_ 0 (.int .i64 x)).set_ 1 (.int .i64 y)).set_ 2 (.int .i64 0)).three
    refine bodyPost_ret (v := .tuple #[.agg #[.int .i64 x, .int .i64 y, .int .i64 0], .bool true]) (by simp [results, Tryd.results64, go_sem, t0, t1, t2]) rfl ⟨by rw [HQ.out], ?_⟩
    exact ((B2.setCell (p := ⟨w.heap.size, 0, none⟩) (Nat.le_refl _) _).setCell (p := ⟨w.heap.size, 1, none⟩) (Nat.le_refl _) _).setCell (p := ⟨w.heap.size, 2, none⟩) (Nat.le_refl _) _

end Go.Proofs.YtieecneknljmdaaDoor
