/- Merged (what the law reaches): RunS, Tx2, RunI2, Ow, Tw, RunI4. -/
import Derived.Test.YtcfkemchekmjbaaGreatDoorVc
import Derived.Deep.RegionLaw
import Derived.Deep.RegionWith
import Derived.Deep.RegionHeld3
import Derived.BigRegion
namespace Go.Proofs.YtcfkemchekmjbaaGreatDoor
open Go.RowKit
theorem SaysT.ops {es : List El} {ts : List Tx} (h : SaysT es ts) {lo n : Nat} {v : Value} {w : World} (D : OT w lo v n es) {k : Nat} {t : Tx} (hk : ts[k]? = some t) :
    ∃ u, es[k]? = some (t.1, (u, t.2.1.length, flat3 t.2.1), t.2.2) ∧ O3 61 w lo u t.2.1.length t.2.1 := by
  obtain ⟨e, he, e1, e2, e3⟩ := h.at_ hk
  have ho := D.own k e he
  obtain ⟨f, ⟨u, m, xs⟩, d⟩ := e
  dsimp only at e1 e2 e3 ho
  subst e1; subst e2; subst e3
  have hl := ho.len
  rw [flat3_len] at hl
  obtain rfl : t.2.1.length = m := by omega
  exact ⟨u, he, ho⟩
theorem SaysT.set_ {es : List El} {ts : List Tx} (h : SaysT es ts) (k : Nat) (t : Tx) (u : Value) (m : Nat) : SaysT (es.set k (t.1, (u, m, flat3 t.2.1), t.2.2)) (ts.set k t) := by
  unfold SaysT at *
  rw [List.map_set, List.map_set, h]
theorem OI.set_ne {w : World} {B n : Nat} {v : Value} {xs : List Int} (h : OI w B v n xs) {p : Addr} (hp : v.ownBlock ≠ some p.block) (u : Value) : OI (w.setCell p u) B v n xs :=
  h.grown (grown_setCell (World.grownBy.refl w (some p.block)) (.inl rfl) u) (.inr hp)
/-- The state of a run in memory: the history, the store. -/
structure AtRun (w : World) (lo : Nat) (v : Value) (gs n : Nat) (S : RunSt) (es : List El) : Prop where
  own : OT w lo v n es
  says : SaysT es S.1
  store : OI w lo (.slice (some ⟨gs, 0, none⟩) 3 3) 3 S.2
  apart : v.ownBlock ≠ some gs
  inner : ∀ (j : Nat) (e : El), es[j]? = some e → e.2.1.1.ownBlock ≠ some gs
theorem AtRun.below {w w' : World} {lo gs n : Nat} {v : Value} {S : RunSt} {es : List El} (h : AtRun w lo v gs n S es) (hb : Below w.heap.size w w') : AtRun w' lo v gs n S es :=
  ⟨h.own.below hb, h.says, h.store.below hb, h.apart, h.inner⟩
theorem AtRun.alloc {w : World} {lo gs n : Nat} {v : Value} {S : RunSt} {es : List El} (h : AtRun w lo v gs n S es) (o : Obj) : AtRun (w.alloc o) lo v gs n S es := h.below ((Below.refl _ _).alloc (Nat.le_refl _) _)
theorem AtRun.drew {w : World} {lo gs n : Nat} {v : Value} {S : RunSt} {es : List El} (h : AtRun w lo v gs n S es) : AtRun w.drew lo v gs n S es := h.below (Below.refl _ _).drew
/-- A value put into the store. -/
theorem AtRun.put {w : World} {lo gs n : Nat} {v : Value} {S : RunSt} {es : List El} (h : AtRun w lo v gs n S es) (i : Nat) (x : Int) : AtRun (w.setCell ⟨gs, i, none⟩ (.int .i64 x)) lo v gs n (S.1, S.2.set i x) es :=
  ⟨h.own.chg (Chg.setCell (S := fun k => k = gs) (p := ⟨gs, i, none⟩) rfl _) (fun k hk e => by
      subst e
      rcases hk with hk | ⟨j, e, hj, hk⟩
      · exact h.apart hk
      · exact h.inner j e hj hk), h.says, h.store.store i x, h.apart, h.inner⟩
/-- One more operation, and done or not. -/
theorem AtRun.add {w w' : World} {lo gs n g c : Nat} {S : RunSt} {es : List El} (h : AtRun w lo (.slice (some ⟨g, 0, none⟩) n c) gs n S es) {j : Nat} {t : Tx} {u : Value} (he : es[j]? = some (t.1, (u, t.2.1.length, flat3 t.2.1), t.2.2))
    (hg : w.grownBy w' u.ownBlock) {u' : Value} {o : T3} {L : Nat} (ho : O3 61 w' lo u' L (t.2.1 ++ [o])) (hq : u'.ownBlock = u.ownBlock ∨ u'.ownBlock = some w.heap.size) (d : Bool) :
    AtRun ((w'.setCell ⟨g, j * 3 + 1, none⟩ u').setCell ⟨g, j * 3 + 2, none⟩ (.bool d)) lo (.slice (some ⟨g, 0, none⟩) n c) gs n (S.1.set j (t.1, t.2.1 ++ [o], d), S.2) (es.set j (t.1, (u', L, flat3 (t.2.1 ++ [o])), d)) := by
  have hjl := (List.getElem?_eq_some_iff.1 he).1
  have hgs : gs < w.heap.size := (World.ownsRow.lt h.store.1 gs rfl).2
  have hu : u.ownBlock ≠ some gs := h.inner j _ he
  have D1 := h.own.append he hg (q := (u', L, flat3 (t.2.1 ++ [o]))) ho.of (hq.imp id (fun e k hk => by rw [e] at hk; injection hk with hk; omega))
  have D2 := D1.set2 (List.getElem?_set_self hjl) d
  rw [List.set_set] at D2
  refine ⟨D2, ?_, ?_, h.apart, fun i e hi => ?_⟩
  · exact h.says.set_ j (t.1, t.2.1 ++ [o], d) u' L
  · have hne : gs ≠ g := fun e => h.apart (by rw [e]; rfl)
    exact ((h.store.grown hg (.inr (fun e => hu e.symm))).set_ne (p := ⟨g, j * 3 + 1, none⟩) (fun e => hne (by injection e)) _).set_ne (p := ⟨g, j * 3 + 2, none⟩) (fun e => hne (by injection e)) _
  · by_cases e1 : j = i
    · subst e1
      rw [List.getElem?_set_self hjl] at hi
      injection hi with hi; subst hi
      rcases hq with hq | hq
      · rw [hq]; exact hu
      · rw [hq]; intro e; injection e with e; omega
    · rw [List.getElem?_set_ne e1] at hi
      exact h.inner i e hi
end Go.Proofs.YtcfkemchekmjbaaGreatDoor

namespace Go.Proofs.YtcfkemchekmjbaaGreatDoor
open Go.RowKit
theorem Blk.three {w : World} {g : Nat} {t : TypeId} {a b c : Value} (h : Blk w g t #[a, b, c]) : w.cell? ⟨g, 0, none⟩ = some a ∧ w.cell? ⟨g, 1, none⟩ = some b ∧ w.cell? ⟨g, 2, none⟩ = some c := ⟨h.cell 0, h.cell 1, h.cell 2⟩
set_option maxHeartbeats 1000000 in
theorem eqTxn_c {v v' : Value} {m m' : Nat} {ys : List T3} {f : Int} {d : Bool} {w : World} (hv : S3 w v m ys) (hv' : S3 w v' m' ys) :
    Calls Tryz.prog 79 #[.agg #[.int .i64 f, v, .bool d], .agg #[.int .i64 f, v', .bool d]] w fun e w' => e = .returned (.bool true) ∧ Below w.heap.size w w' := by
  obtain ⟨B, c, rfl⟩ := hv.shape
  obtain ⟨B', c', rfl⟩ := hv'.shape
  have B0 : Below w.heap.size w ((w.alloc (.cells #[.int .i64 f, .slice B m c, .bool d] 66)).alloc (.cells #[.int .i64 f, .slice B' m' c', .bool d] 66)) := ((Below.refl _ _).alloc (Nat.le_refl _) _).alloc (by simp) _
  have K1 := (Blk.new w 66 #[.int .i64 f, .slice B m c, .bool d]).alloc (.cells #[.int .i64 f, .slice B' m' c', .bool d] 66)
  have K2 := Blk.new (w.alloc (.cells #[.int .i64 f, .slice B m c, .bool d] 66)) 66 #[.int .i64 f, .slice B' m' c', .bool d]
  simp only [World.size_alloc] at K2
  have hdd : (d != d) = false := by simp
  go_enter Tryz.func79, Tryz.ntmps79
  go_wp2_with fail
  refine (eqOpS_c (hv.below B0) (hv'.below B0)).mono ?_
  rintro e w2 ⟨rfl, b2⟩
  rw [show decide (ys = ys) = true by simp]
  have B2 := below_step B0 b2
  replace K1 := K1.belowAll b2
  replace K2 := K2.belowAll b2
  obtain ⟨p0, p1, p2⟩ := K1.three
  obtain ⟨q0, q1, q2⟩ := K2.three
  go_wp2_with fail
  go_ret
  exact ⟨rfl, B2⟩
set_option maxHeartbeats 8000000 in
theorem eqTxnS_c {u u' : Value} {n n' : Nat} {ts : List Tx} {w : World} (hr : STs w u n ts) (hr' : STs w u' n' ts) (hsm : SmallT ts) :
    Calls Tryz.prog 22 #[u, u'] w fun e w' => e = .returned (.bool true) ∧ Below w.heap.size w w' := by
  obtain ⟨A, c, rfl, _, hn, hr⟩ := hr
  obtain ⟨A', c', rfl, _, _, hr'⟩ := hr'
  have hl := hide hr.1
  obtain rfl : n = n' := hr.1.symm.trans hr'.1
  go_enter Tryz.func22, Tryz.ntmps22
  go_wp2_with fail
  go_loopw [5] (fun i wr => ∃ k : Nat, k ≤ n ∧ i = .int .i64 k ∧ Below w.heap.size w wr) (fun i _ => n - (intOf i).toNat)
  case atStart => exact ⟨0, Nat.zero_le _, rfl, Below.refl _ _⟩
  case round =>
    obtain ⟨k, hk, rfl, bw⟩ := hrel
    by_cases hkn : k < n
    · obtain ⟨b, off, f, ys, dn, B, kk, d, rfl, hbb, hx, q0, q1, q2, hkd, hdm, hri⟩ := hr.at_ hkn
      obtain ⟨b', off', f', ys', dn', B', kk', d', rfl, hbb', hx', q0', q1', q2', hkd', hdm', hri'⟩ := hr'.at_ hkn
      obtain ⟨rfl, rfl, rfl⟩ : f = f' ∧ ys = ys' ∧ dn = dn' := by
        have := hx.symm.trans hx'
        simpa using this
      have hsz := hsm _ (List.mem_of_getElem? hx)
      have hk1 : kk ≤ 1048576 := by have := hri.len; dsimp only at hsz; omega
      have hk2 : kk' ≤ 1048576 := by have := hri'.len; dsimp only at hsz; omega
      have s1 : S3 w (.slice B kk d) kk ys := S3.of_args hkd hk1 hri
      have s2 : S3 w (.slice B' kk' d') kk' ys := S3.of_args hkd' hk2 hri'
      have BZ := bw.drew
      have hc : ∀ W, Below w.heap.size w W → W.cell? ⟨b, off + k * 3, none⟩ = some (.int .i64 f) ∧ W.cell? ⟨b, off + k * 3 + 1, none⟩ = some (.slice B kk d) ∧ W.cell? ⟨b, off + k * 3 + 2, none⟩ = some (.bool dn) ∧ W.cell? ⟨b', off' + k * 3, none⟩ = some (.int .i64 f) ∧ W.cell? ⟨b', off' + k * 3 + 1, none⟩ = some (.slice B' kk' d') ∧ W.cell? ⟨b', off' + k * 3 + 2, none⟩ = some (.bool dn) := fun W h =>
        ⟨(h.cell (p := ⟨b, off + k * 3, none⟩) hbb).trans q0, (h.cell (p := ⟨b, off + k * 3 + 1, none⟩) hbb).trans q1, (h.cell (p := ⟨b, off + k * 3 + 2, none⟩) hbb).trans q2, (h.cell (p := ⟨b', off' + k * 3, none⟩) hbb').trans q0', (h.cell (p := ⟨b', off' + k * 3 + 1, none⟩) hbb').trans q1', (h.cell (p := ⟨b', off' + k * 3 + 2, none⟩) hbb').trans q2'⟩
      obtain ⟨e0, e1, e2, e3, e4, e5⟩ := hc _ bw
      have k0 : (0 : Int) ≤ k := by omega
      have k2 : (k : Int) < n := by omega
      clear hx hx' hsz hri hri'
      go_wp2_with fail
      go_region_held3 (fun W => W.cell? ⟨b, off + k * 3, none⟩ = some (.int .i64 f) ∧ W.cell? ⟨b, off + k * 3 + 1, none⟩ = some (.slice B kk d) ∧ W.cell? ⟨b, off + k * 3 + 2, none⟩ = some (.bool dn) ∧ W.cell? ⟨b', off' + k * 3, none⟩ = some (.int .i64 f) ∧ W.cell? ⟨b', off' + k * 3 + 1, none⟩ = some (.slice B' kk' d') ∧ W.cell? ⟨b', off' + k * 3 + 2, none⟩ = some (.bool dn))
        (first | exact hc _ BZ)
        (first | (go_at_call 79; refine (eqTxn_c (s1.below BZ) (s2.below BZ)).mono ?_; rintro e w2 ⟨rfl, b2⟩; replace BZ := below_step BZ b2))
      go_wp2_with fail
      go_roundw
      case rel => exact ⟨k + 1, by omega, by go_num, BZ⟩
      case measure => simp [intOf]; omega
    · obtain rfl : k = n := by omega
      go_wp2_with fail
      go_ret
      exact ⟨rfl, bw⟩
def m3 (x : Int) : Bool := decide (x % 3 = 0)
theorem m3_walk (x : Int) (m : Nat) : m3 (x + (m * 3 : Nat)) = (x % 3 == 0) := by unfold m3; rw [Bool.eq_iff_iff, decide_eq_true_iff, beq_iff_eq]; omega
/-- markTxnS writes k, k + 1, .. into it all. -/
def markE : Int → List El → List El
  | _, [] => []
  | k, e :: es => (k, (e.2.1.1, e.2.1.2.1, upFrom (k + 1) (e.2.1.2.1 * 3)), m3 (k + 1 + (e.2.1.2.1 * 3 : Nat))) :: markE (k + 2 + (e.2.1.2.1 * 3 : Nat)) es
def sumE (es : List El) : Nat := (es.map fun e => e.2.1.2.1 * 3 + 2).sum
theorem sumE_take {es : List El} {j : Nat} {e : El} (h : es[j]? = some e) : sumE (es.take (j + 1)) = sumE (es.take j) + e.2.1.2.1 * 3 + 2 := by
  unfold sumE; rw [List.take_add_one, h]; simp; omega
theorem sumE_take_le (es : List El) (j : Nat) : sumE (es.take j) ≤ sumE es := by
  have : es.take j ++ es.drop j = es := List.take_append_drop j es
  have h2 : sumE es = sumE (es.take j) + sumE (es.drop j) := by
    unfold sumE
    rw [← List.sum_append, ← List.map_append, this]
  omega
theorem markE_len : ∀ (es : List El) (k : Int), (markE k es).length = es.length
  | [], k => rfl
  | e :: es, k => by simp [markE, markE_len es]
/-- Half marked. -/
def halfE (k : Int) (es : List El) (j : Nat) : List El := markE k (es.take j) ++ es.drop j
theorem halfE_zero (k : Int) (es : List El) : halfE k es 0 = es := by simp [halfE, markE]
theorem halfE_full (k : Int) (es : List El) : halfE k es es.length = markE k es := by simp [halfE]
theorem halfE_at {k : Int} {es : List El} {j : Nat} {e : El} (h : es[j]? = some e) : (halfE k es j)[j]? = some e := by
  have hl := (List.getElem?_eq_some_iff.1 h).1
  unfold halfE
  rw [List.getElem?_append_right (by rw [markE_len]; simp; omega), markE_len, List.length_take, Nat.min_eq_left (by omega), Nat.sub_self, List.getElem?_drop]
  simpa using h
theorem markE_append : ∀ (es fs : List El) (k : Int), markE k (es ++ fs) = markE k es ++ markE (k + sumE es) fs
  | [], fs, k => by simp [markE, sumE]
  | e :: es, fs, k => by
    have e1 : k + 2 + ((e.2.1.2.1 * 3 : Nat) : Int) + (sumE es : Nat) = k + (sumE (e :: es) : Nat) := by unfold sumE; simp; omega
    simp only [List.cons_append, markE, markE_append es fs, e1]
theorem halfE_step {k : Int} {es : List El} {j : Nat} {e : El} (h : es[j]? = some e) :
    (halfE k es j).set j (k + sumE (es.take j), (e.2.1.1, e.2.1.2.1, upFrom (k + sumE (es.take j) + 1) (e.2.1.2.1 * 3)), m3 (k + sumE (es.take j) + 1 + (e.2.1.2.1 * 3 : Nat))) = halfE k es (j + 1) := by
  have hl := (List.getElem?_eq_some_iff.1 h).1
  unfold halfE
  have hm : (markE k (es.take j)).length = j := by rw [markE_len]; simp; omega
  have hd : es.drop j = e :: es.drop (j + 1) := by
    rw [List.drop_eq_getElem_cons hl]
    rw [List.getElem?_eq_getElem hl] at h
    injection h with h
    rw [h]
  rw [List.set_append_right _ _ (by omega), hm, Nat.sub_self, hd, List.set_cons_zero, List.take_add_one, h]
  simp only [Option.toList_some]
  rw [markE_append]
  simp [markE]
theorem set_set {α : Type} (l : List α) (j : Nat) (a b : α) : (l.set j a).set j b = l.set j b := by simp
set_option maxHeartbeats 8000000 in
theorem markTxnS_c {lo n : Nat} {v : Value} {es : List El} {k : Int} {w : World} (D : OT w lo v n es) (hk0 : 0 ≤ k) (hk1 : k + sumE es ≤ 4194304) :
    Calls Tryz.prog 23 #[v, .int .i64 k] w fun e w' => e = .returned (.int .i64 (k + sumE es)) ∧ OT w' lo v n (markE k es) ∧ Chg (OT.S v es) w w' := by
  have hl := hide D.len
  have hn := D.small
  rcases D.shape with ⟨rfl, rfl⟩ | ⟨g, c, rfl, hlg, hgs, hnc, hcm, _⟩
  · have he : es = [] := List.eq_nil_of_length_eq_zero hl.out
    subst he
    go_enter Tryz.func23, Tryz.ntmps23
    go_wp2_with fail
    go_loopw [1, 5] (fun kk i wr => kk = .int .i64 k ∧ i = .int .i64 0 ∧ wr = w) (fun _ _ _ => 0)
    case atStart => exact ⟨rfl, rfl, rfl⟩
    case round =>
      obtain ⟨rfl, rfl, rfl⟩ := hrel
      go_wp2_with fail
      go_ret
      exact ⟨by simp [sumE], D, Chg.refl _⟩
  · go_enter Tryz.func23, Tryz.ntmps23
    go_wp2_with fail
    go_loopw [1, 5] (fun kk i wr => ∃ j : Nat, i = .int .i64 j ∧ j ≤ n ∧ kk = .int .i64 (k + sumE (es.take j)) ∧ OT wr lo (.slice (some ⟨g, 0, none⟩) n c) n (halfE k es j) ∧ Chg (OT.S (.slice (some ⟨g, 0, none⟩) n c) es) w wr) (fun _ i _ => n - (intOf i).toNat)
    case atStart => exact ⟨0, rfl, Nat.zero_le _, by simp [sumE], by rw [halfE_zero]; exact D, Chg.refl _⟩
    case round =>
      obtain ⟨j, rfl, hj, rfl, D', hchg⟩ := hrel
      have Hc := hide hchg; clear hchg
      have hsl := sumE_take_le es j
      by_cases hjn : j < n
      · obtain ⟨e, he⟩ : ∃ e, es[j]? = some e := ⟨es[j]'(by rw [hl.out]; exact hjn), List.getElem?_eq_getElem _⟩
        have hh := halfE_at (k := k) he
        have hsj := sumE_take he
        have hs2 := sumE_take_le es (j + 1)
        have hst := halfE_step (k := k) he
        obtain ⟨f, ⟨v', m', ys'⟩, dn⟩ := e
        dsimp only at hsj hst
        have hb1 : sumE (es.take j) + m' * 3 + 2 ≤ sumE es := by rw [← hsj]; exact hs2
        obtain ⟨c0, c1, c2⟩ := D'.cells hh
        dsimp only at c0 c1 c2
        have fz0 := D'.free (j * 3)
        have D2 := D'.set0 hh (k + sumE (es.take j))
        have hh2 : ((halfE k es j).set j (k + (sumE (es.take j) : Nat), ((v', m', ys'), dn)))[j]? = some (k + (sumE (es.take j) : Nat), ((v', m', ys'), dn)) := List.getElem?_set_self (List.getElem?_eq_some_iff.1 hh).1
        have c1' := (D2.cells hh2).2.1
        have ho := D2.own j _ hh2
        dsimp only at c1' ho
        have hm := ho.2
        obtain ⟨A, c', rfl, _⟩ := OF.form ho
        have He := hide he; have Hh := hide hh; have Hh2 := hide hh2; have Hsj := hide hsj; have Hst := hide hst; have HD2 := hide D2
        clear he hh hh2 hsj hst hs2 D' D2 D
        obtain ⟨S, hS⟩ : ∃ S, sumE (es.take j) = S := ⟨_, rfl⟩
        obtain ⟨Z, hZ⟩ : ∃ Z, sumE es = Z := ⟨_, rfl⟩
        rw [hS] at c1' ho hb1 hsl ⊢
        rw [hZ] at hb1 hk1 hsl
        have HS := hide hS; have HZ := hide hZ
        clear hS hZ
        have j0 : (0 : Int) ≤ j := by omega
        have j2 : (j : Int) < n := by omega
        have kS : k + (S : Int) + 2 + (m' * 3 : Nat) ≤ 4194304 := by omega
        go_wp2_with fail
        refine (markOpS_c (xs := ys') ho (by omega) (by omega)).mono ?_
        rintro e w2 ⟨rfl, o2, g2⟩
        have hD2 := HD2.out; have hH2 := Hh2.out
        rw [HS.out] at hD2 hH2
        have D3 := hD2.upd hH2 g2 o2
        have hh3 : (((halfE k es j).set j (k + (S : Int), ((.slice A m' c', m', ys'), dn))).set j (k + (S : Int), ((.slice A m' c', m', upFrom (k + S + 1) (m' * 3)), dn)))[j]? = some (k + (S : Int), ((.slice A m' c', m', upFrom (k + S + 1) (m' * 3)), dn)) := List.getElem?_set_self (by rw [List.length_set]; exact (List.getElem?_eq_some_iff.1 Hh.out).1)
        have c2' := (D3.cells hh3).2.2
        have fz2 := D3.free (j * 3 + 2)
        have D4 := D3.set2 hh3 (m3 (k + S + 1 + (m' * 3 : Nat)))
        rw [set_set, set_set] at D4
        dsimp only at c2'
        have hst2 := Hst.out
        rw [HS.out] at hst2
        rw [hst2] at D4
        have HD4 := hide D4
        clear hD2 hH2 D3 hh3 D4 hst2 c0 c1 c2 c1' ho o2 fz0
        have g3 : w.heap.size ≤ w.heap.size := Nat.le_refl _
        clear g3
        have Hch := hide (((Hc.out.trans (Chg.setCell (p := ⟨g, j * 3, none⟩) (S := OT.S (.slice (some ⟨g, 0, none⟩) n c) es) (.inl rfl) (.int .i64 (k + S)))).trans (Chg.of_grown g2 (S := OT.S (.slice (some ⟨g, 0, none⟩) n c) es) (fun b hb => .inr ⟨j, _, He.out, hb⟩))).trans (Chg.setCell (p := ⟨g, j * 3 + 2, none⟩) (S := OT.S (.slice (some ⟨g, 0, none⟩) n c) es) (.inl rfl) (.bool (m3 (k + S + 1 + (m' * 3 : Nat))))))
        clear g2
        go_wp2_with fail
        go_roundw
        case rel =>
          have h1 := HD4.out; have h2 := Hch.out
          rw [m3_walk] at h1 h2
          refine ⟨j + 1, by go_num, by omega, ?_, h1, h2⟩
          rw [Hsj.out, HS.out]
          go_num
        case measure => simp [intOf]; omega
      · obtain rfl : j = n := by omega
        have hfin : es.take j = es := List.take_of_length_le (by rw [hl.out]; omega)
        have hff : halfE k es j = markE k es := by rw [← hl.out, halfE_full]
        rw [hff] at D'
        rw [hfin]
        go_wp2_with fail
        go_ret
        exact ⟨rfl, D', Hc.out⟩
end Go.Proofs.YtcfkemchekmjbaaGreatDoor

namespace Go.Proofs.YtcfkemchekmjbaaGreatDoor
open Go.RowKit
/-- What a machine's row shows at place n0. -/
theorem Mach.look {w : World} {lo gm n c : Nat} {A : Option Addr} {v : Value} {ts : List Tx} {es : List El} (M : Mach w lo gm A n c v ts es) {n0 : Nat} {t : Tx} (hn : n0 < n) (ht : ts[n0]? = some t) :
    ∃ g cg Au cu, v = .slice (some ⟨g, 0, none⟩) n cg ∧ n ≤ cg ∧ lo ≤ g ∧ g < w.heap.size ∧ es[n0]? = some (t.1, (.slice Au t.2.1.length cu, t.2.1.length, flat3 t.2.1), t.2.2) ∧ t.2.1.length ≤ cu ∧
      w.cell? ⟨g, n0 * 3 + 1, none⟩ = some (.slice Au t.2.1.length cu) ∧ w.cell? ⟨g, n0 * 3 + 2, none⟩ = some (.bool t.2.2) ∧ O3 61 w lo (.slice Au t.2.1.length cu) t.2.1.length t.2.1 := by
  obtain ⟨u, he, ho⟩ := M.says.ops M.own ht
  rcases M.own.shape with ⟨_, h0⟩ | ⟨g, cg, rfl, hlg, hgs, hnc, hcm, _⟩
  · omega
  obtain ⟨c0, c1, c2⟩ := M.own.cells he
  obtain ⟨Au, cu, rfl, huc, _, _⟩ := ho.form
  exact ⟨g, cg, Au, cu, rfl, hnc, hlg, hgs, he, huc, c1, c2, ho⟩
end Go.Proofs.YtcfkemchekmjbaaGreatDoor

namespace Go.Proofs.YtcfkemchekmjbaaGreatDoor
open Go.RowKit
def OW (t : TypeId) (s : Nat) (w : World) (B : Nat) (v : Value) (n : Nat) (xs : List Int) : Prop :=
  n ≤ 1048576 ∧ xs.length = n * s ∧ ((v = .slice none 0 0 ∧ n = 0) ∨ ∃ (g c : Nat) (cur : Array Value), v = .slice (some ⟨g, 0, none⟩) n c ∧ B ≤ g ∧ Blk w g t cur ∧ n ≤ c ∧ c ≤ maxLen ∧ n * s ≤ cur.size ∧ cur.toList.take (n * s) = xs.map (Value.int .i64))
section
variable {t : TypeId} {s : Nat} {w w' : World} {B B' n : Nat} {v : Value} {xs : List Int}
theorem OF.ow (h : OF t s w B v n xs) : OW t s w B v n xs := by
  refine ⟨h.2, h.len, ?_⟩
  rcases h.1.2 with h1 | ⟨g, cap, cur, rfl, hB, hg, hc, hm, hs, ht⟩
  · exact .inl h1
  · have h5 : n * s ≤ cap * s := Nat.mul_le_mul_right s hc
    exact .inr ⟨g, cap, cur, rfl, hB, hg, hc, hm, by omega, ht⟩
theorem OW.len (h : OW t s w B v n xs) : xs.length = n * s := h.2.1
theorem OW.small (h : OW t s w B v n xs) : n ≤ 1048576 := h.1
theorem OW.ne_blk {g : Nat} {t' : TypeId} {cs : Array Value} (h : OW t s w B v n xs) (hb : Blk w g t' cs) (ht : t' ≠ t) : v.ownBlock ≠ some g := by
  rcases h.2.2 with ⟨rfl, _⟩ | ⟨g', cap, cur, rfl, _, hh, _⟩
  · simp [Value.ownBlock]
  · intro he
    have e : g' = g := by have h : some g' = some g := he; injection h
    subst e
    unfold Blk at hb hh; rw [hh] at hb; injection hb with hb; injection hb with _ h2; exact ht h2.symm
theorem OW.chg {S : Nat → Prop} (h : OW t s w B v n xs) (hc : Chg S w w') (hS : ∀ k, v.ownBlock = some k → ¬ S k) : OW t s w' B v n xs := by
  refine ⟨h.1, h.2.1, ?_⟩
  rcases h.2.2 with h1 | ⟨g, c, cur, rfl, hb, hgg, rest⟩
  · exact .inl h1
  · exact .inr ⟨g, c, cur, rfl, hb, hgg.chg hc (hS g rfl), rest⟩
theorem OW.below (h : OW t s w B v n xs) (hb : Below w.heap.size w w') : OW t s w' B v n xs := h.chg (S := fun _ => False) (Chg.of_below hb) (fun _ _ => id)
theorem OW.lt (h : OW t s w B v n xs) : ∀ k, v.ownBlock = some k → B ≤ k ∧ k < w.heap.size := fun k hk => by
  rcases h.2.2 with ⟨rfl, _⟩ | ⟨g, c, cur, rfl, hb, hgg, _⟩
  · simp [Value.ownBlock] at hk
  · have e1 : g = k := by have h : some g = some k := hk; injection h
    subst e1; exact ⟨hb, hgg.lt⟩
theorem OW.mono (h : OW t s w B v n xs) (hB : B' ≤ B) : OW t s w B' v n xs := by
  refine ⟨h.1, h.2.1, ?_⟩
  rcases h.2.2 with h1 | ⟨g, c, cur, hv, hb, r⟩
  · exact .inl h1
  · exact .inr ⟨g, c, cur, hv, by omega, r⟩
theorem OW.grown {row : Option Nat} (h : OW t s w B v n xs) (hg : w.grownBy w' row) (hne : v.ownBlock = none ∨ v.ownBlock ≠ row) : OW t s w' B v n xs :=
  h.chg (S := fun k => row = some k) (Chg.of_grown hg (fun _ e => e)) (fun k hk hr => by
    rcases hne with h1 | h1
    · rw [h1] at hk; cases hk
    · exact h1 (by rw [hk, hr]))
theorem OW.form (h : OW t s w B v n xs) :
    ∃ A c, v = .slice A n c ∧ n ≤ c ∧ c ≤ maxLen ∧ (A = none → n = 0 ∧ c = 0) ∧ (∀ a, A = some a → ∃ g, a = ⟨g, 0, none⟩ ∧ B ≤ g ∧ g < w.heap.size) := by
  rcases h.2.2 with ⟨rfl, hn⟩ | ⟨g, c, cur, rfl, hB, hg, hc, hm, _⟩
  · subst hn
    exact ⟨none, 0, rfl, by simp, by simp [maxLen], fun _ => ⟨rfl, rfl⟩, fun a ha => by cases ha⟩
  · refine ⟨some ⟨g, 0, none⟩, c, rfl, hc, hm, (fun h => by cases h), fun a ha => ?_⟩
    injection ha with ha
    exact ⟨g, ha.symm, hB, hg.lt⟩
theorem OW.blk {g c : Nat} (h : OW t s w B (.slice (some ⟨g, 0, none⟩) n c) n xs) : ∃ cur : Array Value, B ≤ g ∧ Blk w g t cur ∧ n ≤ c ∧ c ≤ maxLen ∧ n * s ≤ cur.size ∧ cur.toList.take (n * s) = xs.map (Value.int .i64) := by
  rcases h.2.2 with ⟨h1, _⟩ | ⟨g', c', cur, h1, r⟩
  · cases h1
  · injection h1 with h1 _ h3; injection h1 with h1; injection h1 with h1; subst h1; subst h3; exact ⟨cur, r⟩
theorem OW.store {g c : Nat} (h : OW t s w B (.slice (some ⟨g, 0, none⟩) n c) n xs) (j : Nat) (x : Int) :
    OW t s (w.setCell ⟨g, j, none⟩ (.int .i64 x)) B (.slice (some ⟨g, 0, none⟩) n c) n (xs.set j x) := by
  obtain ⟨cur, h1, h2, h3, h4, h5, h6⟩ := h.blk
  refine ⟨h.1, by simp [h.2.1], .inr ⟨g, c, _, rfl, h1, h2.set_ j (.int .i64 x), h3, h4, by simpa using h5, ?_⟩⟩
  rw [Array.toList_setIfInBounds, List.map_set, ← h6, List.take_set]
theorem OW.cell {g c : Nat} (h : OW t s w B (.slice (some ⟨g, 0, none⟩) n c) n xs) (j : Nat) (hj : j < n * s) : ∃ x, xs[j]? = some x ∧ w.cell? ⟨g, j, none⟩ = some (.int .i64 x) := by
  obtain ⟨cur, h1, h2, h3, h4, h5, h6⟩ := h.blk
  have hl : j < xs.length := by rw [h.2.1]; exact hj
  refine ⟨xs[j], List.getElem?_eq_getElem hl, ?_⟩
  rw [h2.cell]
  have h7 := congrArg (fun l => l[j]?) h6
  simp only [List.getElem?_take, hj, if_true, List.getElem?_map, List.getElem?_eq_getElem hl, Option.map_some] at h7
  simpa using h7
theorem OW.free {g c : Nat} (h : OW t s w B (.slice (some ⟨g, 0, none⟩) n c) n xs) (j : Nat) : w.frozen? ⟨g, j, none⟩ = false := by
  obtain ⟨cur, h1, h2, _⟩ := h.blk; exact h2.frozen j
end
theorem OW.s3 {t : TypeId} {w : World} {B n : Nat} {v : Value} {ts : List T3} (h : OW t 3 w B v n (flat3 ts)) : S3 w v n ts := by
  have hl := h.len
  rw [flat3_len] at hl
  rcases h.2.2 with ⟨rfl, hn⟩ | ⟨g, c, cur, rfl, hB, hg, hc, hm, hs, ht⟩
  · subst hn
    have hx : ts = [] := List.eq_nil_of_length_eq_zero (by omega)
    subst hx
    exact ⟨none, 0, rfl, by simp, by simp, R3.nil⟩
  · refine ⟨some ⟨g, 0, none⟩, c, rfl, hc, h.1, by omega, fun _ => ⟨g, 0, rfl, hg.lt, fun k x hx => ?_⟩⟩
    have hk : k < n * 3 := by rw [← h.len]; exact (List.getElem?_eq_some_iff.1 hx).1
    obtain ⟨x', h1, h2⟩ := h.cell k hk
    rw [Nat.zero_add]
    rw [hx] at h1; injection h1 with h1; subst h1; exact h2
end Go.Proofs.YtcfkemchekmjbaaGreatDoor

namespace Go.Proofs.YtcfkemchekmjbaaGreatDoor
open Go.RowKit
structure OV (w : World) (lo : Nat) (v : Value) (n : Nat) (es : List El) : Prop where
  row : w.ownsRow lo 66 3 v n (cellsT es)
  own : ∀ (j : Nat) (e : El), es[j]? = some e → OW 61 3 w lo e.2.1.1 e.2.1.2.1 e.2.1.2.2
  apart : ∀ (i j : Nat) (p q : El), i ≠ j → es[i]? = some p → es[j]? = some q → Apart p.2.1.1 q.2.1.1
  small : n ≤ 1048576
section
variable {w w' : World} {lo n : Nat} {v : Value} {es : List El}
theorem OV.len (h : OV w lo v n es) : es.length = n := by have := h.row.1; rw [cellsT_len] at this; omega
theorem OV.shape (h : OV w lo v n es) : v = .slice none 0 0 ∧ n = 0 ∨ ∃ g c, v = .slice (some ⟨g, 0, none⟩) n c ∧ lo ≤ g ∧ g < w.heap.size ∧ n ≤ c ∧ c ≤ maxLen ∧ ∃ cs, Blk w g 66 cs := by
  rcases h.row.2 with ⟨h1, h2⟩ | ⟨g, cap, cur, h1, hB, hg, hc, hm, hs, ht⟩
  · exact .inl ⟨h1, h2⟩
  · exact .inr ⟨g, cap, h1, hB, Blk.lt hg, hc, hm, cur, hg⟩
theorem OV.ne (h : OV w lo v n es) {j : Nat} {e : El} (hj : es[j]? = some e) {k : Nat} (hk : v.ownBlock = some k) : e.2.1.1.ownBlock ≠ some k := by
  rcases h.shape with ⟨rfl, _⟩ | ⟨g, c, rfl, _, _, _, _, cs, hb⟩
  · simp [Value.ownBlock] at hk
  · have e1 : g = k := by have h : some g = some k := hk; injection h
    subst e1
    exact (h.own j e hj).ne_blk hb (by decide)
/-- The blocks in which it lies. -/
def OV.S (v : Value) (es : List El) (k : Nat) : Prop := v.ownBlock = some k ∨ ∃ (j : Nat) (e : El), es[j]? = some e ∧ e.2.1.1.ownBlock = some k
theorem OV.range (h : OV w lo v n es) : ∀ k, OV.S v es k → lo ≤ k ∧ k < w.heap.size := fun k hk => by
  rcases hk with hk | ⟨j, e, hj, hk⟩
  · exact World.ownsRow.lt h.row k hk
  · exact (h.own j e hj).lt k hk
theorem OV.chg {S : Nat → Prop} (h : OV w lo v n es) (hc : Chg S w w') (hS : ∀ k, OV.S v es k → ¬ S k) : OV w' lo v n es :=
  ⟨own_chg h.row hc (fun k hk => hS k (.inl hk)), fun j e hj => (h.own j e hj).chg hc (fun k hk => hS k (.inr ⟨j, e, hj, hk⟩)), h.apart, h.small⟩
theorem OV.below (h : OV w lo v n es) (hb : Below w.heap.size w w') : OV w' lo v n es := h.chg (S := fun _ => False) (Chg.of_below hb) (fun _ _ => id)
theorem OV.mono {lo' : Nat} (h : OV w lo v n es) (hl : lo' ≤ lo) : OV w lo' v n es := by
  refine ⟨⟨h.row.1, ?_⟩, fun j e hj => (h.own j e hj).mono hl, h.apart, h.small⟩
  rcases h.row.2 with h2 | ⟨g, cap, cur, hv, hb, r⟩
  · exact .inl h2
  · exact .inr ⟨g, cap, cur, hv, by omega, r⟩
theorem OV.alloc (h : OV w lo v n es) (o : Obj) : OV (w.alloc o) lo v n es := h.below ((Below.refl _ _).alloc (Nat.le_refl _) _)
theorem OV.drew (h : OV w lo v n es) : OV w.drew lo v n es := h.below (Below.refl _ _).drew
theorem OV.grown {row : Option Nat} (h : OV w lo v n es) (hg : w.grownBy w' row) (hne : ∀ k, row = some k → ¬ OV.S v es k) : OV w' lo v n es :=
  h.chg (S := fun k => row = some k) (Chg.of_grown hg (fun _ e => e)) (fun k hk hr => hne k hr hk)
theorem OV.cells {g c : Nat} (h : OV w lo (.slice (some ⟨g, 0, none⟩) n c) n es) {j : Nat} {e : El} (hj : es[j]? = some e) :
    w.cell? ⟨g, j * 3, none⟩ = some (.int .i64 e.1) ∧ w.cell? ⟨g, j * 3 + 1, none⟩ = some e.2.1.1 ∧ w.cell? ⟨g, j * 3 + 2, none⟩ = some (.bool e.2.2) := by
  have hjn : j < n := by rw [← h.len]; exact (List.getElem?_eq_some_iff.1 hj).1
  have hl := cellsT_len es
  rw [h.len] at hl
  obtain ⟨h0, h1, h2⟩ := cellsT_get es j e hj
  refine ⟨(World.ownsRow.cellAt h.row (j * 3) (by omega)).trans ?_, (World.ownsRow.cellAt h.row (j * 3 + 1) (by omega)).trans ?_, (World.ownsRow.cellAt h.row (j * 3 + 2) (by omega)).trans ?_⟩
  · rw [← h0, List.getElem?_eq_getElem (by omega)]
  · rw [← h1, List.getElem?_eq_getElem (by omega)]
  · rw [← h2, List.getElem?_eq_getElem (by omega)]
theorem OV.free {g c : Nat} (h : OV w lo (.slice (some ⟨g, 0, none⟩) n c) n es) (i : Nat) : w.frozen? ⟨g, i, none⟩ = false := World.ownsRow.frozenAt h.row i
theorem OV.base {g c : Nat} (h : OV w lo (.slice (some ⟨g, 0, none⟩) n c) n es) : lo ≤ g ∧ g < w.heap.size := World.ownsRow.lt h.row g rfl
/-- Of a turned list of elements: who has the same slices. -/
theorem OV.turn {es' : List El} (h : OV w lo v n es) (hr : w'.ownsRow lo 66 3 v n (cellsT es')) (hs : ∀ (j : Nat) (e' : El), es'[j]? = some e' → ∃ e, es[j]? = some e ∧ e'.2.1.1 = e.2.1.1 ∧ OW 61 3 w' lo e'.2.1.1 e'.2.1.2.1 e'.2.1.2.2) : OV w' lo v n es' :=
  ⟨hr, fun j e hj => by obtain ⟨_, _, _, h3⟩ := hs j e hj; exact h3, fun i j p q hij hp hq => by
    obtain ⟨p', h1, h2, _⟩ := hs i p hp
    obtain ⟨q', h3, h4, _⟩ := hs j q hq
    rw [h2, h4]; exact h.apart i j p' q' hij h1 h3, h.small⟩
theorem OW.set_row {g c : Nat} (h : OV w lo (.slice (some ⟨g, 0, none⟩) n c) n es) {j : Nat} {e : El} (hj : es[j]? = some e) (i : Nat) (u : Value) : OW 61 3 (w.setCell ⟨g, i, none⟩ u) lo e.2.1.1 e.2.1.2.1 e.2.1.2.2 :=
  (h.own j e hj).chg (Chg.setCell (S := fun k => k = g) (p := ⟨g, i, none⟩) rfl u) (fun k hk e1 => h.ne hj (k := g) rfl (by rw [hk, e1]))
theorem OV.set0 {g c : Nat} (h : OV w lo (.slice (some ⟨g, 0, none⟩) n c) n es) {j : Nat} {e : El} (hj : es[j]? = some e) (x : Int) :
    OV (w.setCell ⟨g, j * 3, none⟩ (.int .i64 x)) lo (.slice (some ⟨g, 0, none⟩) n c) n (es.set j (x, e.2)) := by
  refine h.turn ?_ (fun i e' hi => ?_)
  · rw [← cellsT_set0 es j e x hj]; exact (World.ownsRow.stored h.row (j * 3) (.int .i64 x)).1
  · by_cases e1 : j = i
    · subst e1
      rw [List.getElem?_set_self (List.getElem?_eq_some_iff.1 hj).1] at hi
      injection hi with hi; subst hi
      exact ⟨e, hj, rfl, OW.set_row h hj _ _⟩
    · rw [List.getElem?_set_ne e1] at hi
      exact ⟨e', hi, rfl, OW.set_row h hi _ _⟩
theorem OV.set2 {g c : Nat} (h : OV w lo (.slice (some ⟨g, 0, none⟩) n c) n es) {j : Nat} {e : El} (hj : es[j]? = some e) (x : Bool) :
    OV (w.setCell ⟨g, j * 3 + 2, none⟩ (.bool x)) lo (.slice (some ⟨g, 0, none⟩) n c) n (es.set j (e.1, e.2.1, x)) := by
  refine h.turn ?_ (fun i e' hi => ?_)
  · rw [← cellsT_set2 es j e x hj]; exact (World.ownsRow.stored h.row (j * 3 + 2) (.bool x)).1
  · by_cases e1 : j = i
    · subst e1
      rw [List.getElem?_set_self (List.getElem?_eq_some_iff.1 hj).1] at hi
      injection hi with hi; subst hi
      exact ⟨e, hj, rfl, OW.set_row h hj _ _⟩
    · rw [List.getElem?_set_ne e1] at hi
      exact ⟨e', hi, rfl, OW.set_row h hi _ _⟩
/-- One element's slice was written in place. -/
theorem OV.upd (h : OV w lo v n es) {j : Nat} {e : El} (hj : es[j]? = some e) (hg : w.grownBy w' e.2.1.1.ownBlock) {m : Nat} {xs : List Int} (ho : OW 61 3 w' lo e.2.1.1 m xs) : OV w' lo v n (es.set j (e.1, (e.2.1.1, m, xs), e.2.2)) := by
  refine h.turn ?_ (fun i e' hi => ?_)
  · rw [cellsT_same hj (e.2.1.1, m, xs) rfl]
    exact own_chg h.row (S := fun k => e.2.1.1.ownBlock = some k) (Chg.of_grown hg (fun _ e => e)) (fun k hk hr => h.ne hj hk hr)
  · by_cases e1 : j = i
    · subst e1
      rw [List.getElem?_set_self (List.getElem?_eq_some_iff.1 hj).1] at hi
      injection hi with hi; subst hi
      exact ⟨e, hj, rfl, ho⟩
    · rw [List.getElem?_set_ne e1] at hi
      exact ⟨e', hi, rfl, (h.own i e' hi).grown hg (h.apart i j e' e (Ne.symm e1) hi hj)⟩
/-- One element's slice was appended to, and stored back. -/
theorem OV.append {g c : Nat} (h : OV w lo (.slice (some ⟨g, 0, none⟩) n c) n es) {j : Nat} {e : El} (hj : es[j]? = some e) (hg : w.grownBy w' e.2.1.1.ownBlock) {q : In} (ho : OW 61 3 w' lo q.1 q.2.1 q.2.2)
    (hq : q.1.ownBlock = e.2.1.1.ownBlock ∨ ∀ k, q.1.ownBlock = some k → w.heap.size ≤ k) : OV (w'.setCell ⟨g, j * 3 + 1, none⟩ q.1) lo (.slice (some ⟨g, 0, none⟩) n c) n (es.set j (e.1, q, e.2.2)) := by
  have hjl := (List.getElem?_eq_some_iff.1 hj).1
  have hrow : w'.ownsRow lo 66 3 (.slice (some ⟨g, 0, none⟩) n c) n (cellsT es) := own_chg h.row (S := fun k => e.2.1.1.ownBlock = some k) (Chg.of_grown hg (fun _ e => e)) (fun k hk hr => h.ne hj hk hr)
  have hblk : ∃ cs, Blk w' g 66 cs := by
    rcases hrow.2 with ⟨h1, _⟩ | ⟨g', cap, cur, h1, _, hb, _⟩
    · cases h1
    · injection h1 with h1; injection h1 with h1; injection h1 with h1; subst h1; exact ⟨cur, hb⟩
  obtain ⟨cs, hblk⟩ := hblk
  have hset : ∀ {m : Nat} {u : Value} {xs : List Int}, OW 61 3 w' lo u m xs → OW 61 3 (w'.setCell ⟨g, j * 3 + 1, none⟩ q.1) lo u m xs := fun {m u xs} hu =>
    hu.chg (Chg.setCell (S := fun k => k = g) (p := ⟨g, j * 3 + 1, none⟩) rfl _) (fun k hk e1 => hu.ne_blk hblk (by decide) (by rw [hk, e1]))
  have hap : ∀ (i : Nat) (p : El), i ≠ j → es[i]? = some p → Apart p.2.1.1 q.1 := fun i p hij hi => by
    rcases hq with hq | hq
    · have := h.apart i j p e hij hi hj
      unfold Apart at *
      rw [hq]; exact this
    · unfold Apart
      cases hp : p.2.1.1.ownBlock with
      | none => exact .inl rfl
      | some k =>
        right; intro e1
        have h1 := (h.own i p hi).lt k hp
        have h2 := hq k e1.symm
        omega
  refine ⟨?_, fun i p hi => ?_, fun i k p r hik hi hk => ?_, h.small⟩
  · rw [← cellsT_set1 es j e q hj]; exact (World.ownsRow.stored hrow (j * 3 + 1) q.1).1
  · by_cases e1 : j = i
    · subst e1
      rw [List.getElem?_set_self hjl] at hi
      injection hi with hi; subst hi
      exact hset ho
    · rw [List.getElem?_set_ne e1] at hi
      exact hset ((h.own i p hi).grown hg (h.apart i j p e (Ne.symm e1) hi hj))
  · by_cases e1 : j = i
    · subst e1
      rw [List.getElem?_set_self hjl] at hi
      rw [List.getElem?_set_ne hik] at hk
      injection hi with hi; subst hi
      exact (hap k r (Ne.symm hik) hk).symm
    · rw [List.getElem?_set_ne e1] at hi
      by_cases e2 : j = k
      · subst e2
        rw [List.getElem?_set_self hjl] at hk
        injection hk with hk; subst hk
        exact hap i p (Ne.symm e1) hi
      · rw [List.getElem?_set_ne e2] at hk
        exact h.apart i k p r hik hi hk
/-- A further element behind all. -/
theorem OV.push {v' : Value} (h : OV w lo v n es) {e : El} (hr : w'.ownsRow lo 66 3 v' (n + 1) (cellsT (es ++ [e]))) (hg : w.grownBy w' v.ownBlock) (ho : OW 61 3 w' lo e.2.1.1 e.2.1.2.1 e.2.1.2.2)
    (ha : ∀ (j : Nat) (p : El), es[j]? = some p → Apart p.2.1.1 e.2.1.1) (hn : n + 1 ≤ 1048576) : OV w' lo v' (n + 1) (es ++ [e]) := by
  have key : ∀ (i : Nat) (p : El), (es ++ [e])[i]? = some p → (i < es.length ∧ es[i]? = some p) ∨ (i = es.length ∧ p = e) := fun i p hi => by
    by_cases e1 : i < es.length
    · rw [List.getElem?_append_left e1] at hi; exact .inl ⟨e1, hi⟩
    · have : i = es.length := by have := (List.getElem?_eq_some_iff.1 hi).1; simp at this; omega
      subst this
      simp at hi
      exact .inr ⟨rfl, hi.symm⟩
  refine ⟨hr, fun i p hi => ?_, fun i k p r hik hi hk => ?_, hn⟩
  · rcases key i p hi with ⟨_, hi2⟩ | ⟨_, rfl⟩
    · refine (h.own i p hi2).grown hg ?_
      cases hv : p.2.1.1.ownBlock with
      | none => exact .inl rfl
      | some k => right; intro e2; exact h.ne hi2 e2.symm hv
    · exact ho
  · rcases key i p hi with ⟨_, hi2⟩ | ⟨e1, ei⟩
    · rcases key k r hk with ⟨_, hk2⟩ | ⟨_, ek⟩
      · exact h.apart i k p r hik hi2 hk2
      · exact ek ▸ ha i p hi2
    · rcases key k r hk with ⟨_, hk2⟩ | ⟨e2, _⟩
      · exact ei ▸ (ha k r hk2).symm
      · omega
end
theorem OV.sts {w : World} {lo n : Nat} {v : Value} {es : List El} {ts : List Tx} (h : OV w lo v n es) (hs : SaysT es ts) : STs w v n ts := by
  have hl := h.len
  have hl2 := hs.len
  rcases h.shape with ⟨rfl, rfl⟩ | ⟨g, c, rfl, _, hgs, hnc, hcm, _⟩
  · have : ts = [] := List.eq_nil_of_length_eq_zero (by omega)
    subst this
    exact ⟨none, 0, rfl, Nat.le_refl _, by omega, RTs.nil⟩
  · refine ⟨_, c, rfl, hnc, h.small, by omega, fun _ => ⟨g, 0, rfl, hgs, fun k t hk => ?_⟩⟩
    obtain ⟨e, he, e1, e2, e3⟩ := hs.at_ hk
    obtain ⟨c0, c1, c2⟩ := h.cells he
    have ho := h.own k e he
    rw [e2] at ho
    obtain ⟨A, c', h1, h2, h3, _⟩ := OW.form ho
    obtain ⟨A', c'', h4, _, _, h5⟩ := ho.s3
    rw [h1] at h4; injection h4 with e4 _ e5; subst e4; subst e5
    rw [h1] at c1
    refine ⟨A, e.2.1.2.1, c', ?_, ?_, ?_, h2, h3, h5⟩
    · rw [Nat.zero_add, ← e1]; exact c0
    · rw [Nat.zero_add]; exact c1
    · rw [Nat.zero_add, ← e3]; exact c2
end Go.Proofs.YtcfkemchekmjbaaGreatDoor

namespace Go.Proofs.YtcfkemchekmjbaaGreatDoor
open Go.RowKit
theorem OV.made {w : World} (k : Nat) (hk : k ≤ 1048576) : OV (w.alloc (.cells (madeCells #[.int .i64 0, .slice none 0 0, .bool false] (k * 3)) 66)) w.heap.size (.slice (some ⟨w.heap.size, 0, none⟩) 0 k) 0 [] :=
  ⟨⟨rfl, .inr ⟨w.heap.size, k, _, rfl, Nat.le_refl _, Blk.new w _ _, Nat.zero_le _, by simp [maxLen]; omega, by simp [size_madeCells], by simp [cellsT]⟩⟩, fun j e h => by simp at h, fun i j p q _ h => by simp at h, by omega⟩
end Go.Proofs.YtcfkemchekmjbaaGreatDoor
