/- Contracts of the laws' own helpers on transactions: eq, mark, held. -/
import Derived.Test.YtfcfhgophpoibaaTx
import Derived.Deep.RegionHeld3
namespace Go.Proofs.Ytfcfhgophpoibaa
open Go.RowKit

theorem Blk.three {w : World} {g : Nat} {t : TypeId} {a b c : Value} (h : Blk w g t #[a, b, c]) : w.cell? ⟨g, 0, none⟩ = some a ∧ w.cell? ⟨g, 1, none⟩ = some b ∧ w.cell? ⟨g, 2, none⟩ = some c := ⟨h.cell 0, h.cell 1, h.cell 2⟩
set_option maxHeartbeats 1000000 in
theorem eqTxn_c {v v' : Value} {m m' : Nat} {ys : List T3} {f : Int} {d : Bool} {w : World} (hv : S3 w v m ys) (hv' : S3 w v' m' ys) :
    Calls Try.prog 39 #[.agg #[.int .i64 f, v, .bool d], .agg #[.int .i64 f, v', .bool d]] w fun e w' => e = .returned (.bool true) ∧ Below w.heap.size w w' := by
  obtain ⟨B, c, rfl⟩ := hv.shape
  obtain ⟨B', c', rfl⟩ := hv'.shape
  have B0 : Below w.heap.size w ((w.alloc (.cells #[.int .i64 f, .slice B m c, .bool d] 48)).alloc (.cells #[.int .i64 f, .slice B' m' c', .bool d] 48)) := ((Below.refl _ _).alloc (Nat.le_refl _) _).alloc (by simp) _
  have K1 := (Blk.new w 48 #[.int .i64 f, .slice B m c, .bool d]).alloc (.cells #[.int .i64 f, .slice B' m' c', .bool d] 48)
  have K2 := Blk.new (w.alloc (.cells #[.int .i64 f, .slice B m c, .bool d] 48)) 48 #[.int .i64 f, .slice B' m' c', .bool d]
  simp only [World.size_alloc] at K2
  have hdd : (d != d) = false := by simp
  go_enter Try.func39, Try.ntmps39
  go_wp2_with fail
  refine (eqOpS_c (hv.below B0) (hv'.below B0)).mono ?_
  rintro e w2 ⟨rfl, b2⟩
  rw [show decide (ys = ys) = true by simp]
  have B2 := below_step B0 b2
  replace K1 := K1.belowAll b2
  replace K2 := K2.belowAll b2
  obtain ⟨p0, p1, p2⟩ := K1.three
  obtain ⟨q0, q1, q2⟩ := K2.three
  go_wp2_with fail
  go_ret
  exact ⟨rfl, B2⟩

set_option maxHeartbeats 8000000 in
theorem eqTxnS_c {u u' : Value} {n n' : Nat} {ts : List Tx} {w : World} (hr : STs w u n ts) (hr' : STs w u' n' ts) (hsm : SmallT ts) :
    Calls Try.prog 12 #[u, u'] w fun e w' => e = .returned (.bool true) ∧ Below w.heap.size w w' := by
  obtain ⟨A, c, rfl, _, hn, hr⟩ := hr
  obtain ⟨A', c', rfl, _, _, hr'⟩ := hr'
  have hl := hide hr.1
  obtain rfl : n = n' := hr.1.symm.trans hr'.1
  go_enter Try.func12, Try.ntmps12
  go_wp2_with fail
  go_loopw [5] (fun i wr => ∃ k : Nat, k ≤ n ∧ i = .int .i64 k ∧ Below w.heap.size w wr) (fun i _ => n - (intOf i).toNat)
  case atStart => exact ⟨0, Nat.zero_le _, rfl, Below.refl _ _⟩
  case round =>
    obtain ⟨k, hk, rfl, bw⟩ := hrel
    by_cases hkn : k < n
    · obtain ⟨b, off, f, ys, dn, B, kk, d, rfl, hbb, hx, q0, q1, q2, hkd, hdm, hri⟩ := hr.at_ hkn
      obtain ⟨b', off', f', ys', dn', B', kk', d', rfl, hbb', hx', q0', q1', q2', hkd', hdm', hri'⟩ := hr'.at_ hkn
      obtain ⟨rfl, rfl, rfl⟩ : f = f' ∧ ys = ys' ∧ dn = dn' := by
        have := hx.symm.trans hx'
        simpa using this
      have hsz := hsm _ (List.mem_of_getElem? hx)
      have hk1 : kk ≤ 1048576 := by have := hri.len; dsimp only at hsz; omega
      have hk2 : kk' ≤ 1048576 := by have := hri'.len; dsimp only at hsz; omega
      have s1 : S3 w (.slice B kk d) kk ys := S3.of_args hkd hk1 hri
      have s2 : S3 w (.slice B' kk' d') kk' ys := S3.of_args hkd' hk2 hri'
      have BZ := bw.drew
      have hc : ∀ W, Below w.heap.size w W → W.cell? ⟨b, off + k * 3, none⟩ = some (.int .i64 f) ∧ W.cell? ⟨b, off + k * 3 + 1, none⟩ = some (.slice B kk d) ∧ W.cell? ⟨b, off + k * 3 + 2, none⟩ = some (.bool dn) ∧ W.cell? ⟨b', off' + k * 3, none⟩ = some (.int .i64 f) ∧ W.cell? ⟨b', off' + k * 3 + 1, none⟩ = some (.slice B' kk' d') ∧ W.cell? ⟨b', off' + k * 3 + 2, none⟩ = some (.bool dn) := fun W h =>
        ⟨(h.cell (p := ⟨b, off + k * 3, none⟩) hbb).trans q0, (h.cell (p := ⟨b, off + k * 3 + 1, none⟩) hbb).trans q1, (h.cell (p := ⟨b, off + k * 3 + 2, none⟩) hbb).trans q2, (h.cell (p := ⟨b', off' + k * 3, none⟩) hbb').trans q0', (h.cell (p := ⟨b', off' + k * 3 + 1, none⟩) hbb').trans q1', (h.cell (p := ⟨b', off' + k * 3 + 2, none⟩) hbb').trans q2'⟩
      obtain ⟨e0, e1, e2, e3, e4, e5⟩ := hc _ bw
      have k0 : (0 : Int) ≤ k := by omega
      have k2 : (k : Int) < n := by omega
      clear hx hx' hsz hri hri'
      go_wp2_with fail
      go_region_held3 (fun W => W.cell? ⟨b, off + k * 3, none⟩ = some (.int .i64 f) ∧ W.cell? ⟨b, off + k * 3 + 1, none⟩ = some (.slice B kk d) ∧ W.cell? ⟨b, off + k * 3 + 2, none⟩ = some (.bool dn) ∧ W.cell? ⟨b', off' + k * 3, none⟩ = some (.int .i64 f) ∧ W.cell? ⟨b', off' + k * 3 + 1, none⟩ = some (.slice B' kk' d') ∧ W.cell? ⟨b', off' + k * 3 + 2, none⟩ = some (.bool dn))
        (first | exact hc _ BZ)
        (first | (go_at_call 39; refine (eqTxn_c (s1.below BZ) (s2.below BZ)).mono ?_; rintro e w2 ⟨rfl, b2⟩; replace BZ := below_step BZ b2))
      go_wp2_with fail
      go_roundw
      case rel => exact ⟨k + 1, by omega, by go_num, BZ⟩
      case measure => simp [intOf]; omega
    · obtain rfl : k = n := by omega
      go_wp2_with fail
      go_ret
      exact ⟨rfl, bw⟩

def m3 (x : Int) : Bool := decide (x % 3 = 0)
theorem m3_walk (x : Int) (m : Nat) : m3 (x + (m * 3 : Nat)) = (x % 3 == 0) := by unfold m3; rw [Bool.eq_iff_iff, decide_eq_true_iff, beq_iff_eq]; omega
/-- markTxnS writes k, k + 1, .. into it all. -/
def markE : Int → List El → List El
  | _, [] => []
  | k, e :: es => (k, (e.2.1.1, e.2.1.2.1, upFrom (k + 1) (e.2.1.2.1 * 3)), m3 (k + 1 + (e.2.1.2.1 * 3 : Nat))) :: markE (k + 2 + (e.2.1.2.1 * 3 : Nat)) es
def sumE (es : List El) : Nat := (es.map fun e => e.2.1.2.1 * 3 + 2).sum
theorem sumE_take {es : List El} {j : Nat} {e : El} (h : es[j]? = some e) : sumE (es.take (j + 1)) = sumE (es.take j) + e.2.1.2.1 * 3 + 2 := by
  unfold sumE; rw [List.take_add_one, h]; simp; omega
theorem sumE_take_le (es : List El) (j : Nat) : sumE (es.take j) ≤ sumE es := by
  have : es.take j ++ es.drop j = es := List.take_append_drop j es
  have h2 : sumE es = sumE (es.take j) + sumE (es.drop j) := by
    unfold sumE
    rw [← List.sum_append, ← List.map_append, this]
  omega
theorem markE_get : ∀ (es : List El) (k : Int) (j : Nat) (e : El), es[j]? = some e →
    (markE k es)[j]? = some (k + sumE (es.take j), (e.2.1.1, e.2.1.2.1, upFrom (k + sumE (es.take j) + 1) (e.2.1.2.1 * 3)), m3 (k + sumE (es.take j) + 1 + (e.2.1.2.1 * 3 : Nat)))
  | [], k, j, e, h => by simp at h
  | a :: es, k, 0, e, h => by
    simp only [List.getElem?_cons_zero, Option.some.injEq] at h
    subst h; simp [markE, sumE]
  | a :: es, k, j + 1, e, h => by
    simp only [List.getElem?_cons_succ] at h
    have h2 := markE_get es (k + 2 + (a.2.1.2.1 * 3 : Nat)) j e h
    simp only [markE, List.getElem?_cons_succ, h2, List.take_succ_cons]
    have e1 : k + 2 + ((a.2.1.2.1 * 3 : Nat) : Int) + (sumE (es.take j) : Nat) = k + (sumE (a :: es.take j) : Nat) := by unfold sumE; simp; omega
    simp only [e1]
theorem markE_len : ∀ (es : List El) (k : Int), (markE k es).length = es.length
  | [], k => rfl
  | e :: es, k => by simp [markE, markE_len es]
/-- Half marked. -/
def halfE (k : Int) (es : List El) (j : Nat) : List El := markE k (es.take j) ++ es.drop j
theorem halfE_zero (k : Int) (es : List El) : halfE k es 0 = es := by simp [halfE, markE]
theorem halfE_full (k : Int) (es : List El) : halfE k es es.length = markE k es := by simp [halfE]
theorem halfE_at {k : Int} {es : List El} {j : Nat} {e : El} (h : es[j]? = some e) : (halfE k es j)[j]? = some e := by
  have hl := (List.getElem?_eq_some_iff.1 h).1
  unfold halfE
  rw [List.getElem?_append_right (by rw [markE_len]; simp; omega), markE_len, List.length_take, Nat.min_eq_left (by omega), Nat.sub_self, List.getElem?_drop]
  simpa using h
theorem markE_append : ∀ (es fs : List El) (k : Int), markE k (es ++ fs) = markE k es ++ markE (k + sumE es) fs
  | [], fs, k => by simp [markE, sumE]
  | e :: es, fs, k => by
    have e1 : k + 2 + ((e.2.1.2.1 * 3 : Nat) : Int) + (sumE es : Nat) = k + (sumE (e :: es) : Nat) := by unfold sumE; simp; omega
    simp only [List.cons_append, markE, markE_append es fs, e1]
theorem halfE_step {k : Int} {es : List El} {j : Nat} {e : El} (h : es[j]? = some e) :
    (halfE k es j).set j (k + sumE (es.take j), (e.2.1.1, e.2.1.2.1, upFrom (k + sumE (es.take j) + 1) (e.2.1.2.1 * 3)), m3 (k + sumE (es.take j) + 1 + (e.2.1.2.1 * 3 : Nat))) = halfE k es (j + 1) := by
  have hl := (List.getElem?_eq_some_iff.1 h).1
  unfold halfE
  have hm : (markE k (es.take j)).length = j := by rw [markE_len]; simp; omega
  have hd : es.drop j = e :: es.drop (j + 1) := by
    rw [List.drop_eq_getElem_cons hl]
    rw [List.getElem?_eq_getElem hl] at h
    injection h with h
    rw [h]
  rw [List.set_append_right _ _ (by omega), hm, Nat.sub_self, hd, List.set_cons_zero, List.take_add_one, h]
  simp only [Option.toList_some]
  rw [markE_append]
  simp [markE]

theorem set_set {α : Type} (l : List α) (j : Nat) (a b : α) : (l.set j a).set j b = l.set j b := by simp

set_option maxHeartbeats 8000000 in
theorem markTxnS_c {lo n : Nat} {v : Value} {es : List El} {k : Int} {w : World} (D : OT w lo v n es) (hk0 : 0 ≤ k) (hk1 : k + sumE es ≤ 4194304) :
    Calls Try.prog 17 #[v, .int .i64 k] w fun e w' => e = .returned (.int .i64 (k + sumE es)) ∧ OT w' lo v n (markE k es) ∧ Chg (OT.S v es) w w' := by
  have hl := hide D.len
  have hn := D.small
  rcases D.shape with ⟨rfl, rfl⟩ | ⟨g, c, rfl, hlg, hgs, hnc, hcm, _⟩
  · have he : es = [] := List.eq_nil_of_length_eq_zero hl.out
    subst he
    go_enter Try.func17, Try.ntmps17
    go_wp2_with fail
    go_loopw [1, 5] (fun kk i wr => kk = .int .i64 k ∧ i = .int .i64 0 ∧ wr = w) (fun _ _ _ => 0)
    case atStart => exact ⟨rfl, rfl, rfl⟩
    case round =>
      obtain ⟨rfl, rfl, rfl⟩ := hrel
      go_wp2_with fail
      go_ret
      exact ⟨by simp [sumE], D, Chg.refl _⟩
  · go_enter Try.func17, Try.ntmps17
    go_wp2_with fail
    go_loopw [1, 5] (fun kk i wr => ∃ j : Nat, i = .int .i64 j ∧ j ≤ n ∧ kk = .int .i64 (k + sumE (es.take j)) ∧ OT wr lo (.slice (some ⟨g, 0, none⟩) n c) n (halfE k es j) ∧ Chg (OT.S (.slice (some ⟨g, 0, none⟩) n c) es) w wr) (fun _ i _ => n - (intOf i).toNat)
    case atStart => exact ⟨0, rfl, Nat.zero_le _, by simp [sumE], by rw [halfE_zero]; exact D, Chg.refl _⟩
    case round =>
      obtain ⟨j, rfl, hj, rfl, D', hchg⟩ := hrel
      have Hc := hide hchg; clear hchg
      have hsl := sumE_take_le es j
      by_cases hjn : j < n
      · obtain ⟨e, he⟩ : ∃ e, es[j]? = some e := ⟨es[j]'(by rw [hl.out]; exact hjn), List.getElem?_eq_getElem _⟩
        have hh := halfE_at (k := k) he
        have hsj := sumE_take he
        have hs2 := sumE_take_le es (j + 1)
        have hst := halfE_step (k := k) he
        obtain ⟨f, ⟨v', m', ys'⟩, dn⟩ := e
        dsimp only at hsj hst
        have hb1 : sumE (es.take j) + m' * 3 + 2 ≤ sumE es := by rw [← hsj]; exact hs2
        obtain ⟨c0, c1, c2⟩ := D'.cells hh
        dsimp only at c0 c1 c2
        have fz0 := D'.free (j * 3)
        have D2 := D'.set0 hh (k + sumE (es.take j))
        have hh2 : ((halfE k es j).set j (k + (sumE (es.take j) : Nat), ((v', m', ys'), dn)))[j]? = some (k + (sumE (es.take j) : Nat), ((v', m', ys'), dn)) := List.getElem?_set_self (List.getElem?_eq_some_iff.1 hh).1
        have c1' := (D2.cells hh2).2.1
        have ho := D2.own j _ hh2
        dsimp only at c1' ho
        have hm := ho.2
        obtain ⟨A, c', rfl, _⟩ := OF.form ho
        have He := hide he; have Hh := hide hh; have Hh2 := hide hh2; have Hsj := hide hsj; have Hst := hide hst; have HD2 := hide D2
        clear he hh hh2 hsj hst hs2 D' D2 D
        obtain ⟨S, hS⟩ : ∃ S, sumE (es.take j) = S := ⟨_, rfl⟩
        obtain ⟨Z, hZ⟩ : ∃ Z, sumE es = Z := ⟨_, rfl⟩
        rw [hS] at c1' ho hb1 hsl ⊢
        rw [hZ] at hb1 hk1 hsl
        have HS := hide hS; have HZ := hide hZ
        clear hS hZ
        have j0 : (0 : Int) ≤ j := by omega
        have j2 : (j : Int) < n := by omega
        have kS : k + (S : Int) + 2 + (m' * 3 : Nat) ≤ 4194304 := by omega
        go_wp2_with fail
        refine (markOpS_c (xs := ys') ho (by omega) (by omega)).mono ?_
        rintro e w2 ⟨rfl, o2, g2⟩
        have hD2 := HD2.out; have hH2 := Hh2.out
        rw [HS.out] at hD2 hH2
        have D3 := hD2.upd hH2 g2 o2
        have hh3 : (((halfE k es j).set j (k + (S : Int), ((.slice A m' c', m', ys'), dn))).set j (k + (S : Int), ((.slice A m' c', m', upFrom (k + S + 1) (m' * 3)), dn)))[j]? = some (k + (S : Int), ((.slice A m' c', m', upFrom (k + S + 1) (m' * 3)), dn)) := List.getElem?_set_self (by rw [List.length_set]; exact (List.getElem?_eq_some_iff.1 Hh.out).1)
        have c2' := (D3.cells hh3).2.2
        have fz2 := D3.free (j * 3 + 2)
        have D4 := D3.set2 hh3 (m3 (k + S + 1 + (m' * 3 : Nat)))
        rw [set_set, set_set] at D4
        dsimp only at c2'
        have hst2 := Hst.out
        rw [HS.out] at hst2
        rw [hst2] at D4
        have HD4 := hide D4
        clear hD2 hH2 D3 hh3 D4 hst2 c0 c1 c2 c1' ho o2 fz0
        have g3 : w.heap.size ≤ w.heap.size := Nat.le_refl _
        clear g3
        have Hch := hide (((Hc.out.trans (Chg.setCell (p := ⟨g, j * 3, none⟩) (S := OT.S (.slice (some ⟨g, 0, none⟩) n c) es) (.inl rfl) (.int .i64 (k + S)))).trans (Chg.of_grown g2 (S := OT.S (.slice (some ⟨g, 0, none⟩) n c) es) (fun b hb => .inr ⟨j, _, He.out, hb⟩))).trans (Chg.setCell (p := ⟨g, j * 3 + 2, none⟩) (S := OT.S (.slice (some ⟨g, 0, none⟩) n c) es) (.inl rfl) (.bool (m3 (k + S + 1 + (m' * 3 : Nat))))))
        clear g2
        go_wp2_with fail
        go_roundw
        case rel =>
          have h1 := HD4.out; have h2 := Hch.out
          rw [m3_walk] at h1 h2
          refine ⟨j + 1, by go_num, by omega, ?_, h1, h2⟩
          rw [Hsj.out, HS.out]
          go_num
        case measure => simp [intOf]; omega
      · obtain rfl : j = n := by omega
        have hfin : es.take j = es := List.take_of_length_le (by rw [hl.out]; omega)
        have hff : halfE k es j = markE k es := by rw [← hl.out, halfE_full]
        rw [hff] at D'
        rw [hfin]
        go_wp2_with fail
        go_ret
        exact ⟨rfl, D', Hc.out⟩

set_option maxHeartbeats 8000000 in
theorem heldTxnS_c {lo n : Nat} {v : Value} {es : List El} {k : Int} {w : World} (D : OT w lo v n (markE k es)) (hk0 : 0 ≤ k) (hk1 : k + sumE es ≤ 4194304) :
    Calls Try.prog 18 #[v, .int .i64 k] w fun e w' => e = .returned (.int .i64 (k + sumE es)) ∧ Below w.heap.size w w' := by
  have hl2 : es.length = n := by rw [← D.len, markE_len]
  have hl := hide hl2; clear hl2
  have hn := D.small
  rcases D.shape with ⟨rfl, rfl⟩ | ⟨g, c, rfl, hlg, hgs, hnc, hcm, _⟩
  · have he : es = [] := List.eq_nil_of_length_eq_zero hl.out
    subst he
    go_enter Try.func18, Try.ntmps18
    go_wp2_with fail
    go_loopw [1, 5] (fun kk i wr => kk = .int .i64 k ∧ i = .int .i64 0 ∧ wr = w) (fun _ _ _ => 0)
    case atStart => exact ⟨rfl, rfl, rfl⟩
    case round =>
      obtain ⟨rfl, rfl, rfl⟩ := hrel
      go_wp2_with fail
      go_ret
      exact ⟨by simp [sumE], Below.refl _ _⟩
  · go_enter Try.func18, Try.ntmps18
    go_wp2_with fail
    go_loopw [1, 5] (fun kk i wr => ∃ j : Nat, i = .int .i64 j ∧ j ≤ n ∧ kk = .int .i64 (k + sumE (es.take j)) ∧ Below w.heap.size w wr) (fun _ i _ => n - (intOf i).toNat)
    case atStart => exact ⟨0, rfl, Nat.zero_le _, by simp [sumE], Below.refl _ _⟩
    case round =>
      obtain ⟨j, rfl, hj, rfl, hbel⟩ := hrel
      have hsl := sumE_take_le es j
      by_cases hjn : j < n
      · obtain ⟨e, he⟩ : ∃ e, es[j]? = some e := ⟨es[j]'(by rw [hl.out]; exact hjn), List.getElem?_eq_getElem _⟩
        have hh := markE_get es k j e he
        have hsj := sumE_take he
        have hs2 := sumE_take_le es (j + 1)
        obtain ⟨f, ⟨v', m', ys'⟩, dn⟩ := e
        dsimp only at hsj hh
        have hb1 : sumE (es.take j) + m' * 3 + 2 ≤ sumE es := by rw [← hsj]; exact hs2
        obtain ⟨c0, c1, c2⟩ := D.cells hh
        dsimp only at c0 c1 c2
        have ho := D.own j _ hh
        dsimp only at ho
        have hm := ho.2
        obtain ⟨A, c', rfl, _⟩ := OF.form ho
        rw [m3_walk] at c2
        have Hsj := hide hsj
        clear hh he hsj hs2
        obtain ⟨S, hS⟩ : ∃ S, sumE (es.take j) = S := ⟨_, rfl⟩
        obtain ⟨Z, hZ⟩ : ∃ Z, sumE es = Z := ⟨_, rfl⟩
        rw [hS] at c0 c2 ho hb1 hsl ⊢
        rw [hZ] at hb1 hk1 hsl
        have HS := hide hS; have HZ := hide hZ
        clear hS hZ
        have d0 := (hbel.cell (p := ⟨g, j * 3, none⟩) hgs).trans c0
        have d1 := (hbel.cell (p := ⟨g, j * 3 + 1, none⟩) hgs).trans c1
        have HD := hide D
        have hc2 := c2
        clear c0 c1 c2 D
        have j0 : (0 : Int) ≤ j := by omega
        have j2 : (j : Int) < n := by omega
        have kS : k + (S : Int) + 2 + (m' * 3 : Nat) ≤ 4194304 := by omega
        go_wp2_with fail
        refine (heldOpS_c (ho.below hbel) (by omega) (by omega)).mono ?_
        rintro e w2 ⟨rfl, b2⟩
        have B2 := below_step hbel b2
        have d2 := (B2.cell (p := ⟨g, j * 3 + 2, none⟩) hgs).trans hc2
        clear hc2 d0 d1 ho
        have hbb : (((k + (S : Int) + 1) % 3 == 0) != ((k + (S : Int) + 1) % 3 == 0)) = false := by simp
        go_wp2_with fail
        go_roundw
        case rel =>
          refine ⟨j + 1, by go_num, by omega, ?_, B2⟩
          rw [Hsj.out, HS.out]
          go_num
        case measure => simp [intOf]; omega
      · obtain rfl : j = n := by omega
        have hfin : es.take j = es := List.take_of_length_le (by rw [hl.out]; omega)
        rw [hfin]
        go_wp2_with fail
        go_ret
        exact ⟨rfl, hbel⟩

end Go.Proofs.Ytfcfhgophpoibaa
