/- Contracts of the laws' own helpers on transactions: eq, mark, held. -/
import Derived.Test.YtieecneknljmdaaTx
import Derived.Deep.RegionHeld3
namespace Go.Proofs.Ytieecneknljmdaa
open Go.RowKit

theorem Blk.three {w : World} {g : Nat} {t : TypeId} {a b c : Value} (h : Blk w g t #[a, b, c]) : w.cell? ⟨g, 0, none⟩ = some a ∧ w.cell? ⟨g, 1, none⟩ = some b ∧ w.cell? ⟨g, 2, none⟩ = some c := ⟨h.cell 0, h.cell 1, h.cell 2⟩
set_option maxHeartbeats 1000000 in
theorem eqTxn_c {v v' : Value} {m m' : Nat} {ys : List T3} {f : Int} {d : Bool} {w : World} (hv : S3 w v m ys) (hv' : S3 w v' m' ys) :
    Calls Try.prog 19 #[.agg #[.int .i64 f, v, .bool d], .agg #[.int .i64 f, v', .bool d]] w fun e w' => e = .returned (.bool true) ∧ Below w.heap.size w w' := by
  obtain ⟨B, c, rfl⟩ := hv.shape
  obtain ⟨B', c', rfl⟩ := hv'.shape
  have B0 : Below w.heap.size w ((w.alloc (.cells #[.int .i64 f, .slice B m c, .bool d] 41)).alloc (.cells #[.int .i64 f, .slice B' m' c', .bool d] 41)) := ((Below.refl _ _).alloc (Nat.le_refl _) _).alloc (by simp) _
  have K1 := (Blk.new w 41 #[.int .i64 f, .slice B m c, .bool d]).alloc (.cells #[.int .i64 f, .slice B' m' c', .bool d] 41)
  have K2 := Blk.new (w.alloc (.cells #[.int .i64 f, .slice B m c, .bool d] 41)) 41 #[.int .i64 f, .slice B' m' c', .bool d]
  simp only [World.size_alloc] at K2
  have hdd : (d != d) = false := by simp
  go_enter Try.func19, Try.ntmps19
  go_wp2_with fail
  refine (eqOpS_c (hv.below B0) (hv'.below B0)).mono ?_
  rintro e w2 ⟨rfl, b2⟩
  rw [show decide (ys = ys) = true by simp]
  have B2 := below_step B0 b2
  replace K1 := K1.belowAll b2
  replace K2 := K2.belowAll b2
  obtain ⟨p0, p1, p2⟩ := K1.three
  obtain ⟨q0, q1, q2⟩ := K2.three
  go_wp2_with fail
  go_ret
  exact ⟨rfl, B2⟩

set_option maxHeartbeats 8000000 in
theorem eqTxnS_c {u u' : Value} {n n' : Nat} {ts : List Tx} {w : World} (hr : STs w u n ts) (hr' : STs w u' n' ts) (hsm : SmallT ts) :
    Calls Try.prog 8 #[u, u'] w fun e w' => e = .returned (.bool true) ∧ Below w.heap.size w w' := by
  obtain ⟨A, c, rfl, _, hn, hr⟩ := hr
  obtain ⟨A', c', rfl, _, _, hr'⟩ := hr'
  have hl := hide hr.1
  obtain rfl : n = n' := hr.1.symm.trans hr'.1
  go_enter Try.func8, Try.ntmps8
  go_wp2_with fail
  go_loopw [5] (fun i wr => ∃ k : Nat, k ≤ n ∧ i = .int .i64 k ∧ Below w.heap.size w wr) (fun i _ => n - (intOf i).toNat)
  case atStart => exact ⟨0, Nat.zero_le _, rfl, Below.refl _ _⟩
  case round =>
    obtain ⟨k, hk, rfl, bw⟩ := hrel
    by_cases hkn : k < n
    · obtain ⟨b, off, f, ys, dn, B, kk, d, rfl, hbb, hx, q0, q1, q2, hkd, hdm, hri⟩ := hr.at_ hkn
      obtain ⟨b', off', f', ys', dn', B', kk', d', rfl, hbb', hx', q0', q1', q2', hkd', hdm', hri'⟩ := hr'.at_ hkn
      obtain ⟨rfl, rfl, rfl⟩ : f = f' ∧ ys = ys' ∧ dn = dn' := by
        have := hx.symm.trans hx'
        simpa using this
      have hsz := hsm _ (List.mem_of_getElem? hx)
      have hk1 : kk ≤ 1048576 := by have := hri.len; dsimp only at hsz; omega
      have hk2 : kk' ≤ 1048576 := by have := hri'.len; dsimp only at hsz; omega
      have s1 : S3 w (.slice B kk d) kk ys := S3.of_args hkd hk1 hri
      have s2 : S3 w (.slice B' kk' d') kk' ys := S3.of_args hkd' hk2 hri'
      have BZ := bw.drew
      have hc : ∀ W, Below w.heap.size w W → W.cell? ⟨b, off + k * 3, none⟩ = some (.int .i64 f) ∧ W.cell? ⟨b, off + k * 3 + 1, none⟩ = some (.slice B kk d) ∧ W.cell? ⟨b, off + k * 3 + 2, none⟩ = some (.bool dn) ∧ W.cell? ⟨b', off' + k * 3, none⟩ = some (.int .i64 f) ∧ W.cell? ⟨b', off' + k * 3 + 1, none⟩ = some (.slice B' kk' d') ∧ W.cell? ⟨b', off' + k * 3 + 2, none⟩ = some (.bool dn) := fun W h =>
        ⟨(h.cell (p := ⟨b, off + k * 3, none⟩) hbb).trans q0, (h.cell (p := ⟨b, off + k * 3 + 1, none⟩) hbb).trans q1, (h.cell (p := ⟨b, off + k * 3 + 2, none⟩) hbb).trans q2, (h.cell (p := ⟨b', off' + k * 3, none⟩) hbb').trans q0', (h.cell (p := ⟨b', off' + k * 3 + 1, none⟩) hbb').trans q1', (h.cell (p := ⟨b', off' + k * 3 + 2, none⟩) hbb').trans q2'⟩
      obtain ⟨e0, e1, e2, e3, e4, e5⟩ := hc _ bw
      have k0 : (0 : Int) ≤ k := by omega
      have k2 : (k : Int) < n := by omega
      clear hx hx' hsz hri hri'
      go_wp2_with fail
      go_region_held3 (fun W => W.cell? ⟨b, off + k * 3, none⟩ = some (.int .i64 f) ∧ W.cell? ⟨b, off + k * 3 + 1, none⟩ = some (.slice B kk d) ∧ W.cell? ⟨b, off + k * 3 + 2, none⟩ = some (.bool dn) ∧ W.cell? ⟨b', off' + k * 3, none⟩ = some (.int .i64 f) ∧ W.cell? ⟨b', off' + k * 3 + 1, none⟩ = some (.slice B' kk' d') ∧ W.cell? ⟨b', off' + k * 3 + 2, none⟩ = some (.bool dn))
        (first | exact hc _ BZ)
        (first | (go_at_call 19; refine (eqTxn_c (s1.below BZ) (s2.below BZ)).mono ?_; rintro e w2 ⟨rfl, b2⟩; replace BZ := below_step BZ b2))
      go_wp2_with fail
      go_roundw
      case rel => exact ⟨k + 1, by omega, by go_num, BZ⟩
      case measure => simp [intOf]; omega
    · obtain rfl : k = n := by omega
      go_wp2_with fail
      go_ret
      exact ⟨rfl, bw⟩

def m3 (x : Int) : Bool := decide (x % 3 = 0)
theorem m3_walk (x : Int) (m : Nat) : m3 (x + (m * 3 : Nat)) = (x % 3 == 0) := by unfold m3; rw [Bool.eq_iff_iff, decide_eq_true_iff, beq_iff_eq]; omega
/-- markTxnS writes k, k + 1, .. into it all. -/
def markE : Int → List El → List El
  | _, [] => []
  | k, e :: es => (k, (e.2.1.1, e.2.1.2.1, upFrom (k + 1) (e.2.1.2.1 * 3)), m3 (k + 1 + (e.2.1.2.1 * 3 : Nat))) :: markE (k + 2 + (e.2.1.2.1 * 3 : Nat)) es
def sumE (es : List El) : Nat := (es.map fun e => e.2.1.2.1 * 3 + 2).sum
theorem sumE_take {es : List El} {j : Nat} {e : El} (h : es[j]? = some e) : sumE (es.take (j + 1)) = sumE (es.take j) + e.2.1.2.1 * 3 + 2 := by
  unfold sumE; rw [List.take_add_one, h]; simp; omega
theorem sumE_take_le (es : List El) (j : Nat) : sumE (es.take j) ≤ sumE es := by
  have : es.take j ++ es.drop j = es := List.take_append_drop j es
  have h2 : sumE es = sumE (es.take j) + sumE (es.drop j) := by
    unfold sumE
    rw [← List.sum_append, ← List.map_append, this]
  omega
theorem markE_get : ∀ (es : List El) (k : Int) (j : Nat) (e : El), es[j]? = some e →
    (markE k es)[j]? = some (k + sumE (es.take j), (e.2.1.1, e.2.1.2.1, upFrom (k + sumE (es.take j) + 1) (e.2.1.2.1 * 3)), m3 (k + sumE (es.take j) + 1 + (e.2.1.2.1 * 3 : Nat)))
  | [], k, j, e, h => by simp at h
  | a :: es, k, 0, e, h => by
    simp only [List.getElem?_cons_zero, Option.some.injEq] at h
    subst h; simp [markE, sumE]
  | a :: es, k, j + 1, e, h => by
    simp only [List.getElem?_cons_succ] at h
    have h2 := markE_get es (k + 2 + (a.2.1.2.1 * 3 : Nat)) j e h
    simp only [markE, List.getElem?_cons_succ, h2, List.take_succ_cons]
    have e1 : k + 2 + ((a.2.1.2.1 * 3 : Nat) : Int) + (sumE (es.take j) : Nat) = k + (sumE (a :: es.take j) : Nat) := by unfold sumE; simp; omega
    simp only [e1]
theorem markE_len : ∀ (es : List El) (k : Int), (markE k es).length = es.length
  | [], k => rfl
  | e :: es, k => by simp [markE, markE_len es]
/-- Half marked. -/
def halfE (k : Int) (es : List El) (j : Nat) : List El := markE k (es.take j) ++ es.drop j
theorem halfE_zero (k : Int) (es : List El) : halfE k es 0 = es := by simp [halfE, markE]
theorem halfE_full (k : Int) (es : List El) : halfE k es es.length = markE k es := by simp [halfE]
theorem halfE_at {k : Int} {es : List El} {j : Nat} {e : El} (h : es[j]? = some e) : (halfE k es j)[j]? = some e := by
  have hl := (List.getElem?_eq_some_iff.1 h).1
  unfold halfE
  rw [List.getElem?_append_right (by rw [markE_len]; simp; omega), markE_len, List.length_take, Nat.min_eq_left (by omega), Nat.sub_self, List.getElem?_drop]
  simpa using h
theorem markE_append : ∀ (es fs : List El) (k : Int), markE k (es ++ fs) = markE k es ++ markE (k + sumE es) fs
  | [], fs, k => by simp [markE, sumE]
  | e :: es, fs, k => by
    have e1 : k + 2 + ((e.2.1.2.1 * 3 : Nat) : Int) + (sumE es : Nat) = k + (sumE (e :: es) : Nat) := by unfold sumE; simp; omega
    simp only [List.cons_append, markE, markE_append es fs, e1]
theorem halfE_step {k : Int} {es : List El} {j : Nat} {e : El} (h : es[j]? = some e) :
    (halfE k es j).set j (k + sumE (es.take j), (e.2.1.1, e.2.1.2.1, upFrom (k + sumE (es.take j) + 1) (e.2.1.2.1 * 3)), m3 (k + sumE (es.take j) + 1 + (e.2.1.2.1 * 3 : Nat))) = halfE k es (j + 1) := by
  have hl := (List.getElem?_eq_some_iff.1 h).1
  unfold halfE
  have hm : (markE k (es.take j)).length = j := by rw [markE_len]; simp; omega
  have hd : es.drop j = e :: es.drop (j + 1) := by
    rw [List.drop_eq_getElem_cons hl]
    rw [List.getElem?_eq_getElem hl] at h
    injection h with h
    rw [h]
  rw [List.set_append_right _ _ (by omega), hm, Nat.sub_self, hd, List.set_cons_zero, List.take_add_one, h]
  simp only [Option.toList_some]
  rw [markE_append]
  simp [markE]

theorem set_set {α : Type} (l : List α) (j : Nat) (a b : α) : (l.set j a).set j b = l.set j b := by simp



end Go.Proofs.Ytieecneknljmdaa
