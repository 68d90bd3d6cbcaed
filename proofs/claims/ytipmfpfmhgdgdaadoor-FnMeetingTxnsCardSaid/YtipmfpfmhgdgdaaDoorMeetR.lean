/- The history of reads, as it is built; DrawMeetingTxns. -/
import Derived.Test.YtipmfpfmhgdgdaaDoorMeetQ
namespace Go.Proofs.YtipmfpfmhgdgdaaDoor
open Go.RowKit

def RO (w : World) (lo : Nat) (v : Value) (k : Nat) (rs : List Tx) : Prop := ∃ cs, w.ownsRow lo 36 3 v k cs ∧ rs.length = k ∧ ∀ (i : Nat) (t : Tx), rs[i]? = some t → ∃ u n, cs[i * 3]? = some (.int .i64 t.1) ∧ cs[i * 3 + 1]? = some u ∧ cs[i * 3 + 2]? = some (.bool t.2.2) ∧ SO w u n t.2.1
theorem RO.empty (w : World) : RO (w.alloc (.cells #[] 36)) w.heap.size (.slice (some ⟨w.heap.size, 0, none⟩) 0 0) 0 [] :=
  ⟨[], ⟨rfl, .inr ⟨w.heap.size, 0, #[], rfl, Nat.le_refl _, Blk.new w _ _, Nat.le_refl _, by simp [maxLen], rfl, rfl⟩⟩, rfl, fun i t h => by simp at h⟩
theorem RO.below {w w' : World} {lo k : Nat} {v : Value} {rs : List Tx} (h : RO w lo v k rs) (hb : Below w.heap.size w w') : RO w' lo v k rs := by
  obtain ⟨cs, h1, h2, h3⟩ := h
  exact ⟨cs, own_bel h1 hb, h2, fun i t hi => by obtain ⟨u, n, e1, e2, e3, e4⟩ := h3 i t hi; exact ⟨u, n, e1, e2, e3, e4.below hb⟩⟩
theorem RO.shape {w : World} {lo k : Nat} {v : Value} {rs : List Tx} (h : RO w lo v k rs) : ∃ A c, v = .slice A k c := by
  obtain ⟨cs, h1, h2⟩ := h
  rcases h1.2 with ⟨e, h0⟩ | ⟨g, cap, cur, e, _⟩
  · subst h0; exact ⟨_, _, e⟩
  · exact ⟨_, _, e⟩
theorem RO.grows {a w w' : World} {lo k : Nat} {v : Value} {rs : List Tx} (o : RO w lo v k rs) (h : Below a.heap.size a w) (hB : a.heap.size ≤ lo) (hg : w.grownBy w' v.ownBlock) : Below a.heap.size a w' := by
  obtain ⟨cs, o, _⟩ := o
  exact h.grown hg h.size (fun q hq => by have := (World.ownsRow.lt o q hq).1; omega)
theorem RO.rts {w : World} {lo k c : Nat} {A : Option Addr} {rs : List Tx} (h : RO w lo (.slice A k c) k rs) : RTs w A k rs := by
  obtain ⟨cs, h1, h2, h3⟩ := h
  have hcl := h1.1
  refine ⟨h2, fun hn => ?_⟩
  rcases h1.2 with ⟨_, h0⟩ | ⟨g, cap, cur, e, hB, hg, hc, hcm, hs, ht⟩
  · omega
  · injection e with e _ e3
    subst e; subst e3
    refine ⟨g, 0, rfl, Blk.lt (t := 36) (cs := cur) hg, fun i t hi => ?_⟩
    obtain ⟨u, n, e1, e2, e3, o⟩ := h3 i t hi
    obtain ⟨B, rfl, hn1, hri⟩ := o.s3
    have hi' : i < k := by have := (List.getElem?_eq_some_iff.1 hi).1; omega
    refine ⟨B, n, n, ?_, ?_, ?_, Nat.le_refl _, by simp only [maxLen]; omega, hri⟩
    · rw [Nat.zero_add, World.ownsRow.cellAt h1 (i * 3) (by omega)]; exact e1
    · rw [Nat.zero_add, World.ownsRow.cellAt h1 (i * 3 + 1) (by omega)]; exact e2
    · rw [Nat.zero_add, World.ownsRow.cellAt h1 (i * 3 + 2) (by omega)]; exact e3
theorem RO.run {w : World} {lo k : Nat} {v : Value} {rs : List Tx} (h : RO w lo v k rs) (ty : TypeId) {b n : Nat} {f : Int} {u : Value} {d : Bool} {zs : List T3} (hK : Blk w b 36 #[.int .i64 f, u, .bool d]) (hu : SO w u n zs) (hk : k ≤ 1000) (hlo : lo ≤ w.heap.size) :
    ∃ v' w', (Builtin.append_ #[31, 31] ty #[v, .slice (some ⟨b, 0, none⟩) 1 1]).run Tryd.prog w = .ok v' w' ∧ RO w' lo v' (k + 1) (rs ++ [(f, zs, d)]) ∧ w.grownBy w' v.ownBlock := by
  obtain ⟨i, hi, hz, hsz, hby⟩ := info_parts infoTh
  obtain ⟨cs, h1, h2, h3⟩ := h
  have hcl := h1.1
  have hc1 : ∀ x ∈ [Value.int .i64 f, u, .bool d], x.oneCell' = true := fun x hx => by
    obtain ⟨A, rfl, _⟩ := hu.s3
    simp at hx; rcases hx with rfl | rfl | rfl <;> rfl
  obtain ⟨v', w', hrun, hown, hg, hat⟩ := app_rd (P := Tryd.prog) (w := w) lo 31 ty 36 i (.agg #[.int .i64 0, .slice none 0 0, .bool false]) 3 40 Tryd.underlying31 hi hz hsz hby rfl (by omega) v k cs h1 _ 1 1 _ (Rd.three' hK) hc1 (by simp only [maxLen]; omega) (by omega) hlo
  refine ⟨v', w', hrun, ⟨_, hown, by simp [h2], fun j t hj => ?_⟩, hg⟩
  by_cases e : j < k
  · rw [List.getElem?_append_left (by omega)] at hj
    obtain ⟨x, m, e1, e2, e3, e4⟩ := h3 j t hj
    exact ⟨x, m, by rw [List.getElem?_append_left (by omega)]; exact e1, by rw [List.getElem?_append_left (by omega)]; exact e2, by rw [List.getElem?_append_left (by omega)]; exact e3, e4.row h1 (by decide) hg⟩
  · have : j = k := by have := (List.getElem?_eq_some_iff.1 hj).1; simp at this; omega
    subst this
    rw [← h2] at hj
    simp at hj; subst hj
    exact ⟨u, n, by rw [List.getElem?_append_right (by omega), show j * 3 - cs.length = 0 by omega]; rfl, by rw [List.getElem?_append_right (by omega), show j * 3 + 1 - cs.length = 1 by omega]; rfl, by rw [List.getElem?_append_right (by omega), show j * 3 + 2 - cs.length = 2 by omega]; rfl, hu.row h1 (by decide) hg⟩

def DrawMtR (w : World) (e : Ending) (w' : World) : Prop := ∃ A n c ts, e = .returned (.slice A n c) ∧ RTs w' A n ts ∧ n ≤ 8 ∧ (∀ t ∈ ts, t.2.1.length ≤ 100) ∧ Below w.heap.size w w'
set_option maxRecDepth 100000 in
theorem DrawMeetingTxns_c {w : World} {A : Option Addr} {n c : Nat} (hnc : n ≤ c) (hmx : c ≤ maxLen) (hb : BY w w.heap.size A n) : Calls Tryd.prog 10 #[.slice A n c] w (DrawMtR w) := by
  go_enter Tryd.func10, Tryd.ntmps10
  go_wp2_with fail
  refine (l20Open_c hnc hmx hb).mono ?_
  rintro e w1 ⟨rfl, r1, b1⟩
  go_wp2_with fail
  refine (l20History_c r1 (by omega) (by omega) (by omega) (by omega) (by omega)).mono ?_
  rintro e w2 ⟨v, k, rfl, l2, hk, r2, g2⟩
  obtain ⟨A', c', ts, rfl, hkc, hrl, hts⟩ := l2.rts
  go_wp2_with fail
  go_ret
  exact ⟨_, _, _, ts, rfl, hrl, hk, hts, belowG b1 g2 (Nat.le_refl _)⟩

end Go.Proofs.YtipmfpfmhgdgdaaDoor
