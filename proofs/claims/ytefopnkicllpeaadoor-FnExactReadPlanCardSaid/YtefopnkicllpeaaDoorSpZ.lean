/- Drafts of the call's own whose steps may be clipped: mark, held. -/
import Derived.Test.YtefopnkicllpeaaDoorSpO
namespace Go.Proofs.YtefopnkicllpeaaDoor
open Go.RowKit

set_option maxHeartbeats 4000000 in
theorem markOpS_w {v : Value} {n : Nat} {xs : List Int} {k : Int} {B : Nat} {w : World} (ho : OW 42 3 w B v n xs) (hk0 : 0 ≤ k) (hk1 : k ≤ 4194304) :
    Calls Tryd.prog 27 #[v, .int .i64 k] w fun e w' => e = .returned (.int .i64 (k + n * 3)) ∧ OW 42 3 w' B v n (upFrom k (n * 3)) ∧ w.grownBy w' v.ownBlock := by
  have hn := ho.1
  obtain ⟨A, c, rfl, hlc, hmx, hA, hg⟩ := ho.form
  have Hn := hide ho.len
  go_enter Tryd.func27, Tryd.ntmps27
  go_wp2
  go_loopw [1, 5] (fun kk i wr => ∃ j : Nat, j ≤ n ∧ i = .int .i64 j ∧ kk = .int .i64 (k + j * 3) ∧ OW 42 3 wr B (.slice A n c) n (mrk xs k (j * 3)) ∧ w.grownBy wr (Value.slice A n c).ownBlock) (fun _ i _ => n - (intOf i).toNat)
  case atStart => exact ⟨0, Nat.zero_le _, rfl, by simp, by rw [show 0 * 3 = 0 from rfl, mrk_zero]; exact ho, World.grownBy.refl _ _⟩
  case round =>
    obtain ⟨j, hj, rfl, rfl, hown, hgr⟩ := hrel
    by_cases hlt : j < n
    · obtain ⟨b, rfl⟩ : ∃ b, A = some ⟨b, 0, none⟩ := by
        cases A with
        | none => have := (hA rfl).1; omega
        | some a => obtain ⟨g, h1, _⟩ := hg a rfl; exact ⟨g, by rw [h1]⟩
      obtain ⟨u0, _, s0⟩ := hown.cell (j * 3) (by omega)
      obtain ⟨u1, _, s1⟩ := hown.cell (j * 3 + 1) (by omega)
      obtain ⟨u2, _, s2⟩ := hown.cell (j * 3 + 2) (by omega)
      have f0 := hown.free (j * 3)
      have f1 := hown.free (j * 3 + 1)
      have f2 := hown.free (j * 3 + 2)
      have Hown := hide hown; clear hown
      have Hgr := hide hgr; clear hgr
      clear hA hg
      go_wp2
      go_roundw
      case rel =>
        refine ⟨j + 1, by omega, by go_num, by go_num, ?_, grown_setCell (p := ⟨b, j * 3 + 2, none⟩) (grown_setCell (p := ⟨b, j * 3 + 1, none⟩) (grown_setCell (p := ⟨b, j * 3, none⟩) Hgr.out (.inl rfl) _) (.inl rfl) _) (.inl rfl) _⟩
        have h2 := OW.store (OW.store (OW.store Hown.out (j * 3) (k + j * 3)) (j * 3 + 1) (k + j * 3 + 1)) (j * 3 + 2) (k + j * 3 + 1 + 1)
        rw [mrk_step' _ _ _ _ (by rw [Hn.out]; omega) (by omega), mrk_step' _ _ _ _ (by rw [Hn.out]; omega) (by omega), mrk_step' _ _ _ _ (by rw [Hn.out]; omega) (by omega)] at h2
        rw [show (j + 1) * 3 = j * 3 + 1 + 1 + 1 by omega]
        simpa [Int.add_assoc] using h2
      case measure => simp [intOf]; omega
    · go_wp2
      go_ret
      obtain rfl : j = n := by omega
      exact ⟨rfl, by have h3 := hown; rw [← Hn.out, mrk_full, Hn.out] at h3; exact h3, hgr⟩
set_option maxHeartbeats 4000000 in
theorem heldOpS_w {v : Value} {n : Nat} {k : Int} {B : Nat} {w : World} (ho : OW 42 3 w B v n (upFrom k (n * 3))) (hk0 : 0 ≤ k) (hk1 : k ≤ 4194304) :
    Calls Tryd.prog 28 #[v, .int .i64 k] w fun e w' => e = .returned (.int .i64 (k + n * 3)) ∧ Below w.heap.size w w' := by
  have hn := ho.1
  obtain ⟨A, c, rfl, hlc, hmx, hA, hg⟩ := ho.form
  go_enter Tryd.func28, Tryd.ntmps28
  go_wp2
  go_loopw [1, 5] (fun kk i wr => ∃ j : Nat, j ≤ n ∧ i = .int .i64 j ∧ kk = .int .i64 (k + j * 3) ∧ Below w.heap.size w wr) (fun _ i _ => n - (intOf i).toNat)
  case atStart => exact ⟨0, Nat.zero_le _, rfl, by simp, Below.refl _ _⟩
  case round =>
    obtain ⟨j, hj, rfl, rfl, hbel⟩ := hrel
    by_cases hlt : j < n
    · obtain ⟨b, rfl, hbs⟩ : ∃ b, A = some ⟨b, 0, none⟩ ∧ b < w.heap.size := by
        cases A with
        | none => have := (hA rfl).1; omega
        | some a => obtain ⟨g, h1, _, h2⟩ := hg a rfl; exact ⟨g, by rw [h1], h2⟩
      obtain ⟨u0, e0, s0⟩ := ho.cell (j * 3) (by omega)
      obtain ⟨u1, e1, s1⟩ := ho.cell (j * 3 + 1) (by omega)
      obtain ⟨u2, e2, s2⟩ := ho.cell (j * 3 + 2) (by omega)
      rw [upFrom_get _ _ _ (by omega)] at e0 e1 e2
      injection e0 with e0; injection e1 with e1; injection e2 with e2
      have t0 : wr.cell? ⟨b, j * 3, none⟩ = some (.int .i64 (k + j * 3)) := ((hbel.cell (p := ⟨b, j * 3, none⟩) hbs).trans s0).trans (by rw [← e0]; simp)
      have t1 : wr.cell? ⟨b, j * 3 + 1, none⟩ = some (.int .i64 (k + j * 3 + 1)) := ((hbel.cell (p := ⟨b, j * 3 + 1, none⟩) hbs).trans s1).trans (by rw [← e1]; simp; omega)
      have t2 : wr.cell? ⟨b, j * 3 + 2, none⟩ = some (.int .i64 (k + j * 3 + 1 + 1)) := ((hbel.cell (p := ⟨b, j * 3 + 2, none⟩) hbs).trans s2).trans (by rw [← e2]; simp; omega)
      clear e0 e1 e2 s0 s1 s2 hA hg ho
      go_wp2
      go_roundw
      case rel => exact ⟨j + 1, by omega, by go_num, by go_num, hbel⟩
      case measure => simp [intOf]; omega
    · go_wp2
      go_ret
      obtain rfl : j = n := by omega
      exact ⟨rfl, hbel⟩

theorem cellsD_set0 : ∀ (es : List (Int × In)) (k : Nat) (e : Int × In) (x : Int), es[k]? = some e → (cellsD es).set (k * 2) (.int .i64 x) = cellsD (es.set k (x, e.2))
  | [], k, e, x, h => by simp at h
  | a :: es, 0, e, x, h => by
    simp only [List.getElem?_cons_zero, Option.some.injEq] at h
    subst h; simp [cellsD]
  | a :: es, k + 1, e, x, h => by
    simp only [List.getElem?_cons_succ] at h
    simp only [cellsD, show (k + 1) * 2 = k * 2 + 1 + 1 by omega, List.set_cons_succ, cellsD_set0 es k e x h]
theorem cellsD_setU : ∀ (es : List (Int × In)) (k : Nat) (e : Int × In) (m : Nat) (xs : List Int), es[k]? = some e → cellsD (es.set k (e.1, (e.2.1, m, xs))) = cellsD es
  | [], k, e, m, xs, h => by simp at h
  | a :: es, 0, e, m, xs, h => by
    simp only [List.getElem?_cons_zero, Option.some.injEq] at h
    subst h; simp [cellsD]
  | a :: es, k + 1, e, m, xs, h => by
    simp only [List.getElem?_cons_succ] at h
    simp only [cellsD, List.set_cons_succ, cellsD_setU es k e m xs h]
section
variable {w w' : World} {lo n : Nat} {v : Value} {es : List (Int × In)}
theorem OW2.chg {S : Nat → Prop} (h : OW2 w lo v n es) (hc : Chg S w w') (hS : ∀ k, OW2.S v es k → ¬ S k) : OW2 w' lo v n es :=
  ⟨own_chg h.row hc (fun k hk => hS k (.inl hk)), fun j e hj => (h.own j e hj).chg hc (fun k hk => hS k (.inr ⟨j, e, hj, hk⟩)), h.apart, h.len, h.small⟩
theorem OW2.below (h : OW2 w lo v n es) (hb : Below w.heap.size w w') : OW2 w' lo v n es := h.chg (S := fun _ => False) (Chg.of_below hb) (fun _ _ => id)
theorem OW2.mono {lo' : Nat} (h : OW2 w lo v n es) (hl : lo' ≤ lo) : OW2 w lo' v n es := by
  refine ⟨⟨h.row.1, ?_⟩, fun j e hj => (h.own j e hj).mono hl, h.apart, h.len, h.small⟩
  rcases h.row.2 with h2 | ⟨g, cap, cur, hv, hb, r⟩
  · exact .inl h2
  · exact .inr ⟨g, cap, cur, hv, by omega, r⟩
theorem OW2.shape (h : OW2 w lo v n es) : v = .slice none 0 0 ∧ n = 0 ∨ ∃ g c, v = .slice (some ⟨g, 0, none⟩) n c ∧ lo ≤ g ∧ g < w.heap.size ∧ n ≤ c ∧ c ≤ maxLen := by
  rcases h.row.2 with ⟨h1, h2⟩ | ⟨g, c, cur, h1, h2, h3, h4, h5, _⟩
  · exact .inl ⟨h1, h2⟩
  · exact .inr ⟨g, c, h1, h2, Blk.lt (t := 37) (cs := cur) h3, h4, h5⟩
theorem OW2.cells {g c : Nat} (h : OW2 w lo (.slice (some ⟨g, 0, none⟩) n c) n es) {j : Nat} {e : Int × In} (hj : es[j]? = some e) : w.cell? ⟨g, j * 2, none⟩ = some (.int .i64 e.1) ∧ w.cell? ⟨g, j * 2 + 1, none⟩ = some e.2.1 := by
  have hjn : j < n := by rw [← h.len]; exact (List.getElem?_eq_some_iff.1 hj).1
  obtain ⟨h0, h1⟩ := cellsD_get es j e hj
  exact ⟨(World.ownsRow.cellAt h.row (j * 2) (by omega)).trans h0, (World.ownsRow.cellAt h.row (j * 2 + 1) (by omega)).trans h1⟩
theorem OW2.free {g c : Nat} (h : OW2 w lo (.slice (some ⟨g, 0, none⟩) n c) n es) (i : Nat) : w.frozen? ⟨g, i, none⟩ = false := World.ownsRow.frozenAt h.row i
theorem OW2.turn {es' : List (Int × In)} (h : OW2 w lo v n es) (hr : w'.ownsRow lo 37 2 v n (cellsD es')) (hl : es'.length = n) (hs : ∀ (j : Nat) (e' : Int × In), es'[j]? = some e' → ∃ e, es[j]? = some e ∧ e'.2.1 = e.2.1 ∧ OW 42 3 w' lo e'.2.1 e'.2.2.1 e'.2.2.2) : OW2 w' lo v n es' :=
  ⟨hr, fun j e hj => by obtain ⟨_, _, _, h3⟩ := hs j e hj; exact h3, fun i j p q hij hp hq => by
    obtain ⟨p', h1, h2, _⟩ := hs i p hp
    obtain ⟨q', h3, h4, _⟩ := hs j q hq
    rw [h2, h4]; exact h.apart i j p' q' hij h1 h3, hl, h.small⟩
theorem OW2.set0 {g c : Nat} (h : OW2 w lo (.slice (some ⟨g, 0, none⟩) n c) n es) {j : Nat} {e : Int × In} (hj : es[j]? = some e) (x : Int) :
    OW2 (w.setCell ⟨g, j * 2, none⟩ (.int .i64 x)) lo (.slice (some ⟨g, 0, none⟩) n c) n (es.set j (x, e.2)) := by
  have hrow : ∀ (i : Nat) (e' : Int × In), es[i]? = some e' → OW 42 3 (w.setCell ⟨g, j * 2, none⟩ (.int .i64 x)) lo e'.2.1 e'.2.2.1 e'.2.2.2 := fun i e' hi =>
    (h.own i e' hi).chg (Chg.setCell (S := fun k => k = g) (p := ⟨g, j * 2, none⟩) rfl _) (fun k hk e1 => h.ne hi (k := g) rfl (by rw [hk, e1]))
  refine h.turn ?_ (by rw [List.length_set]; exact h.len) (fun i e' hi => ?_)
  · rw [← cellsD_set0 es j e x hj]; exact (World.ownsRow.stored h.row (j * 2) (.int .i64 x)).1
  · by_cases e1 : j = i
    · subst e1
      rw [List.getElem?_set_self (List.getElem?_eq_some_iff.1 hj).1] at hi
      injection hi with hi; subst hi
      exact ⟨e, hj, rfl, hrow j e hj⟩
    · rw [List.getElem?_set_ne e1] at hi
      exact ⟨e', hi, rfl, hrow i e' hi⟩
theorem OW2.upd (h : OW2 w lo v n es) {j : Nat} {e : Int × In} (hj : es[j]? = some e) (hg : w.grownBy w' e.2.1.ownBlock) {m : Nat} {xs : List Int} (ho : OW 42 3 w' lo e.2.1 m xs) : OW2 w' lo v n (es.set j (e.1, (e.2.1, m, xs))) := by
  refine h.turn ?_ (by rw [List.length_set]; exact h.len) (fun i e' hi => ?_)
  · rw [cellsD_setU es j e m xs hj]
    exact own_chg h.row (S := fun k => e.2.1.ownBlock = some k) (Chg.of_grown hg (fun _ e => e)) (fun k hk hr => h.ne hj hk hr)
  · by_cases e1 : j = i
    · subst e1
      rw [List.getElem?_set_self (List.getElem?_eq_some_iff.1 hj).1] at hi
      injection hi with hi; subst hi
      exact ⟨e, hj, rfl, ho⟩
    · rw [List.getElem?_set_ne e1] at hi
      exact ⟨e', hi, rfl, (h.own i e' hi).grown hg (h.apart i j e' e (Ne.symm e1) hi hj)⟩
end
/-- markDraftS writes k, k + 1, .. into it all. -/
def markW : Int → List (Int × In) → List (Int × In)
  | _, [] => []
  | k, e :: es => (k, (e.2.1, e.2.2.1, upFrom (k + 1) (e.2.2.1 * 3))) :: markW (k + 1 + (e.2.2.1 * 3 : Nat)) es
def sumW (es : List (Int × In)) : Nat := (es.map fun e => e.2.2.1 * 3 + 1).sum
theorem sumW_take {es : List (Int × In)} {j : Nat} {e : Int × In} (h : es[j]? = some e) : sumW (es.take (j + 1)) = sumW (es.take j) + e.2.2.1 * 3 + 1 := by
  unfold sumW; rw [List.take_add_one, h]; simp; omega
theorem sumW_take_le (es : List (Int × In)) (j : Nat) : sumW (es.take j) ≤ sumW es := by
  have : es.take j ++ es.drop j = es := List.take_append_drop j es
  have h2 : sumW es = sumW (es.take j) + sumW (es.drop j) := by
    unfold sumW
    rw [← List.sum_append, ← List.map_append, this]
  omega
theorem markW_get : ∀ (es : List (Int × In)) (k : Int) (j : Nat) (e : Int × In), es[j]? = some e → (markW k es)[j]? = some (k + sumW (es.take j), (e.2.1, e.2.2.1, upFrom (k + sumW (es.take j) + 1) (e.2.2.1 * 3)))
  | [], k, j, e, h => by simp at h
  | a :: es, k, 0, e, h => by
    simp only [List.getElem?_cons_zero, Option.some.injEq] at h
    subst h; simp [markW, sumW]
  | a :: es, k, j + 1, e, h => by
    simp only [List.getElem?_cons_succ] at h
    have h2 := markW_get es (k + 1 + (a.2.2.1 * 3 : Nat)) j e h
    simp only [markW, List.getElem?_cons_succ, h2, List.take_succ_cons]
    have e1 : k + 1 + ((a.2.2.1 * 3 : Nat) : Int) + (sumW (es.take j) : Nat) = k + (sumW (a :: es.take j) : Nat) := by unfold sumW; simp; omega
    simp only [e1]
theorem markW_len : ∀ (es : List (Int × In)) (k : Int), (markW k es).length = es.length
  | [], k => rfl
  | e :: es, k => by simp [markW, markW_len es]
def halfW (k : Int) (es : List (Int × In)) (j : Nat) : List (Int × In) := markW k (es.take j) ++ es.drop j
theorem halfW_zero (k : Int) (es : List (Int × In)) : halfW k es 0 = es := by simp [halfW, markW]
theorem halfW_full (k : Int) (es : List (Int × In)) : halfW k es es.length = markW k es := by simp [halfW]
theorem halfW_at {k : Int} {es : List (Int × In)} {j : Nat} {e : Int × In} (h : es[j]? = some e) : (halfW k es j)[j]? = some e := by
  have hl := (List.getElem?_eq_some_iff.1 h).1
  unfold halfW
  rw [List.getElem?_append_right (by rw [markW_len]; simp; omega), markW_len, List.length_take, Nat.min_eq_left (by omega), Nat.sub_self, List.getElem?_drop]
  simpa using h
theorem markW_append : ∀ (es fs : List (Int × In)) (k : Int), markW k (es ++ fs) = markW k es ++ markW (k + sumW es) fs
  | [], fs, k => by simp [markW, sumW]
  | e :: es, fs, k => by
    have e1 : k + 1 + ((e.2.2.1 * 3 : Nat) : Int) + (sumW es : Nat) = k + (sumW (e :: es) : Nat) := by unfold sumW; simp; omega
    simp only [List.cons_append, markW, markW_append es fs, e1]
theorem halfW_step {k : Int} {es : List (Int × In)} {j : Nat} {e : Int × In} (h : es[j]? = some e) :
    (halfW k es j).set j (k + sumW (es.take j), (e.2.1, e.2.2.1, upFrom (k + sumW (es.take j) + 1) (e.2.2.1 * 3))) = halfW k es (j + 1) := by
  have hl := (List.getElem?_eq_some_iff.1 h).1
  unfold halfW
  have hm : (markW k (es.take j)).length = j := by rw [markW_len]; simp; omega
  have hd : es.drop j = e :: es.drop (j + 1) := by
    rw [List.drop_eq_getElem_cons hl]
    rw [List.getElem?_eq_getElem hl] at h
    injection h with h
    rw [h]
  rw [List.set_append_right _ _ (by omega), hm, Nat.sub_self, hd, List.set_cons_zero, List.take_add_one, h]
  simp only [Option.toList_some]
  rw [markW_append]
  simp [markW]
theorem set_setW {α : Type} (l : List α) (j : Nat) (a b : α) : (l.set j a).set j b = l.set j b := by simp

set_option maxHeartbeats 8000000 in
theorem markDraftS_w {lo n c0 cx : Nat} {A0 : Option Addr} {es : List (Int × In)} {k : Int} {w : World} (D : OW2 w lo (.slice A0 n c0) n es) (hk0 : 0 ≤ k) (hk1 : k + sumW es ≤ 4194304) :
    Calls Tryd.prog 9 #[.slice A0 n cx, .int .i64 k] w fun e w' => e = .returned (.int .i64 (k + sumW es)) ∧ OW2 w' lo (.slice A0 n c0) n (markW k es) ∧ Chg (OW2.S (.slice A0 n c0) es) w w' := by
  have hl := hide D.len
  have hn := D.small
  rcases D.shape with ⟨hv, rfl⟩ | ⟨g, c, hv, hlg, hgs, hnc, hcm⟩
  · injection hv with hv _ hv2
    subst hv; subst hv2
    have he : es = [] := List.eq_nil_of_length_eq_zero hl.out
    subst he
    go_enter Tryd.func9, Tryd.ntmps9
    go_wp2_with fail
    go_loopw [1, 5] (fun kk i wr => kk = .int .i64 k ∧ i = .int .i64 0 ∧ wr = w) (fun _ _ _ => 0)
    case atStart => exact ⟨rfl, rfl, rfl⟩
    case round =>
      obtain ⟨rfl, rfl, rfl⟩ := hrel
      go_wp2_with fail
      go_ret
      exact ⟨by simp [sumW], D, Chg.refl _⟩
  · injection hv with hv _ hv2
    subst hv; subst hv2
    go_enter Tryd.func9, Tryd.ntmps9
    go_wp2_with fail
    go_loopw [1, 5] (fun kk i wr => ∃ j : Nat, i = .int .i64 j ∧ j ≤ n ∧ kk = .int .i64 (k + sumW (es.take j)) ∧ OW2 wr lo (.slice (some ⟨g, 0, none⟩) n c0) n (halfW k es j) ∧ Chg (OW2.S (.slice (some ⟨g, 0, none⟩) n c0) es) w wr) (fun _ i _ => n - (intOf i).toNat)
    case atStart => exact ⟨0, rfl, Nat.zero_le _, by simp [sumW], by rw [halfW_zero]; exact D, Chg.refl _⟩
    case round =>
      obtain ⟨j, rfl, hj, rfl, D', hchg⟩ := hrel
      have Hc := hide hchg; clear hchg
      have hsl := sumW_take_le es j
      by_cases hjn : j < n
      · obtain ⟨e, he⟩ : ∃ e, es[j]? = some e := ⟨es[j]'(by rw [hl.out]; exact hjn), List.getElem?_eq_getElem _⟩
        have hh := halfW_at (k := k) he
        have hsj := sumW_take he
        have hs2 := sumW_take_le es (j + 1)
        have hst := halfW_step (k := k) he
        obtain ⟨f, v', m', ys'⟩ := e
        dsimp only at hsj hst
        have hb1 : sumW (es.take j) + m' * 3 + 1 ≤ sumW es := by rw [← hsj]; exact hs2
        obtain ⟨c0, c1⟩ := D'.cells hh
        dsimp only at c0 c1
        have fz0 := D'.free (j * 2)
        have D2 := D'.set0 hh (k + sumW (es.take j))
        have hh2 : ((halfW k es j).set j (k + (sumW (es.take j) : Nat), (v', m', ys')))[j]? = some (k + (sumW (es.take j) : Nat), (v', m', ys')) := List.getElem?_set_self (List.getElem?_eq_some_iff.1 hh).1
        have c1' := (D2.cells hh2).2
        have ho := D2.own j _ hh2
        dsimp only at c1' ho
        have hm := ho.1
        obtain ⟨A, c', rfl, _⟩ := OW.form ho
        have He := hide he; have Hh := hide hh; have Hh2 := hide hh2; have Hsj := hide hsj; have Hst := hide hst; have HD2 := hide D2
        clear he hh hh2 hsj hst hs2 D' D2 D
        obtain ⟨S, hS⟩ : ∃ S, sumW (es.take j) = S := ⟨_, rfl⟩
        obtain ⟨Z, hZ⟩ : ∃ Z, sumW es = Z := ⟨_, rfl⟩
        rw [hS] at c1' ho hb1 hsl ⊢
        rw [hZ] at hb1 hk1 hsl
        have HS := hide hS; have HZ := hide hZ
        clear hS hZ
        have j0 : (0 : Int) ≤ j := by omega
        have j2 : (j : Int) < n := by omega
        have kS : k + (S : Int) + 1 + (m' * 3 : Nat) ≤ 4194304 := by omega
        go_wp2_with fail
        refine (markOpS_w (xs := ys') ho (by omega) (by omega)).mono ?_
        rintro e w2 ⟨rfl, o2, g2⟩
        have hD2 := HD2.out; have hH2 := Hh2.out
        rw [HS.out] at hD2 hH2
        have D3 := hD2.upd hH2 g2 o2
        have hh3 : (((halfW k es j).set j (k + (S : Int), (.slice A m' c', m', ys'))).set j (k + (S : Int), (.slice A m' c', m', upFrom (k + S + 1) (m' * 3))))[j]? = some (k + (S : Int), (.slice A m' c', m', upFrom (k + S + 1) (m' * 3))) := List.getElem?_set_self (by rw [List.length_set]; exact (List.getElem?_eq_some_iff.1 Hh.out).1)
        have D4 := D3
        rw [set_setW] at D4
        have hst2 := Hst.out
        rw [HS.out] at hst2
        rw [hst2] at D4
        have HD4 := hide D4
        clear hD2 hH2 D3 hh3 D4 hst2 c0 c1 c1' ho o2 fz0
        have g3 : w.heap.size ≤ w.heap.size := Nat.le_refl _
        clear g3
        have Hch := hide ((Hc.out.trans (Chg.setCell (p := ⟨g, j * 2, none⟩) (S := OW2.S (.slice (some ⟨g, 0, none⟩) n c0) es) (.inl rfl) (.int .i64 (k + S)))).trans (Chg.of_grown g2 (S := OW2.S (.slice (some ⟨g, 0, none⟩) n c0) es) (fun b hb => .inr ⟨j, _, He.out, hb⟩)))
        clear g2
        go_wp2_with fail
        go_roundw
        case rel =>
          have h1 := HD4.out; have h2 := Hch.out
          refine ⟨j + 1, by go_num, by omega, ?_, h1, h2⟩
          rw [Hsj.out, HS.out]
          go_num
        case measure => simp [intOf]; omega
      · obtain rfl : j = n := by omega
        have hfin : es.take j = es := List.take_of_length_le (by rw [hl.out]; omega)
        have hff : halfW k es j = markW k es := by rw [← hl.out, halfW_full]
        rw [hff] at D'
        rw [hfin]
        go_wp2_with fail
        go_ret
        exact ⟨rfl, D', Hc.out⟩

set_option maxHeartbeats 8000000 in
theorem heldDraftS_w {lo n c0 cx : Nat} {A0 : Option Addr} {es : List (Int × In)} {k : Int} {w : World} (D : OW2 w lo (.slice A0 n c0) n (markW k es)) (hk0 : 0 ≤ k) (hk1 : k + sumW es ≤ 4194304) :
    Calls Tryd.prog 10 #[.slice A0 n cx, .int .i64 k] w fun e w' => e = .returned (.int .i64 (k + sumW es)) ∧ Below w.heap.size w w' := by
  have hl2 : es.length = n := by rw [← D.len, markW_len]
  have hl := hide hl2; clear hl2
  have hn := D.small
  rcases D.shape with ⟨hv, rfl⟩ | ⟨g, c, hv, hlg, hgs, hnc, hcm⟩
  · injection hv with hv _ hv2
    subst hv; subst hv2
    have he : es = [] := List.eq_nil_of_length_eq_zero hl.out
    subst he
    go_enter Tryd.func10, Tryd.ntmps10
    go_wp2_with fail
    go_loopw [1, 5] (fun kk i wr => kk = .int .i64 k ∧ i = .int .i64 0 ∧ wr = w) (fun _ _ _ => 0)
    case atStart => exact ⟨rfl, rfl, rfl⟩
    case round =>
      obtain ⟨rfl, rfl, rfl⟩ := hrel
      go_wp2_with fail
      go_ret
      exact ⟨by simp [sumW], Below.refl _ _⟩
  · injection hv with hv _ hv2
    subst hv; subst hv2
    go_enter Tryd.func10, Tryd.ntmps10
    go_wp2_with fail
    go_loopw [1, 5] (fun kk i wr => ∃ j : Nat, i = .int .i64 j ∧ j ≤ n ∧ kk = .int .i64 (k + sumW (es.take j)) ∧ Below w.heap.size w wr) (fun _ i _ => n - (intOf i).toNat)
    case atStart => exact ⟨0, rfl, Nat.zero_le _, by simp [sumW], Below.refl _ _⟩
    case round =>
      obtain ⟨j, rfl, hj, rfl, hbel⟩ := hrel
      have hsl := sumW_take_le es j
      by_cases hjn : j < n
      · obtain ⟨e, he⟩ : ∃ e, es[j]? = some e := ⟨es[j]'(by rw [hl.out]; exact hjn), List.getElem?_eq_getElem _⟩
        have hh := markW_get es k j e he
        have hsj := sumW_take he
        have hs2 := sumW_take_le es (j + 1)
        obtain ⟨f, v', m', ys'⟩ := e
        dsimp only at hsj hh
        have hb1 : sumW (es.take j) + m' * 3 + 1 ≤ sumW es := by rw [← hsj]; exact hs2
        obtain ⟨c0, c1⟩ := D.cells hh
        dsimp only at c0 c1
        have ho := D.own j _ hh
        dsimp only at ho
        have hm := ho.1
        obtain ⟨A, c', rfl, _⟩ := OW.form ho
        have Hsj := hide hsj
        clear hh he hsj hs2
        obtain ⟨S, hS⟩ : ∃ S, sumW (es.take j) = S := ⟨_, rfl⟩
        obtain ⟨Z, hZ⟩ : ∃ Z, sumW es = Z := ⟨_, rfl⟩
        rw [hS] at c0 ho hb1 hsl ⊢
        rw [hZ] at hb1 hk1 hsl
        have HS := hide hS; have HZ := hide hZ
        clear hS hZ
        have d0 := (hbel.cell (p := ⟨g, j * 2, none⟩) hgs).trans c0
        have d1 := (hbel.cell (p := ⟨g, j * 2 + 1, none⟩) hgs).trans c1
        have HD := hide D
        clear c0 c1 D
        have j0 : (0 : Int) ≤ j := by omega
        have j2 : (j : Int) < n := by omega
        have kS : k + (S : Int) + 1 + (m' * 3 : Nat) ≤ 4194304 := by omega
        go_wp2_with fail
        refine (heldOpS_w (ho.below hbel) (by omega) (by omega)).mono ?_
        rintro e w2 ⟨rfl, b2⟩
        have B2 := below_step hbel b2
        clear d0 d1 ho
        go_wp2_with fail
        go_roundw
        case rel =>
          refine ⟨j + 1, by go_num, by omega, ?_, B2⟩
          rw [Hsj.out, HS.out]
          go_num
        case measure => simp [intOf]; omega
      · obtain rfl : j = n := by omega
        have hfin : es.take j = es := List.take_of_length_le (by rw [hl.out]; omega)
        rw [hfin]
        go_wp2_with fail
        go_ret
        exact ⟨rfl, hbel⟩


end Go.Proofs.YtefopnkicllpeaaDoor
