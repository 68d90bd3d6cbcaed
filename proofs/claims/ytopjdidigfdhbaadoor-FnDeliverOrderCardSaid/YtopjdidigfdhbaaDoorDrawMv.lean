/- DrawMessagesValid, DrawDeliverOrder; messages behind others. -/
import Derived.Test.YtopjdidigfdhbaaDoorDrawMs
import Derived.BigFrame
namespace Go.Proofs.YtopjdidigfdhbaaDoor
open Go.RowKit

theorem MV.mono {w : World} {lo lo' n : Nat} {v : Value} (h : MV w lo v n) (hl : lo' ≤ lo) : MV w lo' v n := by
  obtain ⟨b, off, c, cur, e, h1, h2, h3, h4, h5, cs, h6, h7⟩ := h
  exact ⟨b, off, c, cur, e, by omega, h2, h3, h4, h5, cs, h6, h7.map (fun u q h => h.mono hl)⟩
def DrawMsV (w : World) (e : Ending) (w' : World) : Prop := ∃ v n, e = .returned v ∧ MV w' w.heap.size v n ∧ n ≤ 9 ∧ Below w.heap.size w w'
theorem DrawMessagesValid_c {w : World} {A : Option Addr} {n c : Nat} (hnc : n ≤ c) (hmx : c ≤ maxLen) (hb : BY w w.heap.size A n) : Calls Tryd.prog 28 #[.slice A n c] w (DrawMsV w) := by
  go_enter Tryd.func28, Tryd.ntmps28
  go_wp2_with fail
  refine (l20Open_c hnc hmx hb).mono ?_
  rintro e w1 ⟨rfl, r1, b1⟩
  have hz := b1.size
  go_wp2_with fail
  refine (l20Messages_c r1 (by omega) (by omega) (by omega)).mono ?_
  rintro e w2 ⟨v, m, rfl, hm, hn, r2, g2⟩
  go_wp2_with fail
  go_ret
  exact ⟨v, m, rfl, hm.mono hz, hn, b1.grown g2 hz (fun i hi => by injection hi with hi; omega)⟩
theorem DrawDeliverOrder_c {w : World} {A : Option Addr} {n c : Nat} (hnc : n ≤ c) (hmx : c ≤ maxLen) (hb : BY w w.heap.size A n) : Calls Tryd.prog 31 #[.slice A n c] w (DrawMsV w) := by
  go_enter Tryd.func31, Tryd.ntmps31
  go_wp2_with fail
  refine (l20Open_c hnc hmx hb).mono ?_
  rintro e w1 ⟨rfl, r1, b1⟩
  have hz := b1.size
  go_wp2_with fail
  refine (l20Messages_c r1 (by omega) (by omega) (by omega)).mono ?_
  rintro e w2 ⟨v, m, rfl, hm, hn, r2, g2⟩
  go_wp2_with fail
  go_ret
  exact ⟨v, m, rfl, hm.mono hz, hn, b1.grown g2 hz (fun i hi => by injection hi with hi; omega)⟩
theorem own_rd {w : World} {B n : Nat} {t : TypeId} {v : Value} {cs : List Value} (h : w.ownsRow B t 2 v n cs) (hn : 0 < n) : ∃ A c, v = .slice A n c ∧ n ≤ c ∧ c ≤ maxLen ∧ Rd w 2 A n cs := by
  rcases h.2 with ⟨_, h0⟩ | ⟨g, cap, cur, rfl, hB, hg, hc, hcm, hs, ht⟩
  · omega
  · refine ⟨_, cap, rfl, hc, hcm, h.1, fun _ => ⟨g, 0, rfl, Blk.lt hg, fun k u hu => ?_⟩⟩
    rw [Nat.zero_add, Blk.cell (t := t) (cs := cur) hg]
    have hk : k < cs.length := (List.getElem?_eq_some_iff.1 hu).1
    rw [← ht, List.getElem?_take_of_lt (by rw [h.1] at hk; exact hk)] at hu
    simpa using hu
/-- A message laid ahead of others. -/
theorem RM.front {w w' : World} {A A' : Option Addr} {n kk d : Nat} {ms : Ms} {cs : List Value} {f : Int} {B : Option Addr} {ys : List Int} (h : RM w A n ms) (hr : Rd w 2 A n cs) (hri : RI w B kk ys) (hkd : kk ≤ d) (hdm : d ≤ maxLen)
    (hb : Below w.heap.size w w') (hR : Rd w' 2 A' (n + 1) ([.int .i64 f, .slice B kk d] ++ cs)) : RM w' A' (n + 1) ((f, ys) :: ms) := by
  have hl := hri.len
  refine ⟨by simp [h.1], fun _ => ?_⟩
  obtain ⟨b, off, e, hlt, hc⟩ := hR.2 (by omega)
  refine ⟨b, off, e, hlt, fun k m hk => ?_⟩
  cases k with
  | zero =>
    simp at hk; subst hk
    exact ⟨B, kk, d, hc 0 _ rfl, hc 1 _ rfl, hkd, hdm, hri.below hb⟩
  | succ k =>
    simp only [List.getElem?_cons_succ] at hk
    have hkn : k < n := by rw [← h.1]; exact (List.getElem?_eq_some_iff.1 hk).1
    obtain ⟨b1, o1, e1, hb1, hc1⟩ := h.2 (by omega)
    obtain ⟨b2, o2, e2, hb2, hc2⟩ := hr.2 (by omega)
    rw [e1] at e2; injection e2 with e2; injection e2 with e2 e3; subst e2; subst e3
    obtain ⟨B', k', d', p0, p1, p2, p3, p4⟩ := hc1 k m hk
    have hcl := hr.1
    have g0 : cs[k * 2]? = some (cs[k * 2]'(by omega)) := List.getElem?_eq_getElem _
    have g1 : cs[k * 2 + 1]? = some (cs[k * 2 + 1]'(by omega)) := List.getElem?_eq_getElem _
    have q0 := (hc2 _ _ g0).symm.trans p0
    have p1' : w.cell? ⟨b1, o1 + (k * 2 + 1), none⟩ = some (.slice B' k' d') := by rw [← Nat.add_assoc]; exact p1
    have q1 := (hc2 (k * 2 + 1) _ g1).symm.trans p1'
    injection q0 with q0; injection q1 with q1
    rw [q0] at g0; rw [q1] at g1
    refine ⟨B', k', d', ?_, ?_, p2, p3, p4.below hb⟩
    · have := hc ((k + 1) * 2) (.int .i64 m.1) (by rw [show (k + 1) * 2 = k * 2 + 1 + 1 by omega]; simpa using g0)
      exact this
    · have := hc ((k + 1) * 2 + 1) (.slice B' k' d') (by rw [show (k + 1) * 2 + 1 = k * 2 + 1 + 1 + 1 by omega]; simpa using g1)
      rw [Nat.add_assoc]; exact this
/-- The messages but the first. -/
theorem RM.tail {w : World} {b off n : Nat} {m : Int × List Int} {ms : Ms} (h : RM w (some ⟨b, off, none⟩) (n + 1) (m :: ms)) {o : Nat} (ho : 0 < n → o = 2) : RM w (some ⟨b, off + o, none⟩) n ms := by
  refine ⟨by have := h.1; simpa using this, fun hn => ?_⟩
  obtain ⟨b1, o1, e1, hb1, hc1⟩ := h.2 (by omega)
  injection e1 with e1; injection e1 with e1 e2; subst e1; subst e2
  obtain rfl := ho hn
  refine ⟨b, off + 2, rfl, hb1, fun k m' hk => ?_⟩
  have := hc1 (k + 1) m' (by simpa using hk)
  rw [show off + (k + 1) * 2 = off + 2 + k * 2 by omega] at this
  exact this
theorem wpList_appMG {w : World} {o : Oper} {a : Act} {Q : Exit → Act → World → Prop} {ops : Array Oper} {rest : List Oper} (hw : Region.wanted o (yielded ops a.tmps) = true) (s x : Operand)
    (ho : o.op = .call { callee := .builtin .append, args := #[s, x], argTypes := #[51, 51] })
    {B : Nat} {v : Value} {n : Nat} {cs : List Value} (hs : a.eval s = v) (hown : w.ownsRow B 55 2 v n cs)
    {A2 : Option Addr} {m c2 : Nat} {news : List Value} (hx : a.eval x = .slice A2 m c2) (hr : Rd w 2 A2 m news) (h1 : ∀ u ∈ news, u.oneCell' = true) (hnm : n + m ≤ 1000) (hbase : B ≤ w.heap.size)
    (h : ∀ v' w', w'.ownsRow B 55 2 v' (n + m) (cs ++ news) → w.grownBy w' v.ownBlock → (v'.ownBlock = v.ownBlock ∨ v'.ownBlock = some w.heap.size) → wpList Tryd.prog ops Q rest (a.put o.dst v') w') : wpList Tryd.prog ops Q (o :: rest) a w :=
  BigFrame.wpList_want hw fun K hK => by
    obtain ⟨i, hi, hz, hsz, hby⟩ := info_parts infoMs
    obtain ⟨v', w', hrun, h2, h3, h4⟩ := app_rd (P := Tryd.prog) B 51 o.type 55 i _ 2 32 Tryd.underlying51 hi hz hsz hby rfl (by omega) v n _ hown A2 m c2 _ hr h1 (by simp only [maxLen]; omega) (by omega) hbase
    unfold Oper.wp execOp
    simp only [ho, resolve, invoke, builtin, Sem.run_bind, Sem.run_pure, Result.andThen_ok, List.map_toArray, List.map_cons, List.map_nil, hs, hx, hrun]
    exact hK _ _ (h v' w' h2 h3 h4)

end Go.Proofs.YtopjdidigfdhbaaDoor
