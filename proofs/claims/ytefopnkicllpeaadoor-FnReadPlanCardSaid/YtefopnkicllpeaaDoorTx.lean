/- Slices of transactions: read (RTs), the call's own (OT). -/
import Derived.Test.YtefopnkicllpeaaDoorOpS
import Derived.Test.YtefopnkicllpeaaDoorApp3
import Derived.Test.YtefopnkicllpeaaDoorDeep
namespace Go.Proofs.YtefopnkicllpeaaDoor
open Go.RowKit

abbrev Tx := Int × List T3 × Bool
/-- A transaction at block b, offset off. -/
def ET (w : World) (b off : Nat) (t : Tx) : Prop :=
  ∃ (B : Option Addr) (k d : Nat), w.cell? ⟨b, off, none⟩ = some (.int .i64 t.1) ∧ w.cell? ⟨b, off + 1, none⟩ = some (.slice B k d) ∧ w.cell? ⟨b, off + 2, none⟩ = some (.bool t.2.2) ∧ k ≤ d ∧ d ≤ maxLen ∧ R3 w B k t.2.1
theorem ET.below {w w' : World} {b off : Nat} {t : Tx} (h : ET w b off t) (hb : Below w.heap.size w w') (hlt : b < w.heap.size) : ET w' b off t := by
  obtain ⟨B, k, d, h1, h2, h3, h4, h5, h6⟩ := h
  exact ⟨B, k, d, (hb.cell (p := ⟨b, off, none⟩) hlt).trans h1, (hb.cell (p := ⟨b, off + 1, none⟩) hlt).trans h2, (hb.cell (p := ⟨b, off + 2, none⟩) hlt).trans h3, h4, h5, h6.below hb⟩
def RTs (w : World) (A : Option Addr) (n : Nat) (ts : List Tx) : Prop :=
  ts.length = n ∧ (0 < n → ∃ b off, A = some ⟨b, off, none⟩ ∧ b < w.heap.size ∧ ∀ (k : Nat) (t : Tx), ts[k]? = some t → ET w b (off + k * 3) t)
theorem RTs.nil {w : World} {A : Option Addr} : RTs w A 0 [] := ⟨rfl, fun h => absurd h (by omega)⟩
theorem RTs.below {w w' : World} {A : Option Addr} {n : Nat} {ts : List Tx} (h : RTs w A n ts) (hb : Below w.heap.size w w') : RTs w' A n ts :=
  ⟨h.1, fun hn => by
    obtain ⟨b, off, e, hlt, hc⟩ := h.2 hn
    exact ⟨b, off, e, Nat.lt_of_lt_of_le hlt hb.size, fun k m hm => (hc k m hm).below hb hlt⟩⟩
theorem RTs.at_ {w : World} {A : Option Addr} {n : Nat} {ts : List Tx} (h : RTs w A n ts) {k : Nat} (hk : k < n) :
    ∃ b off f ys dn B kk d, A = some ⟨b, off, none⟩ ∧ b < w.heap.size ∧ ts[k]? = some (f, ys, dn) ∧ w.cell? ⟨b, off + k * 3, none⟩ = some (.int .i64 f) ∧ w.cell? ⟨b, off + k * 3 + 1, none⟩ = some (.slice B kk d) ∧ w.cell? ⟨b, off + k * 3 + 2, none⟩ = some (.bool dn) ∧ kk ≤ d ∧ d ≤ maxLen ∧ R3 w B kk ys := by
  obtain ⟨b, off, e, hlt, hc⟩ := h.2 (by omega)
  have hl : k < ts.length := by have := h.1; omega
  obtain ⟨⟨f, ys, dn⟩, hg⟩ : ∃ q, ts[k]? = some q := ⟨ts[k], List.getElem?_eq_getElem hl⟩
  obtain ⟨B, kk, d, h1, h2, h3, h4, h5, h6⟩ := hc k _ hg
  exact ⟨b, off, f, ys, dn, B, kk, d, e, hlt, hg, h1, h2, h3, h4, h5, h6⟩
def SmallT (ts : List Tx) : Prop := ∀ t ∈ ts, t.2.1.length ≤ 1048576
/-- A value that is a slice of n transactions. -/
def STs (w : World) (v : Value) (n : Nat) (ts : List Tx) : Prop := ∃ A c, v = .slice A n c ∧ n ≤ c ∧ n ≤ 1048576 ∧ RTs w A n ts
theorem STs.below {w w' : World} {v : Value} {n : Nat} {ts : List Tx} (h : STs w v n ts) (hb : Below w.heap.size w w') : STs w' v n ts := by
  obtain ⟨A, c, h1, h2, h3, h4⟩ := h; exact ⟨A, c, h1, h2, h3, h4.below hb⟩

/-- An element: its session, its operations (slice, how many, their cells), done. -/
abbrev El := Int × In × Bool
def cellsT : List El → List Value
  | [] => []
  | e :: es => .int .i64 e.1 :: e.2.1.1 :: .bool e.2.2 :: cellsT es
theorem cellsT_len : ∀ es : List El, (cellsT es).length = es.length * 3
  | [] => rfl
  | e :: es => by simp [cellsT, cellsT_len es]; omega
theorem cellsT_append : ∀ es fs : List El, cellsT (es ++ fs) = cellsT es ++ cellsT fs
  | [], fs => rfl
  | e :: es, fs => by simp [cellsT, cellsT_append es fs]
theorem cellsT_get : ∀ (es : List El) (k : Nat) (e : El), es[k]? = some e → (cellsT es)[k * 3]? = some (.int .i64 e.1) ∧ (cellsT es)[k * 3 + 1]? = some e.2.1.1 ∧ (cellsT es)[k * 3 + 2]? = some (.bool e.2.2)
  | [], k, e, h => by simp at h
  | a :: es, 0, e, h => by
    simp only [List.getElem?_cons_zero, Option.some.injEq] at h
    subst h; simp [cellsT]
  | a :: es, k + 1, e, h => by
    simp only [List.getElem?_cons_succ] at h
    have := cellsT_get es k e h
    simp only [cellsT, show (k + 1) * 3 = k * 3 + 1 + 1 + 1 by omega, List.getElem?_cons_succ]
    exact this
theorem cellsT_set0 : ∀ (es : List El) (k : Nat) (e : El) (x : Int), es[k]? = some e → (cellsT es).set (k * 3) (.int .i64 x) = cellsT (es.set k (x, e.2))
  | [], k, e, x, h => by simp at h
  | a :: es, 0, e, x, h => by
    simp only [List.getElem?_cons_zero, Option.some.injEq] at h
    subst h; simp [cellsT]
  | a :: es, k + 1, e, x, h => by
    simp only [List.getElem?_cons_succ] at h
    simp only [cellsT, show (k + 1) * 3 = k * 3 + 1 + 1 + 1 by omega, List.set_cons_succ, cellsT_set0 es k e x h]
theorem cellsT_set1 : ∀ (es : List El) (k : Nat) (e : El) (q : In), es[k]? = some e → (cellsT es).set (k * 3 + 1) q.1 = cellsT (es.set k (e.1, q, e.2.2))
  | [], k, e, x, h => by simp at h
  | a :: es, 0, e, x, h => by
    simp only [List.getElem?_cons_zero, Option.some.injEq] at h
    subst h; simp [cellsT]
  | a :: es, k + 1, e, x, h => by
    simp only [List.getElem?_cons_succ] at h
    simp only [cellsT, show (k + 1) * 3 + 1 = k * 3 + 1 + 1 + 1 + 1 by omega, List.set_cons_succ, cellsT_set1 es k e x h]
theorem cellsT_set2 : ∀ (es : List El) (k : Nat) (e : El) (x : Bool), es[k]? = some e → (cellsT es).set (k * 3 + 2) (.bool x) = cellsT (es.set k (e.1, e.2.1, x))
  | [], k, e, x, h => by simp at h
  | a :: es, 0, e, x, h => by
    simp only [List.getElem?_cons_zero, Option.some.injEq] at h
    subst h; simp [cellsT]
  | a :: es, k + 1, e, x, h => by
    simp only [List.getElem?_cons_succ] at h
    simp only [cellsT, show (k + 1) * 3 + 2 = k * 3 + 2 + 1 + 1 + 1 by omega, List.set_cons_succ, cellsT_set2 es k e x h]
/-- The slice of an element turns, its value stays: the row's cells stay. -/
theorem cellsT_same {es : List El} {k : Nat} {e : El} (h : es[k]? = some e) (q : In) (hq : q.1 = e.2.1.1) : cellsT (es.set k (e.1, q, e.2.2)) = cellsT es := by
  rw [← cellsT_set1 es k e q h, hq]
  have := (cellsT_get es k e h).2.1
  apply List.ext_getElem?
  intro i
  by_cases e1 : k * 3 + 1 = i
  · subst e1
    rw [List.getElem?_set_self (List.getElem?_eq_some_iff.1 this).1, this]
  · rw [List.getElem?_set_ne e1]

section
variable {w w' : World} {lo n : Nat} {v : Value} {es : List El}
theorem own_chg {S : Nat → Prop} {B s : Nat} {t : TypeId} {xs : List Value} (h : w.ownsRow B t s v n xs) (hc : Chg S w w') (hS : ∀ k, v.ownBlock = some k → ¬ S k) : w'.ownsRow B t s v n xs := by
  refine ⟨h.1, ?_⟩
  rcases h.2 with hn | ⟨g, cap, cur, rfl, hb, hgg, rest⟩
  · exact .inl hn
  · exact .inr ⟨g, cap, cur, rfl, hb, (hc.block g (Blk.lt hgg) (hS g rfl)).trans hgg, rest⟩
end
/-- What the elements say. -/
def SaysT (es : List El) (ts : List Tx) : Prop := es.map (fun e => (e.1, e.2.1.2.2, e.2.2)) = ts.map (fun t => (t.1, flat3 t.2.1, t.2.2))
theorem SaysT.at_ {es : List El} {ts : List Tx} (h : SaysT es ts) {k : Nat} {t : Tx} (hk : ts[k]? = some t) : ∃ e, es[k]? = some e ∧ e.1 = t.1 ∧ e.2.1.2.2 = flat3 t.2.1 ∧ e.2.2 = t.2.2 := by
  have h1 := congrArg (fun l => l[k]?) h
  simp only [List.getElem?_map, hk, Option.map_some] at h1
  cases he : es[k]? with
  | none => rw [he] at h1; cases h1
  | some e =>
    rw [he] at h1
    simp only [Option.map_some, Option.some.injEq, Prod.mk.injEq] at h1
    exact ⟨e, rfl, h1.1, h1.2.1, h1.2.2⟩
theorem SaysT.len {es : List El} {ts : List Tx} (h : SaysT es ts) : es.length = ts.length := by have := congrArg List.length h; simpa using this

end Go.Proofs.YtefopnkicllpeaaDoor
