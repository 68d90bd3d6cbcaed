/- Slices of structs of three ints: read (R3, S3), owned (O3). -/
import Derived.Test.YtefopnkicllpeaaDoorLib2
namespace Go.Proofs.YtefopnkicllpeaaDoor
open Go.RowKit

abbrev T3 := Int × Int × Int
/-- The cells of a row of triples. -/
def flat3 : List T3 → List Int
  | [] => []
  | (x, y, z) :: ts => x :: y :: z :: flat3 ts
theorem flat3_len : ∀ ts : List T3, (flat3 ts).length = ts.length * 3
  | [] => rfl
  | (x, y, z) :: ts => by simp [flat3, flat3_len ts]; omega
theorem flat3_get : ∀ (ts : List T3) (k : Nat) (x y z : Int), ts[k]? = some (x, y, z) → (flat3 ts)[k * 3]? = some x ∧ (flat3 ts)[k * 3 + 1]? = some y ∧ (flat3 ts)[k * 3 + 2]? = some z
  | [], k, x, y, z, h => by simp at h
  | (a, b, c) :: ts, 0, x, y, z, h => by
    simp only [List.getElem?_cons_zero, Option.some.injEq, Prod.mk.injEq] at h
    obtain ⟨rfl, rfl, rfl⟩ := h
    simp [flat3]
  | (a, b, c) :: ts, k + 1, x, y, z, h => by
    simp only [List.getElem?_cons_succ] at h
    have := flat3_get ts k x y z h
    simp only [flat3, show (k + 1) * 3 = k * 3 + 1 + 1 + 1 by omega, List.getElem?_cons_succ]
    exact this

/-- A row at A of n triples ts. -/
def R3 (w : World) (A : Option Addr) (n : Nat) (ts : List T3) : Prop :=
  ts.length = n ∧ (0 < n → ∃ b off, A = some ⟨b, off, none⟩ ∧ b < w.heap.size ∧ ∀ (k : Nat) (x : Int), (flat3 ts)[k]? = some x → w.cell? ⟨b, off + k, none⟩ = some (.int .i64 x))
theorem R3.len {w : World} {A : Option Addr} {n : Nat} {ts : List T3} (h : R3 w A n ts) : ts.length = n := h.1
theorem R3.nil {w : World} {A : Option Addr} : R3 w A 0 [] := ⟨rfl, fun h => absurd h (by omega)⟩
theorem R3.below {w w' : World} {A : Option Addr} {n : Nat} {ts : List T3} (h : R3 w A n ts) (hb : Below w.heap.size w w') : R3 w' A n ts :=
  ⟨h.1, fun hn => by
    obtain ⟨b, off, e, hlt, hc⟩ := h.2 hn
    exact ⟨b, off, e, Nat.lt_of_lt_of_le hlt hb.size, fun k x hx => (hb.cell (p := ⟨b, off + k, none⟩) hlt).trans (hc k x hx)⟩⟩
theorem R3.at_ {w : World} {A : Option Addr} {n : Nat} {ts : List T3} (h : R3 w A n ts) {k : Nat} (hk : k < n) :
    ∃ b off x y z, A = some ⟨b, off, none⟩ ∧ b < w.heap.size ∧ ts[k]? = some (x, y, z) ∧ w.cell? ⟨b, off + k * 3, none⟩ = some (.int .i64 x) ∧ w.cell? ⟨b, off + k * 3 + 1, none⟩ = some (.int .i64 y) ∧ w.cell? ⟨b, off + k * 3 + 2, none⟩ = some (.int .i64 z) := by
  obtain ⟨b, off, e, hlt, hc⟩ := h.2 (by omega)
  have hl : k < ts.length := by have := h.1; omega
  obtain ⟨⟨x, y, z⟩, hg⟩ : ∃ q, ts[k]? = some q := ⟨ts[k], List.getElem?_eq_getElem hl⟩
  obtain ⟨h1, h2, h3⟩ := flat3_get ts k x y z hg
  exact ⟨b, off, x, y, z, e, hlt, hg, hc _ _ h1, by rw [Nat.add_assoc]; exact hc _ _ h2, by rw [Nat.add_assoc]; exact hc _ _ h3⟩

/-- The value v is a slice of n triples that reads as ts. -/
def S3 (w : World) (v : Value) (n : Nat) (ts : List T3) : Prop := ∃ A c, v = .slice A n c ∧ n ≤ c ∧ n ≤ 1048576 ∧ R3 w A n ts
theorem S3.below {w w' : World} {v : Value} {n : Nat} {ts : List T3} (h : S3 w v n ts) (hb : Below w.heap.size w w') : S3 w' v n ts := by
  obtain ⟨A, c, h1, h2, h3, h4⟩ := h
  exact ⟨A, c, h1, h2, h3, h4.below hb⟩
theorem S3.of_args {w : World} {A : Option Addr} {n c : Nat} {ts : List T3} (hnc : n ≤ c) (hn : n ≤ 1048576) (h : R3 w A n ts) : S3 w (.slice A n c) n ts := ⟨A, c, rfl, hnc, hn, h⟩
theorem S3.alloc {w : World} {v : Value} {n : Nat} {ts : List T3} (h : S3 w v n ts) (o : Obj) : S3 (w.alloc o) v n ts := h.below ((Below.refl _ _).alloc (Nat.le_refl _) _)
theorem S3.drew {w : World} {v : Value} {n : Nat} {ts : List T3} (h : S3 w v n ts) : S3 w.drew v n ts := h.below (Below.refl _ _).drew
theorem S3.shape {w : World} {v : Value} {n : Nat} {ts : List T3} (h : S3 w v n ts) : ∃ A c, v = .slice A n c := by obtain ⟨A, c, h1, _⟩ := h; exact ⟨A, c, h1⟩

/-- The slice value v, n elements of type t of three cells, is the call's own. -/
def O3 (t : TypeId) (w : World) (B : Nat) (v : Value) (n : Nat) (ts : List T3) : Prop := w.ownsRow B t 3 v n ((flat3 ts).map (Value.int .i64)) ∧ n ≤ 1048576
section
variable {t : TypeId} {w w' : World} {B B' : Nat} {v : Value} {n : Nat} {ts : List T3}
theorem O3.len (h : O3 t w B v n ts) : ts.length = n := by have := h.1.1; simp [flat3_len] at this; omega
theorem O3.below (h : O3 t w B v n ts) (hb : Below w.heap.size w w') : O3 t w' B v n ts :=
  ⟨h.1.kept (row := none) ⟨hb.os, hb.tape, hb.output, hb.size, fun k hk _ => hb.block k hk⟩ (by cases hv : v.ownBlock <;> simp), h.2⟩
theorem O3.mono (h : O3 t w B v n ts) (hB : B' ≤ B) : O3 t w B' v n ts := by
  obtain ⟨⟨h1, h2⟩, h3⟩ := h
  refine ⟨⟨h1, ?_⟩, h3⟩
  rcases h2 with h2 | ⟨g, cap, cur, hv, hb, r⟩
  · exact .inl h2
  · exact .inr ⟨g, cap, cur, hv, by omega, r⟩
theorem O3.drew (h : O3 t w B v n ts) : O3 t w.drew B v n ts := ⟨h.1.drew, h.2⟩
theorem O3.of_blk {g : Nat} {cs : Array Value} (h : Blk w g t cs) (hB : B ≤ g) (hx : cs.toList = (flat3 ts).map (Value.int .i64)) (hn : ts.length = n) (hm : n ≤ 1048576) :
    O3 t w B (.slice (some ⟨g, 0, none⟩) n n) n ts := by
  subst hn
  have hsz : cs.size = ts.length * 3 := by rw [← Array.length_toList, hx]; simp [flat3_len]
  exact ⟨⟨by simp [flat3_len], .inr ⟨g, ts.length, cs, rfl, hB, h, Nat.le_refl _, by simp [maxLen]; omega, hsz, by rw [hx, List.take_of_length_le (by simp [flat3_len])]⟩⟩, hm⟩
theorem O3.s3 (h : O3 t w B v n ts) : S3 w v n ts := by
  have hl := h.len
  obtain ⟨⟨h1, h2⟩, h3⟩ := h
  rcases h2 with ⟨rfl, hn⟩ | ⟨g, cap, cur, rfl, hB, hg, hc, hm, hs, ht⟩
  · subst hn
    have hx : ts = [] := List.eq_nil_of_length_eq_zero hl
    subst hx
    exact ⟨none, 0, rfl, by simp, by simp, R3.nil⟩
  · refine ⟨some ⟨g, 0, none⟩, cap, rfl, hc, h3, hl, fun _ => ⟨g, 0, rfl, Blk.lt hg, fun k x hx => ?_⟩⟩
    rw [Blk.cell (t := t) (cs := cur) hg]
    have : (cur.toList.take (n * 3))[k]? = some (.int .i64 x) := by rw [ht]; simp [hx]
    rw [List.getElem?_take] at this
    split at this
    · simpa using this
    · cases this
end

end Go.Proofs.YtefopnkicllpeaaDoor
