/- Contracts of the laws' own helpers on []int. -/
import Derived.Test.YtefopnkicllpeaaDoorLib
import Derived.Laws.MakeOwn
import Derived.Laws.Entries
import Derived.Deep.QuietTactic
import Derived.BigQuiet
namespace Go.Proofs.YtefopnkicllpeaaDoor
open Go.RowKit

theorem run_make_rowN {P : Program} (t e : TypeId) (i : TypeInfo) (z : Value) (ht : P.underlying t = some (.slice e)) (hi : P.info? e = some i) (hz : i.zero = some z)
    (kl kc : IntKind) (n c : Nat) (hnc : n ≤ c) (hbytes : i.bytes * c ≤ 281474976710656) (h63 : c ≤ 9223372036854775807) (w : World) :
    (Instr.makeSlice t (.int kl (n : Int)) (.int kc (c : Int))).run P w = .ok (.slice (some ⟨w.heap.size, 0, none⟩) n c) (w.alloc (.cells (madeCells z.cells (c * i.size)) e)) := by
  have hb : (i.bytes : Int) * (c : Int) ≤ 281474976710656 := by
    have h : ((i.bytes * c : Nat) : Int) ≤ 281474976710656 := by omega
    rwa [Int.natCast_mul] at h
  have hr := run_make (P := P) w t e i z ht hi hz kl kc n c (by omega) (by omega) hb (by omega)
  simp only [Int.toNat_natCast] at hr
  exact hr
theorem run_make_ints (n : Nat) (hn : n ≤ 1048576) (w : World) :
    (Instr.makeSlice 78 (.int .i64 (n : Int)) (.int .i64 (n : Int))).run Tryd.prog w = .ok (.slice (some ⟨w.heap.size, 0, none⟩) n n) (w.alloc (.cells ((List.replicate n (Value.int .i64 0)).toArray) 3)) := by
  obtain ⟨i, hi, hz, hs, hb⟩ := info_parts intInfo
  rw [run_make_rowN 78 3 i (.int .i64 0) Tryd.underlying78 hi hz .i64 .i64 n n (Nat.le_refl _) (by rw [hb]; omega) (by omega) w]
  have e1 : madeCells (Value.int .i64 0).cells (n * i.size) = (List.replicate n (Value.int .i64 0)).toArray := by
    rw [hs, Nat.mul_one, ← Array.toArray_toList (xs := madeCells _ _)]
    rw [show (Value.int .i64 0).cells = #[Value.int .i64 0] from rfl, toList_madeCells_one]
  rw [e1]

/-- What a copy of xs looks like behind k rounds. -/
def cpy (xs : List Int) (k : Nat) : List Value := (xs.take k).map (Value.int .i64) ++ List.replicate (xs.length - k) (Value.int .i64 0)
theorem cpy_zero (xs : List Int) : cpy xs 0 = List.replicate xs.length (Value.int .i64 0) := by simp [cpy]
theorem cpy_full (xs : List Int) : cpy xs xs.length = xs.map (Value.int .i64) := by simp [cpy]
theorem cpy_step (xs : List Int) (k : Nat) (x : Int) (h : xs[k]? = some x) : (cpy xs k).set k (.int .i64 x) = cpy xs (k + 1) := by
  obtain ⟨hk, hx⟩ := List.getElem?_eq_some_iff.1 h
  unfold cpy
  rw [List.take_succ_eq_append_getElem hk, hx, show xs.length - k = (xs.length - (k + 1)) + 1 from by omega, List.replicate_succ]
  rw [List.set_append_right _ _ (by simp; omega)]
  simp [List.length_take, Nat.min_eq_left (Nat.le_of_lt hk)]
theorem cpy_len (xs : List Int) (k : Nat) (h : k ≤ xs.length) : (cpy xs k).length = xs.length := by simp [cpy]; omega


theorem take_snoc_eq (xs ys : List Int) (k : Nat) (x : Int) (h : xs.take k = ys.take k) (hx : xs[k]? = some x) (hy : ys[k]? = some x) : xs.take (k + 1) = ys.take (k + 1) := by
  rw [List.take_add_one, List.take_add_one, h, hx, hy]


/-- markIntS writes k, k + 1, .. into a slice of the call's own. -/
def mrk (xs : List Int) (k : Int) (j : Nat) : List Int := upFrom k j ++ xs.drop j
theorem mrk_zero (xs : List Int) (k : Int) : mrk xs k 0 = xs := by simp [mrk, upFrom]
theorem upFrom_snoc (n : Nat) : ∀ k : Int, upFrom k (n + 1) = upFrom k n ++ [k + n] := by
  induction n with
  | zero => intro k; simp [upFrom]
  | succ n ih =>
    intro k
    rw [upFrom, ih (k + 1), upFrom, List.cons_append]
    congr 3
    omega
theorem mrk_step (xs : List Int) (k : Int) (j : Nat) (h : j < xs.length) : (mrk xs k j).set j (k + j) = mrk xs k (j + 1) := by
  unfold mrk
  rw [upFrom_snoc, List.set_append_right _ _ (by rw [upFrom_length]; omega), upFrom_length, Nat.sub_self, List.drop_eq_getElem_cons h, List.set_cons_zero, List.append_assoc]
  rfl
theorem mrk_full (xs : List Int) (k : Int) : mrk xs k xs.length = upFrom k xs.length := by simp [mrk]
theorem mrk_len (xs : List Int) (k : Int) (j : Nat) (h : j ≤ xs.length) : (mrk xs k j).length = xs.length := by simp [mrk, upFrom_length]; omega



end Go.Proofs.YtefopnkicllpeaaDoor
