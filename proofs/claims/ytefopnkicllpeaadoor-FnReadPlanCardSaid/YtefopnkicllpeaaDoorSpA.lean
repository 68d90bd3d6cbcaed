/- Parts of a text between "; " (plain); pieces of a string. -/
import Derived.Test.YtefopnkicllpeaaDoorNumP
import Derived.Test.YtefopnkicllpeaaDoorInts
import Derived.Lib.IndexMore
namespace Go.Proofs.YtefopnkicllpeaaDoor
open Go.RowKit

/-- The parts of a text, by a fuel. -/
def partsF (sep : List UInt8) : Nat → List UInt8 → List (List UInt8)
  | 0, s => [s]
  | f + 1, s => if Lib.index s sep < 0 then [s] else s.take (Lib.index s sep).toNat :: partsF sep f (s.drop ((Lib.index s sep).toNat + sep.length))
def partsL (sep s : List UInt8) : List (List UInt8) := partsF sep s.length s
theorem partsF_more {sep : List UInt8} (h0 : sep ≠ []) : ∀ (f g : Nat) (s : List UInt8), s.length ≤ f → s.length ≤ g → partsF sep f s = partsF sep g s
  | 0, 0, s, _, _ => rfl
  | 0, g + 1, s, h, _ => by
    have : s = [] := List.eq_nil_of_length_eq_zero (by omega)
    subst this
    have hi : Lib.index [] sep = -1 := by
      unfold Lib.index
      cases sep with
      | nil => exact absurd rfl h0
      | cons a t => rfl
    simp [partsF, hi]
  | f + 1, 0, s, _, h => by
    have : s = [] := List.eq_nil_of_length_eq_zero (by omega)
    subst this
    have hi : Lib.index [] sep = -1 := by
      unfold Lib.index
      cases sep with
      | nil => exact absurd rfl h0
      | cons a t => rfl
    simp [partsF, hi]
  | f + 1, g + 1, s, h1, h2 => by
    simp only [partsF]
    split
    · rfl
    · rename_i hn
      have h3 : 0 < sep.length := by cases sep with
        | nil => exact absurd rfl h0
        | cons a t => simp
      have hr := Lib.index_room s sep (by omega)
      congr 1
      exact partsF_more h0 f g _ (by rw [List.length_drop]; omega) (by rw [List.length_drop]; omega)
theorem partsL_end {sep s : List UInt8} (h : Lib.index s sep < 0) : partsL sep s = [s] := by
  unfold partsL
  cases hs : s.length with
  | zero => rfl
  | succ f => simp only [partsF]; rw [if_pos h]
theorem partsL_cut {sep s : List UInt8} (h0 : sep ≠ []) {i : Nat} (h : Lib.index s sep = i) : partsL sep s = s.take i :: partsL sep (s.drop (i + sep.length)) := by
  have h3 : 0 < sep.length := by cases sep with
    | nil => exact absurd rfl h0
    | cons a t => simp
  have hr := Lib.index_room s sep (by omega)
  unfold partsL
  cases hs : s.length with
  | zero => omega
  | succ f =>
    simp only [partsF]
    rw [if_neg (by omega), h, Int.toNat_natCast]
    congr 1
    exact partsF_more h0 f _ _ (by rw [List.length_drop]; omega) (Nat.le_refl _)
theorem str_extract (l : List UInt8) (a b : Nat) : (str l).extract a b = str ((l.take b).drop a) := by
  have h : ((str l).extract a b).data = (str ((l.take b).drop a)).data := by
    rw [ByteArray.data_extract]
    simp [str, List.drop_take]
  cases hx : (str l).extract a b with
  | mk d => rw [hx] at h; cases hy : str ((l.take b).drop a) with
    | mk d' => rw [hy] at h; simp at h; rw [h]
/-- 's[:i]', 's[i:]'. -/
theorem slice_hi (l : List UInt8) {i : Nat} (h : i ≤ l.length) (w : World) : (Instr.slice 9 (.string (str l)) none (some (.int .i64 (i : Int))) none).run Tryd.prog w = .ok (.string (str (l.take i))) w := by
  have hs := str_size l
  have h2 : i ≤ (str l).size := by omega
  simp [Instr.slice, Instr.sliceBounds, Instr.sliceBound, run_underlying Tryd.underlying9, asIntOf, h2]
  rw [str_extract]; simp
theorem slice_lo (l : List UInt8) {i : Nat} (h : i ≤ l.length) (w : World) : (Instr.slice 9 (.string (str l)) (some (.int .i64 (i : Int))) none none).run Tryd.prog w = .ok (.string (str (l.drop i))) w := by
  have hs := str_size l
  have h2 : i ≤ (str l).size := by omega
  simp [Instr.slice, Instr.sliceBounds, Instr.sliceBound, run_underlying Tryd.underlying9, asIntOf, h2]
  rw [str_extract, hs]; simp

end Go.Proofs.YtefopnkicllpeaaDoor
