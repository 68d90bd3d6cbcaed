/- Words for DeliverOrder. -/
import Derived.Test.YtopjdidigfdhbaaDoorDeliverP
import Derived.Test.YtopjdidigfdhbaaDoorMsgsS
import Derived.BigRegion
namespace Go.Proofs.YtopjdidigfdhbaaDoor
open Go.RowKit

def doneC (n : Nat) (os : List Nat) : Array Value := ((List.range n).map fun i => Value.bool (os.contains i)).toArray
theorem doneC_get {n k : Nat} {os : List Nat} (hk : k < n) : (doneC n os)[k]? = some (.bool (os.contains k)) := by simp [doneC, hk]
theorem doneC_set {n k : Nat} {os : List Nat} : (doneC n os).setIfInBounds k (.bool true) = doneC n (os ++ [k]) := by
  unfold doneC
  apply Array.ext'
  rw [Array.toList_setIfInBounds]
  apply List.ext_getElem?
  intro i
  by_cases e : k = i
  · subst e
    by_cases h : k < n
    · rw [List.getElem?_set_self (by simpa using h)]; simp [h]
    · rw [List.getElem?_eq_none (by simp; omega), List.getElem?_eq_none (by simp; omega)]
  · rw [List.getElem?_set_ne e]
    by_cases h : i < n
    · simp [h, Ne.symm e]
    · rw [List.getElem?_eq_none (by simp; omega), List.getElem?_eq_none (by simp; omega)]
theorem doneC_nil (n : Nat) : madeCells #[.bool false] (n * 1) = doneC n [] := by
  unfold madeCells doneC
  apply Array.ext'
  simp
  intro a _
  rw [Nat.mod_one]; rfl
theorem infoBool : (Tryd.prog.info? 4).map (fun i => (i.zero, i.size, i.bytes)) = some (some (.bool false), 1, 1) := by kernel_rfl
theorem run_make_bools (n : Nat) (hn : n ≤ 1048576) (w : World) :
    (Instr.makeSlice 88 (.int .i64 (n : Int)) (.int .i64 (n : Int))).run Tryd.prog w = .ok (.slice (some ⟨w.heap.size, 0, none⟩) n n) (w.alloc (.cells (doneC n []) 4)) := by
  obtain ⟨i, hi, hz, hs, hb⟩ := info_parts infoBool
  rw [run_make_rowN 88 4 i (.bool false) Tryd.underlying88 hi hz .i64 .i64 n n (Nat.le_refl _) (by rw [hb]; omega) (by omega) w, hs, ← doneC_nil]
  rfl
theorem make4' (w : World) : (Instr.makeSlice 38 (.int .i64 4) (.int .i64 4)).run Tryd.prog w = .ok (.slice (some ⟨w.heap.size, 0, none⟩) 4 4) (w.alloc (.cells #[.int .i64 0, .int .i64 0, .int .i64 0, .int .i64 0] 3)) := run_make_ints 4 (by omega) w
theorem own4' (w : World) : OI (w.alloc (.cells #[.int .i64 0, .int .i64 0, .int .i64 0, .int .i64 0] 3)) w.heap.size (.slice (some ⟨w.heap.size, 0, none⟩) 4 4) 4 [0, 0, 0, 0] := OI.of_blk (Blk.new w _ _) (Nat.le_refl _) rfl rfl (by omega)
theorem OI.drewN {w : World} {B : Nat} {v : Value} {n : Nat} {xs : List Int} (h : OI w B v n xs) (k : Nat) : OI (w.drewN k) B v n xs := h
def natsI (os : List Nat) : List Int := os.map fun (i : Nat) => (i : Int)
def slen : Value → Nat
  | .slice _ n _ => n
  | _ => 0
theorem canB_old {ms : Ms} {os : List Nat} {k : Nat} (h : os.contains k = true) : canB ms os k = false := by simp [canB]; intro h2; simp at h; exact absurd h h2
theorem canB_eq {ms : Ms} {os : List Nat} {k : Nat} {f : Int} {ys : List Int} (h : os.contains k = false) (ha : atM ms k = (f, ys)) : canB ms os k = mayB (seenV ms os) f ys := by
  unfold canB; rw [h, ha]; rfl
theorem less_step {j k : Nat} {p : Nat → Prop} (h : ∀ i, i < j → p i) (hj : p j) (hk : k = j + 1) : ∀ i, i < k → p i := fun i hi => by
  subst hk
  by_cases e : i = j
  · exact e ▸ hj
  · exact h i (by omega)

theorem OI.set_ne {w : World} {B n : Nat} {v : Value} {xs : List Int} (h : OI w B v n xs) {p : Addr} (hp : v.ownBlock ≠ some p.block) (u : Value) : OI (w.setCell p u) B v n xs :=
  h.grown (grown_setCell (World.grownBy.refl w (some p.block)) (.inl rfl) u) (.inr hp)
theorem natsI_snoc (os : List Nat) (k : Nat) : natsI (os ++ [k]) = natsI os ++ [(k : Int)] := by simp [natsI]
theorem measD {n l l' k k' : Nat} (hl : l' = l + 1) (hn : l' ≤ n) (hk : k ≤ n) (hk' : k' = 0) : (n - l') * (n + 2) + (n - k') < (n - l) * (n + 2) + (n - k) := by
  subst hl hk'
  obtain ⟨a, rfl⟩ : ∃ a, n = a + (l + 1) := ⟨n - (l + 1), by omega⟩
  rw [show a + (l + 1) - (l + 1) = a by omega, show a + (l + 1) - l = a + 1 by omega, Nat.add_mul]
  omega
end Go.Proofs.YtopjdidigfdhbaaDoor
