/- Texts of numbers (plain): the digits, the spaces. -/
import Derived.Test.YtefopnkicllpeaaDoorSmall
import Derived.Lib.ItoaNum
namespace Go.Proofs.YtefopnkicllpeaaDoor
open Go.RowKit

/-- The bytes l as a string. -/
def str (l : List UInt8) : ByteArray := ⟨l.toArray⟩
theorem str_add (a b : List UInt8) : str a ++ str b = str (a ++ b) := by
  have h : ∀ (x y : ByteArray), x.data ++ y.data = (x ++ y).data := fun x y => by rw [ByteArray.data_append]
  have e : (str a ++ str b).data = (str (a ++ b)).data := by rw [← h]; simp [str]
  cases hx : (str a ++ str b) with
  | mk d => rw [hx] at e; cases hy : str (a ++ b) with
    | mk d' => rw [hy] at e; simp at e; rw [e]
theorem str_size (a : List UInt8) : (str a).size = a.length := by simp [str, ByteArray.size]
theorem str_inj {a b : List UInt8} (h : str a = str b) : a = b := by
  have := congrArg ByteArray.data h
  simpa [str] using this
def digs (n : Nat) : List UInt8 := Lib.decDigits n
theorem digs_lt {n : Nat} (h : n < 10) : digs n = [UInt8.ofNat (48 + n)] := by unfold digs; rw [Lib.decDigits, dif_pos h]
theorem digs_ge {n : Nat} (h : ¬ n < 10) : digs n = digs (n / 10) ++ [UInt8.ofNat (48 + n % 10)] := by
  have e : Lib.decDigits n = if _h : n < 10 then [UInt8.ofNat (48 + n)] else Lib.decDigits (n / 10) ++ [UInt8.ofNat (48 + n % 10)] := by rw [Lib.decDigits]
  unfold digs
  rw [e, dif_neg h]
theorem digs_len : ∀ (k n : Nat), n < 10 ^ (k + 1) → 1 ≤ (digs n).length ∧ (digs n).length ≤ k + 1
  | 0, n, h => by rw [digs_lt (by simpa using h)]; simp
  | k + 1, n, h => by
    by_cases h0 : n < 10
    · rw [digs_lt h0]; simp
    · have := digs_len k (n / 10) (by rw [Nat.pow_succ] at h; omega)
      rw [digs_ge h0]; simp; omega
theorem digs_no : ∀ (k n : Nat), n < 10 ^ (k + 1) → ∀ c ∈ digs n, c ≠ 32
  | 0, n, h, c, hc => by
    have h' : n < 10 := by simpa using h
    rw [digs_lt h'] at hc
    simp at hc; subst hc
    intro e
    have := congrArg UInt8.toNat e
    simp at this; omega
  | k + 1, n, h, c, hc => by
    by_cases h0 : n < 10
    · exact digs_no 0 n (by simpa using h0) c hc
    · rw [digs_ge h0] at hc
      rcases List.mem_append.1 hc with hc | hc
      · exact digs_no k (n / 10) (by rw [Nat.pow_succ] at h; omega) c hc
      · simp at hc; subst hc
        intro e
        have := congrArg UInt8.toNat e
        simp at this; omega
/-- What l1Number has when m is left of n. -/
def TailTo (n m : Nat) (s : List UInt8) : Prop := digs n = (if m < 10 then [] else digs (m / 10)) ++ s
theorem TailTo.zero (n : Nat) : TailTo n n [UInt8.ofNat (48 + n % 10)] := by
  unfold TailTo
  by_cases h : n < 10
  · rw [if_pos h, digs_lt h, Nat.mod_eq_of_lt h]; rfl
  · rw [if_neg h, digs_ge h]
theorem TailTo.step {n m : Nat} {s : List UInt8} (h : TailTo n m s) (hm : 9 < m) : TailTo n (m / 10) (UInt8.ofNat (48 + m / 10 % 10) :: s) := by
  unfold TailTo at h ⊢
  rw [if_neg (by omega)] at h
  by_cases h0 : m / 10 < 10
  · rw [if_pos h0, h, digs_lt h0, Nat.mod_eq_of_lt h0]; rfl
  · rw [if_neg h0, h, digs_ge h0]; simp
theorem TailTo.done {n m : Nat} {s : List UInt8} (h : TailTo n m s) (hm : ¬ 9 < m) : s = digs n := by
  unfold TailTo at h
  rw [if_pos (by omega)] at h; exact h.symm
def numB (xs : List Int) : Bool := xs.all (fun x => inB x 0 1000)
/-- The text of the first k numbers. -/
def textTo (xs : List Int) : Nat → List UInt8
  | 0 => []
  | k + 1 => textTo xs k ++ ((if 0 < k then [32] else []) ++ digs (xs.getD k 0).toNat)
def textL (xs : List Int) : List UInt8 := if numB xs then textTo xs xs.length else []
theorem textTo_succ {xs : List Int} {k : Nat} {x : Int} (hx : xs[k]? = some x) : textTo xs (k + 1) = textTo xs k ++ ((if 0 < k then [32] else []) ++ digs x.toNat) := by
  rw [textTo, List.getD_eq_getElem?_getD, hx]; rfl
theorem textTo_len {xs : List Int} : ∀ (k : Nat), (xs.take k).all (fun x => inB x 0 1000) = true → k ≤ xs.length → (textTo xs k).length ≤ 5 * k
  | 0, _, _ => by simp [textTo]
  | k + 1, h, hk => by
    have hx : xs[k]? = some xs[k] := List.getElem?_eq_getElem (by omega)
    rw [List.take_add_one, hx, List.all_append, Bool.and_eq_true] at h
    have h1 := textTo_len k h.1 (by omega)
    have h2 : inB xs[k] 0 1000 = true := by simpa using h.2
    rw [inB_iff] at h2
    have h3 := digs_len 3 xs[k].toNat (by omega)
    rw [textTo_succ hx]
    simp only [List.length_append]
    have h4 : (if 0 < k then [(32 : UInt8)] else []).length ≤ 1 := by split <;> simp
    omega
theorem all_snoc {xs : List Int} {k : Nat} {x : Int} (h : (xs.take k).all (fun x => inB x 0 1000) = true) (hx : xs[k]? = some x) (hp : inB x 0 1000 = true) : (xs.take (k + 1)).all (fun x => inB x 0 1000) = true := by
  rw [List.take_add_one, hx, List.all_append, h]; simp [hp]
theorem numB_no {xs : List Int} {k : Nat} {x : Int} (hx : xs[k]? = some x) (hp : inB x 0 1000 = false) : textL xs = [] := by
  have : numB xs = false := by
    unfold numB
    rw [← Bool.not_eq_true, List.all_eq_true]
    intro h
    have := h x (List.mem_of_getElem? hx)
    rw [hp] at this; cases this
  unfold textL; rw [this]; rfl
theorem numB_yes {xs : List Int} (h : (xs.take xs.length).all (fun x => inB x 0 1000) = true) : textL xs = textTo xs xs.length := by
  rw [List.take_length] at h
  unfold textL numB; rw [h]; rfl
theorem spaces_to {xs : List Int} : ∀ (k : Nat), (xs.take k).all (fun x => inB x 0 1000) = true → k ≤ xs.length → ((textTo xs k).filter (· == 32)).length = k - 1 ∧ (0 < k → textTo xs k ≠ [])
  | 0, _, _ => by simp [textTo]
  | k + 1, h, hk => by
    have hx : xs[k]? = some xs[k] := List.getElem?_eq_getElem (by omega)
    rw [List.take_add_one, hx, List.all_append, Bool.and_eq_true] at h
    have h1 := spaces_to k h.1 (by omega)
    have h2 : inB xs[k] 0 1000 = true := by simpa using h.2
    rw [inB_iff] at h2
    have h3 := digs_len 3 xs[k].toNat (by omega)
    have h5 : (digs xs[k].toNat).filter (· == 32) = [] := by
      rw [List.filter_eq_nil_iff]
      intro c hc
      have := digs_no 3 xs[k].toNat (by omega) c hc
      simpa using this
    rw [textTo_succ hx]
    refine ⟨?_, fun _ e => ?_⟩
    · simp only [List.filter_append, h5, List.append_nil, List.length_append, h1.1]
      by_cases hk0 : 0 < k
      · rw [if_pos hk0]; simp; omega
      · rw [if_neg hk0]; simp; omega
    · have := congrArg List.length e
      simp only [List.length_append, List.length_nil] at this
      omega

end Go.Proofs.YtefopnkicllpeaaDoor
