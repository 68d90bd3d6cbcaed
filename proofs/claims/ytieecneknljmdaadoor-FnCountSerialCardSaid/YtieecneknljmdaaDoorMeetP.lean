/- Transactions that meet, counted in pairs (plain). -/
import Derived.Test.YtieecneknljmdaaDoorHistP
import Derived.Laws.BitsAllLaws
import Derived.Laws.Bits64
namespace Go.Proofs.YtieecneknljmdaaDoor
open Go.RowKit

/-- Two operations on one key, at least one of which writes. -/
def hitB (o p : T3) : Bool := (o.2.1 == p.2.1) && ((o.1 == 2) || (p.1 == 2))
def meetB (a b : List T3) : Bool := a.any fun o => b.any fun p => hitB o p
def opsAt (ts : List Tx) (x : Int) : List T3 := opsOf ts x.toNat
def cntM (ts : List Tx) (a : Int) (l : List Int) : Nat := (l.filter fun b => meetB (opsAt ts a) (opsAt ts b)).length
def meetsR (ts : List Tx) : List Int → Nat
  | [] => 0
  | a :: l => meetsR ts l + cntM ts a l
/-- How many pairs of a list meet. -/
def meetsL (ts : List Tx) (l : List Int) : Nat := meetsR ts l.reverse
theorem cntM_snoc (ts : List Tx) (a b : Int) (l : List Int) : cntM ts a (l ++ [b]) = cntM ts a l + if meetB (opsAt ts a) (opsAt ts b) then 1 else 0 := by
  unfold cntM
  rw [List.filter_append, List.length_append]
  congr 1
  by_cases h : meetB (opsAt ts a) (opsAt ts b) = true
  · simp [h]
  · simp [h]
theorem cntM_le (ts : List Tx) (a : Int) (l : List Int) : cntM ts a l ≤ l.length := List.length_filter_le _ _
theorem cntM_rev (ts : List Tx) (a : Int) (l : List Int) : cntM ts a l.reverse = cntM ts a l := by
  unfold cntM; rw [List.filter_reverse, List.length_reverse]
theorem meetsL_snoc (ts : List Tx) (a : Int) (l : List Int) : meetsL ts (l ++ [a]) = meetsL ts l + cntM ts a l := by
  unfold meetsL
  rw [List.reverse_append]
  show meetsR ts l.reverse + cntM ts a l.reverse = _
  rw [cntM_rev]
theorem meetsL_nil (ts : List Tx) : meetsL ts [] = 0 := rfl
theorem meetsL_le (ts : List Tx) (l : List Int) : 2 * meetsL ts l ≤ l.length * (l.length - 1) := by
  induction l using snoc_ind with
  | nil => simp [meetsL_nil]
  | append_singleton l a ih =>
    rw [meetsL_snoc, List.length_append]
    have h1 := cntM_le ts a l
    have h2 : (l.length + 1) * (l.length + 1 - 1) = l.length * (l.length - 1) + 2 * l.length := by
      cases hl : l.length with
      | zero => rfl
      | succ k =>
        simp only [Nat.add_sub_cancel]
        rw [Nat.add_mul (k + 1) 1 (k + 1), Nat.one_mul, Nat.mul_succ (k + 1) k]
        omega
    show 2 * (meetsL ts l + cntM ts a l) ≤ (l.length + 1) * (l.length + 1 - 1)
    rw [h2]; omega
theorem meetsL_small (ts : List Tx) {l : List Int} (h : l.length ≤ 6) : meetsL ts l ≤ 15 := by
  have h1 := meetsL_le ts l
  have h2 : l.length * (l.length - 1) ≤ 6 * 5 := Nat.mul_le_mul h (by omega)
  omega
def meetV (ts : List Tx) : Int := if histB ts then (meetsL ts (doneL ts) : Int) else -1
theorem meetB_hit {a b : List T3} {k j : Nat} {o p : T3} (ho : a[k]? = some o) (hp : b[j]? = some p) (h : hitB o p = true) : meetB a b = true := by
  unfold meetB
  rw [List.any_eq_true]
  exact ⟨o, List.mem_of_getElem? ho, List.any_eq_true.2 ⟨p, List.mem_of_getElem? hp, h⟩⟩
/-- Nothing before place j of b meets o. -/
theorem meetB_none {a b : List T3} (h : ∀ o ∈ a, (b.any fun p => hitB o p) = false) : meetB a b = false := by
  unfold meetB
  rw [List.any_eq_false]
  intro o ho; rw [h o ho]; simp
/-- The bits of three keys. -/
def bit3 (a b c : Bool) : Nat := (if a then 1 else 0) + (if b then 2 else 0) + (if c then 4 else 0)
def usesK (os : List T3) (k : Int) : Bool := os.any fun o => o.2.1 == k
def wroteK (os : List T3) (k : Int) : Bool := os.any fun o => (o.1 == 2) && (o.2.1 == k)
def maskU (os : List T3) : Nat := bit3 (usesK os 0) (usesK os 1) (usesK os 2)
def maskW (os : List T3) : Nat := bit3 (wroteK os 0) (wroteK os 1) (wroteK os 2)
theorem usesK_snoc (os : List T3) (o : T3) (k : Int) : usesK (os ++ [o]) k = (usesK os k || o.2.1 == k) := by simp [usesK]
theorem wroteK_snoc (os : List T3) (o : T3) (k : Int) : wroteK (os ++ [o]) k = (wroteK os k || ((o.1 == 2) && (o.2.1 == k))) := by simp [wroteK]
theorem bit3_or (a b c a' b' c' : Bool) : bit3 a b c ||| bit3 a' b' c' = bit3 (a || a') (b || b') (c || c') := by
  cases a <;> cases b <;> cases c <;> cases a' <;> cases b' <;> cases c' <;> rfl
theorem bit3_and (a b c a' b' c' : Bool) : bit3 a b c &&& bit3 a' b' c' = bit3 (a && a') (b && b') (c && c') := by
  cases a <;> cases b <;> cases c <;> cases a' <;> cases b' <;> cases c' <;> rfl
theorem bit3_zero (a b c : Bool) : (bit3 a b c == 0) = !(a || b || c) := by
  cases a <;> cases b <;> cases c <;> rfl
theorem bit3_lt (a b c : Bool) : bit3 a b c < 8 := by
  cases a <;> cases b <;> cases c <;> decide
/-- A step of the bits. -/
theorem maskU_snoc (os : List T3) {x y z : Int} (hy : 0 ≤ y ∧ y ≤ 2) : maskU (os ++ [(x, y, z)]) = maskU os ||| 2 ^ y.toNat := by
  have h : y = 0 ∨ y = 1 ∨ y = 2 := by omega
  unfold maskU
  rw [usesK_snoc, usesK_snoc, usesK_snoc]
  rcases h with rfl | rfl | rfl
  · rw [show (2 ^ (0 : Int).toNat : Nat) = bit3 true false false from rfl, bit3_or]; rfl
  · rw [show (2 ^ (1 : Int).toNat : Nat) = bit3 false true false from rfl, bit3_or]; rfl
  · rw [show (2 ^ (2 : Int).toNat : Nat) = bit3 false false true from rfl, bit3_or]; rfl
theorem maskW_snoc_w (os : List T3) {y z : Int} (hy : 0 ≤ y ∧ y ≤ 2) : maskW (os ++ [(2, y, z)]) = maskW os ||| 2 ^ y.toNat := by
  have h : y = 0 ∨ y = 1 ∨ y = 2 := by omega
  unfold maskW
  rw [wroteK_snoc, wroteK_snoc, wroteK_snoc]
  rcases h with rfl | rfl | rfl
  · rw [show (2 ^ (0 : Int).toNat : Nat) = bit3 true false false from rfl, bit3_or]; rfl
  · rw [show (2 ^ (1 : Int).toNat : Nat) = bit3 false true false from rfl, bit3_or]; rfl
  · rw [show (2 ^ (2 : Int).toNat : Nat) = bit3 false false true from rfl, bit3_or]; rfl
theorem maskW_snoc_r (os : List T3) {x y z : Int} (hx : x ≠ 2) : maskW (os ++ [(x, y, z)]) = maskW os := by
  have e : (x == 2) = false := by simpa using hx
  unfold maskW
  rw [wroteK_snoc, wroteK_snoc, wroteK_snoc]
  simp [e]
/-- The bits tell whether two transactions meet. -/
theorem meet_bits {a b : List T3} (ha : ∀ o ∈ a, 0 ≤ o.2.1 ∧ o.2.1 ≤ 2) : ((maskU a &&& maskW b) ||| (maskW a &&& maskU b) == 0) = !meetB a b := by
  unfold maskU maskW
  rw [bit3_and, bit3_and, bit3_or, bit3_zero]
  congr 1
  rw [Bool.eq_iff_iff]
  constructor
  · intro h
    have key : ∀ k : Int, ((usesK a k && wroteK b k) || (wroteK a k && usesK b k)) = true → meetB a b = true := by
      intro k hk
      unfold usesK wroteK at hk
      unfold meetB hitB
      simp only [Bool.or_eq_true, Bool.and_eq_true, List.any_eq_true, beq_iff_eq] at hk ⊢
      rcases hk with ⟨⟨o, ho, h1⟩, p, hp, h2, h3⟩ | ⟨⟨o, ho, h1, h2⟩, p, hp, h3⟩
      · exact ⟨o, ho, p, hp, by rw [h1, h3], .inr h2⟩
      · exact ⟨o, ho, p, hp, by rw [h2, h3], .inl h1⟩
    rw [Bool.or_eq_true, Bool.or_eq_true] at h
    rcases h with (h | h) | h
    · exact key 0 h
    · exact key 1 h
    · exact key 2 h
  · intro h
    unfold meetB hitB at h
    simp only [Bool.or_eq_true, Bool.and_eq_true, List.any_eq_true, beq_iff_eq] at h
    obtain ⟨o, ho, p, hp, h1, h2⟩ := h
    have hk := ha o ho
    have key : ∀ k : Int, o.2.1 = k → ((usesK a k && wroteK b k) || (wroteK a k && usesK b k)) = true := by
      intro k hk
      unfold usesK wroteK
      simp only [Bool.or_eq_true, Bool.and_eq_true, List.any_eq_true, beq_iff_eq]
      rcases h2 with h2 | h2
      · right; exact ⟨⟨o, ho, h2, hk⟩, p, hp, by rw [← h1, hk]⟩
      · left; exact ⟨⟨o, ho, hk⟩, p, hp, h2, by rw [← h1, hk]⟩
    rw [Bool.or_eq_true, Bool.or_eq_true]
    have h3 : o.2.1 = 0 ∨ o.2.1 = 1 ∨ o.2.1 = 2 := by omega
    rcases h3 with e | e | e
    · exact .inl (.inl (key 0 e))
    · exact .inl (.inr (key 1 e))
    · exact .inr (key 2 e)

theorem mask_lt (a b c : Bool) : bit3 a b c < 2 ^ 31 := by have := bit3_lt a b c; omega
theorem or_step {a : Nat} {y : Int} (ha : a < 8) (hy : 0 ≤ y ∧ y ≤ 2) : bits .or .u64 (a : Int) (IntKind.u64.wrap (2 ^ y.toNat)) = ((a ||| 2 ^ y.toNat : Nat) : Int) := by
  have h : y = 0 ∨ y = 1 ∨ y = 2 := by omega
  have hw : IntKind.u64.wrap (2 ^ y.toNat) = ((2 ^ y.toNat : Nat) : Int) := by rcases h with rfl | rfl | rfl <;> rfl
  have hp : 2 ^ y.toNat < 8 := by rcases h with rfl | rfl | rfl <;> decide
  rw [hw, u64_or_nat a _ (by omega) (by omega)]
theorem maskU_step (os : List T3) {x y z : Int} (hy : 0 ≤ y ∧ y ≤ 2) : bits .or .u64 (maskU os : Int) (IntKind.u64.wrap (2 ^ y.toNat)) = (maskU (os ++ [(x, y, z)]) : Int) := by
  rw [or_step (a := maskU os) (show maskU os < 8 from bit3_lt _ _ _) hy, maskU_snoc os hy]
theorem maskW_step (os : List T3) {y z : Int} (hy : 0 ≤ y ∧ y ≤ 2) : bits .or .u64 (maskW os : Int) (IntKind.u64.wrap (2 ^ y.toNat)) = (maskW (os ++ [(2, y, z)]) : Int) := by
  rw [or_step (a := maskW os) (show maskW os < 8 from bit3_lt _ _ _) hy, maskW_snoc_w os hy]
theorem meet_bits64 {a b : List T3} (ha : ∀ o ∈ a, 0 ≤ o.2.1 ∧ o.2.1 ≤ 2) : (bits .or .u64 (bits .and .u64 (maskU a : Int) (maskW b : Int)) (bits .and .u64 (maskW a : Int) (maskU b : Int)) != 0) = meetB a b := by
  have h1 : maskU a < 8 := bit3_lt _ _ _
  have h2 : maskW a < 8 := bit3_lt _ _ _
  have h3 : maskU b < 8 := bit3_lt _ _ _
  have h4 : maskW b < 8 := bit3_lt _ _ _
  have h5 : maskU a &&& maskW b ≤ maskU a := Nat.and_le_left
  have h6 : maskW a &&& maskU b ≤ maskW a := Nat.and_le_left
  rw [u64_and_nat _ _ (by omega) (by omega), u64_and_nat _ _ (by omega) (by omega), u64_or_nat _ _ (by omega) (by omega)]
  have h := meet_bits (b := b) ha
  obtain ⟨q, hq⟩ : ∃ q, ((maskU a &&& maskW b) ||| (maskW a &&& maskU b)) = q := ⟨_, rfl⟩
  rw [hq] at h ⊢
  have e : ((q : Int) != 0) = !(q == 0) := by
    cases q with
    | zero => rfl
    | succ q => simp; omega
  rw [e, h, Bool.not_not]
theorem mask_nil : maskU [] = 0 ∧ maskW [] = 0 := ⟨rfl, rfl⟩

end Go.Proofs.YtieecneknljmdaaDoor
