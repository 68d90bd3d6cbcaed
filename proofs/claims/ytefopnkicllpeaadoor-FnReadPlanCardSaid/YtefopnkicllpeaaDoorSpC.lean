/- The scanner: next, session, step; strings.CutPrefix. -/
import Derived.Test.YtefopnkicllpeaaDoorSpA
import Derived.Test.YtefopnkicllpeaaDoorPlJ
import Derived.Test.YtefopnkicllpeaaDoorLib2
import Derived.BigQuiet
namespace Go.Proofs.YtefopnkicllpeaaDoor
open Go.RowKit

/-- The words lie in a block of strings. -/
def StrB (w : World) (A : Option Addr) : Prop := ∀ a, A = some a → ∃ cs, Blk w a.block 9 cs
theorem StrB.below {w w' : World} {A : Option Addr} (h : StrB w A) (hb : Below w.heap.size w w') : StrB w' A := fun a ha => by
  obtain ⟨cs, h1⟩ := h a ha
  exact ⟨cs, h1.belowAll hb⟩
theorem StrB.set {w : World} {A : Option Addr} (h : StrB w A) (b i : Nat) (u : Value) : StrB (w.setCell ⟨b, i, none⟩ u) A := fun a ha => by
  obtain ⟨cs, h1⟩ := h a ha
  by_cases e : a.block = b
  · rw [e] at h1 ⊢; exact ⟨_, h1.set_ i u⟩
  · exact ⟨cs, h1.far e u⟩
theorem StrB.tail {w : World} {A : Option Addr} (h : StrB w A) (c : Nat) : StrB w (if c = 1 then A else A.map (·.add 1)) := fun a ha => by
  split at ha
  · exact h a ha
  · cases A with
    | none => cases ha
    | some a' => simp at ha; rw [← ha]; exact h a' rfl
/-- The scanner in block b: the words that are left, and whether it has met a bad one. -/
def Scan (w : World) (b : Nat) (ls : List (List UInt8)) (bad : Bool) : Prop := ∃ A n c, Blk w b 49 #[.slice A n c, .bool bad] ∧ n ≤ c ∧ n ≤ 2097152 ∧ RT w A n ls ∧ (∀ a, A = some a → a.block ≠ b) ∧ StrB w A
theorem Scan.below {w w' : World} {b : Nat} {ls : List (List UInt8)} {bad : Bool} (h : Scan w b ls bad) (hb : Below w.heap.size w w') : Scan w' b ls bad := by
  obtain ⟨A, n, c, h1, h2, h3, h4, h5⟩ := h
  exact ⟨A, n, c, h1.belowAll hb, h2, h3, h4.below hb, h5.1, h5.2.below hb⟩
theorem RT.tail {w : World} {A : Option Addr} {n c : Nat} {x : List UInt8} {ls : List (List UInt8)} (h : RT w A n (x :: ls)) (hnc : n ≤ c) : RT w (if c = 1 then A else A.map (·.add 1)) (n - 1) ls := by
  have hl := h.1
  rw [List.length_cons] at hl
  refine ⟨by omega, fun hn => ?_⟩
  obtain ⟨b, off, rfl, hlt, hc⟩ := h.2 (by omega)
  refine ⟨b, off + 1, by rw [if_neg (by omega)]; simp [addr_add], hlt, fun k y hk => ?_⟩
  have := hc (k + 1) y (by simpa using hk)
  rwa [show off + (k + 1) = off + 1 + k by omega] at this
theorem RT.far {w : World} {A : Option Addr} {n : Nat} {ls : List (List UInt8)} (h : RT w A n ls) {p : Addr} (hp : ∀ a, A = some a → a.block ≠ p.block) (v : Value) : RT (w.setCell p v) A n ls :=
  ⟨h.1, fun hn => by
    obtain ⟨b, off, rfl, hlt, hc⟩ := h.2 hn
    have hne := hp _ rfl
    exact ⟨b, off, rfl, by rw [size_setCell]; exact hlt, fun k y hk => (World.cell?_setCell_other w p ⟨b, off + k, none⟩ v (fun e => hne (by rw [e]))).trans (hc k y hk)⟩⟩
def NextR (w : World) (b : Nat) (ls : List (List UInt8)) (bad : Bool) (e : Ending) (w' : World) : Prop :=
  e = .returned (.string (str (ls.headD []))) ∧ Scan w' b ls.tail (bad || ls.isEmpty) ∧ w.grownBy w' (some b)
set_option maxRecDepth 100000 in
set_option maxHeartbeats 4000000 in
theorem next_c {w : World} {b : Nat} {ls : List (List UInt8)} {bad : Bool} (h : Scan w b ls bad) : Calls Tryd.prog 42 #[.pointer (some ⟨b, 0, none⟩)] w (NextR w b ls bad) := by
  obtain ⟨A, n, c, hK, hnc, hn, hr, hne, hsb⟩ := h
  have HSB := hide hsb
  clear hsb
  obtain ⟨k0, k1, f0, f1⟩ := hK.two
  have hl := hr.1
  cases ls with
  | nil =>
    have hn0 : n = 0 := hl.symm
    subst hn0
    have HK := hide hK; have HR := hide hr; have HNE := hide hne
    clear hK hr hne
    go_enter Tryd.func42, Tryd.ntmps42
    go_wp2_with fail
    go_ret
    refine ⟨rfl, ⟨A, 0, c, ?_, hnc, hn, HR.out.far (p := ⟨b, 1, none⟩) HNE.out _, HNE.out, HSB.out.set _ _ _⟩, grown_setCell (p := ⟨b, 1, none⟩) (World.grownBy.refl w _) (.inl rfl) _⟩
    have := HK.out.set_ 1 (.bool true)
    simpa using this
  | cons x ls =>
    rw [List.length_cons] at hl
    obtain ⟨b2, off, y, hA, hbb, hx, hc⟩ := hr.at_ (show 0 < n by omega)
    obtain rfl : x = y := by simpa using hx
    rw [Nat.add_zero] at hc
    have hsl := sliceT_one (A := A) (n := n) (c := c) (by omega) hnc
    have hn0 : ((n : Int) == 0) = false := by rw [beq_eq_false_iff_ne]; omega
    have ht := hr.tail hnc
    have hne2 : ∀ a, (if c = 1 then A else A.map (·.add 1)) = some a → a.block ≠ b := fun a ha => by
      rw [hA] at ha
      have hb2 := hne _ hA
      split at ha
      · injection ha with ha; rw [← ha]; exact hb2
      · simp at ha; rw [← ha]; exact hb2
    have hsb2 := HSB.out.tail c
    obtain ⟨A', hA'⟩ : ∃ q, (if c = 1 then A else A.map (·.add 1)) = q := ⟨_, rfl⟩
    rw [hA'] at hsl ht hne2 hsb2
    have HSB2 := hide hsb2
    clear hsb2 HSB
    have HT := hide ht
    have HK := hide hK
    have n0 : (0 : Int) < n := by omega
    clear hK hr hne ht hx hA'
    subst hA
    go_enter Tryd.func42, Tryd.ntmps42
    go_wp2_with fail
    go_ret
    refine ⟨rfl, ⟨A', n - 1, c - 1, ?_, by omega, by omega, HT.out.far (p := ⟨b, 0, none⟩) hne2 _, hne2, HSB2.out.set _ _ _⟩, grown_setCell (p := ⟨b, 0, none⟩) (World.grownBy.refl w _) (.inl rfl) _⟩
    have := HK.out.set_ 0 (.slice A' (n - 1) (c - 1))
    simpa using this
theorem str_toList (l : List UInt8) : (str l).toList = l := by rw [ByteArray.toList_eq]; simp [str]
/-- 'strings.CutPrefix(s, "s")'. -/
def cutS (l : List UInt8) : List UInt8 := match l with
  | 115 :: r => r
  | l => l
def hasS (l : List UInt8) : Bool := match l with
  | 115 :: _ => true
  | _ => false
theorem HasPrefix_c {l : List UInt8} {w : World} : Calls Tryd.prog 78 #[.string (str l), .string ⟨#[115]⟩] w fun e w' => e = .returned (.bool (hasS l)) ∧ w = w' := by
  have hsz := str_size l
  cases l with
  | nil =>
    go_enter Tryd.func78, Tryd.ntmps78
    go_wp2_with fail
    go_ret
    exact ⟨rfl, rfl⟩
  | cons c r =>
    have h1 := slice_hi (c :: r) (i := 1) (by simp)
    have hb : (((str (c :: r)).extract 0 1).toList == [115]) = (c == 115) := by
      rw [str_extract, str_toList]
      simp
    have hs : hasS (c :: r) = (c == 115) := by
      by_cases hc : c = 115
      · subst hc; rfl
      · rw [show (c == 115) = false by simpa using hc]
        unfold hasS
        split
        · rename_i h; injection h with h _; exact absurd h hc
        · rfl
    have HS := hide hs
    have hge : (1 : Int) ≤ ((str (c :: r)).size : Int) := by rw [hsz]; simp; omega
    rw [List.take_succ_cons, List.take_zero] at h1
    clear hs
    go_enter Tryd.func78, Tryd.ntmps78
    go_wp2_with fail
    go_ret
    exact ⟨by rw [HS.out, ← hb]; rfl, rfl⟩


end Go.Proofs.YtefopnkicllpeaaDoor
