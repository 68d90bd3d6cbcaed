/- Merged (what the law reaches): Lib, Small, NumP, Ints, App, Lib2. -/
import Derived.Test.YtcfkemchekmjbaaGreatDoorRows
import Derived.WalkKit
import Derived.WalkSpells
import Derived.WalkLawsBesides
import Derived.Lib.Hide
import Derived.Deep.Draws
import Derived.Lib.ItoaNum
import Derived.Laws.MakeOwn
import Derived.Laws.Entries
import Derived.Deep.QuietTactic
import Derived.BigQuiet
import Derived.Maps.AppendAt
import Derived.StillTailTactics
import Derived.Deep.RegionHeld3
import Derived.Deep.AppendLies
import Derived.RegionTactic
namespace Go.Proofs.YtcfkemchekmjbaaGreatDoor
open Go.RowKit
theorem hide {p : Prop} (h : p) : Hid p := h
theorem below_drewN {B : Nat} {a w : World} (h : Below B a w) (n : Nat) : Below B a (w.drewN n) := ⟨h.os, h.tape, h.output, h.size, h.block⟩
/-- Two steps, each of which leaves all that was there. -/
theorem below_step {a b c : World} (h : Below a.heap.size a b) (k : Below b.heap.size b c) : Below a.heap.size a c := h.trans (k.mono h.size)
/-- Block g is just the cells cs of element type t, none frozen. -/
def Blk (w : World) (g : Nat) (t : TypeId) (cs : Array Value) : Prop := w.heap[g]? = some (.cells cs t (0, 0))
section
variable {w w' : World} {g : Nat} {t : TypeId} {cs : Array Value}
theorem Blk.lt (h : Blk w g t cs) : g < w.heap.size := by
  rcases Nat.lt_or_ge g w.heap.size with hlt | hge
  · exact hlt
  · unfold Blk at h; rw [Array.getElem?_eq_none hge] at h; cases h
theorem Blk.cell (h : Blk w g t cs) (i : Nat) : w.cell? ⟨g, i, none⟩ = cs[i]? := cell_of_row w g i cs t (0, 0) h
theorem Blk.frozen (h : Blk w g t cs) (i : Nat) : w.frozen? ⟨g, i, none⟩ = false := by
  unfold Blk at h
  simp [World.frozen?, h]
theorem Blk.new (w : World) (t : TypeId) (cs : Array Value) : Blk (w.alloc (.cells cs t)) w.heap.size t cs := heap_alloc_new w _
theorem Blk.drew (h : Blk w g t cs) : Blk w.drew g t cs := h
theorem Blk.drewN (h : Blk w g t cs) (n : Nat) : Blk (w.drewN n) g t cs := h
theorem Blk.alloc (h : Blk w g t cs) (o : Obj) : Blk (w.alloc o) g t cs := (Below.heap_alloc w o g h.lt).trans h
theorem Blk.set_ (h : Blk w g t cs) (i : Nat) (u : Value) : Blk (w.setCell ⟨g, i, none⟩ u) g t (cs.setIfInBounds i u) := by
  unfold Blk at h ⊢
  simp [World.setCell, Array.getElem?_modify, h]
theorem Blk.far (h : Blk w g t cs) {p : Addr} (hp : g ≠ p.block) (u : Value) : Blk (w.setCell p u) g t cs := (Below.heap_setCell w p u g hp).trans h
theorem Blk.below {B : Nat} (h : Blk w g t cs) (hb : Below B w w') (hg : g < B) : Blk w' g t cs := (hb.block g hg).trans h
theorem Blk.grown {row : Option Nat} (h : Blk w g t cs) (hb : w.grownBy w' row) (hg : some g ≠ row) : Blk w' g t cs := (hb.block g h.lt hg).trans h
end
/-- The cells of a slice at address A, n elements: the integers xs. -/
def RI (w : World) (A : Option Addr) (n : Nat) (xs : List Int) : Prop :=
  xs.length = n ∧ (0 < n → ∃ b off, A = some ⟨b, off, none⟩ ∧ b < w.heap.size ∧ ∀ (k : Nat) (x : Int), xs[k]? = some x → w.cell? ⟨b, off + k, none⟩ = some (.int .i64 x))
theorem RI.len {w : World} {A : Option Addr} {n : Nat} {xs : List Int} (h : RI w A n xs) : xs.length = n := h.1
theorem RI.nil {w : World} {A : Option Addr} : RI w A 0 [] := ⟨rfl, fun h => absurd h (by omega)⟩
theorem RI.below {w w' : World} {A : Option Addr} {n : Nat} {xs : List Int} (h : RI w A n xs) (hb : Below w.heap.size w w') : RI w' A n xs :=
  ⟨h.1, fun hn => by
    obtain ⟨b, off, e, hlt, hc⟩ := h.2 hn
    exact ⟨b, off, e, Nat.lt_of_lt_of_le hlt hb.size, fun k x hx => (hb.cell (p := ⟨b, off + k, none⟩) hlt).trans (hc k x hx)⟩⟩
theorem RI.at_ {w : World} {A : Option Addr} {n : Nat} {xs : List Int} (h : RI w A n xs) {k : Nat} (hk : k < n) :
    ∃ b off x, A = some ⟨b, off, none⟩ ∧ b < w.heap.size ∧ xs[k]? = some x ∧ w.cell? ⟨b, off + k, none⟩ = some (.int .i64 x) := by
  obtain ⟨b, off, e, hlt, hc⟩ := h.2 (by omega)
  have hl : k < xs.length := by have := h.1; omega
  exact ⟨b, off, xs[k], e, hlt, List.getElem?_eq_getElem hl, hc k _ (List.getElem?_eq_getElem hl)⟩
theorem intInfo : (Tryz.prog.info? 3).map (fun i => (i.zero, i.size, i.bytes)) = some (some (.int .i64 0), 1, 8) := by kernel_rfl
/-- The value v is a slice of n integers that reads as xs. -/
def SI (w : World) (v : Value) (n : Nat) (xs : List Int) : Prop := ∃ A c, v = .slice A n c ∧ n ≤ c ∧ n ≤ 1048576 ∧ RI w A n xs
theorem SI.below {w w' : World} {v : Value} {n : Nat} {xs : List Int} (h : SI w v n xs) (hb : Below w.heap.size w w') : SI w' v n xs := by
  obtain ⟨A, c, h1, h2, h3, h4⟩ := h
  exact ⟨A, c, h1, h2, h3, h4.below hb⟩
theorem SI.len {w : World} {v : Value} {n : Nat} {xs : List Int} (h : SI w v n xs) : xs.length = n := by obtain ⟨A, c, h1, h2, h3, h4⟩ := h; exact h4.1
theorem SI.bd {w : World} {v : Value} {n : Nat} {xs : List Int} (h : SI w v n xs) : n ≤ 1048576 := by obtain ⟨A, c, h1, h2, h3, h4⟩ := h; exact h3
/-- A row whose first cells are known, as a slice that is read. -/
theorem SI.of_blk {w : World} {g n c : Nat} {t : TypeId} {cs : Array Value} {xs : List Int} (h : Blk w g t cs) (hx : ∀ (k : Nat) (x : Int), xs[k]? = some x → cs[k]? = some (.int .i64 x)) (hn : xs.length = n) (hnc : n ≤ c) (hm : n ≤ 1048576) :
    SI w (.slice (some ⟨g, 0, none⟩) n c) n xs :=
  ⟨_, _, rfl, hnc, hm, hn, fun _ => ⟨g, 0, rfl, h.lt, fun k x hk => by rw [Nat.zero_add, h.cell]; exact hx k x hk⟩⟩
/-- The slice value v, n elements, is the call's own (nil, or a row from block B on), and reads as the integers xs. -/
def OI (w : World) (B : Nat) (v : Value) (n : Nat) (xs : List Int) : Prop := w.ownsRow B 3 1 v n (xs.map (Value.int .i64)) ∧ n ≤ 1048576
section
variable {w w' : World} {B B' : Nat} {v : Value} {n : Nat} {xs : List Int}
theorem OI.len (h : OI w B v n xs) : xs.length = n := by have := h.1.1; simpa using this
theorem OI.form (h : OI w B v n xs) :
    ∃ A c, v = .slice A n c ∧ n ≤ c ∧ c ≤ maxLen ∧ RI w A n xs ∧ (A = none → n = 0 ∧ c = 0) ∧ (∀ a, A = some a → ∃ g, a = ⟨g, 0, none⟩ ∧ B ≤ g ∧ g < w.heap.size) := by
  have hl := h.len
  obtain ⟨⟨h1, h2⟩, _⟩ := h
  rcases h2 with ⟨rfl, hn⟩ | ⟨g, cap, cur, rfl, hB, hg, hc, hm, hs, ht⟩
  · subst hn
    have hx : xs = [] := List.eq_nil_of_length_eq_zero hl
    subst hx
    exact ⟨none, 0, rfl, by simp, by simp [maxLen], RI.nil, fun _ => ⟨rfl, rfl⟩, fun a ha => by cases ha⟩
  · refine ⟨some ⟨g, 0, none⟩, cap, rfl, hc, hm, ⟨hl, fun _ => ⟨g, 0, rfl, Blk.lt hg, fun k x hx => ?_⟩⟩, (fun h => by cases h), fun a ha => ?_⟩
    · rw [Blk.cell (t := 3) (cs := cur) hg]
      have : (cur.toList.take (n * 1))[k]? = some (.int .i64 x) := by rw [ht]; simp [hx]
      rw [List.getElem?_take] at this
      split at this
      · simpa using this
      · cases this
    · injection ha with ha
      exact ⟨g, ha.symm, hB, Blk.lt hg⟩
theorem OI.si (h : OI w B v n xs) : SI w v n xs := by
  obtain ⟨A, c, h1, h2, _, h4, _⟩ := h.form
  exact ⟨A, c, h1, h2, h.2, h4⟩
theorem OI.below (h : OI w B v n xs) (hb : Below w.heap.size w w') : OI w' B v n xs :=
  ⟨h.1.kept (row := none) ⟨hb.os, hb.tape, hb.output, hb.size, fun k hk _ => hb.block k hk⟩ (by cases hv : v.ownBlock <;> simp), h.2⟩
theorem OI.grown {row : Option Nat} (h : OI w B v n xs) (hg : w.grownBy w' row) (hne : v.ownBlock = none ∨ v.ownBlock ≠ row) : OI w' B v n xs := ⟨h.1.kept hg hne, h.2⟩
theorem OI.mono (h : OI w B v n xs) (hB : B' ≤ B) : OI w B' v n xs := by
  obtain ⟨⟨h1, h2⟩, h3⟩ := h
  refine ⟨⟨h1, ?_⟩, h3⟩
  rcases h2 with h2 | ⟨g, cap, cur, hv, hb, r⟩
  · exact .inl h2
  · exact .inr ⟨g, cap, cur, hv, by omega, r⟩
theorem OI.drew (h : OI w B v n xs) : OI w.drew B v n xs := ⟨h.1.drew, h.2⟩
theorem OI.nil : OI w B (.slice none 0 0) 0 [] := ⟨World.ownsRow_nil _ _ _ _, by omega⟩
/-- A block that is known whole, as an owned slice. -/
theorem OI.of_blk {g : Nat} {cs : Array Value} (h : Blk w g 3 cs) (hB : B ≤ g) (hx : cs.toList = xs.map (Value.int .i64)) (hn : xs.length = n) (hm : n ≤ 1048576) :
    OI w B (.slice (some ⟨g, 0, none⟩) n n) n xs := by
  subst hn
  have hsz : cs.size = xs.length * 1 := by rw [← Array.length_toList, hx]; simp
  exact ⟨⟨by simp, .inr ⟨g, xs.length, cs, rfl, hB, h, Nat.le_refl _, by simp [maxLen]; omega, hsz, by rw [hx, List.take_of_length_le (by simp)]⟩⟩, hm⟩
theorem OI.store {g c : Nat} (h : OI w B (.slice (some ⟨g, 0, none⟩) n c) n xs) (j : Nat) (x : Int) :
    OI (w.setCell ⟨g, j, none⟩ (.int .i64 x)) B (.slice (some ⟨g, 0, none⟩) n c) n (xs.set j x) := by
  have := (World.ownsRow.stored h.1 j (.int .i64 x)).1
  exact ⟨by simpa [List.map_set] using this, h.2⟩
theorem OI.cell {g c : Nat} (h : OI w B (.slice (some ⟨g, 0, none⟩) n c) n xs) (j : Nat) (hj : j < n) : ∃ x, xs[j]? = some x ∧ w.cell? ⟨g, j, none⟩ = some (.int .i64 x) := by
  have h1 := World.ownsRow.cellAt h.1 j (by omega)
  have hl := h.len
  exact ⟨xs[j]'(by omega), List.getElem?_eq_getElem _, h1.trans (by simp [List.getElem?_eq_getElem (show j < xs.length by omega)])⟩
theorem OI.free {g c : Nat} (h : OI w B (.slice (some ⟨g, 0, none⟩) n c) n xs) (j : Nat) : w.frozen? ⟨g, j, none⟩ = false := World.ownsRow.frozenAt h.1 j
end
theorem OI.shape {w : World} {B n : Nat} {v : Value} {xs : List Int} (h : OI w B v n xs) : ∃ A c, v = .slice A n c := by obtain ⟨A, c, h1, _⟩ := h.form; exact ⟨A, c, h1⟩
theorem SI.shape {w : World} {n : Nat} {v : Value} {xs : List Int} (h : SI w v n xs) : ∃ A c, v = .slice A n c := by obtain ⟨A, c, h1, _⟩ := h; exact ⟨A, c, h1⟩
/-- From w to w' the blocks of S alone may have changed, and new ones have come. -/
structure Chg (S : Nat → Prop) (w w' : World) : Prop where
  os : w'.os = w.os
  tape : w'.tape = w.tape
  output : w'.output = w.output
  size : w.heap.size ≤ w'.heap.size
  block : ∀ k, k < w.heap.size → ¬ S k → w'.heap[k]? = w.heap[k]?
theorem Chg.of_below {S : Nat → Prop} {w w' : World} (h : Below w.heap.size w w') : Chg S w w' := ⟨h.os, h.tape, h.output, h.size, fun k hk _ => h.block k hk⟩
theorem Chg.of_grown {S : Nat → Prop} {w w' : World} {row : Option Nat} (h : w.grownBy w' row) (hS : ∀ k, row = some k → S k) : Chg S w w' :=
  ⟨h.os, h.tape, h.output, h.size, fun k hk hn => h.block k hk (fun e => hn (hS k e.symm))⟩
theorem Chg.trans {S : Nat → Prop} {a b c : World} (h : Chg S a b) (k : Chg S b c) : Chg S a c :=
  ⟨k.os.trans h.os, k.tape.trans h.tape, k.output.trans h.output, Nat.le_trans h.size k.size, fun i hi hn => (k.block i (Nat.lt_of_lt_of_le hi h.size) hn).trans (h.block i hi hn)⟩
theorem Chg.below {S : Nat → Prop} {a w w' : World} (h : Below a.heap.size a w) (hc : Chg S w w') (hS : ∀ k, S k → a.heap.size ≤ k) : Below a.heap.size a w' :=
  ⟨hc.os.trans h.os, hc.tape.trans h.tape, hc.output.trans h.output, Nat.le_trans h.size hc.size, fun k hk => (hc.block k (Nat.lt_of_lt_of_le hk h.size) (fun hs => by have := hS k hs; omega)).trans (h.block k hk)⟩
theorem OI.chg {S : Nat → Prop} {w w' : World} {B n : Nat} {v : Value} {xs : List Int} (h : OI w B v n xs) (hc : Chg S w w') (hS : ∀ k, v.ownBlock = some k → ¬ S k) : OI w' B v n xs := by
  refine ⟨⟨h.1.1, ?_⟩, h.2⟩
  rcases h.1.2 with hn | ⟨g, cap, cur, rfl, hb, hgg, rest⟩
  · exact .inl hn
  · exact .inr ⟨g, cap, cur, rfl, hb, (hc.block g (Blk.lt hgg) (hS g rfl)).trans hgg, rest⟩
theorem Blk.chg {S : Nat → Prop} {w w' : World} {g : Nat} {t : TypeId} {cs : Array Value} (h : Blk w g t cs) (hc : Chg S w w') (hS : ¬ S g) : Blk w' g t cs := (hc.block g h.lt hS).trans h
/-- The post of a function that returns a new slice: it reads as xs; nothing that was there has changed. -/
def RetI (w : World) (xs : List Int) (e : Ending) (w' : World) : Prop := ∃ r k, e = .returned r ∧ OI w' w.heap.size r k xs ∧ Below w.heap.size w w'
/-- Two slices of the call's own, the second made behind the first: they lie apart. -/
def Apart (u v : Value) : Prop := u.ownBlock = none ∨ u.ownBlock ≠ v.ownBlock
theorem Apart.symm {u v : Value} (h : Apart u v) : Apart v u := by
  unfold Apart at *
  cases hv : v.ownBlock with
  | none => exact .inl rfl
  | some k => right; rcases h with h | h <;> rw [hv] at * <;> simp_all; exact fun e => h e.symm
theorem Apart.not {u v : Value} (h : Apart u v) {k : Nat} (hu : u.ownBlock = some k) : v.ownBlock ≠ some k := by
  rcases h with h | h
  · rw [hu] at h; cases h
  · intro e; exact h (hu.trans e.symm)
theorem OI.apart {w w' : World} {B1 n1 n2 : Nat} {v1 v2 : Value} {x1 x2 : List Int} (h1 : OI w B1 v1 n1 x1) (h2 : OI w' w.heap.size v2 n2 x2) : Apart v1 v2 := by
  unfold Apart
  cases hv : v1.ownBlock with
  | none => exact .inl rfl
  | some k =>
    right; intro e
    have a := (World.ownsRow.lt h1.1 k hv).2
    have b := (World.ownsRow.lt h2.1 k e.symm).1
    omega
theorem OI.grown_le {w : World} {B n : Nat} {v : Value} {xs : List Int} (h : OI w B v n xs) {a : World} (ha : a.heap.size ≤ B) : ∀ k, v.ownBlock = some k → a.heap.size ≤ k := fun k hk => by have := (World.ownsRow.lt h.1 k hk).1; omega
theorem grown_setCell {a w : World} {g : Nat} (h : a.grownBy w (some g)) {p : Addr} (hp : p.block = g ∨ a.heap.size ≤ p.block) (u : Value) : a.grownBy (w.setCell p u) (some g) :=
  ⟨h.os, h.tape, h.output, by simpa [World.setCell] using h.size, fun i hi hne => (Below.heap_setCell w p u i (by
    rintro rfl
    rcases hp with hp | hp
    · exact hne (by rw [hp])
    · omega)).trans (h.block i hi hne)⟩
theorem grown_of_below {a w : World} (h : Below a.heap.size a w) (row : Option Nat) : a.grownBy w row := ⟨h.os, h.tape, h.output, h.size, fun i hi _ => h.block i hi⟩
theorem below_of_grown {B : Nat} {a w w' : World} {row : Option Nat} (h : Below B a w) (hg : w.grownBy w' row) (hB : B ≤ w.heap.size) (hr : ∀ k, row = some k → B ≤ k) : Below B a w' := h.grown hg hB hr
/-- Behind a function that writes block g alone: what lies elsewhere stays. -/
theorem RI.grown {w w' : World} {A : Option Addr} {n : Nat} {xs : List Int} {row : Option Nat} (h : RI w A n xs) (hg : w.grownBy w' row) (hne : ∀ a, A = some a → some a.block ≠ row) : RI w' A n xs :=
  ⟨h.1, fun hn => by
    obtain ⟨b, off, e, hlt, hc⟩ := h.2 hn
    exact ⟨b, off, e, Nat.lt_of_lt_of_le hlt hg.size, fun k x hx => (World.cell?_of_block (hg.block b hlt (hne _ e))).trans (hc k x hx)⟩⟩
/-- The number of a Bool's numbers: the first n, ascending, from k on. -/
def upFrom (k : Int) : Nat → List Int
  | 0 => []
  | n + 1 => k :: upFrom (k + 1) n
theorem upFrom_length (n : Nat) : ∀ k : Int, (upFrom k n).length = n := by
  induction n with
  | zero => intro k; rfl
  | succ n ih => intro k; simp [upFrom, ih]
end Go.Proofs.YtcfkemchekmjbaaGreatDoor

namespace Go.Proofs.YtcfkemchekmjbaaGreatDoor
open Go.RowKit
def inB (n lo hi : Int) : Bool := decide (lo ≤ n) && decide (n ≤ hi)
theorem inB_iff (n lo hi : Int) : inB n lo hi = true ↔ lo ≤ n ∧ n ≤ hi := by simp [inB]
theorem inB_not (n lo hi : Int) : inB n lo hi = false ↔ (n < lo ∨ hi < n) := by
  rw [← Bool.not_eq_true, inB_iff]; omega
set_option maxHeartbeats 400000 in
theorem within_c {n lo hi : Int} {w : World} :
    Calls Tryz.prog 56 #[.int .i64 n, .int .i64 lo, .int .i64 hi] w fun e w' => e = .returned (.bool (inB n lo hi)) ∧ w = w' := by
  by_cases h1 : lo ≤ n
  · go_enter Tryz.func56, Tryz.ntmps56
    go_wp2
    go_ret
    exact ⟨by simp [inB, h1], rfl⟩
  · go_enter Tryz.func56, Tryz.ntmps56
    go_wp2
    go_ret
    exact ⟨by simp [inB]; omega, rfl⟩
set_option maxHeartbeats 400000 in
theorem l1In_c {n lo hi : Int} {w : World} :
    Calls Tryz.prog 45 #[.int .i64 n, .int .i64 lo, .int .i64 hi] w fun e w' => e = .returned (.bool (inB n lo hi)) ∧ w = w' := by
  by_cases h1 : lo ≤ n
  · go_enter Tryz.func45, Tryz.ntmps45
    go_wp2
    go_ret
    exact ⟨by simp [inB, h1], rfl⟩
  · go_enter Tryz.func45, Tryz.ntmps45
    go_wp2
    go_ret
    exact ⟨by simp [inB]; omega, rfl⟩
end Go.Proofs.YtcfkemchekmjbaaGreatDoor

namespace Go.Proofs.YtcfkemchekmjbaaGreatDoor
open Go.RowKit
/-- The bytes l as a string. -/
def str (l : List UInt8) : ByteArray := ⟨l.toArray⟩
theorem str_add (a b : List UInt8) : str a ++ str b = str (a ++ b) := by
  have h : ∀ (x y : ByteArray), x.data ++ y.data = (x ++ y).data := fun x y => by rw [ByteArray.data_append]
  have e : (str a ++ str b).data = (str (a ++ b)).data := by rw [← h]; simp [str]
  cases hx : (str a ++ str b) with
  | mk d => rw [hx] at e; cases hy : str (a ++ b) with
    | mk d' => rw [hy] at e; simp at e; rw [e]
theorem str_size (a : List UInt8) : (str a).size = a.length := by simp [str, ByteArray.size]
def digs (n : Nat) : List UInt8 := Lib.decDigits n
theorem digs_lt {n : Nat} (h : n < 10) : digs n = [UInt8.ofNat (48 + n)] := by unfold digs; rw [Lib.decDigits, dif_pos h]
theorem digs_ge {n : Nat} (h : ¬ n < 10) : digs n = digs (n / 10) ++ [UInt8.ofNat (48 + n % 10)] := by
  have e : Lib.decDigits n = if _h : n < 10 then [UInt8.ofNat (48 + n)] else Lib.decDigits (n / 10) ++ [UInt8.ofNat (48 + n % 10)] := by rw [Lib.decDigits]
  unfold digs
  rw [e, dif_neg h]
theorem digs_len : ∀ (k n : Nat), n < 10 ^ (k + 1) → 1 ≤ (digs n).length ∧ (digs n).length ≤ k + 1
  | 0, n, h => by rw [digs_lt (by simpa using h)]; simp
  | k + 1, n, h => by
    by_cases h0 : n < 10
    · rw [digs_lt h0]; simp
    · have := digs_len k (n / 10) (by rw [Nat.pow_succ] at h; omega)
      rw [digs_ge h0]; simp; omega
theorem digs_no : ∀ (k n : Nat), n < 10 ^ (k + 1) → ∀ c ∈ digs n, c ≠ 32
  | 0, n, h, c, hc => by
    have h' : n < 10 := by simpa using h
    rw [digs_lt h'] at hc
    simp at hc; subst hc
    intro e
    have := congrArg UInt8.toNat e
    simp at this; omega
  | k + 1, n, h, c, hc => by
    by_cases h0 : n < 10
    · exact digs_no 0 n (by simpa using h0) c hc
    · rw [digs_ge h0] at hc
      rcases List.mem_append.1 hc with hc | hc
      · exact digs_no k (n / 10) (by rw [Nat.pow_succ] at h; omega) c hc
      · simp at hc; subst hc
        intro e
        have := congrArg UInt8.toNat e
        simp at this; omega
/-- What l1Number has when m is left of n. -/
def TailTo (n m : Nat) (s : List UInt8) : Prop := digs n = (if m < 10 then [] else digs (m / 10)) ++ s
theorem TailTo.zero (n : Nat) : TailTo n n [UInt8.ofNat (48 + n % 10)] := by
  unfold TailTo
  by_cases h : n < 10
  · rw [if_pos h, digs_lt h, Nat.mod_eq_of_lt h]; rfl
  · rw [if_neg h, digs_ge h]
theorem TailTo.step {n m : Nat} {s : List UInt8} (h : TailTo n m s) (hm : 9 < m) : TailTo n (m / 10) (UInt8.ofNat (48 + m / 10 % 10) :: s) := by
  unfold TailTo at h ⊢
  rw [if_neg (by omega)] at h
  by_cases h0 : m / 10 < 10
  · rw [if_pos h0, h, digs_lt h0, Nat.mod_eq_of_lt h0]; rfl
  · rw [if_neg h0, h, digs_ge h0]; simp
theorem TailTo.done {n m : Nat} {s : List UInt8} (h : TailTo n m s) (hm : ¬ 9 < m) : s = digs n := by
  unfold TailTo at h
  rw [if_pos (by omega)] at h; exact h.symm
def numB (xs : List Int) : Bool := xs.all (fun x => inB x 0 1000)
/-- The text of the first k numbers. -/
def textTo (xs : List Int) : Nat → List UInt8
  | 0 => []
  | k + 1 => textTo xs k ++ ((if 0 < k then [32] else []) ++ digs (xs.getD k 0).toNat)
def textL (xs : List Int) : List UInt8 := if numB xs then textTo xs xs.length else []
theorem textTo_succ {xs : List Int} {k : Nat} {x : Int} (hx : xs[k]? = some x) : textTo xs (k + 1) = textTo xs k ++ ((if 0 < k then [32] else []) ++ digs x.toNat) := by
  rw [textTo, List.getD_eq_getElem?_getD, hx]; rfl
theorem textTo_len {xs : List Int} : ∀ (k : Nat), (xs.take k).all (fun x => inB x 0 1000) = true → k ≤ xs.length → (textTo xs k).length ≤ 5 * k
  | 0, _, _ => by simp [textTo]
  | k + 1, h, hk => by
    have hx : xs[k]? = some xs[k] := List.getElem?_eq_getElem (by omega)
    rw [List.take_add_one, hx, List.all_append, Bool.and_eq_true] at h
    have h1 := textTo_len k h.1 (by omega)
    have h2 : inB xs[k] 0 1000 = true := by simpa using h.2
    rw [inB_iff] at h2
    have h3 := digs_len 3 xs[k].toNat (by omega)
    rw [textTo_succ hx]
    simp only [List.length_append]
    have h4 : (if 0 < k then [(32 : UInt8)] else []).length ≤ 1 := by split <;> simp
    omega
theorem all_snoc {xs : List Int} {k : Nat} {x : Int} (h : (xs.take k).all (fun x => inB x 0 1000) = true) (hx : xs[k]? = some x) (hp : inB x 0 1000 = true) : (xs.take (k + 1)).all (fun x => inB x 0 1000) = true := by
  rw [List.take_add_one, hx, List.all_append, h]; simp [hp]
theorem numB_no {xs : List Int} {k : Nat} {x : Int} (hx : xs[k]? = some x) (hp : inB x 0 1000 = false) : textL xs = [] := by
  have : numB xs = false := by
    unfold numB
    rw [← Bool.not_eq_true, List.all_eq_true]
    intro h
    have := h x (List.mem_of_getElem? hx)
    rw [hp] at this; cases this
  unfold textL; rw [this]; rfl
theorem numB_yes {xs : List Int} (h : (xs.take xs.length).all (fun x => inB x 0 1000) = true) : textL xs = textTo xs xs.length := by
  rw [List.take_length] at h
  unfold textL numB; rw [h]; rfl
end Go.Proofs.YtcfkemchekmjbaaGreatDoor

namespace Go.Proofs.YtcfkemchekmjbaaGreatDoor
open Go.RowKit
theorem run_make_rowN {P : Program} (t e : TypeId) (i : TypeInfo) (z : Value) (ht : P.underlying t = some (.slice e)) (hi : P.info? e = some i) (hz : i.zero = some z)
    (kl kc : IntKind) (n c : Nat) (hnc : n ≤ c) (hbytes : i.bytes * c ≤ 281474976710656) (h63 : c ≤ 9223372036854775807) (w : World) :
    (Instr.makeSlice t (.int kl (n : Int)) (.int kc (c : Int))).run P w = .ok (.slice (some ⟨w.heap.size, 0, none⟩) n c) (w.alloc (.cells (madeCells z.cells (c * i.size)) e)) := by
  have hb : (i.bytes : Int) * (c : Int) ≤ 281474976710656 := by
    have h : ((i.bytes * c : Nat) : Int) ≤ 281474976710656 := by omega
    rwa [Int.natCast_mul] at h
  have hr := run_make (P := P) w t e i z ht hi hz kl kc n c (by omega) (by omega) hb (by omega)
  simp only [Int.toNat_natCast] at hr
  exact hr
theorem run_make_ints (n : Nat) (hn : n ≤ 1048576) (w : World) :
    (Instr.makeSlice 24 (.int .i64 (n : Int)) (.int .i64 (n : Int))).run Tryz.prog w = .ok (.slice (some ⟨w.heap.size, 0, none⟩) n n) (w.alloc (.cells ((List.replicate n (Value.int .i64 0)).toArray) 3)) := by
  obtain ⟨i, hi, hz, hs, hb⟩ := info_parts intInfo
  rw [run_make_rowN 24 3 i (.int .i64 0) Tryz.underlying24 hi hz .i64 .i64 n n (Nat.le_refl _) (by rw [hb]; omega) (by omega) w]
  have e1 : madeCells (Value.int .i64 0).cells (n * i.size) = (List.replicate n (Value.int .i64 0)).toArray := by
    rw [hs, Nat.mul_one, ← Array.toArray_toList (xs := madeCells _ _)]
    rw [show (Value.int .i64 0).cells = #[Value.int .i64 0] from rfl, toList_madeCells_one]
  rw [e1]
/-- What a copy of xs looks like behind k rounds. -/
def cpy (xs : List Int) (k : Nat) : List Value := (xs.take k).map (Value.int .i64) ++ List.replicate (xs.length - k) (Value.int .i64 0)
theorem cpy_zero (xs : List Int) : cpy xs 0 = List.replicate xs.length (Value.int .i64 0) := by simp [cpy]
theorem cpy_full (xs : List Int) : cpy xs xs.length = xs.map (Value.int .i64) := by simp [cpy]
theorem cpy_step (xs : List Int) (k : Nat) (x : Int) (h : xs[k]? = some x) : (cpy xs k).set k (.int .i64 x) = cpy xs (k + 1) := by
  obtain ⟨hk, hx⟩ := List.getElem?_eq_some_iff.1 h
  unfold cpy
  rw [List.take_succ_eq_append_getElem hk, hx, show xs.length - k = (xs.length - (k + 1)) + 1 from by omega, List.replicate_succ]
  rw [List.set_append_right _ _ (by simp; omega)]
  simp [List.length_take, Nat.min_eq_left (Nat.le_of_lt hk)]
theorem cpy_len (xs : List Int) (k : Nat) (h : k ≤ xs.length) : (cpy xs k).length = xs.length := by simp [cpy]; omega
theorem take_snoc_eq (xs ys : List Int) (k : Nat) (x : Int) (h : xs.take k = ys.take k) (hx : xs[k]? = some x) (hy : ys[k]? = some x) : xs.take (k + 1) = ys.take (k + 1) := by
  rw [List.take_add_one, List.take_add_one, h, hx, hy]
/-- markIntS writes k, k + 1, .. into a slice of the call's own. -/
def mrk (xs : List Int) (k : Int) (j : Nat) : List Int := upFrom k j ++ xs.drop j
theorem mrk_zero (xs : List Int) (k : Int) : mrk xs k 0 = xs := by simp [mrk, upFrom]
theorem upFrom_snoc (n : Nat) : ∀ k : Int, upFrom k (n + 1) = upFrom k n ++ [k + n] := by
  induction n with
  | zero => intro k; simp [upFrom]
  | succ n ih =>
    intro k
    rw [upFrom, ih (k + 1), upFrom, List.cons_append]
    congr 3
    omega
theorem mrk_step (xs : List Int) (k : Int) (j : Nat) (h : j < xs.length) : (mrk xs k j).set j (k + j) = mrk xs k (j + 1) := by
  unfold mrk
  rw [upFrom_snoc, List.set_append_right _ _ (by rw [upFrom_length]; omega), upFrom_length, Nat.sub_self, List.drop_eq_getElem_cons h, List.set_cons_zero, List.append_assoc]
  rfl
theorem mrk_full (xs : List Int) (k : Int) : mrk xs k xs.length = upFrom k xs.length := by simp [mrk]
end Go.Proofs.YtcfkemchekmjbaaGreatDoor

namespace Go.Proofs.YtcfkemchekmjbaaGreatDoor
open Go.RowKit
theorem addr_add (b off k : Nat) : (⟨b, off, none⟩ : Addr).add k = ⟨b, off + k, none⟩ := by unfold Addr.add; split <;> simp_all
section
variable {P : Program} {w : World}
/-- The cells cs behind address A. -/
def Rd (w : World) (size : Nat) (A : Option Addr) (n : Nat) (cs : List Value) : Prop :=
  cs.length = n * size ∧ (0 < n → ∃ b off, A = some ⟨b, off, none⟩ ∧ b < w.heap.size ∧ ∀ (k : Nat) (u : Value), cs[k]? = some u → w.cell? ⟨b, off + k, none⟩ = some u)
theorem RI.rd {A : Option Addr} {n : Nat} {xs : List Int} (h : RI w A n xs) : Rd w 1 A n (xs.map (Value.int .i64)) :=
  ⟨by simp [h.1], fun hn => by
    obtain ⟨b, off, e, hlt, hc⟩ := h.2 hn
    refine ⟨b, off, e, hlt, fun k u hu => ?_⟩
    rw [List.getElem?_map] at hu
    cases hx : xs[k]? with
    | none => rw [hx] at hu; cases hu
    | some x => rw [hx] at hu; injection hu with hu; subst hu; exact hc k x hx⟩
theorem app_nil (base : Nat) (t ty e : TypeId) (i : TypeInfo) (size : Nat) (ht : P.underlying t = some (.slice e)) (hi : P.info? e = some i)
    (v : Value) (n : Nat) (xs : List Value) (hown : w.ownsRow base e size v n xs) (c : Nat) : (Builtin.append_ #[t, t] ty #[v, .slice none 0 c]).run P w = .ok v w := by
  rcases hown.2 with ⟨rfl, rfl⟩ | ⟨g, cap, cur, rfl, _, _, hnc, _⟩
  · simp [Builtin.append_, run_underlying ht, sizeOf, typeInfo, hi, Builtin.lenOf, Builtin.firstCells]
  · simp [Builtin.append_, run_underlying ht, sizeOf, typeInfo, hi, Builtin.lenOf, Builtin.firstCells, hnc, storeCells]
theorem app_rd (base : Nat) (t ty e : TypeId) (i : TypeInfo) (z : Value) (size bytes : Nat) (ht : P.underlying t = some (.slice e)) (hi : P.info? e = some i) (hz : i.zero = some z)
    (hsize : i.size = size) (hby : i.bytes = bytes) (hzs : z.cells.size = size) (hsz : 0 < size)
    (v : Value) (n : Nat) (xs : List Value) (hown : w.ownsRow base e size v n xs)
    (A : Option Addr) (m c : Nat) (news : List Value) (hr : Rd w size A m news) (h1 : ∀ u ∈ news, u.oneCell' = true)
    (h63 : n + m ≤ maxLen) (hbytes : (n + m) * bytes ≤ 140737488355328) (hbase : base ≤ w.heap.size) :
    ∃ v' w', (Builtin.append_ #[t, t] ty #[v, .slice A m c]).run P w = .ok v' w' ∧ w'.ownsRow base e size v' (n + m) (xs ++ news) ∧ w.grownBy w' v.ownBlock ∧
      (v'.ownBlock = v.ownBlock ∨ v'.ownBlock = some w.heap.size) := by
  have hz0 : m = 0 → news = [] := fun h0 => List.eq_nil_of_length_eq_zero (by rw [hr.1, h0, Nat.zero_mul])
  rcases A with _ | ad
  · have hm : m = 0 := by
      rcases Nat.eq_zero_or_pos m with h0 | h0
      · exact h0
      · obtain ⟨_, _, h, _⟩ := hr.2 h0
        cases h
    subst hm
    obtain rfl := hz0 rfl
    exact ⟨v, w, app_nil base t ty e i size ht hi v n xs hown c, by simpa using hown, World.grownBy.refl w _, .inl rfl⟩
  · have hcells : ∀ j u, news[j]? = some u → w.cell? (ad.add j) = some u := by
      intro j u hu
      rcases Nat.eq_zero_or_pos m with h0 | h0
      · rw [hz0 h0] at hu; simp at hu
      · obtain ⟨b, off, h, _, hc⟩ := hr.2 h0
        injection h with h
        subst h
        rw [addr_add]
        exact hc j u hu
    obtain ⟨v', w', hrun, h2, h3, _, h5⟩ := run_append_own_at (P := P) w base t ty e i z size bytes ht hi hz hsize hby hzs hsz v n xs hown ad m c news hr.1 hcells h1 h63 hbytes hbase
    exact ⟨v', w', hrun, h2, h3, h5⟩
theorem wpList_app {o : Oper} {a : Act} {Q : Exit → Act → World → Prop} {ops : Array Oper} {rest : List Oper} (hgd : o.guard = none) (s x : Operand) (t : TypeId)
    (ho : o.op = .call { callee := .builtin .append, args := #[s, x], argTypes := #[t, t] })
    (base : Nat) (e : TypeId) (i : TypeInfo) (z : Value) (size bytes : Nat) (ht : P.underlying t = some (.slice e)) (hi : P.info? e = some i) (hz : i.zero = some z)
    (hsize : i.size = size) (hby : i.bytes = bytes) (hzs : z.cells.size = size) (hsz : 0 < size)
    (v : Value) (n : Nat) (xs : List Value) (hs : a.eval s = v) (hown : w.ownsRow base e size v n xs)
    (A : Option Addr) (m c : Nat) (news : List Value) (hx : a.eval x = .slice A m c) (hr : Rd w size A m news) (h1 : ∀ u ∈ news, u.oneCell' = true)
    (h63 : n + m ≤ maxLen) (hbytes : (n + m) * bytes ≤ 140737488355328) (hbase : base ≤ w.heap.size)
    (h : ∀ v' w', w'.ownsRow base e size v' (n + m) (xs ++ news) → w.grownBy w' v.ownBlock → (v'.ownBlock = v.ownBlock ∨ v'.ownBlock = some w.heap.size) → wpList P ops Q rest (a.put o.dst v') w') : wpList P ops Q (o :: rest) a w :=
  wpList_plain hgd fun K hK => by
    obtain ⟨v', w', hrun, h2, h3, h4⟩ := app_rd (P := P) base t o.type e i z size bytes ht hi hz hsize hby hzs hsz v n xs hown A m c news hr h1 h63 hbytes hbase
    unfold Oper.wp execOp
    simp only [ho, resolve, invoke, builtin, Sem.run_bind, Sem.run_pure, Result.andThen_ok, List.map_toArray, List.map_cons, List.map_nil, hs, hx, hrun]
    exact hK _ _ (h v' w' h2 h3 h4)
end
/-- 'append(v, u...)' on []int: v the call's own, u whatever slice. -/
theorem wpList_appI {w : World} {o : Oper} {a : Act} {Q : Exit → Act → World → Prop} {ops : Array Oper} {rest : List Oper} (hgd : o.guard = none) (s x : Operand)
    (ho : o.op = .call { callee := .builtin .append, args := #[s, x], argTypes := #[24, 24] })
    {B : Nat} {v : Value} {n : Nat} {xs : List Int} (hs : a.eval s = v) (hown : OI w B v n xs)
    {u : Value} {m : Nat} {ys : List Int} (hx : a.eval x = u) (hr : SI w u m ys) (hnm : n + m ≤ 1048576) (hbase : B ≤ w.heap.size)
    (h : ∀ v' w', OI w' B v' (n + m) (xs ++ ys) → w.grownBy w' v.ownBlock → (v'.ownBlock = v.ownBlock ∨ v'.ownBlock = some w.heap.size) → wpList Tryz.prog ops Q rest (a.put o.dst v') w') : wpList Tryz.prog ops Q (o :: rest) a w := by
  obtain ⟨i, hi, hz, hsz, hby⟩ := info_parts intInfo
  obtain ⟨A, c, rfl, _, _, hR⟩ := hr
  refine wpList_app hgd s x _ ho B 3 i (.int .i64 0) 1 8 Tryz.underlying24 hi hz hsz hby rfl (by omega) v n _ hs hown.1 A m c _ hx hR.rd (ints_oneCell _ _) (by simp only [maxLen]; omega) (by omega) hbase ?_
  intro v' w' h1 h2 h3
  exact h v' w' ⟨by simpa using h1, hnm⟩ h2 h3
theorem OI.far {w : World} {B : Nat} {v : Value} {n : Nat} {xs : List Int} (h : OI w B v n xs) {b : Nat} (hb : b < B) : some b ≠ v.ownBlock := fun e => by
  have := (World.ownsRow.lt h.1 b e.symm).1; omega
/-- The new block of 'append(v, x)'. -/
theorem SI.one (w : World) (x : Int) (c : Nat) (hc : 1 ≤ c) : SI (w.alloc (.cells #[.int .i64 x] 3)) (.slice (some ⟨w.heap.size, 0, none⟩) 1 c) 1 [x] := by
  refine ⟨_, _, rfl, hc, by omega, rfl, fun _ => ⟨w.heap.size, 0, rfl, by simp, fun k y hy => ?_⟩⟩
  match k, hy with
  | 0, hy => simp at hy; subst hy; exact (Blk.new w _ _).cell 0
theorem OI.empty (w : World) : OI (w.alloc (.cells #[] 3)) w.heap.size (.slice (some ⟨w.heap.size, 0, none⟩) 0 0) 0 [] := OI.of_blk (Blk.new w _ _) (Nat.le_refl _) rfl rfl (by omega)
theorem OI.alloc {w : World} {B : Nat} {v : Value} {n : Nat} {xs : List Int} (h : OI w B v n xs) (o : Obj) : OI (w.alloc o) B v n xs := h.below ((Below.refl _ _).alloc (Nat.le_refl _) _)
theorem SI.alloc {w : World} {v : Value} {n : Nat} {xs : List Int} (h : SI w v n xs) (o : Obj) : SI (w.alloc o) v n xs := h.below ((Below.refl _ _).alloc (Nat.le_refl _) _)
/-- Behind an append onto a slice whose block lies from B on: what was below B stays. -/
theorem below_app {a w w' : World} {B : Nat} {v : Value} {n : Nat} {xs : List Int} (h : Below a.heap.size a w) (ho : OI w B v n xs) (hB : a.heap.size ≤ B) (hg : w.grownBy w' v.ownBlock) : Below a.heap.size a w' :=
  h.grown hg h.size (ho.grown_le hB)
end Go.Proofs.YtcfkemchekmjbaaGreatDoor

namespace Go.Proofs.YtcfkemchekmjbaaGreatDoor
open Go.RowKit
theorem OI.set_low {w : World} {B n : Nat} {v : Value} {xs : List Int} (h : OI w B v n xs) {p : Addr} (hp : p.block < B) (u : Value) : OI (w.setCell p u) B v n xs := ⟨ownsRow_setCell_below h.1 hp u, h.2⟩
theorem OI.ne_blk {w : World} {B n g : Nat} {v : Value} {xs : List Int} {t : TypeId} {cs : Array Value} (h : OI w B v n xs) (hb : Blk w g t cs) (ht : t ≠ 3) : v.ownBlock ≠ some g := by
  rcases h.1.2 with ⟨rfl, _⟩ | ⟨g', cap, cur, rfl, _, hh, _⟩
  · simp [Value.ownBlock]
  · intro he
    have e : g' = g := by have h : some g' = some g := he; injection h
    subst e
    unfold Blk at hb; rw [hh] at hb; injection hb with hb; injection hb with _ h2; exact ht h2.symm
theorem below_of_drew {w w' : World} (h : Below w.drew.heap.size w.drew w') : Below w.heap.size w w' := ((Below.refl _ _).drew).trans h
theorem SI.set_ne {w : World} {b off n c : Nat} {xs : List Int} (h : SI w (.slice (some ⟨b, off, none⟩) n c) n xs) {p : Addr} (hp : p.block ≠ b) (u : Value) : SI (w.setCell p u) (.slice (some ⟨b, off, none⟩) n c) n xs := by
  obtain ⟨A, c', h1, h2, h3, h4⟩ := h
  injection h1 with e1 e2 e3; subst e1; subst e3
  refine ⟨_, _, rfl, h2, h3, h4.1, fun hn => ?_⟩
  obtain ⟨b', o', e, hlt, hc⟩ := h4.2 hn
  injection e with e; injection e with e1 e2 _; subst e1; subst e2
  exact ⟨b, off, rfl, by simpa [World.setCell] using hlt, fun k x hx => (World.cell?_setCell_other w p ⟨b, off + k, none⟩ u (fun e => hp (by rw [e]))).trans (hc k x hx)⟩
theorem Blk.two {w : World} {g : Nat} {t : TypeId} {a b : Value} (h : Blk w g t #[a, b]) :
    w.cell? ⟨g, 0, none⟩ = some a ∧ w.cell? ⟨g, 1, none⟩ = some b ∧ w.frozen? ⟨g, 0, none⟩ = false ∧ w.frozen? ⟨g, 1, none⟩ = false := ⟨h.cell 0, h.cell 1, h.frozen 0, h.frozen 1⟩
theorem Blk.belowAll {w w' : World} {g : Nat} {t : TypeId} {cs : Array Value} (h : Blk w g t cs) (hb : Below w.heap.size w w') : Blk w' g t cs := h.below hb h.lt
theorem size_setCell (w : World) (p : Addr) (u : Value) : (w.setCell p u).heap.size = w.heap.size := by simp [World.setCell]
theorem SI.drew {w : World} {v : Value} {n : Nat} {xs : List Int} (h : SI w v n xs) : SI w.drew v n xs := h.below (Below.refl _ _).drew
theorem SI.of_args {w : World} {A : Option Addr} {n c : Nat} {xs : List Int} (hnc : n ≤ c) (hn : n ≤ 1048576) (h : RI w A n xs) : SI w (.slice A n c) n xs := ⟨A, c, rfl, hnc, hn, h⟩
end Go.Proofs.YtcfkemchekmjbaaGreatDoor
