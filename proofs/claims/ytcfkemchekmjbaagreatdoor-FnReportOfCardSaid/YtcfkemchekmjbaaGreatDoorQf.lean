/- Merged (what the law reaches): NumP, Drf, Drs, Drs2, Plan, Run1, RunP, RunI1, RunS, Tx2, RunI2, Ow. -/
import Derived.Test.YtcfkemchekmjbaaGreatDoorQe
import Derived.Lib.ItoaNum
import Derived.Deep.RegionHeld3
import Derived.Deep.RegionLaw
import Derived.Deep.RegionWith
import Derived.BigRegion
namespace Go.Proofs.YtcfkemchekmjbaaGreatDoor
open Go.RowKit
/-- The bytes l as a string. -/
def str (l : List UInt8) : ByteArray := ⟨l.toArray⟩
theorem str_add (a b : List UInt8) : str a ++ str b = str (a ++ b) := by
  have h : ∀ (x y : ByteArray), x.data ++ y.data = (x ++ y).data := fun x y => by rw [ByteArray.data_append]
  have e : (str a ++ str b).data = (str (a ++ b)).data := by rw [← h]; simp [str]
  cases hx : (str a ++ str b) with
  | mk d => rw [hx] at e; cases hy : str (a ++ b) with
    | mk d' => rw [hy] at e; simp at e; rw [e]
theorem str_size (a : List UInt8) : (str a).size = a.length := by simp [str, ByteArray.size]
def digs (n : Nat) : List UInt8 := Lib.decDigits n
theorem digs_lt {n : Nat} (h : n < 10) : digs n = [UInt8.ofNat (48 + n)] := by unfold digs; rw [Lib.decDigits, dif_pos h]
theorem digs_ge {n : Nat} (h : ¬ n < 10) : digs n = digs (n / 10) ++ [UInt8.ofNat (48 + n % 10)] := by
  have e : Lib.decDigits n = if _h : n < 10 then [UInt8.ofNat (48 + n)] else Lib.decDigits (n / 10) ++ [UInt8.ofNat (48 + n % 10)] := by rw [Lib.decDigits]
  unfold digs
  rw [e, dif_neg h]
theorem digs_len : ∀ (k n : Nat), n < 10 ^ (k + 1) → 1 ≤ (digs n).length ∧ (digs n).length ≤ k + 1
  | 0, n, h => by rw [digs_lt (by simpa using h)]; simp
  | k + 1, n, h => by
    by_cases h0 : n < 10
    · rw [digs_lt h0]; simp
    · have := digs_len k (n / 10) (by rw [Nat.pow_succ] at h; omega)
      rw [digs_ge h0]; simp; omega
theorem digs_no : ∀ (k n : Nat), n < 10 ^ (k + 1) → ∀ c ∈ digs n, c ≠ 32
  | 0, n, h, c, hc => by
    have h' : n < 10 := by simpa using h
    rw [digs_lt h'] at hc
    simp at hc; subst hc
    intro e
    have := congrArg UInt8.toNat e
    simp at this; omega
  | k + 1, n, h, c, hc => by
    by_cases h0 : n < 10
    · exact digs_no 0 n (by simpa using h0) c hc
    · rw [digs_ge h0] at hc
      rcases List.mem_append.1 hc with hc | hc
      · exact digs_no k (n / 10) (by rw [Nat.pow_succ] at h; omega) c hc
      · simp at hc; subst hc
        intro e
        have := congrArg UInt8.toNat e
        simp at this; omega
/-- What l1Number has when m is left of n. -/
def TailTo (n m : Nat) (s : List UInt8) : Prop := digs n = (if m < 10 then [] else digs (m / 10)) ++ s
theorem TailTo.zero (n : Nat) : TailTo n n [UInt8.ofNat (48 + n % 10)] := by
  unfold TailTo
  by_cases h : n < 10
  · rw [if_pos h, digs_lt h, Nat.mod_eq_of_lt h]; rfl
  · rw [if_neg h, digs_ge h]
theorem TailTo.step {n m : Nat} {s : List UInt8} (h : TailTo n m s) (hm : 9 < m) : TailTo n (m / 10) (UInt8.ofNat (48 + m / 10 % 10) :: s) := by
  unfold TailTo at h ⊢
  rw [if_neg (by omega)] at h
  by_cases h0 : m / 10 < 10
  · rw [if_pos h0, h, digs_lt h0, Nat.mod_eq_of_lt h0]; rfl
  · rw [if_neg h0, h, digs_ge h0]; simp
theorem TailTo.done {n m : Nat} {s : List UInt8} (h : TailTo n m s) (hm : ¬ 9 < m) : s = digs n := by
  unfold TailTo at h
  rw [if_pos (by omega)] at h; exact h.symm
def numB (xs : List Int) : Bool := xs.all (fun x => inB x 0 1000)
/-- The text of the first k numbers. -/
def textTo (xs : List Int) : Nat → List UInt8
  | 0 => []
  | k + 1 => textTo xs k ++ ((if 0 < k then [32] else []) ++ digs (xs.getD k 0).toNat)
def textL (xs : List Int) : List UInt8 := if numB xs then textTo xs xs.length else []
theorem textTo_succ {xs : List Int} {k : Nat} {x : Int} (hx : xs[k]? = some x) : textTo xs (k + 1) = textTo xs k ++ ((if 0 < k then [32] else []) ++ digs x.toNat) := by
  rw [textTo, List.getD_eq_getElem?_getD, hx]; rfl
theorem textTo_len {xs : List Int} : ∀ (k : Nat), (xs.take k).all (fun x => inB x 0 1000) = true → k ≤ xs.length → (textTo xs k).length ≤ 5 * k
  | 0, _, _ => by simp [textTo]
  | k + 1, h, hk => by
    have hx : xs[k]? = some xs[k] := List.getElem?_eq_getElem (by omega)
    rw [List.take_add_one, hx, List.all_append, Bool.and_eq_true] at h
    have h1 := textTo_len k h.1 (by omega)
    have h2 : inB xs[k] 0 1000 = true := by simpa using h.2
    rw [inB_iff] at h2
    have h3 := digs_len 3 xs[k].toNat (by omega)
    rw [textTo_succ hx]
    simp only [List.length_append]
    have h4 : (if 0 < k then [(32 : UInt8)] else []).length ≤ 1 := by split <;> simp
    omega
theorem all_snoc {xs : List Int} {k : Nat} {x : Int} (h : (xs.take k).all (fun x => inB x 0 1000) = true) (hx : xs[k]? = some x) (hp : inB x 0 1000 = true) : (xs.take (k + 1)).all (fun x => inB x 0 1000) = true := by
  rw [List.take_add_one, hx, List.all_append, h]; simp [hp]
theorem numB_no {xs : List Int} {k : Nat} {x : Int} (hx : xs[k]? = some x) (hp : inB x 0 1000 = false) : textL xs = [] := by
  have : numB xs = false := by
    unfold numB
    rw [← Bool.not_eq_true, List.all_eq_true]
    intro h
    have := h x (List.mem_of_getElem? hx)
    rw [hp] at this; cases this
  unfold textL; rw [this]; rfl
theorem numB_yes {xs : List Int} (h : (xs.take xs.length).all (fun x => inB x 0 1000) = true) : textL xs = textTo xs xs.length := by
  rw [List.take_length] at h
  unfold textL numB; rw [h]; rfl
end Go.Proofs.YtcfkemchekmjbaaGreatDoor

namespace Go.Proofs.YtcfkemchekmjbaaGreatDoor
open Go.RowKit
theorem O3.set_low {t : TypeId} {w : World} {B n : Nat} {v : Value} {xs : List T3} (h : O3 t w B v n xs) {p : Addr} (hp : p.block < B) (u : Value) : O3 t (w.setCell p u) B v n xs := ⟨ownsRow_setCell_below h.1 hp u, h.2⟩
theorem O3.form {t : TypeId} {w : World} {B n : Nat} {v : Value} {xs : List T3} (h : O3 t w B v n xs) : ∃ A c, v = .slice A n c ∧ n ≤ c ∧ c ≤ maxLen ∧ R3 w A n xs := by
  obtain ⟨A, c, h1, h2, h3, _⟩ := OF.form h.of
  obtain ⟨A', c', h4, _, _, h5⟩ := h.s3
  rw [h1] at h4; injection h4 with e1 _ e3; subst e1; subst e3
  exact ⟨A, c, h1, h2, h3, h5⟩
end Go.Proofs.YtcfkemchekmjbaaGreatDoor

namespace Go.Proofs.YtcfkemchekmjbaaGreatDoor
open Go.RowKit
abbrev Ds := List (Int × List T3)
/-- A draft at block b, offset off. -/
def ED (w : World) (b off : Nat) (m : Int × List T3) : Prop := ∃ (B : Option Addr) (k d : Nat), w.cell? ⟨b, off, none⟩ = some (.int .i64 m.1) ∧ w.cell? ⟨b, off + 1, none⟩ = some (.slice B k d) ∧ k ≤ d ∧ d ≤ maxLen ∧ R3 w B k m.2
theorem ED.below {w w' : World} {b off : Nat} {m : Int × List T3} (h : ED w b off m) (hb : Below w.heap.size w w') (hlt : b < w.heap.size) : ED w' b off m := by
  obtain ⟨B, k, d, h1, h2, h3, h4, h5⟩ := h
  exact ⟨B, k, d, (hb.cell (p := ⟨b, off, none⟩) hlt).trans h1, (hb.cell (p := ⟨b, off + 1, none⟩) hlt).trans h2, h3, h4, h5.below hb⟩
/-- n drafts at A. -/
def RDs (w : World) (A : Option Addr) (n : Nat) (ms : Ds) : Prop :=
  ms.length = n ∧ (0 < n → ∃ b off, A = some ⟨b, off, none⟩ ∧ b < w.heap.size ∧ ∀ (k : Nat) (m : Int × List T3), ms[k]? = some m → ED w b (off + k * 2) m)
theorem RDs.nil {w : World} {A : Option Addr} : RDs w A 0 [] := ⟨rfl, fun h => absurd h (by omega)⟩
theorem RDs.below {w w' : World} {A : Option Addr} {n : Nat} {ms : Ds} (h : RDs w A n ms) (hb : Below w.heap.size w w') : RDs w' A n ms :=
  ⟨h.1, fun hn => by
    obtain ⟨b, off, e, hlt, hc⟩ := h.2 hn
    exact ⟨b, off, e, Nat.lt_of_lt_of_le hlt hb.size, fun k m hm => (hc k m hm).below hb hlt⟩⟩
theorem RDs.at_ {w : World} {A : Option Addr} {n : Nat} {ms : Ds} (h : RDs w A n ms) {k : Nat} (hk : k < n) :
    ∃ b off f ys B kk d, A = some ⟨b, off, none⟩ ∧ b < w.heap.size ∧ ms[k]? = some (f, ys) ∧ w.cell? ⟨b, off + k * 2, none⟩ = some (.int .i64 f) ∧ w.cell? ⟨b, off + k * 2 + 1, none⟩ = some (.slice B kk d) ∧ kk ≤ d ∧ d ≤ maxLen ∧ R3 w B kk ys := by
  obtain ⟨b, off, e, hlt, hc⟩ := h.2 (by omega)
  have hl : k < ms.length := by have := h.1; omega
  obtain ⟨⟨f, ys⟩, hg⟩ : ∃ q, ms[k]? = some q := ⟨ms[k], List.getElem?_eq_getElem hl⟩
  obtain ⟨B, kk, d, h1, h2, h3, h4, h5⟩ := hc k _ hg
  exact ⟨b, off, f, ys, B, kk, d, e, hlt, hg, h1, h2, h3, h4, h5⟩
end Go.Proofs.YtcfkemchekmjbaaGreatDoor

namespace Go.Proofs.YtcfkemchekmjbaaGreatDoor
open Go.RowKit
def MadeD (w : World) (g n k : Nat) (ms : Ds) (cs : List Value) : Prop := cs.length = n * 2 ∧ Blk w g 77 cs.toArray ∧
  ∀ (j : Nat) (m : Int × List T3), j < k → ms[j]? = some m → ∃ (B : Option Addr) (kk d : Nat), cs[j * 2]? = some (.int .i64 m.1) ∧ cs[j * 2 + 1]? = some (.slice B kk d) ∧ O3 61 w (g + 1) (.slice B kk d) kk m.2
theorem MadeD.step {w w2 : World} {g n k : Nat} {ms : Ds} {cs : List Value} {f : Int} {ys : List T3} {B : Option Addr} {kk d B0 : Nat} (h : MadeD w g n k ms cs) (hk : k < n) (hx : ms[k]? = some (f, ys)) (b : Below w.heap.size w w2) (o : O3 61 w2 B0 (.slice B kk d) kk ys) (hB : g + 1 ≤ B0) :
    MadeD ((w2.setCell ⟨g, k * 2, none⟩ (.int .i64 f)).setCell ⟨g, k * 2 + 1, none⟩ (.slice B kk d)) g n (k + 1) ms ((cs.set (k * 2) (.int .i64 f)).set (k * 2 + 1) (.slice B kk d)) := by
  obtain ⟨h1, h2, h3⟩ := h
  refine ⟨by simp [h1], ?_, fun j m hj hm => ?_⟩
  · have := ((h2.belowAll b).set_ (k * 2) (.int .i64 f)).set_ (k * 2 + 1) (.slice B kk d)
    simpa using this
  · by_cases hjk : j = k
    · subst hjk
      rw [hx] at hm
      injection hm with hm
      subst hm
      refine ⟨B, kk, d, ?_, ?_, ((o.mono hB).set_low (p := ⟨g, j * 2, none⟩) (by show g < g + 1; omega) _).set_low (p := ⟨g, j * 2 + 1, none⟩) (by show g < g + 1; omega) _⟩
      · rw [List.getElem?_set_ne (by omega), List.getElem?_set_self (by omega)]
      · rw [List.getElem?_set_self (by simp; omega)]
    · obtain ⟨B', kk', d', e1, e2, o'⟩ := h3 j m (by omega) hm
      refine ⟨B', kk', d', ?_, ?_, ((o'.below b).set_low (p := ⟨g, k * 2, none⟩) (by show g < g + 1; omega) _).set_low (p := ⟨g, k * 2 + 1, none⟩) (by show g < g + 1; omega) _⟩
      · rw [List.getElem?_set_ne (by omega), List.getElem?_set_ne (by omega)]; exact e1
      · rw [List.getElem?_set_ne (by omega), List.getElem?_set_ne (by omega)]; exact e2
end Go.Proofs.YtcfkemchekmjbaaGreatDoor

namespace Go.Proofs.YtcfkemchekmjbaaGreatDoor
open Go.RowKit
def stepB (s : T3) : Bool := inB s.1 1 2 && (inB s.2.1 0 2 && (s.2.2 == 0))
def draftB (d : Int × List T3) : Bool := inB d.1 0 3 && (inB (d.2.length : Int) 1 4 && d.2.all stepB)
theorem all_snocA {α : Type} {p : α → Bool} {xs : List α} {k : Nat} {x : α} (h : (xs.take k).all p = true) (hx : xs[k]? = some x) (hp : p x = true) : (xs.take (k + 1)).all p = true := by
  rw [List.take_add_one, hx, List.all_append, h]; simp [hp]
theorem any_snocA {α : Type} {p : α → Bool} {xs : List α} {k : Nat} {x : α} (h : (xs.take k).any p = false) (hx : xs[k]? = some x) (hp : p x = false) : (xs.take (k + 1)).any p = false := by
  rw [List.take_add_one, hx, List.any_append, h]; simp [hp]
theorem any_atA {α : Type} {p : α → Bool} {xs : List α} {k : Nat} {x : α} (hx : xs[k]? = some x) (hp : p x = true) : xs.any p = true :=
  List.any_eq_true.2 ⟨x, List.mem_of_getElem? hx, hp⟩
theorem all_badA {α : Type} {p : α → Bool} {xs : List α} {k : Nat} {x : α} (hx : xs[k]? = some x) (hp : p x = false) : xs.all p = false := by
  rw [← Bool.not_eq_true, List.all_eq_true]; intro h; have := h x (List.mem_of_getElem? hx); rw [hp] at this; cases this
theorem not_allA {α : Type} (p : α → Bool) (xs : List α) : xs.all p = !xs.any (fun e => !p e) := by
  rw [Bool.eq_iff_iff]; simp
end Go.Proofs.YtcfkemchekmjbaaGreatDoor

namespace Go.Proofs.YtcfkemchekmjbaaGreatDoor
open Go.RowKit
theorem infoOpz : (Tryz.prog.info? 61).map (fun i => (i.zero, i.size, i.bytes)) = some (some (.agg #[.int .i64 0, .int .i64 0, .int .i64 0]), 3, 24) := by kernel_rfl
theorem Rd.three {w : World} {g : Nat} {t : TypeId} {a b c : Value} (h : Blk w g t #[a, b, c]) : Rd w 3 (some ⟨g, 0, none⟩) 1 [a, b, c] :=
  ⟨rfl, fun _ => ⟨g, 0, rfl, h.lt, fun k u hu => by
    rw [Nat.zero_add, h.cell]
    match k, hu with
    | 0, hu => simpa using hu
    | 1, hu => simpa using hu
    | 2, hu => simpa using hu⟩⟩
theorem Rd.two {w : World} {g : Nat} {t : TypeId} {a b : Value} (h : Blk w g t #[a, b]) : Rd w 2 (some ⟨g, 0, none⟩) 1 [a, b] :=
  ⟨rfl, fun _ => ⟨g, 0, rfl, h.lt, fun k u hu => by
    rw [Nat.zero_add, h.cell]
    match k, hu with
    | 0, hu => simpa using hu
    | 1, hu => simpa using hu⟩⟩
/-- The cells of drafts. -/
def cellsD : List (Int × In) → List Value
  | [] => []
  | e :: es => .int .i64 e.1 :: e.2.1 :: cellsD es
theorem cellsD_append : ∀ es fs : List (Int × In), cellsD (es ++ fs) = cellsD es ++ cellsD fs
  | [], fs => rfl
  | e :: es, fs => by simp [cellsD, cellsD_append es fs]
/-- Drafts of the call's own. -/
structure OD (w : World) (lo : Nat) (v : Value) (n : Nat) (es : List (Int × In)) : Prop where
  row : w.ownsRow lo 77 2 v n (cellsD es)
  own : ∀ (j : Nat) (e : Int × In), es[j]? = some e → OF 61 3 w lo e.2.1 e.2.2.1 e.2.2.2
  len : es.length = n
  small : n ≤ 1048576
theorem OD.below {w w' : World} {lo n : Nat} {v : Value} {es : List (Int × In)} (h : OD w lo v n es) (hb : Below w.heap.size w w') : OD w' lo v n es :=
  ⟨own_chg h.row (S := fun _ => False) (Chg.of_below hb) (fun _ _ => id), fun j e hj => (h.own j e hj).below hb, h.len, h.small⟩
theorem OD.ne {w : World} {lo n : Nat} {v : Value} {es : List (Int × In)} (h : OD w lo v n es) {j : Nat} {e : Int × In} (hj : es[j]? = some e) {k : Nat} (hk : v.ownBlock = some k) : e.2.1.ownBlock ≠ some k := by
  rcases h.row.2 with ⟨rfl, _⟩ | ⟨g, cap, cur, rfl, _, hb, _⟩
  · simp [Value.ownBlock] at hk
  · have e1 : g = k := by have h : some g = some k := hk; injection h
    subst e1
    exact (h.own j e hj).ne_blk hb (by decide)
theorem OD.push {w w' : World} {lo n : Nat} {v v' : Value} {es : List (Int × In)} (h : OD w lo v n es) {e : Int × In} (hr : w'.ownsRow lo 77 2 v' (n + 1) (cellsD es ++ [.int .i64 e.1, e.2.1])) (hg : w.grownBy w' v.ownBlock) (ho : OF 61 3 w' lo e.2.1 e.2.2.1 e.2.2.2) (hn : n + 1 ≤ 1048576) : OD w' lo v' (n + 1) (es ++ [e]) := by
  refine ⟨by rw [cellsD_append]; exact hr, fun i p hi => ?_, by simp [h.len], hn⟩
  by_cases e1 : i < es.length
  · rw [List.getElem?_append_left e1] at hi
    refine (h.own i p hi).grown hg ?_
    cases hv : p.2.1.ownBlock with
    | none => exact .inl rfl
    | some k => right; intro e2; exact h.ne hi e2.symm hv
  · have : i = es.length := by have := (List.getElem?_eq_some_iff.1 hi).1; simp at this; omega
    subst this
    simp at hi
    subst hi; exact ho
def SaysD (es : List (Int × In)) (ds : Ds) : Prop := es.map (fun e => (e.1, e.2.2.2)) = ds.map (fun d => (d.1, flat3 d.2))
theorem SaysD.nil : SaysD [] [] := rfl
theorem SaysD.push {es : List (Int × In)} {ds : Ds} {k : Nat} {f : Int} {ys : List T3} {v : Value} {n : Nat} (h : SaysD es (ds.take k)) (hx : ds[k]? = some (f, ys)) : SaysD (es ++ [(f, (v, n, flat3 ys))]) (ds.take (k + 1)) := by
  unfold SaysD at *
  rw [List.map_append, h, List.take_add_one, hx, List.map_append]; rfl
def emptyT (ds : Ds) : List Tx := ds.map fun d => (d.1, [], false)
theorem SaysT.push {es : List El} {ds : Ds} {k : Nat} {f : Int} {ys : List T3} {v : Value} (h : SaysT es (emptyT (ds.take k))) (hx : ds[k]? = some (f, ys)) : SaysT (es ++ [(f, (v, 0, []), false)]) (emptyT (ds.take (k + 1))) := by
  unfold SaysT emptyT at *
  rw [List.map_append, h, List.take_add_one, hx]; simp [flat3]
theorem OT.zero {w : World} {lo : Nat} (hlo : lo ≤ w.heap.size) : OT (w.alloc (.cells #[] 66)) lo (.slice (some ⟨w.heap.size, 0, none⟩) 0 0) 0 [] :=
  ⟨⟨rfl, .inr ⟨w.heap.size, 0, #[], rfl, hlo, Blk.new w _ _, Nat.le_refl _, by simp [maxLen], rfl, rfl⟩⟩, fun j e h => by simp at h, fun i j p q _ h => by simp at h, by omega⟩
theorem OT.none_ {w : World} {lo : Nat} : OT w lo (.slice none 0 0) 0 [] := ⟨⟨rfl, .inl ⟨rfl, rfl⟩⟩, fun j e h => by simp at h, fun i j p q _ h => by simp at h, by omega⟩
end Go.Proofs.YtcfkemchekmjbaaGreatDoor

namespace Go.Proofs.YtcfkemchekmjbaaGreatDoor
/-- The steps of a draft; the operations that a transaction has. -/
def stepsOf (ds : Ds) (n : Nat) : List T3 := (ds.getD n (0, [])).2
def opsOf (ts : List Tx) (n : Nat) : List T3 := (ts.getD n (0, [], false)).2.1
def sesOf (ts : List Tx) (n : Nat) : Int := (ts.getD n (0, [], false)).1
abbrev RunSt := List Tx × List Int
/-- A state that goes with the plan: each transaction has at most the steps of its draft, and is done if it has all. -/
def Fits (ds : Ds) (ts : List Tx) : Prop := ts.length = ds.length ∧ ∀ (n : Nat) (d : Int × List T3) (t : Tx), ds[n]? = some d → ts[n]? = some t → t.1 = d.1 ∧ t.2.1.length ≤ d.2.length ∧ t.2.2 = decide (t.2.1.length = d.2.length)
def Vals (st : List Int) : Prop := st.length = 3 ∧ ∀ v ∈ st, 0 ≤ v ∧ v ≤ 99
theorem draftB_parts {d : Int × List T3} (h : draftB d = true) : 1 ≤ d.2.length ∧ d.2.length ≤ 4 ∧ (0 ≤ d.1 ∧ d.1 ≤ 3) ∧ ∀ s ∈ d.2, (s.1 = 1 ∨ s.1 = 2) ∧ (0 ≤ s.2.1 ∧ s.2.1 ≤ 2) ∧ s.2.2 = 0 := by
  unfold draftB at h
  simp only [Bool.and_eq_true, List.all_eq_true] at h
  obtain ⟨h1, h2, h3⟩ := h
  have h1 := (inB_iff _ _ _).1 h1
  have h2 := (inB_iff _ _ _).1 h2
  refine ⟨by omega, by omega, h1, fun s hs => ?_⟩
  have := h3 s hs
  unfold stepB at this
  simp only [Bool.and_eq_true, beq_iff_eq] at this
  obtain ⟨a, b, c⟩ := this
  have a := (inB_iff _ _ _).1 a
  have b := (inB_iff _ _ _).1 b
  exact ⟨by omega, b, c⟩
theorem Fits.empty {ds : Ds} (h : ∀ d ∈ ds, draftB d = true) : Fits ds (emptyT ds) := by
  refine ⟨by simp [emptyT], fun n d t hd ht => ?_⟩
  have hl := (draftB_parts (h d (List.mem_of_getElem? hd))).1
  unfold emptyT at ht
  rw [List.getElem?_map, hd] at ht
  injection ht with ht; subst ht
  refine ⟨rfl, by simp, ?_⟩
  simp; omega
theorem Vals.zero : Vals [0, 0, 0] := ⟨rfl, fun v h => by simp at h; omega⟩
theorem Fits.at_ {ds : Ds} {ts : List Tx} (h : Fits ds ts) {n : Nat} (hn : n < ds.length) : ∃ d t, ds[n]? = some d ∧ ts[n]? = some t ∧ stepsOf ds n = d.2 ∧ opsOf ts n = t.2.1 ∧ sesOf ts n = t.1 ∧ t.2.1.length ≤ d.2.length ∧ t.2.2 = decide (t.2.1.length = d.2.length) := by
  have h1 : ds[n]? = some (ds[n]'hn) := List.getElem?_eq_getElem hn
  have hn2 : n < ts.length := by rw [h.1]; exact hn
  have h2 : ts[n]? = some (ts[n]'hn2) := List.getElem?_eq_getElem hn2
  obtain ⟨a, b, c⟩ := h.2 n _ _ h1 h2
  exact ⟨_, _, h1, h2, by simp [stepsOf, List.getD, h1], by simp [opsOf, List.getD, h2], by simp [sesOf, List.getD, h2], b, c⟩
/-- One more operation. -/
theorem Fits.step {ds : Ds} {ts : List Tx} (h : Fits ds ts) {n : Nat} {d : Int × List T3} {t : Tx} (hd : ds[n]? = some d) (ht : ts[n]? = some t) (hl : t.2.1.length < d.2.length) (o : T3) : Fits ds (ts.set n (t.1, t.2.1 ++ [o], decide (t.2.1.length + 1 = d.2.length))) := by
  refine ⟨by simp [h.1], fun i d' t' hd' ht' => ?_⟩
  by_cases e : n = i
  · subst e
    rw [List.getElem?_set_self (List.getElem?_eq_some_iff.1 ht).1] at ht'
    injection ht' with ht'; subst ht'
    have := hd.symm.trans hd'
    injection this with this; subst this
    refine ⟨(h.2 n d t hd ht).1, by simp; omega, by simp⟩
  · rw [List.getElem?_set_ne e] at ht'
    exact h.2 i d' t' hd' ht'
theorem Vals.set_ {st : List Int} (h : Vals st) (i : Nat) {v : Int} (hv : 0 ≤ v ∧ v ≤ 99) : Vals (st.set i v) :=
  ⟨by simp [h.1], fun x hx => by
    rcases List.mem_or_eq_of_mem_set hx with hx | rfl
    · exact h.2 x hx
    · exact hv⟩
end Go.Proofs.YtcfkemchekmjbaaGreatDoor

namespace Go.Proofs.YtcfkemchekmjbaaGreatDoor
open Go.RowKit
set_option maxHeartbeats 400000 in
theorem writes_c {x y z : Int} {w : World} : Calls Tryz.prog 94 #[.agg #[.int .i64 x, .int .i64 y, .int .i64 z]] w fun e w' => e = .returned (.bool (x == 2)) ∧ Below w.heap.size w w' := by
  go_enter Tryz.func94, Tryz.ntmps94
  go_wp2_with fail
  go_ret
  exact ⟨rfl, (Below.refl _ _).alloc (Nat.le_refl _) _⟩
/-- The machine at block gm: the plan, the history. -/
structure Mach (w : World) (lo gm : Nat) (A : Option Addr) (n c : Nat) (v : Value) (ts : List Tx) (es : List El) : Prop where
  box : Blk w gm 68 #[.slice A n c, v]
  own : OT w lo v n es
  says : SaysT es ts
  lt : gm < lo
theorem Mach.below {w w' : World} {lo gm n c : Nat} {A : Option Addr} {v : Value} {ts : List Tx} {es : List El} (h : Mach w lo gm A n c v ts es) (hb : Below w.heap.size w w') : Mach w' lo gm A n c v ts es :=
  ⟨h.box.belowAll hb, h.own.below hb, h.says, h.lt⟩
theorem O3.made {w : World} (k : Nat) (hk : k ≤ 1048576) : O3 61 (w.alloc (.cells ((List.replicate (k * 3) (Value.int .i64 0)).toArray) 61)) w.heap.size (.slice (some ⟨w.heap.size, 0, none⟩) 0 k) 0 [] :=
  ⟨⟨rfl, .inr ⟨w.heap.size, k, _, rfl, Nat.le_refl _, Blk.new w _ _, Nat.zero_le _, by simp [maxLen]; omega, by simp, by simp [flat3]⟩⟩, by omega⟩
theorem run_make_Opc (k : Nat) (hk : k ≤ 1048576) (w : World) :
    (Instr.makeSlice 64 (.int .i64 0) (.int .i64 (k : Int))).run Tryz.prog w = .ok (.slice (some ⟨w.heap.size, 0, none⟩) 0 k) (w.alloc (.cells ((List.replicate (k * 3) (Value.int .i64 0)).toArray) 61)) := by
  obtain ⟨i, hi, hz, hs, hb⟩ := info_parts infoOpz
  have := run_make_rowN 64 61 i (.agg #[.int .i64 0, .int .i64 0, .int .i64 0]) Tryz.underlying64 hi hz .i64 .i64 0 k (Nat.zero_le _) (by rw [hb]; omega) (by omega) w
  have e1 : madeCells (Value.agg #[.int .i64 0, .int .i64 0, .int .i64 0]).cells (k * i.size) = (List.replicate (k * 3) (Value.int .i64 0)).toArray := by
    rw [hs, ← Array.toArray_toList (xs := madeCells _ _)]
    rw [show (Value.agg #[.int .i64 0, .int .i64 0, .int .i64 0]).cells = #[Value.int .i64 0, Value.int .i64 0, Value.int .i64 0] from rfl, toList_madeCells3']
  rw [e1] at this
  exact this
end Go.Proofs.YtcfkemchekmjbaaGreatDoor

namespace Go.Proofs.YtcfkemchekmjbaaGreatDoor
open Go.RowKit
theorem SaysT.ops {es : List El} {ts : List Tx} (h : SaysT es ts) {lo n : Nat} {v : Value} {w : World} (D : OT w lo v n es) {k : Nat} {t : Tx} (hk : ts[k]? = some t) :
    ∃ u, es[k]? = some (t.1, (u, t.2.1.length, flat3 t.2.1), t.2.2) ∧ O3 61 w lo u t.2.1.length t.2.1 := by
  obtain ⟨e, he, e1, e2, e3⟩ := h.at_ hk
  have ho := D.own k e he
  obtain ⟨f, ⟨u, m, xs⟩, d⟩ := e
  dsimp only at e1 e2 e3 ho
  subst e1; subst e2; subst e3
  have hl := ho.len
  rw [flat3_len] at hl
  obtain rfl : t.2.1.length = m := by omega
  exact ⟨u, he, ho⟩
theorem SaysT.set_ {es : List El} {ts : List Tx} (h : SaysT es ts) (k : Nat) (t : Tx) (u : Value) (m : Nat) : SaysT (es.set k (t.1, (u, m, flat3 t.2.1), t.2.2)) (ts.set k t) := by
  unfold SaysT at *
  rw [List.map_set, List.map_set, h]
theorem OI.set_ne {w : World} {B n : Nat} {v : Value} {xs : List Int} (h : OI w B v n xs) {p : Addr} (hp : v.ownBlock ≠ some p.block) (u : Value) : OI (w.setCell p u) B v n xs :=
  h.grown (grown_setCell (World.grownBy.refl w (some p.block)) (.inl rfl) u) (.inr hp)
/-- The state of a run in memory: the history, the store. -/
structure AtRun (w : World) (lo : Nat) (v : Value) (gs n : Nat) (S : RunSt) (es : List El) : Prop where
  own : OT w lo v n es
  says : SaysT es S.1
  store : OI w lo (.slice (some ⟨gs, 0, none⟩) 3 3) 3 S.2
  apart : v.ownBlock ≠ some gs
  inner : ∀ (j : Nat) (e : El), es[j]? = some e → e.2.1.1.ownBlock ≠ some gs
theorem AtRun.below {w w' : World} {lo gs n : Nat} {v : Value} {S : RunSt} {es : List El} (h : AtRun w lo v gs n S es) (hb : Below w.heap.size w w') : AtRun w' lo v gs n S es :=
  ⟨h.own.below hb, h.says, h.store.below hb, h.apart, h.inner⟩
theorem AtRun.alloc {w : World} {lo gs n : Nat} {v : Value} {S : RunSt} {es : List El} (h : AtRun w lo v gs n S es) (o : Obj) : AtRun (w.alloc o) lo v gs n S es := h.below ((Below.refl _ _).alloc (Nat.le_refl _) _)
theorem AtRun.drew {w : World} {lo gs n : Nat} {v : Value} {S : RunSt} {es : List El} (h : AtRun w lo v gs n S es) : AtRun w.drew lo v gs n S es := h.below (Below.refl _ _).drew
/-- A value put into the store. -/
theorem AtRun.put {w : World} {lo gs n : Nat} {v : Value} {S : RunSt} {es : List El} (h : AtRun w lo v gs n S es) (i : Nat) (x : Int) : AtRun (w.setCell ⟨gs, i, none⟩ (.int .i64 x)) lo v gs n (S.1, S.2.set i x) es :=
  ⟨h.own.chg (Chg.setCell (S := fun k => k = gs) (p := ⟨gs, i, none⟩) rfl _) (fun k hk e => by
      subst e
      rcases hk with hk | ⟨j, e, hj, hk⟩
      · exact h.apart hk
      · exact h.inner j e hj hk), h.says, h.store.store i x, h.apart, h.inner⟩
/-- One more operation, and done or not. -/
theorem AtRun.add {w w' : World} {lo gs n g c : Nat} {S : RunSt} {es : List El} (h : AtRun w lo (.slice (some ⟨g, 0, none⟩) n c) gs n S es) {j : Nat} {t : Tx} {u : Value} (he : es[j]? = some (t.1, (u, t.2.1.length, flat3 t.2.1), t.2.2))
    (hg : w.grownBy w' u.ownBlock) {u' : Value} {o : T3} {L : Nat} (ho : O3 61 w' lo u' L (t.2.1 ++ [o])) (hq : u'.ownBlock = u.ownBlock ∨ u'.ownBlock = some w.heap.size) (d : Bool) :
    AtRun ((w'.setCell ⟨g, j * 3 + 1, none⟩ u').setCell ⟨g, j * 3 + 2, none⟩ (.bool d)) lo (.slice (some ⟨g, 0, none⟩) n c) gs n (S.1.set j (t.1, t.2.1 ++ [o], d), S.2) (es.set j (t.1, (u', L, flat3 (t.2.1 ++ [o])), d)) := by
  have hjl := (List.getElem?_eq_some_iff.1 he).1
  have hgs : gs < w.heap.size := (World.ownsRow.lt h.store.1 gs rfl).2
  have hu : u.ownBlock ≠ some gs := h.inner j _ he
  have D1 := h.own.append he hg (q := (u', L, flat3 (t.2.1 ++ [o]))) ho.of (hq.imp id (fun e k hk => by rw [e] at hk; injection hk with hk; omega))
  have D2 := D1.set2 (List.getElem?_set_self hjl) d
  rw [List.set_set] at D2
  refine ⟨D2, ?_, ?_, h.apart, fun i e hi => ?_⟩
  · exact h.says.set_ j (t.1, t.2.1 ++ [o], d) u' L
  · have hne : gs ≠ g := fun e => h.apart (by rw [e]; rfl)
    exact ((h.store.grown hg (.inr (fun e => hu e.symm))).set_ne (p := ⟨g, j * 3 + 1, none⟩) (fun e => hne (by injection e)) _).set_ne (p := ⟨g, j * 3 + 2, none⟩) (fun e => hne (by injection e)) _
  · by_cases e1 : j = i
    · subst e1
      rw [List.getElem?_set_self hjl] at hi
      injection hi with hi; subst hi
      rcases hq with hq | hq
      · rw [hq]; exact hu
      · rw [hq]; intro e; injection e with e; omega
    · rw [List.getElem?_set_ne e1] at hi
      exact h.inner i e hi
end Go.Proofs.YtcfkemchekmjbaaGreatDoor

namespace Go.Proofs.YtcfkemchekmjbaaGreatDoor
open Go.RowKit
theorem Blk.three {w : World} {g : Nat} {t : TypeId} {a b c : Value} (h : Blk w g t #[a, b, c]) : w.cell? ⟨g, 0, none⟩ = some a ∧ w.cell? ⟨g, 1, none⟩ = some b ∧ w.cell? ⟨g, 2, none⟩ = some c := ⟨h.cell 0, h.cell 1, h.cell 2⟩
def m3 (x : Int) : Bool := decide (x % 3 = 0)
def sumE (es : List El) : Nat := (es.map fun e => e.2.1.2.1 * 3 + 2).sum
theorem set_set {α : Type} (l : List α) (j : Nat) (a b : α) : (l.set j a).set j b = l.set j b := by simp
end Go.Proofs.YtcfkemchekmjbaaGreatDoor

namespace Go.Proofs.YtcfkemchekmjbaaGreatDoor
open Go.RowKit
/-- What a machine's row shows at place n0. -/
theorem Mach.look {w : World} {lo gm n c : Nat} {A : Option Addr} {v : Value} {ts : List Tx} {es : List El} (M : Mach w lo gm A n c v ts es) {n0 : Nat} {t : Tx} (hn : n0 < n) (ht : ts[n0]? = some t) :
    ∃ g cg Au cu, v = .slice (some ⟨g, 0, none⟩) n cg ∧ n ≤ cg ∧ lo ≤ g ∧ g < w.heap.size ∧ es[n0]? = some (t.1, (.slice Au t.2.1.length cu, t.2.1.length, flat3 t.2.1), t.2.2) ∧ t.2.1.length ≤ cu ∧
      w.cell? ⟨g, n0 * 3 + 1, none⟩ = some (.slice Au t.2.1.length cu) ∧ w.cell? ⟨g, n0 * 3 + 2, none⟩ = some (.bool t.2.2) ∧ O3 61 w lo (.slice Au t.2.1.length cu) t.2.1.length t.2.1 := by
  obtain ⟨u, he, ho⟩ := M.says.ops M.own ht
  rcases M.own.shape with ⟨_, h0⟩ | ⟨g, cg, rfl, hlg, hgs, hnc, hcm, _⟩
  · omega
  obtain ⟨c0, c1, c2⟩ := M.own.cells he
  obtain ⟨Au, cu, rfl, huc, _, _⟩ := ho.form
  exact ⟨g, cg, Au, cu, rfl, hnc, hlg, hgs, he, huc, c1, c2, ho⟩
end Go.Proofs.YtcfkemchekmjbaaGreatDoor

namespace Go.Proofs.YtcfkemchekmjbaaGreatDoor
open Go.RowKit
def OW (t : TypeId) (s : Nat) (w : World) (B : Nat) (v : Value) (n : Nat) (xs : List Int) : Prop :=
  n ≤ 1048576 ∧ xs.length = n * s ∧ ((v = .slice none 0 0 ∧ n = 0) ∨ ∃ (g c : Nat) (cur : Array Value), v = .slice (some ⟨g, 0, none⟩) n c ∧ B ≤ g ∧ Blk w g t cur ∧ n ≤ c ∧ c ≤ maxLen ∧ n * s ≤ cur.size ∧ cur.toList.take (n * s) = xs.map (Value.int .i64))
section
variable {t : TypeId} {s : Nat} {w w' : World} {B B' n : Nat} {v : Value} {xs : List Int}
theorem OF.ow (h : OF t s w B v n xs) : OW t s w B v n xs := by
  refine ⟨h.2, h.len, ?_⟩
  rcases h.1.2 with h1 | ⟨g, cap, cur, rfl, hB, hg, hc, hm, hs, ht⟩
  · exact .inl h1
  · have h5 : n * s ≤ cap * s := Nat.mul_le_mul_right s hc
    exact .inr ⟨g, cap, cur, rfl, hB, hg, hc, hm, by omega, ht⟩
theorem OW.len (h : OW t s w B v n xs) : xs.length = n * s := h.2.1
theorem OW.small (h : OW t s w B v n xs) : n ≤ 1048576 := h.1
theorem OW.ne_blk {g : Nat} {t' : TypeId} {cs : Array Value} (h : OW t s w B v n xs) (hb : Blk w g t' cs) (ht : t' ≠ t) : v.ownBlock ≠ some g := by
  rcases h.2.2 with ⟨rfl, _⟩ | ⟨g', cap, cur, rfl, _, hh, _⟩
  · simp [Value.ownBlock]
  · intro he
    have e : g' = g := by have h : some g' = some g := he; injection h
    subst e
    unfold Blk at hb hh; rw [hh] at hb; injection hb with hb; injection hb with _ h2; exact ht h2.symm
theorem OW.chg {S : Nat → Prop} (h : OW t s w B v n xs) (hc : Chg S w w') (hS : ∀ k, v.ownBlock = some k → ¬ S k) : OW t s w' B v n xs := by
  refine ⟨h.1, h.2.1, ?_⟩
  rcases h.2.2 with h1 | ⟨g, c, cur, rfl, hb, hgg, rest⟩
  · exact .inl h1
  · exact .inr ⟨g, c, cur, rfl, hb, hgg.chg hc (hS g rfl), rest⟩
theorem OW.below (h : OW t s w B v n xs) (hb : Below w.heap.size w w') : OW t s w' B v n xs := h.chg (S := fun _ => False) (Chg.of_below hb) (fun _ _ => id)
theorem OW.lt (h : OW t s w B v n xs) : ∀ k, v.ownBlock = some k → B ≤ k ∧ k < w.heap.size := fun k hk => by
  rcases h.2.2 with ⟨rfl, _⟩ | ⟨g, c, cur, rfl, hb, hgg, _⟩
  · simp [Value.ownBlock] at hk
  · have e1 : g = k := by have h : some g = some k := hk; injection h
    subst e1; exact ⟨hb, hgg.lt⟩
theorem OW.mono (h : OW t s w B v n xs) (hB : B' ≤ B) : OW t s w B' v n xs := by
  refine ⟨h.1, h.2.1, ?_⟩
  rcases h.2.2 with h1 | ⟨g, c, cur, hv, hb, r⟩
  · exact .inl h1
  · exact .inr ⟨g, c, cur, hv, by omega, r⟩
theorem OW.grown {row : Option Nat} (h : OW t s w B v n xs) (hg : w.grownBy w' row) (hne : v.ownBlock = none ∨ v.ownBlock ≠ row) : OW t s w' B v n xs :=
  h.chg (S := fun k => row = some k) (Chg.of_grown hg (fun _ e => e)) (fun k hk hr => by
    rcases hne with h1 | h1
    · rw [h1] at hk; cases hk
    · exact h1 (by rw [hk, hr]))
theorem OW.form (h : OW t s w B v n xs) :
    ∃ A c, v = .slice A n c ∧ n ≤ c ∧ c ≤ maxLen ∧ (A = none → n = 0 ∧ c = 0) ∧ (∀ a, A = some a → ∃ g, a = ⟨g, 0, none⟩ ∧ B ≤ g ∧ g < w.heap.size) := by
  rcases h.2.2 with ⟨rfl, hn⟩ | ⟨g, c, cur, rfl, hB, hg, hc, hm, _⟩
  · subst hn
    exact ⟨none, 0, rfl, by simp, by simp [maxLen], fun _ => ⟨rfl, rfl⟩, fun a ha => by cases ha⟩
  · refine ⟨some ⟨g, 0, none⟩, c, rfl, hc, hm, (fun h => by cases h), fun a ha => ?_⟩
    injection ha with ha
    exact ⟨g, ha.symm, hB, hg.lt⟩
theorem OW.blk {g c : Nat} (h : OW t s w B (.slice (some ⟨g, 0, none⟩) n c) n xs) : ∃ cur : Array Value, B ≤ g ∧ Blk w g t cur ∧ n ≤ c ∧ c ≤ maxLen ∧ n * s ≤ cur.size ∧ cur.toList.take (n * s) = xs.map (Value.int .i64) := by
  rcases h.2.2 with ⟨h1, _⟩ | ⟨g', c', cur, h1, r⟩
  · cases h1
  · injection h1 with h1 _ h3; injection h1 with h1; injection h1 with h1; subst h1; subst h3; exact ⟨cur, r⟩
theorem OW.store {g c : Nat} (h : OW t s w B (.slice (some ⟨g, 0, none⟩) n c) n xs) (j : Nat) (x : Int) :
    OW t s (w.setCell ⟨g, j, none⟩ (.int .i64 x)) B (.slice (some ⟨g, 0, none⟩) n c) n (xs.set j x) := by
  obtain ⟨cur, h1, h2, h3, h4, h5, h6⟩ := h.blk
  refine ⟨h.1, by simp [h.2.1], .inr ⟨g, c, _, rfl, h1, h2.set_ j (.int .i64 x), h3, h4, by simpa using h5, ?_⟩⟩
  rw [Array.toList_setIfInBounds, List.map_set, ← h6, List.take_set]
theorem OW.cell {g c : Nat} (h : OW t s w B (.slice (some ⟨g, 0, none⟩) n c) n xs) (j : Nat) (hj : j < n * s) : ∃ x, xs[j]? = some x ∧ w.cell? ⟨g, j, none⟩ = some (.int .i64 x) := by
  obtain ⟨cur, h1, h2, h3, h4, h5, h6⟩ := h.blk
  have hl : j < xs.length := by rw [h.2.1]; exact hj
  refine ⟨xs[j], List.getElem?_eq_getElem hl, ?_⟩
  rw [h2.cell]
  have h7 := congrArg (fun l => l[j]?) h6
  simp only [List.getElem?_take, hj, if_true, List.getElem?_map, List.getElem?_eq_getElem hl, Option.map_some] at h7
  simpa using h7
theorem OW.free {g c : Nat} (h : OW t s w B (.slice (some ⟨g, 0, none⟩) n c) n xs) (j : Nat) : w.frozen? ⟨g, j, none⟩ = false := by
  obtain ⟨cur, h1, h2, _⟩ := h.blk; exact h2.frozen j
end
theorem OW.s3 {t : TypeId} {w : World} {B n : Nat} {v : Value} {ts : List T3} (h : OW t 3 w B v n (flat3 ts)) : S3 w v n ts := by
  have hl := h.len
  rw [flat3_len] at hl
  rcases h.2.2 with ⟨rfl, hn⟩ | ⟨g, c, cur, rfl, hB, hg, hc, hm, hs, ht⟩
  · subst hn
    have hx : ts = [] := List.eq_nil_of_length_eq_zero (by omega)
    subst hx
    exact ⟨none, 0, rfl, by simp, by simp, R3.nil⟩
  · refine ⟨some ⟨g, 0, none⟩, c, rfl, hc, h.1, by omega, fun _ => ⟨g, 0, rfl, hg.lt, fun k x hx => ?_⟩⟩
    have hk : k < n * 3 := by rw [← h.len]; exact (List.getElem?_eq_some_iff.1 hx).1
    obtain ⟨x', h1, h2⟩ := h.cell k hk
    rw [Nat.zero_add]
    rw [hx] at h1; injection h1 with h1; subst h1; exact h2
end Go.Proofs.YtcfkemchekmjbaaGreatDoor
