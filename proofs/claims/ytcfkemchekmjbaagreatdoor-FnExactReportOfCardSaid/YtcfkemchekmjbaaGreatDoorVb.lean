/- Merged (what the law reaches): Row3, Row3b, OpS, App3, Drf, Drs, Drs2, Plan. -/
import Derived.Test.YtcfkemchekmjbaaGreatDoorVa
import Derived.Deep.RegionHeld3
namespace Go.Proofs.YtcfkemchekmjbaaGreatDoor
open Go.RowKit
abbrev T3 := Int × Int × Int
/-- The cells of a row of triples. -/
def flat3 : List T3 → List Int
  | [] => []
  | (x, y, z) :: ts => x :: y :: z :: flat3 ts
theorem flat3_len : ∀ ts : List T3, (flat3 ts).length = ts.length * 3
  | [] => rfl
  | (x, y, z) :: ts => by simp [flat3, flat3_len ts]; omega
theorem flat3_get : ∀ (ts : List T3) (k : Nat) (x y z : Int), ts[k]? = some (x, y, z) → (flat3 ts)[k * 3]? = some x ∧ (flat3 ts)[k * 3 + 1]? = some y ∧ (flat3 ts)[k * 3 + 2]? = some z
  | [], k, x, y, z, h => by simp at h
  | (a, b, c) :: ts, 0, x, y, z, h => by
    simp only [List.getElem?_cons_zero, Option.some.injEq, Prod.mk.injEq] at h
    obtain ⟨rfl, rfl, rfl⟩ := h
    simp [flat3]
  | (a, b, c) :: ts, k + 1, x, y, z, h => by
    simp only [List.getElem?_cons_succ] at h
    have := flat3_get ts k x y z h
    simp only [flat3, show (k + 1) * 3 = k * 3 + 1 + 1 + 1 by omega, List.getElem?_cons_succ]
    exact this
/-- A row at A of n triples ts. -/
def R3 (w : World) (A : Option Addr) (n : Nat) (ts : List T3) : Prop :=
  ts.length = n ∧ (0 < n → ∃ b off, A = some ⟨b, off, none⟩ ∧ b < w.heap.size ∧ ∀ (k : Nat) (x : Int), (flat3 ts)[k]? = some x → w.cell? ⟨b, off + k, none⟩ = some (.int .i64 x))
theorem R3.len {w : World} {A : Option Addr} {n : Nat} {ts : List T3} (h : R3 w A n ts) : ts.length = n := h.1
theorem R3.nil {w : World} {A : Option Addr} : R3 w A 0 [] := ⟨rfl, fun h => absurd h (by omega)⟩
theorem R3.below {w w' : World} {A : Option Addr} {n : Nat} {ts : List T3} (h : R3 w A n ts) (hb : Below w.heap.size w w') : R3 w' A n ts :=
  ⟨h.1, fun hn => by
    obtain ⟨b, off, e, hlt, hc⟩ := h.2 hn
    exact ⟨b, off, e, Nat.lt_of_lt_of_le hlt hb.size, fun k x hx => (hb.cell (p := ⟨b, off + k, none⟩) hlt).trans (hc k x hx)⟩⟩
theorem R3.at_ {w : World} {A : Option Addr} {n : Nat} {ts : List T3} (h : R3 w A n ts) {k : Nat} (hk : k < n) :
    ∃ b off x y z, A = some ⟨b, off, none⟩ ∧ b < w.heap.size ∧ ts[k]? = some (x, y, z) ∧ w.cell? ⟨b, off + k * 3, none⟩ = some (.int .i64 x) ∧ w.cell? ⟨b, off + k * 3 + 1, none⟩ = some (.int .i64 y) ∧ w.cell? ⟨b, off + k * 3 + 2, none⟩ = some (.int .i64 z) := by
  obtain ⟨b, off, e, hlt, hc⟩ := h.2 (by omega)
  have hl : k < ts.length := by have := h.1; omega
  obtain ⟨⟨x, y, z⟩, hg⟩ : ∃ q, ts[k]? = some q := ⟨ts[k], List.getElem?_eq_getElem hl⟩
  obtain ⟨h1, h2, h3⟩ := flat3_get ts k x y z hg
  exact ⟨b, off, x, y, z, e, hlt, hg, hc _ _ h1, by rw [Nat.add_assoc]; exact hc _ _ h2, by rw [Nat.add_assoc]; exact hc _ _ h3⟩
/-- The value v is a slice of n triples that reads as ts. -/
def S3 (w : World) (v : Value) (n : Nat) (ts : List T3) : Prop := ∃ A c, v = .slice A n c ∧ n ≤ c ∧ n ≤ 1048576 ∧ R3 w A n ts
theorem S3.below {w w' : World} {v : Value} {n : Nat} {ts : List T3} (h : S3 w v n ts) (hb : Below w.heap.size w w') : S3 w' v n ts := by
  obtain ⟨A, c, h1, h2, h3, h4⟩ := h
  exact ⟨A, c, h1, h2, h3, h4.below hb⟩
theorem S3.of_args {w : World} {A : Option Addr} {n c : Nat} {ts : List T3} (hnc : n ≤ c) (hn : n ≤ 1048576) (h : R3 w A n ts) : S3 w (.slice A n c) n ts := ⟨A, c, rfl, hnc, hn, h⟩
theorem S3.alloc {w : World} {v : Value} {n : Nat} {ts : List T3} (h : S3 w v n ts) (o : Obj) : S3 (w.alloc o) v n ts := h.below ((Below.refl _ _).alloc (Nat.le_refl _) _)
theorem S3.drew {w : World} {v : Value} {n : Nat} {ts : List T3} (h : S3 w v n ts) : S3 w.drew v n ts := h.below (Below.refl _ _).drew
theorem S3.shape {w : World} {v : Value} {n : Nat} {ts : List T3} (h : S3 w v n ts) : ∃ A c, v = .slice A n c := by obtain ⟨A, c, h1, _⟩ := h; exact ⟨A, c, h1⟩
/-- The slice value v, n elements of type t of three cells, is the call's own. -/
def O3 (t : TypeId) (w : World) (B : Nat) (v : Value) (n : Nat) (ts : List T3) : Prop := w.ownsRow B t 3 v n ((flat3 ts).map (Value.int .i64)) ∧ n ≤ 1048576
section
variable {t : TypeId} {w w' : World} {B B' : Nat} {v : Value} {n : Nat} {ts : List T3}
theorem O3.len (h : O3 t w B v n ts) : ts.length = n := by have := h.1.1; simp [flat3_len] at this; omega
theorem O3.below (h : O3 t w B v n ts) (hb : Below w.heap.size w w') : O3 t w' B v n ts :=
  ⟨h.1.kept (row := none) ⟨hb.os, hb.tape, hb.output, hb.size, fun k hk _ => hb.block k hk⟩ (by cases hv : v.ownBlock <;> simp), h.2⟩
theorem O3.mono (h : O3 t w B v n ts) (hB : B' ≤ B) : O3 t w B' v n ts := by
  obtain ⟨⟨h1, h2⟩, h3⟩ := h
  refine ⟨⟨h1, ?_⟩, h3⟩
  rcases h2 with h2 | ⟨g, cap, cur, hv, hb, r⟩
  · exact .inl h2
  · exact .inr ⟨g, cap, cur, hv, by omega, r⟩
theorem O3.drew (h : O3 t w B v n ts) : O3 t w.drew B v n ts := ⟨h.1.drew, h.2⟩
theorem O3.of_blk {g : Nat} {cs : Array Value} (h : Blk w g t cs) (hB : B ≤ g) (hx : cs.toList = (flat3 ts).map (Value.int .i64)) (hn : ts.length = n) (hm : n ≤ 1048576) :
    O3 t w B (.slice (some ⟨g, 0, none⟩) n n) n ts := by
  subst hn
  have hsz : cs.size = ts.length * 3 := by rw [← Array.length_toList, hx]; simp [flat3_len]
  exact ⟨⟨by simp [flat3_len], .inr ⟨g, ts.length, cs, rfl, hB, h, Nat.le_refl _, by simp [maxLen]; omega, hsz, by rw [hx, List.take_of_length_le (by simp [flat3_len])]⟩⟩, hm⟩
theorem O3.s3 (h : O3 t w B v n ts) : S3 w v n ts := by
  have hl := h.len
  obtain ⟨⟨h1, h2⟩, h3⟩ := h
  rcases h2 with ⟨rfl, hn⟩ | ⟨g, cap, cur, rfl, hB, hg, hc, hm, hs, ht⟩
  · subst hn
    have hx : ts = [] := List.eq_nil_of_length_eq_zero hl
    subst hx
    exact ⟨none, 0, rfl, by simp, by simp, R3.nil⟩
  · refine ⟨some ⟨g, 0, none⟩, cap, rfl, hc, h3, hl, fun _ => ⟨g, 0, rfl, Blk.lt hg, fun k x hx => ?_⟩⟩
    rw [Blk.cell (t := t) (cs := cur) hg]
    have : (cur.toList.take (n * 3))[k]? = some (.int .i64 x) := by rw [ht]; simp [hx]
    rw [List.getElem?_take] at this
    split at this
    · simpa using this
    · cases this
end
end Go.Proofs.YtcfkemchekmjbaaGreatDoor

namespace Go.Proofs.YtcfkemchekmjbaaGreatDoor
open Go.RowKit
/-- What is left of a purse of rooms. -/
def szN (left n : Int) : Int := if n ≤ left then left - n else -1
theorem toList_madeCells3' (z : Value) (n : Nat) : (madeCells #[z, z, z] (n * 3)).toList = List.replicate (n * 3) z := by
  unfold madeCells
  rw [Array.toList_map, List.eq_replicate_iff]
  refine ⟨by simp, fun x hx => ?_⟩
  obtain ⟨i, _, rfl⟩ := List.mem_map.1 hx
  have h3 : i % 3 < 3 := Nat.mod_lt _ (by omega)
  show (#[z, z, z] : Array Value)[i % 3]! = z
  rcases (show i % 3 = 0 ∨ i % 3 = 1 ∨ i % 3 = 2 by omega) with h | h | h <;> rw [h] <;> rfl
/-- The slice value v, n elements of type t of s cells that are all integers, is the call's own; xs: all cells. -/
def OF (t : TypeId) (s : Nat) (w : World) (B : Nat) (v : Value) (n : Nat) (xs : List Int) : Prop := w.ownsRow B t s v n (xs.map (Value.int .i64)) ∧ n ≤ 1048576
section
variable {t : TypeId} {s : Nat} {w w' : World} {B B' : Nat} {v : Value} {n : Nat} {xs : List Int} {ts : List T3}
theorem O3.grown {row : Option Nat} (h : O3 t w B v n ts) (hg : w.grownBy w' row) (hne : v.ownBlock = none ∨ v.ownBlock ≠ row) : O3 t w' B v n ts := ⟨h.1.kept hg hne, h.2⟩
theorem O3.of (h : O3 t w B v n ts) : OF t 3 w B v n (flat3 ts) := h
theorem OF.len (h : OF t s w B v n xs) : xs.length = n * s := by have := h.1.1; simpa using this
theorem OF.below (h : OF t s w B v n xs) (hb : Below w.heap.size w w') : OF t s w' B v n xs :=
  ⟨h.1.kept (row := none) ⟨hb.os, hb.tape, hb.output, hb.size, fun k hk _ => hb.block k hk⟩ (by cases hv : v.ownBlock <;> simp), h.2⟩
theorem OF.grown {row : Option Nat} (h : OF t s w B v n xs) (hg : w.grownBy w' row) (hne : v.ownBlock = none ∨ v.ownBlock ≠ row) : OF t s w' B v n xs := ⟨h.1.kept hg hne, h.2⟩
theorem OF.form (h : OF t s w B v n xs) :
    ∃ A c, v = .slice A n c ∧ n ≤ c ∧ c ≤ maxLen ∧ (A = none → n = 0 ∧ c = 0) ∧ (∀ a, A = some a → ∃ g, a = ⟨g, 0, none⟩ ∧ B ≤ g ∧ g < w.heap.size) := by
  obtain ⟨⟨h1, h2⟩, _⟩ := h
  rcases h2 with ⟨rfl, hn⟩ | ⟨g, cap, cur, rfl, hB, hg, hc, hm, hs, ht⟩
  · subst hn
    exact ⟨none, 0, rfl, by simp, by simp [maxLen], fun _ => ⟨rfl, rfl⟩, fun a ha => by cases ha⟩
  · refine ⟨some ⟨g, 0, none⟩, cap, rfl, hc, hm, (fun h => by cases h), fun a ha => ?_⟩
    injection ha with ha
    exact ⟨g, ha.symm, hB, Blk.lt hg⟩
theorem OF.store {g c : Nat} (h : OF t s w B (.slice (some ⟨g, 0, none⟩) n c) n xs) (j : Nat) (x : Int) :
    OF t s (w.setCell ⟨g, j, none⟩ (.int .i64 x)) B (.slice (some ⟨g, 0, none⟩) n c) n (xs.set j x) := by
  have := (World.ownsRow.stored h.1 j (.int .i64 x)).1
  exact ⟨by simpa [List.map_set] using this, h.2⟩
theorem OF.cell {g c : Nat} (h : OF t s w B (.slice (some ⟨g, 0, none⟩) n c) n xs) (j : Nat) (hj : j < n * s) : ∃ x, xs[j]? = some x ∧ w.cell? ⟨g, j, none⟩ = some (.int .i64 x) := by
  have h1 := World.ownsRow.cellAt h.1 j hj
  have hl := h.len
  exact ⟨xs[j]'(by omega), List.getElem?_eq_getElem _, h1.trans (by simp [List.getElem?_eq_getElem (show j < xs.length by omega)])⟩
theorem OF.free {g c : Nat} (h : OF t s w B (.slice (some ⟨g, 0, none⟩) n c) n xs) (j : Nat) : w.frozen? ⟨g, j, none⟩ = false := World.ownsRow.frozenAt h.1 j
/-- Two slices of the call's own, the second made behind the first: they lie apart. -/
theorem own_apart {w w' : World} {B1 n1 n2 s1 s2 : Nat} {t1 t2 : TypeId} {v1 v2 : Value} {x1 x2 : List Value} (h1 : w.ownsRow B1 t1 s1 v1 n1 x1) (h2 : w'.ownsRow w.heap.size t2 s2 v2 n2 x2) : Apart v1 v2 := by
  unfold Apart
  cases hv : v1.ownBlock with
  | none => exact .inl rfl
  | some k =>
    right; intro e
    have a := (World.ownsRow.lt h1 k hv).2
    have b := (World.ownsRow.lt h2 k e.symm).1
    omega
end
theorem S3.len {w : World} {v : Value} {n : Nat} {ts : List T3} (h : S3 w v n ts) : ts.length = n := by obtain ⟨A, c, h1, h2, h3, h4⟩ := h; exact h4.1
theorem S3.bd {w : World} {v : Value} {n : Nat} {ts : List T3} (h : S3 w v n ts) : n ≤ 1048576 := by obtain ⟨A, c, h1, h2, h3, h4⟩ := h; exact h3
theorem take_snoc_eq3 {α : Type} (xs ys : List α) (k : Nat) (x : α) (h : xs.take k = ys.take k) (hx : xs[k]? = some x) (hy : ys[k]? = some x) : xs.take (k + 1) = ys.take (k + 1) := by
  rw [List.take_add_one, List.take_add_one, h, hx, hy]
theorem mrk_step' (xs : List Int) (k : Int) (j : Nat) (x : Int) (h : j < xs.length) (hx : x = k + j) : (mrk xs k j).set j x = mrk xs k (j + 1) := by rw [hx]; exact mrk_step xs k j h
end Go.Proofs.YtcfkemchekmjbaaGreatDoor

namespace Go.Proofs.YtcfkemchekmjbaaGreatDoor
open Go.RowKit
set_option maxHeartbeats 1000000 in
theorem toOp_c {v t p : Int} {w : World} :
    Calls Tryz.prog 172 #[.agg #[.int .i64 v, .int .i64 t, .int .i64 p]] w fun e w' => e = .returned (.agg #[.int .i64 v, .int .i64 t, .int .i64 p]) ∧ Below w.heap.size w w' := by
  go_enter Tryz.func172, Tryz.ntmps172
  go_wp2
  exact bodyPost_ret (v := .agg #[.int .i64 v, .int .i64 t, .int .i64 p]) (by simp [results, Tryz.results172, go_sem]) rfl ⟨rfl, (((Below.refl _ _).alloc (Nat.le_refl _) _).alloc (by simp) _).alloc (by simp <;> omega) _⟩
set_option maxHeartbeats 1000000 in
theorem eqOp_c {v t p v' t' p' : Int} {w : World} :
    Calls Tryz.prog 180 #[.agg #[.int .i64 v, .int .i64 t, .int .i64 p], .agg #[.int .i64 v', .int .i64 t', .int .i64 p']] w fun e w' => e = .returned (.bool (v == v' && (t == t' && p == p'))) ∧ Below w.heap.size w w' := by
  have B0 : ∀ o o', Below w.heap.size w ((w.alloc o).alloc o') := fun o o' => ((Below.refl _ _).alloc (Nat.le_refl _) o).alloc (by simp) o'
  obtain ⟨r, hr⟩ : ∃ r, r = (v == v' && (t == t' && p == p')) := ⟨_, rfl⟩
  rw [← hr]
  cases h1 : (v == v')
  · have hf : r = false := by simp [hr, h1]
    have F := hide hf; clear hf hr
    go_enter Tryz.func180, Tryz.ntmps180
    go_wp2
    go_ret
    exact ⟨by rw [F.out]; rfl, B0 _ _⟩
  · cases h2 : (t == t')
    · have hf : r = false := by simp [hr, h1, h2]
      have F := hide hf; clear hf hr
      go_enter Tryz.func180, Tryz.ntmps180
      go_wp2
      go_ret
      exact ⟨by rw [F.out]; rfl, B0 _ _⟩
    · cases h3 : (p == p')
      · have hf : r = false := by simp [hr, h1, h2, h3]
        have F := hide hf; clear hf hr
        go_enter Tryz.func180, Tryz.ntmps180
        go_wp2
        go_ret
        exact ⟨by rw [F.out]; rfl, B0 _ _⟩
      · have hf : r = true := by simp [hr, h1, h2, h3]
        have F := hide hf; clear hf hr
        go_enter Tryz.func180, Tryz.ntmps180
        go_wp2
        go_ret
        exact ⟨by rw [F.out]; rfl, B0 _ _⟩
theorem infoOp : (Tryz.prog.info? 61).map (fun i => (i.zero, i.size, i.bytes)) = some (some (.agg #[.int .i64 0, .int .i64 0, .int .i64 0]), 3, 24) := by kernel_rfl
theorem run_make_Op (n : Nat) (hn : n ≤ 1048576) (w : World) :
    (Instr.makeSlice 64 (.int .i64 (n : Int)) (.int .i64 (n : Int))).run Tryz.prog w = .ok (.slice (some ⟨w.heap.size, 0, none⟩) n n) (w.alloc (.cells ((List.replicate (n * 3) (Value.int .i64 0)).toArray) 61)) := by
  obtain ⟨i, hi, hz, hs, hb⟩ := info_parts infoOp
  rw [run_make_rowN 64 61 i (.agg #[.int .i64 0, .int .i64 0, .int .i64 0]) Tryz.underlying64 hi hz .i64 .i64 n n (Nat.le_refl _) (by rw [hb]; omega) (by omega) w]
  have e1 : madeCells (Value.agg #[.int .i64 0, .int .i64 0, .int .i64 0]).cells (n * i.size) = (List.replicate (n * 3) (Value.int .i64 0)).toArray := by
    rw [hs, ← Array.toArray_toList (xs := madeCells _ _)]
    rw [show (Value.agg #[.int .i64 0, .int .i64 0, .int .i64 0]).cells = #[Value.int .i64 0, Value.int .i64 0, Value.int .i64 0] from rfl, toList_madeCells3']
  rw [e1]
set_option maxHeartbeats 1000000 in
theorem toOpS_c {v : Value} {n : Nat} {ts : List T3} {w : World} (hs : S3 w v n ts) :
    Calls Tryz.prog 126 #[v] w fun e w' => ∃ v, e = .returned v ∧ O3 61 w' w.heap.size v n ts ∧ Below w.heap.size w w' := by
  obtain ⟨A, c, rfl, hnc, hn, hr⟩ := hs
  have hmk := run_make_Op n hn
  have hlen := hide hr.len
  have hfl : (flat3 ts).length = n * 3 := by rw [flat3_len, hr.len]
  have Hfl := hide hfl; clear hfl
  go_enter Tryz.func126, Tryz.ntmps126
  go_wp2
  go_loopw [4] (fun i wr => ∃ k : Nat, k ≤ n ∧ i = .int .i64 k ∧ Blk wr w.heap.size 61 (cpy (flat3 ts) (k * 3)).toArray ∧ Below w.heap.size w wr) (fun i _ => n - (intOf i).toNat)
  case atStart => exact ⟨0, Nat.zero_le _, rfl, by rw [show 0 * 3 = 0 from rfl, cpy_zero, Hfl.out]; exact Blk.new _ _ _, (Below.refl _ _).alloc (Nat.le_refl _) _⟩
  case round =>
    obtain ⟨k, hk, rfl, hblk, hbel⟩ := hrel
    by_cases hlt : k < n
    · obtain ⟨b, off, x, y, z, rfl, hb, hx, hc0, hc1, hc2⟩ := hr.at_ hlt
      have Hx := hide hx; clear hx
      have a0 := (hbel.cell (p := ⟨b, off + k * 3, none⟩) hb).trans hc0
      have a1 := (hbel.cell (p := ⟨b, off + k * 3 + 1, none⟩) hb).trans hc1
      have a2 := (hbel.cell (p := ⟨b, off + k * 3 + 2, none⟩) hb).trans hc2
      clear hc0 hc1 hc2
      go_wp2_with fail
      refine (toOp_c).mono ?_
      rintro e w2 ⟨rfl, b2⟩
      have B2 := below_step hbel b2
      replace hblk := hblk.belowAll b2
      have hk3 : k * 3 + 2 < (cpy (flat3 ts) (k * 3)).length := by rw [cpy_len _ _ (by rw [Hfl.out]; omega), Hfl.out]; omega
      obtain ⟨u0, s0⟩ : ∃ u, w2.cell? ⟨w.heap.size, k * 3, none⟩ = some u := by rw [hblk.cell]; exact ⟨(cpy (flat3 ts) (k * 3))[k * 3]'(by omega), by simp⟩
      obtain ⟨u1, s1⟩ : ∃ u, w2.cell? ⟨w.heap.size, k * 3 + 1, none⟩ = some u := by rw [hblk.cell]; exact ⟨(cpy (flat3 ts) (k * 3))[k * 3 + 1]'(by omega), by simp⟩
      obtain ⟨u2, s2⟩ : ∃ u, w2.cell? ⟨w.heap.size, k * 3 + 2, none⟩ = some u := by rw [hblk.cell]; exact ⟨(cpy (flat3 ts) (k * 3))[k * 3 + 2]'(by omega), by simp⟩
      have f0 : w2.frozen? ⟨w.heap.size, k * 3, none⟩ = false := hblk.frozen _
      have f1 : w2.frozen? ⟨w.heap.size, k * 3 + 1, none⟩ = false := hblk.frozen _
      have f2 : w2.frozen? ⟨w.heap.size, k * 3 + 2, none⟩ = false := hblk.frozen _
      go_wp2_with fail
      go_roundw
      case rel =>
        refine ⟨k + 1, by omega, by go_num, ?_, ((B2.setCell (p := ⟨w.heap.size, k * 3, none⟩) (Nat.le_refl _) _).setCell (p := ⟨w.heap.size, k * 3 + 1, none⟩) (Nat.le_refl _) _).setCell (p := ⟨w.heap.size, k * 3 + 2, none⟩) (Nat.le_refl _) _⟩
        obtain ⟨g0, g1, g2⟩ := flat3_get ts k x y z Hx.out
        have := ((hblk.set_ (k * 3) (.int .i64 x)).set_ (k * 3 + 1) (.int .i64 y)).set_ (k * 3 + 2) (.int .i64 z)
        rw [show (k + 1) * 3 = k * 3 + 1 + 1 + 1 by omega, ← cpy_step _ _ z g2, ← cpy_step _ _ y g1, ← cpy_step _ _ x g0]
        simpa using this
      case measure => simp [intOf]; omega
    · go_wp2
      go_ret
      obtain rfl : k = n := by omega
      refine ⟨_, rfl, O3.of_blk hblk (Nat.le_refl _) ?_ hlen.out hn, hbel⟩
      rw [← Hfl.out, cpy_full]
set_option maxHeartbeats 400000 in
theorem szOpS_c {A : Option Addr} {n c : Nat} {left : Int} {w : World} (h0 : -1 ≤ left) (h1 : left ≤ 1048576) (hn : n ≤ maxLen) :
    Calls Tryz.prog 116 #[.slice A n c, .int .i64 left] w fun e w' => e = .returned (.int .i64 (szN left n)) ∧ w = w' := by
  unfold maxLen at hn
  by_cases h : (n : Int) ≤ left
  · have hf : szN left n = left - n := by simp [szN, h]
    have F := hide hf; clear hf
    go_enter Tryz.func116, Tryz.ntmps116
    go_wp2
    go_ret
    exact ⟨by rw [F.out]; rfl, rfl⟩
  · have hf : szN left n = -1 := by simp [szN, h]
    have F := hide hf; clear hf
    go_enter Tryz.func116, Tryz.ntmps116
    go_wp2
    go_ret
    exact ⟨by rw [F.out]; rfl, rfl⟩
set_option maxHeartbeats 4000000 in
theorem eqOpS_c {u v : Value} {n m : Nat} {xs ys : List T3} {w : World} (hu : S3 w u n xs) (hv : S3 w v m ys) :
    Calls Tryz.prog 139 #[u, v] w fun e w' => e = .returned (.bool (decide (xs = ys))) ∧ Below w.heap.size w w' := by
  obtain ⟨A, c, rfl, _, hn, ha⟩ := hu
  obtain ⟨B, d, rfl, _, hm, hb⟩ := hv
  have hla := hide ha.len
  have hlb := hide hb.len
  by_cases hnm : n = m
  · subst hnm
    go_enter Tryz.func139, Tryz.ntmps139
    go_wp2
    go_loopw [5] (fun i wr => ∃ k : Nat, k ≤ n ∧ i = .int .i64 k ∧ xs.take k = ys.take k ∧ Below w.heap.size w wr) (fun i _ => n - (intOf i).toNat)
    case atStart => exact ⟨0, Nat.zero_le _, rfl, rfl, Below.refl _ _⟩
    case round =>
      obtain ⟨k, hk, rfl, heq, hbel⟩ := hrel
      have Heq := hide heq; clear heq
      by_cases hlt : k < n
      · obtain ⟨b1, o1, x, y, z, rfl, hb1, hx, p0, p1, p2⟩ := ha.at_ hlt
        obtain ⟨b2, o2, x', y', z', rfl, hb2, hy, q0, q1, q2⟩ := hb.at_ hlt
        have Hx := hide hx; clear hx
        have Hy := hide hy; clear hy
        have c0 : wr.cell? ⟨b1, o1 + k * 3, none⟩ = some (.int .i64 x) := (hbel.cell hb1).trans p0
        have c1 : wr.cell? ⟨b1, o1 + k * 3 + 1, none⟩ = some (.int .i64 y) := (hbel.cell hb1).trans p1
        have c2 : wr.cell? ⟨b1, o1 + k * 3 + 2, none⟩ = some (.int .i64 z) := (hbel.cell hb1).trans p2
        have d0 : wr.cell? ⟨b2, o2 + k * 3, none⟩ = some (.int .i64 x') := (hbel.cell hb2).trans q0
        have d1 : wr.cell? ⟨b2, o2 + k * 3 + 1, none⟩ = some (.int .i64 y') := (hbel.cell hb2).trans q1
        have d2 : wr.cell? ⟨b2, o2 + k * 3 + 2, none⟩ = some (.int .i64 z') := (hbel.cell hb2).trans q2
        have k0 : (0 : Int) ≤ k := by omega
        have k1 : (k : Int) < n := by omega
        have l1 : b1 < wr.heap.size := Nat.lt_of_lt_of_le hb1 hbel.size
        have l2 : b2 < wr.heap.size := Nat.lt_of_lt_of_le hb2 hbel.size
        clear p0 p1 p2 q0 q1 q2
        obtain ⟨r, hr⟩ : ∃ r, r = (x == x' && (y == y' && z == z')) := ⟨_, rfl⟩
        have Hr := hide hr; clear hr
        go_wp2
        go_region_held3 (fun W => W.cell? ⟨b1, o1 + k * 3, none⟩ = some (.int .i64 x) ∧ W.cell? ⟨b1, o1 + k * 3 + 1, none⟩ = some (.int .i64 y) ∧ W.cell? ⟨b1, o1 + k * 3 + 2, none⟩ = some (.int .i64 z) ∧ W.cell? ⟨b2, o2 + k * 3, none⟩ = some (.int .i64 x') ∧ W.cell? ⟨b2, o2 + k * 3 + 1, none⟩ = some (.int .i64 y') ∧ W.cell? ⟨b2, o2 + k * 3 + 2, none⟩ = some (.int .i64 z'))
          (first | (go_keep; done) | (go_split_ands; refine ⟨?_, ?_, ?_, ?_, ?_, ?_⟩ <;> (rw [bq.cell (by first | exact l1 | exact l2)]; assumption)))
          (first | (go_at_call 180; refine (eqOp_c).mono ?_; rintro e wq ⟨rfl, bq⟩; rw [← Hr.out]))
        replace bq := below_of_drew bq
        have BQ := below_step hbel bq
        clear c0 c1 c2 d0 d1 d2 l1 l2
        cases r
        · go_wp2_with fail
          go_ret
          have hne : ¬ xs = ys := by
            intro h
            have e1 := Hx.out; rw [h, Hy.out] at e1
            injection e1 with e1; injection e1 with e1 e2; injection e2 with e2 e3
            have := Hr.out; subst e1; subst e2; subst e3; simp [] at this
          exact ⟨by simp [hne], BQ⟩
        · have he : x = x' ∧ y = y' ∧ z = z' := by have := Hr.out; simpa [] using this.symm
          have He := hide he; clear he
          go_wp2_with fail
          go_roundw
          case rel =>
            obtain ⟨e1, e2, e3⟩ := He.out
            subst e1; subst e2; subst e3
            exact ⟨k + 1, by omega, by go_num, take_snoc_eq3 _ _ _ _ Heq.out Hx.out Hy.out, BQ⟩
          case measure => simp [intOf]; omega
      · go_wp2
        go_ret
        obtain rfl : k = n := by omega
        have h1 := Heq.out
        rw [List.take_of_length_le (by rw [hla.out]; omega), List.take_of_length_le (by rw [hlb.out]; omega)] at h1
        exact ⟨by simp [h1], hbel⟩
  · have hne : ¬ xs = ys := by
      intro h; apply hnm; rw [← hla.out, ← hlb.out, h]
    have Hne := hide hne; clear hne
    go_enter Tryz.func139, Tryz.ntmps139
    go_wp2
    go_ret
    exact ⟨by simp [Hne.out], Below.refl _ _⟩
set_option maxHeartbeats 4000000 in
theorem markOpS_c {v : Value} {n : Nat} {xs : List Int} {k : Int} {B : Nat} {w : World} (ho : OF 61 3 w B v n xs) (hk0 : 0 ≤ k) (hk1 : k ≤ 4194304) :
    Calls Tryz.prog 80 #[v, .int .i64 k] w fun e w' => e = .returned (.int .i64 (k + n * 3)) ∧ OF 61 3 w' B v n (upFrom k (n * 3)) ∧ w.grownBy w' v.ownBlock := by
  have hn := ho.2
  obtain ⟨A, c, rfl, hlc, hmx, hA, hg⟩ := ho.form
  have Hn := hide ho.len
  go_enter Tryz.func80, Tryz.ntmps80
  go_wp2
  go_loopw [1, 5] (fun kk i wr => ∃ j : Nat, j ≤ n ∧ i = .int .i64 j ∧ kk = .int .i64 (k + j * 3) ∧ OF 61 3 wr B (.slice A n c) n (mrk xs k (j * 3)) ∧ w.grownBy wr (Value.slice A n c).ownBlock) (fun _ i _ => n - (intOf i).toNat)
  case atStart => exact ⟨0, Nat.zero_le _, rfl, by simp, by rw [show 0 * 3 = 0 from rfl, mrk_zero]; exact ho, World.grownBy.refl _ _⟩
  case round =>
    obtain ⟨j, hj, rfl, rfl, hown, hgr⟩ := hrel
    by_cases hlt : j < n
    · obtain ⟨b, rfl⟩ : ∃ b, A = some ⟨b, 0, none⟩ := by
        cases A with
        | none => have := (hA rfl).1; omega
        | some a => obtain ⟨g, h1, _⟩ := hg a rfl; exact ⟨g, by rw [h1]⟩
      obtain ⟨u0, _, s0⟩ := hown.cell (j * 3) (by omega)
      obtain ⟨u1, _, s1⟩ := hown.cell (j * 3 + 1) (by omega)
      obtain ⟨u2, _, s2⟩ := hown.cell (j * 3 + 2) (by omega)
      have f0 := hown.free (j * 3)
      have f1 := hown.free (j * 3 + 1)
      have f2 := hown.free (j * 3 + 2)
      have Hown := hide hown; clear hown
      have Hgr := hide hgr; clear hgr
      clear hA hg
      go_wp2
      go_roundw
      case rel =>
        refine ⟨j + 1, by omega, by go_num, by go_num, ?_, grown_setCell (p := ⟨b, j * 3 + 2, none⟩) (grown_setCell (p := ⟨b, j * 3 + 1, none⟩) (grown_setCell (p := ⟨b, j * 3, none⟩) Hgr.out (.inl rfl) _) (.inl rfl) _) (.inl rfl) _⟩
        have h2 := OF.store (OF.store (OF.store Hown.out (j * 3) (k + j * 3)) (j * 3 + 1) (k + j * 3 + 1)) (j * 3 + 2) (k + j * 3 + 1 + 1)
        rw [mrk_step' _ _ _ _ (by rw [Hn.out]; omega) (by omega), mrk_step' _ _ _ _ (by rw [Hn.out]; omega) (by omega), mrk_step' _ _ _ _ (by rw [Hn.out]; omega) (by omega)] at h2
        rw [show (j + 1) * 3 = j * 3 + 1 + 1 + 1 by omega]
        simpa [Int.add_assoc] using h2
      case measure => simp [intOf]; omega
    · go_wp2
      go_ret
      obtain rfl : j = n := by omega
      exact ⟨rfl, by have h3 := hown; rw [← Hn.out, mrk_full, Hn.out] at h3; exact h3, hgr⟩
end Go.Proofs.YtcfkemchekmjbaaGreatDoor

namespace Go.Proofs.YtcfkemchekmjbaaGreatDoor
open Go.RowKit
theorem flat3_append (ts us : List T3) : flat3 (ts ++ us) = flat3 ts ++ flat3 us := by
  induction ts with
  | nil => rfl
  | cons a ts ih => obtain ⟨x, y, z⟩ := a; simp [flat3, ih]
theorem R3.rd {w : World} {A : Option Addr} {n : Nat} {ts : List T3} (h : R3 w A n ts) : Rd w 3 A n ((flat3 ts).map (Value.int .i64)) :=
  ⟨by simp [flat3_len, h.1], fun hn => by
    obtain ⟨b, off, e, hlt, hc⟩ := h.2 hn
    refine ⟨b, off, e, hlt, fun k u hu => ?_⟩
    rw [List.getElem?_map] at hu
    cases hx : (flat3 ts)[k]? with
    | none => rw [hx] at hu; cases hu
    | some x => rw [hx] at hu; injection hu with hu; subst hu; exact hc k x hx⟩
/-- 'append(v, u...)' on slices of such structs: v the call's own, u whatever slice. -/
theorem wpList_app3 {w : World} {o : Oper} {a : Act} {Q : Exit → Act → World → Prop} {ops : Array Oper} {rest : List Oper} (hgd : o.guard = none) (s x : Operand) {t te : TypeId}
    (ho : o.op = .call { callee := .builtin .append, args := #[s, x], argTypes := #[t, t] })
    (hU : Tryz.prog.underlying t = some (.slice te)) (hI : (Tryz.prog.info? te).map (fun i => (i.zero, i.size, i.bytes)) = some (some (.agg #[.int .i64 0, .int .i64 0, .int .i64 0]), 3, 24))
    {B : Nat} {v : Value} {n : Nat} {ts : List T3} (hs : a.eval s = v) (hown : O3 te w B v n ts)
    {u : Value} {m : Nat} {us : List T3} (hx : a.eval x = u) (hr : S3 w u m us) (hnm : n + m ≤ 1048576) (hbase : B ≤ w.heap.size)
    (h : ∀ v' w', O3 te w' B v' (n + m) (ts ++ us) → w.grownBy w' v.ownBlock → (v'.ownBlock = v.ownBlock ∨ v'.ownBlock = some w.heap.size) → wpList Tryz.prog ops Q rest (a.put o.dst v') w') : wpList Tryz.prog ops Q (o :: rest) a w := by
  obtain ⟨i, hi, hz, hsz, hby⟩ := info_parts hI
  obtain ⟨A, c, rfl, _, _, hR⟩ := hr
  refine wpList_app hgd s x _ ho B te i (.agg #[.int .i64 0, .int .i64 0, .int .i64 0]) 3 24 hU hi hz hsz hby rfl (by omega) v n _ hs hown.1 A m c _ hx hR.rd (ints_oneCell _ _) (by simp only [maxLen]; omega) (by omega) hbase ?_
  intro v' w' h1 h2 h3
  exact h v' w' ⟨by rw [flat3_append]; simpa using h1, hnm⟩ h2 h3
theorem O3.empty (te : TypeId) (w : World) : O3 te (w.alloc (.cells #[] te)) w.heap.size (.slice (some ⟨w.heap.size, 0, none⟩) 0 0) 0 [] := O3.of_blk (Blk.new w _ _) (Nat.le_refl _) rfl rfl (by omega)
theorem S3.one {w : World} {g c : Nat} {te : TypeId} {x y z : Int} (h : Blk w g te #[.int .i64 x, .int .i64 y, .int .i64 z]) (hc : 1 ≤ c) : S3 w (.slice (some ⟨g, 0, none⟩) 1 c) 1 [(x, y, z)] := by
  refine ⟨_, _, rfl, hc, by omega, rfl, fun _ => ⟨g, 0, rfl, h.lt, fun k q hq => ?_⟩⟩
  rw [Nat.zero_add, h.cell]
  match k, hq with
  | 0, hq => simp [flat3] at hq; subst hq; rfl
  | 1, hq => simp [flat3] at hq; subst hq; rfl
  | 2, hq => simp [flat3] at hq; subst hq; rfl
theorem O3.alloc {te : TypeId} {w : World} {B : Nat} {v : Value} {n : Nat} {ts : List T3} (h : O3 te w B v n ts) (o : Obj) : O3 te (w.alloc o) B v n ts := h.below ((Below.refl _ _).alloc (Nat.le_refl _) _)
theorem O3.far {te : TypeId} {w : World} {B : Nat} {v : Value} {n : Nat} {ts : List T3} (h : O3 te w B v n ts) {b : Nat} (hb : b < B) : some b ≠ v.ownBlock := fun e => by
  have := (World.ownsRow.lt h.1 b e.symm).1; omega
theorem O3.shape {te : TypeId} {w : World} {B : Nat} {v : Value} {n : Nat} {ts : List T3} (h : O3 te w B v n ts) : ∃ A c, v = .slice A n c := by obtain ⟨A, c, h1, _⟩ := h.s3; exact ⟨A, c, h1⟩
theorem below_app3 {te : TypeId} {a w w' : World} {B : Nat} {v : Value} {n : Nat} {ts : List T3} (h : Below a.heap.size a w) (ho : O3 te w B v n ts) (hB : a.heap.size ≤ B) (hg : w.grownBy w' v.ownBlock) : Below a.heap.size a w' :=
  h.grown hg h.size (fun k hk => by have := (World.ownsRow.lt ho.1 k hk).1; omega)
end Go.Proofs.YtcfkemchekmjbaaGreatDoor

namespace Go.Proofs.YtcfkemchekmjbaaGreatDoor
open Go.RowKit
theorem O3.set_low {t : TypeId} {w : World} {B n : Nat} {v : Value} {xs : List T3} (h : O3 t w B v n xs) {p : Addr} (hp : p.block < B) (u : Value) : O3 t (w.setCell p u) B v n xs := ⟨ownsRow_setCell_below h.1 hp u, h.2⟩
theorem O3.form {t : TypeId} {w : World} {B n : Nat} {v : Value} {xs : List T3} (h : O3 t w B v n xs) : ∃ A c, v = .slice A n c ∧ n ≤ c ∧ c ≤ maxLen ∧ R3 w A n xs := by
  obtain ⟨A, c, h1, h2, h3, _⟩ := OF.form h.of
  obtain ⟨A', c', h4, _, _, h5⟩ := h.s3
  rw [h1] at h4; injection h4 with e1 _ e3; subst e1; subst e3
  exact ⟨A, c, h1, h2, h3, h5⟩
end Go.Proofs.YtcfkemchekmjbaaGreatDoor

namespace Go.Proofs.YtcfkemchekmjbaaGreatDoor
open Go.RowKit
abbrev Ds := List (Int × List T3)
/-- A draft at block b, offset off. -/
def ED (w : World) (b off : Nat) (m : Int × List T3) : Prop := ∃ (B : Option Addr) (k d : Nat), w.cell? ⟨b, off, none⟩ = some (.int .i64 m.1) ∧ w.cell? ⟨b, off + 1, none⟩ = some (.slice B k d) ∧ k ≤ d ∧ d ≤ maxLen ∧ R3 w B k m.2
theorem ED.below {w w' : World} {b off : Nat} {m : Int × List T3} (h : ED w b off m) (hb : Below w.heap.size w w') (hlt : b < w.heap.size) : ED w' b off m := by
  obtain ⟨B, k, d, h1, h2, h3, h4, h5⟩ := h
  exact ⟨B, k, d, (hb.cell (p := ⟨b, off, none⟩) hlt).trans h1, (hb.cell (p := ⟨b, off + 1, none⟩) hlt).trans h2, h3, h4, h5.below hb⟩
/-- n drafts at A. -/
def RDs (w : World) (A : Option Addr) (n : Nat) (ms : Ds) : Prop :=
  ms.length = n ∧ (0 < n → ∃ b off, A = some ⟨b, off, none⟩ ∧ b < w.heap.size ∧ ∀ (k : Nat) (m : Int × List T3), ms[k]? = some m → ED w b (off + k * 2) m)
theorem RDs.nil {w : World} {A : Option Addr} : RDs w A 0 [] := ⟨rfl, fun h => absurd h (by omega)⟩
theorem RDs.below {w w' : World} {A : Option Addr} {n : Nat} {ms : Ds} (h : RDs w A n ms) (hb : Below w.heap.size w w') : RDs w' A n ms :=
  ⟨h.1, fun hn => by
    obtain ⟨b, off, e, hlt, hc⟩ := h.2 hn
    exact ⟨b, off, e, Nat.lt_of_lt_of_le hlt hb.size, fun k m hm => (hc k m hm).below hb hlt⟩⟩
theorem RDs.at_ {w : World} {A : Option Addr} {n : Nat} {ms : Ds} (h : RDs w A n ms) {k : Nat} (hk : k < n) :
    ∃ b off f ys B kk d, A = some ⟨b, off, none⟩ ∧ b < w.heap.size ∧ ms[k]? = some (f, ys) ∧ w.cell? ⟨b, off + k * 2, none⟩ = some (.int .i64 f) ∧ w.cell? ⟨b, off + k * 2 + 1, none⟩ = some (.slice B kk d) ∧ kk ≤ d ∧ d ≤ maxLen ∧ R3 w B kk ys := by
  obtain ⟨b, off, e, hlt, hc⟩ := h.2 (by omega)
  have hl : k < ms.length := by have := h.1; omega
  obtain ⟨⟨f, ys⟩, hg⟩ : ∃ q, ms[k]? = some q := ⟨ms[k], List.getElem?_eq_getElem hl⟩
  obtain ⟨B, kk, d, h1, h2, h3, h4, h5⟩ := hc k _ hg
  exact ⟨b, off, f, ys, B, kk, d, e, hlt, hg, h1, h2, h3, h4, h5⟩
end Go.Proofs.YtcfkemchekmjbaaGreatDoor

namespace Go.Proofs.YtcfkemchekmjbaaGreatDoor
open Go.RowKit
def MadeD (w : World) (g n k : Nat) (ms : Ds) (cs : List Value) : Prop := cs.length = n * 2 ∧ Blk w g 77 cs.toArray ∧
  ∀ (j : Nat) (m : Int × List T3), j < k → ms[j]? = some m → ∃ (B : Option Addr) (kk d : Nat), cs[j * 2]? = some (.int .i64 m.1) ∧ cs[j * 2 + 1]? = some (.slice B kk d) ∧ O3 61 w (g + 1) (.slice B kk d) kk m.2
theorem MadeD.step {w w2 : World} {g n k : Nat} {ms : Ds} {cs : List Value} {f : Int} {ys : List T3} {B : Option Addr} {kk d B0 : Nat} (h : MadeD w g n k ms cs) (hk : k < n) (hx : ms[k]? = some (f, ys)) (b : Below w.heap.size w w2) (o : O3 61 w2 B0 (.slice B kk d) kk ys) (hB : g + 1 ≤ B0) :
    MadeD ((w2.setCell ⟨g, k * 2, none⟩ (.int .i64 f)).setCell ⟨g, k * 2 + 1, none⟩ (.slice B kk d)) g n (k + 1) ms ((cs.set (k * 2) (.int .i64 f)).set (k * 2 + 1) (.slice B kk d)) := by
  obtain ⟨h1, h2, h3⟩ := h
  refine ⟨by simp [h1], ?_, fun j m hj hm => ?_⟩
  · have := ((h2.belowAll b).set_ (k * 2) (.int .i64 f)).set_ (k * 2 + 1) (.slice B kk d)
    simpa using this
  · by_cases hjk : j = k
    · subst hjk
      rw [hx] at hm
      injection hm with hm
      subst hm
      refine ⟨B, kk, d, ?_, ?_, ((o.mono hB).set_low (p := ⟨g, j * 2, none⟩) (by show g < g + 1; omega) _).set_low (p := ⟨g, j * 2 + 1, none⟩) (by show g < g + 1; omega) _⟩
      · rw [List.getElem?_set_ne (by omega), List.getElem?_set_self (by omega)]
      · rw [List.getElem?_set_self (by simp; omega)]
    · obtain ⟨B', kk', d', e1, e2, o'⟩ := h3 j m (by omega) hm
      refine ⟨B', kk', d', ?_, ?_, ((o'.below b).set_low (p := ⟨g, k * 2, none⟩) (by show g < g + 1; omega) _).set_low (p := ⟨g, k * 2 + 1, none⟩) (by show g < g + 1; omega) _⟩
      · rw [List.getElem?_set_ne (by omega), List.getElem?_set_ne (by omega)]; exact e1
      · rw [List.getElem?_set_ne (by omega), List.getElem?_set_ne (by omega)]; exact e2
theorem MadeD.rm {w : World} {g n : Nat} {ms : Ds} {cs : List Value} (h : MadeD w g n n ms cs) (hl : ms.length = n) : RDs w (some ⟨g, 0, none⟩) n ms := by
  obtain ⟨h1, h2, h3⟩ := h
  refine ⟨hl, fun _ => ⟨g, 0, rfl, h2.lt, fun k m hm => ?_⟩⟩
  have hk : k < ms.length := by
    rcases Nat.lt_or_ge k ms.length with h | h
    · exact h
    · rw [List.getElem?_eq_none h] at hm; cases hm
  obtain ⟨B, kk, d, e1, e2, o⟩ := h3 k m (by omega) hm
  obtain ⟨B', d', e3, hd, hm', hri⟩ := o.form
  injection e3 with e3a _ e3c; subst e3a; subst e3c
  refine ⟨B, kk, d, ?_, ?_, hd, hm', hri⟩
  · rw [Nat.zero_add, h2.cell]; simpa using e1
  · rw [Nat.zero_add, h2.cell]; simpa using e2
end Go.Proofs.YtcfkemchekmjbaaGreatDoor

namespace Go.Proofs.YtcfkemchekmjbaaGreatDoor
open Go.RowKit
def stepB (s : T3) : Bool := inB s.1 1 2 && (inB s.2.1 0 2 && (s.2.2 == 0))
def draftB (d : Int × List T3) : Bool := inB d.1 0 3 && (inB (d.2.length : Int) 1 4 && d.2.all stepB)
theorem all_snocA {α : Type} {p : α → Bool} {xs : List α} {k : Nat} {x : α} (h : (xs.take k).all p = true) (hx : xs[k]? = some x) (hp : p x = true) : (xs.take (k + 1)).all p = true := by
  rw [List.take_add_one, hx, List.all_append, h]; simp [hp]
theorem any_snocA {α : Type} {p : α → Bool} {xs : List α} {k : Nat} {x : α} (h : (xs.take k).any p = false) (hx : xs[k]? = some x) (hp : p x = false) : (xs.take (k + 1)).any p = false := by
  rw [List.take_add_one, hx, List.any_append, h]; simp [hp]
theorem any_atA {α : Type} {p : α → Bool} {xs : List α} {k : Nat} {x : α} (hx : xs[k]? = some x) (hp : p x = true) : xs.any p = true :=
  List.any_eq_true.2 ⟨x, List.mem_of_getElem? hx, hp⟩
theorem all_badA {α : Type} {p : α → Bool} {xs : List α} {k : Nat} {x : α} (hx : xs[k]? = some x) (hp : p x = false) : xs.all p = false := by
  rw [← Bool.not_eq_true, List.all_eq_true]; intro h; have := h x (List.mem_of_getElem? hx); rw [hp] at this; cases this
theorem not_allA {α : Type} (p : α → Bool) (xs : List α) : xs.all p = !xs.any (fun e => !p e) := by
  rw [Bool.eq_iff_iff]; simp
end Go.Proofs.YtcfkemchekmjbaaGreatDoor
