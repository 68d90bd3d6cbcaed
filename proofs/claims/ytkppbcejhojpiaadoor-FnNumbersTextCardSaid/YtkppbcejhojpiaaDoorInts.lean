/- Contracts of the laws' own helpers on []int. -/
import Derived.Test.YtkppbcejhojpiaaDoorLib
import Derived.Laws.MakeOwn
import Derived.Laws.Entries
import Derived.Deep.QuietTactic
import Derived.BigQuiet
namespace Go.Proofs.YtkppbcejhojpiaaDoor
open Go.RowKit

theorem run_make_rowN {P : Program} (t e : TypeId) (i : TypeInfo) (z : Value) (ht : P.underlying t = some (.slice e)) (hi : P.info? e = some i) (hz : i.zero = some z)
    (kl kc : IntKind) (n c : Nat) (hnc : n ≤ c) (hbytes : i.bytes * c ≤ 281474976710656) (h63 : c ≤ 9223372036854775807) (w : World) :
    (Instr.makeSlice t (.int kl (n : Int)) (.int kc (c : Int))).run P w = .ok (.slice (some ⟨w.heap.size, 0, none⟩) n c) (w.alloc (.cells (madeCells z.cells (c * i.size)) e)) := by
  have hb : (i.bytes : Int) * (c : Int) ≤ 281474976710656 := by
    have h : ((i.bytes * c : Nat) : Int) ≤ 281474976710656 := by omega
    rwa [Int.natCast_mul] at h
  have hr := run_make (P := P) w t e i z ht hi hz kl kc n c (by omega) (by omega) hb (by omega)
  simp only [Int.toNat_natCast] at hr
  exact hr
theorem run_make_ints (n : Nat) (hn : n ≤ 1048576) (w : World) :
    (Instr.makeSlice 22 (.int .i64 (n : Int)) (.int .i64 (n : Int))).run Tryd.prog w = .ok (.slice (some ⟨w.heap.size, 0, none⟩) n n) (w.alloc (.cells ((List.replicate n (Value.int .i64 0)).toArray) 3)) := by
  obtain ⟨i, hi, hz, hs, hb⟩ := info_parts intInfo
  rw [run_make_rowN 22 3 i (.int .i64 0) Tryd.underlying22 hi hz .i64 .i64 n n (Nat.le_refl _) (by rw [hb]; omega) (by omega) w]
  have e1 : madeCells (Value.int .i64 0).cells (n * i.size) = (List.replicate n (Value.int .i64 0)).toArray := by
    rw [hs, Nat.mul_one, ← Array.toArray_toList (xs := madeCells _ _)]
    rw [show (Value.int .i64 0).cells = #[Value.int .i64 0] from rfl, toList_madeCells_one]
  rw [e1]

/-- What a copy of xs looks like behind k rounds. -/
def cpy (xs : List Int) (k : Nat) : List Value := (xs.take k).map (Value.int .i64) ++ List.replicate (xs.length - k) (Value.int .i64 0)
theorem cpy_zero (xs : List Int) : cpy xs 0 = List.replicate xs.length (Value.int .i64 0) := by simp [cpy]
theorem cpy_full (xs : List Int) : cpy xs xs.length = xs.map (Value.int .i64) := by simp [cpy]
theorem cpy_step (xs : List Int) (k : Nat) (x : Int) (h : xs[k]? = some x) : (cpy xs k).set k (.int .i64 x) = cpy xs (k + 1) := by
  obtain ⟨hk, hx⟩ := List.getElem?_eq_some_iff.1 h
  unfold cpy
  rw [List.take_succ_eq_append_getElem hk, hx, show xs.length - k = (xs.length - (k + 1)) + 1 from by omega, List.replicate_succ]
  rw [List.set_append_right _ _ (by simp; omega)]
  simp [List.length_take, Nat.min_eq_left (Nat.le_of_lt hk)]
theorem cpy_len (xs : List Int) (k : Nat) (h : k ≤ xs.length) : (cpy xs k).length = xs.length := by simp [cpy]; omega

set_option maxHeartbeats 400000 in
theorem toIntS_c {v : Value} {n : Nat} {xs : List Int} {w : World} (hs : SI w v n xs) :
    Calls Tryd.prog 6 #[v] w fun e w' => ∃ v, e = .returned v ∧ OI w' w.heap.size v n xs ∧ Below w.heap.size w w' := by
  obtain ⟨A, c, rfl, hnc, hn, hr⟩ := hs
  have hmk := run_make_ints n hn
  have hlen := hide hr.len
  go_enter Tryd.func6, Tryd.ntmps6
  go_wp2
  go_loopw [4] (fun i wr => ∃ k : Nat, k ≤ n ∧ i = .int .i64 k ∧ Blk wr w.heap.size 3 (cpy xs k).toArray ∧ Below w.heap.size w wr) (fun i _ => n - (intOf i).toNat)
  case atStart => exact ⟨0, Nat.zero_le _, rfl, by rw [cpy_zero, hlen.out]; exact Blk.new _ _ _, (Below.refl _ _).alloc (Nat.le_refl _) _⟩
  case round =>
    obtain ⟨k, hk, rfl, hblk, hbel⟩ := hrel
    by_cases hlt : k < n
    · obtain ⟨b, off, x, rfl, hb, hx, hc⟩ := hr.at_ hlt
      have Hx := hide hx; clear hx
      have hc1 : wr.cell? ⟨b, off + k, none⟩ = some (.int .i64 x) := (hbel.cell hb).trans hc
      have hf1 : wr.frozen? ⟨w.heap.size, k, none⟩ = false := hblk.frozen k
      have hs1 : ∃ u, wr.cell? ⟨w.heap.size, k, none⟩ = some u := by
        rw [hblk.cell]
        have : k < (cpy xs k).length := by rw [cpy_len _ _ (by rw [hlen.out]; omega), hlen.out]; omega
        exact ⟨(cpy xs k)[k], by simp [this]⟩
      obtain ⟨u, hs1⟩ := hs1
      clear hc
      go_wp2
      go_roundw
      case rel =>
        refine ⟨k + 1, by omega, by go_num, ?_, hbel.setCell (Nat.le_refl _) _⟩
        have := hblk.set_ k (.int .i64 x)
        rw [← cpy_step xs k x Hx.out]
        simpa using this
      case measure => simp [intOf]; omega
    · go_wp2
      go_ret
      obtain rfl : k = n := by omega
      refine ⟨_, rfl, OI.of_blk hblk (Nat.le_refl _) ?_ hlen.out hn, hbel⟩
      rw [← hlen.out, cpy_full]

theorem take_snoc_eq (xs ys : List Int) (k : Nat) (x : Int) (h : xs.take k = ys.take k) (hx : xs[k]? = some x) (hy : ys[k]? = some x) : xs.take (k + 1) = ys.take (k + 1) := by
  rw [List.take_add_one, List.take_add_one, h, hx, hy]

set_option maxHeartbeats 400000 in
theorem eqIntS_c {u v : Value} {n m : Nat} {xs ys : List Int} {w : World} (hu : SI w u n xs) (hv : SI w v m ys) :
    Calls Tryd.prog 8 #[u, v] w fun e w' => e = .returned (.bool (decide (xs = ys))) ∧ Below w.heap.size w w' := by
  obtain ⟨A, c, rfl, _, hn, ha⟩ := hu
  obtain ⟨B, d, rfl, _, hm, hb⟩ := hv
  have hla := hide ha.len
  have hlb := hide hb.len
  by_cases hnm : n = m
  · subst hnm
    go_enter Tryd.func8, Tryd.ntmps8
    go_wp2
    go_loopw [5] (fun i wr => ∃ k : Nat, k ≤ n ∧ i = .int .i64 k ∧ xs.take k = ys.take k ∧ Below w.heap.size w wr) (fun i _ => n - (intOf i).toNat)
    case atStart => exact ⟨0, Nat.zero_le _, rfl, rfl, Below.refl _ _⟩
    case round =>
      obtain ⟨k, hk, rfl, heq, hbel⟩ := hrel
      have Heq := hide heq; clear heq
      by_cases hlt : k < n
      · obtain ⟨b1, o1, x, rfl, hb1, hx, hc1⟩ := ha.at_ hlt
        obtain ⟨b2, o2, y, rfl, hb2, hy, hc2⟩ := hb.at_ hlt
        have Hx := hide hx; clear hx
        have Hy := hide hy; clear hy
        have hd1 : wr.cell? ⟨b1, o1 + k, none⟩ = some (.int .i64 x) := (hbel.cell hb1).trans hc1
        have hd2 : wr.cell? ⟨b2, o2 + k, none⟩ = some (.int .i64 y) := (hbel.cell hb2).trans hc2
        clear hc1 hc2
        by_cases hxy : x = y
        · subst hxy
          go_wp2
          go_quiet (fail)
          go_wp2
          go_roundw
          case rel => exact ⟨k + 1, by omega, by go_num, take_snoc_eq _ _ _ _ Heq.out Hx.out Hy.out, below_drewN hbel _⟩
          case measure => simp [intOf]; omega
        · go_wp2
          go_quiet (fail)
          go_wp2
          go_ret
          have hne : ¬ xs = ys := by
            intro h; apply hxy; have e := Hx.out; rw [h, Hy.out] at e; injection e with e; exact e.symm
          exact ⟨by simp [hne], below_drewN hbel _⟩
      · go_wp2
        go_ret
        obtain rfl : k = n := by omega
        have h1 := Heq.out
        rw [List.take_of_length_le (by rw [hla.out]; omega), List.take_of_length_le (by rw [hlb.out]; omega)] at h1
        exact ⟨by simp [h1], hbel⟩
  · have hne : ¬ xs = ys := by
      intro h; apply hnm; rw [← hla.out, ← hlb.out, h]
    have Hne := hide hne; clear hne
    go_enter Tryd.func8, Tryd.ntmps8
    go_wp2
    go_ret
    exact ⟨by simp [Hne.out], Below.refl _ _⟩

/-- markIntS writes k, k + 1, .. into a slice of the call's own. -/
def mrk (xs : List Int) (k : Int) (j : Nat) : List Int := upFrom k j ++ xs.drop j
theorem mrk_zero (xs : List Int) (k : Int) : mrk xs k 0 = xs := by simp [mrk, upFrom]
theorem upFrom_snoc (n : Nat) : ∀ k : Int, upFrom k (n + 1) = upFrom k n ++ [k + n] := by
  induction n with
  | zero => intro k; simp [upFrom]
  | succ n ih =>
    intro k
    rw [upFrom, ih (k + 1), upFrom, List.cons_append]
    congr 3
    omega
theorem mrk_step (xs : List Int) (k : Int) (j : Nat) (h : j < xs.length) : (mrk xs k j).set j (k + j) = mrk xs k (j + 1) := by
  unfold mrk
  rw [upFrom_snoc, List.set_append_right _ _ (by rw [upFrom_length]; omega), upFrom_length, Nat.sub_self, List.drop_eq_getElem_cons h, List.set_cons_zero, List.append_assoc]
  rfl
theorem mrk_full (xs : List Int) (k : Int) : mrk xs k xs.length = upFrom k xs.length := by simp [mrk]
theorem mrk_len (xs : List Int) (k : Int) (j : Nat) (h : j ≤ xs.length) : (mrk xs k j).length = xs.length := by simp [mrk, upFrom_length]; omega



end Go.Proofs.YtkppbcejhojpiaaDoor
