/- Slices of drafts: copied, with all that is the copy's own; marked. -/
import Derived.Test.YtgjepagejongpaaDoorDrs2
import Derived.Test.YtgjepagejongpaaDoorDeep
namespace Go.Proofs.YtgjepagejongpaaDoor
open Go.RowKit

/-- The cells of n drafts; 'is': the steps of the first ones. -/
def csD (n : Nat) (cs : List Value) (is : List In) : Prop := cs.length = n * 2 ∧ ∀ (j : Nat) (q : In), is[j]? = some q → j < n ∧ cs[j * 2 + 1]? = some q.1 ∧ ∃ x, cs[j * 2]? = some (.int .i64 x)
theorem csD.push {n k : Nat} {cs : List Value} {is : List In} (h : csD n cs is) (hl : is.length = k) (hk : k < n) (f : Int) (q : In) : csD n ((cs.set (k * 2) (.int .i64 f)).set (k * 2 + 1) q.1) (is ++ [q]) := by
  obtain ⟨h1, h2⟩ := h
  refine ⟨by simp [h1], fun j p hj => ?_⟩
  by_cases e : j < is.length
  · rw [List.getElem?_append_left e] at hj
    obtain ⟨h3, h4, x, h5⟩ := h2 j p hj
    refine ⟨h3, ?_, x, ?_⟩
    · rw [List.getElem?_set_ne (by omega), List.getElem?_set_ne (by omega)]; exact h4
    · rw [List.getElem?_set_ne (by omega), List.getElem?_set_ne (by omega)]; exact h5
  · obtain rfl : j = is.length := by have := (List.getElem?_eq_some_iff.1 hj).1; simp at this; omega
    simp at hj
    subst hj; subst hl
    refine ⟨hk, ?_, f, ?_⟩
    · rw [List.getElem?_set_self (by simp; omega)]
    · rw [List.getElem?_set_ne (by omega), List.getElem?_set_self (by omega)]
theorem csD.int {n : Nat} {cs : List Value} {is : List In} (h : csD n cs is) (k : Nat) (f : Int) : csD n (cs.set (k * 2) (.int .i64 f)) is := by
  obtain ⟨h1, h2⟩ := h
  refine ⟨by simp [h1], fun j p hj => ?_⟩
  obtain ⟨h3, h4, x, h5⟩ := h2 j p hj
  refine ⟨h3, ?_, ?_⟩
  · rw [List.getElem?_set_ne (by omega)]; exact h4
  · by_cases e : k = j
    · subst e; exact ⟨f, List.getElem?_set_self (by omega)⟩
    · exact ⟨x, by rw [List.getElem?_set_ne (by omega)]; exact h5⟩
theorem csD.upd {n : Nat} {cs : List Value} {is : List In} (h : csD n cs is) {j : Nat} {q q' : In} (hj : is[j]? = some q) (he : q'.1 = q.1) : csD n cs (is.set j q') := by
  obtain ⟨h1, h2⟩ := h
  refine ⟨h1, fun i p hi => ?_⟩
  by_cases e : j = i
  · subst e
    rw [List.getElem?_set_self (List.getElem?_eq_some_iff.1 hj).1] at hi
    injection hi with hi; subst hi
    rw [he]; exact h2 j q hj
  · rw [List.getElem?_set_ne e] at hi; exact h2 i p hi
/-- The drafts 'ms', all the call's own, from block lo on. -/
def ODs (w : World) (lo g n : Nat) (ms : Ds) : Prop := ∃ cs is, Dp 37 46 3 w lo g cs is ∧ csD n cs is ∧ is.map (·.2.1) = ms.map (·.2.length)
theorem ODs.below {w w' : World} {lo g n : Nat} {ms : Ds} (h : ODs w lo g n ms) (hb : Below w.heap.size w w') : ODs w' lo g n ms := by
  obtain ⟨cs, is, h1, h2, h3⟩ := h; exact ⟨cs, is, h1.below hb, h2, h3⟩

set_option maxHeartbeats 8000000 in
theorem toDraftS_d {A : Option Addr} {n c : Nat} {ms : Ds} {w : World} (hr : RDs w A n ms) (hn : n ≤ 1048576) (hsm : SmallD ms) :
    Calls Tryd.prog 7 #[.slice A n c] w fun e w' => e = .returned (.slice (some ⟨w.heap.size, 0, none⟩) n n) ∧ RDs w' (some ⟨w.heap.size, 0, none⟩) n ms ∧ ODs w' w.heap.size w.heap.size n ms ∧ Below w.heap.size w w' := by
  have hl := hide hr.1
  have hmk := run_make_Ds n hn
  have K0 := Blk.new w 37 (madeCells #[.int .i64 0, .slice none 0 0] (n * 2))
  have M0 : MadeD (w.alloc (.cells (madeCells #[.int .i64 0, .slice none 0 0] (n * 2)) 37)) w.heap.size n 0 ms (madeCells #[.int .i64 0, .slice none 0 0] (n * 2)).toList :=
    ⟨by simp [madeCells], by simpa using K0, fun j m h => absurd h (by omega)⟩
  have D0 : Dp 37 46 3 (w.alloc (.cells (madeCells #[.int .i64 0, .slice none 0 0] (n * 2)) 37)) w.heap.size w.heap.size (madeCells #[.int .i64 0, .slice none 0 0] (n * 2)).toList [] := Dp.new (by simpa using K0) (Nat.le_refl _) (by decide)
  have C0 : csD n (madeCells #[.int .i64 0, .slice none 0 0] (n * 2)).toList [] := ⟨by simp [madeCells], fun j q h => by simp at h⟩
  have B0 := beD w (.cells (madeCells #[.int .i64 0, .slice none 0 0] (n * 2)) 37)
  go_enter Tryd.func7, Tryd.ntmps7
  go_wp2_with fail
  go_loopw [4] (fun i wr => ∃ (k : Nat) (cs : List Value) (is : List In), k ≤ n ∧ i = .int .i64 k ∧ MadeD wr w.heap.size n k ms cs ∧ Dp 37 46 3 wr w.heap.size w.heap.size cs is ∧ csD n cs is ∧ is.map (·.2.1) = (ms.take k).map (·.2.length) ∧ Below w.heap.size w wr) (fun i _ => n - (intOf i).toNat)
  case atStart => exact ⟨0, _, [], Nat.zero_le _, rfl, M0, D0, C0, rfl, B0⟩
  case round =>
    clear M0 B0 K0 D0 C0
    obtain ⟨k, cs, is, hk, rfl, M, D, C, hlen, bw⟩ := hrel
    have Hlen := hide hlen; clear hlen
    by_cases hkn : k < n
    · obtain ⟨b, off, f, ys, B, kk, d, rfl, hbb, hx, q0, q1, hkd, hdm, hri⟩ := hr.at_ hkn
      have e0 := (bw.cell (p := ⟨b, off + k * 2, none⟩) hbb).trans q0
      have e1 := (bw.cell (p := ⟨b, off + k * 2 + 1, none⟩) hbb).trans q1
      have hsz := hsm _ (List.mem_of_getElem? hx)
      have hyl := hri.len
      have hk1 : kk ≤ 1048576 := by dsimp only at hsz; omega
      have s1 : S3 w (.slice B kk d) kk ys := S3.of_args hkd hk1 hri
      have Hx := hide hx; have Hyl := hide hyl
      clear hx q0 q1 hsz hri hyl
      have k0 : (0 : Int) ≤ k := by omega
      have k2 : (k : Int) < n := by omega
      go_wp2_with fail
      refine (toDraft_c (s1.below bw)).mono ?_
      rintro e w2 ⟨A2, n2, c2, rfl, o2, b2⟩
      have B2 := below_step bw b2
      have K2 := M.2.1.belowAll b2
      have hlt := M.2.1.lt
      have hcl := M.1
      have f0 : ∃ u, w2.cell? ⟨w.heap.size, k * 2, none⟩ = some u := ⟨cs[k * 2]'(by omega), by rw [K2.cell]; simp [show k * 2 < cs.length by omega]⟩
      have f1 : ∃ u, w2.cell? ⟨w.heap.size, k * 2 + 1, none⟩ = some u := ⟨cs[k * 2 + 1]'(by omega), by rw [K2.cell]; simp [show k * 2 + 1 < cs.length by omega]⟩
      obtain ⟨u0, f0⟩ := f0
      obtain ⟨u1, f1⟩ := f1
      have g0 := K2.frozen (k * 2)
      have g1 := K2.frozen (k * 2 + 1)
      have hik : is.length = k := by
        have := congrArg List.length Hlen.out
        simp at this
        rw [this, hl.out]; omega
      have D2 := (((D.below b2).push (q := (.slice A2 n2 c2, n2, flat3 ys)) (OF.mono (B := wr.heap.size) o2.of bw.size) (D.fresh (q := (.slice A2 n2 c2, n2, flat3 ys)) o2.of)).set_ (k * 2) (.int .i64 f)).set_ (k * 2 + 1) (.slice A2 n2 c2)
      have C2 := C.push hik hkn f (.slice A2 n2 c2, n2, flat3 ys)
      have hn2 : (is ++ [((.slice A2 n2 c2, n2, flat3 ys) : In)]).map (·.2.1) = (ms.take (k + 1)).map (·.2.length) := by
        rw [List.map_append, Hlen.out, List.take_add_one, Hx.out, List.map_append]
        simp [o2.len]
      have Hn2 := hide hn2
      clear hn2 hik hcl
      go_wp2_with fail
      go_roundw
      case rel => exact ⟨k + 1, _, _, by omega, by go_num, M.step hkn Hx.out b2 o2 (by omega), D2, C2, Hn2.out, (B2.setCell (p := ⟨w.heap.size, k * 2, none⟩) (Nat.le_refl _) _).setCell (p := ⟨w.heap.size, k * 2 + 1, none⟩) (Nat.le_refl _) _⟩
      case measure => simp [intOf]; omega
    · obtain rfl : k = n := by omega
      go_wp2_with fail
      go_ret
      have h3 := Hlen.out
      rw [List.take_of_length_le (by rw [hl.out]; omega)] at h3
      exact ⟨rfl, M.rm hl.out, ⟨cs, is, D, C, h3⟩, bw⟩

def sumD (is : List In) : Nat := (is.map fun q => q.2.1 * 3 + 1).sum
theorem sumD_take {is : List In} {j : Nat} {q : In} (h : is[j]? = some q) : sumD (is.take (j + 1)) = sumD (is.take j) + q.2.1 * 3 + 1 := by
  unfold sumD; rw [List.take_add_one, h]; simp; omega
theorem sumD_take_le (is : List In) (j : Nat) : sumD (is.take j) ≤ sumD is := by
  have : is.take j ++ is.drop j = is := List.take_append_drop j is
  have h2 : sumD is = sumD (is.take j) + sumD (is.drop j) := by
    unfold sumD
    rw [← List.sum_append, ← List.map_append, this]
  omega


end Go.Proofs.YtgjepagejongpaaDoor
