/- Slices of drafts: copied, with all that is the copy's own; marked. -/
import Derived.Test.YtfcfhgophpoibaaDrs2
import Derived.Test.YtfcfhgophpoibaaDeep
namespace Go.Proofs.Ytfcfhgophpoibaa
open Go.RowKit

/-- The cells of n drafts; 'is': the steps of the first ones. -/
def csD (n : Nat) (cs : List Value) (is : List In) : Prop := cs.length = n * 2 ∧ ∀ (j : Nat) (q : In), is[j]? = some q → j < n ∧ cs[j * 2 + 1]? = some q.1 ∧ ∃ x, cs[j * 2]? = some (.int .i64 x)
theorem csD.push {n k : Nat} {cs : List Value} {is : List In} (h : csD n cs is) (hl : is.length = k) (hk : k < n) (f : Int) (q : In) : csD n ((cs.set (k * 2) (.int .i64 f)).set (k * 2 + 1) q.1) (is ++ [q]) := by
  obtain ⟨h1, h2⟩ := h
  refine ⟨by simp [h1], fun j p hj => ?_⟩
  by_cases e : j < is.length
  · rw [List.getElem?_append_left e] at hj
    obtain ⟨h3, h4, x, h5⟩ := h2 j p hj
    refine ⟨h3, ?_, x, ?_⟩
    · rw [List.getElem?_set_ne (by omega), List.getElem?_set_ne (by omega)]; exact h4
    · rw [List.getElem?_set_ne (by omega), List.getElem?_set_ne (by omega)]; exact h5
  · obtain rfl : j = is.length := by have := (List.getElem?_eq_some_iff.1 hj).1; simp at this; omega
    simp at hj
    subst hj; subst hl
    refine ⟨hk, ?_, f, ?_⟩
    · rw [List.getElem?_set_self (by simp; omega)]
    · rw [List.getElem?_set_ne (by omega), List.getElem?_set_self (by omega)]
theorem csD.int {n : Nat} {cs : List Value} {is : List In} (h : csD n cs is) (k : Nat) (f : Int) : csD n (cs.set (k * 2) (.int .i64 f)) is := by
  obtain ⟨h1, h2⟩ := h
  refine ⟨by simp [h1], fun j p hj => ?_⟩
  obtain ⟨h3, h4, x, h5⟩ := h2 j p hj
  refine ⟨h3, ?_, ?_⟩
  · rw [List.getElem?_set_ne (by omega)]; exact h4
  · by_cases e : k = j
    · subst e; exact ⟨f, List.getElem?_set_self (by omega)⟩
    · exact ⟨x, by rw [List.getElem?_set_ne (by omega)]; exact h5⟩
theorem csD.upd {n : Nat} {cs : List Value} {is : List In} (h : csD n cs is) {j : Nat} {q q' : In} (hj : is[j]? = some q) (he : q'.1 = q.1) : csD n cs (is.set j q') := by
  obtain ⟨h1, h2⟩ := h
  refine ⟨h1, fun i p hi => ?_⟩
  by_cases e : j = i
  · subst e
    rw [List.getElem?_set_self (List.getElem?_eq_some_iff.1 hj).1] at hi
    injection hi with hi; subst hi
    rw [he]; exact h2 j q hj
  · rw [List.getElem?_set_ne e] at hi; exact h2 i p hi
/-- The drafts 'ms', all the call's own, from block lo on. -/
def ODs (w : World) (lo g n : Nat) (ms : Ds) : Prop := ∃ cs is, Dp 50 52 3 w lo g cs is ∧ csD n cs is ∧ is.map (·.2.1) = ms.map (·.2.length)
theorem ODs.below {w w' : World} {lo g n : Nat} {ms : Ds} (h : ODs w lo g n ms) (hb : Below w.heap.size w w') : ODs w' lo g n ms := by
  obtain ⟨cs, is, h1, h2, h3⟩ := h; exact ⟨cs, is, h1.below hb, h2, h3⟩

set_option maxHeartbeats 8000000 in
theorem toDraftS_d {A : Option Addr} {n c : Nat} {ms : Ds} {w : World} (hr : RDs w A n ms) (hn : n ≤ 1048576) (hsm : SmallD ms) :
    Calls Try.prog 9 #[.slice A n c] w fun e w' => e = .returned (.slice (some ⟨w.heap.size, 0, none⟩) n n) ∧ RDs w' (some ⟨w.heap.size, 0, none⟩) n ms ∧ ODs w' w.heap.size w.heap.size n ms ∧ Below w.heap.size w w' := by
  have hl := hide hr.1
  have hmk := run_make_Ds n hn
  have K0 := Blk.new w 50 (madeCells #[.int .i64 0, .slice none 0 0] (n * 2))
  have M0 : MadeD (w.alloc (.cells (madeCells #[.int .i64 0, .slice none 0 0] (n * 2)) 50)) w.heap.size n 0 ms (madeCells #[.int .i64 0, .slice none 0 0] (n * 2)).toList :=
    ⟨by simp [madeCells], by simpa using K0, fun j m h => absurd h (by omega)⟩
  have D0 : Dp 50 52 3 (w.alloc (.cells (madeCells #[.int .i64 0, .slice none 0 0] (n * 2)) 50)) w.heap.size w.heap.size (madeCells #[.int .i64 0, .slice none 0 0] (n * 2)).toList [] := Dp.new (by simpa using K0) (Nat.le_refl _) (by decide)
  have C0 : csD n (madeCells #[.int .i64 0, .slice none 0 0] (n * 2)).toList [] := ⟨by simp [madeCells], fun j q h => by simp at h⟩
  have B0 := beD w (.cells (madeCells #[.int .i64 0, .slice none 0 0] (n * 2)) 50)
  go_enter Try.func9, Try.ntmps9
  go_wp2_with fail
  go_loopw [4] (fun i wr => ∃ (k : Nat) (cs : List Value) (is : List In), k ≤ n ∧ i = .int .i64 k ∧ MadeD wr w.heap.size n k ms cs ∧ Dp 50 52 3 wr w.heap.size w.heap.size cs is ∧ csD n cs is ∧ is.map (·.2.1) = (ms.take k).map (·.2.length) ∧ Below w.heap.size w wr) (fun i _ => n - (intOf i).toNat)
  case atStart => exact ⟨0, _, [], Nat.zero_le _, rfl, M0, D0, C0, rfl, B0⟩
  case round =>
    clear M0 B0 K0 D0 C0
    obtain ⟨k, cs, is, hk, rfl, M, D, C, hlen, bw⟩ := hrel
    have Hlen := hide hlen; clear hlen
    by_cases hkn : k < n
    · obtain ⟨b, off, f, ys, B, kk, d, rfl, hbb, hx, q0, q1, hkd, hdm, hri⟩ := hr.at_ hkn
      have e0 := (bw.cell (p := ⟨b, off + k * 2, none⟩) hbb).trans q0
      have e1 := (bw.cell (p := ⟨b, off + k * 2 + 1, none⟩) hbb).trans q1
      have hsz := hsm _ (List.mem_of_getElem? hx)
      have hyl := hri.len
      have hk1 : kk ≤ 1048576 := by dsimp only at hsz; omega
      have s1 : S3 w (.slice B kk d) kk ys := S3.of_args hkd hk1 hri
      have Hx := hide hx; have Hyl := hide hyl
      clear hx q0 q1 hsz hri hyl
      have k0 : (0 : Int) ≤ k := by omega
      have k2 : (k : Int) < n := by omega
      go_wp2_with fail
      refine (toDraft_c (s1.below bw)).mono ?_
      rintro e w2 ⟨A2, n2, c2, rfl, o2, b2⟩
      have B2 := below_step bw b2
      have K2 := M.2.1.belowAll b2
      have hlt := M.2.1.lt
      have hcl := M.1
      have f0 : ∃ u, w2.cell? ⟨w.heap.size, k * 2, none⟩ = some u := ⟨cs[k * 2]'(by omega), by rw [K2.cell]; simp [show k * 2 < cs.length by omega]⟩
      have f1 : ∃ u, w2.cell? ⟨w.heap.size, k * 2 + 1, none⟩ = some u := ⟨cs[k * 2 + 1]'(by omega), by rw [K2.cell]; simp [show k * 2 + 1 < cs.length by omega]⟩
      obtain ⟨u0, f0⟩ := f0
      obtain ⟨u1, f1⟩ := f1
      have g0 := K2.frozen (k * 2)
      have g1 := K2.frozen (k * 2 + 1)
      have hik : is.length = k := by
        have := congrArg List.length Hlen.out
        simp at this
        rw [this, hl.out]; omega
      have D2 := (((D.below b2).push (q := (.slice A2 n2 c2, n2, flat3 ys)) (OF.mono (B := wr.heap.size) o2.of bw.size) (D.fresh (q := (.slice A2 n2 c2, n2, flat3 ys)) o2.of)).set_ (k * 2) (.int .i64 f)).set_ (k * 2 + 1) (.slice A2 n2 c2)
      have C2 := C.push hik hkn f (.slice A2 n2 c2, n2, flat3 ys)
      have hn2 : (is ++ [((.slice A2 n2 c2, n2, flat3 ys) : In)]).map (·.2.1) = (ms.take (k + 1)).map (·.2.length) := by
        rw [List.map_append, Hlen.out, List.take_add_one, Hx.out, List.map_append]
        simp [o2.len]
      have Hn2 := hide hn2
      clear hn2 hik hcl
      go_wp2_with fail
      go_roundw
      case rel => exact ⟨k + 1, _, _, by omega, by go_num, M.step hkn Hx.out b2 o2 (by omega), D2, C2, Hn2.out, (B2.setCell (p := ⟨w.heap.size, k * 2, none⟩) (Nat.le_refl _) _).setCell (p := ⟨w.heap.size, k * 2 + 1, none⟩) (Nat.le_refl _) _⟩
      case measure => simp [intOf]; omega
    · obtain rfl : k = n := by omega
      go_wp2_with fail
      go_ret
      have h3 := Hlen.out
      rw [List.take_of_length_le (by rw [hl.out]; omega)] at h3
      exact ⟨rfl, M.rm hl.out, ⟨cs, is, D, C, h3⟩, bw⟩

def sumD (is : List In) : Nat := (is.map fun q => q.2.1 * 3 + 1).sum
theorem sumD_take {is : List In} {j : Nat} {q : In} (h : is[j]? = some q) : sumD (is.take (j + 1)) = sumD (is.take j) + q.2.1 * 3 + 1 := by
  unfold sumD; rw [List.take_add_one, h]; simp; omega
theorem sumD_take_le (is : List In) (j : Nat) : sumD (is.take j) ≤ sumD is := by
  have : is.take j ++ is.drop j = is := List.take_append_drop j is
  have h2 : sumD is = sumD (is.take j) + sumD (is.drop j) := by
    unfold sumD
    rw [← List.sum_append, ← List.map_append, this]
  omega

set_option maxHeartbeats 8000000 in
theorem markDraftS_c {lo hi g n : Nat} {cs : List Value} {is : List In} {k : Int} {w : World} (D : Dp 50 52 3 w lo g cs is) (C : csD n cs is) (hl : is.length = n) (hn : n ≤ 1048576)
    (hg : g < hi) (hr : ∀ (j : Nat) (q : In) b, is[j]? = some q → q.1.ownBlock = some b → b < hi) (hk0 : 0 ≤ k) (hk1 : k + sumD is ≤ 4194304) :
    Calls Try.prog 15 #[.slice (some ⟨g, 0, none⟩) n n, .int .i64 k] w fun e w' => e = .returned (.int .i64 (k + sumD is)) ∧ Chg (fun b => lo ≤ b ∧ b < hi) w w' := by
  have Hl := hide hl; clear hl
  have Hr := hide hr; clear hr
  have hlo := D.le
  go_enter Try.func15, Try.ntmps15
  go_wp2_with fail
  go_loopw [1, 5] (fun kk i wr => ∃ (j : Nat) (cs' : List Value) (is' : List In), i = .int .i64 j ∧ j ≤ n ∧ kk = .int .i64 (k + sumD (is.take j)) ∧ Dp 50 52 3 wr lo g cs' is' ∧ csD n cs' is' ∧ (∀ (i : Nat) (q : In), is[i]? = some q → ∃ q', is'[i]? = some q' ∧ q'.1 = q.1 ∧ q'.2.1 = q.2.1) ∧ Chg (fun b => lo ≤ b ∧ b < hi) w wr) (fun _ i _ => n - (intOf i).toNat)
  case atStart => exact ⟨0, cs, is, rfl, Nat.zero_le _, by simp [sumD], D, C, fun i q h => ⟨q, h, rfl, rfl⟩, Chg.refl _⟩
  case round =>
    obtain ⟨j, cs', is', rfl, hj, rfl, D', C', hsame, hchg⟩ := hrel
    clear D C
    have Hs := hide hsame; have Hc := hide hchg; clear hsame hchg
    have hsl := sumD_take_le is j
    by_cases hjn : j < n
    · obtain ⟨q, hq⟩ : ∃ q, is[j]? = some q := ⟨is[j]'(by rw [Hl.out]; exact hjn), List.getElem?_eq_getElem _⟩
      obtain ⟨q', hq', e1, e2⟩ := Hs.out j q hq
      have hsj := sumD_take hq
      have hs2 := sumD_take_le is (j + 1)
      have hqb := Hr.out j q
      obtain ⟨_, hc1, x, hc0⟩ := C'.2 j q' hq'
      obtain ⟨v, m, ys⟩ := q
      obtain ⟨v', m', ys'⟩ := q'
      dsimp only at e1 e2
      subst e1; subst e2
      have c0 := (D'.cell (j * 2)).trans hc0
      have D2 := D'.set_ (j * 2) (.int .i64 (k + sumD (is.take j)))
      have c1 : (wr.setCell ⟨g, j * 2, none⟩ (.int .i64 (k + sumD (is.take j)))).cell? ⟨g, j * 2 + 1, none⟩ = some v' := (D2.cell (j * 2 + 1)).trans (by rw [List.getElem?_set_ne (by omega)]; exact hc1)
      have fz := D'.free (j * 2)
      have ho := D2.own j _ hq'
      dsimp only at ho
      have hm := ho.2
      obtain ⟨A, c, rfl, _⟩ := ho.form
      have Hq := hide hq; have Hq' := hide hq'; have Hc1 := hide hc1; have Hsj := hide hsj
      have hb1 : sumD (is.take j) + m' * 3 + 1 ≤ sumD is := by rw [← hsj]; exact hs2
      clear hq hq' hc1 hc0 hsj hs2
      obtain ⟨S, hS⟩ : ∃ S, sumD (is.take j) = S := ⟨_, rfl⟩
      obtain ⟨Z, hZ⟩ : ∃ Z, sumD is = Z := ⟨_, rfl⟩
      rw [hS] at c1 ho D2 hb1 hsl ⊢
      rw [hZ] at hb1 hk1 hsl
      have HS := hide hS; have HZ := hide hZ
      clear hS hZ
      have j0 : (0 : Int) ≤ j := by omega
      have j2 : (j : Int) < n := by omega
      have kS : k + (S : Int) + 1 ≤ 4194304 := by omega
      go_wp2_with fail
      refine (markOpS_c (xs := ys') ho (by omega) (by omega)).mono ?_
      rintro e w2 ⟨rfl, o2, g2⟩
      have D3 := D2.upd Hq'.out g2 (q' := (.slice A m' c, m', upFrom (k + S + 1) (m' * 3))) o2 (.inl rfl)
      have C3 := (C'.int j (k + S)).upd (q' := (.slice A m' c, m', upFrom (k + S + 1) (m' * 3))) Hq'.out rfl
      have Hch := hide (((Hc.out.trans (Chg.setCell (p := ⟨g, j * 2, none⟩) ⟨hlo, hg⟩ (.int .i64 (k + S))))).trans (Chg.of_grown g2 (fun b hb => ⟨((D2.own j _ Hq'.out).lt b hb).1, hqb b Hq.out hb⟩)))
      have Hss : Hid (∀ (i : Nat) (q : In), is[i]? = some q → ∃ q', (is'.set j ((.slice A m' c, m', upFrom (k + S + 1) (m' * 3)) : In))[i]? = some q' ∧ q'.1 = q.1 ∧ q'.2.1 = q.2.1) := hide (fun i p hp => by
        by_cases e : j = i
        · subst e
          have := Hq.out.symm.trans hp
          injection this with this; subst this
          exact ⟨_, List.getElem?_set_self (List.getElem?_eq_some_iff.1 Hq'.out).1, rfl, rfl⟩
        · obtain ⟨p', h1, h2⟩ := Hs.out i p hp
          exact ⟨p', by rw [List.getElem?_set_ne e]; exact h1, h2⟩)
      clear hqb
      go_wp2_with fail
      go_roundw
      case rel =>
        refine ⟨j + 1, _, _, by go_num, by omega, ?_, D3, C3, Hss.out, Hch.out⟩
        rw [Hsj.out, HS.out]
        go_num
      case measure => simp [intOf]; omega
    · obtain rfl : j = n := by omega
      have hfin : is.take j = is := List.take_of_length_le (by rw [Hl.out]; omega)
      rw [hfin]
      go_wp2_with fail
      go_ret
      exact ⟨rfl, Hc.out⟩

end Go.Proofs.Ytfcfhgophpoibaa
