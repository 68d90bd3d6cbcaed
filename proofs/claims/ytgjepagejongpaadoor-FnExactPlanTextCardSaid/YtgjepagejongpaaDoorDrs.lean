/- Slices of drafts: read; their size. -/
import Derived.Test.YtgjepagejongpaaDoorDrf
namespace Go.Proofs.YtgjepagejongpaaDoor
open Go.RowKit

abbrev Ds := List (Int × List T3)
/-- A draft at block b, offset off. -/
def ED (w : World) (b off : Nat) (m : Int × List T3) : Prop := ∃ (B : Option Addr) (k d : Nat), w.cell? ⟨b, off, none⟩ = some (.int .i64 m.1) ∧ w.cell? ⟨b, off + 1, none⟩ = some (.slice B k d) ∧ k ≤ d ∧ d ≤ maxLen ∧ R3 w B k m.2
theorem ED.below {w w' : World} {b off : Nat} {m : Int × List T3} (h : ED w b off m) (hb : Below w.heap.size w w') (hlt : b < w.heap.size) : ED w' b off m := by
  obtain ⟨B, k, d, h1, h2, h3, h4, h5⟩ := h
  exact ⟨B, k, d, (hb.cell (p := ⟨b, off, none⟩) hlt).trans h1, (hb.cell (p := ⟨b, off + 1, none⟩) hlt).trans h2, h3, h4, h5.below hb⟩
/-- n drafts at A. -/
def RDs (w : World) (A : Option Addr) (n : Nat) (ms : Ds) : Prop :=
  ms.length = n ∧ (0 < n → ∃ b off, A = some ⟨b, off, none⟩ ∧ b < w.heap.size ∧ ∀ (k : Nat) (m : Int × List T3), ms[k]? = some m → ED w b (off + k * 2) m)
theorem RDs.nil {w : World} {A : Option Addr} : RDs w A 0 [] := ⟨rfl, fun h => absurd h (by omega)⟩
theorem RDs.below {w w' : World} {A : Option Addr} {n : Nat} {ms : Ds} (h : RDs w A n ms) (hb : Below w.heap.size w w') : RDs w' A n ms :=
  ⟨h.1, fun hn => by
    obtain ⟨b, off, e, hlt, hc⟩ := h.2 hn
    exact ⟨b, off, e, Nat.lt_of_lt_of_le hlt hb.size, fun k m hm => (hc k m hm).below hb hlt⟩⟩
theorem RDs.at_ {w : World} {A : Option Addr} {n : Nat} {ms : Ds} (h : RDs w A n ms) {k : Nat} (hk : k < n) :
    ∃ b off f ys B kk d, A = some ⟨b, off, none⟩ ∧ b < w.heap.size ∧ ms[k]? = some (f, ys) ∧ w.cell? ⟨b, off + k * 2, none⟩ = some (.int .i64 f) ∧ w.cell? ⟨b, off + k * 2 + 1, none⟩ = some (.slice B kk d) ∧ kk ≤ d ∧ d ≤ maxLen ∧ R3 w B kk ys := by
  obtain ⟨b, off, e, hlt, hc⟩ := h.2 (by omega)
  have hl : k < ms.length := by have := h.1; omega
  obtain ⟨⟨f, ys⟩, hg⟩ : ∃ q, ms[k]? = some q := ⟨ms[k], List.getElem?_eq_getElem hl⟩
  obtain ⟨B, kk, d, h1, h2, h3, h4, h5⟩ := hc k _ hg
  exact ⟨b, off, f, ys, B, kk, d, e, hlt, hg, h1, h2, h3, h4, h5⟩

def szDL : Int → Ds → Int
  | l, [] => l
  | l, m :: ms => if szN l m.2.length < 0 then -1 else szDL (szN l m.2.length) ms
def szDS (left : Int) (ms : Ds) : Int := if left < ms.length then -1 else szDL (left - ms.length) ms
theorem szDL_cons (l : Int) (m : Int × List T3) (ms : Ds) : szDL l (m :: ms) = if szN l m.2.length < 0 then -1 else szDL (szN l m.2.length) ms := rfl
theorem szDL_ok : ∀ (ms : Ds) (l : Int), 0 ≤ l → 0 ≤ szDL l ms → (∀ m ∈ ms, (m.2.length : Int) ≤ l) ∧ szDL l ms ≤ l := by
  intro ms
  induction ms with
  | nil => intro l _ _; exact ⟨fun m h => absurd h (by simp), Int.le_refl _⟩
  | cons m ms ih =>
    intro l hl h
    rw [szDL_cons] at h ⊢
    by_cases hn : szN l m.2.length < 0
    · rw [if_pos hn] at h; omega
    · rw [if_neg hn] at h ⊢
      have e : szN l m.2.length = l - m.2.length ∧ (m.2.length : Int) ≤ l := by
        unfold szN at hn ⊢
        by_cases hh : (m.2.length : Int) ≤ l
        · rw [if_pos hh]; exact ⟨rfl, hh⟩
        · rw [if_neg hh] at hn; omega
      obtain ⟨h1, h2⟩ := ih _ (by omega) h
      refine ⟨fun x hx => ?_, by omega⟩
      rcases List.mem_cons.1 hx with rfl | hx
      · exact e.2
      · have := h1 x hx; omega

set_option maxHeartbeats 4000000 in
theorem szDraftS_c {A : Option Addr} {n c : Nat} {ms : Ds} {left : Int} {w : World} (hr : RDs w A n ms) (h0 : 0 ≤ left) (h1 : left ≤ 1048576) (hn : n ≤ maxLen) :
    Calls Tryd.prog 5 #[.slice A n c, .int .i64 left] w fun e w' => e = .returned (.int .i64 (szDS left ms)) ∧ Below w.heap.size w w' := by
  have hl := hide hr.1
  unfold maxLen at hn
  by_cases hlt : left < (n : Int)
  · have hf : szDS left ms = -1 := by unfold szDS; rw [hl.out, if_pos hlt]
    have F := hide hf; clear hf
    go_enter Tryd.func5, Tryd.ntmps5
    go_wp2_with fail
    go_ret
    exact ⟨by rw [F.out]; rfl, Below.refl _ _⟩
  · have hf : szDS left ms = szDL (left - n) ms := by unfold szDS; rw [hl.out, if_neg hlt]
    have F := hide hf; clear hf
    have hge : (n : Int) ≤ left := by omega
    go_enter Tryd.func5, Tryd.ntmps5
    go_wp2_with fail
    go_loopw [1, 5] (fun l i wr => ∃ (k : Nat) (lv : Int), k ≤ n ∧ i = .int .i64 k ∧ l = .int .i64 lv ∧ 0 ≤ lv ∧ lv ≤ 1048576 ∧ szDL lv (ms.drop k) = szDL (left - n) ms ∧ Below w.heap.size w wr) (fun _ i _ => n - (intOf i).toNat)
    case atStart => exact ⟨0, left - n, Nat.zero_le _, rfl, rfl, by omega, by omega, rfl, Below.refl _ _⟩
    case round =>
      obtain ⟨k, lv, hk, rfl, rfl, l0, l1, he, bw⟩ := hrel
      have HE := hide he; clear he
      by_cases hkn : k < n
      · obtain ⟨b, off, f, ys, B, kk, d, rfl, hbb, hx, q0, q1, hkd, hdm, hri⟩ := hr.at_ hkn
        have e0 := (bw.cell (p := ⟨b, off + k * 2, none⟩) hbb).trans q0
        have e1 := (bw.cell (p := ⟨b, off + k * 2 + 1, none⟩) hbb).trans q1
        have hyl := hri.len
        have hkl : k < ms.length := by have := hl.out; omega
        have hd : ms.drop k = (f, ys) :: ms.drop (k + 1) := by
          rw [List.drop_eq_getElem_cons hkl]
          rw [List.getElem?_eq_getElem hkl] at hx
          injection hx with hx
          rw [hx]
        have hst : szDL lv (ms.drop k) = if szN lv kk < 0 then -1 else szDL (szN lv kk) (ms.drop (k + 1)) := by rw [hd, szDL_cons, show (f, ys).2.length = kk from hyl]
        rw [HE.out] at hst
        have HS := hide hst
        clear q0 q1 hx hd hst hri hyl
        have k0 : (0 : Int) ≤ k := by omega
        have k2 : (k : Int) < n := by omega
        go_wp2_with fail
        refine (szDraft_c (by omega) l1 (by omega)).mono ?_
        rintro e w2 ⟨rfl, b2⟩
        have B2 := below_step bw b2
        have hb := show szN lv kk ≤ 1048576 by unfold szN; split <;> omega
        have hb2 := show -1 ≤ szN lv kk by unfold szN; split <;> omega
        obtain ⟨z, hz⟩ : ∃ z, szN lv kk = z := ⟨_, rfl⟩
        have hs2 := HS.out
        rw [hz] at hb hb2 hs2
        rw [hz]
        by_cases hz0 : z < 0
        · rw [if_pos hz0] at hs2
          have HH := hide hs2
          clear hs2
          go_wp2_with fail
          go_ret
          exact ⟨by rw [F.out, HH.out]; rfl, B2⟩
        · rw [if_neg hz0] at hs2
          have HH := hide hs2
          clear hs2
          go_wp2_with fail
          go_roundw
          case rel => exact ⟨k + 1, z, by omega, by go_num, rfl, by omega, hb, HH.out.symm, B2⟩
          case measure => simp [intOf]; omega
      · obtain rfl : k = n := by omega
        have hfin : szDL (left - k) ms = lv := by rw [← HE.out, List.drop_eq_nil_of_le (by have := hl.out; omega)]; rfl
        have HH := hide hfin
        clear hfin
        go_wp2_with fail
        go_ret
        exact ⟨by rw [F.out, HH.out]; rfl, bw⟩

end Go.Proofs.YtgjepagejongpaaDoor
