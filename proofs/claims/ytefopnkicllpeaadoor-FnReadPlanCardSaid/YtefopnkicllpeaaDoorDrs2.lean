/- Slices of drafts: compared with their like; copied. -/
import Derived.Test.YtefopnkicllpeaaDoorDrs
import Derived.Deep.RegionHeld3
namespace Go.Proofs.YtefopnkicllpeaaDoor
open Go.RowKit

theorem beD (w : World) (o : Obj) : Below w.heap.size w (w.alloc o) := (Below.refl _ _).alloc (Nat.le_refl _) o
def SmallD (ms : Ds) : Prop := ∀ m ∈ ms, m.2.length ≤ 1048576
set_option maxHeartbeats 8000000 in
theorem eqDraftS_c {A A' : Option Addr} {n c n' c' : Nat} {ms : Ds} {w : World} (hr : RDs w A n ms) (hr' : RDs w A' n' ms) (hn : n ≤ 1048576) (hsm : SmallD ms) :
    Calls Tryd.prog 8 #[.slice A n c, .slice A' n' c'] w fun e w' => e = .returned (.bool true) ∧ Below w.heap.size w w' := by
  have hl := hide hr.1
  obtain rfl : n = n' := hr.1.symm.trans hr'.1
  go_enter Tryd.func8, Tryd.ntmps8
  go_wp2_with fail
  go_loopw [5] (fun i wr => ∃ k : Nat, k ≤ n ∧ i = .int .i64 k ∧ Below w.heap.size w wr) (fun i _ => n - (intOf i).toNat)
  case atStart => exact ⟨0, Nat.zero_le _, rfl, Below.refl _ _⟩
  case round =>
    obtain ⟨k, hk, rfl, bw⟩ := hrel
    by_cases hkn : k < n
    · obtain ⟨b, off, f, ys, B, kk, d, rfl, hbb, hx, q0, q1, hkd, hdm, hri⟩ := hr.at_ hkn
      obtain ⟨b', off', f', ys', B', kk', d', rfl, hbb', hx', q0', q1', hkd', hdm', hri'⟩ := hr'.at_ hkn
      obtain ⟨rfl, rfl⟩ : f = f' ∧ ys = ys' := by
        have := hx.symm.trans hx'
        simpa using this
      have hsz := hsm _ (List.mem_of_getElem? hx)
      have hk1 : kk ≤ 1048576 := by have := hri.len; dsimp only at hsz; omega
      have hk2 : kk' ≤ 1048576 := by have := hri'.len; dsimp only at hsz; omega
      have s1 : S3 w (.slice B kk d) kk ys := S3.of_args hkd hk1 hri
      have s2 : S3 w (.slice B' kk' d') kk' ys := S3.of_args hkd' hk2 hri'
      have BZ := bw.drew
      have hc : ∀ W, Below w.heap.size w W → W.cell? ⟨b, off + k * 2, none⟩ = some (.int .i64 f) ∧ W.cell? ⟨b, off + k * 2 + 1, none⟩ = some (.slice B kk d) ∧ W.cell? ⟨b', off' + k * 2, none⟩ = some (.int .i64 f) ∧ W.cell? ⟨b', off' + k * 2 + 1, none⟩ = some (.slice B' kk' d') := fun W h =>
        ⟨(h.cell (p := ⟨b, off + k * 2, none⟩) hbb).trans q0, (h.cell (p := ⟨b, off + k * 2 + 1, none⟩) hbb).trans q1, (h.cell (p := ⟨b', off' + k * 2, none⟩) hbb').trans q0', (h.cell (p := ⟨b', off' + k * 2 + 1, none⟩) hbb').trans q1'⟩
      obtain ⟨e0, e1, e2, e3⟩ := hc _ bw
      have k0 : (0 : Int) ≤ k := by omega
      have k2 : (k : Int) < n := by omega
      clear hx hx' hsz hri hri'
      go_wp2_with fail
      go_region_held3 (fun W => W.cell? ⟨b, off + k * 2, none⟩ = some (.int .i64 f) ∧ W.cell? ⟨b, off + k * 2 + 1, none⟩ = some (.slice B kk d) ∧ W.cell? ⟨b', off' + k * 2, none⟩ = some (.int .i64 f) ∧ W.cell? ⟨b', off' + k * 2 + 1, none⟩ = some (.slice B' kk' d'))
        (first | exact hc _ BZ)
        (first | (go_at_call 26; refine (eqDraft_c (s1.below BZ) (s2.below BZ)).mono ?_; rintro e w2 ⟨rfl, b2⟩; replace BZ := below_step BZ b2; rw [show ((f == f) && decide (ys = ys)) = true by simp]))
      go_wp2_with fail
      go_roundw
      case rel => exact ⟨k + 1, by omega, by go_num, BZ⟩
      case measure => simp [intOf]; omega
    · obtain rfl : k = n := by omega
      go_wp2_with fail
      go_ret
      exact ⟨rfl, bw⟩

theorem infoDs : (Tryd.prog.info? 37).map (fun i => (i.zero, i.size, i.bytes)) = some (some (.agg #[.int .i64 0, .slice none 0 0]), 2, 32) := by kernel_rfl
theorem run_make_Ds (n : Nat) (hn : n ≤ 1048576) (w : World) :
    (Instr.makeSlice 22 (.int .i64 (n : Int)) (.int .i64 (n : Int))).run Tryd.prog w = .ok (.slice (some ⟨w.heap.size, 0, none⟩) n n) (w.alloc (.cells (madeCells #[.int .i64 0, .slice none 0 0] (n * 2)) 37)) := by
  obtain ⟨i, hi, hz, hs, hb⟩ := info_parts infoDs
  rw [run_make_rowN 22 37 i (.agg #[.int .i64 0, .slice none 0 0]) Tryd.underlying22 hi hz .i64 .i64 n n (Nat.le_refl _) (by rw [hb]; omega) (by omega) w, hs]
  rfl
def MadeD (w : World) (g n k : Nat) (ms : Ds) (cs : List Value) : Prop := cs.length = n * 2 ∧ Blk w g 37 cs.toArray ∧
  ∀ (j : Nat) (m : Int × List T3), j < k → ms[j]? = some m → ∃ (B : Option Addr) (kk d : Nat), cs[j * 2]? = some (.int .i64 m.1) ∧ cs[j * 2 + 1]? = some (.slice B kk d) ∧ O3 42 w (g + 1) (.slice B kk d) kk m.2
theorem MadeD.step {w w2 : World} {g n k : Nat} {ms : Ds} {cs : List Value} {f : Int} {ys : List T3} {B : Option Addr} {kk d B0 : Nat} (h : MadeD w g n k ms cs) (hk : k < n) (hx : ms[k]? = some (f, ys)) (b : Below w.heap.size w w2) (o : O3 42 w2 B0 (.slice B kk d) kk ys) (hB : g + 1 ≤ B0) :
    MadeD ((w2.setCell ⟨g, k * 2, none⟩ (.int .i64 f)).setCell ⟨g, k * 2 + 1, none⟩ (.slice B kk d)) g n (k + 1) ms ((cs.set (k * 2) (.int .i64 f)).set (k * 2 + 1) (.slice B kk d)) := by
  obtain ⟨h1, h2, h3⟩ := h
  refine ⟨by simp [h1], ?_, fun j m hj hm => ?_⟩
  · have := ((h2.belowAll b).set_ (k * 2) (.int .i64 f)).set_ (k * 2 + 1) (.slice B kk d)
    simpa using this
  · by_cases hjk : j = k
    · subst hjk
      rw [hx] at hm
      injection hm with hm
      subst hm
      refine ⟨B, kk, d, ?_, ?_, ((o.mono hB).set_low (p := ⟨g, j * 2, none⟩) (by show g < g + 1; omega) _).set_low (p := ⟨g, j * 2 + 1, none⟩) (by show g < g + 1; omega) _⟩
      · rw [List.getElem?_set_ne (by omega), List.getElem?_set_self (by omega)]
      · rw [List.getElem?_set_self (by simp; omega)]
    · obtain ⟨B', kk', d', e1, e2, o'⟩ := h3 j m (by omega) hm
      refine ⟨B', kk', d', ?_, ?_, ((o'.below b).set_low (p := ⟨g, k * 2, none⟩) (by show g < g + 1; omega) _).set_low (p := ⟨g, k * 2 + 1, none⟩) (by show g < g + 1; omega) _⟩
      · rw [List.getElem?_set_ne (by omega), List.getElem?_set_ne (by omega)]; exact e1
      · rw [List.getElem?_set_ne (by omega), List.getElem?_set_ne (by omega)]; exact e2
theorem MadeD.rm {w : World} {g n : Nat} {ms : Ds} {cs : List Value} (h : MadeD w g n n ms cs) (hl : ms.length = n) : RDs w (some ⟨g, 0, none⟩) n ms := by
  obtain ⟨h1, h2, h3⟩ := h
  refine ⟨hl, fun _ => ⟨g, 0, rfl, h2.lt, fun k m hm => ?_⟩⟩
  have hk : k < ms.length := by
    rcases Nat.lt_or_ge k ms.length with h | h
    · exact h
    · rw [List.getElem?_eq_none h] at hm; cases hm
  obtain ⟨B, kk, d, e1, e2, o⟩ := h3 k m (by omega) hm
  obtain ⟨B', d', e3, hd, hm', hri⟩ := o.form
  injection e3 with e3a _ e3c; subst e3a; subst e3c
  refine ⟨B, kk, d, ?_, ?_, hd, hm', hri⟩
  · rw [Nat.zero_add, h2.cell]; simpa using e1
  · rw [Nat.zero_add, h2.cell]; simpa using e2


end Go.Proofs.YtefopnkicllpeaaDoor
