/- Slices of drafts: compared with their like; copied. -/
import Derived.Test.YtieecneknljmdaaDoorDrs
import Derived.Deep.RegionHeld3
namespace Go.Proofs.YtieecneknljmdaaDoor
open Go.RowKit

theorem beD (w : World) (o : Obj) : Below w.heap.size w (w.alloc o) := (Below.refl _ _).alloc (Nat.le_refl _) o
def SmallD (ms : Ds) : Prop := ∀ m ∈ ms, m.2.length ≤ 1048576

theorem infoDs : (Tryd.prog.info? 63).map (fun i => (i.zero, i.size, i.bytes)) = some (some (.agg #[.int .i64 0, .slice none 0 0]), 2, 32) := by kernel_rfl
theorem run_make_Ds (n : Nat) (hn : n ≤ 1048576) (w : World) :
    (Instr.makeSlice 32 (.int .i64 (n : Int)) (.int .i64 (n : Int))).run Tryd.prog w = .ok (.slice (some ⟨w.heap.size, 0, none⟩) n n) (w.alloc (.cells (madeCells #[.int .i64 0, .slice none 0 0] (n * 2)) 63)) := by
  obtain ⟨i, hi, hz, hs, hb⟩ := info_parts infoDs
  rw [run_make_rowN 32 63 i (.agg #[.int .i64 0, .slice none 0 0]) Tryd.underlying32 hi hz .i64 .i64 n n (Nat.le_refl _) (by rw [hb]; omega) (by omega) w, hs]
  rfl
def MadeD (w : World) (g n k : Nat) (ms : Ds) (cs : List Value) : Prop := cs.length = n * 2 ∧ Blk w g 63 cs.toArray ∧
  ∀ (j : Nat) (m : Int × List T3), j < k → ms[j]? = some m → ∃ (B : Option Addr) (kk d : Nat), cs[j * 2]? = some (.int .i64 m.1) ∧ cs[j * 2 + 1]? = some (.slice B kk d) ∧ O3 51 w (g + 1) (.slice B kk d) kk m.2
theorem MadeD.step {w w2 : World} {g n k : Nat} {ms : Ds} {cs : List Value} {f : Int} {ys : List T3} {B : Option Addr} {kk d B0 : Nat} (h : MadeD w g n k ms cs) (hk : k < n) (hx : ms[k]? = some (f, ys)) (b : Below w.heap.size w w2) (o : O3 51 w2 B0 (.slice B kk d) kk ys) (hB : g + 1 ≤ B0) :
    MadeD ((w2.setCell ⟨g, k * 2, none⟩ (.int .i64 f)).setCell ⟨g, k * 2 + 1, none⟩ (.slice B kk d)) g n (k + 1) ms ((cs.set (k * 2) (.int .i64 f)).set (k * 2 + 1) (.slice B kk d)) := by
  obtain ⟨h1, h2, h3⟩ := h
  refine ⟨by simp [h1], ?_, fun j m hj hm => ?_⟩
  · have := ((h2.belowAll b).set_ (k * 2) (.int .i64 f)).set_ (k * 2 + 1) (.slice B kk d)
    simpa using this
  · by_cases hjk : j = k
    · subst hjk
      rw [hx] at hm
      injection hm with hm
      subst hm
      refine ⟨B, kk, d, ?_, ?_, ((o.mono hB).set_low (p := ⟨g, j * 2, none⟩) (by show g < g + 1; omega) _).set_low (p := ⟨g, j * 2 + 1, none⟩) (by show g < g + 1; omega) _⟩
      · rw [List.getElem?_set_ne (by omega), List.getElem?_set_self (by omega)]
      · rw [List.getElem?_set_self (by simp; omega)]
    · obtain ⟨B', kk', d', e1, e2, o'⟩ := h3 j m (by omega) hm
      refine ⟨B', kk', d', ?_, ?_, ((o'.below b).set_low (p := ⟨g, k * 2, none⟩) (by show g < g + 1; omega) _).set_low (p := ⟨g, k * 2 + 1, none⟩) (by show g < g + 1; omega) _⟩
      · rw [List.getElem?_set_ne (by omega), List.getElem?_set_ne (by omega)]; exact e1
      · rw [List.getElem?_set_ne (by omega), List.getElem?_set_ne (by omega)]; exact e2
theorem MadeD.rm {w : World} {g n : Nat} {ms : Ds} {cs : List Value} (h : MadeD w g n n ms cs) (hl : ms.length = n) : RDs w (some ⟨g, 0, none⟩) n ms := by
  obtain ⟨h1, h2, h3⟩ := h
  refine ⟨hl, fun _ => ⟨g, 0, rfl, h2.lt, fun k m hm => ?_⟩⟩
  have hk : k < ms.length := by
    rcases Nat.lt_or_ge k ms.length with h | h
    · exact h
    · rw [List.getElem?_eq_none h] at hm; cases hm
  obtain ⟨B, kk, d, e1, e2, o⟩ := h3 k m (by omega) hm
  obtain ⟨B', d', e3, hd, hm', hri⟩ := o.form
  injection e3 with e3a _ e3c; subst e3a; subst e3c
  refine ⟨B, kk, d, ?_, ?_, hd, hm', hri⟩
  · rw [Nat.zero_add, h2.cell]; simpa using e1
  · rw [Nat.zero_add, h2.cell]; simpa using e2


end Go.Proofs.YtieecneknljmdaaDoor
