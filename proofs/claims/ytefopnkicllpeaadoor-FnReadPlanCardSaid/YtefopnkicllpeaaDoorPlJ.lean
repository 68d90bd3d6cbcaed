/- strings.Join at "; " over at most four short texts. -/
import Derived.Test.YtefopnkicllpeaaDoorPlT
import Derived.Test.YtefopnkicllpeaaDoorBld
import Derived.Test.YtefopnkicllpeaaDoorNumS
import Derived.Test.YtefopnkicllpeaaDoorApp
namespace Go.Proofs.YtefopnkicllpeaaDoor
open Go.RowKit

theorem strInfo : (Tryd.prog.info? 9).map (fun i => (i.zero, i.size, i.bytes)) = some (some (.string ⟨#[]⟩), 1, 16) := by kernel_rfl
/-- 'elems[1:]'. -/
theorem sliceT_one {A : Option Addr} {n c : Nat} (h1 : 1 ≤ n) (hnc : n ≤ c) :
    ∀ w' : World, (Instr.slice 39 (.slice A n c) (some (.int .i64 1)) none none).run Tryd.prog w' = .ok (.slice (if c = 1 then A else A.map (·.add 1)) (n - 1) (c - 1)) w' := by
  obtain ⟨i, hi, hz, hsz, hb⟩ := info_parts strInfo
  intro w'
  have h3 : (c - 1 = 0) = (c = 1) := by rw [eq_iff_iff]; omega
  simp [Instr.slice, Instr.sliceBounds, Instr.sliceBound, run_underlying Tryd.underlying39, sizeOf, typeInfo, hi, asIntOf, hsz]
  try simp [h3]
  intro h
  omega
/-- The cells behind address A are the texts ls. -/
def RT (w : World) (A : Option Addr) (n : Nat) (ls : List (List UInt8)) : Prop :=
  ls.length = n ∧ (0 < n → ∃ b off, A = some ⟨b, off, none⟩ ∧ b < w.heap.size ∧ ∀ (k : Nat) (x : List UInt8), ls[k]? = some x → w.cell? ⟨b, off + k, none⟩ = some (.string (str x)))
theorem RT.below {w w' : World} {A : Option Addr} {n : Nat} {ls : List (List UInt8)} (h : RT w A n ls) (hb : Below w.heap.size w w') : RT w' A n ls :=
  ⟨h.1, fun hn => by
    obtain ⟨b, off, e, hlt, hc⟩ := h.2 hn
    exact ⟨b, off, e, Nat.lt_of_lt_of_le hlt hb.size, fun k x hx => (hb.cell (p := ⟨b, off + k, none⟩) hlt).trans (hc k x hx)⟩⟩
theorem RT.at_ {w : World} {A : Option Addr} {n : Nat} {ls : List (List UInt8)} (h : RT w A n ls) {k : Nat} (hk : k < n) :
    ∃ b off x, A = some ⟨b, off, none⟩ ∧ b < w.heap.size ∧ ls[k]? = some x ∧ w.cell? ⟨b, off + k, none⟩ = some (.string (str x)) := by
  obtain ⟨b, off, e, hlt, hc⟩ := h.2 (by omega)
  have hl : k < ls.length := by have := h.1; omega
  exact ⟨b, off, ls[k], e, hlt, List.getElem?_eq_getElem hl, hc k _ (List.getElem?_eq_getElem hl)⟩
theorem joinTo_len {ls : List (List UInt8)} (h : ∀ x ∈ ls, x.length ≤ 100) : ∀ k, k ≤ ls.length → (joinTo ls k).length ≤ 102 * k
  | 0, _ => by simp [joinTo]
  | k + 1, hk => by
    have h1 := joinTo_len h k (by omega)
    have h2 : (if 0 < k then [(59 : UInt8), 32] else []).length ≤ 2 := by split <;> simp
    have h3 : (ls.getD k []).length ≤ 100 := by
      rw [List.getD_eq_getElem?_getD, List.getElem?_eq_getElem (show k < ls.length by omega)]
      exact h _ (List.getElem_mem _)
    rw [joinTo, List.length_append, List.length_append]; omega
theorem joinTo_succ {ls : List (List UInt8)} {k : Nat} {x : List UInt8} (h : ls[k]? = some x) : joinTo ls (k + 1) = joinTo ls k ++ ((if 0 < k then [59, 32] else []) ++ x) := by
  rw [joinTo, List.getD_eq_getElem?_getD, h]; rfl
theorem byteCells_add (a b : List UInt8) : Lib.byteCells (a ++ b) = Lib.byteCells a ++ Lib.byteCells b := by simp [Lib.byteCells]
theorem strCells_str (a : List UInt8) : Lib.strCells (str a) = Lib.byteCells a := by simp [Lib.strCells, Lib.byteCells, str]
theorem Bld.belowAll {B b : Nat} {bs : List Value} {w w' : World} (h : Bld B b bs w) (hb : Below w.heap.size w w') : Bld B b bs w' := by
  have f : ∀ p, Lib.BuilderAt 82 5 B b p bs w → Lib.BuilderAt 82 5 B b p bs w' := fun p h => by
    have hlt := h.lt
    obtain ⟨hB, v, hk, ho, hn⟩ := h
    exact ⟨hB, v, (hb.block _ hlt).trans hk, ho.kept (row := none) ⟨hb.os, hb.tape, hb.output, hb.size, fun k hk _ => hb.block k hk⟩ (by cases hv : v.ownBlock <;> simp), hn⟩
  exact h.imp (f _) (f _)
set_option maxRecDepth 100000 in
set_option maxHeartbeats 8000000 in
theorem Join_c {A : Option Addr} {n c : Nat} {ls : List (List UInt8)} {w : World} (hnc : n ≤ c) (hr : RT w A n ls) (h4 : n ≤ 4) (h100 : ∀ x ∈ ls, x.length ≤ 100) :
    Calls Tryd.prog 36 #[.slice A n c, .string ⟨#[59, 32]⟩] w fun e w' => e = .returned (.string (str (joinTo ls n))) ∧ Below w.heap.size w w' := by
  have hl := hr.1
  have hn : n = 0 ∨ n = 1 ∨ 2 ≤ n := by omega
  rcases hn with rfl | rfl | h2
  · go_enter Tryd.func36, Tryd.ntmps36
    go_wp2_with fail
    go_ret
    exact ⟨rfl, Below.refl _ _⟩
  · obtain ⟨b, off, x, rfl, hbb, hx, hc⟩ := hr.at_ (show 0 < 1 by omega)
    have hj : joinTo ls 1 = x := by rw [joinTo_succ hx]; rfl
    have HJ := hide hj
    rw [Nat.add_zero] at hc
    clear hx hj
    go_enter Tryd.func36, Tryd.ntmps36
    go_wp2_with fail
    go_ret
    exact ⟨by rw [HJ.out]; rfl, Below.refl _ _⟩
  · have hq : ¬ ((9223372036854775807 : Int) / ((n : Int) - 1) ≤ 2) := by
      have : n = 2 ∨ n = 3 ∨ n = 4 := by omega
      rcases this with rfl | rfl | rfl <;> decide
    go_enter Tryd.func36, Tryd.ntmps36
    go_wp2_with fail
    go_loopw [5, 41] (fun v i W => ∃ (k t : Nat), i = .int .i64 k ∧ k ≤ n ∧ v = .int .i64 (t : Int) ∧ t ≤ 100 + 100 * k ∧ w = W) (fun _ i _ => n - (intOf i).toNat)
    case atStart => exact ⟨0, 2 * (n - 1), rfl, Nat.zero_le _, by go_num, by omega, rfl⟩
    case round =>
      obtain ⟨k, t, rfl, hk, rfl, ht, rfl⟩ := hrel
      by_cases hkn : k < n
      · obtain ⟨b, off, x, rfl, hbb, hx, hc⟩ := hr.at_ hkn
        have hx100 := h100 x (List.mem_of_getElem? hx)
        have hsz : (str x).size = x.length := str_size x
        have hle : ¬ (9223372036854775807 - (t : Int) < (x.length : Int)) := by omega
        have k0 : (0 : Int) ≤ k := by omega
        have k2 : (k : Int) < n := by omega
        clear hx
        go_wp2_with fail
        go_roundw
        case rel => exact ⟨k + 1, t + x.length, by go_num, by omega, by go_num, by omega, by first | rfl | trivial⟩
        case measure => simp [intOf]; omega
      · obtain rfl : k = n := by omega
        obtain ⟨b, off, x, rfl, hbb, hx, hc⟩ := hr.at_ (show 0 < k by omega)
        have hj1 : joinTo ls 1 = x := by rw [joinTo_succ hx]; rfl
        have HJ1 := hide hj1
        have hx100 := h100 x (List.mem_of_getElem? hx)
        rw [Nat.add_zero] at hc
        have hsl := sliceT_one (A := some ⟨b, off, none⟩) (n := k) (c := c) (by omega) hnc
        have hA1 : (if c = 1 then some (⟨b, off, none⟩ : Addr) else (some (⟨b, off, none⟩ : Addr)).map (·.add 1)) = some ⟨b, off + 1, none⟩ := by rw [if_neg (by omega)]; simp [addr_add]
        rw [hA1] at hsl
        have HX := hide hx
        have hfr := heap_alloc_new w (.cells #[.pointer none, .slice none 0 0] 82)
        have b0 : Below w.heap.size w (w.alloc (.cells #[.pointer none, .slice none 0 0] 82)) := (Below.refl _ _).alloc (Nat.le_refl _) _
        have HB0 := hide b0; have HFR := hide hfr
        clear hx hj1 hA1 b0 hfr
        go_wp2_with fail
        refine (Builder_Grow_fresh w.heap.size w.heap.size t _ (Nat.le_refl _) HFR.out (by rw [World.size_alloc]; omega) (by omega)).mono ?_
        rintro e w1 ⟨rfl, hB1, b1⟩
        have B1 := hide (HB0.out.trans b1)
        have c1 := (B1.out.cell (p := ⟨b, off, none⟩) hbb).trans hc
        clear b1 hc
        go_wp2_with fail
        refine (WriteString_c w.heap.size w.heap.size _ (str x) w1 (Or.inr hB1) (by rw [str_size]; simp; omega) B1.out.size).mono ?_
        rintro e w2 ⟨rfl, hB2, b2⟩
        have B2 := hide (B1.out.trans b2)
        rw [List.nil_append, strCells_str] at hB2
        have HB2 := hide hB2
        clear b2 hB1 hB2 c1
        go_wp2_with fail
        go_loopw [65] (fun i W => ∃ q : Nat, i = .int .i64 q ∧ q ≤ k - 1 ∧ Bld w.heap.size w.heap.size (Lib.byteCells (joinTo ls (q + 1))) W ∧ Below w.heap.size w W) (fun i _ => k - 1 - (intOf i).toNat)
        case atStart => exact ⟨0, rfl, Nat.zero_le _, by rw [HJ1.out]; exact Or.inr HB2.out, B2.out⟩
        case round =>
          clear HB2 B2 B1 HB0 HFR
          obtain ⟨q, rfl, hq, hbl, bw⟩ := hrel
          have HBL := hide hbl; have BW := hide bw
          by_cases hqk : q < k - 1
          · obtain ⟨b', off', y, ea, hbb', hy, hcy⟩ := hr.at_ (show q + 1 < k by omega)
            injection ea with ea; injection ea with ea1 ea2; subst ea1; subst ea2
            have hst := joinTo_succ hy
            rw [if_pos (by omega)] at hst
            have HST := hide hst
            have hy100 := h100 y (List.mem_of_getElem? hy)
            have hjl := joinTo_len h100 (q + 1) (by omega)
            have cy := (bw.cell (p := ⟨b, off + (q + 1), none⟩) hbb).trans hcy
            rw [show off + (q + 1) = off + 1 + q by omega] at cy
            have CY := hide (show ∀ W, Below w.heap.size w W → W.cell? ⟨b, off + 1 + q, none⟩ = some (.string (str y)) from fun W h => by
              have := (h.cell (p := ⟨b, off + (q + 1), none⟩) hbb).trans hcy
              rwa [show off + (q + 1) = off + 1 + q by omega] at this)
            have q0 : (0 : Int) ≤ q := by omega
            have q2 : (q : Int) < ((k - 1 : Nat) : Int) := by omega
            clear hst hy hcy bw hbl
            go_wp2_with fail
            refine (WriteString_c w.heap.size w.heap.size _ ⟨#[59, 32]⟩ _ HBL.out (by rw [Lib.byteCells_length]; show _ + 2 ≤ _; omega) BW.out.size).mono ?_
            rintro e w3 ⟨rfl, hB3, b3⟩
            have B3 := hide (BW.out.trans b3)
            clear b3
            go_wp2_with fail
            refine (WriteString_c w.heap.size w.heap.size _ (str y) w3 (Or.inr hB3) (by rw [List.length_append, Lib.byteCells_length, str_size]; simp [Lib.strCells]; omega) B3.out.size).mono ?_
            rintro e w4 ⟨rfl, hB4, b4⟩
            have B4 := hide (B3.out.trans b4)
            rw [show (⟨#[59, 32]⟩ : ByteArray) = str [59, 32] from rfl, strCells_str, strCells_str, ← byteCells_add, ← byteCells_add, List.append_assoc, ← HST.out] at hB4
            have HB4 := hide hB4
            clear b4 hB3 hB4 cy
            go_wp2_with fail
            go_roundw
            case rel => exact ⟨q + 1, by go_num, by omega, Or.inr HB4.out, B4.out⟩
            case measure => simp [intOf]; omega
          · have hqe : q + 1 = k := by omega
            rw [hqe] at hbl
            have HBK := hide hbl
            clear hbl bw HBL
            go_wp2_with fail
            refine (Builder_String_any w.heap.size w.heap.size _ _ HBK.out BW.out.size).mono ?_
            rintro e w5 ⟨rfl, b5⟩
            go_wp2_with fail
            go_ret
            exact ⟨rfl, BW.out.trans b5⟩

end Go.Proofs.YtefopnkicllpeaaDoor
