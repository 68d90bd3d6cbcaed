/- The program's NumbersText, over a builder of its own; the library's table by the row's condition. -/
import Derived.Test.YtkppbcejhojpiaaDoorNumP
import Derived.Test.YtkppbcejhojpiaaDoorBld
import Derived.Test.YtkppbcejhojpiaaDoorInts
import Derived.Lib.AppendIntMem
import Derived.LaidMore
import Derived.Deep.DeepCutAuto
namespace Go.Proofs.YtkppbcejhojpiaaDoor
open Go.RowKit

/-- The library's table of powers of ten. -/
abbrev Tab (w : World) : Prop := Lib.TabIs Tryd.prog w "internal/strconv.uint64pow10" .u64 Lib.pow10Tab
theorem tabG : Tryd.prog.globalNamed "internal/strconv.uint64pow10" = some 0 := by kernel_rfl
theorem Tab.below {w w' : World} (h : Tab w) (hb : Below w.heap.size w w') : Tab w' := by
  unfold Tab Lib.TabIs World.var? at h ⊢
  rw [tabG] at h ⊢
  have hlt : 0 < w.heap.size := by
    rcases Nat.lt_or_ge 0 w.heap.size with h1 | h1
    · exact h1
    · simp [Array.getElem?_eq_none h1] at h
  simp only [Option.bind_some] at h ⊢
  rw [hb.block _ hlt]; exact h
theorem Bld.below {B b : Nat} {bs : List Value} {w w' : World} (h : Bld B b bs w) (hb : Below w.heap.size w w') : Bld B b bs w' := by
  have f : ∀ p, Lib.BuilderAt 37 5 B b p bs w → Lib.BuilderAt 37 5 B b p bs w' := fun p h => by
    have hlt := h.lt
    obtain ⟨hB, v, hk, ho, hn⟩ := h
    exact ⟨hB, v, (hb.block _ hlt).trans hk, ho.kept (row := none) ⟨hb.os, hb.tape, hb.output, hb.size, fun k hk _ => hb.block k hk⟩ (by cases hv : v.ownBlock <;> simp), hn⟩
  exact h.imp (f _) (f _)

theorem timeOk_c {x : Int} {w : World} : Calls Tryd.prog 15 #[.int .i64 x] w fun e w' => e = .returned (.bool (inB x 0 1000)) ∧ w = w' := by
  go_enter Tryd.func15, Tryd.ntmps15
  go_wp2_with (go_at_call 25; refine (within_c).mono ?_; rintro e w' ⟨rfl, rfl⟩)
  go_ret
  exact ⟨rfl, rfl⟩
theorem NT1_c {x : Int} {w : World} : Calls Tryd.prog 14 #[.int .i64 x] w fun e w' => e = .returned (.bool (!inB x 0 1000)) ∧ w = w' := by
  go_enter Tryd.func14, Tryd.ntmps14
  go_wp2_with (go_at_call 15; refine (timeOk_c).mono ?_; rintro e w' ⟨rfl, rfl⟩)
  go_ret
  exact ⟨rfl, rfl⟩
def badNum (x : Int) : Bool := !inB x 0 1000
theorem any_snoc_n {p : Int → Bool} {xs : List Int} {k : Nat} {x : Int} (h : (xs.take k).any p = false) (hx : xs[k]? = some x) (hp : p x = false) : (xs.take (k + 1)).any p = false := by
  rw [List.take_add_one, hx, List.any_append, h]; simp [hp]
theorem any_of_n {p : Int → Bool} {xs : List Int} {k : Nat} {x : Int} (hx : xs[k]? = some x) (hp : p x = true) : xs.any p = true :=
  List.any_eq_true.2 ⟨x, List.mem_of_getElem? hx, hp⟩
set_option maxHeartbeats 400000 in
theorem IndexFunc_n_c {v : Value} {n : Nat} {xs : List Int} {w : World} (hs : SI w v n xs) :
    Calls Tryd.prog 24 #[v, .func (.func 14) #[] #[]] w fun e w' => ∃ i : Int, e = .returned (.int .i64 i) ∧ (decide (0 ≤ i)) = xs.any badNum ∧ w = w' := by
  obtain ⟨A, c, rfl, hnc, hn, hr⟩ := hs
  have hl := hide hr.len
  go_enter Tryd.func24, Tryd.ntmps24
  go_wp2
  go_loop [8] (fun i => ∃ k : Nat, k ≤ n ∧ i = .int .i64 k ∧ (xs.take k).any badNum = false) (fun i => n - (intOf i).toNat)
  case atStart => exact ⟨0, Nat.zero_le _, rfl, by simp⟩
  case round =>
    obtain ⟨k, hk, rfl, hall⟩ := hrel
    have Hall := hide hall; clear hall
    by_cases hlt : k < n
    · obtain ⟨b, off, x, rfl, hb, hx, hc⟩ := hr.at_ hlt
      have Hx := hide hx; clear hx
      cases hv : inB x 0 1000
      · go_wp2_with (go_at_call 14; refine (NT1_c).mono ?_; rintro e w' ⟨rfl, rfl⟩)
        go_ret
        exact ⟨_, rfl, by rw [any_of_n Hx.out (by simp [badNum, hv])]; simp, rfl⟩
      · go_wp2_with (go_at_call 14; refine (NT1_c).mono ?_; rintro e w' ⟨rfl, rfl⟩)
        go_round
        case rel => exact ⟨k + 1, by omega, by go_num, any_snoc_n Hall.out Hx.out (by simp [badNum, hv])⟩
        case measure => simp [intOf]; omega
    · go_wp2
      go_ret
      obtain rfl : k = n := by omega
      refine ⟨_, rfl, ?_, rfl⟩
      have h1 := Hall.out
      rw [List.take_of_length_le (by rw [hl.out]; omega)] at h1
      rw [h1]; rfl
set_option maxHeartbeats 400000 in
theorem ContainsFunc_n_c {v : Value} {n : Nat} {xs : List Int} {w : World} (hs : SI w v n xs) :
    Calls Tryd.prog 13 #[v, .func (.func 14) #[] #[]] w fun e w' => e = .returned (.bool (xs.any badNum)) ∧ w = w' := by
  obtain ⟨A, c, rfl, hnc, hn, hr⟩ := hs
  go_enter Tryd.func13, Tryd.ntmps13
  go_wp2_with (go_at_call 24; refine (IndexFunc_n_c ⟨A, c, rfl, hnc, hn, hr⟩).mono ?_; rintro e w' ⟨i, rfl, hi, rfl⟩; have Hi := hide hi; clear hi)
  go_ret
  exact ⟨by rw [← Hi.out]; rfl, rfl⟩
theorem numB_any (xs : List Int) : xs.any badNum = !numB xs := by
  unfold numB
  induction xs with
  | nil => rfl
  | cons a r ih => simp only [List.any_cons, List.all_cons, ih, Bool.not_and]; rfl
theorem Itoa_c {y : Nat} {w : World} (hy : y ≤ 1000) (hT : Tab w) :
    Calls Tryd.prog 18 #[.int .i64 (y : Int)] w fun e w' => e = .returned (.string (str (digs y))) ∧ Below w.heap.size w w' :=
  (strconv_Itoa (y : Int) (by omega) (by omega) w hT).mono (by
    rintro e w' ⟨rfl, k, os, rfl⟩
    refine ⟨?_, Lib.below_grow _ _ (Nat.le_refl _) _ _⟩
    have : Lib.itoa (y : Int) = digs y := by unfold Lib.itoa digs; rw [if_neg (by omega)]; simp
    rw [this]; rfl)

set_option maxRecDepth 100000 in
set_option maxHeartbeats 4000000 in
theorem impl_NumbersText_c {v : Value} {n : Nat} {xs : List Int} {w : World} (hs : SI w v n xs) (hT : Tab w) :
    Calls Tryd.prog 7 #[v] w fun e w' => e = .returned (.string (str (textL xs))) ∧ Below w.heap.size w w' := by
  obtain ⟨A, c, rfl, hnc, hn, hr⟩ := hs
  have hl := hide hr.len
  have HT := hide hT; clear hT
  cases hv : numB xs
  · have hf : textL xs = [] := by unfold textL; rw [hv]; rfl
    have F := hide hf; have HV := hide hv; clear hf hv
    go_enter Tryd.func7, Tryd.ntmps7
    go_wp2_with fail
    refine (ContainsFunc_n_c ⟨A, c, rfl, hnc, hn, hr⟩).mono ?_
    rintro e w2 ⟨rfl, rfl⟩
    rw [numB_any, HV.out]
    go_wp2_with fail
    go_ret
    exact ⟨by rw [F.out]; rfl, Below.refl _ _⟩
  · have hf : textL xs = textTo xs n := by unfold textL; rw [hv, ← hr.len]; rfl
    have F := hide hf; have HV := hide hv; clear hf hv
    have hI := hide (Lib.fresh_isBuilder 37 5 w)
    have B0 := hide ((Below.refl w.heap.size w).alloc (Nat.le_refl _) (.cells #[.pointer none, .slice none 0 0] 37))
    go_enter Tryd.func7, Tryd.ntmps7
    go_wp2_with fail
    refine (ContainsFunc_n_c ⟨A, c, rfl, hnc, hn, hr⟩).mono ?_
    rintro e w2 ⟨rfl, rfl⟩
    rw [numB_any, HV.out]
    go_wp2_with fail
    go_loopw [10] (fun i wr => ∃ k : Nat, i = .int .i64 k ∧ k ≤ n ∧ Bld w.heap.size w.heap.size (Lib.byteCells (textTo xs k)) wr ∧ Below w.heap.size w wr) (fun i _ => n - (intOf i).toNat)
    case atStart => exact ⟨0, rfl, Nat.zero_le _, hI.out, B0.out⟩
    case round =>
      clear hI B0
      obtain ⟨k, rfl, hk, hB, bw⟩ := hrel
      have HB := hide hB; have BW := hide bw; clear hB bw
      have hsz := BW.out.size
      by_cases hkn : k < n
      · obtain ⟨b, off, x, rfl, hbb, hx, hc⟩ := hr.at_ hkn
        have HX := hide hx
        have q0 := (BW.out.cell (p := ⟨b, off + k, none⟩) hbb).trans hc
        have k0 : (0 : Int) ≤ k := by omega
        have k2 : (k : Int) < n := by omega
        have hall : ∀ y ∈ xs, inB y 0 1000 = true := by
          have := HV.out; unfold numB at this; rwa [List.all_eq_true] at this
        have hi := (inB_iff _ _ _).1 (hall x (List.mem_of_getElem? hx))
        obtain ⟨y, rfl⟩ : ∃ y : Nat, x = y := ⟨x.toNat, by omega⟩
        have hy : y ≤ 1000 := by omega
        have hlen := textTo_len (xs := xs) k (List.all_eq_true.2 (fun y hy => hall y (List.mem_of_mem_take hy))) (by rw [hl.out]; omega)
        have hd := digs_len 3 y (by omega)
        have hst := textTo_succ HX.out
        have HST := hide hst
        clear hx hall hi hst
        by_cases hk0 : 0 < k
        · have hk0' : (0 : Int) < k := by omega
          go_wp2_with fail
          refine (WriteByte_c w.heap.size w.heap.size _ 32 wr HB.out (by rw [Lib.byteCells_length]; omega) hsz).mono ?_
          rintro e w3 ⟨rfl, h3, b3⟩
          have B3 := hide (BW.out.trans b3)
          have hs3 : w.heap.size ≤ w3.heap.size := B3.out.size
          have HT3 := HT.out.below B3.out
          clear b3
          go_wp2_with fail
          refine (Itoa_c hy HT3).mono ?_
          rintro e w4 ⟨rfl, b4⟩
          have h4 := Bld.below (Or.inr h3) b4
          have B4 := hide (below_step B3.out b4)
          have hs4 : w.heap.size ≤ w4.heap.size := B4.out.size
          clear b4 h3
          go_wp2_with fail
          refine (WriteString_c w.heap.size w.heap.size _ (str (digs y)) w4 h4 (by rw [List.length_append, Lib.byteCells_length, str_size]; simp; omega) hs4).mono ?_
          rintro e w5 ⟨rfl, h5, b5⟩
          have B5 := hide (B4.out.trans b5)
          have H5 := hide h5
          clear b5 h4 h5
          go_wp2_with fail
          go_roundw
          case rel => exact ⟨k + 1, by go_num, by omega, by
            rw [HST.out, if_pos hk0]
            have := H5.out
            simp only [Lib.byteCells, Lib.strCells, str, List.map_append, List.map_cons, List.map_nil, List.append_assoc] at this ⊢
            exact Or.inr this, B5.out⟩
          case measure => simp [intOf]; omega
        · have hk0' : ¬ (0 : Int) < k := by omega
          have HT3 := HT.out.below BW.out
          go_wp2_with fail
          refine (Itoa_c hy HT3).mono ?_
          rintro e w4 ⟨rfl, b4⟩
          have h4 := Bld.below HB.out b4
          have B4 := hide (below_step BW.out b4)
          have hs4 : w.heap.size ≤ w4.heap.size := B4.out.size
          clear b4
          go_wp2_with fail
          refine (WriteString_c w.heap.size w.heap.size _ (str (digs y)) w4 h4 (by rw [Lib.byteCells_length, str_size]; omega) hs4).mono ?_
          rintro e w5 ⟨rfl, h5, b5⟩
          have B5 := hide (B4.out.trans b5)
          have H5 := hide h5
          clear b5 h4 h5
          go_wp2_with fail
          go_roundw
          case rel => exact ⟨k + 1, by go_num, by omega, by
            rw [HST.out, if_neg hk0, List.nil_append]
            have := H5.out
            simp only [Lib.byteCells, Lib.strCells, str, List.map_append] at this ⊢
            exact Or.inr this, B5.out⟩
          case measure => simp [intOf]; omega
      · obtain rfl : k = n := by omega
        go_wp2_with fail
        refine (Builder_String_any w.heap.size w.heap.size _ wr HB.out hsz).mono ?_
        rintro e w3 ⟨rfl, b3⟩
        go_wp2_with fail
        go_ret
        exact ⟨by rw [F.out]; rfl, BW.out.trans b3⟩

end Go.Proofs.YtkppbcejhojpiaaDoor
