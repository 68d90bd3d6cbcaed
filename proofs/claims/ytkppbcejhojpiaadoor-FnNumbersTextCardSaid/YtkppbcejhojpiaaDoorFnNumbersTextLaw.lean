/- FnNumbersText: both sides agree; there is one space less than numbers. The card ties the listed variables to the program's text. -/
import Derived.Test.YtkppbcejhojpiaaDoorOpenB
import Derived.Test.YtkppbcejhojpiaaDoorDrawNum
import Derived.Test.YtkppbcejhojpiaaDoorNumS
import Derived.Test.YtkppbcejhojpiaaDoorTabN
import Derived.Deep.DeepCutAuto
import Derived.BigQuiet
namespace Go.Proofs.YtkppbcejhojpiaaDoor.fnNumbersText
open Go.ChangeShapes Go.WideShapes Go.ChangeAt Go.RowKit

def sp (l : List UInt8) : Nat := (l.filter (· == 32)).length
theorem sp_snoc {l : List UInt8} {k : Nat} {c : UInt8} (h : l[k]? = some c) : sp (l.take (k + 1)) = sp (l.take k) + (if c = 32 then 1 else 0) := by
  unfold sp
  rw [List.take_add_one, h, List.filter_append, List.length_append]
  by_cases e : c = 32
  · subst e; rfl
  · rw [if_neg e]; simp [e]
theorem sp_le (l : List UInt8) : sp l ≤ l.length := List.length_filter_le _ _

set_option maxRecDepth 100000 in
set_option maxHeartbeats 8000000 in
theorem walk (A : Option Addr) (n c : Nat) (w : World) (hnc : n ≤ c) (hmx : c ≤ maxLen) (hb : BY w w.heap.size A n) (hT : Tab w) :
    Calls Tryd.prog 4 #[.slice A n c] w fun e w' => e = .returned (.bool true) ∧ Below w.heap.size w w' := by
  by_cases hn : n ≤ 1048576
  · have HT := hide hT; clear hT
    go_enter Tryd.func4, Tryd.ntmps4
    go_wp2_with fail
    refine (DrawNumbersText_c hnc hmx hb).mono ?_
    rintro e w1 ⟨v1, m, xs, rfl, s1, hm, b1⟩
    obtain ⟨A1, c1, rfl⟩ := s1.shape
    go_wp2_with fail
    refine (impl_NumbersText_c s1 (HT.out.below b1)).mono ?_
    rintro e w2 ⟨rfl, b2⟩
    have B2 := below_step b1 b2
    have s2 := s1.below b2
    clear b1 b2 s1
    go_wp2_with fail
    refine (spec_NumbersText_c s2).mono ?_
    rintro e w3 ⟨rfl, b3⟩
    have B3 := hide (below_step B2 b3)
    have hl := s2.len
    clear b3 B2
    by_cases he : textL xs = []
    · have hs : str (textL xs) = ⟨#[]⟩ := by rw [he]; rfl
      rw [hs]
      go_wp2_with fail
      refine (alive_c).mono ?_
      rintro e w4 ⟨rfl, b4⟩
      go_wp2_with fail
      go_ret
      exact ⟨rfl, below_step B3.out b4⟩
    · have hB : numB xs = true := by
        cases h : numB xs
        · exact absurd (by unfold textL; rw [h]; rfl) he
        · rfl
      have hall : (xs.take xs.length).all (fun x => inB x 0 1000) = true := by rw [List.take_length]; exact hB
      have ht : textL xs = textTo xs xs.length := numB_yes hall
      have hsp := (spaces_to xs.length hall (Nat.le_refl _)).1
      have hln := textTo_len xs.length hall (Nat.le_refl _)
      have hm0 : 0 < m := by
        rcases Nat.eq_zero_or_pos m with h0 | h0
        · exfalso; apply he; rw [ht, hl, h0]; rfl
        · exact h0
      have hspm : sp (textL xs) = m - 1 := by rw [ht]; unfold sp; rw [hsp, hl]
      rw [← ht] at hln
      have hne : (str (textL xs)).toList.isEmpty = false := by rw [ByteArray.toList_eq]; show (textL xs).toArray.toList.isEmpty = false; simpa using he
      obtain ⟨l, hl0⟩ : ∃ l, textL xs = l := ⟨_, rfl⟩
      rw [hl0] at hspm hln hne
      have hsz := str_size l
      have HSP := hide hspm; have HLN := hide hln
      have hlb : l.length ≤ 1000 := by rw [hl] at hln; omega
      rw [hl0]
      clear hspm hln hsp ht hall hB he
      go_wp2_with fail
      go_loopw [5, 6] (fun u i wr => ∃ k : Nat, i = .int .i64 k ∧ k ≤ l.length ∧ u = .int .i64 (sp (l.take k) : Int) ∧ Below w3.heap.size w3 wr) (fun _ i _ => l.length - (intOf i).toNat)
      case atStart => exact ⟨0, rfl, Nat.zero_le _, rfl, Below.refl _ _⟩
      case round =>
        obtain ⟨k, rfl, hk, rfl, bw⟩ := hrel
        have BW := hide bw; clear bw
        by_cases hkn : k < l.length
        · obtain ⟨ch, hch⟩ : ∃ ch, l[k]? = some ch := ⟨l[k], List.getElem?_eq_getElem hkn⟩
          have hsn := sp_snoc hch
          have hle := sp_le (l.take k)
          have hle2 : (l.take k).length = k := by rw [List.length_take]; omega
          have k0 : (0 : Int) ≤ k := by omega
          have k1 : (k : Int) < l.length := by omega
          have k2 : (k : Int) < (str l).size := by rw [hsz]; exact k1
          have k3 : k < (str l).size := by rw [hsz]; exact hkn
          have HSN := hide hsn
          clear hsn
          have hg : (str l)[k]'k3 = ch := by
            have := (List.getElem?_eq_some_iff.1 hch).2
            have e2 : l.toArray[k]'(by simpa using hkn) = ch := by rw [List.getElem_toArray]; exact this
            exact e2
          by_cases he : ch = 32
          · have hq : ((((str l)[k]'k3).toNat : Int) == 32) = true := by rw [hg, he]; rfl
            clear hg
            go_wp2_with fail
            go_roundw
            case rel => exact ⟨k + 1, by go_num, by omega, by rw [HSN.out, if_pos he]; go_num, BW.out⟩
            case measure => simp [intOf]; omega
          · have hq : ((((str l)[k]'k3).toNat : Int) == 32) = false := by
              rw [hg, beq_eq_false_iff_ne]
              intro e
              apply he
              apply UInt8.toNat_inj.1
              have : (32 : UInt8).toNat = 32 := rfl
              omega
            clear hg
            go_wp2_with fail
            go_roundw
            case rel => exact ⟨k + 1, by go_num, by omega, by rw [HSN.out, if_neg he]; go_num, BW.out⟩
            case measure => simp [intOf]; omega
        · obtain rfl : k = l.length := by omega
          have hf : ((sp l : Int) == (m : Int) - 1) = true := by rw [HSP.out, beq_iff_eq]; omega
          go_wp2_with fail
          go_ret
          exact ⟨rfl, below_step B3.out BW.out⟩
  · go_enter Tryd.func4, Tryd.ntmps4
    go_wp2_with fail
    go_ret
    exact ⟨rfl, Below.refl _ _⟩

theorem door_met (os : Os) (args : Array Value) : laidMetH Tryd.prog Rows.fnNumbersTextRow.laid ((World.doorLaid Tryd.prog 24 os).forCall (fun _ _ => 0) ⟨#[], args, []⟩).memory :=
  laidMetH_of_parts3 (fuel := 8) (laidMet_of_run' 8 (by kernel_rfl) (by kernel_rfl)) (by kernel_rfl) (by kernel_rfl)
set_option maxRecDepth 100000 in
theorem lifted (os : Os) (started : os.Started) (H : Type) (enc : TypeId × Value → H) :
    ReturnsInHanded {} Tryd.checked os 4 .any (fun w args => (Rows.fnNumbersTextSpec.pre enc Tryd.prog Tryd.f4 [] false w args ∧ laidMetH Tryd.prog Rows.fnNumbersTextRow.laid w) ∧ sizedMet enc Tryd.prog Tryd.f4 (OpenSpec.ofChange Rows.fnNumbersTextSpec) false w args)
      (Rows.fnNumbersTextSpec.post enc Tryd.prog Tryd.f4 false true false false) := by
  refine returnsInHanded_of_change_and (C := Tryd.checked) (X := fun w _ => laidMetH Tryd.prog Rows.fnNumbersTextRow.laid w) (fun _ _ _ hh h => h.of_heap hh) own started (by kernel_rfl) Tryd.func4
    (ChangeSpec.witness_shaped (enc := enc) (C := Tryd.checked) (os := os) (X := fun w _ => laidMetH Tryd.prog Rows.fnNumbersTextRow.laid w) false (World.doorLaid Tryd.prog 24 os) #[.slice none 0 0] 8 rfl (World.shaped_of_RefB (by kernel_rfl) (by kernel_rfl)) (by kernel_rfl) (by kernel_rfl) (by kernel_rfl) (door_met os _)) ?_
  intro W base args ds gs before hval0 hW _ _ hL _
  have hval : ∀ (j : Nat) t v, Tryd.f4.params[j]? = some t → args[j]? = some v → Value.okWide Tryd.prog W .any base t v := hval0
  have hW' := hW
  obtain ⟨p, q, hA0, hV, rfl, hfz, hnd⟩ := hW
  have hA : DataW.TrodAll enc Tryd.prog W 0 (fun _ => true) true Tryd.f4.params.toList args.toList ds p := hA0
  rw [Tryd.params4] at hA hval
  obtain ⟨v0, vs0, d0, ds0, p0, q0, hargs, rfl, rfl, h0, r0⟩ := trodAll_cons hA
  obtain ⟨rfl, rfl, rfl⟩ := trodAll_nil r0
  obtain rfl : args = #[v0] := by cases args; simp_all
  obtain ⟨rfl, rfl⟩ := trodVars_none hV
  have k0 := h0
  have lt0 : ∀ x ∈ p0, x.block < W.heap.size := by obtain ⟨m, hm⟩ := k0; exact DataW.trod_lt m _ _ _ hm
  obtain ⟨A0, n0, c0, rfl, hnc0, hmx0, R0⟩ := open_bytesA (hval 0 27 v0 rfl rfl) h0
  clear hA0 hval0
  have hT : Tab W := tab_of_laidH hL (by kernel_rfl) rfl
  refine (walk A0 n0 c0 W hnc0 hmx0 R0 hT).mono fun e W' ⟨he, bel⟩ => ?_
  subst he
  exact ⟨_, rfl, _, _, _, [], _, [], hW', trodAll_mk1 (shut_bool Tryd.underlying4 _), (trodAll_cons_mk (Below.trod laidOut (by kernel_rfl) (of_decide_eq_true (by kernel_rfl)) k0 bel lt0) trodAll_mk0), rfl, bel.frame _, fun h => by cases h⟩
theorem row_holds : Rows.FnNumbersTextSaid :=
  OpenClaim.holds_of_wide 4 Tryd.f4 rfl rfl rfl rfl rfl rfl rfl ⟨rfl, rfl, rfl, rfl, rfl⟩ rfl rfl rfl rfl rfl (by kernel_rfl) Tryd.func4 (by kernel_rfl)
    (of_decide_eq_true (by kernel_rfl)) (by unfold Func.isWrapper; first | (rw [if_pos (by decide +kernel)]; kernel_rfl) | (rw [if_neg (by decide +kernel)]; exact ⟨rfl, rfl⟩))
    (fun os started H enc _ => lifted os started H enc)
theorem proved : Rows.FnNumbersTextCardSaid :=
  Claim7.holds_tied_plain_at .later [] [.data, .data, .data] true (true, "1dff20485dd9a25b366bc48a10f76cda73420e74273dbb118ba332ff977af7a0") false
    row_holds (fun _ h => by cases h) (by kernel_rfl) (fun _ h => by cases h) fnNumbersText_row_tie rfl ⟨rfl, rfl⟩ (by kernel_rfl) rfl
    (fun f fn hf hfn => by
      obtain rfl : f = 4 := Option.some.inj ((show Tryd.prog.funcNamed "loop.example/historychecker/laws.FnNumbersText" = some 4 by kernel_rfl).symm.trans hf) |>.symm
      obtain rfl : fn = Tryd.f4 := (Option.some.inj (Tryd.func4.symm.trans hfn)).symm
      exact ⟨by kernel_rfl, fun j t ht => by
        rw [Tryd.params4] at ht
        have hm : t ∈ [27] := by simpa using Array.mem_of_getElem? ht
        have hall : ([27].all fun u => !Tryd.prog.wantsStandIn u) = true := by kernel_rfl
        exact (show Tryd.prog.wantsStandIn t = false by simpa using List.all_eq_true.1 hall t hm)⟩)
    (by kernel_rfl)

end Go.Proofs.YtkppbcejhojpiaaDoor.fnNumbersText
