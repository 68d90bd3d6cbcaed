/- spec.DeliverOrder. -/
import Derived.Test.YtopjdidigfdhbaaDoorDeliverQ
namespace Go.Proofs.YtopjdidigfdhbaaDoor
open Go.RowKit

set_option maxRecDepth 100000 in
set_option maxHeartbeats 1000000 in
theorem spec_DeliverOrder_bad {A : Option Addr} {n c : Nat} {ms : Ms} {w : World} (hr : RM w A n ms) (hn : n ≤ 1048576) (hsm : Small ms) (hv : mvB ms = false) :
    Calls Tryd.prog 33 #[.slice A n c] w (RetI w (natsI (dlvL ms))) := by
  have hl := hide hr.1
  have hmk := make4'
  have hmb := run_make_bools n hn
  have hf : natsI (dlvL ms) = [] := by simp [dlvL, hv, natsI]
  have F := hide hf; have V := hide hv; clear hf hv
  have o0 := (((OI.empty w).alloc (.cells #[.int .i64 0, .int .i64 0, .int .i64 0, .int .i64 0] 3)).alloc (.cells (doneC n []) 4))
  have b0 : Below w.heap.size w (((w.alloc (.cells #[] 3)).alloc (.cells #[.int .i64 0, .int .i64 0, .int .i64 0, .int .i64 0] 3)).alloc (.cells (doneC n []) 4)) := (((Below.refl _ _).alloc (Nat.le_refl _) _).alloc (by simp) _).alloc (by simp; omega) _
  go_enter Tryd.func33, Tryd.ntmps33
  go_wp2_with fail
  go_loopw [3, 6] (fun s i wr => s = .slice (some ⟨w.heap.size, 0, none⟩) 0 0 ∧ i = .int .i64 0 ∧ OI wr w.heap.size (.slice (some ⟨w.heap.size, 0, none⟩) 0 0) 0 [] ∧ Below w.heap.size w wr) (fun _ _ _ => 0)
  case atStart => exact ⟨rfl, rfl, o0, b0⟩
  case round =>
    obtain ⟨rfl, rfl, ho, hbel⟩ := hrel
    clear o0 b0
    by_cases h0 : n = 0
    · subst h0
      go_wp2_with fail
      go_ret
      exact ⟨_, 0, rfl, by rw [F.out]; exact ho, hbel⟩
    · have h1 : 0 < n := by omega
      go_wp2_with fail
      refine (spec_MessagesValid_c (hr.below hbel) hn hsm).mono ?_
      rintro e w2 ⟨rfl, b2⟩
      rw [V.out]
      go_wp2_with fail
      go_ret
      exact ⟨_, 0, rfl, by rw [F.out]; exact ho.below b2, below_step hbel b2⟩

set_option maxRecDepth 100000 in
set_option maxHeartbeats 1000000 in
theorem spec_DeliverOrder_good {A : Option Addr} {n c : Nat} {ms : Ms} {w : World} (hr : RM w A n ms) (hn : n ≤ 1048576) (hsm : Small ms) (hv : mvB ms = true) :
    Calls Tryd.prog 33 #[.slice A n c] w (RetI w (natsI (dlvL ms))) := by
  have hl := hide hr.1
  have hmk := make4'
  have hmb := run_make_bools n hn
  have hf : natsI (dlvL ms) = natsI (runD ms ms.length []) := by simp [dlvL, hv]
  have hmp : MvTo ms ms.length ∧ ms.length ≤ 12 := by simpa [mvB] using hv
  have hn12 : n ≤ 12 := by rw [← hl.out]; exact hmp.2
  have Hmp := hide hmp
  have F := hide hf; have V := hide hv; clear hf hv hmp
  have o0 := (((OI.empty w).alloc (.cells #[.int .i64 0, .int .i64 0, .int .i64 0, .int .i64 0] 3)).alloc (.cells (doneC n []) 4))
  have s0 : OI (((w.alloc (.cells #[] 3)).alloc (.cells #[.int .i64 0, .int .i64 0, .int .i64 0, .int .i64 0] 3)).alloc (.cells (doneC n []) 4)) w.heap.size (.slice (some ⟨w.heap.size + 1, 0, none⟩) 4 4) 4 (seenV ms []) := by
    have := ((own4' (w.alloc (.cells #[] 3))).alloc (.cells (doneC n []) 4)).mono (B' := w.heap.size) (by simp)
    rw [seenV_nil]; simpa using this
  have k0 : Blk (((w.alloc (.cells #[] 3)).alloc (.cells #[.int .i64 0, .int .i64 0, .int .i64 0, .int .i64 0] 3)).alloc (.cells (doneC n []) 4)) (w.heap.size + 1 + 1) 4 (doneC n []) := by
    have := Blk.new ((w.alloc (.cells #[] 3)).alloc (.cells #[.int .i64 0, .int .i64 0, .int .i64 0, .int .i64 0] 3)) 4 (doneC n [])
    simpa using this
  have b0 : Below w.heap.size w (((w.alloc (.cells #[] 3)).alloc (.cells #[.int .i64 0, .int .i64 0, .int .i64 0, .int .i64 0] 3)).alloc (.cells (doneC n []) 4)) := (((Below.refl _ _).alloc (Nat.le_refl _) _).alloc (by simp) _).alloc (by simp; omega) _
  go_enter Tryd.func33, Tryd.ntmps33
  go_wp2_with fail
  go_loopw [3, 6] (fun s i wr => ∃ (k : Nat) (os : List Nat), i = .int .i64 k ∧ k ≤ n ∧ AtD ms os ∧ (∀ j, j < k → canB ms os j = false) ∧ OI wr w.heap.size s os.length (natsI os) ∧ OI wr w.heap.size (.slice (some ⟨w.heap.size + 1, 0, none⟩) 4 4) 4 (seenV ms os) ∧ Blk wr (w.heap.size + 1 + 1) 4 (doneC n os) ∧ s.ownBlock ≠ some (w.heap.size + 1) ∧ Below w.heap.size w wr) (fun s i _ => (n - slen s) * (n + 2) + (n - (intOf i).toNat))
  case atStart => exact ⟨0, [], rfl, Nat.zero_le _, AtD.zero ms, fun j h => absurd h (by omega), o0, s0, k0, by simp [Value.ownBlock], b0⟩
  case round =>
    obtain ⟨k, os, rfl, hk, hat, hno, ho, hs, KD, hap, hbel⟩ := hrel
    clear o0 s0 k0 b0
    have Hat := hide hat; have Hno := hide hno; clear hat hno
    obtain ⟨Ao, co, rfl⟩ := ho.shape
    have hap2 := hide hap; clear hap
    by_cases hkn : k < n
    · obtain ⟨b, off, f, ys, B, kk, d, rfl, hbb, hx, q0, q1, hkd, hdm, hri⟩ := hr.at_ hkn
      have hok := (Hmp.out.1 k (by rw [hl.out]; exact hkn)).1
      have hax := atM_get hx
      rw [hax] at hok
      unfold msgOk at hok
      simp only [Bool.and_eq_true] at hok
      obtain ⟨hF, hY, _⟩ := hok
      obtain ⟨f, rfl⟩ : ∃ g : Nat, f = g := ⟨f.toNat, by have := (inB_iff _ _ _).1 hF; omega⟩
      have hf4 : f < 4 := by have := (inB_iff _ _ _).1 hF; omega
      obtain rfl : kk = 4 := by rw [← hri.len]; exact ((clockB_iff _).1 hY).1
      have Hax := hide hax
      have Hx := hide hx; have Hri := hide hri
      clear hx hF hY hax hri
      have h0k : (0 : Int) ≤ k := by omega
      have h1k : (k : Int) < n := by omega
      go_wp2_with fail
      refine (spec_MessagesValid_c (hr.below hbel) hn hsm).mono ?_
      rintro e w2 ⟨rfl, b2⟩
      rw [V.out]
      have B2 := below_step hbel b2
      replace ho := ho.below b2
      replace hs := hs.below b2
      replace KD := KD.belowAll b2
      have e0 := (B2.cell (p := ⟨b, off + k * 2, none⟩) hbb).trans q0
      have e1 := (B2.cell (p := ⟨b, off + k * 2 + 1, none⟩) hbb).trans q1
      have hdk := (KD.cell k).trans (doneC_get hkn)
      clear q0 q1
      cases hc : os.contains k
      · rw [hc] at hdk
        have s2 : SI w2 (.slice B 4 d) 4 ys := SI.of_args hkd (by omega) (Hri.out.below B2)
        have hcan := canB_eq hc Hax.out
        have HC := hide hcan; have Hc := hide hc; clear hcan hc
        cases hm : mayB (seenV ms os) (f : Int) ys
        · have hcf : canB ms os k = false := by rw [HC.out, hm]
          have HM := hide hm; have Hcf := hide hcf; clear hm hcf
          go_wp2_with fail
          refine (spec_MayDeliver_c hs.si s2).mono ?_
          rintro e w3 ⟨rfl, b3⟩
          rw [HM.out]
          go_wp2_with fail
          go_roundw
          case rel => exact ⟨k + 1, os, by go_num, by omega, Hat.out, less_step Hno.out Hcf.out rfl, ho.below b3, hs.below b3, KD.belowAll b3, hap2.out, below_step B2 b3⟩
          case measure => simp [intOf, slen]; omega
        · have hcf : canB ms os k = true := by rw [HC.out, hm]
          have HM := hide hm; have Hcf := hide hcf; clear hm hcf
          have hat2 := Hat.out.step (show k < ms.length by rw [hl.out]; exact hkn) Hcf.out Hno.out
          have Hat2 := hide hat2; clear hat2
          go_wp2_with fail
          refine (spec_MayDeliver_c hs.si s2).mono ?_
          rintro e w3 ⟨rfl, b3⟩
          rw [HM.out]
          have B3 := below_step B2 b3
          replace ho := ho.below b3
          replace hs := hs.below b3
          replace KD := KD.belowAll b3
          have hdk3 := (KD.cell k).trans (doneC_get hkn)
          have hfk3 := KD.frozen k
          obtain ⟨sv, hsv, hsc⟩ := hs.cell f hf4
          have hsf := hs.free f
          have hsb := seenV_bd ms os (List.mem_of_getElem? hsv)
          have hlo := Hat.out.len
          have y0 : 0 ≤ sv := hsb.1
          have y1 : sv ≤ 12 := by have := hl.out; omega
          have e3 := (b3.cell (p := ⟨b, off + k * 2, none⟩) (Nat.lt_of_lt_of_le hbb B2.size)).trans e0
          have Hsv := hide hsv
          clear e0 e1 hdk hsb hsv s2
          go_wp2_with fail
          have ho4 := ((ho.set_ne (p := ⟨w.heap.size + 1 + 1, k, none⟩) (ho.ne_blk KD (by decide)) (.bool true)).set_ne (p := ⟨w.heap.size + 1, f, none⟩) hap2.out (.int .i64 (sv + 1))).alloc (.cells #[.int .i64 (k : Int)] 3)
          have hs4 := ((hs.set_ne (p := ⟨w.heap.size + 1 + 1, k, none⟩) (by simp [Value.ownBlock]) (.bool true)).store f (sv + 1)).alloc (.cells #[.int .i64 (k : Int)] 3)
          have KD4 := ((KD.set_ k (.bool true)).far (p := ⟨w.heap.size + 1, f, none⟩) (by simp) (.int .i64 (sv + 1))).alloc (.cells #[.int .i64 (k : Int)] 3)
          rw [doneC_set] at KD4
          replace ho4 := ho4.drew; replace hs4 := hs4.drew; replace KD4 := KD4.drew
          have hlt3 := KD.lt
          have B4 := (((B3.setCell (p := ⟨w.heap.size + 1 + 1, k, none⟩) (by show w.heap.size ≤ w.heap.size + 1 + 1; omega) (.bool true)).setCell (p := ⟨w.heap.size + 1, f, none⟩) (by show w.heap.size ≤ w.heap.size + 1; omega) (.int .i64 (sv + 1)))).alloc (by simp [World.setCell]; omega) (.cells #[.int .i64 (k : Int)] 3)
          replace B4 := B4.drew
          have so4 := (SI.one ((w3.setCell ⟨w.heap.size + 1 + 1, k, none⟩ (.bool true)).setCell ⟨w.heap.size + 1, f, none⟩ (.int .i64 (sv + 1))) (k : Int) 1 (Nat.le_refl _)).drew
          rw [size_setCell, size_setCell] at so4
          have f4 : (f : Int) < 4 := by omega
          have f0 : (0 : Int) ≤ f := by omega
          have hol : os.length + 1 ≤ 1048576 := by have := hl.out; omega
          have Hol := hide hlo
          clear hlo
          go_region
          go_wp2_with (at_builtin; refine wpList_appI rfl _ _ rfl rfl ho4 rfl so4 hol B4.size ?_; intro v1 w4 h4 hg4 hat; obtain ⟨A1, c1, rfl⟩ := h4.shape)
          go_roundw
          case rel =>
            refine ⟨0, os ++ [k], by simp, Nat.zero_le _, Hat2.out, fun j h => absurd h (by omega), ?_, ?_, KD4.grown hg4 (fun e => ho4.ne_blk KD4 (by decide) e.symm), ?_, below_app B4 ho4 (Nat.le_refl _) hg4⟩
            · rw [natsI_snoc, List.length_append]; exact h4
            · rw [seenV_snoc (f := f) (by rw [Hax.out])]
              have : (seenV ms os).getD f 0 = sv := by simp [List.getD, Hsv.out]
              rw [this]
              exact hs4.grown hg4 (.inr (fun e => hap2.out e.symm))
            · rcases hat with h | h
              · rw [h]; exact hap2.out
              · rw [h]; simp [World.setCell]; omega
          case measure => simp only [slen, intOf]; exact measD rfl (by have := Hat2.out.len; have := hl.out; simp at *; omega) hk (by simp)
      · rw [hc] at hdk
        have hcf := canB_old (ms := ms) hc
        have Hcf := hide hcf; clear hc hcf
        go_wp2_with fail
        go_roundw
        case rel => exact ⟨k + 1, os, by go_num, by omega, Hat.out, less_step Hno.out Hcf.out rfl, ho, hs, KD, hap2.out, B2⟩
        case measure => simp [intOf, slen]; omega
    · obtain rfl : k = n := by omega
      have he := Hat.out.fin (fun j hj => Hno.out j (by rw [hl.out] at hj; exact hj))
      have HE := hide he; clear he
      go_wp2_with fail
      go_ret
      exact ⟨_, os.length, rfl, by rw [F.out, ← HE.out]; exact ho, hbel⟩

theorem spec_DeliverOrder_c {A : Option Addr} {n c : Nat} {ms : Ms} {w : World} (hr : RM w A n ms) (hn : n ≤ 1048576) (hsm : Small ms) :
    Calls Tryd.prog 33 #[.slice A n c] w (RetI w (natsI (dlvL ms))) := by
  cases hv : mvB ms
  · exact spec_DeliverOrder_bad hr hn hsm hv
  · exact spec_DeliverOrder_good hr hn hsm hv

end Go.Proofs.YtopjdidigfdhbaaDoor
