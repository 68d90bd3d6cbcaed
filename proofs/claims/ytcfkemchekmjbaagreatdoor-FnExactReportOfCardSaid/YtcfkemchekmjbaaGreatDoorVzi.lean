/- Merged (what the law reaches): Wv10, Bst, Lvt, RepP, ShelfT. -/
import Derived.Test.YtcfkemchekmjbaaGreatDoorVzh
import Derived.Lib.Strings
import Derived.Shelf.Strings.Builder1
import Derived.Shelf.Small.Bits
import Derived.Shelf.Small.Wraps
import Derived.Shelf.Strconv.Itoa0
import Derived.Shelf.Strconv.Itoa1
import Derived.Shelf.LaysM
import Derived.Shelf.Strconv.Itoa2
import Derived.Shelf.Strconv.Itoa3
import Derived.Shelf.Sort.Plain
import Derived.Shelf.Strings.Prefix
import Derived.Shelf.Slices.Turned
import Derived.Shelf.Slices.Equal
import Derived.Shelf.Slices.Clone
import Derived.Shelf.Slices.SearchI
import Derived.Shelf.Slices.In.SortNone
import Derived.Shelf.SlicesE.Clone
import Derived.Test.YtcfkemchekmjbaaGreatDoorProg
import Derived.Below
namespace Go.Proofs.YtcfkemchekmjbaaGreatDoor
open Go.RowKit
set_option maxRecDepth 100000 in
set_option maxHeartbeats 8000000 in
theorem spec_LevelAllows_c {A Ao : Option Addr} {n c no co lv : Nat} {ts : List Tx} {os : Ls} {w : World} (hr : RTs w A n ts) (hh : histB ts = true) (hsum : (allOps ts).length ≤ 1048576) (hsm : SmallT ts) (ho : RL w Ao no os) (hno : no ≤ 1048576) (h4 : lv ≤ 4) :
    Calls Tryz.prog 171 #[.slice A n c, .slice Ao no co, .int .i64 (lv : Int)] w fun e w' => e = .returned (.bool (ordersB ts os && allowB ts os lv)) ∧ Below w.heap.size w w' := by
  have h6 : n ≤ 6 := by rw [← hr.1]; exact (histB_parts hh).1
  have HE := hide (edgesL_edgesB (os := os) hr.1 h6)
  have HH := hide hh
  have HI := hide (show inB (lv : Int) 0 4 = true from (inB_iff _ _ _).2 (by omega))
  clear hh
  cases hord : ordersB ts os
  · have HO := hide hord; clear hord
    go_enter Tryz.func171, Tryz.ntmps171
    go_wp2_with (go_at_call 194; refine (spec_OrdersValid_c hr HH.out hsum hsm ho hno).mono ?_; rintro e w2 ⟨rfl, b2⟩; rw [HO.out])
    go_ret
    exact ⟨rfl, b2⟩
  · have HO := hide hord; clear hord
    go_enter Tryz.func171, Tryz.ntmps171
    go_upto_region 3 with (first | (go_at_call 194; refine (spec_OrdersValid_c hr HH.out hsum hsm ho hno).mono ?_; rintro e w2 ⟨rfl, b2⟩; rw [HO.out]) | (go_at_call 45; refine (l1In_c).mono ?_; rintro e w' ⟨rfl, rfl⟩; rw [HI.out]))
    have hr2 := hr.below b2
    have ho2 := ho.below b2
    go_wp2_with fail
    refine (spec_EdgesOf_c hr2 HH.out hsum hsm ho2 hno).mono ?_
    rintro e w3 ⟨r3, rfl, o3, b3⟩
    have B3 := hide (below_step b2 b3)
    have S3' := hide o3.s3
    obtain ⟨A3, c3, rfl⟩ := o3.shape
    clear hr2 ho2 b2 b3 o3
    go_wp2_with fail
    go_loopw [8] (fun i W => ∃ k : Nat, i = .int .i64 ((k : Int) + 1) ∧ k ≤ lv ∧ anyTo (edgesL ts os) k = false ∧ Below w.heap.size w W ∧ S3 W (.slice A3 (edgesL ts os).length c3) (edgesL ts os).length (edgesL ts os)) (fun i _ => lv + 1 - (intOf i).toNat)
    case atStart => exact ⟨0, rfl, Nat.zero_le _, rfl, B3.out, S3'.out⟩
    case round =>
      clear B3 S3'
      obtain ⟨k, rfl, hk, hany, bw, s3⟩ := hrel
      rename World => wr
      have HANY := hide hany; have BW := hide bw; have S3' := hide s3
      clear hany bw s3
      by_cases hkl : k < lv
      · have k2 : (k : Int) + 1 ≤ lv := by omega
        have hkk := hide (show ((k : Int) + 1) = ((k + 1 : Nat) : Int) by omega)
        go_wp2_with fail
        rw [hkk.out]
        refine (spec_HasAnomaly_c (k := k + 1) S3'.out HE.out (by omega) (by omega)).mono ?_
        rintro e w5 ⟨rfl, b5⟩
        have B5 := hide (below_step BW.out b5)
        have S5 := hide (S3'.out.below b5)
        cases hab : anomB (edgesL ts os) (k + 1)
        · have hs := hide (show anyTo (edgesL ts os) (k + 1) = false by show (anyTo _ k || _) = false; rw [HANY.out, hab]; rfl)
          clear hab hkk
          go_wp2_with fail
          go_roundw
          case rel => exact ⟨k + 1, by go_num, by omega, hs.out, B5.out, S5.out⟩
          case measure => simp [intOf]; omega
        · have hf := hide (show allowB ts os lv = false by
            unfold allowB
            rw [anyTo_hit hab (by omega)]; rfl)
          clear hab hkk
          go_wp2_with fail
          go_ret
          exact ⟨by first | (rw [hf.out]; rfl) | (rw [Bool.true_and, hf.out]; rfl), B5.out⟩
      · have k2 : ¬ (k : Int) + 1 ≤ lv := by omega
        obtain rfl : lv = k := by omega
        have hal : allowB ts os lv = (decide (lv < 2) || rightB ts) := by unfold allowB; rw [HANY.out]; rfl
        have HAL := hide hal; clear hal
        by_cases h2 : lv < 2
        · have l2 : (lv : Int) < 2 := by omega
          have hf := hide (show allowB ts os lv = true by rw [HAL.out, decide_eq_true h2]; rfl)
          go_wp2_with fail
          go_ret
          exact ⟨by first | (rw [hf.out]; rfl) | (rw [Bool.true_and, hf.out]; rfl), BW.out⟩
        · have l2 : ¬ (lv : Int) < 2 := by omega
          have hf := hide (show allowB ts os lv = rightB ts by rw [HAL.out, decide_eq_false h2]; rfl)
          go_wp2_with (go_at_call 197; refine (spec_ReadsRight_c (hr.below BW.out) HH.out hsum hsm).mono ?_; rintro e w9 ⟨rfl, b9⟩)
          go_ret
          exact ⟨by first | (rw [hf.out]; rfl) | (rw [Bool.true_and, hf.out]; rfl), below_step BW.out b9⟩
theorem lvFrom_yes {ts : List Tx} {os : Ls} {k : Nat} (h : allowB ts os k = true) : lvFrom ts os k = k := by
  cases k with
  | zero => rfl
  | succ k => show (if _ then _ else _) = _; rw [if_pos h]
theorem lvFrom_no {ts : List Tx} {os : Ls} {k : Nat} (h : allowB ts os (k + 1) = false) : lvFrom ts os (k + 1) = lvFrom ts os k := by
  show (if _ then _ else _) = _; rw [if_neg (by rw [h]; decide)]
set_option maxRecDepth 100000 in
set_option maxHeartbeats 4000000 in
theorem spec_LevelOf_c {A Ao : Option Addr} {n c no co : Nat} {ts : List Tx} {os : Ls} {w : World} (hr : RTs w A n ts) (hh : histB ts = true) (hsum : (allOps ts).length ≤ 1048576) (hsm : SmallT ts) (ho : RL w Ao no os) (hno : no ≤ 1048576) :
    Calls Tryz.prog 125 #[.slice A n c, .slice Ao no co] w fun e w' => e = .returned (.int .i64 (levelV ts os)) ∧ Below w.heap.size w w' := by
  go_enter Tryz.func125, Tryz.ntmps125
  go_wp2_with fail
  go_loopw [5] (fun i W => ∃ m : Nat, i = .int .i64 ((m : Int) - 1) ∧ m ≤ 5 ∧ (ordersB ts os = true → 1 ≤ m ∧ lvFrom ts os 4 = lvFrom ts os (m - 1)) ∧ Below w.heap.size w W) (fun i _ => ((intOf i) + 1).toNat)
  case atStart => exact ⟨5, rfl, Nat.le_refl _, fun _ => ⟨by omega, rfl⟩, Below.refl _ _⟩
  case round =>
    obtain ⟨m, rfl, hm5, hlv, bw⟩ := hrel
    rename World => wr
    have HLV := hide hlv; have BW := hide bw
    clear hlv bw
    cases m with
    | zero =>
      have hf : levelV ts os = -1 := by
        unfold levelV
        cases ho : ordersB ts os with
        | false => rfl
        | true => have := (HLV.out ho).1; omega
      have G := hide hf; clear hf
      go_wp2_with fail
      go_ret
      exact ⟨by rw [G.out]; rfl, BW.out⟩
    | succ k =>
      have hkk : ((k + 1 : Nat) : Int) - 1 = (k : Int) := by omega
      rw [hkk]
      have k0 : (k : Int) ≥ 0 := by omega
      clear hkk
      go_wp2_with fail
      refine (spec_LevelAllows_c (lv := k) (hr.below BW.out) hh hsum hsm (ho.below BW.out) hno (by omega)).mono ?_
      rintro e w5 ⟨rfl, b5⟩
      have B5 := hide (below_step BW.out b5)
      cases hal : (ordersB ts os && allowB ts os k)
      · have hst := hide (show ordersB ts os = true → 1 ≤ k ∧ lvFrom ts os 4 = lvFrom ts os (k - 1) from fun ho' => by
          rw [ho', Bool.true_and] at hal
          have h1 := (HLV.out ho').2
          cases k with
          | zero => rw [allowB_zero] at hal; cases hal
          | succ k => exact ⟨by omega, by rw [h1]; exact lvFrom_no hal⟩)
        clear hal
        go_wp2_with fail
        go_roundw
        case rel => exact ⟨k, by go_num, by omega, hst.out, B5.out⟩
        case measure => simp [intOf]
      · have hf : levelV ts os = k := by
          rw [Bool.and_eq_true] at hal
          unfold levelV
          rw [if_pos hal.1, (HLV.out hal.1).2]
          show ((lvFrom ts os k : Nat) : Int) = _
          rw [lvFrom_yes hal.2]
        have G := hide hf
        clear hf hal
        go_wp2_with fail
        go_ret
        exact ⟨by rw [G.out]; rfl, B5.out⟩
set_option maxRecDepth 100000 in
set_option maxHeartbeats 4000000 in
theorem impl_LevelOf_c {A Ao : Option Addr} {n c no co : Nat} {ts : List Tx} {os : Ls} {w : World} (hr : RTs w A n ts) (hh : histB ts = true) (ho : RL w Ao no os) (hno : no ≤ co) :
    Calls Tryz.prog 89 #[.slice A n c, .slice Ao no co] w fun e w' => e = .returned (.int .i64 (levelV ts os)) ∧ Below w.heap.size w w' := by
  have h6 : n ≤ 6 := by rw [← hr.1]; exact (histB_parts hh).1
  have HE := hide (edgesL_edgesB (os := os) hr.1 h6)
  have HH := hide hh
  clear hh
  cases hord : ordersB ts os
  · have HO := hide hord
    have G := hide (show levelV ts os = -1 by unfold levelV; rw [hord]; rfl)
    clear hord
    go_enter Tryz.func89, Tryz.ntmps89
    go_wp2_with fail
    refine (impl_OrdersValid_c hr HH.out ho hno).mono ?_
    rintro e w2 ⟨rfl, b2⟩
    rw [HO.out]
    go_wp2_with fail
    go_ret
    exact ⟨by rw [G.out]; rfl, b2⟩
  · have HO := hide hord
    have G := hide (show levelV ts os = (lvFrom ts os 4 : Nat) by unfold levelV; rw [if_pos hord])
    clear hord
    go_enter Tryz.func89, Tryz.ntmps89
    go_wp2_with fail
    refine (impl_OrdersValid_c hr HH.out ho hno).mono ?_
    rintro e w2 ⟨rfl, b2⟩
    rw [HO.out]
    go_wp2_with fail
    refine (impl_EdgesOf_c (hr.below b2) HH.out (ho.below b2) hno).mono ?_
    rintro e w3 ⟨A', k3, rfl, hk3, r3, b3⟩
    have B3 := hide (below_step b2 b3)
    have s3 := hide (S3.of_args (c := k3) (Nat.le_refl _) (by omega) r3)
    clear b2 b3 r3
    go_wp2_with fail
    go_loopw [6] (fun i W => ∃ m : Nat, i = .int .i64 m ∧ m ≤ 4 ∧ lvFrom ts os 4 = lvFrom ts os m ∧ Below w3.heap.size w3 W) (fun i _ => (intOf i).toNat)
    case atStart => exact ⟨4, rfl, Nat.le_refl _, rfl, Below.refl _ _⟩
    case round =>
      obtain ⟨m, rfl, hm, hlv, bw⟩ := hrel
      rename World => wr
      have HLV := hide hlv; have BW := hide bw; clear hlv bw
      go_wp2_with fail
      refine (allows_c (hr.below (B3.out.trans (BW.out.mono B3.out.size))) HH.out (s3.out.below BW.out) HE.out hm).mono ?_
      rintro e w5 ⟨rfl, b5⟩
      have hal2 : allB ts (edgesL ts os) m = allowB ts os m := rfl
      rw [hal2]
      have B5 := hide (below_step BW.out b5)
      cases hal : allowB ts os m
      · cases m with
        | zero => rw [allowB_zero] at hal; cases hal
        | succ k =>
          have hst := hide (HLV.out.trans (lvFrom_no hal))
          clear hal
          go_wp2_with fail
          go_roundw
          case rel => exact ⟨k, by go_num, by omega, hst.out, B5.out⟩
          case measure => simp [intOf]
      · have hf := hide (show levelV ts os = (m : Int) by rw [G.out, HLV.out, lvFrom_yes hal])
        clear hal
        go_wp2_with fail
        go_ret
        exact ⟨by rw [hf.out]; rfl, B3.out.trans (B5.out.mono B3.out.size)⟩
end Go.Proofs.YtcfkemchekmjbaaGreatDoor

namespace Go.Proofs.YtcfkemchekmjbaaGreatDoor
open Go.RowKit
noncomputable def bestTo (ts : List Tx) (k : Nat) : Int := ((allV ts).take k).foldl (fun b os => max b (levelV ts os)) (-1)
noncomputable def bestV (ts : List Tx) : Int := bestTo ts (allV ts).length
theorem bestTo_succ {ts : List Tx} {k : Nat} {os : Ls} (h : (allV ts)[k]? = some os) : bestTo ts (k + 1) = max (bestTo ts k) (levelV ts os) := by
  unfold bestTo; rw [List.take_add_one, h, List.foldl_append]; rfl
set_option maxRecDepth 100000 in
set_option maxHeartbeats 4000000 in
theorem BestLevel_c {A : Option Addr} {n c : Nat} {ts : List Tx} {w : World} (hr : RTs w A n ts) (hh : histB ts = true) :
    Calls Tryz.prog 30 #[.slice A n c] w fun e w' => e = .returned (.int .i64 (bestV ts)) ∧ Below w.heap.size w w' := by
  have HH := hide hh
  clear hh
  go_enter Tryz.func30, Tryz.ntmps30
  go_wp2_with fail
  refine (AllOrders_c hr HH.out).mono ?_
  rintro e w2 ⟨A2, n2, c2, rfl, hnc, hn2, hrll, b2⟩
  have hlen := hide hrll.1
  have HRLL := hide hrll; have B2 := hide b2
  clear b2 hrll
  go_wp2_with fail
  go_loopw [3, 9] (fun q i W => ∃ k : Nat, q = .int .i64 (bestTo ts k) ∧ i = .int .i64 k ∧ k ≤ n2 ∧ Below w2.heap.size w2 W) (fun _ i _ => n2 - (intOf i).toNat)
  case atStart => exact ⟨0, rfl, rfl, Nat.zero_le _, Below.refl _ _⟩
  case round =>
    obtain ⟨k, rfl, rfl, hk, bw⟩ := hrel
    rename World => wr
    have BW := hide bw; clear bw
    by_cases hkn : k < n2
    · obtain ⟨b, off, os, A', n', c', rfl, hbb, hos, hc, hnc', hrl⟩ := HRLL.out.at_ hkn
      have c1 := (BW.out.cell (p := ⟨b, off + k, none⟩) hbb).trans hc
      have HS := hide (bestTo_succ hos)
      have k2 : (k : Int) < n2 := by omega
      clear hos hc
      go_wp2_with fail
      refine (impl_LevelOf_c (hr.below (below_step B2.out BW.out)) HH.out (hrl.below BW.out) hnc').mono ?_
      rintro e w5 ⟨rfl, b5⟩
      have B5 := hide (below_step BW.out b5)
      clear b5 c1
      go_wp2_with fail
      go_roundw
      case rel => exact ⟨k + 1, by rw [HS.out], by go_num, by omega, B5.out⟩
      case measure => simp [intOf]; omega
    · obtain rfl : n2 = k := by omega
      have hf := hide (show bestV ts = bestTo ts n2 by unfold bestV; rw [hlen.out])
      go_wp2_with fail
      go_ret
      exact ⟨by rw [hf.out]; rfl, below_step B2.out BW.out⟩
set_option maxRecDepth 100000 in
set_option maxHeartbeats 1000000 in
theorem ordersIn_c {A : Option Addr} {n c : Nat} {ts : List Tx} {w : World} (hr : RTs w A n ts) (hn : n ≤ 1048576) (hsm : SmallT ts) :
    Calls Tryz.prog 72 #[.slice A n c] w fun e w' => ∃ v, e = .returned (.tuple #[v, .bool (decide (0 < (allV ts).length))]) ∧ Below w.heap.size w w' := by
  have hall : Calls Tryz.prog 28 #[.slice A n c] w (AllR w (allV ts)) := by
    cases hh : histB ts
    · exact AllOrders_no hr hn hsm hh
    · exact AllOrders_c hr hh
  have HALL := hide hall
  clear hall
  go_enter Tryz.func72, Tryz.ntmps72
  go_wp2_with fail
  refine HALL.out.mono ?_
  rintro e w2 ⟨A2, n2, c2, rfl, hnc, hn2, hrll, b2⟩
  have hl := hide hrll.1
  clear hrll
  go_wp2_with fail
  refine bodyPost_ret (v := .tuple #[.slice A2 n2 c2, .bool (decide (0 < n2))]) (by simp [results, Tryz.results72, go_sem]) rfl ?_
  exact ⟨_, by rw [hl.out], b2⟩
end Go.Proofs.YtcfkemchekmjbaaGreatDoor

namespace Go.Proofs.YtcfkemchekmjbaaGreatDoor
open Go.RowKit
def textV (n : Int) : Value := if n = 0 then (.string ⟨#[110, 111, 110, 101]⟩ : Value) else if n = 1 then (.string ⟨#[119, 114, 105, 116, 101, 115]⟩ : Value) else if n = 2 then (.string ⟨#[102, 108, 111, 119, 115]⟩ : Value) else if n = 3 then (.string ⟨#[115, 105, 110, 103, 108, 101, 115]⟩ : Value) else if n = 4 then (.string ⟨#[97, 108, 108]⟩ : Value) else .string ⟨#[]⟩
set_option maxHeartbeats 4000000 in
theorem spec_LevelText_c {n : Int} {w : World} :
    Calls Tryz.prog 69 #[.int .i64 n] w fun e w' => e = .returned (textV n) ∧ Below w.heap.size w w' := by
  have b1 : ∀ o, Below w.heap.size w (w.alloc o) := fun o => (Below.refl _ _).alloc (Nat.le_refl _) o
  by_cases h : inB n 0 4 = true
  · have h' := (inB_iff _ _ _).1 h
    have hc : n = 0 ∨ n = 1 ∨ n = 2 ∨ n = 3 ∨ n = 4 := by omega
    rcases hc with rfl | rfl | rfl | rfl | rfl
    all_goals
      clear h h'
      go_enter Tryz.func69, Tryz.ntmps69
      go_wp2_with (go_at_call 45; refine (l1In_c).mono ?_; rintro e w' ⟨rfl, rfl⟩)
      go_ret
      exact ⟨by first | rfl | (simp [textV]), b1 _⟩
  · have h' : inB n 0 4 = false := by simpa using h
    have e : textV n = .string ⟨#[]⟩ := by
      have := (inB_not _ _ _).1 h'
      unfold textV
      rw [if_neg (by omega), if_neg (by omega), if_neg (by omega), if_neg (by omega), if_neg (by omega)]
    have E := hide e
    clear e h
    go_enter Tryz.func69, Tryz.ntmps69
    go_wp2_with (go_at_call 45; refine (l1In_c).mono ?_; rintro e w' ⟨rfl, rfl⟩)
    go_ret
    rw [E.out]
    exact ⟨rfl, by first | exact Below.refl _ _ | exact b1 _⟩
set_option maxHeartbeats 4000000 in
theorem impl_LevelText_c {n : Int} {w : World} :
    Calls Tryz.prog 29 #[.int .i64 n] w fun e w' => e = .returned (textV n) ∧ Below w.heap.size w w' := by
  have b1 : ∀ o, Below w.heap.size w (w.alloc o) := fun o => (Below.refl _ _).alloc (Nat.le_refl _) o
  by_cases h : inB n 0 4 = true
  · have h' := (inB_iff _ _ _).1 h
    have hc : n = 0 ∨ n = 1 ∨ n = 2 ∨ n = 3 ∨ n = 4 := by omega
    rcases hc with rfl | rfl | rfl | rfl | rfl
    all_goals
      clear h h'
      go_enter Tryz.func29, Tryz.ntmps29
      go_wp2_with (go_at_call 56; refine (within_c).mono ?_; rintro e w' ⟨rfl, rfl⟩)
      go_ret
      exact ⟨by first | rfl | (simp [textV]), b1 _⟩
  · have h' : inB n 0 4 = false := by simpa using h
    have e : textV n = .string ⟨#[]⟩ := by
      have := (inB_not _ _ _).1 h'
      unfold textV
      rw [if_neg (by omega), if_neg (by omega), if_neg (by omega), if_neg (by omega), if_neg (by omega)]
    have E := hide e
    clear e h
    go_enter Tryz.func29, Tryz.ntmps29
    go_wp2_with (go_at_call 56; refine (within_c).mono ?_; rintro e w' ⟨rfl, rfl⟩)
    go_ret
    rw [E.out]
    exact ⟨rfl, by first | exact Below.refl _ _ | exact b1 _⟩
end Go.Proofs.YtcfkemchekmjbaaGreatDoor

namespace Go.Proofs.YtcfkemchekmjbaaGreatDoor
open Go.RowKit
def sumTo (ts : List Tx) : Nat → Nat
  | 0 => 0
  | k + 1 => sumTo ts k + badN ts ((k + 1 : Nat) : Int)
theorem badN_le (ts : List Tx) (kind : Int) : badN ts kind ≤ 36 := by
  unfold badN
  split
  · rename_i h
    obtain ⟨h6, hv, _⟩ := histB_parts h.1
    have := badAt_le (kind := kind) hv ts.length (Nat.le_refl _)
    omega
  · omega
theorem sumTo_le (ts : List Tx) : ∀ k, sumTo ts k ≤ 36 * k
  | 0 => by simp [sumTo]
  | k + 1 => by have := sumTo_le ts k; have := badN_le ts ((k + 1 : Nat) : Int); simp only [sumTo]; omega
/-- The text of a level. -/
def lvS (n : Int) : ByteArray := if n = 0 then ⟨#[110, 111, 110, 101]⟩ else if n = 1 then ⟨#[119, 114, 105, 116, 101, 115]⟩ else if n = 2 then ⟨#[102, 108, 111, 119, 115]⟩ else if n = 3 then ⟨#[115, 105, 110, 103, 108, 101, 115]⟩ else if n = 4 then ⟨#[97, 108, 108]⟩ else ⟨#[]⟩
theorem textV_s (n : Int) : textV n = .string (lvS n) := by
  unfold textV lvS
  repeat' split
  all_goals rfl
theorem lvS_size (n : Int) : (lvS n).size ≤ 7 := by
  unfold lvS
  repeat' split
  all_goals decide
theorem findF_mem {ts : List Tx} : ∀ (f : Nat) (b r u : List Int), findF ts f b r = some u → ∀ x ∈ u, x ∈ b ∨ x ∈ r
  | 0, b, r, u, h, x, hx => by
    unfold findF at h
    split at h
    · injection h with h; subst h; exact .inl hx
    · cases h
  | f + 1, b, r, u, h, x, hx => by
    unfold findF at h
    split at h
    · split at h
      · injection h with h; subst h; exact .inl hx
      · obtain ⟨k, hk, hu⟩ := List.exists_of_findSome?_eq_some h
        have hk' : k < r.length := by simpa using hk
        rcases findF_mem f _ _ _ hu x hx with h1 | h1
        · rcases List.mem_append.1 h1 with h2 | h2
          · exact .inl h2
          · have h3 : x = r.getD k 0 := by simpa using h2
            rw [h3, List.getD_eq_getElem?_getD, List.getElem?_eq_getElem hk']
            exact .inr (List.getElem_mem hk')
        · exact .inr (List.mem_of_mem_eraseIdx h1)
    · cases h
theorem fstV_num {ts : List Tx} {l : List Int} (h : fstV ts = some l) : numB l = true := by
  unfold fstV at h
  split at h
  · rename_i hh
    rw [srch_fstF ts (doneL_nodup ts)] at h
    have h6 := (histB_parts hh).1
    unfold numB
    rw [List.all_eq_true]
    intro x hx
    rcases findF_mem _ _ _ _ h x hx with h1 | h1
    · simp at h1
    · obtain ⟨j, rfl, hj⟩ := doneTo_lt ts ts.length x h1
      rw [inB_iff]; omega
  · cases h
theorem findF_len {ts : List Tx} : ∀ (f : Nat) (b r u : List Int), findF ts f b r = some u → u.length ≤ b.length + r.length
  | 0, b, r, u, h => by
    unfold findF at h
    split at h
    · injection h with h; subst h; omega
    · cases h
  | f + 1, b, r, u, h => by
    unfold findF at h
    split at h
    · split at h
      · injection h with h; subst h; omega
      · obtain ⟨k, hk, hu⟩ := List.exists_of_findSome?_eq_some h
        have hk' : k < r.length := by simpa using hk
        have := findF_len f _ _ _ hu
        rw [List.length_eraseIdx, if_pos hk'] at this
        simp at this; omega
    · cases h
theorem fstV_len {ts : List Tx} {l : List Int} (h : fstV ts = some l) : l.length ≤ 6 := by
  unfold fstV at h
  split at h
  · rename_i hh
    rw [srch_fstF ts (doneL_nodup ts)] at h
    have h6 := (histB_parts hh).1
    have := findF_len _ _ _ _ h
    have h2 : (doneL ts).length ≤ ts.length := doneTo_len ts ts.length
    simp at this; omega
  · cases h
theorem textL_len {l : List Int} (hn : numB l = true) : (textL l).length ≤ 5 * l.length := by
  have h : (l.take l.length).all (fun x => inB x 0 1000) = true := by rw [List.take_length]; exact hn
  rw [numB_yes h]; exact textTo_len _ h (Nat.le_refl _)
theorem textL_last {l : List Int} (hn : numB l = true) (h0 : l ≠ []) : ∃ a c, textL l = a ++ [c] ∧ c ≠ 32 := by
  have h : (l.take l.length).all (fun x => inB x 0 1000) = true := by rw [List.take_length]; exact hn
  rw [numB_yes h]
  obtain ⟨k, hk⟩ : ∃ k, l.length = k + 1 := ⟨l.length - 1, by have := List.length_pos_iff.2 h0; omega⟩
  have hx : l[k]? = some l[k] := List.getElem?_eq_getElem (by omega)
  have hb : inB l[k] 0 1000 = true := by
    unfold numB at hn
    rw [List.all_eq_true] at hn
    exact hn _ (List.mem_of_getElem? hx)
  rw [inB_iff] at hb
  have h1 := digs_len 3 l[k].toNat (by omega)
  have h2 := digs_no 3 l[k].toNat (by omega)
  have h3 : digs l[k].toNat ≠ [] := fun e => by rw [e] at h1; simp at h1
  rw [hk, textTo_succ hx]
  refine ⟨textTo l k ++ ((if 0 < k then [32] else []) ++ (digs l[k].toNat).dropLast), (digs l[k].toNat).getLast h3, ?_, h2 _ (List.getLast_mem h3)⟩
  rw [List.append_assoc, List.append_assoc, List.dropLast_concat_getLast h3]
theorem trim_no {a : List UInt8} {c : UInt8} (h : c ≠ 32) : Lib.trimSuffix (a ++ [c]) [32] = a ++ [c] := by
  have : Lib.hasSuffix (a ++ [c]) [32] = false := by
    simp [Lib.hasSuffix, List.isSuffixOf, List.isPrefixOf, Ne.symm h]
  unfold Lib.trimSuffix; rw [this]; rfl
/-- The last line of a report. -/
def serB (ts : List Tx) : ByteArray := match fstV ts with
  | none => ⟨#[115, 101, 114, 105, 97, 108, 32, 110, 111, 110, 101]⟩
  | some l => if l = [] then ⟨#[115, 101, 114, 105, 97, 108]⟩ else (⟨#[115, 101, 114, 105, 97, 108, 32]⟩ : ByteArray) ++ str (textL l)
theorem serB_none {ts : List Tx} (h : fstV ts = none) : serB ts = ⟨#[115, 101, 114, 105, 97, 108, 32, 110, 111, 110, 101]⟩ := by unfold serB; rw [h]
theorem serB_nil {ts : List Tx} (h : fstV ts = some []) : serB ts = ⟨#[115, 101, 114, 105, 97, 108]⟩ := by unfold serB; rw [h]; rfl
theorem serB_some {ts : List Tx} {l : List Int} (h : fstV ts = some l) (h0 : l ≠ []) : serB ts = (⟨#[115, 101, 114, 105, 97, 108, 32]⟩ : ByteArray) ++ str (textL l) := by unfold serB; rw [h]; simp only []; rw [if_neg h0]
theorem serB_trim {ts : List Tx} {l : List Int} (h : fstV ts = some l) : (⟨(Lib.trimSuffix ((⟨#[115, 101, 114, 105, 97, 108, 32]⟩ : ByteArray) ++ str (textL l)).data.toList [32]).toArray⟩ : ByteArray) = serB ts := by
  have e : (⟨#[115, 101, 114, 105, 97, 108, 32]⟩ : ByteArray) = str [115, 101, 114, 105, 97, 108, 32] := rfl
  by_cases h0 : l = []
  · subst h0
    rw [serB_nil h]; decide
  · rw [serB_some h h0, e, str_add]
    obtain ⟨a, c, ha, hc⟩ := textL_last (fstV_num h) h0
    show (⟨(Lib.trimSuffix ([115, 101, 114, 105, 97, 108, 32] ++ textL l) [32]).toArray⟩ : ByteArray) = _
    rw [ha, ← List.append_assoc, trim_no hc]; rfl
/-- A report. -/
noncomputable def repL (ts : List Tx) : List ByteArray := if 0 < (allV ts).length then [(⟨#[100, 111, 110, 101, 32]⟩ : ByteArray) ++ str (digs (doneL ts).length), (⟨#[98, 97, 100, 32]⟩ : ByteArray) ++ str (digs (sumTo ts 4)), (⟨#[108, 101, 118, 101, 108, 32]⟩ : ByteArray) ++ lvS (bestV ts), serB ts] else []
theorem allV_hist {ts : List Tx} (h : 0 < (allV ts).length) : histB ts = true := by
  cases hv : histB ts
  · unfold allV at h; rw [hv] at h; simp at h
  · rfl
/-- A row of texts. -/
def RS (w : World) (lo : Nat) (v : Value) (ss : List ByteArray) : Prop := w.ownsRow lo 9 1 v ss.length (ss.map Value.string)
end Go.Proofs.YtcfkemchekmjbaaGreatDoor

namespace Go.Proofs.YtcfkemchekmjbaaGreatDoor
open Go.Shelf Go.RowKit Go.Sort Go.Lib
def lays169_ren : Go.Shelf.Ren := ⟨fun | 169 => 137 | n => n, fun | 70 => 163 | 9 => 9 | 0 => 0 | 72 => 165 | 37 => 22 | 127 => 198 | 3 => 3 | 5 => 5 | n => n, fun | n => n⟩
theorem lays169 : Go.Proofs.Lays.n169 Tryz.prog lays169_ren := {
  mixed := by kernel_rfl
  f169 := Tryz.func137.trans (congrArg some (by kernel_rfl))
  t0 := Tryz.underlying0
  a0 := Tryz.isAgg0
  z0 := Tryz.sizeOf0
  v0 := Tryz.zeroValue0
  t3 := Tryz.underlying3
  a3 := Tryz.isAgg3
  z3 := Tryz.sizeOf3
  v3 := Tryz.zeroValue3
  t9 := Tryz.underlying9
  a9 := Tryz.isAgg9
  z9 := Tryz.sizeOf9
  v9 := Tryz.zeroValue9
  t37 := Tryz.underlying22
  a37 := Tryz.isAgg22
  z37 := Tryz.sizeOf22
  v37 := Tryz.zeroValue22
  t70 := Tryz.underlying163
  a70 := Tryz.isAgg163
  z70 := Tryz.sizeOf163
  v70 := Tryz.zeroValue163
  t72 := Tryz.underlying165
  a72 := Tryz.isAgg165
  z72 := Tryz.sizeOf165
  v72 := Tryz.zeroValue165
  t127 := Tryz.underlying198
  a127 := Tryz.isAgg198
  z127 := Tryz.sizeOf198
  v127 := Tryz.zeroValue198 }
theorem Builder_Extra_169 : Builder.Extra Tryz.prog lays169_ren := {
  sizeBuilder := by kernel_rfl
  liesBuilder := by kernel_rfl
  t5 := Tryz.underlying5
  a5 := Tryz.isAgg5
  z5 := Tryz.sizeOf5
  v5 := Tryz.zeroValue5
  infoByte := by kernel_rfl
  cellsByte := by kernel_rfl
  sizeByte := by kernel_rfl
  neB5 := by decide }
theorem Builder_String_any (B b : Nat) (l : List UInt8) (w : World) (h : Lib.IsBuilder 165 5 B b (Lib.byteCells l) w) (hBw : B ≤ w.heap.size) :
    Calls Tryz.prog 137 #[.pointer (some ⟨b, 0, none⟩)] w fun e w' => e = .returned (.string ⟨l.toArray⟩) ∧ Below B w w' := Any.Builder_String_any lays169 Builder_Extra_169 B b l w h hBw
def laysM171_ren : Go.Shelf.Ren := ⟨fun | 171 => 78 | 243 => 138 | 246 => 179 | 283 => 200 | 284 => 201 | 285 => 202 | 286 => 203 | 129 => 214 | 317 => 234 | 318 => 235 | 319 => 236 | 320 => 237 | 337 => 247 | 338 => 248 | n => n, fun | 3 => 3 | 9 => 9 | 2 => 2 | 4 => 4 | 171 => 215 | 0 => 0 | 53 => 216 | 37 => 22 | 5 => 5 | 173 => 219 | 212 => 241 | 51 => 229 | 20 => 20 | 213 => 242 | 46 => 86 | 232 => 256 | 233 => 257 | n => n, fun | 17 => 0 | 18 => 1 | 19 => 2 | n => n⟩
theorem laysM171 : Go.Proofs.LaysM.n171 Tryz.prog laysM171_ren := {
  mixed := by kernel_rfl
  f129 := Tryz.func214.trans (congrArg some (by kernel_rfl))
  f171 := Tryz.func78.trans (congrArg some (by kernel_rfl))
  f243 := Tryz.func138.trans (congrArg some (by kernel_rfl))
  f246 := Tryz.func179.trans (congrArg some (by kernel_rfl))
  f283 := Tryz.func200.trans (congrArg some (by kernel_rfl))
  f284 := Tryz.func201.trans (congrArg some (by kernel_rfl))
  f285 := Tryz.func202.trans (congrArg some (by kernel_rfl))
  f286 := Tryz.func203.trans (congrArg some (by kernel_rfl))
  f317 := Tryz.func234.trans (congrArg some (by kernel_rfl))
  f318 := Tryz.func235.trans (congrArg some (by kernel_rfl))
  f319 := Tryz.func236.trans (congrArg some (by kernel_rfl))
  f320 := Tryz.func237.trans (congrArg some (by kernel_rfl))
  f337 := Tryz.func247.trans (congrArg some (by kernel_rfl))
  f338 := Tryz.func248.trans (congrArg some (by kernel_rfl))
  t0 := Tryz.underlying0
  a0 := Tryz.isAgg0
  z0 := Tryz.sizeOf0
  v0 := Tryz.zeroValue0
  t2 := Tryz.underlying2
  a2 := Tryz.isAgg2
  z2 := Tryz.sizeOf2
  v2 := Tryz.zeroValue2
  t3 := Tryz.underlying3
  a3 := Tryz.isAgg3
  z3 := Tryz.sizeOf3
  v3 := Tryz.zeroValue3
  t4 := Tryz.underlying4
  a4 := Tryz.isAgg4
  z4 := Tryz.sizeOf4
  v4 := Tryz.zeroValue4
  t5 := Tryz.underlying5
  a5 := Tryz.isAgg5
  z5 := Tryz.sizeOf5
  v5 := Tryz.zeroValue5
  t9 := Tryz.underlying9
  a9 := Tryz.isAgg9
  z9 := Tryz.sizeOf9
  v9 := Tryz.zeroValue9
  t20 := Tryz.underlying20
  a20 := Tryz.isAgg20
  z20 := Tryz.sizeOf20
  v20 := Tryz.zeroValue20
  t37 := Tryz.underlying22
  a37 := Tryz.isAgg22
  z37 := Tryz.sizeOf22
  v37 := Tryz.zeroValue22
  t46 := Tryz.underlying86
  a46 := Tryz.isAgg86
  z46 := Tryz.sizeOf86
  v46 := Tryz.zeroValue86
  t51 := Tryz.underlying229
  a51 := Tryz.isAgg229
  z51 := Tryz.sizeOf229
  v51 := Tryz.zeroValue229
  t53 := Tryz.underlying216
  a53 := Tryz.isAgg216
  z53 := Tryz.sizeOf216
  v53 := Tryz.zeroValue216
  t171 := Tryz.underlying215
  a171 := Tryz.isAgg215
  z171 := Tryz.sizeOf215
  v171 := Tryz.zeroValue215
  t173 := Tryz.underlying219
  a173 := Tryz.isAgg219
  z173 := Tryz.sizeOf219
  v173 := Tryz.zeroValue219
  t212 := Tryz.underlying241
  a212 := Tryz.isAgg241
  z212 := Tryz.sizeOf241
  v212 := Tryz.zeroValue241
  t213 := Tryz.underlying242
  a213 := Tryz.isAgg242
  z213 := Tryz.sizeOf242
  t232 := Tryz.underlying256
  a232 := Tryz.isAgg256
  z232 := Tryz.sizeOf256
  v232 := Tryz.zeroValue256
  t233 := Tryz.underlying257
  a233 := Tryz.isAgg257
  z233 := Tryz.sizeOf257
  v233 := Tryz.zeroValue257
  g17 := by kernel_rfl
  g18 := by kernel_rfl
  g19 := by kernel_rfl
  i0 := by kernel_rfl
  i2 := by kernel_rfl
  i3 := by kernel_rfl
  i4 := by kernel_rfl
  i5 := by kernel_rfl
  i9 := by kernel_rfl
  i20 := by kernel_rfl
  i37 := by kernel_rfl
  i46 := by kernel_rfl
  i51 := by kernel_rfl
  i53 := by kernel_rfl
  i171 := by kernel_rfl
  i173 := by kernel_rfl
  i212 := by kernel_rfl
  i232 := by kernel_rfl
  i233 := by kernel_rfl
  m17 := by kernel_rfl
  m18 := by kernel_rfl
  m19 := by kernel_rfl }
theorem strconv_Itoa (n : Int) (h0 : -9223372036854775808 ≤ n) (h1 : n ≤ 9223372036854775807) (w : World) (htab : Lib.TabIs Tryz.prog w "internal/strconv.uint64pow10" .u64 Lib.pow10Tab) :
    Calls Tryz.prog 78 #[.int .i64 n] w fun e w' => e = .returned (.string ⟨(Lib.itoa n).toArray⟩) ∧ ∃ k os, w' = grow (w.drewN k) os := Any.strconv_Itoa laysM171 n h0 h1 w htab
def lays102_ren : Go.Shelf.Ren := ⟨fun | 102 => 76 | 209 => 131 | 207 => 176 | n => n, fun | 9 => 9 | 4 => 4 | 3 => 3 | n => n, fun | n => n⟩
theorem lays102 : Go.Proofs.Lays.n102 Tryz.prog lays102_ren := {
  mixed := by kernel_rfl
  f102 := Tryz.func76.trans (congrArg some (by kernel_rfl))
  f207 := Tryz.func176.trans (congrArg some (by kernel_rfl))
  f209 := Tryz.func131.trans (congrArg some (by kernel_rfl))
  t3 := Tryz.underlying3
  a3 := Tryz.isAgg3
  z3 := Tryz.sizeOf3
  v3 := Tryz.zeroValue3
  t4 := Tryz.underlying4
  a4 := Tryz.isAgg4
  z4 := Tryz.sizeOf4
  v4 := Tryz.zeroValue4
  t9 := Tryz.underlying9
  a9 := Tryz.isAgg9
  z9 := Tryz.sizeOf9
  v9 := Tryz.zeroValue9 }
theorem strings_TrimSuffix (s p : ByteArray) (w : World) (hs : s.size ≤ 9223372036854775807) :
    Calls Tryz.prog 76 #[.string s, .string p] w fun e w' => e = .returned (.string ⟨(Lib.trimSuffix s.data.toList p.data.toList).toArray⟩) ∧ w' = w := Any.strings_TrimSuffix lays102 s p w hs
end Go.Proofs.YtcfkemchekmjbaaGreatDoor
