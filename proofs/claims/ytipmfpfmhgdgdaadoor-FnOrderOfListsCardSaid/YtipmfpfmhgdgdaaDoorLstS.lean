/- The reference's l13Count, ListsValid, l21Begins, ListsAgree, LongestList, OrderOfLists. -/
import Derived.Test.YtipmfpfmhgdgdaaDoorLstJ
namespace Go.Proofs.YtipmfpfmhgdgdaaDoor
open Go.RowKit

theorem drewN_two (w : World) (a b : Nat) : (w.drewN a).drewN b = w.drewN (a + b) := by simp [World.drewN, Nat.add_assoc]
set_option maxHeartbeats 1000000 in
theorem l13Count_c {v : Value} {n : Nat} {xs : List Int} {x : Int} {w : World} (hs : SI w v n xs) :
    Calls Tryd.prog 57 #[v, .int .i64 x] w fun e w' => e = .returned (.int .i64 (xs.count x : Nat)) ∧ w = w' := by
  obtain ⟨A, c, rfl, hnc, hn, hr⟩ := hs
  have hl := hide hr.len
  go_enter Tryd.func57, Tryd.ntmps57
  go_wp2_with fail
  go_loop [5, 6] (fun v i => ∃ k : Nat, i = .int .i64 k ∧ k ≤ n ∧ v = .int .i64 ((xs.take k).count x : Nat)) (fun _ i => n - (intOf i).toNat)
  case atStart => exact ⟨0, rfl, Nat.zero_le _, rfl⟩
  case round =>
    obtain ⟨k, rfl, hk, rfl⟩ := hrel
    by_cases hkn : k < n
    · obtain ⟨b, off, y, rfl, hbb, hx, hc⟩ := hr.at_ hkn
      have k0 : (0 : Int) ≤ k := by omega
      have k2 : (k : Int) < n := by omega
      have hcl : (xs.take k).count x ≤ k := by
        have h1 := List.count_le_length (a := x) (l := xs.take k)
        rw [List.length_take] at h1; omega
      have htk : xs.take (k + 1) = xs.take k ++ [y] := by rw [List.take_add_one, hx]; rfl
      obtain ⟨C, hC⟩ : ∃ C, (xs.take k).count x = C := ⟨_, rfl⟩
      by_cases hxy : y = x
      · subst hxy
        have h1 : (xs.take (k + 1)).count y = C + 1 := by rw [htk, List.count_append, hC]; simp
        have H1 := hide h1
        rw [hC] at hcl ⊢
        clear h1 hx htk hC
        go_wp2_with fail
        go_round
        case rel => exact ⟨k + 1, by go_num, by omega, by rw [H1.out]; go_num⟩
        case measure => simp [intOf]; omega
      · have h1 : (xs.take (k + 1)).count x = C := by rw [htk, List.count_append, hC]; simp [hxy]
        have hyb : (y == x) = false := by simpa using hxy
        have H1 := hide h1
        rw [hC] at hcl ⊢
        clear h1 hx htk hC hxy
        go_wp2_with fail
        go_round
        case rel => exact ⟨k + 1, by go_num, by omega, by rw [H1.out]⟩
        case measure => simp [intOf]; omega
    · obtain rfl : k = n := by omega
      have ht : xs.take k = xs := List.take_of_length_le (by rw [hl.out]; omega)
      have HT := hide ht; clear ht
      go_wp2_with fail
      go_ret
      exact ⟨by rw [HT.out]; rfl, rfl⟩
/-- Each of the first k is in 1..99, and comes once in the whole. -/
def CokTo (xs : List Int) (k : Nat) : Prop := ∀ (i : Nat) (x : Int), i < k → xs[i]? = some x → inB x 1 99 = true ∧ xs.count x = 1
theorem CokTo.zero (xs : List Int) : CokTo xs 0 := fun i x h => absurd h (by omega)
theorem CokTo.step {xs : List Int} {k : Nat} {x : Int} (h : CokTo xs k) (hx : xs[k]? = some x) (h1 : inB x 1 99 = true) (h2 : xs.count x = 1) : CokTo xs (k + 1) := fun i y hi hy => by
  by_cases e : i = k
  · subst e; rw [hx] at hy; injection hy with hy; subst hy; exact ⟨h1, h2⟩
  · exact h i y (by omega) hy
theorem CokTo.all {xs : List Int} {k : Nat} (h : CokTo xs k) (hk : xs.length ≤ k) : listB xs = decide (xs.length ≤ 8) := by
  have h1 : (xs.all fun x => inB x 1 99) = true := by
    rw [List.all_eq_true]; intro x hx
    obtain ⟨i, hi, he⟩ := List.mem_iff_getElem.1 hx
    exact (h i x (by omega) (by rw [← he]; exact List.getElem?_eq_getElem hi)).1
  have h2 : xs.Nodup := by
    rw [List.nodup_iff_count]; intro x
    by_cases hx : x ∈ xs
    · obtain ⟨i, hi, he⟩ := List.mem_iff_getElem.1 hx
      rw [(h i x (by omega) (by rw [← he]; exact List.getElem?_eq_getElem hi)).2]; omega
    · rw [List.count_eq_zero_of_not_mem hx]; omega
  unfold listB
  rw [h1, decide_eq_true h2]; rfl
theorem listB_cnt {xs : List Int} {k : Nat} {x : Int} (hx : xs[k]? = some x) (h : xs.count x ≠ 1) : listB xs = false := by
  have : ¬ xs.Nodup := fun hn => by
    have h1 := List.nodup_iff_count.1 hn x
    have h2 := List.count_pos_iff.2 (List.mem_of_getElem? hx)
    omega
  simp [listB, this]
theorem listB_long {xs : List Int} (h : 8 < xs.length) : listB xs = false := by
  have : ¬ xs.length ≤ 8 := by omega
  simp [listB, this]
set_option maxRecDepth 100000 in
set_option maxHeartbeats 8000000 in
theorem spec_ListsValid_c {A : Option Addr} {n c : Nat} {ls : Ls} {w : World} (hr : RL w A n ls) (hn : n ≤ 1048576) :
    Calls Tryd.prog 36 #[.slice A n c] w fun e w' => e = .returned (.bool (listsB ls)) ∧ Below w.heap.size w w' := by
  have hl := hide hr.1
  go_enter Tryd.func36, Tryd.ntmps36
  go_wp2_with fail
  go_loopw [3] (fun i wr => ∃ k : Nat, i = .int .i64 k ∧ k ≤ n ∧ (ls.take k).all listB = true ∧ Below w.heap.size w wr) (fun i _ => n - (intOf i).toNat)
  case atStart => exact ⟨0, rfl, Nat.zero_le _, by simp, Below.refl _ _⟩
  case round =>
    obtain ⟨k, rfl, hk, hall, bw⟩ := hrel
    have HALL := hide hall; have BW := hide bw; clear hall bw
    by_cases hkn : k < n
    · obtain ⟨b, off, xs, B, kk, d, rfl, hbb, hx, q0, hkd, hk1, hri⟩ := hr.at_ hkn
      have s1 : SI w (.slice B kk d) kk xs := ⟨B, d, rfl, hkd, hk1, hri⟩
      have hxl := hide hri.len
      have HX := hide hx; have Q0 := hide q0
      have k0 : (0 : Int) ≤ k := by omega
      have k2 : (k : Int) < n := by omega
      have i1 : decide ((k : Int) < 0) = false := by simp
      have i2 : decide (n ≤ k) = false := by simp; omega
      clear hx q0
      go_wp2_with fail
      go_loopw [4] (fun i wr2 => ∃ j : Nat, i = .int .i64 j ∧ j ≤ kk ∧ CokTo xs j ∧ Below w.heap.size w wr2) (fun i _ => kk - (intOf i).toNat)
      case atStart => exact ⟨0, rfl, Nat.zero_le _, CokTo.zero xs, BW.out⟩
      case round =>
        clear BW
        obtain ⟨j, rfl, hj, hok, bw⟩ := hrel
        rename World => wr2
        have HOK := hide hok; have BW := hide bw; clear hok bw
        have e0 := (BW.out.cell (p := ⟨b, off + k, none⟩) hbb).trans Q0.out
        by_cases hjk : j < kk
        · obtain ⟨b', off', y, rfl, hbb', hy, hc⟩ := hri.at_ hjk
          have c1 := (BW.out.cell (p := ⟨b', off' + j, none⟩) hbb').trans hc
          have HY := hide hy
          have j0 : (0 : Int) ≤ j := by omega
          have j2 : (j : Int) < kk := by omega
          have i3 : decide ((j : Int) < 0) = false := by simp
          have i4 : decide (kk ≤ j) = false := by simp; omega
          have sW := s1.below BW.out
          clear hy hc
          cases hI : inB y 1 99
          · have hf := listsB_bad HX.out (listB_bad_in HY.out hI)
            have F := hide hf; have HI := hide hI; clear hf hI
            go_wp2_with fail
            go_quiet ((go_at_call 56; refine (l1In_c).mono ?_; rintro e w' ⟨rfl, rfl⟩; rw [HI.out]; exact ⟨rfl, _, rfl⟩))
            go_wp2_with fail
            go_ret
            exact ⟨by rw [F.out]; rfl, below_drewN BW.out _⟩
          · have HI := hide hI; clear hI
            by_cases hct : xs.count y = 1
            · have hok := HOK.out.step HY.out HI.out hct
              have HO := hide hok
              have h11 : (((xs.count y : Nat) : Int) != 1) = false := by rw [hct]; rfl
              obtain ⟨C, hC⟩ : ∃ C, xs.count y = C := ⟨_, rfl⟩
              rw [hC] at h11
              have HC := hide hC
              clear hok hct hC
              go_wp2_with fail
              go_quiet ((first | (go_at_call 56; refine (l1In_c).mono ?_; rintro e w' ⟨rfl, rfl⟩; rw [HI.out]; exact ⟨rfl, _, rfl⟩) | (go_at_call 57; refine (l13Count_c (sW.below (below_drewN (Below.refl _ _) _))).mono ?_; rintro e w' ⟨rfl, rfl⟩; rw [HC.out]; exact ⟨rfl, _, rfl⟩)))
              go_wp2_with fail
              go_roundw
              case rel => exact ⟨j + 1, by go_num, by omega, HO.out, below_drewN BW.out _⟩
              case measure => simp [intOf]; omega
            · have hf := listsB_bad HX.out (listB_cnt HY.out hct)
              have F := hide hf
              have h11 : (((xs.count y : Nat) : Int) != 1) = true := by simp; omega
              obtain ⟨C, hC⟩ : ∃ C, xs.count y = C := ⟨_, rfl⟩
              rw [hC] at h11
              have HC := hide hC
              clear hf hct hC
              go_wp2_with fail
              go_quiet ((first | (go_at_call 56; refine (l1In_c).mono ?_; rintro e w' ⟨rfl, rfl⟩; rw [HI.out]; exact ⟨rfl, _, rfl⟩) | (go_at_call 57; refine (l13Count_c (sW.below (below_drewN (Below.refl _ _) _))).mono ?_; rintro e w' ⟨rfl, rfl⟩; rw [HC.out]; exact ⟨rfl, _, rfl⟩)))
              go_wp2_with fail
              go_ret
              exact ⟨by rw [F.out]; rfl, below_drewN BW.out _⟩
        · obtain rfl : j = kk := by omega
          have hlb := HOK.out.all (by rw [hxl.out]; omega)
          rw [hxl.out] at hlb
          by_cases h8 : j ≤ 8
          · rw [decide_eq_true h8] at hlb
            have hal : (ls.take (k + 1)).all listB = true := by rw [List.take_add_one, HX.out, List.all_append, HALL.out]; simp [hlb]
            have HA := hide hal
            have h8' : ¬ ((8 : Int) < j) := by omega
            clear hal hlb
            go_wp2_with fail
            go_roundw
            case rel => exact ⟨k + 1, by go_num, by omega, HA.out, BW.out⟩
            case measure => simp [intOf]; omega
          · rw [decide_eq_false h8] at hlb
            have hf := listsB_bad HX.out hlb
            have F := hide hf
            have h8' : (8 : Int) < j := by omega
            clear hf hlb
            go_wp2_with fail
            go_ret
            exact ⟨by rw [F.out]; rfl, BW.out⟩
    · obtain rfl : k = n := by omega
      have h1 := HALL.out
      rw [List.take_of_length_le (by rw [hl.out]; omega)] at h1
      have hf : listsB ls = decide (k ≤ 8) := by unfold listsB; rw [h1, hl.out]; rfl
      have F := hide hf; clear hf h1
      go_wp2_with fail
      go_ret
      exact ⟨by rw [F.out]; simp [go_sem]; omega, BW.out⟩
theorem preB_len {a b : List Int} (h : b.length < a.length) : preB a b = false := by unfold preB; rw [decide_eq_false_iff_not]; intro x; omega
theorem preB_at {a b : List Int} {k : Nat} {x y : Int} (hx : a[k]? = some x) (hy : b[k]? = some y) (h : x ≠ y) : preB a b = false := by
  unfold preB; rw [decide_eq_false_iff_not]; rintro ⟨h1, h2⟩
  have hk := (List.getElem?_eq_some_iff.1 hx).1
  have h3 : (b.take a.length)[k]? = some y := by rw [List.getElem?_take_of_lt hk]; exact hy
  rw [h2, hx] at h3; injection h3 with h3; exact h h3
set_option maxRecDepth 100000 in
set_option maxHeartbeats 4000000 in
theorem l21Begins_c {u v : Value} {n m : Nat} {xs ys : List Int} {w : World} (hu : SI w u n xs) (hv : SI w v m ys) :
    Calls Tryd.prog 37 #[u, v] w fun e w' => e = .returned (.bool (preB xs ys)) ∧ ∃ q, w' = w.drewN q := by
  obtain ⟨A, c, rfl, _, hn, ha⟩ := hu
  obtain ⟨B, d, rfl, _, hm, hb⟩ := hv
  have hla := hide ha.len
  have hlb := hide hb.len
  go_enter Tryd.func37, Tryd.ntmps37
  go_wp2_with fail
  go_loopw [5] (fun i wr => ∃ k : Nat, i = .int .i64 k ∧ k ≤ n ∧ k ≤ m ∧ xs.take k = ys.take k ∧ ∃ q, wr = w.drewN q) (fun i _ => n - (intOf i).toNat)
  case atStart => exact ⟨0, rfl, Nat.zero_le _, Nat.zero_le _, rfl, 0, rfl⟩
  case round =>
    obtain ⟨k, rfl, hk, hkm, heq, q, rfl⟩ := hrel
    have HE := hide heq; clear heq
    by_cases hkn : k < n
    · obtain ⟨b1, o1, x, rfl, hb1, hx, hc1⟩ := ha.at_ hkn
      have HX := hide hx
      have k0 : (0 : Int) ≤ k := by omega
      have k2 : (k : Int) < n := by omega
      have i1 : decide ((k : Int) < 0) = false := by simp
      have i2 : decide (n ≤ k) = false := by simp; omega
      by_cases hkm2 : k < m
      · obtain ⟨b2, o2, y, rfl, hb2, hy, hc2⟩ := hb.at_ hkm2
        have HY := hide hy
        have k3 : (k : Int) < m := by omega
        have i3 : decide (m ≤ k) = false := by simp; omega
        have i4 : decide ((m : Int) ≤ k) = false := by simp; omega
        clear hx hy
        by_cases hxy : x = y
        · subst hxy
          have hnn2 : (x != x) = false := by simp
          go_wp2_with fail
          go_big_quiet (fail)
          go_wp2_with fail
          go_roundw
          case rel => exact ⟨k + 1, by go_num, by omega, by omega, by rw [List.take_add_one, List.take_add_one, HE.out, HX.out, HY.out], by first | exact ⟨_, rfl⟩ | exact ⟨_, drewN_two _ _ _⟩⟩
          case measure => simp [intOf]; omega
        · have hnn2 : (x != y) = true := by simpa using hxy
          have hf := preB_at HX.out HY.out hxy
          have F := hide hf; clear hf hxy
          go_wp2_with fail
          go_big_quiet (fail)
          go_wp2_with fail
          go_ret
          exact ⟨by rw [F.out]; rfl, by first | exact ⟨_, rfl⟩ | exact ⟨_, drewN_two _ _ _⟩⟩
      · have i3 : decide (m ≤ k) = true := by simp; omega
        have i4 : decide ((m : Int) ≤ k) = true := by simp; omega
        have hf := preB_len (a := xs) (b := ys) (by rw [hla.out, hlb.out]; omega)
        have F := hide hf; clear hf hx hc1
        go_wp2_with fail
        go_big_quiet (fail)
        go_wp2_with fail
        go_ret
        exact ⟨by rw [F.out]; rfl, by first | exact ⟨_, rfl⟩ | exact ⟨_, drewN_two _ _ _⟩⟩
    · obtain rfl : k = n := by omega
      have h1 := HE.out
      rw [List.take_of_length_le (by rw [hla.out]; omega)] at h1
      have hf : preB xs ys = true := by unfold preB; rw [decide_eq_true_eq, hla.out, hlb.out]; exact ⟨hkm, h1.symm⟩
      have F := hide hf; clear hf h1
      go_wp2_with fail
      go_ret
      exact ⟨by rw [F.out]; rfl, _, rfl⟩


end Go.Proofs.YtipmfpfmhgdgdaaDoor
