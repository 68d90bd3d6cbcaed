/- impl.ListsValid, ListsAgree, longest, OrderOfLists, and what they call of the library. -/
import Derived.Test.YtipmfpfmhgdgdaaDoorLstP
import Derived.BigQuiet
import Derived.Deep.RegionHeld3
namespace Go.Proofs.YtipmfpfmhgdgdaaDoor
open Go.RowKit

set_option maxHeartbeats 1000000 in
theorem IndexI_c {v : Value} {n : Nat} {xs : List Int} {x : Int} {w : World} (hs : SI w v n xs) :
    Calls Tryd.prog 68 #[v, .int .i64 x] w fun e w' => ∃ i : Int, e = .returned (.int .i64 i) ∧ decide (0 ≤ i) = decide (x ∈ xs) ∧ Below w.heap.size w w' := by
  obtain ⟨A, c, rfl, hnc, hn, hr⟩ := hs
  have hl := hide hr.len
  go_enter Tryd.func68, Tryd.ntmps68
  go_wp2_with fail
  go_loopw [8] (fun i wr => ∃ k : Nat, i = .int .i64 k ∧ k ≤ n ∧ (x ∉ xs.take k) ∧ Below w.heap.size w wr) (fun i _ => n - (intOf i).toNat)
  case atStart => exact ⟨0, rfl, Nat.zero_le _, by simp, Below.refl _ _⟩
  case round =>
    obtain ⟨k, rfl, hk, hno, bw⟩ := hrel
    have HN := hide hno; have BW := hide bw; clear hno bw
    by_cases hkn : k < n
    · obtain ⟨b, off, y, rfl, hbb, hx, hc⟩ := hr.at_ hkn
      have c1 := (BW.out.cell (p := ⟨b, off + k, none⟩) hbb).trans hc
      have k0 : (0 : Int) ≤ k := by omega
      have k2 : (k : Int) < n := by omega
      have HX := hide hx
      clear hx hc
      by_cases hxy : x = y
      · subst hxy
        have hm : x ∈ xs := List.mem_of_getElem? HX.out
        have HM := hide hm; clear hm
        go_wp2_with fail
        go_ret
        exact ⟨_, rfl, by rw [decide_eq_true HM.out]; simp, BW.out⟩
      · have hxb : (x == y) = false := by simpa using hxy
        have hno2 : x ∉ xs.take (k + 1) := by
          rw [List.take_add_one, HX.out]
          intro h
          rcases List.mem_append.1 h with h | h
          · exact HN.out h
          · simp at h; exact hxy h
        have H2 := hide hno2
        clear hxy hno2
        go_wp2_with fail
        go_roundw
        case rel => exact ⟨k + 1, by go_num, by omega, H2.out, BW.out⟩
        case measure => simp [intOf]; omega
    · obtain rfl : k = n := by omega
      have h1 := HN.out
      rw [List.take_of_length_le (by rw [hl.out]; omega)] at h1
      have H1 := hide h1; clear h1
      go_wp2_with fail
      go_ret
      exact ⟨_, rfl, by rw [decide_eq_false H1.out]; rfl, BW.out⟩
set_option maxHeartbeats 400000 in
theorem ContainsI_c {v : Value} {n : Nat} {xs : List Int} {x : Int} {w : World} (hs : SI w v n xs) :
    Calls Tryd.prog 66 #[v, .int .i64 x] w fun e w' => e = .returned (.bool (decide (x ∈ xs))) ∧ Below w.heap.size w w' := by
  obtain ⟨A, c, rfl, hnc, hn, hr⟩ := hs
  go_enter Tryd.func66, Tryd.ntmps66
  go_wp2_with fail
  refine (IndexI_c ⟨A, c, rfl, hnc, hn, hr⟩).mono ?_
  rintro e w2 ⟨i, rfl, hi, b2⟩
  have Hi := hide hi; clear hi
  go_wp2_with fail
  go_ret
  exact ⟨by rw [← Hi.out]; rfl, b2⟩
theorem sliceL_hi {A : Option Addr} {n c k : Nat} {xs : List Int} {w : World} (hs : SI w (.slice A n c) n xs) (hk : k ≤ n) :
    ∃ A', (∀ w', (Instr.slice 25 (.slice A n c) none (some (.int .i64 (k : Int))) none).run Tryd.prog w' = .ok (.slice A' k c) w') ∧ SI w (.slice A' k c) k (xs.take k) := by
  obtain ⟨A0, c0, e, hnc, hn, hl, hr⟩ := hs
  injection e with e1 e2 e3
  subst e1; subst e3
  obtain ⟨i, hi, hz, hsz, hb⟩ := info_parts intInfo
  refine ⟨if c = 0 then A else A.map (·.add (0 * i.size)), fun w' => ?_, _, _, rfl, by omega, by omega, by simp; omega, fun hk0 => ?_⟩
  · have h2 : k ≤ c := by omega
    simp [Instr.slice, Instr.sliceBounds, Instr.sliceBound, run_underlying Tryd.underlying25, sizeOf, typeInfo, hi, asIntOf, h2]
  · obtain ⟨b, off, rfl, hb', hc⟩ := hr (by omega)
    refine ⟨b, off, ?_, hb', fun j x hj => ?_⟩
    · rw [if_neg (by omega), Nat.zero_mul]; simp [addr_add]
    · rw [List.getElem?_take] at hj
      split at hj
      · exact hc j x hj
      · cases hj
/-- All of the first k lie in 1..99, and none comes twice among them. -/
def LokTo (xs : List Int) (k : Nat) : Prop := ((xs.take k).all fun x => inB x 1 99) = true ∧ (xs.take k).Nodup
theorem LokTo.zero (xs : List Int) : LokTo xs 0 := ⟨by simp, by simp⟩
theorem LokTo.step {xs : List Int} {k : Nat} {x : Int} (h : LokTo xs k) (hx : xs[k]? = some x) (hi : inB x 1 99 = true) (hn : x ∉ xs.take k) : LokTo xs (k + 1) := by
  unfold LokTo
  rw [List.take_add_one, hx]
  refine ⟨by rw [List.all_append, h.1]; simp [hi], ?_⟩
  exact List.nodup_append.2 ⟨h.2, by simp, fun a ha b hb e => by simp at hb; subst hb; subst e; exact hn ha⟩
theorem listB_dup {xs : List Int} {k : Nat} {x : Int} (hx : xs[k]? = some x) (hm : x ∈ xs.take k) : listB xs = false := by
  have : ¬ xs.Nodup := fun h => by
    have hk := (List.getElem?_eq_some_iff.1 hx)
    obtain ⟨hk, hv⟩ := hk
    have h1 : xs = xs.take k ++ x :: xs.drop (k + 1) := by rw [← hv, List.getElem_cons_drop, List.take_append_drop]
    rw [h1] at h
    exact (List.nodup_append.1 h).2.2 _ hm _ (List.mem_cons_self ..) rfl
  simp [listB, this]
set_option maxRecDepth 100000 in
set_option maxHeartbeats 2000000 in
theorem listOk_c {v : Value} {n : Nat} {xs : List Int} {w : World} (hs : SI w v n xs) :
    Calls Tryd.prog 54 #[v] w fun e w' => e = .returned (.bool (listB xs)) ∧ Below w.heap.size w w' := by
  have ss := hs
  obtain ⟨A, c, rfl, hnc, hn, hr⟩ := hs
  have hl := hide hr.len
  by_cases h8 : n ≤ 8
  · have h8' : ¬ ((8 : Int) < n) := by omega
    go_enter Tryd.func54, Tryd.ntmps54
    go_wp2_with fail
    go_loopw [10] (fun i wr => ∃ k : Nat, i = .int .i64 k ∧ k ≤ n ∧ LokTo xs k ∧ Below w.heap.size w wr) (fun i _ => n - (intOf i).toNat)
    case atStart => exact ⟨0, rfl, Nat.zero_le _, LokTo.zero xs, Below.refl _ _⟩
    case round =>
      obtain ⟨k, rfl, hk, hno, bw⟩ := hrel
      have HN := hide hno; have BW := hide bw; clear hno bw
      by_cases hkn : k < n
      · obtain ⟨A', rc, sc⟩ := sliceL_hi ss hk
        obtain ⟨b, off, y, rfl, hbb, hx, hc⟩ := hr.at_ hkn
        have c1 := (BW.out.cell (p := ⟨b, off + k, none⟩) hbb).trans hc
        have k0 : (0 : Int) ≤ k := by omega
        have k2 : (k : Int) < n := by omega
        have HX := hide hx; have HSC := hide sc
        clear hx hc sc
        cases hI : inB y 1 99
        · have hf := listB_bad_in HX.out hI
          have F := hide hf; have HI := hide hI; clear hf hI
          go_wp2_with (go_at_call 63; refine (within_c).mono ?_; rintro e w' ⟨rfl, rfl⟩; rw [HI.out])
          go_ret
          exact ⟨by rw [F.out]; rfl, BW.out⟩
        · have HI := hide hI; clear hI
          by_cases hm : y ∈ xs.take k
          · have hf := listB_dup HX.out hm
            have hd : decide (y ∈ xs.take k) = true := decide_eq_true hm
            have F := hide hf; have HD := hide hd; clear hf hm hd
            go_wp2_with (go_at_call 63; refine (within_c).mono ?_; rintro e w' ⟨rfl, rfl⟩; rw [HI.out])
            refine (ContainsI_c (HSC.out.below BW.out)).mono ?_
            rintro e w2 ⟨rfl, b2⟩
            rw [HD.out]
            go_wp2_with fail
            go_ret
            exact ⟨by rw [F.out]; rfl, below_step BW.out b2⟩
          · have hno2 := HN.out.step HX.out HI.out hm
            have hd : decide (y ∈ xs.take k) = false := decide_eq_false hm
            have H2 := hide hno2; have HD := hide hd; clear hno2 hm hd
            go_wp2_with (go_at_call 63; refine (within_c).mono ?_; rintro e w' ⟨rfl, rfl⟩; rw [HI.out])
            refine (ContainsI_c (HSC.out.below BW.out)).mono ?_
            rintro e w2 ⟨rfl, b2⟩
            rw [HD.out]
            have B2 := below_step BW.out b2
            go_wp2_with fail
            go_roundw
            case rel => exact ⟨k + 1, by go_num, by omega, H2.out, B2⟩
            case measure => simp [intOf]; omega
      · obtain rfl : k = n := by omega
        have h1 := HN.out
        unfold LokTo at h1
        rw [List.take_of_length_le (by rw [hl.out]; omega)] at h1
        have hf : listB xs = true := by unfold listB; rw [h1.1, decide_eq_true h1.2, hl.out, decide_eq_true h8]; rfl
        have F := hide hf; clear h1 hf
        go_wp2_with fail
        go_ret
        exact ⟨by rw [F.out]; rfl, BW.out⟩
  · have h8' : (8 : Int) < n := by omega
    have hf : listB xs = false := by unfold listB; rw [hl.out, decide_eq_false h8]; simp
    have F := hide hf; clear hf
    go_enter Tryd.func54, Tryd.ntmps54
    go_wp2_with fail
    go_ret
    exact ⟨by rw [F.out]; rfl, Below.refl _ _⟩
set_option maxHeartbeats 400000 in
theorem ListsValid_1_c {v : Value} {n : Nat} {xs : List Int} {w : World} (hs : SI w v n xs) :
    Calls Tryd.prog 53 #[v] w fun e w' => e = .returned (.bool (!listB xs)) ∧ Below w.heap.size w w' := by
  obtain ⟨A, c, rfl, hnc, hn, hr⟩ := hs
  go_enter Tryd.func53, Tryd.ntmps53
  go_wp2_with fail
  refine (listOk_c ⟨A, c, rfl, hnc, hn, hr⟩).mono ?_
  rintro e w2 ⟨rfl, b2⟩
  go_wp2_with fail
  go_ret
  exact ⟨rfl, b2⟩
set_option maxHeartbeats 1000000 in
theorem IndexFunc_L_c {A : Option Addr} {n c : Nat} {ls : Ls} {w : World} (hr : RL w A n ls) (hn : n ≤ 1048576) :
    Calls Tryd.prog 65 #[.slice A n c, .func (.func 53) #[] #[]] w fun e w' => ∃ i : Int, e = .returned (.int .i64 i) ∧ (decide (0 ≤ i)) = ls.any (fun e => !listB e) ∧ Below w.heap.size w w' := by
  have hl := hide hr.1
  go_enter Tryd.func65, Tryd.ntmps65
  go_wp2_with fail
  go_loopw [8] (fun i wr => ∃ k : Nat, k ≤ n ∧ i = .int .i64 k ∧ (ls.take k).any (fun e => !listB e) = false ∧ Below w.heap.size w wr) (fun i _ => n - (intOf i).toNat)
  case atStart => exact ⟨0, Nat.zero_le _, rfl, by simp, Below.refl _ _⟩
  case round =>
    obtain ⟨k, hk, rfl, hall, bw⟩ := hrel
    have Hall := hide hall; have BW := hide bw; clear hall bw
    by_cases hlt : k < n
    · obtain ⟨b, off, xs, B, kk, d, rfl, hbb, hx, q0, hkd, hk1, hri⟩ := hr.at_ hlt
      have e0 := (BW.out.cell (p := ⟨b, off + k, none⟩) hbb).trans q0
      have s1 : SI w (.slice B kk d) kk xs := ⟨B, d, rfl, hkd, hk1, hri⟩
      have k0 : (0 : Int) ≤ k := by omega
      have k2 : (k : Int) < n := by omega
      have Hx := hide hx
      clear hx q0 hri
      cases hv : listB xs
      · have Hv := hide hv; clear hv
        have ha : ls.any (fun e => !listB e) = true := List.any_eq_true.2 ⟨xs, List.mem_of_getElem? Hx.out, by simp [Hv.out]⟩
        have HA := hide ha; clear ha
        go_wp2_with fail
        refine (ListsValid_1_c (s1.below BW.out)).mono ?_
        rintro e w2 ⟨rfl, b2⟩
        rw [Hv.out]
        go_wp2_with fail
        go_ret
        exact ⟨_, rfl, by rw [HA.out]; simp, below_step BW.out b2⟩
      · have Hv := hide hv; clear hv
        have ha : (ls.take (k + 1)).any (fun e => !listB e) = false := by rw [List.take_add_one, Hx.out, List.any_append, Hall.out]; simp [Hv.out]
        have HA := hide ha; clear ha
        go_wp2_with fail
        refine (ListsValid_1_c (s1.below BW.out)).mono ?_
        rintro e w2 ⟨rfl, b2⟩
        rw [Hv.out]
        have B2 := below_step BW.out b2
        go_wp2_with fail
        go_roundw
        case rel => exact ⟨k + 1, by omega, by go_num, HA.out, B2⟩
        case measure => simp [intOf]; omega
    · go_wp2_with fail
      go_ret
      obtain rfl : k = n := by omega
      refine ⟨_, rfl, ?_, BW.out⟩
      have h1 := Hall.out
      rw [List.take_of_length_le (by rw [hl.out]; omega)] at h1
      rw [h1]; rfl
theorem not_allL {α : Type} (p : α → Bool) (xs : List α) : xs.all p = !xs.any (fun e => !p e) := by
  rw [Bool.eq_iff_iff]; simp
set_option maxHeartbeats 1000000 in
theorem impl_ListsValid_c {A : Option Addr} {n c : Nat} {ls : Ls} {w : World} (hr : RL w A n ls) (hn : n ≤ 1048576) :
    Calls Tryd.prog 32 #[.slice A n c] w fun e w' => e = .returned (.bool (listsB ls)) ∧ Below w.heap.size w w' := by
  have hl := hide hr.1
  have hC : ∀ {W : World}, RL W A n ls → Calls Tryd.prog 52 #[.slice A n c, .func (.func 53) #[] #[]] W fun e w' => e = .returned (.bool (ls.any (fun e => !listB e))) ∧ Below W.heap.size W w' := fun {W} hW => by
    go_enter Tryd.func52, Tryd.ntmps52
    go_wp2_with fail
    refine (IndexFunc_L_c hW hn).mono ?_
    rintro e w2 ⟨i, rfl, hi, b2⟩
    have Hi := hide hi; clear hi
    go_wp2_with fail
    go_ret
    exact ⟨by rw [← Hi.out]; rfl, b2⟩
  by_cases h8 : n ≤ 8
  · have hf : listsB ls = !(ls.any fun e => !listB e) := by unfold listsB; rw [hl.out, not_allL]; simp [h8]
    have F := hide hf; clear hf
    have hd : (n : Int) ≤ 8 := by omega
    go_enter Tryd.func32, Tryd.ntmps32
    go_wp2_with fail
    refine (hC hr).mono ?_
    rintro e w2 ⟨rfl, b2⟩
    go_wp2_with fail
    go_ret
    exact ⟨by rw [F.out]; rfl, b2⟩
  · have hf : listsB ls = false := by unfold listsB; rw [hl.out]; simp [h8]
    have F := hide hf; clear hf
    have hd : ¬ ((n : Int) ≤ 8) := by omega
    go_enter Tryd.func32, Tryd.ntmps32
    go_wp2_with fail
    go_ret
    exact ⟨by rw [F.out]; rfl, Below.refl _ _⟩
set_option maxHeartbeats 1000000 in
theorem EqualI_c {u v : Value} {n m : Nat} {xs ys : List Int} {w : World} (hu : SI w u n xs) (hv : SI w v m ys) :
    Calls Tryd.prog 55 #[u, v] w fun e w' => e = .returned (.bool (decide (xs = ys))) ∧ Below w.heap.size w w' := by
  obtain ⟨A, c, rfl, _, hn, ha⟩ := hu
  obtain ⟨B, d, rfl, _, hm, hb⟩ := hv
  have hla := hide ha.len
  have hlb := hide hb.len
  by_cases hnm : n = m
  · subst hnm
    have hnn : ((n : Int) != n) = false := by simp
    go_enter Tryd.func55, Tryd.ntmps55
    go_wp2_with fail
    go_loopw [13] (fun i wr => ∃ k : Nat, k ≤ n ∧ i = .int .i64 k ∧ xs.take k = ys.take k ∧ Below w.heap.size w wr) (fun i _ => n - (intOf i).toNat)
    case atStart => exact ⟨0, Nat.zero_le _, rfl, rfl, Below.refl _ _⟩
    case round =>
      obtain ⟨k, hk, rfl, heq, hbel⟩ := hrel
      have Heq := hide heq; clear heq
      by_cases hlt : k < n
      · obtain ⟨b1, o1, x, rfl, hb1, hx, hc1⟩ := ha.at_ hlt
        obtain ⟨b2, o2, y, rfl, hb2, hy, hc2⟩ := hb.at_ hlt
        have Hx := hide hx; clear hx
        have Hy := hide hy; clear hy
        have hd1 : wr.cell? ⟨b1, o1 + k, none⟩ = some (.int .i64 x) := (hbel.cell hb1).trans hc1
        have hd2 : wr.cell? ⟨b2, o2 + k, none⟩ = some (.int .i64 y) := (hbel.cell hb2).trans hc2
        have k0 : (0 : Int) ≤ k := by omega
        have k2 : (k : Int) < n := by omega
        clear hc1 hc2
        by_cases hxy : x = y
        · subst hxy
          have hnn2 : (x != x) = false := by simp
          go_wp2_with fail
          go_quiet (fail)
          go_wp2_with fail
          go_roundw
          case rel => exact ⟨k + 1, by omega, by go_num, by rw [List.take_add_one, List.take_add_one, Heq.out, Hx.out, Hy.out], below_drewN hbel _⟩
          case measure => simp [intOf]; omega
        · have hnn2 : (x != y) = true := by simpa using hxy
          go_wp2_with fail
          go_quiet (fail)
          go_wp2_with fail
          go_ret
          have hne : ¬ xs = ys := by
            intro h; apply hxy; have e := Hx.out; rw [h, Hy.out] at e; injection e with e; exact e.symm
          exact ⟨by rw [decide_eq_false hne]; rfl, below_drewN hbel _⟩
      · go_wp2_with fail
        go_ret
        obtain rfl : k = n := by omega
        have h1 := Heq.out
        rw [List.take_of_length_le (by rw [hla.out]; omega), List.take_of_length_le (by rw [hlb.out]; omega)] at h1
        exact ⟨by rw [decide_eq_true h1]; rfl, hbel⟩
  · have hne : ¬ xs = ys := by
      intro h; apply hnm; rw [← hla.out, ← hlb.out, h]
    have Hne := hide hne; clear hne
    have hnn : ((n : Int) != m) = true := by simp; omega
    go_enter Tryd.func55, Tryd.ntmps55
    go_wp2_with fail
    go_ret
    exact ⟨by rw [decide_eq_false Hne.out]; rfl, Below.refl _ _⟩
set_option maxHeartbeats 2000000 in
theorem begins_c {u v : Value} {n m : Nat} {xs ys : List Int} {w : World} (hu : SI w u n xs) (hv : SI w v m ys) :
    Calls Tryd.prog 33 #[u, v] w fun e w' => e = .returned (.bool (begB xs ys)) ∧ Below w.heap.size w w' := by
  have su := hu; have sv := hv
  obtain ⟨A, c, rfl, _, hn, ha⟩ := hu
  obtain ⟨B, d, rfl, _, hm, hb⟩ := hv
  have hla := ha.len
  have hlb := hb.len
  obtain ⟨k, hk⟩ : ∃ k, min n m = k := ⟨_, rfl⟩
  have hf : begB xs ys = decide (xs.take k = ys.take k) := by unfold begB; rw [hla, hlb, hk]
  have F := hide hf
  have hmin : (if (m : Int) < (n : Int) then (m : Int) else (n : Int)) = (k : Int) := by split <;> omega
  have hmin2 : (if m < n then (m : Int) else (n : Int)) = (k : Int) := by split <;> omega
  obtain ⟨A', r1, s1⟩ := sliceL_hi su (show k ≤ n by omega)
  obtain ⟨B', r2, s2⟩ := sliceL_hi sv (show k ≤ m by omega)
  have BZ := (Below.refl w.heap.size w).drew
  have Hk := hide hk
  clear hf hk hla hlb
  go_enter Tryd.func33, Tryd.ntmps33
  go_wp2_with fail
  go_region_held3 (fun _ => True) (trivial) (first | (go_at_call 55; refine (EqualI_c (s1.below BZ) (s2.below BZ)).mono ?_; rintro e w2 ⟨rfl, b2⟩; have BY := below_step BZ b2; clear BZ; have BZ := BY; clear BY))
  go_wp2_with fail
  go_ret
  exact ⟨by rw [F.out]; rfl, BZ⟩

end Go.Proofs.YtipmfpfmhgdgdaaDoor
