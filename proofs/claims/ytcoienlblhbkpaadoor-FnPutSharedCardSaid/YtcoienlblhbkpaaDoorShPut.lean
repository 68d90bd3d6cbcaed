/- l30Put: a number put into a sorted list. -/
import Derived.Test.YtcoienlblhbkpaaDoorShr
import Derived.Test.YtcoienlblhbkpaaDoorApp
import Derived.Test.YtcoienlblhbkpaaDoorShO
import Derived.Deep.RegionLaw
namespace Go.Proofs.YtcoienlblhbkpaaDoor
open Go.RowKit

theorem slice_hi {A : Option Addr} {n c k : Nat} {xs : List Int} {w : World} (hs : SI w (.slice A n c) n xs) (hk : k ≤ n) :
    ∃ A', (∀ w', (Instr.slice 22 (.slice A n c) none (some (.int .i64 (k : Int))) none).run Tryd.prog w' = .ok (.slice A' k c) w') ∧ SI w (.slice A' k c) k (xs.take k) := by
  obtain ⟨A0, c0, e, hnc, hn, hl, hr⟩ := hs
  injection e with e1 e2 e3
  subst e1; subst e3
  obtain ⟨i, hi, hz, hsz, hb⟩ := info_parts intInfo
  refine ⟨if c = 0 then A else A.map (·.add (0 * i.size)), fun w' => ?_, _, _, rfl, by omega, by omega, by simp; omega, fun hk0 => ?_⟩
  · have h2 : k ≤ c := by omega
    simp [Instr.slice, Instr.sliceBounds, Instr.sliceBound, run_underlying Tryd.underlying22, sizeOf, typeInfo, hi, asIntOf, h2]
  · obtain ⟨b, off, rfl, hb', hc⟩ := hr (by omega)
    refine ⟨b, off, ?_, hb', fun j x hj => ?_⟩
    · rw [if_neg (by omega), Nat.zero_mul]; simp [addr_add]
    · rw [List.getElem?_take] at hj
      split at hj
      · exact hc j x hj
      · cases hj
theorem slice_lo {A : Option Addr} {n c k : Nat} {xs : List Int} {w : World} (hs : SI w (.slice A n c) n xs) (hk : k ≤ n) :
    ∃ A', (∀ w', (Instr.slice 22 (.slice A n c) (some (.int .i64 (k : Int))) none none).run Tryd.prog w' = .ok (.slice A' (n - k) (c - k)) w') ∧ SI w (.slice A' (n - k) (c - k)) (n - k) (xs.drop k) := by
  obtain ⟨A0, c0, e, hnc, hn, hl, hr⟩ := hs
  injection e with e1 e2 e3
  subst e1; subst e3
  obtain ⟨i, hi, hz, hsz, hb⟩ := info_parts intInfo
  refine ⟨if c = k then A else A.map (·.add (k * i.size)), fun w' => ?_, _, _, rfl, by omega, by omega, by simp; omega, fun hk0 => ?_⟩
  · have h2 : k ≤ n := by omega
    simp [Instr.slice, Instr.sliceBounds, Instr.sliceBound, run_underlying Tryd.underlying22, sizeOf, typeInfo, hi, asIntOf, h2]
  · obtain ⟨b, off, rfl, hb', hc⟩ := hr (by omega)
    refine ⟨b, off + k, ?_, hb', fun j x hj => ?_⟩
    · rw [if_neg (by omega), hsz, Nat.mul_one]; simp [addr_add]
    · rw [List.getElem?_drop] at hj
      rw [Nat.add_assoc]; exact hc _ x hj

set_option maxHeartbeats 4000000 in
theorem l30Put_c {u : Value} {n : Nat} {xs : List Int} {y : Int} {w : World} (hs : SI w u n xs) (hn1 : n ≤ 1000) :
    Calls Tryd.prog 49 #[u, .int .i64 y] w (RetI w (putL y xs)) := by
  have su := hs
  obtain ⟨A, c, rfl, hnc, hn, hr⟩ := hs
  have hl := hide hr.len
  have hcut : cutAt y xs ≤ n := by have := cutAt_le y xs; rw [hl.out] at this; exact this
  obtain ⟨K, hK⟩ : ∃ K, K = cutAt y xs := ⟨_, rfl⟩
  rw [← hK] at hcut
  obtain ⟨A1, r1, s1⟩ := slice_hi su hcut
  obtain ⟨A2, r2, s2⟩ := slice_lo su hcut
  have hp := putL_cut y xs
  have hstep := cutAt_step y xs
  rw [← hK] at hp
  simp only [← hK] at hstep
  have HP := hide hp; have HS := hide hstep; have HKK := hide hK; clear hp hstep hK
  go_enter Tryd.func49, Tryd.ntmps49
  go_wp2_with fail
  go_loop [5] (fun i => ∃ k : Nat, k ≤ K ∧ i = .int .i64 k) (fun i => K - (intOf i).toNat)
  case atStart => exact ⟨0, Nat.zero_le _, rfl⟩
  case round =>
    obtain ⟨k, hk, rfl⟩ := hrel
    by_cases hlt : k < n
    · obtain ⟨b, off, x, rfl, hb, hx, hc⟩ := hr.at_ hlt
      have Hx := hide hx; clear hx
      by_cases hxy : x < y
      · have hk1 := (HS.out k hk).1 x Hx.out hxy
        go_wp2_with fail
        go_round
        case rel => exact ⟨k + 1, by omega, by go_num⟩
        case measure => simp [intOf]; omega
      · obtain rfl := (HS.out k hk).2.1 x Hx.out (by omega)
        by_cases he : x = y
        · subst he
          have hf : putL x xs = xs := by rw [HP.out, if_pos Hx.out]
          have F := hide hf; clear hf
          go_wp2_with (at_builtin; refine wpList_appI rfl _ _ rfl rfl (OI.empty w) rfl (su.alloc _) (by omega) (by simp) ?_; intro v1 w1 ho hg hat)
          go_ret
          rw [F.out]
          simp only [Nat.zero_add, List.nil_append] at ho
          exact ⟨_, _, rfl, ho, below_app ((Below.refl _ _).alloc (Nat.le_refl _) _) (OI.empty w) (Nat.le_refl _) hg⟩
        · have hf : putL y xs = xs.take k ++ [y] ++ xs.drop k := by rw [HP.out, if_neg (by rw [Hx.out]; intro e; injection e with e; exact he e)]
          have F := hide hf; clear hf
          go_wp2_with fail
          have eC : OI ((w.drew.alloc (.cells #[.int .i64 y] 3)).alloc (.cells #[] 3)) w.drew.heap.size (.slice (some ⟨w.heap.size + 1, 0, none⟩) 0 0) 0 [] := by
            have := (OI.empty (w.drew.alloc (.cells #[.int .i64 y] 3))).mono (show w.drew.heap.size ≤ _ by simp <;> omega)
            simpa using this
          have kB : Blk ((w.drew.alloc (.cells #[] 3)).alloc (.cells #[.int .i64 y] 3)) (w.heap.size + 1) 3 #[.int .i64 y] := by
            have := Blk.new (w.drew.alloc (.cells #[] 3)) 3 #[.int .i64 y]
            simpa using this
          have kC : Blk ((w.drew.alloc (.cells #[.int .i64 y] 3)).alloc (.cells #[] 3)) w.heap.size 3 #[.int .i64 y] := (Blk.new w.drew 3 #[.int .i64 y]).alloc (.cells #[] 3)
          have bB : Below w.drew.heap.size w.drew ((w.drew.alloc (.cells #[] 3)).alloc (.cells #[.int .i64 y] 3)) := ((Below.refl w.drew.heap.size w.drew).alloc (Nat.le_refl _) _).alloc (by simp <;> omega) _
          have bC : Below w.drew.heap.size w.drew ((w.drew.alloc (.cells #[.int .i64 y] 3)).alloc (.cells #[] 3)) := ((Below.refl w.drew.heap.size w.drew).alloc (Nat.le_refl _) _).alloc (by simp <;> omega) _
          go_region_law (first
            | (refine step_appI (by rfl) (.tmp 35) (.tmp 38) (by rfl) (by rfl) (OI.empty w.drew) (by rfl) (s1.drew.alloc _) (by omega) (by simp <;> omega) ?_; intro v1 w1 ho1 hg1 hat1; have BB1 := below_app ((Below.refl w.drew.heap.size w.drew).alloc (Nat.le_refl _) _) (OI.empty w.drew) (Nat.le_refl _) hg1)
            | (refine step_appI (by rfl) (.tmp 35) (.tmp 38) (by rfl) (by rfl) ((OI.empty w.drew).alloc _) (by rfl) ((s1.drew.alloc _).alloc _) (by omega) (by simp <;> omega) ?_; intro v1 w1 ho1 hg1 hat1; have BB1 := below_app bB ((OI.empty w.drew).alloc _) (Nat.le_refl _) hg1; have KN := kB.grown hg1 (by simp [Value.ownBlock]); have SN : SI w1 (.slice (some ⟨w.heap.size + 1, 0, none⟩) 1 1) 1 [y] := SI.of_blk KN (fun j z hj => get_ints (xs := [y]) j z hj) rfl (Nat.le_refl _) (by omega))
            | (refine step_appI (by rfl) (.tmp 35) (.tmp 38) (by rfl) (by rfl) eC (by rfl) ((s1.drew.alloc _).alloc _) (by omega) (by simp <;> omega) ?_; intro v1 w1 ho1 hg1 hat1; have BB1 := below_app bC eC (Nat.le_refl _) hg1; have KN := kC.grown hg1 (by simp [Value.ownBlock]); have SN : SI w1 (.slice (some ⟨w.heap.size, 0, none⟩) 1 1) 1 [y] := SI.of_blk KN (fun j z hj => get_ints (xs := [y]) j z hj) rfl (Nat.le_refl _) (by omega))
            | (refine step_appI (by rfl) (.tmp 39) (.tmp 41) (by rfl) (by rfl) (ho1.alloc _) (by rfl) (SI.one w1 y 1 (Nat.le_refl _)) (by omega) (by have := BB1.size; simp at this ⊢; omega) ?_; intro v2 w2 ho2 hg2 hat2; have BB2 := below_app (BB1.alloc BB1.size _) (ho1.alloc _) (Nat.le_refl _) hg2)
            | (refine step_appI (by rfl) (.tmp 39) (.tmp 41) (by rfl) (by rfl) ho1 (by rfl) SN (by omega) (by have := BB1.size; simp at this ⊢; omega) ?_; intro v2 w2 ho2 hg2 hat2; have BB2 := below_app BB1 ho1 (Nat.le_refl _) hg2)
            | (refine step_appI (by rfl) (.tmp 42) (.tmp 45) (by rfl) (by rfl) ho2 (by rfl) (s2.drew.below BB2) (by omega) (by have := BB2.size; simp at this ⊢; omega) ?_; intro v3 w3 ho3 hg3 hat3; have BB3 := below_app BB2 ho2 (Nat.le_refl _) hg3))
          all_goals go_wp2_with fail
          all_goals go_ret
          all_goals rw [F.out]
          all_goals exact ⟨_, _, rfl, ho3, below_of_drew BB3⟩
    · obtain rfl : k = n := by omega
      have hnone : xs[k]? = none := by rw [List.getElem?_eq_none_iff]; rw [hl.out]; omega
      obtain rfl := (HS.out k hk).2.2 hnone
      have hf : putL y xs = xs.take k ++ [y] ++ xs.drop k := by rw [HP.out, if_neg (by rw [hnone]; intro e; cases e)]
      have F := hide hf; clear hf hnone
      rw [Nat.sub_self] at s2
      simp only [Nat.sub_self] at r2
      go_wp2_with fail
      have eC : OI ((w.drew.alloc (.cells #[.int .i64 y] 3)).alloc (.cells #[] 3)) w.drew.heap.size (.slice (some ⟨w.heap.size + 1, 0, none⟩) 0 0) 0 [] := by
        have := (OI.empty (w.drew.alloc (.cells #[.int .i64 y] 3))).mono (show w.drew.heap.size ≤ _ by simp <;> omega)
        simpa using this
      have kB : Blk ((w.drew.alloc (.cells #[] 3)).alloc (.cells #[.int .i64 y] 3)) (w.heap.size + 1) 3 #[.int .i64 y] := by
        have := Blk.new (w.drew.alloc (.cells #[] 3)) 3 #[.int .i64 y]
        simpa using this
      have kC : Blk ((w.drew.alloc (.cells #[.int .i64 y] 3)).alloc (.cells #[] 3)) w.heap.size 3 #[.int .i64 y] := (Blk.new w.drew 3 #[.int .i64 y]).alloc (.cells #[] 3)
      have bB : Below w.drew.heap.size w.drew ((w.drew.alloc (.cells #[] 3)).alloc (.cells #[.int .i64 y] 3)) := ((Below.refl w.drew.heap.size w.drew).alloc (Nat.le_refl _) _).alloc (by simp <;> omega) _
      have bC : Below w.drew.heap.size w.drew ((w.drew.alloc (.cells #[.int .i64 y] 3)).alloc (.cells #[] 3)) := ((Below.refl w.drew.heap.size w.drew).alloc (Nat.le_refl _) _).alloc (by simp <;> omega) _
      go_region_law (first
        | (refine step_appI (by rfl) (.tmp 35) (.tmp 38) (by rfl) (by rfl) (OI.empty w.drew) (by rfl) (s1.drew.alloc _) (by omega) (by simp <;> omega) ?_; intro v1 w1 ho1 hg1 hat1; have BB1 := below_app ((Below.refl w.drew.heap.size w.drew).alloc (Nat.le_refl _) _) (OI.empty w.drew) (Nat.le_refl _) hg1)
        | (refine step_appI (by rfl) (.tmp 35) (.tmp 38) (by rfl) (by rfl) ((OI.empty w.drew).alloc _) (by rfl) ((s1.drew.alloc _).alloc _) (by omega) (by simp <;> omega) ?_; intro v1 w1 ho1 hg1 hat1; have BB1 := below_app bB ((OI.empty w.drew).alloc _) (Nat.le_refl _) hg1; have KN := kB.grown hg1 (by simp [Value.ownBlock]); have SN : SI w1 (.slice (some ⟨w.heap.size + 1, 0, none⟩) 1 1) 1 [y] := SI.of_blk KN (fun j z hj => get_ints (xs := [y]) j z hj) rfl (Nat.le_refl _) (by omega))
        | (refine step_appI (by rfl) (.tmp 35) (.tmp 38) (by rfl) (by rfl) eC (by rfl) ((s1.drew.alloc _).alloc _) (by omega) (by simp <;> omega) ?_; intro v1 w1 ho1 hg1 hat1; have BB1 := below_app bC eC (Nat.le_refl _) hg1; have KN := kC.grown hg1 (by simp [Value.ownBlock]); have SN : SI w1 (.slice (some ⟨w.heap.size, 0, none⟩) 1 1) 1 [y] := SI.of_blk KN (fun j z hj => get_ints (xs := [y]) j z hj) rfl (Nat.le_refl _) (by omega))
        | (refine step_appI (by rfl) (.tmp 39) (.tmp 41) (by rfl) (by rfl) (ho1.alloc _) (by rfl) (SI.one w1 y 1 (Nat.le_refl _)) (by omega) (by have := BB1.size; simp at this ⊢; omega) ?_; intro v2 w2 ho2 hg2 hat2; have BB2 := below_app (BB1.alloc BB1.size _) (ho1.alloc _) (Nat.le_refl _) hg2)
        | (refine step_appI (by rfl) (.tmp 39) (.tmp 41) (by rfl) (by rfl) ho1 (by rfl) SN (by omega) (by have := BB1.size; simp at this ⊢; omega) ?_; intro v2 w2 ho2 hg2 hat2; have BB2 := below_app BB1 ho1 (Nat.le_refl _) hg2)
        | (refine step_appI (by rfl) (.tmp 42) (.tmp 45) (by rfl) (by rfl) ho2 (by rfl) (s2.drew.below BB2) (by omega) (by have := BB2.size; simp at this ⊢; omega) ?_; intro v3 w3 ho3 hg3 hat3; have BB3 := below_app BB2 ho2 (Nat.le_refl _) hg3))
      all_goals go_wp2_with fail
      all_goals go_ret
      all_goals rw [F.out]
      all_goals exact ⟨_, _, rfl, ho3, below_of_drew BB3⟩

end Go.Proofs.YtcoienlblhbkpaaDoor
