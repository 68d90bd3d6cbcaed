/- The reference's l3Words: a text cut at blanks. -/
import Derived.Test.YtefopnkicllpeaaDoorSpP
import Derived.Test.YtefopnkicllpeaaDoorPlI
import Derived.RegionTactic
import Derived.Deep.RegionHeld3
import Derived.BigQuiet
namespace Go.Proofs.YtefopnkicllpeaaDoor
open Go.RowKit

def wstep (ls : List (List UInt8)) (c : UInt8) : List (List UInt8) := if c = 32 then ls ++ [[]] else ls.dropLast ++ [(ls.getLast?.getD []) ++ [c]]
def wordsTo (s : List UInt8) (k : Nat) : List (List UInt8) := (s.take k).foldl wstep [[]]
theorem wordsTo_succ {s : List UInt8} {k : Nat} {c : UInt8} (h : s[k]? = some c) : wordsTo s (k + 1) = wstep (wordsTo s k) c := by
  unfold wordsTo
  rw [List.take_add_one, h]; simp
theorem wordsTo_form (s : List UInt8) : ∀ k, k ≤ s.length → ∃ A l, wordsTo s k = A ++ [l] ∧ A.length + l.length ≤ k
  | 0, _ => ⟨[], [], rfl, Nat.le_refl _⟩
  | k + 1, h => by
    obtain ⟨A, l, h1, h2⟩ := wordsTo_form s k (by omega)
    have h3 : s[k]? = some (s[k]'(by omega)) := List.getElem?_eq_getElem _
    rw [wordsTo_succ h3, h1]
    unfold wstep
    by_cases hc : s[k]'(by omega) = 32
    · rw [if_pos hc]; exact ⟨A ++ [l], [], rfl, by simp; omega⟩
    · rw [if_neg hc]; exact ⟨A, l ++ [s[k]'(by omega)], by simp, by simp; omega⟩
theorem OS.appL {w : World} {o : Oper} {a : Act} {Q : Exit → Act → World → Prop} {ops : Array Oper} {rest : List Oper} (hgd : o.guard = none) (s x : Operand)
    (ho : o.op = .call { callee := .builtin .append, args := #[s, x], argTypes := #[39, 39] })
    {lo : Nat} {v : Value} {ls : List (List UInt8)} (hs : a.eval s = v) (h : OS w lo v ls) {b : Nat} {l : List UInt8} (hx : a.eval x = .slice (some ⟨b, 0, none⟩) 1 1) (hK : Blk w b 9 #[.string (str l)]) (hn : ls.length ≤ 2000000) (hlo : lo ≤ w.heap.size)
    (hh : ∀ v' w', OS w' lo v' (ls ++ [l]) → w.grownBy w' v.ownBlock → wpList Tryd.prog ops Q rest (a.put o.dst v') w') : wpList Tryd.prog ops Q (o :: rest) a w := by
  obtain ⟨i, hi, hz, hsz, hby⟩ := info_parts strInfo
  refine wpList_app hgd s x _ ho lo 9 i (.string ⟨#[]⟩) 1 16 Tryd.underlying39 hi hz hsz hby rfl (by omega) v ls.length _ hs h _ 1 1 [.string (str l)] hx (Rd.oneS hK) (fun u hu => by simp at hu; subst hu; rfl) (by simp only [maxLen]; omega) (by omega) hlo ?_
  intro v' w' hown hg hat
  refine hh v' w' ?_ hg
  unfold OS
  rw [List.length_append, List.length_singleton, List.map_append]
  exact hown
theorem OS.last {w : World} {lo : Nat} {v : Value} {A : List (List UInt8)} {l : List UInt8} (h : OS w lo v (A ++ [l])) :
    ∃ g c, v = .slice (some ⟨g, 0, none⟩) (A.length + 1) c ∧ A.length + 1 ≤ c ∧ lo ≤ g ∧ g < w.heap.size ∧ w.cell? ⟨g, A.length, none⟩ = some (.string (str l)) ∧ w.frozen? ⟨g, A.length, none⟩ = false ∧
      ∀ l', OS (w.setCell ⟨g, A.length, none⟩ (.string (str l'))) lo v (A ++ [l']) := by
  have hl : (A ++ [l]).length = A.length + 1 := by simp
  rcases h.2 with ⟨_, h0⟩ | ⟨g, cap, cur, e, hB, hg, hc, _⟩
  · rw [hl] at h0; omega
  · subst e
    unfold OS at h
    rw [hl] at h hc ⊢
    refine ⟨g, cap, rfl, hc, hB, Blk.lt (t := 9) (cs := cur) hg, ?_, World.ownsRow.frozenAt h _, fun l' => ?_⟩
    · rw [World.ownsRow.cellAt h A.length (by omega)]; simp
    · have := (World.ownsRow.stored h A.length (.string (str l'))).1
      unfold OS
      have hl' : (A ++ [l']).length = A.length + 1 := by simp
      rw [hl']
      simpa using this
theorem slice_one (l : List UInt8) {i : Nat} {c : UInt8} (h : l[i]? = some c) (w : World) : (Instr.slice 9 (.string (str l)) (some (.int .i64 (i : Int))) (some (.int .i64 ((i : Int) + 1))) none).run Tryd.prog w = .ok (.string (str [c])) w := by
  have hi : i < l.length := (List.getElem?_eq_some_iff.1 h).1
  have hs := str_size l
  have h2 : i + 1 ≤ (str l).size := by omega
  have h3 : ((i : Int) + 1).toNat = i + 1 := by omega
  have h4 : (l.take (i + 1)).drop i = [c] := by
    rw [List.take_add_one, h, List.drop_append_of_le_length (by rw [List.length_take]; omega), List.drop_of_length_le (by rw [List.length_take]; omega)]; rfl
  simp [Instr.slice, Instr.sliceBounds, Instr.sliceBound, run_underlying Tryd.underlying9, asIntOf, h3]
  rw [str_extract, h4]
  simp; omega
set_option maxRecDepth 100000 in
set_option maxHeartbeats 4000000 in
theorem l3Words_c {s : List UInt8} {w : World} (hlen : s.length ≤ 1048576) : Calls Tryd.prog 18 #[.string (str s)] w fun e w' => ∃ v, e = .returned v ∧ OS w' w.heap.size v (wordsTo s s.length) ∧ Below w.heap.size w w' := by
  have hsz := str_size s
  go_enter Tryd.func18, Tryd.ntmps18
  go_wp2_with fail
  go_loopw [3, 4] (fun v i W => ∃ k : Nat, i = .int .i64 k ∧ k ≤ s.length ∧ OS W w.heap.size v (wordsTo s k) ∧ Below w.heap.size w W) (fun _ i _ => s.length - (intOf i).toNat)
  case atStart =>
    refine ⟨0, rfl, Nat.zero_le _, ?_, (Below.refl _ _).alloc (Nat.le_refl _) _⟩
    exact ⟨rfl, .inr ⟨w.heap.size, 1, #[.string ⟨#[]⟩], rfl, Nat.le_refl _, Blk.new w _ _, Nat.le_refl _, by simp [maxLen], by simp, rfl⟩⟩
  case round =>
    obtain ⟨k, rfl, hk, ho, bw⟩ := hrel
    by_cases hkn : k < s.length
    · have hc : s[k]? = some (s[k]'hkn) := List.getElem?_eq_getElem _
      obtain ⟨c, hcc⟩ : ∃ c, s[k]'hkn = c := ⟨_, rfl⟩
      rw [hcc] at hc
      have k2 : (k : Int) < s.length := by omega
      have hi : (str s)[k]'(by omega) = c := by rw [← hcc]; rfl
      have hws := wordsTo_succ hc
      obtain ⟨A, l, hA, hAl⟩ := wordsTo_form s k hk
      rw [hA] at hws ho
      have HWS := hide hws
      clear hws
      by_cases h32 : c = 32
      · subst h32
        have hK := Blk.new wr 9 #[.string ⟨#[]⟩]
        have B2 := hide (bw.alloc bw.size (.cells #[.string ⟨#[]⟩] 9))
        have ho2 := ho.below ((Below.refl _ _).alloc (Nat.le_refl _) (.cells #[.string ⟨#[]⟩] 9))
        obtain ⟨g, cc, rfl, _⟩ := ho.last
        have hlo : w.heap.size ≤ (wr.alloc (.cells #[.string ⟨#[]⟩] 9)).heap.size := by have := bw.size; simp; omega
        go_wp2_with (at_builtin; refine OS.appL rfl _ _ rfl rfl ho2 rfl (l := []) hK (by simp; omega) hlo ?_; intro v' w' ho3 hg3; have B3 := hide (B2.out.grown hg3 B2.out.size (fun k hk => (World.ownsRow.lt ho2 k hk).1)); have HO3 := hide ho3)
        go_roundw
        case rel => exact ⟨k + 1, by go_num, by omega, by rw [HWS.out]; exact HO3.out, B3.out⟩
        case measure => simp [intOf]; omega
      · obtain ⟨g, cc, rfl, hnc, hlg, hg, c0, f0, hst⟩ := ho.last
        have HST := hide hst
        have BW := hide bw
        have r1 := slice_one s hc
        have r2 := fun W : World => run_string_add_sum (P := Tryd.prog) (w := W) (str l) (str [c]) (by rw [str_size, str_size]; simp; omega)
        have i1 : IntKind.i64.wrap ((k : Int) + 1) = (k : Int) + 1 := by rw [IntWalk.i64_left, IntWalk.wrap64_in _ (by omega)]
        have c32 : (c.toNat == 32) = false := by
          rw [beq_eq_false_iff_ne]; intro h; exact h32 (UInt8.toNat_inj.mp h)
        clear hst ho bw hc
        have i6 : IntKind.i64.wrap (A.length : Int) = (A.length : Int) := by rw [IntWalk.i64_left, IntWalk.wrap64_in _ (by omega)]
        have i7 : (A.length : Int) < (A.length : Int) + 1 := by omega
        go_wp2_with fail
        -- REGION
        refine wp_region_held_drew (S := (fun _ => True)) (by kernel_rfl) ?_ (fun hHeld => ?_)
        · exact trivial
        refine wpAnyH_take (i := 0) (v := ?vv0) (by rw [List.getElem?_toArray]; exact rfl) (by kernel_rfl) (by kernel_rfl) (by kernel_rfl) (by intro _ _ _ h; exact h) (Or.inl ⟨by rfl, ?hy0⟩) hHeld ?rest0
        case' hy0 => (intro w hSw; (try dsimp only at hSw); go_simp; try (with_reducible rfl))
        (try simp only [Act.put, List.setIfInBounds_toArray, List.set_cons_zero, List.set_cons_succ])
        refine wpAnyH_take (i := 1) (v := ?vv1) (by rw [List.getElem?_toArray]; exact rfl) (by kernel_rfl) (by kernel_rfl) (by kernel_rfl) (by intro _ _ _ h; exact h) (Or.inl ⟨by rfl, ?hy1⟩) hHeld ?rest1
        case' hy1 => (intro w hSw; (try dsimp only at hSw); go_simp; try (with_reducible rfl))
        (try simp only [Act.put, List.setIfInBounds_toArray, List.set_cons_zero, List.set_cons_succ])
        refine wpAnyH_take (i := 2) (v := ?vv2) (by rw [List.getElem?_toArray]; exact rfl) (by kernel_rfl) (by kernel_rfl) (by kernel_rfl) (by intro _ _ _ h; exact h) (Or.inl ⟨by rfl, ?hy2⟩) hHeld ?rest2
        case' hy2 => (intro w hSw; (try dsimp only at hSw); go_simp; try (with_reducible rfl))
        (try simp only [Act.put, List.setIfInBounds_toArray, List.set_cons_zero, List.set_cons_succ])
        refine wpAnyH_take (i := 3) (v := ?vv3) (by rw [List.getElem?_toArray]; exact rfl) (by kernel_rfl) (by kernel_rfl) (by kernel_rfl) (by intro _ _ _ h; exact h) (Or.inl ⟨by rfl, ?hy3⟩) hHeld ?rest3
        case' hy3 => (intro w hSw; (try dsimp only at hSw); go_simp; try (with_reducible rfl))
        (try simp only [Act.put, List.setIfInBounds_toArray, List.set_cons_zero, List.set_cons_succ])
        refine wpAnyH_take (i := 4) (v := ?vv4) (by rw [List.getElem?_toArray]; exact rfl) (by kernel_rfl) (by kernel_rfl) (by kernel_rfl) (by intro _ _ _ h; exact h) (Or.inl ⟨by rfl, ?hy4⟩) hHeld ?rest4
        case' hy4 => (intro w hSw; (try dsimp only at hSw); go_simp; try (with_reducible rfl))
        (try simp only [Act.put, List.setIfInBounds_toArray, List.set_cons_zero, List.set_cons_succ])
        refine wpAnyH_take (i := 5) (v := ?vv5) (by rw [List.getElem?_toArray]; exact rfl) (by kernel_rfl) (by kernel_rfl) (by kernel_rfl) (by intro _ _ _ h; exact h) (Or.inl ⟨by rfl, ?hy5⟩) hHeld ?rest5
        case' hy5 => (intro w hSw; (try dsimp only at hSw); go_simp; try (with_reducible rfl))
        (try simp only [Act.put, List.setIfInBounds_toArray, List.set_cons_zero, List.set_cons_succ])
        refine wpAnyH_take (i := 6) (v := ?vv6) (by rw [List.getElem?_toArray]; exact rfl) (by kernel_rfl) (by kernel_rfl) (by kernel_rfl) (by intro _ _ _ h; exact h) (Or.inl ⟨by rfl, ?hy6⟩) hHeld ?rest6
        case' hy6 => (intro w hSw; (try dsimp only at hSw); go_simp; try (with_reducible rfl))
        (try simp only [Act.put, List.setIfInBounds_toArray, List.set_cons_zero, List.set_cons_succ])
        refine wpAnyH_take (i := 7) (v := ?vv7) (by rw [List.getElem?_toArray]; exact rfl) (by kernel_rfl) (by kernel_rfl) (by kernel_rfl) (by intro _ _ _ h; exact h) (Or.inl ⟨by rfl, ?hy7⟩) hHeld ?rest7
        case' hy7 => (intro w hSw; (try dsimp only at hSw); go_simp; try (with_reducible rfl))
        (try simp only [Act.put, List.setIfInBounds_toArray, List.set_cons_zero, List.set_cons_succ])
        refine wpAnyH_take (i := 8) (v := ?vv8) (by rw [List.getElem?_toArray]; exact rfl) (by kernel_rfl) (by kernel_rfl) (by kernel_rfl) (by intro _ _ _ h; exact h) (Or.inl ⟨by rfl, ?hy8⟩) hHeld ?rest8
        case' hy8 => (intro w hSw; (try dsimp only at hSw); go_simp; try (with_reducible rfl))
        (try simp only [Act.put, List.setIfInBounds_toArray, List.set_cons_zero, List.set_cons_succ])
        refine wpAnyH_take (i := 10) (v := ?vv10) (by rw [List.getElem?_toArray]; exact rfl) (by kernel_rfl) (by kernel_rfl) (by kernel_rfl) (by intro _ _ _ h; exact h) (Or.inl ⟨by rfl, ?hy10⟩) hHeld ?rest10
        case' hy10 => (intro w hSw; (try dsimp only at hSw); go_simp; try (with_reducible rfl))
        (try simp only [Act.put, List.setIfInBounds_toArray, List.set_cons_zero, List.set_cons_succ])
        refine wpAnyH_take (i := 11) (v := ?vv11) (by rw [List.getElem?_toArray]; exact rfl) (by kernel_rfl) (by kernel_rfl) (by kernel_rfl) (by intro _ _ _ h; exact h) (Or.inl ⟨by rfl, ?hy11⟩) hHeld ?rest11
        case' hy11 => (intro w hSw; (try dsimp only at hSw); go_simp; try (with_reducible rfl))
        (try simp only [Act.put, List.setIfInBounds_toArray, List.set_cons_zero, List.set_cons_succ])
        refine wpAnyH_take (i := 12) (v := ?vv12) (by rw [List.getElem?_toArray]; exact rfl) (by kernel_rfl) (by kernel_rfl) (by kernel_rfl) (by intro _ _ _ h; exact h) (Or.inl ⟨by rfl, ?hy12⟩) hHeld ?rest12
        case' hy12 => (intro w hSw; (try dsimp only at hSw); go_simp; try (with_reducible rfl))
        (try simp only [Act.put, List.setIfInBounds_toArray, List.set_cons_zero, List.set_cons_succ])
        refine wpAnyH_take (i := 13) (v := ?vv13) (by rw [List.getElem?_toArray]; exact rfl) (by kernel_rfl) (by kernel_rfl) (by kernel_rfl) (by intro _ _ _ h; exact h) (Or.inl ⟨by rfl, ?hy13⟩) hHeld ?rest13
        case' hy13 => (intro w hSw; (try dsimp only at hSw); go_simp; try (with_reducible rfl))
        (try simp only [Act.put, List.setIfInBounds_toArray, List.set_cons_zero, List.set_cons_succ])
        refine wpAnyH_take (i := 14) (v := ?vv14) (by rw [List.getElem?_toArray]; exact rfl) (by kernel_rfl) (by kernel_rfl) (by kernel_rfl) (by intro _ _ _ h; exact h) (Or.inl ⟨by rfl, ?hy14⟩) hHeld ?rest14
        case' hy14 => (intro w hSw; (try dsimp only at hSw); go_simp; try (with_reducible rfl))
        (try simp only [Act.put, List.setIfInBounds_toArray, List.set_cons_zero, List.set_cons_succ])
        refine wpAnyH_ready (rs := [9]) (by kernel_rfl) (by simp) ?_
        refine AllReadyH.cons (by rw [List.getElem?_toArray]; exact rfl) (fun K hK => ?_) AllReadyH.nil
        go_simp
        refine hK.out _ _ ?_ (fun hHeld => ?_)
        · exact trivial
        clear hK K
        (try simp only [Act.put, List.setIfInBounds_toArray, List.set_cons_zero, List.set_cons_succ])
        refine wpAnyH_take (i := 15) (v := ?vv15) (by rw [List.getElem?_toArray]; exact rfl) (by kernel_rfl) (by kernel_rfl) (by kernel_rfl) (by intro _ _ _ h; exact h) (Or.inl ⟨by rfl, ?hy15⟩) hHeld ?rest15
        case' hy15 => (intro w hSw; (try dsimp only at hSw); go_simp; try (with_reducible rfl))
        (try simp only [Act.put, List.setIfInBounds_toArray, List.set_cons_zero, List.set_cons_succ])
        refine wpAnyH_take (i := 16) (v := ?vv16) (by rw [List.getElem?_toArray]; exact rfl) (by kernel_rfl) (by kernel_rfl) (by kernel_rfl) (by intro _ _ _ h; exact h) (Or.inl ⟨by rfl, ?hy16⟩) hHeld ?rest16
        case' hy16 => (intro w hSw; (try dsimp only at hSw); go_simp; try (with_reducible rfl))
        (try simp only [Act.put, List.setIfInBounds_toArray, List.set_cons_zero, List.set_cons_succ])
        refine wpAnyH_ready (rs := [17]) (by kernel_rfl) (by simp) ?_
        refine AllReadyH.cons (by rw [List.getElem?_toArray]; exact rfl) (fun K hK => ?_) AllReadyH.nil
        go_simp
        refine hK.out _ _ ?_ (fun hHeld => ?_)
        · exact trivial
        clear hK K
        (try simp only [Act.put, List.setIfInBounds_toArray, List.set_cons_zero, List.set_cons_succ])
        refine wpAnyH_done (by kernel_rfl) ?_ _
        -- ENDREGION
        go_wp2_with fail
        refine ⟨⟨k + 1, by go_num, by omega, ?_, ?_⟩, by simp [intOf]; omega⟩
        · rw [HWS.out, str_add]
          unfold wstep
          rw [if_neg h32]
          have := (HST.out (l ++ [c])).below (Below.refl _ _).drew
          simpa using this
        · exact (BW.out.setCell (p := ⟨g, A.length, none⟩) hlg _).drew
    · obtain rfl : k = s.length := by omega
      have ho' := hide ho
      clear ho
      go_wp2_with fail
      go_ret
      exact ⟨_, rfl, ho'.out, bw⟩

end Go.Proofs.YtefopnkicllpeaaDoor
