/- Merged: SpW, SpV, SameO, SpE2, OpenB. -/
import Derived.Test.YtefopnkicllpeaaDoorSpP
import Derived.Test.YtefopnkicllpeaaDoorPlI
import Derived.RegionTactic
import Derived.Deep.RegionHeld3
import Derived.BigQuiet
import Derived.Test.YtefopnkicllpeaaDoorDrs2
import Derived.Laws.StructEq
import Derived.Test.YtefopnkicllpeaaDoorCards
import Derived.Test.YtefopnkicllpeaaDoorTie
import Derived.Test.YtefopnkicllpeaaDoorDraw3
import Derived.ProofKit
import Derived.OpenShut
import Derived.ShutString
import Derived.ChangeOld
import Derived.LaidMore
import Derived.Stop.Joined
import Derived.SevenTiedAt
namespace Go.Proofs.YtefopnkicllpeaaDoor
open Go.RowKit

def wstep (ls : List (List UInt8)) (c : UInt8) : List (List UInt8) := if c = 32 then ls ++ [[]] else ls.dropLast ++ [(ls.getLast?.getD []) ++ [c]]
def wordsTo (s : List UInt8) (k : Nat) : List (List UInt8) := (s.take k).foldl wstep [[]]
theorem wordsTo_succ {s : List UInt8} {k : Nat} {c : UInt8} (h : s[k]? = some c) : wordsTo s (k + 1) = wstep (wordsTo s k) c := by
  unfold wordsTo
  rw [List.take_add_one, h]; simp
theorem wordsTo_form (s : List UInt8) : ∀ k, k ≤ s.length → ∃ A l, wordsTo s k = A ++ [l] ∧ A.length + l.length ≤ k
  | 0, _ => ⟨[], [], rfl, Nat.le_refl _⟩
  | k + 1, h => by
    obtain ⟨A, l, h1, h2⟩ := wordsTo_form s k (by omega)
    have h3 : s[k]? = some (s[k]'(by omega)) := List.getElem?_eq_getElem _
    rw [wordsTo_succ h3, h1]
    unfold wstep
    by_cases hc : s[k]'(by omega) = 32
    · rw [if_pos hc]; exact ⟨A ++ [l], [], rfl, by simp; omega⟩
    · rw [if_neg hc]; exact ⟨A, l ++ [s[k]'(by omega)], by simp, by simp; omega⟩
theorem OS.appL {w : World} {o : Oper} {a : Act} {Q : Exit → Act → World → Prop} {ops : Array Oper} {rest : List Oper} (hgd : o.guard = none) (s x : Operand)
    (ho : o.op = .call { callee := .builtin .append, args := #[s, x], argTypes := #[39, 39] })
    {lo : Nat} {v : Value} {ls : List (List UInt8)} (hs : a.eval s = v) (h : OS w lo v ls) {b : Nat} {l : List UInt8} (hx : a.eval x = .slice (some ⟨b, 0, none⟩) 1 1) (hK : Blk w b 9 #[.string (str l)]) (hn : ls.length ≤ 2000000) (hlo : lo ≤ w.heap.size)
    (hh : ∀ v' w', OS w' lo v' (ls ++ [l]) → w.grownBy w' v.ownBlock → wpList Tryd.prog ops Q rest (a.put o.dst v') w') : wpList Tryd.prog ops Q (o :: rest) a w := by
  obtain ⟨i, hi, hz, hsz, hby⟩ := info_parts strInfo
  refine wpList_app hgd s x _ ho lo 9 i (.string ⟨#[]⟩) 1 16 Tryd.underlying39 hi hz hsz hby rfl (by omega) v ls.length _ hs h _ 1 1 [.string (str l)] hx (Rd.oneS hK) (fun u hu => by simp at hu; subst hu; rfl) (by simp only [maxLen]; omega) (by omega) hlo ?_
  intro v' w' hown hg hat
  refine hh v' w' ?_ hg
  unfold OS
  rw [List.length_append, List.length_singleton, List.map_append]
  exact hown
theorem OS.last {w : World} {lo : Nat} {v : Value} {A : List (List UInt8)} {l : List UInt8} (h : OS w lo v (A ++ [l])) :
    ∃ g c, v = .slice (some ⟨g, 0, none⟩) (A.length + 1) c ∧ A.length + 1 ≤ c ∧ lo ≤ g ∧ g < w.heap.size ∧ w.cell? ⟨g, A.length, none⟩ = some (.string (str l)) ∧ w.frozen? ⟨g, A.length, none⟩ = false ∧
      ∀ l', OS (w.setCell ⟨g, A.length, none⟩ (.string (str l'))) lo v (A ++ [l']) := by
  have hl : (A ++ [l]).length = A.length + 1 := by simp
  rcases h.2 with ⟨_, h0⟩ | ⟨g, cap, cur, e, hB, hg, hc, _⟩
  · rw [hl] at h0; omega
  · subst e
    unfold OS at h
    rw [hl] at h hc ⊢
    refine ⟨g, cap, rfl, hc, hB, Blk.lt (t := 9) (cs := cur) hg, ?_, World.ownsRow.frozenAt h _, fun l' => ?_⟩
    · rw [World.ownsRow.cellAt h A.length (by omega)]; simp
    · have := (World.ownsRow.stored h A.length (.string (str l'))).1
      unfold OS
      have hl' : (A ++ [l']).length = A.length + 1 := by simp
      rw [hl']
      simpa using this
theorem slice_one (l : List UInt8) {i : Nat} {c : UInt8} (h : l[i]? = some c) (w : World) : (Instr.slice 9 (.string (str l)) (some (.int .i64 (i : Int))) (some (.int .i64 ((i : Int) + 1))) none).run Tryd.prog w = .ok (.string (str [c])) w := by
  have hi : i < l.length := (List.getElem?_eq_some_iff.1 h).1
  have hs := str_size l
  have h2 : i + 1 ≤ (str l).size := by omega
  have h3 : ((i : Int) + 1).toNat = i + 1 := by omega
  have h4 : (l.take (i + 1)).drop i = [c] := by
    rw [List.take_add_one, h, List.drop_append_of_le_length (by rw [List.length_take]; omega), List.drop_of_length_le (by rw [List.length_take]; omega)]; rfl
  simp [Instr.slice, Instr.sliceBounds, Instr.sliceBound, run_underlying Tryd.underlying9, asIntOf, h3]
  rw [str_extract, h4]
  simp; omega
set_option maxRecDepth 100000 in
set_option maxHeartbeats 4000000 in
theorem l3Words_c {s : List UInt8} {w : World} (hlen : s.length ≤ 1048576) : Calls Tryd.prog 18 #[.string (str s)] w fun e w' => ∃ v, e = .returned v ∧ OS w' w.heap.size v (wordsTo s s.length) ∧ Below w.heap.size w w' := by
  have hsz := str_size s
  go_enter Tryd.func18, Tryd.ntmps18
  go_wp2_with fail
  go_loopw [3, 4] (fun v i W => ∃ k : Nat, i = .int .i64 k ∧ k ≤ s.length ∧ OS W w.heap.size v (wordsTo s k) ∧ Below w.heap.size w W) (fun _ i _ => s.length - (intOf i).toNat)
  case atStart =>
    refine ⟨0, rfl, Nat.zero_le _, ?_, (Below.refl _ _).alloc (Nat.le_refl _) _⟩
    exact ⟨rfl, .inr ⟨w.heap.size, 1, #[.string ⟨#[]⟩], rfl, Nat.le_refl _, Blk.new w _ _, Nat.le_refl _, by simp [maxLen], by simp, rfl⟩⟩
  case round =>
    obtain ⟨k, rfl, hk, ho, bw⟩ := hrel
    by_cases hkn : k < s.length
    · have hc : s[k]? = some (s[k]'hkn) := List.getElem?_eq_getElem _
      obtain ⟨c, hcc⟩ : ∃ c, s[k]'hkn = c := ⟨_, rfl⟩
      rw [hcc] at hc
      have k2 : (k : Int) < s.length := by omega
      have hi : (str s)[k]'(by omega) = c := by rw [← hcc]; rfl
      have hws := wordsTo_succ hc
      obtain ⟨A, l, hA, hAl⟩ := wordsTo_form s k hk
      rw [hA] at hws ho
      have HWS := hide hws
      clear hws
      by_cases h32 : c = 32
      · subst h32
        have hK := Blk.new wr 9 #[.string ⟨#[]⟩]
        have B2 := hide (bw.alloc bw.size (.cells #[.string ⟨#[]⟩] 9))
        have ho2 := ho.below ((Below.refl _ _).alloc (Nat.le_refl _) (.cells #[.string ⟨#[]⟩] 9))
        obtain ⟨g, cc, rfl, _⟩ := ho.last
        have hlo : w.heap.size ≤ (wr.alloc (.cells #[.string ⟨#[]⟩] 9)).heap.size := by have := bw.size; simp; omega
        go_wp2_with (at_builtin; refine OS.appL rfl _ _ rfl rfl ho2 rfl (l := []) hK (by simp; omega) hlo ?_; intro v' w' ho3 hg3; have B3 := hide (B2.out.grown hg3 B2.out.size (fun k hk => (World.ownsRow.lt ho2 k hk).1)); have HO3 := hide ho3)
        go_roundw
        case rel => exact ⟨k + 1, by go_num, by omega, by rw [HWS.out]; exact HO3.out, B3.out⟩
        case measure => simp [intOf]; omega
      · obtain ⟨g, cc, rfl, hnc, hlg, hg, c0, f0, hst⟩ := ho.last
        have HST := hide hst
        have BW := hide bw
        have r1 := slice_one s hc
        have r2 := fun W : World => run_string_add_sum (P := Tryd.prog) (w := W) (str l) (str [c]) (by rw [str_size, str_size]; simp; omega)
        have i1 : IntKind.i64.wrap ((k : Int) + 1) = (k : Int) + 1 := by rw [IntWalk.i64_left, IntWalk.wrap64_in _ (by omega)]
        have c32 : (c.toNat == 32) = false := by
          rw [beq_eq_false_iff_ne]; intro h; exact h32 (UInt8.toNat_inj.mp h)
        clear hst ho bw hc
        have i6 : IntKind.i64.wrap (A.length : Int) = (A.length : Int) := by rw [IntWalk.i64_left, IntWalk.wrap64_in _ (by omega)]
        have i7 : (A.length : Int) < (A.length : Int) + 1 := by omega
        go_wp2_with fail
        -- REGION
        refine wp_region_held_drew (S := (fun _ => True)) (by kernel_rfl) ?_ (fun hHeld => ?_)
        · exact trivial
        refine wpAnyH_take (i := 0) (v := ?vv0) (by rw [List.getElem?_toArray]; exact rfl) (by kernel_rfl) (by kernel_rfl) (by kernel_rfl) (by intro _ _ _ h; exact h) (Or.inl ⟨by rfl, ?hy0⟩) hHeld ?rest0
        case' hy0 => (intro w hSw; (try dsimp only at hSw); go_simp; try (with_reducible rfl))
        (try simp only [Act.put, List.setIfInBounds_toArray, List.set_cons_zero, List.set_cons_succ])
        refine wpAnyH_take (i := 1) (v := ?vv1) (by rw [List.getElem?_toArray]; exact rfl) (by kernel_rfl) (by kernel_rfl) (by kernel_rfl) (by intro _ _ _ h; exact h) (Or.inl ⟨by rfl, ?hy1⟩) hHeld ?rest1
        case' hy1 => (intro w hSw; (try dsimp only at hSw); go_simp; try (with_reducible rfl))
        (try simp only [Act.put, List.setIfInBounds_toArray, List.set_cons_zero, List.set_cons_succ])
        refine wpAnyH_take (i := 2) (v := ?vv2) (by rw [List.getElem?_toArray]; exact rfl) (by kernel_rfl) (by kernel_rfl) (by kernel_rfl) (by intro _ _ _ h; exact h) (Or.inl ⟨by rfl, ?hy2⟩) hHeld ?rest2
        case' hy2 => (intro w hSw; (try dsimp only at hSw); go_simp; try (with_reducible rfl))
        (try simp only [Act.put, List.setIfInBounds_toArray, List.set_cons_zero, List.set_cons_succ])
        refine wpAnyH_take (i := 3) (v := ?vv3) (by rw [List.getElem?_toArray]; exact rfl) (by kernel_rfl) (by kernel_rfl) (by kernel_rfl) (by intro _ _ _ h; exact h) (Or.inl ⟨by rfl, ?hy3⟩) hHeld ?rest3
        case' hy3 => (intro w hSw; (try dsimp only at hSw); go_simp; try (with_reducible rfl))
        (try simp only [Act.put, List.setIfInBounds_toArray, List.set_cons_zero, List.set_cons_succ])
        refine wpAnyH_take (i := 4) (v := ?vv4) (by rw [List.getElem?_toArray]; exact rfl) (by kernel_rfl) (by kernel_rfl) (by kernel_rfl) (by intro _ _ _ h; exact h) (Or.inl ⟨by rfl, ?hy4⟩) hHeld ?rest4
        case' hy4 => (intro w hSw; (try dsimp only at hSw); go_simp; try (with_reducible rfl))
        (try simp only [Act.put, List.setIfInBounds_toArray, List.set_cons_zero, List.set_cons_succ])
        refine wpAnyH_take (i := 5) (v := ?vv5) (by rw [List.getElem?_toArray]; exact rfl) (by kernel_rfl) (by kernel_rfl) (by kernel_rfl) (by intro _ _ _ h; exact h) (Or.inl ⟨by rfl, ?hy5⟩) hHeld ?rest5
        case' hy5 => (intro w hSw; (try dsimp only at hSw); go_simp; try (with_reducible rfl))
        (try simp only [Act.put, List.setIfInBounds_toArray, List.set_cons_zero, List.set_cons_succ])
        refine wpAnyH_take (i := 6) (v := ?vv6) (by rw [List.getElem?_toArray]; exact rfl) (by kernel_rfl) (by kernel_rfl) (by kernel_rfl) (by intro _ _ _ h; exact h) (Or.inl ⟨by rfl, ?hy6⟩) hHeld ?rest6
        case' hy6 => (intro w hSw; (try dsimp only at hSw); go_simp; try (with_reducible rfl))
        (try simp only [Act.put, List.setIfInBounds_toArray, List.set_cons_zero, List.set_cons_succ])
        refine wpAnyH_take (i := 7) (v := ?vv7) (by rw [List.getElem?_toArray]; exact rfl) (by kernel_rfl) (by kernel_rfl) (by kernel_rfl) (by intro _ _ _ h; exact h) (Or.inl ⟨by rfl, ?hy7⟩) hHeld ?rest7
        case' hy7 => (intro w hSw; (try dsimp only at hSw); go_simp; try (with_reducible rfl))
        (try simp only [Act.put, List.setIfInBounds_toArray, List.set_cons_zero, List.set_cons_succ])
        refine wpAnyH_take (i := 8) (v := ?vv8) (by rw [List.getElem?_toArray]; exact rfl) (by kernel_rfl) (by kernel_rfl) (by kernel_rfl) (by intro _ _ _ h; exact h) (Or.inl ⟨by rfl, ?hy8⟩) hHeld ?rest8
        case' hy8 => (intro w hSw; (try dsimp only at hSw); go_simp; try (with_reducible rfl))
        (try simp only [Act.put, List.setIfInBounds_toArray, List.set_cons_zero, List.set_cons_succ])
        refine wpAnyH_take (i := 10) (v := ?vv10) (by rw [List.getElem?_toArray]; exact rfl) (by kernel_rfl) (by kernel_rfl) (by kernel_rfl) (by intro _ _ _ h; exact h) (Or.inl ⟨by rfl, ?hy10⟩) hHeld ?rest10
        case' hy10 => (intro w hSw; (try dsimp only at hSw); go_simp; try (with_reducible rfl))
        (try simp only [Act.put, List.setIfInBounds_toArray, List.set_cons_zero, List.set_cons_succ])
        refine wpAnyH_take (i := 11) (v := ?vv11) (by rw [List.getElem?_toArray]; exact rfl) (by kernel_rfl) (by kernel_rfl) (by kernel_rfl) (by intro _ _ _ h; exact h) (Or.inl ⟨by rfl, ?hy11⟩) hHeld ?rest11
        case' hy11 => (intro w hSw; (try dsimp only at hSw); go_simp; try (with_reducible rfl))
        (try simp only [Act.put, List.setIfInBounds_toArray, List.set_cons_zero, List.set_cons_succ])
        refine wpAnyH_take (i := 12) (v := ?vv12) (by rw [List.getElem?_toArray]; exact rfl) (by kernel_rfl) (by kernel_rfl) (by kernel_rfl) (by intro _ _ _ h; exact h) (Or.inl ⟨by rfl, ?hy12⟩) hHeld ?rest12
        case' hy12 => (intro w hSw; (try dsimp only at hSw); go_simp; try (with_reducible rfl))
        (try simp only [Act.put, List.setIfInBounds_toArray, List.set_cons_zero, List.set_cons_succ])
        refine wpAnyH_take (i := 13) (v := ?vv13) (by rw [List.getElem?_toArray]; exact rfl) (by kernel_rfl) (by kernel_rfl) (by kernel_rfl) (by intro _ _ _ h; exact h) (Or.inl ⟨by rfl, ?hy13⟩) hHeld ?rest13
        case' hy13 => (intro w hSw; (try dsimp only at hSw); go_simp; try (with_reducible rfl))
        (try simp only [Act.put, List.setIfInBounds_toArray, List.set_cons_zero, List.set_cons_succ])
        refine wpAnyH_take (i := 14) (v := ?vv14) (by rw [List.getElem?_toArray]; exact rfl) (by kernel_rfl) (by kernel_rfl) (by kernel_rfl) (by intro _ _ _ h; exact h) (Or.inl ⟨by rfl, ?hy14⟩) hHeld ?rest14
        case' hy14 => (intro w hSw; (try dsimp only at hSw); go_simp; try (with_reducible rfl))
        (try simp only [Act.put, List.setIfInBounds_toArray, List.set_cons_zero, List.set_cons_succ])
        refine wpAnyH_ready (rs := [9]) (by kernel_rfl) (by simp) ?_
        refine AllReadyH.cons (by rw [List.getElem?_toArray]; exact rfl) (fun K hK => ?_) AllReadyH.nil
        go_simp
        refine hK.out _ _ ?_ (fun hHeld => ?_)
        · exact trivial
        clear hK K
        (try simp only [Act.put, List.setIfInBounds_toArray, List.set_cons_zero, List.set_cons_succ])
        refine wpAnyH_take (i := 15) (v := ?vv15) (by rw [List.getElem?_toArray]; exact rfl) (by kernel_rfl) (by kernel_rfl) (by kernel_rfl) (by intro _ _ _ h; exact h) (Or.inl ⟨by rfl, ?hy15⟩) hHeld ?rest15
        case' hy15 => (intro w hSw; (try dsimp only at hSw); go_simp; try (with_reducible rfl))
        (try simp only [Act.put, List.setIfInBounds_toArray, List.set_cons_zero, List.set_cons_succ])
        refine wpAnyH_take (i := 16) (v := ?vv16) (by rw [List.getElem?_toArray]; exact rfl) (by kernel_rfl) (by kernel_rfl) (by kernel_rfl) (by intro _ _ _ h; exact h) (Or.inl ⟨by rfl, ?hy16⟩) hHeld ?rest16
        case' hy16 => (intro w hSw; (try dsimp only at hSw); go_simp; try (with_reducible rfl))
        (try simp only [Act.put, List.setIfInBounds_toArray, List.set_cons_zero, List.set_cons_succ])
        refine wpAnyH_ready (rs := [17]) (by kernel_rfl) (by simp) ?_
        refine AllReadyH.cons (by rw [List.getElem?_toArray]; exact rfl) (fun K hK => ?_) AllReadyH.nil
        go_simp
        refine hK.out _ _ ?_ (fun hHeld => ?_)
        · exact trivial
        clear hK K
        (try simp only [Act.put, List.setIfInBounds_toArray, List.set_cons_zero, List.set_cons_succ])
        refine wpAnyH_done (by kernel_rfl) ?_ _
        -- ENDREGION
        go_wp2_with fail
        refine ⟨⟨k + 1, by go_num, by omega, ?_, ?_⟩, by simp [intOf]; omega⟩
        · rw [HWS.out, str_add]
          unfold wstep
          rw [if_neg h32]
          have := (HST.out (l ++ [c])).below (Below.refl _ _).drew
          simpa using this
        · exact (BW.out.setCell (p := ⟨g, A.length, none⟩) hlg _).drew
    · obtain rfl : k = s.length := by omega
      have ho' := hide ho
      clear ho
      go_wp2_with fail
      go_ret
      exact ⟨_, rfl, ho'.out, bw⟩

end Go.Proofs.YtefopnkicllpeaaDoor

namespace Go.Proofs.YtefopnkicllpeaaDoor
open Go.RowKit

def endsS (w : List UInt8) : Bool := w.getLast? == some 59
def cutE (w : List UInt8) : List UInt8 := if endsS w then w.dropLast else w
def addStep (ds : Ds) (o : T3) : Ds := match ds.getLast? with
  | some d => ds.dropLast ++ [(d.1, d.2 ++ [o])]
  | none => ds
def rdStep (st : Ds × Bool) (w : List UInt8) : Option (Ds × Bool) := match cutE w with
  | [a, b] =>
    if b.toNat < 48 ∨ 57 < b.toNat ∨ 4 < st.1.length then none
    else if st.2 && a == 115 then some (st.1 ++ [((b.toNat : Int) - 48, [])], endsS w)
    else if !st.2 && (a == 114 || a == 119) then some (addStep st.1 (if a = 119 then 2 else 1, (b.toNat : Int) - 48, 0), endsS w)
    else none
  | _ => none
def rdTo (ws : List (List UInt8)) (k : Nat) : Option (Ds × Bool) := (ws.take k).foldlM rdStep ([], true)
theorem rdTo_succ {ws : List (List UInt8)} {k : Nat} {w : List UInt8} (h : ws[k]? = some w) : rdTo ws (k + 1) = (rdTo ws k).bind fun st => rdStep st w := by
  unfold rdTo
  rw [List.take_add_one, h, List.foldlM_append]
  simp
theorem rdTo_none {ws : List (List UInt8)} : ∀ (j k : Nat), rdTo ws k = none → rdTo ws (k + j) = none
  | 0, k, h => h
  | j + 1, k, h => by
    have ih := rdTo_none j k h
    cases hw : ws[k + j]? with
    | none =>
      have : ws.take (k + (j + 1)) = ws.take (k + j) := by rw [List.take_of_length_le (by have := List.getElem?_eq_none_iff.1 hw; omega), List.take_of_length_le (by have := List.getElem?_eq_none_iff.1 hw; omega)]
      unfold rdTo at ih ⊢
      rw [this]; exact ih
    | some w => rw [← Nat.add_assoc, rdTo_succ hw, ih]; rfl
/-- Words of a plan's text. -/
theorem w_word : ∀ (x : List UInt8) (A : List (List UInt8)) (l : List UInt8), (32 : UInt8) ∉ x → x.foldl wstep (A ++ [l]) = A ++ [l ++ x]
  | [], A, l, _ => by simp
  | c :: x, A, l, h => by
    simp only [List.mem_cons, not_or] at h
    have h1 : wstep (A ++ [l]) c = A ++ [l ++ [c]] := by unfold wstep; rw [if_neg (fun e => h.1 e.symm)]; simp
    rw [List.foldl_cons, h1, w_word x A _ h.2]
    simp
theorem w_blank (A : List (List UInt8)) : wstep A 32 = A ++ [[]] := by unfold wstep; rw [if_pos rfl]
theorem word_no32 {o : T3} (h : stepB o = true) : (32 : UInt8) ∉ wordT o := by
  obtain ⟨c, h1, h2, h3, _⟩ := step_form h
  rw [h1]
  simp only [List.mem_cons, List.not_mem_nil, or_false, not_or]
  refine ⟨?_, ?_⟩
  · split <;> decide
  · apply byte_ne; show 32 ≠ _; omega
theorem w_steps : ∀ (os : List T3) (A : List (List UInt8)), (∀ o ∈ os, stepB o = true) → (os.flatMap stepT).foldl wstep A = A ++ os.map wordT
  | [], A, _ => by simp
  | o :: os, A, h => by
    have e : (o :: os).flatMap stepT = 32 :: (wordT o ++ os.flatMap stepT) := by rw [List.flatMap_cons]; rfl
    rw [e, List.foldl_cons, w_blank, List.foldl_append, w_word _ _ _ (word_no32 (h o (by simp))), w_steps os _ (fun q hq => h q (by simp [hq]))]
    simp
def dwords (d : Int × List T3) : List (List UInt8) := (115 :: digs d.1.toNat) :: d.2.map wordT
theorem w_draft {d : Int × List T3} (h : draftB d = true) (A : List (List UInt8)) : (draftT d).foldl wstep (A ++ [[]]) = A ++ dwords d := by
  obtain ⟨c, e1, e2, e3, e4, _⟩ := draft_form h
  have : draftT d = [115, c] ++ d.2.flatMap stepT := by unfold draftT; rw [e1]; rfl
  rw [this, List.foldl_append, w_word _ _ _ (by
    simp only [List.mem_cons, List.not_mem_nil, or_false, not_or]
    exact ⟨by decide, by apply byte_ne; show 32 ≠ _; omega⟩), w_steps _ _ (fun o ho => ((draftB_partsT h).2.2 o ho).2.2)]
  unfold dwords
  rw [e1]; simp
/-- The last word with ';' behind it. -/
def mark (ls : List (List UInt8)) : List (List UInt8) := ls.dropLast ++ [(ls.getLast?.getD []) ++ [59]]
def pwords : Int × List T3 → Ds → List (List UInt8)
  | d, [] => dwords d
  | d, e :: ds => mark (dwords d) ++ pwords e ds
theorem dwords_ne (d : Int × List T3) : dwords d ≠ [] := by simp [dwords]
theorem w_sep {ls : List (List UInt8)} (hn : ls ≠ []) (A : List (List UInt8)) : ([59, 32] : List UInt8).foldl wstep (A ++ ls) = A ++ mark ls ++ [[]] := by
  obtain ⟨B, l, rfl⟩ : ∃ B l, ls = B ++ [l] := ⟨ls.dropLast, ls.getLast hn, (List.dropLast_concat_getLast hn).symm⟩
  rw [← List.append_assoc, show ([59, 32] : List UInt8) = [59] ++ [32] from rfl, List.foldl_append, w_word [59] (A ++ B) l (by decide)]
  simp [w_blank, mark]
theorem w_plan : ∀ (d : Int × List T3) (ds : Ds) (A : List (List UInt8)), (∀ q ∈ d :: ds, draftB q = true) → (draftT d ++ ds.flatMap sepD).foldl wstep (A ++ [[]]) = A ++ pwords d ds
  | d, [], A, h => by rw [List.flatMap_nil, List.append_nil]; exact w_draft (h d (by simp)) A
  | d, e :: ds, A, h => by
    have : draftT d ++ (e :: ds).flatMap sepD = draftT d ++ ([59, 32] ++ (draftT e ++ ds.flatMap sepD)) := by rw [List.flatMap_cons]; rfl
    rw [this, List.foldl_append, List.foldl_append, w_draft (h d (by simp)), w_sep (dwords_ne d), w_plan e ds _ (fun q hq => h q (by simp [hq]))]
    simp [pwords]
theorem plan_words {p : Ds} (h : planB p = true) (hne : planT p ≠ []) : ∃ d ds, p = d :: ds ∧ wordsTo (planT p) (planT p).length = pwords d ds := by
  cases p with
  | nil => exact absurd rfl hne
  | cons d ds =>
    refine ⟨d, ds, rfl, ?_⟩
    unfold wordsTo
    rw [List.take_length]
    unfold planT
    rw [if_pos h, List.length_cons, planTo_tail d ds ds.length (Nat.le_refl _), List.take_length]
    exact w_plan d ds [] (planB_parts h).2
/-- A word is read. -/
theorem rd_s {out : Ds} {c : UInt8} (h1 : 48 ≤ c.toNat) (h2 : c.toNat ≤ 57) (hl : out.length ≤ 4) : rdStep (out, true) [115, c] = some (out ++ [((c.toNat : Int) - 48, [])], false) := by
  have he : endsS [115, c] = false := by
    unfold endsS
    have : c ≠ 59 := by apply byte_ne; show _ ≠ 59; omega
    simpa using this
  unfold rdStep cutE
  rw [he]
  simp
  omega
theorem rd_o {out : Ds} {n : Int} {acc : List T3} {o : T3} (h : stepB o = true) (hl : out.length ≤ 3) : rdStep (out ++ [(n, acc)], false) (wordT o) = some (out ++ [(n, acc ++ [o])], false) ∧
    rdStep (out ++ [(n, acc)], false) (wordT o ++ [59]) = some (out ++ [(n, acc ++ [o])], true) := by
  obtain ⟨c, h1, h2, h3, h4⟩ := step_form h
  have hc : c ≠ 59 := by apply byte_ne; show _ ≠ 59; omega
  rw [h1] at h4
  unfold stepOf at h4
  simp only [Option.some.injEq] at h4
  have e1 : endsS (wordT o) = false := by rw [h1]; unfold endsS; simpa using hc
  have e2 : endsS (wordT o ++ [59]) = true := by unfold endsS; simp
  have hadd : addStep (out ++ [(n, acc)]) o = out ++ [(n, acc ++ [o])] := by unfold addStep; simp
  have key : (if o.1 = 2 then (119 : UInt8) else 114) = 114 ∨ (if o.1 = 2 then (119 : UInt8) else 114) = 119 := by split <;> simp
  constructor
  · unfold rdStep cutE
    rw [e1, h1]
    simp only [Bool.false_eq_true, if_false]
    rw [if_neg (by simp; omega), if_neg (by simp), if_pos (by rcases key with k | k <;> rw [k] <;> decide), h4, hadd]
  · unfold rdStep cutE
    rw [e2, h1]
    simp only [if_true, List.cons_append, List.nil_append]
    have : [if o.1 = 2 then (119 : UInt8) else 114, c, 59].dropLast = [if o.1 = 2 then 119 else 114, c] := rfl
    rw [this]
    simp only
    rw [if_neg (by simp; omega), if_neg (by simp), if_pos (by rcases key with k | k <;> rw [k] <;> decide), h4, hadd]
theorem rd_os : ∀ (os : List T3) (out : Ds) (n : Int) (acc : List T3), (∀ o ∈ os, stepB o = true) → out.length ≤ 3 → (os.map wordT).foldlM rdStep (out ++ [(n, acc)], false) = some (out ++ [(n, acc ++ os)], false)
  | [], out, n, acc, _, _ => by simp
  | o :: os, out, n, acc, h, hl => by
    rw [List.map_cons, List.foldlM_cons, (rd_o (h o (by simp)) hl).1]
    show (os.map wordT).foldlM rdStep _ = _
    rw [rd_os os out n (acc ++ [o]) (fun q hq => h q (by simp [hq])) hl]
    simp
theorem rd_draft {d : Int × List T3} {out : Ds} (h : draftB d = true) (hl : out.length ≤ 3) : (dwords d).foldlM rdStep (out, true) = some (out ++ [d], false) ∧ (mark (dwords d)).foldlM rdStep (out, true) = some (out ++ [d], true) := by
  obtain ⟨c, e1, e2, e3, e4, _⟩ := draft_form h
  obtain ⟨_, _, hs⟩ := draftB_partsT h
  have hs' : ∀ o ∈ d.2, stepB o = true := fun o ho => (hs o ho).2.2
  have hne : d.2 ≠ [] := by
    unfold draftB at h
    simp only [Bool.and_eq_true, inB_iff] at h
    intro e; rw [e] at h; simp at h
  unfold dwords
  rw [e1]
  constructor
  · rw [List.foldlM_cons, rd_s e2 e3 (by omega)]
    show (d.2.map wordT).foldlM rdStep _ = _
    rw [rd_os d.2 out _ [] hs' hl, e4]
    simp
  · obtain ⟨os, o, ho⟩ : ∃ os o, d.2 = os ++ [o] := ⟨d.2.dropLast, d.2.getLast hne, (List.dropLast_concat_getLast hne).symm⟩
    have hm : mark ([115, c] :: d.2.map wordT) = [115, c] :: (os.map wordT ++ [wordT o ++ [59]]) := by
      rw [ho]
      unfold mark
      rw [List.map_append, List.map_cons, List.map_nil, ← List.cons_append, List.dropLast_concat, List.getLast?_concat]
      rfl
    rw [hm, List.foldlM_cons, rd_s e2 e3 (by omega)]
    show (os.map wordT ++ [wordT o ++ [59]]).foldlM rdStep _ = _
    rw [List.foldlM_append, rd_os os out _ [] (fun q hq => hs' q (by rw [ho]; simp [hq])) hl]
    show [wordT o ++ [59]].foldlM rdStep _ = _
    rw [List.foldlM_cons, (rd_o (hs' o (by rw [ho]; simp)) hl).2]
    show some _ = some _
    rw [List.nil_append, ← ho, e4]
theorem rd_pwords : ∀ (d : Int × List T3) (ds out : Ds), (∀ q ∈ d :: ds, draftB q = true) → out.length + ds.length ≤ 3 → (pwords d ds).foldlM rdStep (out, true) = some (out ++ d :: ds, false)
  | d, [], out, h, hl => (rd_draft (h d (by simp)) (by simpa using hl)).1
  | d, e :: ds, out, h, hl => by
    rw [List.length_cons] at hl
    show (mark (dwords d) ++ pwords e ds).foldlM rdStep _ = _
    rw [List.foldlM_append, (rd_draft (h d (by simp)) (by omega)).2]
    show (pwords e ds).foldlM rdStep _ = _
    rw [rd_pwords e ds _ (fun q hq => h q (by simp [hq])) (by rw [List.length_append, List.length_singleton]; omega)]
    simp
theorem rd_plan {p : Ds} {s : List UInt8} (h : planB p = true) (hs : planT p = s) (hne : s ≠ []) : rdTo (wordsTo s s.length) (wordsTo s s.length).length = some (p, false) := by
  subst hs
  obtain ⟨d, ds, rfl, hw⟩ := plan_words h hne
  unfold rdTo
  rw [List.take_length, hw]
  obtain ⟨h4, h5⟩ := planB_parts h
  rw [List.length_cons] at h4
  exact rd_pwords d ds [] h5 (by simp; omega)

end Go.Proofs.YtefopnkicllpeaaDoor

namespace Go.Proofs.YtefopnkicllpeaaDoor
open Go.RowKit

theorem fieldsOp : Tryd.prog.underlying 42 = some (.struct (Tryd.prog.fieldsOf 42)) := by kernel_rfl
theorem heldOp : Tryd.prog.stoodInHeld 42 = false := by kernel_rfl
theorem guardOp : Tryd.prog.eqGuardType Tryd.prog.depth 42 = false := by kernel_rfl
theorem equalInOp (w : World) (a b c a' b' c' : Int) : (Op.equalIn 10000 42 (.agg #[.int .i64 a, .int .i64 b, .int .i64 c]) (.agg #[.int .i64 a', .int .i64 b', .int .i64 c'])).run Tryd.prog w = .ok (a == a' && (b == b' && c == c')) w := by
  have z3 := Tryd.sizeOf3
  have a3 := Tryd.isAgg3
  have u3 := Tryd.underlying3
  rw [show (10000 : Nat) = 9999 + 1 from rfl, run_equalIn_agg w 9999 42 _ _ fieldsOp heldOp]
  simp only [Program.fieldsOf, Tryd.underlying42]
  go_simp
  by_cases h1 : a = a' <;> by_cases h2 : b = b' <;> by_cases h3 : c = c' <;> simp [h1, h2, h3]
theorem eqOpL (w : World) (a b c a' b' c' : Int) : (binOp .eql 42 (.agg #[.int .i64 a, .int .i64 b, .int .i64 c]) (.agg #[.int .i64 a', .int .i64 b', .int .i64 c'])).run Tryd.prog w = .ok (.bool (a == a' && (b == b' && c == c'))) w := by
  rw [run_eql_struct, equalInOp]; rfl
theorem neqOpL (w : World) (a b c a' b' c' : Int) : (binOp .neq 42 (.agg #[.int .i64 a, .int .i64 b, .int .i64 c]) (.agg #[.int .i64 a', .int .i64 b', .int .i64 c'])).run Tryd.prog w = .ok (.bool (!(a == a' && (b == b' && c == c')))) w := by
  rw [run_neq_struct, equalInOp]; rfl
theorem eqOpL_same (w : World) (a b c : Int) : (binOp .eql 42 (.agg #[.int .i64 a, .int .i64 b, .int .i64 c]) (.agg #[.int .i64 a, .int .i64 b, .int .i64 c])).run Tryd.prog w = .ok (.bool true) w := by rw [eqOpL]; simp
theorem neqOpL_same (w : World) (a b c : Int) : (binOp .neq 42 (.agg #[.int .i64 a, .int .i64 b, .int .i64 c]) (.agg #[.int .i64 a, .int .i64 b, .int .i64 c])).run Tryd.prog w = .ok (.bool false) w := by rw [neqOpL]; simp

set_option maxHeartbeats 2000000 in
theorem sameOps_c {u v : Value} {n m : Nat} {ts : List T3} {w : World} (hu : S3 w u n ts) (hv : S3 w v m ts) :
    Calls Tryd.prog 17 #[u, v] w fun e w' => e = .returned (.bool true) ∧ Below w.heap.size w w' := by
  obtain ⟨A, c, rfl, _, hn, ha⟩ := hu
  obtain ⟨B, d, rfl, _, hm, hb⟩ := hv
  obtain rfl : n = m := ha.len.symm.trans hb.len
  have hq := fun w x y z => neqOpL_same w x y z
  go_enter Tryd.func17, Tryd.ntmps17
  go_wp2_with fail
  go_loopw [5] (fun i wr => ∃ k : Nat, k ≤ n ∧ i = .int .i64 k ∧ Below w.heap.size w wr) (fun i _ => n - (intOf i).toNat)
  case atStart => exact ⟨0, Nat.zero_le _, rfl, Below.refl _ _⟩
  case round =>
    obtain ⟨k, hk, rfl, hbel⟩ := hrel
    by_cases hlt : k < n
    · obtain ⟨b1, o1, x, y, z, rfl, hb1, hx, p0, p1, p2⟩ := ha.at_ hlt
      obtain ⟨b2, o2, x', y', z', rfl, hb2, hx', q0, q1, q2⟩ := hb.at_ hlt
      have e := hx.symm.trans hx'
      injection e with e
      obtain ⟨rfl, rfl, rfl⟩ : x = x' ∧ y = y' ∧ z = z' := by simpa using e
      have c0 := (hbel.cell (p := ⟨b1, o1 + k * 3, none⟩) hb1).trans p0
      have c1 := (hbel.cell (p := ⟨b1, o1 + k * 3 + 1, none⟩) hb1).trans p1
      have c2 := (hbel.cell (p := ⟨b1, o1 + k * 3 + 2, none⟩) hb1).trans p2
      have d0 := (hbel.cell (p := ⟨b2, o2 + k * 3, none⟩) hb2).trans q0
      have d1 := (hbel.cell (p := ⟨b2, o2 + k * 3 + 1, none⟩) hb2).trans q1
      have d2 := (hbel.cell (p := ⟨b2, o2 + k * 3 + 2, none⟩) hb2).trans q2
      have k0 : (0 : Int) ≤ k := by omega
      have k1 : (k : Int) < n := by omega
      clear hx hx' e p0 p1 p2 q0 q1 q2
      go_wp2_with fail
      go_region
      all_goals
        go_wp2_with fail
        go_roundw
      case rel => exact ⟨k + 1, by omega, by go_num, hbel.drew⟩
      case measure => simp [intOf]; omega
    · obtain rfl : k = n := by omega
      go_wp2_with fail
      go_ret
      exact ⟨rfl, hbel⟩

end Go.Proofs.YtefopnkicllpeaaDoor

namespace Go.Proofs.YtefopnkicllpeaaDoor
open Go.RowKit

theorem last_digs {c : UInt8} (h : 48 ≤ c.toNat) : c ≠ 32 := fun e => by rw [e] at h; exact absurd h (by decide)
theorem last_step {o : T3} (h : stepB o = true) : ∃ c : UInt8, (stepT o).getLast? = some c ∧ c ≠ 32 := by
  obtain ⟨c, hc, h1, _, _⟩ := step_form h
  refine ⟨c, ?_, last_digs h1⟩
  have : stepT o = 32 :: wordT o := rfl
  rw [this, hc]; rfl
theorem last_draft {d : Int × List T3} (h : draftB d = true) : ∃ c : UInt8, (draftT d).getLast? = some c ∧ c ≠ 32 := by
  obtain ⟨c, hc, h1, _, _, _⟩ := draft_form h
  obtain ⟨_, _, h5⟩ := draftB_partsT h
  unfold draftT
  rcases List.eq_nil_or_concat d.2 with hn | ⟨os, o, hn⟩
  · rw [hn, hc]; exact ⟨c, rfl, last_digs h1⟩
  · obtain ⟨c2, hc2, h2⟩ := last_step (h5 o (by rw [hn]; simp)).2.2
    refine ⟨c2, ?_, h2⟩
    rw [hn, List.concat_eq_append, List.flatMap_append]
    have e : [o].flatMap stepT = stepT o := by simp
    rw [e, ← List.append_assoc, ← List.cons_append, List.getLast?_append, hc2]; rfl
theorem plan_no_space {p : Ds} {s : List UInt8} (h : planB p = true) : planT p ≠ s ++ [32] := fun e => by
  obtain ⟨h4, h5⟩ := planB_parts h
  unfold planT at e
  rw [if_pos h] at e
  rcases List.eq_nil_or_concat p with hn | ⟨q, d, hn⟩
  · subst hn; simp [planTo] at e
  · rw [List.concat_eq_append] at hn
    subst hn
    have hk : (q ++ [d])[q.length]? = some d := by simp
    rw [show (q ++ [d]).length = q.length + 1 by simp, planTo_succ hk] at e
    obtain ⟨c, hc, h1⟩ := last_draft (h5 d (by simp))
    have := congrArg List.getLast? e
    rw [List.getLast?_append, List.getLast?_append, hc] at this
    simp at this
    exact h1 this
theorem planT_nil {p : Ds} (h : planB p = true) (hs : planT p = []) : p = [] := by
  cases p with
  | nil => rfl
  | cons d ds =>
    unfold planT at hs
    rw [if_pos h, List.length_cons, planTo_tail d ds ds.length (Nat.le_refl _)] at hs
    simp [draftT] at hs

end Go.Proofs.YtefopnkicllpeaaDoor

namespace Go.Proofs.YtefopnkicllpeaaDoor
open Go.ChangeShapes Go.WideShapes Go.ChangeAt Go.RowKit

theorem own : ownKnob Tryd.prog.godebug = none := by kernel_rfl
theorem laidOut : laidOutB Tryd.prog = true := by kernel_rfl

set_option maxRecDepth 100000 in
theorem open_bytesA {H : Type} {enc : TypeId × Value → H} {W : World} {base : Nat} {sp : Nat → Bool} {hd : Bool} {b0 : Nat} {v : Value} {d : DataW H} {p : List MemPlace} (hv : Value.okWide Tryd.prog W .any base 28 v) (h : DataW.Trod enc Tryd.prog W b0 sp hd 28 v d p) :
    ∃ a n c, v = .slice a n c ∧ n ≤ c ∧ c ≤ maxLen ∧ BY W W.heap.size a n := by
  obtain ⟨a, n, c, rfl⟩ := okWide_slice Tryd.underlying28 hv
  obtain ⟨fuel, hf⟩ := h
  have hf' : DataW.trod enc Tryd.prog W b0 sp hd fuel 28 [.slice a n c] = some (d, p) := by simpa [Value.cells] using hf
  rcases open_ints Tryd.underlying28 Tryd.underlying5 (by kernel_rfl) hf' with ⟨hcs, _⟩ | ⟨y, l, k, zs, hcs, _, hl, hm, hz, _, hcell, hwf⟩
  · simp at hcs
    obtain ⟨rfl, rfl, rfl⟩ := hcs
    exact ⟨none, 0, 0, rfl, Nat.le_refl _, Nat.zero_le _, fun k hk => absurd hk (by omega)⟩
  · simp at hcs
    obtain ⟨rfl, rfl, rfl⟩ := hcs
    have hz' : n ≤ zs.length := by rw [hz]; split <;> omega
    refine ⟨_, n, c, rfl, hl, hm, fun j hj => ?_⟩
    have hc0 := hcell 0 (by omega)
    obtain ⟨b, off, sp0⟩ := y
    have hsp : sp0 = none := by
      cases sp0 with
      | none => rfl
      | some s =>
        simp only [Addr.add, World.cell?] at hc0
        split at hc0
        · simp at hc0
        · cases hc0
    subst hsp
    have hadd : ∀ k : Nat, (⟨b, off, none⟩ : Addr).add k = ⟨b, off + k, none⟩ := fun k => by unfold Addr.add; split <;> simp_all
    have hj' : j < zs.length := by omega
    have hc := hcell j hj'
    rw [hadd] at hc
    obtain ⟨h0, h1⟩ := bounds_u8 (hwf (zs[j]) (List.getElem_mem hj'))
    refine ⟨b, off, zs[j], rfl, World.block_lt_of_cell? W _ hc, ?_, h0, h1⟩
    rw [hc]; simp [hj']

end Go.Proofs.YtefopnkicllpeaaDoor
