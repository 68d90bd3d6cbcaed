/- strings.SplitSeq's closure: what it hands to the round, at any caller's invariant that abides its own variable's turn. -/
import Derived.Test.YtefopnkicllpeaaDoorSpA
import Derived.Test.YtefopnkicllpeaaDoorShelfR
import Derived.RangeFuncNested
import Derived.RangeFuncBound
import Derived.RangeFuncCalls
import Derived.RangeFuncLeaves
import Derived.Shelf.Abstract
import Derived.Shelf.RegionOpen
import Derived.OwnWalkIn
import Derived.TacticsInMore
import Derived.LoopNIn
import Derived.LoopIn
namespace Go.Proofs.YtefopnkicllpeaaDoor
open Go.RowKit Go.Shelf
attribute [local go_sem] Oper.semAt_some

/-- What is left lies in the iterator's own variable. -/
def Sc (bS : Nat) (rest : List UInt8) (W : World) : Prop := W.cell? ⟨bS, 0, none⟩ = some (.string (str rest)) ∧ W.frozen? ⟨bS, 0, none⟩ = false
def leftS (bS : Nat) (W : World) : Nat := match W.cell? ⟨bS, 0, none⟩ with
  | some (.string b) => b.size
  | _ => 0
theorem Sc.left {bS : Nat} {rest : List UInt8} {W : World} (h : Sc bS rest W) : leftS bS W = rest.length := by unfold leftS; rw [h.1]; exact str_size rest
theorem Sc.put {bS : Nat} {rest r2 : List UInt8} {W : World} (h : Sc bS rest W) : Sc bS r2 (W.setCell ⟨bS, 0, none⟩ (.string (str r2))) :=
  ⟨World.cell?_setCell_same' _ _ _ (by rw [h.1]; rfl), by rw [World.frozen?_setCell]; exact h.2⟩
set_option maxRecDepth 100000 in
set_option maxHeartbeats 4000000 in
theorem splitIt (n l bT bS bV : Nat) (m : Int) (s : List UInt8) (J Jx : List (List UInt8) → World → Prop) (hsz : s.length < 4294967281)
    (hJ : ∀ p W v, J p W → J p (W.setCell ⟨bS, 0, none⟩ v))
    (hC : ∀ p W, J p W → W.cell? ⟨bT, 0, none⟩ = some (.string (str [59, 32])) ∧ W.cell? ⟨bV, 0, none⟩ = some (.int .i64 0) ∧ W.cell? ⟨2, 0, none⟩ = some (.int .i64 m))
    (hY : ∀ pre x rest W, (∃ r, partsL [59, 32] s = pre ++ x :: r) → J pre W → Sc bS rest W → YieldAt Fence.wide (n - 1) Tryd.prog l #[.string (str x)] W fun e W' =>
      (e = .returned (.bool true) ∧ J (pre ++ [x]) W' ∧ Sc bS rest W') ∨ (e = .returned (.bool false) ∧ Jx (pre ++ [x]) W'))
    (W : World) (h0 : J [] W) (hs : Sc bS s W) :
    CallsIn Fence.wide n Tryd.prog 54 #[.func (.yield l) #[] #[], .pointer (some ⟨bT, 0, none⟩), .pointer (some ⟨bS, 0, none⟩), .pointer (some ⟨bV, 0, none⟩)] W fun e W' => (∃ v, e = .returned v) ∧
      (J (partsL [59, 32] s) W' ∨ (∃ pre, pre <+: partsL [59, 32] s ∧ Jx pre W')) := by
  refine callsIn_of_wp Tryd.func54 rfl trivial ?_ rfl
  simp only [Tryd.ntmps54, List.size_toArray, List.length_cons, List.length_nil, Nat.reduceAdd, Nat.reduceSub, Array.replicate_succ, Array.replicate_zero, List.push_toArray, List.append_toArray, List.nil_append, List.cons_append]
  obtain ⟨c1, c2, c3⟩ := hC _ _ h0
  have hlen : ((str [59, 32]).size : Int) = 2 := rfl
  have hH0 := hide h0; have HS := hide hs
  clear h0 hs
  gi_wp2
  gi_loopw [7] (fun _ wr => ∃ (pre : List (List UInt8)) (rest : List UInt8), partsL [59, 32] s = pre ++ partsL [59, 32] rest ∧ rest.length ≤ s.length ∧ J pre wr ∧ Sc bS rest wr) (fun _ wr => leftS bS wr)
  case atStart => exact ⟨[], s, rfl, Nat.le_refl _, hH0.out, HS.out⟩
  case round =>
    clear hH0 HS c1 c2 c3
    obtain ⟨pre, rest, hp, hrl, hj, hsc⟩ := hrel
    obtain ⟨c1, c2, c3⟩ := hC _ _ hj
    obtain ⟨s1, s2⟩ := hsc
    have HJ := hide hj; have HP := hide hp
    have hd : ∀ l : List UInt8, (str l).data.toList = l := fun l => by simp [str]
    have hidx := strings_Index (str rest) (str [59, 32]) m wr (by rw [str_size]; omega) c3
    rw [hd, hd] at hidx
    have hH := hide hidx
    clear hidx
    by_cases hneg : Lib.index rest [59, 32] < 0
    · have hpe := partsL_end hneg
      rw [hpe] at hp
      obtain ⟨fn, tmps, assign, body, hy, hR⟩ := hY pre rest rest wr ⟨[], hp⟩ hj ⟨s1, s2⟩
      obtain ⟨ix, hix⟩ : ∃ q, Lib.index rest [59, 32] = q := ⟨_, rfl⟩
      rw [hix] at hneg hH
      have hRH := hide hR
      have HP2 := hide hp
      clear hR hp hix hpe
      gi_wp2_with (first | (refine ⟨trivial, fun h => (by cases h), ?_⟩; gi_at_call 56; refine (callsIn_wide.2 hH.out).mono ?_; rintro e w' ⟨rfl, rfl⟩))
      refine ⟨fun h => (by cases h), hRH.out.mono ?_⟩
      rintro e W3 (⟨rfl, hJ3, hS3⟩ | ⟨rfl, hJx3⟩)
      · gi_wp2
        go_end0
        exact ⟨⟨_, rfl⟩, .inl (by rw [HP2.out]; exact hJ3)⟩
      · gi_wp2
        go_end0
        exact ⟨⟨_, rfl⟩, .inr ⟨_, by rw [HP2.out]; exact List.prefix_refl _, hJx3⟩⟩
    · obtain ⟨i, hi⟩ : ∃ i : Nat, Lib.index rest [59, 32] = i := ⟨(Lib.index rest [59, 32]).toNat, by omega⟩
      have hroom := Lib.index_room rest [59, 32] (by omega)
      rw [hi] at hroom hH
      simp only [List.length_cons, List.length_nil] at hroom
      have hpc := partsL_cut (sep := [59, 32]) (by simp) hi
      rw [hpc] at hp
      obtain ⟨fn, tmps, assign, body, hy, hR⟩ := hY pre (rest.take i) rest wr ⟨_, hp⟩ hj ⟨s1, s2⟩
      have hRH := hide hR
      have HP2 := hide hp
      have x1 := slice_hi rest (i := i) (by omega)
      have x2 := slice_lo rest (i := i + 2) (by omega)
      have x2' : ∀ w : World, (Instr.slice 9 (.string (str rest)) (some (.int .i64 ((i : Int) + 2))) none none).run Tryd.prog w = .ok (.string (str (rest.drop (i + 2)))) w := fun w => by
        have := x2 w
        rw [show (((i + 2 : Nat) : Int)) = (i : Int) + 2 by omega] at this; exact this
      have hwr : IntKind.i64.wrap ((i : Int) + 2) = (i : Int) + 2 := by rw [IntWalk.i64_left, IntWalk.wrap64_in _ (by omega)]
      have hi0 : ¬ ((i : Int) < 0) := by omega
      clear hR hp hpc hi x2 hneg
      gi_wp2_with (first | (refine ⟨trivial, fun h => (by cases h), ?_⟩; gi_at_call 56; refine (callsIn_wide.2 hH.out).mono ?_; rintro e w' ⟨rfl, rfl⟩))
      refine ⟨fun h => (by cases h), hRH.out.mono ?_⟩
      rintro e W3 (⟨rfl, hJ3, hS3⟩ | ⟨rfl, hJx3⟩)
      · obtain ⟨d1, d2, d3⟩ := hC _ _ hJ3
        obtain ⟨t1, t2⟩ := hS3
        have HJ3 := hide (hJ _ _ (.string (str (rest.drop (i + 2)))) hJ3)
        have HS3 := hide (Sc.put (r2 := rest.drop (i + 2)) (show Sc bS rest W3 from ⟨t1, t2⟩))
        gi_wp2
        go_roundw
        case rel => exact ⟨pre ++ [rest.take i], rest.drop (i + 2), by rw [HP2.out]; simp, by rw [List.length_drop]; omega, HJ3.out, HS3.out⟩
        case measure => rw [HS3.out.left, (show Sc bS rest _ from ⟨s1, s2⟩).left, List.length_drop]; omega
      · gi_wp2
        refine bodyPost_ret (results_none rfl _ _ _) rfl ?_
        exact ⟨⟨_, rfl⟩, .inr ⟨_, by rw [HP2.out]; exact ⟨partsL [59, 32] (rest.drop (i + 2)), by simp⟩, hJx3⟩⟩

end Go.Proofs.YtefopnkicllpeaaDoor
