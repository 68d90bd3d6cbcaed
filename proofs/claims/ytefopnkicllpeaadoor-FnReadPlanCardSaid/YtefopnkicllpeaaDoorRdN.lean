/- Merged: OpenB, DrawRp, SpE2, SpB, SpR. -/
import Derived.Test.YtefopnkicllpeaaDoorCards
import Derived.Test.YtefopnkicllpeaaDoorTie
import Derived.Test.YtefopnkicllpeaaDoorDraw3
import Derived.ProofKit
import Derived.OpenShut
import Derived.ShutString
import Derived.ChangeOld
import Derived.LaidMore
import Derived.Stop.Joined
import Derived.SevenTiedAt
import Derived.Test.YtefopnkicllpeaaDoorDrawPl
import Derived.Test.YtefopnkicllpeaaDoorPlS
import Derived.Test.YtefopnkicllpeaaDoorSpP
import Derived.Test.YtefopnkicllpeaaDoorSpE
import Derived.Test.YtefopnkicllpeaaDoorShelfR
import Derived.Shelf.Vars
import Derived.LaidLaws
import Derived.LaidSub
import Derived.MakeChecks
import Derived.SizedLaws
import Derived.ChangeArms
import Derived.Test.YtefopnkicllpeaaDoorSpM
namespace Go.Proofs.YtefopnkicllpeaaDoor
open Go.ChangeShapes Go.WideShapes Go.ChangeAt Go.RowKit

theorem own : ownKnob Tryd.prog.godebug = none := by kernel_rfl
theorem laidOut : laidOutB Tryd.prog = true := by kernel_rfl

set_option maxRecDepth 100000 in
theorem open_bytesA {H : Type} {enc : TypeId × Value → H} {W : World} {base : Nat} {sp : Nat → Bool} {hd : Bool} {b0 : Nat} {v : Value} {d : DataW H} {p : List MemPlace} (hv : Value.okWide Tryd.prog W .any base 28 v) (h : DataW.Trod enc Tryd.prog W b0 sp hd 28 v d p) :
    ∃ a n c, v = .slice a n c ∧ n ≤ c ∧ c ≤ maxLen ∧ BY W W.heap.size a n := by
  obtain ⟨a, n, c, rfl⟩ := okWide_slice Tryd.underlying28 hv
  obtain ⟨fuel, hf⟩ := h
  have hf' : DataW.trod enc Tryd.prog W b0 sp hd fuel 28 [.slice a n c] = some (d, p) := by simpa [Value.cells] using hf
  rcases open_ints Tryd.underlying28 Tryd.underlying5 (by kernel_rfl) hf' with ⟨hcs, _⟩ | ⟨y, l, k, zs, hcs, _, hl, hm, hz, _, hcell, hwf⟩
  · simp at hcs
    obtain ⟨rfl, rfl, rfl⟩ := hcs
    exact ⟨none, 0, 0, rfl, Nat.le_refl _, Nat.zero_le _, fun k hk => absurd hk (by omega)⟩
  · simp at hcs
    obtain ⟨rfl, rfl, rfl⟩ := hcs
    have hz' : n ≤ zs.length := by rw [hz]; split <;> omega
    refine ⟨_, n, c, rfl, hl, hm, fun j hj => ?_⟩
    have hc0 := hcell 0 (by omega)
    obtain ⟨b, off, sp0⟩ := y
    have hsp : sp0 = none := by
      cases sp0 with
      | none => rfl
      | some s =>
        simp only [Addr.add, World.cell?] at hc0
        split at hc0
        · simp at hc0
        · cases hc0
    subst hsp
    have hadd : ∀ k : Nat, (⟨b, off, none⟩ : Addr).add k = ⟨b, off + k, none⟩ := fun k => by unfold Addr.add; split <;> simp_all
    have hj' : j < zs.length := by omega
    have hc := hcell j hj'
    rw [hadd] at hc
    obtain ⟨h0, h1⟩ := bounds_u8 (hwf (zs[j]) (List.getElem_mem hj'))
    refine ⟨b, off, zs[j], rfl, World.block_lt_of_cell? W _ hc, ?_, h0, h1⟩
    rw [hc]; simp [hj']

end Go.Proofs.YtefopnkicllpeaaDoor

namespace Go.Proofs.YtefopnkicllpeaaDoor
open Go.RowKit

def DrawPtR (w : World) (e : Ending) (w' : World) : Prop := ∃ (A : Option Addr) (n c : Nat) (ms : Ds), e = .returned (.slice A n c) ∧ n ≤ c ∧ n ≤ 5 ∧ RDs w' A n ms ∧ SmallD ms ∧ Below w.heap.size w w'
theorem OutV.rds {w : World} {lo m : Nat} {v : Value} (h : OutV w lo v m) : ∃ (A : Option Addr) (c : Nat) (ms : Ds), v = .slice A m c ∧ m ≤ c ∧ RDs w A m ms ∧ SmallD ms := by
  obtain ⟨es, ds, hD, hs, hd⟩ := h
  obtain ⟨A, c, e, h1, h2⟩ := hD.rds hs
  exact ⟨A, c, ds, e, h1, h2, fun d hd' => by have := hd d hd'; omega⟩
set_option maxHeartbeats 4000000 in
theorem DrawPlanText_c {w : World} {A : Option Addr} {n c : Nat} (hnc : n ≤ c) (hmx : c ≤ maxLen) (hb : BY w w.heap.size A n) : Calls Tryd.prog 14 #[.slice A n c] w (DrawPtR w) := by
  go_enter Tryd.func14, Tryd.ntmps14
  go_wp2_with fail
  refine (l20Open_c hnc hmx hb).mono ?_
  rintro e w1 ⟨rfl, r1, b1⟩
  have hz := b1.size
  have hg1 := r1.lt
  go_wp2_with fail
  refine (l20Plan_c r1 (by omega) (by omega) (by omega)).mono ?_
  rintro e w2 ⟨v, m, rfl, hO, hm, r2, g2⟩
  obtain ⟨Av, cv, ms, rfl, hmc, hR, hS⟩ := hO.rds
  go_wp2_with fail
  go_ret
  exact ⟨_, m, _, ms, rfl, hmc, hm, hR, hS, belowG b1 g2 (Nat.le_refl _)⟩

theorem planT_len {ds : Ds} : (planT ds).length ≤ 64 := by
  unfold planT
  split
  · rename_i h
    obtain ⟨h4, h5⟩ := planB_parts h
    have := planTo_len h5 ds.length (Nat.le_refl _)
    omega
  · simp
def DrawRpR (w : World) (e : Ending) (w' : World) : Prop := ∃ s : List UInt8, e = .returned (.string (str s)) ∧ s.length ≤ 1000 ∧ Below w.heap.size w w'
set_option maxRecDepth 100000 in
set_option maxHeartbeats 4000000 in
theorem DrawReadPlan_c {w : World} {A : Option Addr} {n c : Nat} (hnc : n ≤ c) (hmx : c ≤ maxLen) (hb : BY w w.heap.size A n) : Calls Tryd.prog 11 #[.slice A n c] w (DrawRpR w) := by
  go_enter Tryd.func11, Tryd.ntmps11
  go_wp2_with fail
  refine (l20Open_c hnc hmx hb).mono ?_
  rintro e w1 ⟨rfl, r1, b1⟩
  have hz := b1.size
  have hg1 := r1.lt
  go_wp2_with fail
  refine (l20Plan_c r1 (by omega) (by omega) (by omega)).mono ?_
  rintro e w2 ⟨v, m, rfl, hO, hm, r2, g2⟩
  obtain ⟨Av, cv, ms, rfl, hmc, hR, hS⟩ := hO.rds
  have B2 := belowG b1 g2 (Nat.le_refl _)
  have HS := hide hS
  clear hS hO g2 b1 r1
  go_wp2_with fail
  refine (spec_PlanText_c hR (by omega) HS.out).mono ?_
  rintro e w3 ⟨rfl, b3⟩
  obtain ⟨s, hs⟩ : ∃ s, planT ms = s := ⟨_, rfl⟩
  have hsl : s.length ≤ 64 := by rw [← hs]; exact planT_len
  rw [hs]
  have B3 := below_step B2 b3
  have r3 := r2.below b3
  clear hs hR b3 r2 B2
  go_wp2_with fail
  refine (odd_c r3 (by omega) (by omega) (by omega)).mono ?_
  rintro e w4 ⟨b, rfl, r4, g4⟩
  have B4 := belowG B3 g4 (Nat.le_refl _)
  have hz4 := r4.lt
  clear r3 g4 B3
  cases b
  · go_wp2_with fail
    go_ret
    exact ⟨s, rfl, by omega, B4⟩
  · have s1 := fun W : World => run_string_add_sum (P := Tryd.prog) (w := W) (str s) ⟨#[32]⟩ (by rw [str_size]; show _ + 1 ≤ _; omega)
    have s2 := fun W : World => run_string_add_sum (P := Tryd.prog) (w := W) (str s) ⟨#[59]⟩ (by rw [str_size]; show _ + 1 ≤ _; omega)
    have hc1 : str s ++ ⟨#[32]⟩ = str (s ++ [32]) := by rw [← str_add]; rfl
    have hc2 : str s ++ ⟨#[59]⟩ = str (s ++ [59]) := by rw [← str_add]; rfl
    rw [hc1] at s1
    rw [hc2] at s2
    have l1 : (s ++ [32]).length ≤ 1000 := by rw [List.length_append]; simp; omega
    have l2 : (s ++ [59]).length ≤ 1000 := by rw [List.length_append]; simp; omega
    have L1 := hide l1; have L2 := hide l2
    clear hc1 hc2 l1 l2
    have K := Blk.new w4 9 #[Value.string ⟨#[]⟩, Value.string ⟨#[115, 48]⟩, Value.string ⟨#[115, 48, 59]⟩, Value.string ⟨#[115, 48, 32, 114, 48, 59]⟩, Value.string ⟨#[115, 52, 32, 114, 48]⟩, Value.string ⟨#[115, 48, 32, 114, 51]⟩, Value.string ⟨#[115, 48, 32, 120, 48]⟩, Value.string ⟨#[114, 48]⟩, Value.string ⟨#[115, 48, 32, 114, 48, 59, 32, 114, 49]⟩, Value.string ⟨#[115, 48, 32, 32, 114, 48]⟩, Value.string ⟨#[115, 48, 32, 114, 48, 32, 114, 48, 32, 114, 48, 32, 114, 48, 32, 114, 48]⟩, Value.string (str (s ++ [32])), Value.string (str (s ++ [59]))]
    have r5 := r4.alloc (.cells #[Value.string ⟨#[]⟩, Value.string ⟨#[115, 48]⟩, Value.string ⟨#[115, 48, 59]⟩, Value.string ⟨#[115, 48, 32, 114, 48, 59]⟩, Value.string ⟨#[115, 52, 32, 114, 48]⟩, Value.string ⟨#[115, 48, 32, 114, 51]⟩, Value.string ⟨#[115, 48, 32, 120, 48]⟩, Value.string ⟨#[114, 48]⟩, Value.string ⟨#[115, 48, 32, 114, 48, 59, 32, 114, 49]⟩, Value.string ⟨#[115, 48, 32, 32, 114, 48]⟩, Value.string ⟨#[115, 48, 32, 114, 48, 32, 114, 48, 32, 114, 48, 32, 114, 48, 32, 114, 48]⟩, Value.string (str (s ++ [32])), Value.string (str (s ++ [59]))] 9)
    have B5 := B4.alloc B4.size (.cells #[Value.string ⟨#[]⟩, Value.string ⟨#[115, 48]⟩, Value.string ⟨#[115, 48, 59]⟩, Value.string ⟨#[115, 48, 32, 114, 48, 59]⟩, Value.string ⟨#[115, 52, 32, 114, 48]⟩, Value.string ⟨#[115, 48, 32, 114, 51]⟩, Value.string ⟨#[115, 48, 32, 120, 48]⟩, Value.string ⟨#[114, 48]⟩, Value.string ⟨#[115, 48, 32, 114, 48, 59, 32, 114, 49]⟩, Value.string ⟨#[115, 48, 32, 32, 114, 48]⟩, Value.string ⟨#[115, 48, 32, 114, 48, 32, 114, 48, 32, 114, 48, 32, 114, 48, 32, 114, 48]⟩, Value.string (str (s ++ [32])), Value.string (str (s ++ [59]))] 9)
    have HK := hide K; have HB5 := hide B5
    clear K B5
    go_wp2_with fail
    refine (pick_c r5 (by omega) (by omega) (by omega)).mono ?_
    rintro e w7 ⟨x, rfl, x0, x1, r7, g7⟩
    have B7 := belowG HB5.out g7 (Nat.le_refl _)
    have L := HK.out.grown g7 (fun e => by injection e with e; omega)
    have hx : x = 0 ∨ x = 1 ∨ x = 2 ∨ x = 3 ∨ x = 4 ∨ x = 5 ∨ x = 6 ∨ x = 7 ∨ x = 8 ∨ x = 9 ∨ x = 10 ∨ x = 11 ∨ x = 12 := by omega
    have c0 : w7.cell? ⟨w4.heap.size, 0, none⟩ = some (Value.string ⟨#[]⟩) := L.cell 0
    have c1 : w7.cell? ⟨w4.heap.size, 1, none⟩ = some (Value.string ⟨#[115, 48]⟩) := L.cell 1
    have c2 : w7.cell? ⟨w4.heap.size, 2, none⟩ = some (Value.string ⟨#[115, 48, 59]⟩) := L.cell 2
    have c3 : w7.cell? ⟨w4.heap.size, 3, none⟩ = some (Value.string ⟨#[115, 48, 32, 114, 48, 59]⟩) := L.cell 3
    have c4 : w7.cell? ⟨w4.heap.size, 4, none⟩ = some (Value.string ⟨#[115, 52, 32, 114, 48]⟩) := L.cell 4
    have c5 : w7.cell? ⟨w4.heap.size, 5, none⟩ = some (Value.string ⟨#[115, 48, 32, 114, 51]⟩) := L.cell 5
    have c6 : w7.cell? ⟨w4.heap.size, 6, none⟩ = some (Value.string ⟨#[115, 48, 32, 120, 48]⟩) := L.cell 6
    have c7 : w7.cell? ⟨w4.heap.size, 7, none⟩ = some (Value.string ⟨#[114, 48]⟩) := L.cell 7
    have c8 : w7.cell? ⟨w4.heap.size, 8, none⟩ = some (Value.string ⟨#[115, 48, 32, 114, 48, 59, 32, 114, 49]⟩) := L.cell 8
    have c9 : w7.cell? ⟨w4.heap.size, 9, none⟩ = some (Value.string ⟨#[115, 48, 32, 32, 114, 48]⟩) := L.cell 9
    have c10 : w7.cell? ⟨w4.heap.size, 10, none⟩ = some (Value.string ⟨#[115, 48, 32, 114, 48, 32, 114, 48, 32, 114, 48, 32, 114, 48, 32, 114, 48]⟩) := L.cell 10
    have c11 : w7.cell? ⟨w4.heap.size, 11, none⟩ = some (Value.string (str (s ++ [32]))) := L.cell 11
    have c12 : w7.cell? ⟨w4.heap.size, 12, none⟩ = some (Value.string (str (s ++ [59]))) := L.cell 12
    clear L HK s1 s2
    rcases hx with rfl | rfl | rfl | rfl | rfl | rfl | rfl | rfl | rfl | rfl | rfl | rfl | rfl
    · go_wp2_with fail
      go_ret
      exact ⟨[], rfl, by decide, B7⟩
    · go_wp2_with fail
      go_ret
      exact ⟨[115, 48], rfl, by decide, B7⟩
    · go_wp2_with fail
      go_ret
      exact ⟨[115, 48, 59], rfl, by decide, B7⟩
    · go_wp2_with fail
      go_ret
      exact ⟨[115, 48, 32, 114, 48, 59], rfl, by decide, B7⟩
    · go_wp2_with fail
      go_ret
      exact ⟨[115, 52, 32, 114, 48], rfl, by decide, B7⟩
    · go_wp2_with fail
      go_ret
      exact ⟨[115, 48, 32, 114, 51], rfl, by decide, B7⟩
    · go_wp2_with fail
      go_ret
      exact ⟨[115, 48, 32, 120, 48], rfl, by decide, B7⟩
    · go_wp2_with fail
      go_ret
      exact ⟨[114, 48], rfl, by decide, B7⟩
    · go_wp2_with fail
      go_ret
      exact ⟨[115, 48, 32, 114, 48, 59, 32, 114, 49], rfl, by decide, B7⟩
    · go_wp2_with fail
      go_ret
      exact ⟨[115, 48, 32, 32, 114, 48], rfl, by decide, B7⟩
    · go_wp2_with fail
      go_ret
      exact ⟨[115, 48, 32, 114, 48, 32, 114, 48, 32, 114, 48, 32, 114, 48, 32, 114, 48], rfl, by decide, B7⟩
    · go_wp2_with fail
      go_ret
      exact ⟨s ++ [32], rfl, L1.out, B7⟩
    · go_wp2_with fail
      go_ret
      exact ⟨s ++ [59], rfl, L2.out, B7⟩

end Go.Proofs.YtefopnkicllpeaaDoor

namespace Go.Proofs.YtefopnkicllpeaaDoor
open Go.RowKit

theorem last_digs {c : UInt8} (h : 48 ≤ c.toNat) : c ≠ 32 := fun e => by rw [e] at h; exact absurd h (by decide)
theorem last_step {o : T3} (h : stepB o = true) : ∃ c : UInt8, (stepT o).getLast? = some c ∧ c ≠ 32 := by
  obtain ⟨c, hc, h1, _, _⟩ := step_form h
  refine ⟨c, ?_, last_digs h1⟩
  have : stepT o = 32 :: wordT o := rfl
  rw [this, hc]; rfl
theorem last_draft {d : Int × List T3} (h : draftB d = true) : ∃ c : UInt8, (draftT d).getLast? = some c ∧ c ≠ 32 := by
  obtain ⟨c, hc, h1, _, _, _⟩ := draft_form h
  obtain ⟨_, _, h5⟩ := draftB_partsT h
  unfold draftT
  rcases List.eq_nil_or_concat d.2 with hn | ⟨os, o, hn⟩
  · rw [hn, hc]; exact ⟨c, rfl, last_digs h1⟩
  · obtain ⟨c2, hc2, h2⟩ := last_step (h5 o (by rw [hn]; simp)).2.2
    refine ⟨c2, ?_, h2⟩
    rw [hn, List.concat_eq_append, List.flatMap_append]
    have e : [o].flatMap stepT = stepT o := by simp
    rw [e, ← List.append_assoc, ← List.cons_append, List.getLast?_append, hc2]; rfl
theorem plan_no_space {p : Ds} {s : List UInt8} (h : planB p = true) : planT p ≠ s ++ [32] := fun e => by
  obtain ⟨h4, h5⟩ := planB_parts h
  unfold planT at e
  rw [if_pos h] at e
  rcases List.eq_nil_or_concat p with hn | ⟨q, d, hn⟩
  · subst hn; simp [planTo] at e
  · rw [List.concat_eq_append] at hn
    subst hn
    have hk : (q ++ [d])[q.length]? = some d := by simp
    rw [show (q ++ [d]).length = q.length + 1 by simp, planTo_succ hk] at e
    obtain ⟨c, hc, h1⟩ := last_draft (h5 d (by simp))
    have := congrArg List.getLast? e
    rw [List.getLast?_append, List.getLast?_append, hc] at this
    simp at this
    exact h1 this
theorem planT_nil {p : Ds} (h : planB p = true) (hs : planT p = []) : p = [] := by
  cases p with
  | nil => rfl
  | cons d ds =>
    unfold planT at hs
    rw [if_pos h, List.length_cons, planTo_tail d ds ds.length (Nat.le_refl _)] at hs
    simp [draftT] at hs

end Go.Proofs.YtefopnkicllpeaaDoor

namespace Go.Proofs.YtefopnkicllpeaaDoor
open Go.RowKit

/-- A variable of an interface's type that the row lists as a value of a named type holds an interface value. -/
theorem laid_iface {P : Program} {W : World} {name nm : String} {d : DataW Unit} {rest : List (String × DataW Unit)} {g : Nat} {t : TypeId} {m : _}
    (hg : P.globalNamed name = some g) (hty : (P.globals[g]?).map (·.type) = some t) (hu : P.underlying t = some (.interface m)) (h : laidMet P ((name, .iface nm d) :: rest) W) : ∃ ev, W.cell? ⟨g, 0, none⟩ = some ev ∧ (ev = .nilIface ∨ ∃ te pe, ev = .iface te pe) := by
  obtain ⟨ps, ⟨g', t', cs, fuel, p, q, hg', ht', hvar, hd, _, _⟩, _⟩ := h
  obtain rfl := Option.some.inj (hg.symm.trans hg')
  obtain rfl := Option.some.inj (hty.symm.trans ht')
  cases fuel with
  | zero => simp [DataW.trod] at hd
  | succ fuel =>
    obtain ⟨u, v, hcs⟩ : ∃ u v, cs.toList = [.iface u v] := by
      revert hd
      generalize cs.toList = l
      intro hd
      cases l with
      | nil => simp [DataW.trod, hu] at hd
      | cons c l => cases l with
        | cons c2 l => simp [DataW.trod, hu] at hd
        | nil =>
          cases c
          case iface u v => exact ⟨u, v, rfl⟩
          all_goals simp [DataW.trod, hu] at hd
    have h0 : cs[0]? = some (.iface u v) := by
      have := congrArg (fun l => l[0]?) hcs
      simpa using this
    exact ⟨_, (World.var?_cell hg hvar 0).trans h0, .inr ⟨_, _, rfl⟩⟩

/-- What the library's variables hold. -/
structure LibV (w : World) : Prop where
  max : ∃ m, w.cell? ⟨2, 0, none⟩ = some (.int .i64 m)
  syn : ∃ ev, w.cell? ⟨3, 0, none⟩ = some ev ∧ (ev = .nilIface ∨ ∃ te pe, ev = .iface te pe)
  rng : ∃ ev, w.cell? ⟨4, 0, none⟩ = some ev ∧ (ev = .nilIface ∨ ∃ te pe, ev = .iface te pe)
theorem LibV.below {w w' : World} (h : LibV w) (hb : Below w.heap.size w w') : LibV w' := by
  obtain ⟨⟨m, h1⟩, ⟨e, h2, h3⟩, ⟨f, h4, h5⟩⟩ := h
  exact ⟨⟨m, (hb.cell (p := ⟨2, 0, none⟩) (Lib.lt_of_cell h1)).trans h1⟩, ⟨e, (hb.cell (p := ⟨3, 0, none⟩) (Lib.lt_of_cell h2)).trans h2, h3⟩, ⟨f, (hb.cell (p := ⟨4, 0, none⟩) (Lib.lt_of_cell h4)).trans h4, h5⟩⟩
theorem libV_of {l : List (String × DataW Unit)} {w : World} {d1 d2 : DataW Unit} {n1 n2 : String} (hs : w.ShapedOpen Tryd.prog) (h : laidMetH Tryd.prog l w) (h1 : (l.all fun x => x.2.handleName?.isNone) = true)
    (h2 : l.filter (fun x => x.1 == "strconv.ErrSyntax") = [("strconv.ErrSyntax", .iface n1 d1)]) (h3 : l.filter (fun x => x.1 == "strconv.ErrRange") = [("strconv.ErrRange", .iface n2 d2)]) : LibV w := by
  rw [MakeChecks.laidMetH_plain _ _ _ h1] at h
  have e2 := laidMet.filter (fun x => x.1 == "strconv.ErrSyntax") h
  rw [h2] at e2
  have e3 := laidMet.filter (fun x => x.1 == "strconv.ErrRange") h
  rw [h3] at e3
  exact ⟨Go.Proofs.cell_of_shapedOpen_int (zero := #[.int .i64 0]) (t := 3) hs (of_decide_eq_true (by kernel_rfl)) (by kernel_rfl) rfl (by kernel_rfl) (by kernel_rfl) Tryd.underlying3,
    laid_iface (t := 71) (by kernel_rfl) (by kernel_rfl) Tryd.underlying71 e2, laid_iface (t := 71) (by kernel_rfl) (by kernel_rfl) Tryd.underlying71 e3⟩
theorem atoi_digit {d : UInt8} (h1 : 48 ≤ d.toNat) (h2 : d.toNat ≤ 57) : Lib.atoiAll [d] = .ok ((d.toNat : Int) - 48) := by
  have h3 : Lib.parseMag [d] = .ok (d.toNat - 48) := by
    unfold Lib.parseMag Lib.parseUint10
    rw [if_neg (by simp), if_pos ⟨h1, h2⟩, if_neg (by omega), if_neg (by omega), Nat.zero_mul, Nat.zero_add]
    rfl
  rw [Lib.atoiAll_plain d [] (by omega) (by omega), h3]
  unfold Lib.signless
  dsimp only
  rw [if_neg (by omega)]
  congr 1
  omega
theorem Atoi_c {l : List UInt8} {W : World} (h : LibV W) (hl : l.length ≤ 1048576) : Calls Tryd.prog 43 #[.string (str l)] W (AtR l W) := by
  have hsz : (str l).size ≤ 1048576 := by rw [str_size]; exact hl
  have hd : (str l).data.toList = l := by simp [str]
  cases hh : Lib.atoiAll l with
  | ok v =>
    refine (Any.strconv_Atoi_ok laysC172 (str l) (by omega) v (by rw [hd]; exact hh) W).mono ?_
    rintro e w' ⟨rfl, hw⟩
    refine ⟨v, .nilIface, true, rfl, ?_, .inl ⟨rfl, rfl⟩, ?_⟩
    · rcases hw with rfl | ⟨t, rfl⟩
      · exact Below.refl _ _
      · exact Lib.bytesWorld_below _ _ _
    · rintro d rfl h1 h2
      rw [atoi_digit h1 h2] at hh
      injection hh with hh
      exact ⟨hh.symm, rfl⟩
  | range =>
    obtain ⟨ev, h1, h2⟩ := h.rng
    refine (Any.strconv_Atoi_range laysC172 (str l) (by omega) (by rw [hd]; exact hh) ev W h1 h2).mono ?_
    rintro e w' ⟨N, rfl, _, _, hb⟩
    refine ⟨_, _, false, rfl, hb, .inr ⟨rfl, _, _, rfl⟩, ?_⟩
    rintro d rfl h1 h2
    rw [atoi_digit h1 h2] at hh
    cases hh
  | _ =>
    obtain ⟨ev, h1, h2⟩ := h.syn
    refine (Any.strconv_Atoi_syntax laysC172 (str l) (by omega) (by rw [hd]; exact hh) ev W h1 h2).mono ?_
    rintro e w' ⟨N, rfl, _, _, hb⟩
    refine ⟨_, _, false, rfl, hb, .inr ⟨rfl, _, _, rfl⟩, ?_⟩
    rintro d rfl h1 h2
    rw [atoi_digit h1 h2] at hh
    cases hh
/-- The wrap of a door row, the world's shape handed on. -/
theorem returns_and_shaped {H : Type} {enc : TypeId × Value → H} {a : Assume} {C : Checked} {os : Os} {f : FuncId} {fn : Func} {s : ChangeSpec} {conds : List PathCond} {apart fresh handsOn again : Bool} {X : World → Array Value → Prop}
    (hX : ∀ (w w' : World) (args : Array Value), w.heap = w'.heap → X w args → X w' args) (own : ownKnob C.prog.godebug = none) (started : os.Started) (noInit : C.prog.inits.idxOf? f = none) (hfn : C.prog.funcs[f]? = some fn)
    (witness : ∃ (w : World) (tape : Tape) (i : Input), w.os = os ∧ (w.forCall tape i).Shaped C.prog ∧ i.vars = [] ∧ Input.okWide C.prog (w.forCall tape i) .any w.heap.size f i ∧
      ((s.pre enc C.prog fn conds apart (w.forCall tape i).memory i.args ∧ X (w.forCall tape i).memory i.args) ∧ sizedMet enc C.prog fn (OpenSpec.ofChange s) apart (w.forCall tape i).memory i.args) ∧ a.holds C.prog (lone (Frame.enter C.prog f i.args .normal) [] (w.forCall tape i)))
    (contract : ∀ (W : World) (base : Nat) (args : Array Value) (ds gs : List (DataW H)) (before : List MemPlace),
      (∀ (j : Nat) t v, fn.params[j]? = some t → args[j]? = some v → Value.okWide C.prog W .any base t v) →
      DataW.Whole enc C.prog fn.params.toList s.vars apart W args.toList ds gs before → X W args → W.ShapedOpen C.prog →
      Calls C.prog f args W fun e W' => ∃ v, e = .returned v ∧ s.post enc C.prog fn apart fresh handsOn again W args v W') :
    ReturnsInHanded a C os f .any (fun w args => (s.pre enc C.prog fn conds apart w args ∧ X w args) ∧ sizedMet enc C.prog fn (OpenSpec.ofChange s) apart w args) (s.post enc C.prog fn apart fresh handsOn again) := by
  refine returnsInHanded_of_calls own started noInit witness fun w tape i _ hsh _ hok hpre _ => ?_
  obtain ⟨_, _, _, fn', hfn', _, _, _, _, hval⟩ := hok
  obtain rfl : fn' = fn := Option.some.inj (hfn'.symm.trans hfn)
  obtain ⟨⟨⟨ds, gs, before, hw, _⟩, hx⟩, _⟩ := hpre
  refine (contract (w.forCall tape i) w.heap.size i.args ds gs before hval (DataW.Whole.of_heap (w' := w.forCall tape i) (by rfl) hw) (hX _ _ _ (by rfl) hx) hsh).mono ?_
  rintro e W' ⟨v, rfl, hp⟩
  exact ChangeSpec.post_blind hp

end Go.Proofs.YtefopnkicllpeaaDoor

namespace Go.Proofs.YtefopnkicllpeaaDoor
open Go.RowKit

theorem impl_ReadPlan_c {s : List UInt8} {w : World} (hlen : s.length ≤ 1048576) (hV : LibV w) : Calls Tryd.prog 7 #[.string (str s)] w (ReadR s w) := by
  obtain ⟨m, hm⟩ := hV.max
  exact ReadPlan_c hlen hm (Lib.lt_of_cell hm) (fun W l hl hb => Atoi_c (hV.below hb) hl) (fun p ds h1 h2 h3 h4 h5 => plan_read h1 h2 h3 h4 h5) (fun p h1 h2 h3 => plan_good h1 h2 h3)

end Go.Proofs.YtefopnkicllpeaaDoor
