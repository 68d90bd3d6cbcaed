/- DrawPlanText, DrawReadPlan: a drawn plan, a drawn text. -/
import Derived.Test.YtefopnkicllpeaaDoorDrawPl
import Derived.Test.YtefopnkicllpeaaDoorPlS
import Derived.Test.YtefopnkicllpeaaDoorSpP
namespace Go.Proofs.YtefopnkicllpeaaDoor
open Go.RowKit

def DrawPtR (w : World) (e : Ending) (w' : World) : Prop := ∃ (A : Option Addr) (n c : Nat) (ms : Ds), e = .returned (.slice A n c) ∧ n ≤ c ∧ n ≤ 5 ∧ RDs w' A n ms ∧ SmallD ms ∧ Below w.heap.size w w'
theorem OutV.rds {w : World} {lo m : Nat} {v : Value} (h : OutV w lo v m) : ∃ (A : Option Addr) (c : Nat) (ms : Ds), v = .slice A m c ∧ m ≤ c ∧ RDs w A m ms ∧ SmallD ms := by
  obtain ⟨es, ds, hD, hs, hd⟩ := h
  obtain ⟨A, c, e, h1, h2⟩ := hD.rds hs
  exact ⟨A, c, ds, e, h1, h2, fun d hd' => by have := hd d hd'; omega⟩
set_option maxHeartbeats 4000000 in
theorem DrawPlanText_c {w : World} {A : Option Addr} {n c : Nat} (hnc : n ≤ c) (hmx : c ≤ maxLen) (hb : BY w w.heap.size A n) : Calls Tryd.prog 14 #[.slice A n c] w (DrawPtR w) := by
  go_enter Tryd.func14, Tryd.ntmps14
  go_wp2_with fail
  refine (l20Open_c hnc hmx hb).mono ?_
  rintro e w1 ⟨rfl, r1, b1⟩
  have hz := b1.size
  have hg1 := r1.lt
  go_wp2_with fail
  refine (l20Plan_c r1 (by omega) (by omega) (by omega)).mono ?_
  rintro e w2 ⟨v, m, rfl, hO, hm, r2, g2⟩
  obtain ⟨Av, cv, ms, rfl, hmc, hR, hS⟩ := hO.rds
  go_wp2_with fail
  go_ret
  exact ⟨_, m, _, ms, rfl, hmc, hm, hR, hS, belowG b1 g2 (Nat.le_refl _)⟩

theorem planT_len {ds : Ds} : (planT ds).length ≤ 64 := by
  unfold planT
  split
  · rename_i h
    obtain ⟨h4, h5⟩ := planB_parts h
    have := planTo_len h5 ds.length (Nat.le_refl _)
    omega
  · simp
def DrawRpR (w : World) (e : Ending) (w' : World) : Prop := ∃ s : List UInt8, e = .returned (.string (str s)) ∧ s.length ≤ 1000 ∧ Below w.heap.size w w'
set_option maxRecDepth 100000 in
set_option maxHeartbeats 4000000 in
theorem DrawReadPlan_c {w : World} {A : Option Addr} {n c : Nat} (hnc : n ≤ c) (hmx : c ≤ maxLen) (hb : BY w w.heap.size A n) : Calls Tryd.prog 11 #[.slice A n c] w (DrawRpR w) := by
  go_enter Tryd.func11, Tryd.ntmps11
  go_wp2_with fail
  refine (l20Open_c hnc hmx hb).mono ?_
  rintro e w1 ⟨rfl, r1, b1⟩
  have hz := b1.size
  have hg1 := r1.lt
  go_wp2_with fail
  refine (l20Plan_c r1 (by omega) (by omega) (by omega)).mono ?_
  rintro e w2 ⟨v, m, rfl, hO, hm, r2, g2⟩
  obtain ⟨Av, cv, ms, rfl, hmc, hR, hS⟩ := hO.rds
  have B2 := belowG b1 g2 (Nat.le_refl _)
  have HS := hide hS
  clear hS hO g2 b1 r1
  go_wp2_with fail
  refine (spec_PlanText_c hR (by omega) HS.out).mono ?_
  rintro e w3 ⟨rfl, b3⟩
  obtain ⟨s, hs⟩ : ∃ s, planT ms = s := ⟨_, rfl⟩
  have hsl : s.length ≤ 64 := by rw [← hs]; exact planT_len
  rw [hs]
  have B3 := below_step B2 b3
  have r3 := r2.below b3
  clear hs hR b3 r2 B2
  go_wp2_with fail
  refine (odd_c r3 (by omega) (by omega) (by omega)).mono ?_
  rintro e w4 ⟨b, rfl, r4, g4⟩
  have B4 := belowG B3 g4 (Nat.le_refl _)
  have hz4 := r4.lt
  clear r3 g4 B3
  cases b
  · go_wp2_with fail
    go_ret
    exact ⟨s, rfl, by omega, B4⟩
  · have s1 := fun W : World => run_string_add_sum (P := Tryd.prog) (w := W) (str s) ⟨#[32]⟩ (by rw [str_size]; show _ + 1 ≤ _; omega)
    have s2 := fun W : World => run_string_add_sum (P := Tryd.prog) (w := W) (str s) ⟨#[59]⟩ (by rw [str_size]; show _ + 1 ≤ _; omega)
    have hc1 : str s ++ ⟨#[32]⟩ = str (s ++ [32]) := by rw [← str_add]; rfl
    have hc2 : str s ++ ⟨#[59]⟩ = str (s ++ [59]) := by rw [← str_add]; rfl
    rw [hc1] at s1
    rw [hc2] at s2
    have l1 : (s ++ [32]).length ≤ 1000 := by rw [List.length_append]; simp; omega
    have l2 : (s ++ [59]).length ≤ 1000 := by rw [List.length_append]; simp; omega
    have L1 := hide l1; have L2 := hide l2
    clear hc1 hc2 l1 l2
    have K := Blk.new w4 9 #[Value.string ⟨#[]⟩, Value.string ⟨#[115, 48]⟩, Value.string ⟨#[115, 48, 59]⟩, Value.string ⟨#[115, 48, 32, 114, 48, 59]⟩, Value.string ⟨#[115, 52, 32, 114, 48]⟩, Value.string ⟨#[115, 48, 32, 114, 51]⟩, Value.string ⟨#[115, 48, 32, 120, 48]⟩, Value.string ⟨#[114, 48]⟩, Value.string ⟨#[115, 48, 32, 114, 48, 59, 32, 114, 49]⟩, Value.string ⟨#[115, 48, 32, 32, 114, 48]⟩, Value.string ⟨#[115, 48, 32, 114, 48, 32, 114, 48, 32, 114, 48, 32, 114, 48, 32, 114, 48]⟩, Value.string (str (s ++ [32])), Value.string (str (s ++ [59]))]
    have r5 := r4.alloc (.cells #[Value.string ⟨#[]⟩, Value.string ⟨#[115, 48]⟩, Value.string ⟨#[115, 48, 59]⟩, Value.string ⟨#[115, 48, 32, 114, 48, 59]⟩, Value.string ⟨#[115, 52, 32, 114, 48]⟩, Value.string ⟨#[115, 48, 32, 114, 51]⟩, Value.string ⟨#[115, 48, 32, 120, 48]⟩, Value.string ⟨#[114, 48]⟩, Value.string ⟨#[115, 48, 32, 114, 48, 59, 32, 114, 49]⟩, Value.string ⟨#[115, 48, 32, 32, 114, 48]⟩, Value.string ⟨#[115, 48, 32, 114, 48, 32, 114, 48, 32, 114, 48, 32, 114, 48, 32, 114, 48]⟩, Value.string (str (s ++ [32])), Value.string (str (s ++ [59]))] 9)
    have B5 := B4.alloc B4.size (.cells #[Value.string ⟨#[]⟩, Value.string ⟨#[115, 48]⟩, Value.string ⟨#[115, 48, 59]⟩, Value.string ⟨#[115, 48, 32, 114, 48, 59]⟩, Value.string ⟨#[115, 52, 32, 114, 48]⟩, Value.string ⟨#[115, 48, 32, 114, 51]⟩, Value.string ⟨#[115, 48, 32, 120, 48]⟩, Value.string ⟨#[114, 48]⟩, Value.string ⟨#[115, 48, 32, 114, 48, 59, 32, 114, 49]⟩, Value.string ⟨#[115, 48, 32, 32, 114, 48]⟩, Value.string ⟨#[115, 48, 32, 114, 48, 32, 114, 48, 32, 114, 48, 32, 114, 48, 32, 114, 48]⟩, Value.string (str (s ++ [32])), Value.string (str (s ++ [59]))] 9)
    have HK := hide K; have HB5 := hide B5
    clear K B5
    go_wp2_with fail
    refine (pick_c r5 (by omega) (by omega) (by omega)).mono ?_
    rintro e w7 ⟨x, rfl, x0, x1, r7, g7⟩
    have B7 := belowG HB5.out g7 (Nat.le_refl _)
    have L := HK.out.grown g7 (fun e => by injection e with e; omega)
    have hx : x = 0 ∨ x = 1 ∨ x = 2 ∨ x = 3 ∨ x = 4 ∨ x = 5 ∨ x = 6 ∨ x = 7 ∨ x = 8 ∨ x = 9 ∨ x = 10 ∨ x = 11 ∨ x = 12 := by omega
    have c0 : w7.cell? ⟨w4.heap.size, 0, none⟩ = some (Value.string ⟨#[]⟩) := L.cell 0
    have c1 : w7.cell? ⟨w4.heap.size, 1, none⟩ = some (Value.string ⟨#[115, 48]⟩) := L.cell 1
    have c2 : w7.cell? ⟨w4.heap.size, 2, none⟩ = some (Value.string ⟨#[115, 48, 59]⟩) := L.cell 2
    have c3 : w7.cell? ⟨w4.heap.size, 3, none⟩ = some (Value.string ⟨#[115, 48, 32, 114, 48, 59]⟩) := L.cell 3
    have c4 : w7.cell? ⟨w4.heap.size, 4, none⟩ = some (Value.string ⟨#[115, 52, 32, 114, 48]⟩) := L.cell 4
    have c5 : w7.cell? ⟨w4.heap.size, 5, none⟩ = some (Value.string ⟨#[115, 48, 32, 114, 51]⟩) := L.cell 5
    have c6 : w7.cell? ⟨w4.heap.size, 6, none⟩ = some (Value.string ⟨#[115, 48, 32, 120, 48]⟩) := L.cell 6
    have c7 : w7.cell? ⟨w4.heap.size, 7, none⟩ = some (Value.string ⟨#[114, 48]⟩) := L.cell 7
    have c8 : w7.cell? ⟨w4.heap.size, 8, none⟩ = some (Value.string ⟨#[115, 48, 32, 114, 48, 59, 32, 114, 49]⟩) := L.cell 8
    have c9 : w7.cell? ⟨w4.heap.size, 9, none⟩ = some (Value.string ⟨#[115, 48, 32, 32, 114, 48]⟩) := L.cell 9
    have c10 : w7.cell? ⟨w4.heap.size, 10, none⟩ = some (Value.string ⟨#[115, 48, 32, 114, 48, 32, 114, 48, 32, 114, 48, 32, 114, 48, 32, 114, 48]⟩) := L.cell 10
    have c11 : w7.cell? ⟨w4.heap.size, 11, none⟩ = some (Value.string (str (s ++ [32]))) := L.cell 11
    have c12 : w7.cell? ⟨w4.heap.size, 12, none⟩ = some (Value.string (str (s ++ [59]))) := L.cell 12
    clear L HK s1 s2
    rcases hx with rfl | rfl | rfl | rfl | rfl | rfl | rfl | rfl | rfl | rfl | rfl | rfl | rfl
    · go_wp2_with fail
      go_ret
      exact ⟨[], rfl, by decide, B7⟩
    · go_wp2_with fail
      go_ret
      exact ⟨[115, 48], rfl, by decide, B7⟩
    · go_wp2_with fail
      go_ret
      exact ⟨[115, 48, 59], rfl, by decide, B7⟩
    · go_wp2_with fail
      go_ret
      exact ⟨[115, 48, 32, 114, 48, 59], rfl, by decide, B7⟩
    · go_wp2_with fail
      go_ret
      exact ⟨[115, 52, 32, 114, 48], rfl, by decide, B7⟩
    · go_wp2_with fail
      go_ret
      exact ⟨[115, 48, 32, 114, 51], rfl, by decide, B7⟩
    · go_wp2_with fail
      go_ret
      exact ⟨[115, 48, 32, 120, 48], rfl, by decide, B7⟩
    · go_wp2_with fail
      go_ret
      exact ⟨[114, 48], rfl, by decide, B7⟩
    · go_wp2_with fail
      go_ret
      exact ⟨[115, 48, 32, 114, 48, 59, 32, 114, 49], rfl, by decide, B7⟩
    · go_wp2_with fail
      go_ret
      exact ⟨[115, 48, 32, 32, 114, 48], rfl, by decide, B7⟩
    · go_wp2_with fail
      go_ret
      exact ⟨[115, 48, 32, 114, 48, 32, 114, 48, 32, 114, 48, 32, 114, 48, 32, 114, 48], rfl, by decide, B7⟩
    · go_wp2_with fail
      go_ret
      exact ⟨s ++ [32], rfl, L1.out, B7⟩
    · go_wp2_with fail
      go_ret
      exact ⟨s ++ [59], rfl, L2.out, B7⟩

end Go.Proofs.YtefopnkicllpeaaDoor
