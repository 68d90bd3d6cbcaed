/- Plans and schedules: valid ones, both. Printed by mk_plan.py. -/
import Derived.Test.YtefopnkicllpeaaDoorDrs2
import Derived.Test.YtefopnkicllpeaaDoorSmall
namespace Go.Proofs.YtefopnkicllpeaaDoor
open Go.RowKit

def stepB (s : T3) : Bool := inB s.1 1 2 && (inB s.2.1 0 2 && (s.2.2 == 0))
def draftB (d : Int × List T3) : Bool := inB d.1 0 3 && (inB (d.2.length : Int) 1 4 && d.2.all stepB)
def planB (ds : Ds) : Bool := decide (ds.length ≤ 4) && ds.all draftB
def schedB (many : Int) (xs : List Int) : Bool := inB many 0 4 && (decide (xs.length ≤ 40) && xs.all fun x => inB x 0 (many - 1))
def runB (ds : Ds) (xs : List Int) : Bool := planB ds && schedB ds.length xs
theorem all_snocA {α : Type} {p : α → Bool} {xs : List α} {k : Nat} {x : α} (h : (xs.take k).all p = true) (hx : xs[k]? = some x) (hp : p x = true) : (xs.take (k + 1)).all p = true := by
  rw [List.take_add_one, hx, List.all_append, h]; simp [hp]
theorem any_snocA {α : Type} {p : α → Bool} {xs : List α} {k : Nat} {x : α} (h : (xs.take k).any p = false) (hx : xs[k]? = some x) (hp : p x = false) : (xs.take (k + 1)).any p = false := by
  rw [List.take_add_one, hx, List.any_append, h]; simp [hp]
theorem any_atA {α : Type} {p : α → Bool} {xs : List α} {k : Nat} {x : α} (hx : xs[k]? = some x) (hp : p x = true) : xs.any p = true :=
  List.any_eq_true.2 ⟨x, List.mem_of_getElem? hx, hp⟩
theorem all_badA {α : Type} {p : α → Bool} {xs : List α} {k : Nat} {x : α} (hx : xs[k]? = some x) (hp : p x = false) : xs.all p = false := by
  rw [← Bool.not_eq_true, List.all_eq_true]; intro h; have := h x (List.mem_of_getElem? hx); rw [hp] at this; cases this
theorem not_allA {α : Type} (p : α → Bool) (xs : List α) : xs.all p = !xs.any (fun e => !p e) := by
  rw [Bool.eq_iff_iff]; simp
theorem step_cases (x y z : Int) : (inB x 1 2 = false ∧ stepB (x, y, z) = false) ∨ (inB x 1 2 = true ∧ inB y 0 2 = false ∧ stepB (x, y, z) = false) ∨
    (inB x 1 2 = true ∧ inB y 0 2 = true ∧ (z == 0) = false ∧ stepB (x, y, z) = false) ∨ (inB x 1 2 = true ∧ inB y 0 2 = true ∧ (z == 0) = true ∧ stepB (x, y, z) = true) := by
  unfold stepB
  cases inB x 1 2 <;> cases inB y 0 2 <;> cases (z == 0) <;> simp
theorem planB_bad {ds : Ds} {k : Nat} {d : Int × List T3} (hk : ds[k]? = some d) (h : draftB d = false) : planB ds = false := by simp [planB, all_badA hk h]
theorem planB_all {ds : Ds} (h : ds.all draftB = true) : planB ds = decide (ds.length ≤ 4) := by simp [planB, h]
theorem draftB_ses {f : Int} {ys : List T3} (h : inB f 0 3 = false) : draftB (f, ys) = false := by simp [draftB, h]
theorem draftB_len {f : Int} {ys : List T3} {n : Nat} (hn : ys.length = n) (h : inB (n : Int) 1 4 = false) : draftB (f, ys) = false := by subst hn; simp [draftB, h]
theorem draftB_step {f : Int} {ys : List T3} {j : Nat} {s : T3} (hj : ys[j]? = some s) (h : stepB s = false) : draftB (f, ys) = false := by simp [draftB, all_badA hj h]
theorem draftB_ok {f : Int} {ys : List T3} {n : Nat} (hn : ys.length = n) (h1 : inB f 0 3 = true) (h2 : inB (n : Int) 1 4 = true) (h3 : ys.all stepB = true) : draftB (f, ys) = true := by subst hn; simp [draftB, h1, h2, h3]

set_option maxHeartbeats 4000000 in
theorem spec_PlanValid_c {A : Option Addr} {n c : Nat} {ms : Ds} {w : World} (hr : RDs w A n ms) (hn : n ≤ 1048576) (hsm : SmallD ms) :
    Calls Tryd.prog 16 #[.slice A n c] w fun e w' => e = .returned (.bool (planB ms)) ∧ Below w.heap.size w w' := by
  have hl := hide hr.1
  go_enter Tryd.func16, Tryd.ntmps16
  go_wp2_with fail
  go_loopw [3] (fun i wr => ∃ k : Nat, k ≤ n ∧ i = .int .i64 k ∧ (ms.take k).all draftB = true ∧ Below w.heap.size w wr) (fun i _ => n - (intOf i).toNat)
  case atStart => exact ⟨0, Nat.zero_le _, rfl, by simp, Below.refl _ _⟩
  case round =>
    obtain ⟨k, hk, rfl, hall, bw⟩ := hrel
    have Hall := hide hall; clear hall
    by_cases hkn : k < n
    · obtain ⟨b, off, f, ys, B, kk, d, rfl, hbb, hx, q0, q1, hkd, hdm, hri⟩ := hr.at_ hkn
      have e0 := (bw.cell (p := ⟨b, off + k * 2, none⟩) hbb).trans q0
      have e1 := (bw.cell (p := ⟨b, off + k * 2 + 1, none⟩) hbb).trans q1
      have hsz := hsm _ (List.mem_of_getElem? hx)
      have hyl := hri.len
      have hk1 : kk ≤ 1048576 := by dsimp only at hsz; omega
      have Hx := hide hx; have Hyl := hide hyl
      have Q1 := hide q1
      clear hx q0 q1 hsz hyl
      have k0 : (0 : Int) ≤ k := by omega
      have k2 : (k : Int) < n := by omega
      cases hF : inB f 0 3
      · have hf := planB_bad Hx.out (draftB_ses hF)
        have F := hide hf; have Z := hide hF; clear hf hF
        go_wp2_with (go_at_call 38; refine (l1In_c).mono ?_; rintro e w' ⟨rfl, rfl⟩; rw [Z.out])
        go_ret
        exact ⟨by rw [F.out]; rfl, bw⟩
      · cases hL : inB (kk : Int) 1 4
        · have hf := planB_bad Hx.out (draftB_len Hyl.out hL)
          have F := hide hf; have Z := hide hF; have Y := hide hL; clear hf hF hL
          go_wp2_with (go_at_call 38; refine (l1In_c).mono ?_; rintro e w' ⟨rfl, rfl⟩; first | rw [Z.out] | rw [Y.out])
          go_ret
          exact ⟨by rw [F.out]; rfl, bw⟩
        · have Z := hide hF; have Y := hide hL; clear hF hL
          go_wp2_with (go_at_call 38; refine (l1In_c).mono ?_; rintro e w' ⟨rfl, rfl⟩; first | rw [Z.out] | rw [Y.out])
          obtain ⟨wo, hwo⟩ : ∃ wo : World, wo = wr := ⟨_, rfl⟩
          subst hwo
          clear e0 e1
          go_loopw [4] (fun i wr => ∃ j : Nat, j ≤ kk ∧ i = .int .i64 j ∧ (ys.take j).all stepB = true ∧ Below w.heap.size w wr) (fun i _ => kk - (intOf i).toNat)
          case atStart => exact ⟨0, Nat.zero_le _, rfl, by simp, bw⟩
          case round =>
            obtain ⟨j, hj, rfl, hst, bj⟩ := hrel
            have Hst := hide hst; clear hst
            have j0 : (0 : Int) ≤ j := by omega
            have e1 := (bj.cell (p := ⟨b, off + k * 2 + 1, none⟩) hbb).trans Q1.out
            by_cases hjk : j < kk
            · obtain ⟨bb, ob, x, y, z, rfl, hbb2, hs, p0, p1, p2⟩ := hri.at_ hjk
              have a0 := (bj.cell (p := ⟨bb, ob + j * 3, none⟩) hbb2).trans p0
              have a1 := (bj.cell (p := ⟨bb, ob + j * 3 + 1, none⟩) hbb2).trans p1
              have a2 := (bj.cell (p := ⟨bb, ob + j * 3 + 2, none⟩) hbb2).trans p2
              have Hs := hide hs
              have j2 : (j : Int) < kk := by omega
              have B1 : ∀ o, Below w.heap.size w (wr.alloc o) := fun o => bj.alloc bj.size o
              clear p0 p1 p2 hs
              rcases step_cases x y z with ⟨h1, hf⟩ | ⟨h1, h2, hf⟩ | ⟨h1, h2, h3, hf⟩ | ⟨h1, h2, h3, hf⟩
              · have hq := planB_bad Hx.out (draftB_step Hs.out hf)
                have F := hide hq; have H1 := hide h1; clear hf hq h1
                go_wp2_with (go_at_call 38; refine (l1In_c).mono ?_; rintro e w' ⟨rfl, rfl⟩; first | rw [H1.out])
                go_ret
                exact ⟨by rw [F.out]; rfl, B1 _⟩
              · have hq := planB_bad Hx.out (draftB_step Hs.out hf)
                have F := hide hq; have H1 := hide h1; have H2 := hide h2; clear hf hq h1 h2
                go_wp2_with (go_at_call 38; refine (l1In_c).mono ?_; rintro e w' ⟨rfl, rfl⟩; first | rw [H1.out] | rw [H2.out])
                go_ret
                exact ⟨by rw [F.out]; rfl, B1 _⟩
              · have hq := planB_bad Hx.out (draftB_step Hs.out hf)
                have F := hide hq; have H1 := hide h1; have H2 := hide h2; clear hf hq h1 h2
                go_wp2_with (go_at_call 38; refine (l1In_c).mono ?_; rintro e w' ⟨rfl, rfl⟩; first | rw [H1.out] | rw [H2.out])
                go_ret
                exact ⟨by rw [F.out]; rfl, B1 _⟩
              · have hq := all_snocA Hst.out Hs.out hf
                have F := hide hq; have H1 := hide h1; have H2 := hide h2; clear hf hq h1 h2
                go_wp2_with (go_at_call 38; refine (l1In_c).mono ?_; rintro e w' ⟨rfl, rfl⟩; first | rw [H1.out] | rw [H2.out])
                go_roundw
                case rel => exact ⟨j + 1, by omega, by go_num, F.out, B1 _⟩
                case measure => simp [intOf]; omega
            · obtain rfl : j = kk := by omega
              have hd := draftB_ok (f := f) Hyl.out Z.out Y.out (by have := Hst.out; rw [List.take_of_length_le (by rw [Hyl.out]; omega)] at this; exact this)
              have hq := all_snocA Hall.out Hx.out hd
              have F := hide hq
              clear hd hq
              go_wp2_with fail
              go_roundw
              case rel => exact ⟨k + 1, by omega, by go_num, F.out, bj⟩
              case measure => simp [intOf]; omega
    · obtain rfl : k = n := by omega
      have hf : planB ms = decide (k ≤ 4) := by
        have := Hall.out
        rw [List.take_of_length_le (by rw [hl.out]; omega)] at this
        rw [planB_all this, hl.out]
      have F := hide hf; clear hf
      go_wp2_with fail
      go_ret
      exact ⟨by rw [F.out]; simp [go_sem]; omega, bw⟩


end Go.Proofs.YtefopnkicllpeaaDoor
