/- The library's counting of trailing zeros and of ones, over its table. -/
import Derived.Test.YtcoienlblhbkpaaDoorLib2
import Derived.Shelf.Spec.TrailingZeros
import Derived.LaidMore
import Derived.OpenShut
import Derived.ProofKit
namespace Go.Proofs.YtcoienlblhbkpaaDoor
open Go.RowKit

abbrev Tab (w : World) : Prop := TabAt 1 Lib.deBruijn64tab w
theorem tab_len : Lib.deBruijn64tab.length = 64 := by decide +kernel
theorem Tab.lt {w : World} (h : Tab w) : 1 < w.heap.size := by
  have := h 0 (by rw [tab_len]; omega)
  rcases Nat.lt_or_ge 1 w.heap.size with h1 | h1
  · exact h1
  · simp [World.cell?, Array.getElem?_eq_none h1] at this
theorem Tab.below {w w' : World} (h : Tab w) (hb : Below w.heap.size w w') : Tab w' := fun j hj => (hb.cell (p := ⟨_, j, none⟩) h.lt).trans (h j hj)
theorem Tab.drew {w : World} (h : Tab w) : Tab w.drew := h
theorem Tab.drewN {w : World} (h : Tab w) (n : Nat) : Tab (w.drewN n) := h
theorem Tab.alloc {w : World} (h : Tab w) (o : Obj) : Tab (w.alloc o) := h.below ((Below.refl _ _).alloc (Nat.le_refl _) _)

set_option maxHeartbeats 1000000 in
theorem tz_core (x k idx : Nat) (w : World) (hx0 : ((x : Int) == 0) = false)
    (key : IntKind.u64.wrap (bits BinOp.and IntKind.u64 (x : Int) (IntKind.u64.wrap (-(x : Int))) * 285870213051353865) / 288230376151711744 = (idx : Int))
    (hi : idx < 64) (hk : k < 64) (hcell : w.cell? ⟨1, idx, none⟩ = some (.int .u8 k)) :
    Calls Tryd.prog 76 #[.int .u64 x] w fun e w' => e = .returned (.int .i64 k) ∧ w' = w := by
  go_enter Tryd.func76, Tryd.ntmps76
  go_wp2_with (simp only [key])
  go_ret
  exact ⟨rfl, rfl⟩
/-- TrailingZeros64 of a number with a lowest bit. -/
theorem tz64_c {x k : Nat} {w : World} (hx0 : x ≠ 0) (hx : x < 18446744073709551616) (hk : k < 64) (hlow : x &&& (18446744073709551616 - x) = 2 ^ k) (hT : Tab w) :
    Calls Tryd.prog 76 #[.int .u64 x] w fun e w' => e = .returned (.int .i64 k) ∧ w' = w := by
  obtain ⟨hi, htab⟩ := Lib.deBruijn64_at _ hk
  have hcell := hT _ (by rw [tab_len]; exact hi)
  rw [htab] at hcell
  exact tz_core x _ _ w (by simp; omega) (tz64_key x _ hx hx0 hlow) hi hk hcell
theorem tz_c {x k : Nat} {w : World} (hx0 : x ≠ 0) (hx : x < 18446744073709551616) (hk : k < 64) (hlow : x &&& (18446744073709551616 - x) = 2 ^ k) (hT : Tab w) :
    Calls Tryd.prog 65 #[.int .u64 x] w fun e w' => e = .returned (.int .i64 k) ∧ w' = w := by
  have c64 := tz64_c hx0 hx hk hlow hT
  have hw : IntKind.u64.wrap (x : Int) = (x : Int) := by rw [IntKind.wrap_u64]; omega
  go_enter Tryd.func65, Tryd.ntmps65
  go_wp2_with (go_at_call 76; refine c64.mono ?_; rintro e w' ⟨rfl, hw'⟩; rw [hw'])
  go_ret
  exact ⟨rfl, rfl⟩

theorem and127 (y : Int) : 0 ≤ bits .and .i64 y 127 ∧ bits .and .i64 y 127 ≤ 127 := by
  have h : (BitVec.ofInt 64 y &&& BitVec.ofInt 64 127).toNat ≤ 127 := by
    rw [BitVec.toNat_and]; exact Nat.and_le_right
  have e : bits .and .i64 y 127 = IntKind.i64.wrap (((BitVec.ofInt 64 y &&& BitVec.ofInt 64 127).toNat : Nat) : Int) := rfl
  rw [e, IntKind.wrap_i64]
  generalize (BitVec.ofInt 64 y &&& BitVec.ofInt 64 127).toNat = q at *
  omega
set_option maxHeartbeats 1000000 in
theorem oc64_c (x : Int) (w : World) : Calls Tryd.prog 74 #[.int .u64 x] w fun e w' => ∃ c : Int, e = .returned (.int .i64 c) ∧ 0 ≤ c ∧ c ≤ 127 ∧ w' = w := by
  go_enter Tryd.func74, Tryd.ntmps74
  go_wp2
  go_ret
  exact ⟨_, rfl, (and127 _).1, (and127 _).2, rfl⟩
theorem oc_c (x : Int) (w : World) : Calls Tryd.prog 64 #[.int .u64 x] w fun e w' => ∃ c : Int, e = .returned (.int .i64 c) ∧ 0 ≤ c ∧ c ≤ 127 ∧ w' = w := by
  go_enter Tryd.func64, Tryd.ntmps64
  go_wp2_with (go_at_call 74; refine (oc64_c _ _).mono ?_; rintro e w' ⟨c, rfl, c0, c1, hw'⟩; rw [hw'])
  go_ret
  exact ⟨_, rfl, c0, c1, rfl⟩

theorem tabG : Tryd.prog.globalNamed "math/bits.deBruijn64tab" = some 1 := by kernel_rfl
theorem tabT : (Tryd.prog.globals[1]?).map (·.type) = some 98 := by kernel_rfl
theorem tabD : (Rows.laid_math_bits_deBruijn64tab : DataW Unit) = .agg (Lib.deBruijn64tab.map fun (k : Nat) => .lit (.int .u8 (k : Int))) := by kernel_rfl
theorem tab_of_laid {n0 : String} {d0 : DataW Unit} {r : List (String × DataW Unit)} {W : World} (h : laidMet Tryd.prog ((n0, d0) :: ("math/bits.deBruijn64tab", Rows.laid_math_bits_deBruijn64tab) :: r) W) : Tab W := by
  obtain ⟨ps, ⟨g0, t0, cs0, f0, p0, q0, hg0, ht0, hv0, hd0, ⟨g1, t1, cs1, f1, p1, q1, hg1, ht1, hv1, hd1, _, _⟩, _⟩, _, _⟩ := h
  obtain rfl := Option.some.inj (tabG.symm.trans hg1)
  obtain rfl := Option.some.inj (tabT.symm.trans ht1)
  obtain ⟨xs, m1, rfl, hx1, hlen, hn3, hel⟩ := DataW.trod_array Tryd.underlying98 hd1
  have c1 : Tryd.prog.cellsOf 5 = 1 := by kernel_rfl
  have h1 : (Rows.laid_math_bits_deBruijn64tab : DataW Unit) = .agg (xs.map (·.1)) := congrArg Prod.fst hx1
  rw [tabD] at h1
  have h2 := DataW.agg.inj h1
  intro j hj
  have hj' : j < 64 := by rw [tab_len] at hj; exact hj
  have h3 := hel j hj'
  rw [c1, Nat.mul_one] at h3
  obtain ⟨x, hx⟩ : ∃ x, xs[j]? = some x := ⟨xs[j]'(by omega), List.getElem?_eq_getElem _⟩
  rw [hx] at h3
  obtain ⟨k, e1, e2, _⟩ := DataW.trod_int Tryd.underlying5 h3
  have h4 := congrArg (·[j]?) h2
  simp only [List.getElem?_map, hx, Option.map_some] at h4
  rw [show Lib.deBruijn64tab[j]? = some (Lib.deBruijn64tab.getD j 0) by rw [List.getD_eq_getElem?_getD, List.getElem?_eq_getElem hj]; rfl, Option.map_some, e2] at h4
  have h5 : k = (Lib.deBruijn64tab.getD j 0 : Int) := by
    have := Option.some.inj h4
    simpa using this.symm
  rw [World.var?_cell hg1 hv1 j, ← h5]
  have h6 := congrArg (·[0]?) e1
  simp only [List.getElem?_take, List.getElem?_drop] at h6
  simpa using h6

theorem tab_of_laidH {l : List (String × DataW Unit)} {W : World} {n0 : String} {d0 : DataW Unit} {r : List (String × DataW Unit)} (h : laidMetH Tryd.prog l W) (h1 : (l.all fun x => x.2.handleName?.isNone) = true) (h2 : l = (n0, d0) :: ("math/bits.deBruijn64tab", Rows.laid_math_bits_deBruijn64tab) :: r) : Tab W := by
  subst h2
  rw [MakeChecks.laidMetH_plain _ _ _ h1] at h
  exact tab_of_laid h

end Go.Proofs.YtcoienlblhbkpaaDoor
