/- What valid operations, transactions are; their struct ==; the reference's OpValid, TxnValid: where no plan is at hand. Printed by mk_txs.py (parts of XLw, XPlan, XPlanI, XLwS, XSameH, XRunP). -/
import Derived.Test.YtieecneknljmdaaDoorTx2
import Derived.Test.YtieecneknljmdaaDoorSmall
import Derived.Laws.StructEq
namespace Go.Proofs.YtieecneknljmdaaDoor
open Go.RowKit

def opB (o : T3) : Bool := inB o.1 1 2 && (inB o.2.1 0 2 && (inB o.2.2 0 99 && ((o.1 == 1) || decide (0 < o.2.2))))
def txnB (t : Tx) : Bool := t.2.1.all opB && (inB t.1 0 3 && decide (t.2.1.length ≤ 6))
theorem snoc_ind {α : Type} {motive : List α → Prop} (nil : motive []) (append_singleton : ∀ l a, motive l → motive (l ++ [a])) (l : List α) : motive l := by
  have h : ∀ r : List α, motive r.reverse := by
    intro r
    induction r with
    | nil => exact nil
    | cons a r ih => rw [List.reverse_cons]; exact append_singleton _ _ ih
  have := h l.reverse
  rwa [List.reverse_reverse] at this
def opsOf (ts : List Tx) (n : Nat) : List T3 := (ts.getD n (0, [], false)).2.1
theorem all_snocA {α : Type} {p : α → Bool} {xs : List α} {k : Nat} {x : α} (h : (xs.take k).all p = true) (hx : xs[k]? = some x) (hp : p x = true) : (xs.take (k + 1)).all p = true := by
  rw [List.take_add_one, hx, List.all_append, h]; simp [hp]
theorem any_snocA {α : Type} {p : α → Bool} {xs : List α} {k : Nat} {x : α} (h : (xs.take k).any p = false) (hx : xs[k]? = some x) (hp : p x = false) : (xs.take (k + 1)).any p = false := by
  rw [List.take_add_one, hx, List.any_append, h]; simp [hp]
theorem any_atA {α : Type} {p : α → Bool} {xs : List α} {k : Nat} {x : α} (hx : xs[k]? = some x) (hp : p x = true) : xs.any p = true :=
  List.any_eq_true.2 ⟨x, List.mem_of_getElem? hx, hp⟩
theorem all_badA {α : Type} {p : α → Bool} {xs : List α} {k : Nat} {x : α} (hx : xs[k]? = some x) (hp : p x = false) : xs.all p = false := by
  rw [← Bool.not_eq_true, List.all_eq_true]; intro h; have := h x (List.mem_of_getElem? hx); rw [hp] at this; cases this
theorem not_allA {α : Type} (p : α → Bool) (xs : List α) : xs.all p = !xs.any (fun e => !p e) := by
  rw [Bool.eq_iff_iff]; simp
set_option maxHeartbeats 400000 in
theorem keyOk_c {n : Int} {w : World} : Calls Tryd.prog 77 #[.int .i64 n] w fun e w' => e = .returned (.bool (inB n 0 2)) ∧ w = w' := by
  go_enter Tryd.func77, Tryd.ntmps77
  go_wp2_with (go_at_call 83; refine (within_c).mono ?_; rintro e w' ⟨rfl, rfl⟩)
  go_ret
  exact ⟨rfl, rfl⟩
set_option maxHeartbeats 400000 in
theorem sessionOk_c {n : Int} {w : World} : Calls Tryd.prog 73 #[.int .i64 n] w fun e w' => e = .returned (.bool (inB n 0 3)) ∧ w = w' := by
  go_enter Tryd.func73, Tryd.ntmps73
  go_wp2_with (go_at_call 83; refine (within_c).mono ?_; rintro e w' ⟨rfl, rfl⟩)
  go_ret
  exact ⟨rfl, rfl⟩
theorem fieldsOp : Tryd.prog.underlying 51 = some (.struct (Tryd.prog.fieldsOf 51)) := by kernel_rfl
theorem heldOp : Tryd.prog.stoodInHeld 51 = false := by kernel_rfl
theorem guardOp : Tryd.prog.eqGuardType Tryd.prog.depth 51 = false := by kernel_rfl
theorem equalInOp (w : World) (a b c a' b' c' : Int) : (Op.equalIn 10000 51 (.agg #[.int .i64 a, .int .i64 b, .int .i64 c]) (.agg #[.int .i64 a', .int .i64 b', .int .i64 c'])).run Tryd.prog w = .ok (a == a' && (b == b' && c == c')) w := by
  have z3 := Tryd.sizeOf3
  have a3 := Tryd.isAgg3
  have u3 := Tryd.underlying3
  rw [show (10000 : Nat) = 9999 + 1 from rfl, run_equalIn_agg w 9999 51 _ _ fieldsOp heldOp]
  simp only [Program.fieldsOf, Tryd.underlying51]
  go_simp
  by_cases h1 : a = a' <;> by_cases h2 : b = b' <;> by_cases h3 : c = c' <;> simp [h1, h2, h3]
theorem eqOpL (w : World) (a b c a' b' c' : Int) : (binOp .eql 51 (.agg #[.int .i64 a, .int .i64 b, .int .i64 c]) (.agg #[.int .i64 a', .int .i64 b', .int .i64 c'])).run Tryd.prog w = .ok (.bool (a == a' && (b == b' && c == c'))) w := by
  rw [run_eql_struct, equalInOp]; rfl
theorem neqOpL (w : World) (a b c a' b' c' : Int) : (binOp .neq 51 (.agg #[.int .i64 a, .int .i64 b, .int .i64 c]) (.agg #[.int .i64 a', .int .i64 b', .int .i64 c'])).run Tryd.prog w = .ok (.bool (!(a == a' && (b == b' && c == c')))) w := by
  rw [run_neq_struct, equalInOp]; rfl
theorem eqOpL_same (w : World) (a b c : Int) : (binOp .eql 51 (.agg #[.int .i64 a, .int .i64 b, .int .i64 c]) (.agg #[.int .i64 a, .int .i64 b, .int .i64 c])).run Tryd.prog w = .ok (.bool true) w := by rw [eqOpL]; simp
theorem neqOpL_same (w : World) (a b c : Int) : (binOp .neq 51 (.agg #[.int .i64 a, .int .i64 b, .int .i64 c]) (.agg #[.int .i64 a, .int .i64 b, .int .i64 c])).run Tryd.prog w = .ok (.bool false) w := by rw [neqOpL]; simp

theorem op_cases (x y z : Int) : (inB x 1 2 = false ∧ opB (x, y, z) = false) ∨ (inB x 1 2 = true ∧ inB y 0 2 = false ∧ opB (x, y, z) = false) ∨
    (inB x 1 2 = true ∧ inB y 0 2 = true ∧ inB z 0 99 = false ∧ opB (x, y, z) = false) ∨ (inB x 1 2 = true ∧ inB y 0 2 = true ∧ inB z 0 99 = true ∧ (x == 1) = true ∧ opB (x, y, z) = true) ∨
    (inB x 1 2 = true ∧ inB y 0 2 = true ∧ inB z 0 99 = true ∧ (x == 1) = false ∧ opB (x, y, z) = decide (0 < z)) := by
  unfold opB
  cases inB x 1 2 <;> cases inB y 0 2 <;> cases inB z 0 99 <;> cases (x == 1) <;> simp
set_option maxHeartbeats 2000000 in
theorem spec_OpValid_c {x y z : Int} {w : World} :
    Calls Tryd.prog 76 #[.agg #[.int .i64 x, .int .i64 y, .int .i64 z]] w fun e w' => e = .returned (.bool (opB (x, y, z))) ∧ Below w.heap.size w w' := by
  have B0 : ∀ o, Below w.heap.size w (w.alloc o) := fun o => (Below.refl _ _).alloc (Nat.le_refl _) o
  rcases op_cases x y z with ⟨h1, hf⟩ | ⟨h1, h2, hf⟩ | ⟨h1, h2, h3, hf⟩ | ⟨h1, h2, h3, h4, hf⟩ | ⟨h1, h2, h3, h4, hf⟩
  · have F := hide hf; have H1 := hide h1; clear hf h1
    go_enter Tryd.func76, Tryd.ntmps76
    go_wp2_with (go_at_call 40; refine (l1In_c).mono ?_; rintro e w' ⟨rfl, rfl⟩; first | rw [H1.out])
    go_ret
    exact ⟨by rw [F.out]; rfl, B0 _⟩
  · have F := hide hf; have H1 := hide h1; have H2 := hide h2; clear hf h1 h2
    go_enter Tryd.func76, Tryd.ntmps76
    go_wp2_with (go_at_call 40; refine (l1In_c).mono ?_; rintro e w' ⟨rfl, rfl⟩; first | rw [H1.out] | rw [H2.out])
    go_ret
    exact ⟨by rw [F.out]; rfl, B0 _⟩
  · have F := hide hf; have H1 := hide h1; have H2 := hide h2; have H3 := hide h3; clear hf h1 h2 h3
    go_enter Tryd.func76, Tryd.ntmps76
    go_wp2_with (go_at_call 40; refine (l1In_c).mono ?_; rintro e w' ⟨rfl, rfl⟩; first | rw [H1.out] | rw [H2.out] | rw [H3.out])
    go_ret
    exact ⟨by rw [F.out]; rfl, B0 _⟩
  · have F := hide hf; have H1 := hide h1; have H2 := hide h2; have H3 := hide h3; clear hf h1 h2 h3
    go_enter Tryd.func76, Tryd.ntmps76
    go_wp2_with (go_at_call 40; refine (l1In_c).mono ?_; rintro e w' ⟨rfl, rfl⟩; first | rw [H1.out] | rw [H2.out] | rw [H3.out])
    go_ret
    exact ⟨by rw [F.out]; rfl, B0 _⟩
  · have F := hide hf; have H1 := hide h1; have H2 := hide h2; have H3 := hide h3; clear hf h1 h2 h3
    go_enter Tryd.func76, Tryd.ntmps76
    go_wp2_with (go_at_call 40; refine (l1In_c).mono ?_; rintro e w' ⟨rfl, rfl⟩; first | rw [H1.out] | rw [H2.out] | rw [H3.out])
    go_ret
    exact ⟨by rw [F.out]; simp [go_sem], B0 _⟩

theorem txnB_bad {t : Tx} {k : Nat} {o : T3} (hk : t.2.1[k]? = some o) (h : opB o = false) : txnB t = false := by simp [txnB, all_badA hk h]
set_option maxHeartbeats 4000000 in
theorem spec_TxnValid_c {v : Value} {m : Nat} {ys : List T3} {f : Int} {dn : Bool} {w : World} (hv : S3 w v m ys) :
    Calls Tryd.prog 50 #[.agg #[.int .i64 f, v, .bool dn]] w fun e w' => e = .returned (.bool (txnB (f, ys, dn))) ∧ Below w.heap.size w w' := by
  have sv := hv
  obtain ⟨A, c, rfl, hnc, hm, hr⟩ := hv
  have hl := hide hr.len
  have b1 : Below w.heap.size w (w.alloc (.cells #[.int .i64 f, .slice A m c, .bool dn] 58)) := (Below.refl _ _).alloc (Nat.le_refl _) _
  have K0 := Blk.new w 58 #[.int .i64 f, .slice A m c, .bool dn]
  go_enter Tryd.func50, Tryd.ntmps50
  go_wp2_with fail
  go_loopw [3] (fun i wr => ∃ k : Nat, k ≤ m ∧ i = .int .i64 k ∧ (ys.take k).all opB = true ∧ Blk wr w.heap.size 58 #[.int .i64 f, .slice A m c, .bool dn] ∧ Below w.heap.size w wr) (fun i _ => m - (intOf i).toNat)
  case atStart => exact ⟨0, Nat.zero_le _, rfl, by simp, K0, b1⟩
  case round =>
    clear K0 b1
    obtain ⟨k, hk, rfl, hall, KR, bw⟩ := hrel
    have Hall := hide hall; have HKR := hide KR; clear hall
    obtain ⟨g0, g1, g2⟩ := KR.three
    clear KR
    by_cases hkm : k < m
    · obtain ⟨b, off, x, y, z, rfl, hbb, hx, p0, p1, p2⟩ := hr.at_ hkm
      have a0 := (bw.cell (p := ⟨b, off + k * 3, none⟩) hbb).trans p0
      have a1 := (bw.cell (p := ⟨b, off + k * 3 + 1, none⟩) hbb).trans p1
      have a2 := (bw.cell (p := ⟨b, off + k * 3 + 2, none⟩) hbb).trans p2
      have Hx := hide hx
      clear hx p0 p1 p2
      have k0 : (0 : Int) ≤ k := by omega
      have k2 : (k : Int) < m := by omega
      cases hv : opB (x, y, z)
      · have hf := txnB_bad (t := (f, ys, dn)) Hx.out hv
        have F := hide hf; have V := hide hv; clear hf hv
        go_wp2_with fail
        refine (spec_OpValid_c).mono ?_
        rintro e w2 ⟨rfl, b2⟩
        rw [V.out]
        have B2 := below_step bw b2
        go_wp2_with fail
        go_ret
        exact ⟨by rw [F.out]; rfl, B2⟩
      · have hq := all_snocA Hall.out Hx.out hv
        have F := hide hq; have V := hide hv; clear hq hv
        go_wp2_with fail
        refine (spec_OpValid_c).mono ?_
        rintro e w2 ⟨rfl, b2⟩
        rw [V.out]
        have B2 := below_step bw b2
        have K2 := HKR.out.belowAll b2
        go_wp2_with fail
        go_roundw
        case rel => exact ⟨k + 1, by omega, by go_num, F.out, K2, B2⟩
        case measure => simp [intOf]; omega
    · obtain rfl : k = m := by omega
      have h1 := Hall.out
      rw [List.take_of_length_le (by rw [hl.out]; omega)] at h1
      cases hS : inB f 0 3
      · have hf : txnB (f, ys, dn) = false := by simp [txnB, hS]
        have F := hide hf; have Z := hide hS; clear hf hS h1
        go_wp2_with (go_at_call 40; refine (l1In_c).mono ?_; rintro e w' ⟨rfl, rfl⟩; rw [Z.out])
        go_ret
        exact ⟨by rw [F.out]; rfl, bw⟩
      · have hf : txnB (f, ys, dn) = decide (k ≤ 6) := by unfold txnB; dsimp only; rw [h1, hS, hl.out]; simp
        have F := hide hf; have Z := hide hS; clear hf hS h1
        go_wp2_with (go_at_call 40; refine (l1In_c).mono ?_; rintro e w' ⟨rfl, rfl⟩; rw [Z.out])
        go_ret
        exact ⟨by rw [F.out]; simp [go_sem]; omega, bw⟩


end Go.Proofs.YtieecneknljmdaaDoor
