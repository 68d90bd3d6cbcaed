/- The reference's OpValid, TxnValid, LastWrites, l4Before, l18Own. Printed by mk_lws.py. -/
import Derived.Test.YtfcfhgophpoibaaDoorLw
import Derived.Test.YtfcfhgophpoibaaDoorRunS
namespace Go.Proofs.YtfcfhgophpoibaaDoor
open Go.RowKit

theorem op_cases (x y z : Int) : (inB x 1 2 = false ∧ opB (x, y, z) = false) ∨ (inB x 1 2 = true ∧ inB y 0 2 = false ∧ opB (x, y, z) = false) ∨
    (inB x 1 2 = true ∧ inB y 0 2 = true ∧ inB z 0 99 = false ∧ opB (x, y, z) = false) ∨ (inB x 1 2 = true ∧ inB y 0 2 = true ∧ inB z 0 99 = true ∧ (x == 1) = true ∧ opB (x, y, z) = true) ∨
    (inB x 1 2 = true ∧ inB y 0 2 = true ∧ inB z 0 99 = true ∧ (x == 1) = false ∧ opB (x, y, z) = decide (0 < z)) := by
  unfold opB
  cases inB x 1 2 <;> cases inB y 0 2 <;> cases inB z 0 99 <;> cases (x == 1) <;> simp
set_option maxHeartbeats 2000000 in
theorem spec_OpValid_c {x y z : Int} {w : World} :
    Calls Tryd.prog 76 #[.agg #[.int .i64 x, .int .i64 y, .int .i64 z]] w fun e w' => e = .returned (.bool (opB (x, y, z))) ∧ Below w.heap.size w w' := by
  have B0 : ∀ o, Below w.heap.size w (w.alloc o) := fun o => (Below.refl _ _).alloc (Nat.le_refl _) o
  rcases op_cases x y z with ⟨h1, hf⟩ | ⟨h1, h2, hf⟩ | ⟨h1, h2, h3, hf⟩ | ⟨h1, h2, h3, h4, hf⟩ | ⟨h1, h2, h3, h4, hf⟩
  · have F := hide hf; have H1 := hide h1; clear hf h1
    go_enter Tryd.func76, Tryd.ntmps76
    go_wp2_with (go_at_call 36; refine (l1In_c).mono ?_; rintro e w' ⟨rfl, rfl⟩; first | rw [H1.out])
    go_ret
    exact ⟨by rw [F.out]; rfl, B0 _⟩
  · have F := hide hf; have H1 := hide h1; have H2 := hide h2; clear hf h1 h2
    go_enter Tryd.func76, Tryd.ntmps76
    go_wp2_with (go_at_call 36; refine (l1In_c).mono ?_; rintro e w' ⟨rfl, rfl⟩; first | rw [H1.out] | rw [H2.out])
    go_ret
    exact ⟨by rw [F.out]; rfl, B0 _⟩
  · have F := hide hf; have H1 := hide h1; have H2 := hide h2; have H3 := hide h3; clear hf h1 h2 h3
    go_enter Tryd.func76, Tryd.ntmps76
    go_wp2_with (go_at_call 36; refine (l1In_c).mono ?_; rintro e w' ⟨rfl, rfl⟩; first | rw [H1.out] | rw [H2.out] | rw [H3.out])
    go_ret
    exact ⟨by rw [F.out]; rfl, B0 _⟩
  · have F := hide hf; have H1 := hide h1; have H2 := hide h2; have H3 := hide h3; clear hf h1 h2 h3
    go_enter Tryd.func76, Tryd.ntmps76
    go_wp2_with (go_at_call 36; refine (l1In_c).mono ?_; rintro e w' ⟨rfl, rfl⟩; first | rw [H1.out] | rw [H2.out] | rw [H3.out])
    go_ret
    exact ⟨by rw [F.out]; rfl, B0 _⟩
  · have F := hide hf; have H1 := hide h1; have H2 := hide h2; have H3 := hide h3; clear hf h1 h2 h3
    go_enter Tryd.func76, Tryd.ntmps76
    go_wp2_with (go_at_call 36; refine (l1In_c).mono ?_; rintro e w' ⟨rfl, rfl⟩; first | rw [H1.out] | rw [H2.out] | rw [H3.out])
    go_ret
    exact ⟨by rw [F.out]; simp [go_sem], B0 _⟩

theorem txnB_bad {t : Tx} {k : Nat} {o : T3} (hk : t.2.1[k]? = some o) (h : opB o = false) : txnB t = false := by simp [txnB, all_badA hk h]
set_option maxHeartbeats 4000000 in
theorem spec_TxnValid_c {v : Value} {m : Nat} {ys : List T3} {f : Int} {dn : Bool} {w : World} (hv : S3 w v m ys) :
    Calls Tryd.prog 64 #[.agg #[.int .i64 f, v, .bool dn]] w fun e w' => e = .returned (.bool (txnB (f, ys, dn))) ∧ Below w.heap.size w w' := by
  have sv := hv
  obtain ⟨A, c, rfl, hnc, hm, hr⟩ := hv
  have hl := hide hr.len
  have b1 : Below w.heap.size w (w.alloc (.cells #[.int .i64 f, .slice A m c, .bool dn] 35)) := (Below.refl _ _).alloc (Nat.le_refl _) _
  have K0 := Blk.new w 35 #[.int .i64 f, .slice A m c, .bool dn]
  go_enter Tryd.func64, Tryd.ntmps64
  go_wp2_with fail
  go_loopw [3] (fun i wr => ∃ k : Nat, k ≤ m ∧ i = .int .i64 k ∧ (ys.take k).all opB = true ∧ Blk wr w.heap.size 35 #[.int .i64 f, .slice A m c, .bool dn] ∧ Below w.heap.size w wr) (fun i _ => m - (intOf i).toNat)
  case atStart => exact ⟨0, Nat.zero_le _, rfl, by simp, K0, b1⟩
  case round =>
    clear K0 b1
    obtain ⟨k, hk, rfl, hall, KR, bw⟩ := hrel
    have Hall := hide hall; have HKR := hide KR; clear hall
    obtain ⟨g0, g1, g2⟩ := KR.three
    clear KR
    by_cases hkm : k < m
    · obtain ⟨b, off, x, y, z, rfl, hbb, hx, p0, p1, p2⟩ := hr.at_ hkm
      have a0 := (bw.cell (p := ⟨b, off + k * 3, none⟩) hbb).trans p0
      have a1 := (bw.cell (p := ⟨b, off + k * 3 + 1, none⟩) hbb).trans p1
      have a2 := (bw.cell (p := ⟨b, off + k * 3 + 2, none⟩) hbb).trans p2
      have Hx := hide hx
      clear hx p0 p1 p2
      have k0 : (0 : Int) ≤ k := by omega
      have k2 : (k : Int) < m := by omega
      cases hv : opB (x, y, z)
      · have hf := txnB_bad (t := (f, ys, dn)) Hx.out hv
        have F := hide hf; have V := hide hv; clear hf hv
        go_wp2_with fail
        refine (spec_OpValid_c).mono ?_
        rintro e w2 ⟨rfl, b2⟩
        rw [V.out]
        have B2 := below_step bw b2
        go_wp2_with fail
        go_ret
        exact ⟨by rw [F.out]; rfl, B2⟩
      · have hq := all_snocA Hall.out Hx.out hv
        have F := hide hq; have V := hide hv; clear hq hv
        go_wp2_with fail
        refine (spec_OpValid_c).mono ?_
        rintro e w2 ⟨rfl, b2⟩
        rw [V.out]
        have B2 := below_step bw b2
        have K2 := HKR.out.belowAll b2
        go_wp2_with fail
        go_roundw
        case rel => exact ⟨k + 1, by omega, by go_num, F.out, K2, B2⟩
        case measure => simp [intOf]; omega
    · obtain rfl : k = m := by omega
      have h1 := Hall.out
      rw [List.take_of_length_le (by rw [hl.out]; omega)] at h1
      cases hS : inB f 0 3
      · have hf : txnB (f, ys, dn) = false := by simp [txnB, hS]
        have F := hide hf; have Z := hide hS; clear hf hS h1
        go_wp2_with (go_at_call 36; refine (l1In_c).mono ?_; rintro e w' ⟨rfl, rfl⟩; rw [Z.out])
        go_ret
        exact ⟨by rw [F.out]; rfl, bw⟩
      · have hf : txnB (f, ys, dn) = decide (k ≤ 6) := by unfold txnB; dsimp only; rw [h1, hS, hl.out]; simp
        have F := hide hf; have Z := hide hS; clear hf hS h1
        go_wp2_with (go_at_call 36; refine (l1In_c).mono ?_; rintro e w' ⟨rfl, rfl⟩; rw [Z.out])
        go_ret
        exact ⟨by rw [F.out]; simp [go_sem]; omega, bw⟩

/-- Where a search from behind stands: nothing found from place j on. -/
def NoneK (ys : List T3) (key : Int) (j : Nat) : Prop := ∀ (i : Nat) p, j ≤ i → ys[i]? = some p → ¬ (p.1 = 2 ∧ p.2.1 = key)
def NoneO (ys : List T3) (key : Int) (j : Nat) : Prop := ∀ (i : Nat) p, j ≤ i → ys[i]? = some p → ¬ p.2.1 = key
theorem NoneK.start {ys : List T3} {key : Int} : NoneK ys key ys.length := fun i p hi hp => by have := (List.getElem?_eq_some_iff.1 hp).1; omega
theorem NoneK.step {ys : List T3} {key : Int} {j : Nat} {o : T3} (h : NoneK ys key (j + 1)) (hj : ys[j]? = some o) (ho : ¬ (o.1 = 2 ∧ o.2.1 = key)) : NoneK ys key j := fun i p hi hp => by
  by_cases e : i = j
  · subst e; rw [hj] at hp; injection hp with hp; subst hp; exact ho
  · exact h i p (by omega) hp
theorem NoneK.found {ys : List T3} {key : Int} {j : Nat} {o : T3} (h : NoneK ys key (j + 1)) (hj : ys[j]? = some o) (ho : o.1 = 2 ∧ o.2.1 = key) : lastK ys key = some o := lastK_at hj ho (fun i p hi hp => h i p hi hp)
theorem NoneK.none_ {ys : List T3} {key : Int} (h : NoneK ys key 0) : lastK ys key = none := lastK_none (fun i p hp => h i p (Nat.zero_le _) hp)
theorem NoneO.start {ys : List T3} {key : Int} : NoneO ys key ys.length := fun i p hi hp => by have := (List.getElem?_eq_some_iff.1 hp).1; omega
theorem NoneO.step {ys : List T3} {key : Int} {j : Nat} {o : T3} (h : NoneO ys key (j + 1)) (hj : ys[j]? = some o) (ho : ¬ o.2.1 = key) : NoneO ys key j := fun i p hi hp => by
  by_cases e : i = j
  · subst e; rw [hj] at hp; injection hp with hp; subst hp; exact ho
  · exact h i p (by omega) hp
theorem NoneO.found {ys : List T3} {key : Int} {j : Nat} {o : T3} (h : NoneO ys key (j + 1)) (hj : ys[j]? = some o) (ho : o.2.1 = key) : lastO ys key = some o := lastO_at hj ho (fun i p hi hp => h i p hi hp)
theorem NoneO.none_ {ys : List T3} {key : Int} (h : NoneO ys key 0) : lastO ys key = none := lastO_none (fun i p hp => h i p (Nat.zero_le _) hp)

set_option maxHeartbeats 4000000 in
theorem l4Before_c {v : Value} {m : Nat} {ys : List T3} {f key : Int} {dn : Bool} {w : World} (hv : S3 w v m ys) :
    Calls Tryd.prog 63 #[.agg #[.int .i64 f, v, .bool dn], .int .i64 (m : Int), .int .i64 key] w fun e w' => e = .returned (.int .i64 (ownV ys key (-1))) ∧ Below w.heap.size w w' := by
  obtain ⟨A, c, rfl, hnc, hm, hr⟩ := hv
  have hl := hide hr.len
  have b1 : Below w.heap.size w (w.alloc (.cells #[.int .i64 f, .slice A m c, .bool dn] 35)) := (Below.refl _ _).alloc (Nat.le_refl _) _
  have K0 := Blk.new w 35 #[.int .i64 f, .slice A m c, .bool dn]
  obtain ⟨g0, g1, g2⟩ := K0.three
  go_enter Tryd.func63, Tryd.ntmps63
  go_wp2_with fail
  go_loopw [7] (fun i wr => ∃ k : Nat, k ≤ m ∧ i = .int .i64 ((k : Int) - 1) ∧ NoneO ys key k ∧ wr = w.alloc (.cells #[.int .i64 f, .slice A m c, .bool dn] 35)) (fun i _ => (intOf i + 1).toNat)
  case atStart => exact ⟨m, Nat.le_refl _, rfl, by have := NoneO.start (ys := ys) (key := key); rw [hl.out] at this; exact this, rfl⟩
  case round =>
    obtain ⟨k, hk, rfl, hno, rfl⟩ := hrel
    have Hno := hide hno; clear hno
    cases k with
    | zero =>
      have hf : ownV ys key (-1) = -1 := by unfold ownV; rw [Hno.out.none_]
      have F := hide hf; clear hf
      go_wp2_with fail
      go_ret
      exact ⟨by rw [F.out]; rfl, b1⟩
    | succ j =>
      obtain ⟨b, off, x, y, z, rfl, hbb, hx, p0, p1, p2⟩ := hr.at_ (show j < m by omega)
      have a0 := (b1.cell (p := ⟨b, off + j * 3, none⟩) hbb).trans p0
      have a1 := (b1.cell (p := ⟨b, off + j * 3 + 1, none⟩) hbb).trans p1
      have a2 := (b1.cell (p := ⟨b, off + j * 3 + 2, none⟩) hbb).trans p2
      have Hx := hide hx
      clear hx p0 p1 p2
      have j0 : (0 : Int) ≤ j := by omega
      have j2 : (j : Int) < m := by omega
      have hjj : ((j + 1 : Nat) : Int) - 1 = j := by omega
      rw [hjj]
      clear hjj
      by_cases hy : y = key
      · subst hy
        have hf : ownV ys y (-1) = z := by unfold ownV; rw [Hno.out.found Hx.out rfl]
        have F := hide hf; clear hf
        go_wp2_with fail
        go_ret
        exact ⟨by rw [F.out]; rfl, b1⟩
      · have hq := Hno.out.step Hx.out hy
        have F := hide hq; clear hq
        have hyb : (y == key) = false := by simpa using hy
        clear hy
        go_wp2_with fail
        go_roundw
        case rel => exact ⟨j, by omega, by go_num, F.out, trivial⟩
        case measure => simp [intOf]

set_option maxHeartbeats 1000000 in
theorem l18Own_c {v : Value} {m : Nat} {ys : List T3} {f key other : Int} {dn : Bool} {w : World} (hv : S3 w v m ys) (hpos : ∀ o ∈ ys, 0 ≤ o.2.2) :
    Calls Tryd.prog 43 #[.agg #[.int .i64 f, v, .bool dn], .int .i64 key, .int .i64 other] w fun e w' => e = .returned (.int .i64 (ownV ys key other)) ∧ Below w.heap.size w w' := by
  have sv := hv
  obtain ⟨A, c, rfl, hnc, hm, hr⟩ := hv
  have b1 : Below w.heap.size w (w.alloc (.cells #[.int .i64 f, .slice A m c, .bool dn] 35)) := (Below.refl _ _).alloc (Nat.le_refl _) _
  cases h : lastO ys key with
  | none =>
    have h1 : ownV ys key (-1) = -1 := by unfold ownV; rw [h]
    have h2 : ownV ys key other = other := by unfold ownV; rw [h]
    have H1 := hide h1; have H2 := hide h2; clear h1 h2 h
    go_enter Tryd.func43, Tryd.ntmps43
    go_wp2_with fail
    refine (l4Before_c (sv.below b1)).mono ?_
    rintro e w2 ⟨rfl, b2⟩
    rw [H1.out]
    go_wp2_with fail
    go_ret
    exact ⟨by rw [H2.out]; rfl, below_step b1 b2⟩
  | some o =>
    have hp := hpos o (lastO_some h).1
    have h1 : ownV ys key (-1) = o.2.2 := by unfold ownV; rw [h]
    have h2 : ownV ys key other = o.2.2 := by unfold ownV; rw [h]
    have H1 := hide h1; have H2 := hide h2; clear h1 h2 h
    go_enter Tryd.func43, Tryd.ntmps43
    go_wp2_with fail
    refine (l4Before_c (sv.below b1)).mono ?_
    rintro e w2 ⟨rfl, b2⟩
    rw [H1.out]
    go_wp2_with fail
    go_ret
    exact ⟨by rw [H2.out]; rfl, below_step b1 b2⟩

end Go.Proofs.YtfcfhgophpoibaaDoor
