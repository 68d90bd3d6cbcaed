/- Merged: LwS, LwS2, RunK, RunK2, SnapK, SnapK2, LoneP, LwM, LwI, Seen, HoldM, LockM, LockI, WaitI, LockW. -/
import Derived.Test.YtfcfhgophpoibaaDoorLw
import Derived.Test.YtfcfhgophpoibaaDoorRunS
import Derived.Test.YtfcfhgophpoibaaDoorRunW
import Derived.Maps.OwnSet
import Derived.Maps.OwnOps
import Derived.ProofKit
import Derived.Test.YtfcfhgophpoibaaDoorRunI5
import Derived.Deep.DeepCutAuto
namespace Go.Proofs.YtfcfhgophpoibaaDoor
open Go.RowKit

theorem op_cases (x y z : Int) : (inB x 1 2 = false ∧ opB (x, y, z) = false) ∨ (inB x 1 2 = true ∧ inB y 0 2 = false ∧ opB (x, y, z) = false) ∨
    (inB x 1 2 = true ∧ inB y 0 2 = true ∧ inB z 0 99 = false ∧ opB (x, y, z) = false) ∨ (inB x 1 2 = true ∧ inB y 0 2 = true ∧ inB z 0 99 = true ∧ (x == 1) = true ∧ opB (x, y, z) = true) ∨
    (inB x 1 2 = true ∧ inB y 0 2 = true ∧ inB z 0 99 = true ∧ (x == 1) = false ∧ opB (x, y, z) = decide (0 < z)) := by
  unfold opB
  cases inB x 1 2 <;> cases inB y 0 2 <;> cases inB z 0 99 <;> cases (x == 1) <;> simp
set_option maxHeartbeats 2000000 in
theorem spec_OpValid_c {x y z : Int} {w : World} :
    Calls Tryd.prog 76 #[.agg #[.int .i64 x, .int .i64 y, .int .i64 z]] w fun e w' => e = .returned (.bool (opB (x, y, z))) ∧ Below w.heap.size w w' := by
  have B0 : ∀ o, Below w.heap.size w (w.alloc o) := fun o => (Below.refl _ _).alloc (Nat.le_refl _) o
  rcases op_cases x y z with ⟨h1, hf⟩ | ⟨h1, h2, hf⟩ | ⟨h1, h2, h3, hf⟩ | ⟨h1, h2, h3, h4, hf⟩ | ⟨h1, h2, h3, h4, hf⟩
  · have F := hide hf; have H1 := hide h1; clear hf h1
    go_enter Tryd.func76, Tryd.ntmps76
    go_wp2_with (go_at_call 36; refine (l1In_c).mono ?_; rintro e w' ⟨rfl, rfl⟩; first | rw [H1.out])
    go_ret
    exact ⟨by rw [F.out]; rfl, B0 _⟩
  · have F := hide hf; have H1 := hide h1; have H2 := hide h2; clear hf h1 h2
    go_enter Tryd.func76, Tryd.ntmps76
    go_wp2_with (go_at_call 36; refine (l1In_c).mono ?_; rintro e w' ⟨rfl, rfl⟩; first | rw [H1.out] | rw [H2.out])
    go_ret
    exact ⟨by rw [F.out]; rfl, B0 _⟩
  · have F := hide hf; have H1 := hide h1; have H2 := hide h2; have H3 := hide h3; clear hf h1 h2 h3
    go_enter Tryd.func76, Tryd.ntmps76
    go_wp2_with (go_at_call 36; refine (l1In_c).mono ?_; rintro e w' ⟨rfl, rfl⟩; first | rw [H1.out] | rw [H2.out] | rw [H3.out])
    go_ret
    exact ⟨by rw [F.out]; rfl, B0 _⟩
  · have F := hide hf; have H1 := hide h1; have H2 := hide h2; have H3 := hide h3; clear hf h1 h2 h3
    go_enter Tryd.func76, Tryd.ntmps76
    go_wp2_with (go_at_call 36; refine (l1In_c).mono ?_; rintro e w' ⟨rfl, rfl⟩; first | rw [H1.out] | rw [H2.out] | rw [H3.out])
    go_ret
    exact ⟨by rw [F.out]; rfl, B0 _⟩
  · have F := hide hf; have H1 := hide h1; have H2 := hide h2; have H3 := hide h3; clear hf h1 h2 h3
    go_enter Tryd.func76, Tryd.ntmps76
    go_wp2_with (go_at_call 36; refine (l1In_c).mono ?_; rintro e w' ⟨rfl, rfl⟩; first | rw [H1.out] | rw [H2.out] | rw [H3.out])
    go_ret
    exact ⟨by rw [F.out]; simp [go_sem], B0 _⟩

theorem txnB_bad {t : Tx} {k : Nat} {o : T3} (hk : t.2.1[k]? = some o) (h : opB o = false) : txnB t = false := by simp [txnB, all_badA hk h]
set_option maxHeartbeats 4000000 in
theorem spec_TxnValid_c {v : Value} {m : Nat} {ys : List T3} {f : Int} {dn : Bool} {w : World} (hv : S3 w v m ys) :
    Calls Tryd.prog 64 #[.agg #[.int .i64 f, v, .bool dn]] w fun e w' => e = .returned (.bool (txnB (f, ys, dn))) ∧ Below w.heap.size w w' := by
  have sv := hv
  obtain ⟨A, c, rfl, hnc, hm, hr⟩ := hv
  have hl := hide hr.len
  have b1 : Below w.heap.size w (w.alloc (.cells #[.int .i64 f, .slice A m c, .bool dn] 35)) := (Below.refl _ _).alloc (Nat.le_refl _) _
  have K0 := Blk.new w 35 #[.int .i64 f, .slice A m c, .bool dn]
  go_enter Tryd.func64, Tryd.ntmps64
  go_wp2_with fail
  go_loopw [3] (fun i wr => ∃ k : Nat, k ≤ m ∧ i = .int .i64 k ∧ (ys.take k).all opB = true ∧ Blk wr w.heap.size 35 #[.int .i64 f, .slice A m c, .bool dn] ∧ Below w.heap.size w wr) (fun i _ => m - (intOf i).toNat)
  case atStart => exact ⟨0, Nat.zero_le _, rfl, by simp, K0, b1⟩
  case round =>
    clear K0 b1
    obtain ⟨k, hk, rfl, hall, KR, bw⟩ := hrel
    have Hall := hide hall; have HKR := hide KR; clear hall
    obtain ⟨g0, g1, g2⟩ := KR.three
    clear KR
    by_cases hkm : k < m
    · obtain ⟨b, off, x, y, z, rfl, hbb, hx, p0, p1, p2⟩ := hr.at_ hkm
      have a0 := (bw.cell (p := ⟨b, off + k * 3, none⟩) hbb).trans p0
      have a1 := (bw.cell (p := ⟨b, off + k * 3 + 1, none⟩) hbb).trans p1
      have a2 := (bw.cell (p := ⟨b, off + k * 3 + 2, none⟩) hbb).trans p2
      have Hx := hide hx
      clear hx p0 p1 p2
      have k0 : (0 : Int) ≤ k := by omega
      have k2 : (k : Int) < m := by omega
      cases hv : opB (x, y, z)
      · have hf := txnB_bad (t := (f, ys, dn)) Hx.out hv
        have F := hide hf; have V := hide hv; clear hf hv
        go_wp2_with fail
        refine (spec_OpValid_c).mono ?_
        rintro e w2 ⟨rfl, b2⟩
        rw [V.out]
        have B2 := below_step bw b2
        go_wp2_with fail
        go_ret
        exact ⟨by rw [F.out]; rfl, B2⟩
      · have hq := all_snocA Hall.out Hx.out hv
        have F := hide hq; have V := hide hv; clear hq hv
        go_wp2_with fail
        refine (spec_OpValid_c).mono ?_
        rintro e w2 ⟨rfl, b2⟩
        rw [V.out]
        have B2 := below_step bw b2
        have K2 := HKR.out.belowAll b2
        go_wp2_with fail
        go_roundw
        case rel => exact ⟨k + 1, by omega, by go_num, F.out, K2, B2⟩
        case measure => simp [intOf]; omega
    · obtain rfl : k = m := by omega
      have h1 := Hall.out
      rw [List.take_of_length_le (by rw [hl.out]; omega)] at h1
      cases hS : inB f 0 3
      · have hf : txnB (f, ys, dn) = false := by simp [txnB, hS]
        have F := hide hf; have Z := hide hS; clear hf hS h1
        go_wp2_with (go_at_call 36; refine (l1In_c).mono ?_; rintro e w' ⟨rfl, rfl⟩; rw [Z.out])
        go_ret
        exact ⟨by rw [F.out]; rfl, bw⟩
      · have hf : txnB (f, ys, dn) = decide (k ≤ 6) := by unfold txnB; dsimp only; rw [h1, hS, hl.out]; simp
        have F := hide hf; have Z := hide hS; clear hf hS h1
        go_wp2_with (go_at_call 36; refine (l1In_c).mono ?_; rintro e w' ⟨rfl, rfl⟩; rw [Z.out])
        go_ret
        exact ⟨by rw [F.out]; simp [go_sem]; omega, bw⟩

/-- Where a search from behind stands: nothing found from place j on. -/
def NoneK (ys : List T3) (key : Int) (j : Nat) : Prop := ∀ (i : Nat) p, j ≤ i → ys[i]? = some p → ¬ (p.1 = 2 ∧ p.2.1 = key)
def NoneO (ys : List T3) (key : Int) (j : Nat) : Prop := ∀ (i : Nat) p, j ≤ i → ys[i]? = some p → ¬ p.2.1 = key
theorem NoneK.start {ys : List T3} {key : Int} : NoneK ys key ys.length := fun i p hi hp => by have := (List.getElem?_eq_some_iff.1 hp).1; omega
theorem NoneK.step {ys : List T3} {key : Int} {j : Nat} {o : T3} (h : NoneK ys key (j + 1)) (hj : ys[j]? = some o) (ho : ¬ (o.1 = 2 ∧ o.2.1 = key)) : NoneK ys key j := fun i p hi hp => by
  by_cases e : i = j
  · subst e; rw [hj] at hp; injection hp with hp; subst hp; exact ho
  · exact h i p (by omega) hp
theorem NoneK.found {ys : List T3} {key : Int} {j : Nat} {o : T3} (h : NoneK ys key (j + 1)) (hj : ys[j]? = some o) (ho : o.1 = 2 ∧ o.2.1 = key) : lastK ys key = some o := lastK_at hj ho (fun i p hi hp => h i p hi hp)
theorem NoneK.none_ {ys : List T3} {key : Int} (h : NoneK ys key 0) : lastK ys key = none := lastK_none (fun i p hp => h i p (Nat.zero_le _) hp)
theorem NoneO.start {ys : List T3} {key : Int} : NoneO ys key ys.length := fun i p hi hp => by have := (List.getElem?_eq_some_iff.1 hp).1; omega
theorem NoneO.step {ys : List T3} {key : Int} {j : Nat} {o : T3} (h : NoneO ys key (j + 1)) (hj : ys[j]? = some o) (ho : ¬ o.2.1 = key) : NoneO ys key j := fun i p hi hp => by
  by_cases e : i = j
  · subst e; rw [hj] at hp; injection hp with hp; subst hp; exact ho
  · exact h i p (by omega) hp
theorem NoneO.found {ys : List T3} {key : Int} {j : Nat} {o : T3} (h : NoneO ys key (j + 1)) (hj : ys[j]? = some o) (ho : o.2.1 = key) : lastO ys key = some o := lastO_at hj ho (fun i p hi hp => h i p hi hp)
theorem NoneO.none_ {ys : List T3} {key : Int} (h : NoneO ys key 0) : lastO ys key = none := lastO_none (fun i p hp => h i p (Nat.zero_le _) hp)

set_option maxHeartbeats 4000000 in
theorem l4Before_c {v : Value} {m : Nat} {ys : List T3} {f key : Int} {dn : Bool} {w : World} (hv : S3 w v m ys) :
    Calls Tryd.prog 63 #[.agg #[.int .i64 f, v, .bool dn], .int .i64 (m : Int), .int .i64 key] w fun e w' => e = .returned (.int .i64 (ownV ys key (-1))) ∧ Below w.heap.size w w' := by
  obtain ⟨A, c, rfl, hnc, hm, hr⟩ := hv
  have hl := hide hr.len
  have b1 : Below w.heap.size w (w.alloc (.cells #[.int .i64 f, .slice A m c, .bool dn] 35)) := (Below.refl _ _).alloc (Nat.le_refl _) _
  have K0 := Blk.new w 35 #[.int .i64 f, .slice A m c, .bool dn]
  obtain ⟨g0, g1, g2⟩ := K0.three
  go_enter Tryd.func63, Tryd.ntmps63
  go_wp2_with fail
  go_loopw [7] (fun i wr => ∃ k : Nat, k ≤ m ∧ i = .int .i64 ((k : Int) - 1) ∧ NoneO ys key k ∧ wr = w.alloc (.cells #[.int .i64 f, .slice A m c, .bool dn] 35)) (fun i _ => (intOf i + 1).toNat)
  case atStart => exact ⟨m, Nat.le_refl _, rfl, by have := NoneO.start (ys := ys) (key := key); rw [hl.out] at this; exact this, rfl⟩
  case round =>
    obtain ⟨k, hk, rfl, hno, rfl⟩ := hrel
    have Hno := hide hno; clear hno
    cases k with
    | zero =>
      have hf : ownV ys key (-1) = -1 := by unfold ownV; rw [Hno.out.none_]
      have F := hide hf; clear hf
      go_wp2_with fail
      go_ret
      exact ⟨by rw [F.out]; rfl, b1⟩
    | succ j =>
      obtain ⟨b, off, x, y, z, rfl, hbb, hx, p0, p1, p2⟩ := hr.at_ (show j < m by omega)
      have a0 := (b1.cell (p := ⟨b, off + j * 3, none⟩) hbb).trans p0
      have a1 := (b1.cell (p := ⟨b, off + j * 3 + 1, none⟩) hbb).trans p1
      have a2 := (b1.cell (p := ⟨b, off + j * 3 + 2, none⟩) hbb).trans p2
      have Hx := hide hx
      clear hx p0 p1 p2
      have j0 : (0 : Int) ≤ j := by omega
      have j2 : (j : Int) < m := by omega
      have hjj : ((j + 1 : Nat) : Int) - 1 = j := by omega
      rw [hjj]
      clear hjj
      by_cases hy : y = key
      · subst hy
        have hf : ownV ys y (-1) = z := by unfold ownV; rw [Hno.out.found Hx.out rfl]
        have F := hide hf; clear hf
        go_wp2_with fail
        go_ret
        exact ⟨by rw [F.out]; rfl, b1⟩
      · have hq := Hno.out.step Hx.out hy
        have F := hide hq; clear hq
        have hyb : (y == key) = false := by simpa using hy
        clear hy
        go_wp2_with fail
        go_roundw
        case rel => exact ⟨j, by omega, by go_num, F.out, trivial⟩
        case measure => simp [intOf]

set_option maxHeartbeats 1000000 in
theorem l18Own_c {v : Value} {m : Nat} {ys : List T3} {f key other : Int} {dn : Bool} {w : World} (hv : S3 w v m ys) (hpos : ∀ o ∈ ys, 0 ≤ o.2.2) :
    Calls Tryd.prog 43 #[.agg #[.int .i64 f, v, .bool dn], .int .i64 key, .int .i64 other] w fun e w' => e = .returned (.int .i64 (ownV ys key other)) ∧ Below w.heap.size w w' := by
  have sv := hv
  obtain ⟨A, c, rfl, hnc, hm, hr⟩ := hv
  have b1 : Below w.heap.size w (w.alloc (.cells #[.int .i64 f, .slice A m c, .bool dn] 35)) := (Below.refl _ _).alloc (Nat.le_refl _) _
  cases h : lastO ys key with
  | none =>
    have h1 : ownV ys key (-1) = -1 := by unfold ownV; rw [h]
    have h2 : ownV ys key other = other := by unfold ownV; rw [h]
    have H1 := hide h1; have H2 := hide h2; clear h1 h2 h
    go_enter Tryd.func43, Tryd.ntmps43
    go_wp2_with fail
    refine (l4Before_c (sv.below b1)).mono ?_
    rintro e w2 ⟨rfl, b2⟩
    rw [H1.out]
    go_wp2_with fail
    go_ret
    exact ⟨by rw [H2.out]; rfl, below_step b1 b2⟩
  | some o =>
    have hp := hpos o (lastO_some h).1
    have h1 : ownV ys key (-1) = o.2.2 := by unfold ownV; rw [h]
    have h2 : ownV ys key other = o.2.2 := by unfold ownV; rw [h]
    have H1 := hide h1; have H2 := hide h2; clear h1 h2 h
    go_enter Tryd.func43, Tryd.ntmps43
    go_wp2_with fail
    refine (l4Before_c (sv.below b1)).mono ?_
    rintro e w2 ⟨rfl, b2⟩
    rw [H1.out]
    go_wp2_with fail
    go_ret
    exact ⟨by rw [H2.out]; rfl, below_step b1 b2⟩

end Go.Proofs.YtfcfhgophpoibaaDoor

namespace Go.Proofs.YtfcfhgophpoibaaDoor
open Go.RowKit

/-- A new slice of ops. -/
def RetO (w : World) (ts : List T3) (e : Ending) (w' : World) : Prop := ∃ r k, e = .returned r ∧ O3 53 w' w.heap.size r k ts ∧ Below w.heap.size w w'
set_option maxRecDepth 100000 in
set_option maxHeartbeats 8000000 in
theorem spec_LastWrites_c {v : Value} {m : Nat} {ys : List T3} {f : Int} {dn : Bool} {w : World} (hv : S3 w v m ys) (hok : txnB (f, ys, dn) = true) :
    Calls Tryd.prog 44 #[.agg #[.int .i64 f, v, .bool dn]] w (RetO w (lastW ys)) := by
  have sv := hv
  obtain ⟨A, c, rfl, hnc, hm, hr⟩ := hv
  have hl := hide hr.len
  have Hok := hide hok; clear hok
  have B0 : Below w.heap.size w ((w.alloc (.cells #[.int .i64 f, .slice A m c, .bool dn] 35)).alloc (.cells #[] 53)) := ((Below.refl _ _).alloc (Nat.le_refl _) _).alloc (by simp) _
  have K0 := (Blk.new w 35 #[.int .i64 f, .slice A m c, .bool dn]).alloc (.cells #[] 53)
  have o0 := (O3.empty 53 (w.alloc (.cells #[.int .i64 f, .slice A m c, .bool dn] 35)))
  simp only [World.size_alloc] at o0
  go_enter Tryd.func44, Tryd.ntmps44
  go_wp2_with fail
  go_loopw [3, 4] (fun s i wr => ∃ q : Nat, i = .int .i64 q ∧ q ≤ 3 ∧ O3 53 wr (w.heap.size + 1) s (lastTo ys q).length (lastTo ys q) ∧ Blk wr w.heap.size 35 #[.int .i64 f, .slice A m c, .bool dn] ∧ Below w.heap.size w wr) (fun _ i _ => 3 - (intOf i).toNat)
  case atStart => exact ⟨0, rfl, by omega, o0, K0, B0⟩
  case round =>
    clear B0 K0 o0
    obtain ⟨q, rfl, hq, ho, KR, bw⟩ := hrel
    have hlen := lastTo_len ys q
    obtain ⟨Ao, co, rfl⟩ := ho.shape
    by_cases hq3 : q < 3
    · have hq0 : (0 : Int) ≤ q := by omega
      have hq2 : (q : Int) ≤ 2 := by omega
      obtain ⟨g0, g1, g2⟩ := KR.three
      go_wp2_with fail
      refine (spec_TxnValid_c (sv.below bw)).mono ?_
      rintro e w2 ⟨rfl, b2⟩
      rw [Hok.out]
      have B2 := below_step bw b2
      replace ho := ho.below b2
      replace KR := KR.belowAll b2
      clear g0 g1 g2
      obtain ⟨g0, g1, g2⟩ := KR.three
      have hz2 : w.heap.size + 1 ≤ w2.heap.size := KR.lt
      have HKR := hide KR; have HO := hide ho
      clear KR ho
      go_wp2_with fail
      go_loopw [3, 5] (fun s i wr => s = .slice Ao (lastTo ys q).length co ∧ ∃ k : Nat, k ≤ m ∧ i = .int .i64 ((k : Int) - 1) ∧ NoneK ys q k ∧ wr = w2) (fun _ i _ => (intOf i + 1).toNat)
      case atStart => exact ⟨rfl, m, Nat.le_refl _, rfl, by have := NoneK.start (ys := ys) (key := q); rw [hl.out] at this; exact this, rfl⟩
      case round =>
        obtain ⟨rfl, k, hk, rfl, hno, rfl⟩ := hrel
        have Hno := hide hno; clear hno
        cases k with
        | zero =>
          have hf : lastTo ys (q + 1) = lastTo ys q := by rw [lastTo_succ, Hno.out.none_]; simp
          have F := hide hf; clear hf
          go_wp2_with fail
          go_roundw
          case rel => exact ⟨q + 1, by go_num, by omega, by rw [F.out]; exact HO.out, HKR.out, B2⟩
          case measure => simp [intOf]; omega
        | succ j =>
          obtain ⟨b, off, x, y, z, rfl, hbb, hx, p0, p1, p2⟩ := hr.at_ (show j < m by omega)
          have a0 := (B2.cell (p := ⟨b, off + j * 3, none⟩) hbb).trans p0
          have a1 := (B2.cell (p := ⟨b, off + j * 3 + 1, none⟩) hbb).trans p1
          have a2 := (B2.cell (p := ⟨b, off + j * 3 + 2, none⟩) hbb).trans p2
          have Hx := hide hx
          clear hx p0 p1 p2
          have j0 : (0 : Int) ≤ j := by omega
          have j2 : (j : Int) < m := by omega
          have hjj : ((j + 1 : Nat) : Int) - 1 = j := by omega
          rw [hjj]
          clear hjj
          by_cases hxy : x = 2 ∧ y = q
          · obtain ⟨rfl, rfl⟩ := hxy
            have hf : lastTo ys (q + 1) = lastTo ys q ++ [(2, (q : Int), z)] := by rw [lastTo_succ, Hno.out.found Hx.out ⟨rfl, rfl⟩]; rfl
            have F := hide hf; clear hf
            have KN := Blk.new wr 53 #[.int .i64 2, .int .i64 (q : Int), .int .i64 z]
            have o4 := HO.out.alloc (.cells #[.int .i64 2, .int .i64 (q : Int), .int .i64 z] 53)
            have B4 : Below w.heap.size w (wr.alloc (.cells #[.int .i64 2, .int .i64 (q : Int), .int .i64 z] 53)) := B2.alloc B2.size _
            have hz4 : w.heap.size + 1 ≤ (wr.alloc (.cells #[.int .i64 2, .int .i64 (q : Int), .int .i64 z] 53)).heap.size := by simp; omega
            have K4 := HKR.out.alloc (.cells #[.int .i64 2, .int .i64 (q : Int), .int .i64 z] 53)
            have hln : (lastTo ys q).length + 1 ≤ 1048576 := by omega
            go_wp2_with (at_builtin; refine wpList_app3 rfl _ _ rfl Tryd.underlying33 infoOpz rfl o4 rfl (S3.one KN (Nat.le_refl _)) hln hz4 ?_; intro v1 w4 h4 hg4 hat; have K5 := K4.grown hg4 (o4.far (by omega)); have B5 := below_app3 B4 o4 (by omega) hg4)
            go_roundw
            case rel => exact ⟨q + 1, by go_num, by omega, by rw [F.out, List.length_append]; exact h4, K5, B5⟩
            case measure => simp [intOf]; omega
          · have hq' := Hno.out.step Hx.out hxy
            have F := hide hq'
            clear hq'
            by_cases hx2 : x = 2
            · subst hx2
              have hyb : (y == (q : Int)) = false := by simpa using hxy
              clear hxy
              go_wp2_with fail
              go_roundw
              case rel => exact ⟨rfl, j, by omega, by go_num, F.out, trivial⟩
              case measure => simp [intOf]
            · have hxb : (x == 2) = false := by simpa using hx2
              clear hxy hx2
              go_wp2_with fail
              go_roundw
              case rel => exact ⟨rfl, j, by omega, by go_num, F.out, trivial⟩
              case measure => simp [intOf]
    · obtain rfl : q = 3 := by omega
      go_wp2_with fail
      go_ret
      refine ⟨_, (lastTo ys 3).length, rfl, ?_, bw⟩
      rw [← lastTo_three]
      exact ho.mono (by omega)

end Go.Proofs.YtfcfhgophpoibaaDoor

namespace Go.Proofs.YtfcfhgophpoibaaDoor

abbrev LockSt := List Tx × List Int × List Int
/-- The store behind a commit; the locks given back. -/
def commitS (os : List T3) (st : List Int) : List Int := [seesV os st 0, seesV os st 1, seesV os st 2]
def freeO (n : Nat) (ow : List Int) : List Int := ow.map fun x => if x = (n : Int) + 1 then 0 else x
def lockV (os : List T3) (st : List Int) (n : Nat) (s : T3) : Int := if s.1 = 2 then valOf n os.length else seesV os st s.2.1.toNat
def lockO (os : List T3) (st : List Int) (n : Nat) (s : T3) : T3 := (s.1, s.2.1, lockV os st n s)
def lock1 (ds : Ds) (S : LockSt) (n : Nat) : LockSt :=
  match (stepsOf ds n)[(opsOf S.1 n).length]? with
  | none => S
  | some s =>
    if S.2.2.getD s.2.1.toNat 0 ≠ 0 ∧ S.2.2.getD s.2.1.toNat 0 ≠ (n : Int) + 1 then S
    else (S.1.set n (sesOf S.1 n, opsOf S.1 n ++ [lockO (opsOf S.1 n) S.2.1 n s], decide ((opsOf S.1 n).length + 1 = (stepsOf ds n).length)),
      if (opsOf S.1 n).length + 1 = (stepsOf ds n).length then commitS (opsOf S.1 n ++ [lockO (opsOf S.1 n) S.2.1 n s]) S.2.1 else S.2.1,
      if (opsOf S.1 n).length + 1 = (stepsOf ds n).length then freeO n (S.2.2.set s.2.1.toNat ((n : Int) + 1)) else S.2.2.set s.2.1.toNat ((n : Int) + 1))
def lockR (ds : Ds) (xs : List Int) : LockSt := xs.foldl (fun S x => lock1 ds S x.toNat) (emptyT ds, [0, 0, 0], [0, 0, 0])
def lockL (ds : Ds) (xs : List Int) : List Tx := if runB ds xs then (lockR ds xs).1 else []
theorem lockR_snoc {ds : Ds} {xs : List Int} {k : Nat} {x : Int} (h : xs[k]? = some x) : lockR ds (xs.take (k + 1)) = lock1 ds (lockR ds (xs.take k)) x.toNat := foldl_snoc _ _ h

theorem lock1_none {ds : Ds} {S : LockSt} {n : Nat} {d : Int × List T3} {t : Tx} (hs : stepsOf ds n = d.2) (ho : opsOf S.1 n = t.2.1) (hl : t.2.1.length = d.2.length) : lock1 ds S n = S := by
  unfold lock1; rw [hs, ho, hl, List.getElem?_eq_none (Nat.le_refl _)]
theorem lock1_held {ds : Ds} {S : LockSt} {n : Nat} {d : Int × List T3} {t : Tx} {s : T3} (hs : stepsOf ds n = d.2) (ho : opsOf S.1 n = t.2.1) (hl : d.2[t.2.1.length]? = some s)
    (hw : S.2.2.getD s.2.1.toNat 0 ≠ 0 ∧ S.2.2.getD s.2.1.toNat 0 ≠ (n : Int) + 1) : lock1 ds S n = S := by
  unfold lock1; rw [hs, ho, hl]; simp only []; rw [if_pos hw]
theorem lock1_more {ds : Ds} {S : LockSt} {n : Nat} {d : Int × List T3} {t : Tx} {s : T3} (hs : stepsOf ds n = d.2) (ho : opsOf S.1 n = t.2.1) (he : sesOf S.1 n = t.1) (hl : d.2[t.2.1.length]? = some s)
    (hw : ¬ (S.2.2.getD s.2.1.toNat 0 ≠ 0 ∧ S.2.2.getD s.2.1.toNat 0 ≠ (n : Int) + 1)) (hm : t.2.1.length + 1 ≠ d.2.length) :
    lock1 ds S n = (S.1.set n (t.1, t.2.1 ++ [lockO t.2.1 S.2.1 n s], false), S.2.1, S.2.2.set s.2.1.toNat ((n : Int) + 1)) := by
  unfold lock1; rw [hs, ho, he, hl]; simp only []; rw [if_neg hw, if_neg hm, if_neg hm, decide_eq_false hm]
theorem lock1_last {ds : Ds} {S : LockSt} {n : Nat} {d : Int × List T3} {t : Tx} {s : T3} (hs : stepsOf ds n = d.2) (ho : opsOf S.1 n = t.2.1) (he : sesOf S.1 n = t.1) (hl : d.2[t.2.1.length]? = some s)
    (hw : ¬ (S.2.2.getD s.2.1.toNat 0 ≠ 0 ∧ S.2.2.getD s.2.1.toNat 0 ≠ (n : Int) + 1)) (hm : t.2.1.length + 1 = d.2.length) :
    lock1 ds S n = (S.1.set n (t.1, t.2.1 ++ [lockO t.2.1 S.2.1 n s], true), commitS (t.2.1 ++ [lockO t.2.1 S.2.1 n s]) S.2.1, freeO n (S.2.2.set s.2.1.toNat ((n : Int) + 1))) := by
  unfold lock1; rw [hs, ho, he, hl]; simp only []; rw [if_neg hw, if_pos hm, if_pos hm, decide_eq_true hm]

/-- What holds of a state. -/
structure LockI (ds : Ds) (S : LockSt) : Prop where
  fits : Fits ds S.1
  vals : Vals S.2.1
  olen : S.2.2.length = 3
  obd : ∀ x ∈ S.2.2, 0 ≤ x ∧ x ≤ 4
  ops : ∀ (n : Nat) (t : Tx), S.1[n]? = some t → ∀ o ∈ t.2.1, opB o = true
  held : ∀ (n : Nat) (t : Tx) (d : Int × List T3), S.1[n]? = some t → ds[n]? = some d → t.2.1.length < d.2.length → ∀ (key : Nat) (o : T3), lastO t.2.1 (key : Int) = some o →
    S.2.2.getD key 0 = (n : Int) + 1 ∧ o.2.2 = seesV t.2.1 S.2.1 key
theorem LockI.zero {ds : Ds} (h : ∀ d ∈ ds, draftB d = true) : LockI ds (emptyT ds, [0, 0, 0], [0, 0, 0]) := by
  refine ⟨Fits.empty h, Vals.zero, rfl, fun x hx => by simp at hx; omega, fun n t ht o ho => ?_, fun n t d ht hd hl key o ho => ?_⟩
  · unfold emptyT at ht
    rw [List.getElem?_map] at ht
    cases hd : ds[n]? <;> rw [hd] at ht <;> simp at ht
    subst ht; simp at ho
  · unfold emptyT at ht
    rw [List.getElem?_map, hd] at ht
    injection ht with ht; subst ht
    simp [lastO] at ho
theorem seesV_bd {os : List T3} {st : List Int} (hv : Vals st) (ho : ∀ o ∈ os, opB o = true) (key : Nat) : 0 ≤ seesV os st key ∧ seesV os st key ≤ 99 := by
  unfold seesV
  cases h : lastK os (key : Int) with
  | some o =>
    have h1 := ho o (lastK_some h).1
    unfold opB at h1
    simp only [Bool.and_eq_true] at h1
    exact (inB_iff _ _ _).1 h1.2.2.1
  | none =>
    show 0 ≤ st.getD key 0 ∧ st.getD key 0 ≤ 99
    by_cases hk : key < st.length
    · have : st.getD key 0 = st[key] := by simp [List.getD, List.getElem?_eq_getElem hk]
      rw [this]; exact hv.2 _ (List.getElem_mem hk)
    · have : st.getD key 0 = 0 := by simp [List.getD, List.getElem?_eq_none (Nat.le_of_not_lt hk)]
      rw [this]; omega
theorem Vals.commit {os : List T3} {st : List Int} (hv : Vals st) (ho : ∀ o ∈ os, opB o = true) : Vals (commitS os st) :=
  ⟨rfl, fun v h => by
    simp [commitS] at h
    rcases h with rfl | rfl | rfl <;> exact seesV_bd hv ho _⟩
theorem lockO_ok {os : List T3} {st : List Int} {n : Nat} {s : T3} (hv : Vals st) (ho : ∀ o ∈ os, opB o = true) (hn : n < 4) (ha : os.length < 4) (hk : s.1 = 1 ∨ s.1 = 2) (hy : 0 ≤ s.2.1 ∧ s.2.1 ≤ 2) : opB (lockO os st n s) = true := by
  have h1 := valOf_bd hn ha
  have h2 := seesV_bd hv ho s.2.1.toNat
  have h3 : 0 < valOf n os.length := by unfold valOf; omega
  unfold opB lockO lockV
  simp only [Bool.and_eq_true, inB_iff, Bool.or_eq_true, beq_iff_eq, decide_eq_true_eq]
  rcases hk with e | e
  · rw [e, if_neg (by omega)]; exact ⟨by omega, hy, h2, .inl rfl⟩
  · rw [e, if_pos rfl]; exact ⟨by omega, hy, h1, .inr h3⟩
/-- What the reference computes for a read, and what the program does. -/
theorem LockI.own {ds : Ds} {S : LockSt} (h : LockI ds S) {n : Nat} {t : Tx} {d : Int × List T3} (ht : S.1[n]? = some t) (hd : ds[n]? = some d) (hl : t.2.1.length < d.2.length) (key : Nat) :
    ownV t.2.1 key (S.2.1.getD key 0) = seesV t.2.1 S.2.1 key := by
  unfold ownV
  cases e : lastO t.2.1 (key : Int) with
  | some o => exact (h.held n t d ht hd hl key o e).2
  | none =>
    show S.2.1.getD key 0 = seesV t.2.1 S.2.1 key
    unfold seesV
    cases e2 : lastK t.2.1 (key : Int) with
    | none => rfl
    | some o =>
      exfalso
      obtain ⟨h1, h2, h3⟩ := lastK_some e2
      unfold lastO at e
      rw [List.find?_eq_none] at e
      exact e o (List.mem_reverse.2 h1) (by simpa using h3)
theorem getD_set (xs : List Int) (i j : Nat) (v : Int) (hi : i < xs.length) : (xs.set i v).getD j 0 = if i = j then v else xs.getD j 0 := by
  simp only [List.getD_eq_getElem?_getD]
  by_cases e : i = j
  · subst e; rw [if_pos rfl, List.getElem?_set_self hi]; rfl
  · rw [if_neg e, List.getElem?_set_ne e]
theorem getD_free (n : Nat) (ow : List Int) (j : Nat) : (freeO n ow).getD j 0 = if ow.getD j 0 = (n : Int) + 1 then 0 else ow.getD j 0 := by
  unfold freeO
  simp only [List.getD_eq_getElem?_getD, List.getElem?_map]
  cases h : ow[j]? with
  | none => simp
  | some x => simp
theorem getD_commit (os : List T3) (st : List Int) (hst : st.length = 3) (hos : ∀ o ∈ os, opB o = true) (j : Nat) : (commitS os st).getD j 0 = seesV os st j := by
  match j with
  | 0 => rfl
  | 1 => rfl
  | 2 => rfl
  | j + 3 =>
    have h1 : (commitS os st).getD (j + 3) 0 = 0 := rfl
    rw [h1]
    unfold seesV
    cases e : lastK os ((j + 3 : Nat) : Int) with
    | none => simp [List.getD, List.getElem?_eq_none (show st.length ≤ j + 3 by omega)]
    | some o =>
      obtain ⟨a, b, c⟩ := lastK_some e
      have := hos o a
      unfold opB at this
      simp only [Bool.and_eq_true] at this
      have := (inB_iff _ _ _).1 this.2.1
      omega

end Go.Proofs.YtfcfhgophpoibaaDoor

namespace Go.Proofs.YtfcfhgophpoibaaDoor

theorem LockI.pre {ds : Ds} {S : LockSt} (h : LockI ds S) {n : Nat} {t : Tx} {d : Int × List T3} {s : T3} (ht : S.1[n]? = some t) (hd : ds[n]? = some d) (hl : t.2.1.length < d.2.length) (hy : 0 ≤ s.2.1 ∧ s.2.1 ≤ 2)
    (hw : ¬ (S.2.2.getD s.2.1.toNat 0 ≠ 0 ∧ S.2.2.getD s.2.1.toNat 0 ≠ (n : Int) + 1)) (dn : Bool) :
    ∀ (n' : Nat) (t' : Tx) (d' : Int × List T3), (S.1.set n (t.1, t.2.1 ++ [lockO t.2.1 S.2.1 n s], dn))[n']? = some t' → ds[n']? = some d' → (n' = n ∨ t'.2.1.length < d'.2.length) →
      ∀ (key : Nat) (o : T3), lastO t'.2.1 (key : Int) = some o → (S.2.2.set s.2.1.toNat ((n : Int) + 1)).getD key 0 = (n' : Int) + 1 ∧ o.2.2 = seesV t'.2.1 S.2.1 key := by
  intro n' t' d' ht' hd' hor key o ho
  have hlt : s.2.1.toNat < S.2.2.length := by rw [h.olen]; omega
  rw [getD_set _ _ _ _ hlt]
  by_cases e : n' = n
  · subst e
    rw [List.getElem?_set_self (List.getElem?_eq_some_iff.1 ht).1] at ht'
    injection ht' with ht'; subst ht'
    dsimp only at ho ⊢
    rw [lastO_snoc] at ho
    by_cases ek : s.2.1 = key
    · rw [if_pos (show (lockO t.2.1 S.2.1 n' s).2.1 = key from ek)] at ho
      injection ho with ho; subst ho
      have hk : s.2.1.toNat = key := by omega
      rw [if_pos hk]
      refine ⟨rfl, ?_⟩
      unfold seesV
      rw [lastK_snoc]
      by_cases e2 : s.1 = 2
      · rw [if_pos (And.intro (show (lockO t.2.1 S.2.1 n' s).1 = 2 from e2) (show (lockO t.2.1 S.2.1 n' s).2.1 = (key : Int) from ek))]
      · rw [if_neg (fun h => e2 h.1)]
        show lockV t.2.1 S.2.1 n' s = _
        unfold lockV
        rw [if_neg e2, hk]
        rfl
    · rw [if_neg (show ¬ (lockO t.2.1 S.2.1 n' s).2.1 = key from ek)] at ho
      rw [if_neg (by omega)]
      obtain ⟨h1, h2⟩ := h.held n' t d ht hd hl key o ho
      refine ⟨h1, h2.trans ?_⟩
      unfold seesV
      rw [lastK_snoc, if_neg (fun h => ek h.2)]
  · rw [List.getElem?_set_ne (fun h => e h.symm)] at ht'
    obtain ⟨h1, h2⟩ := h.held n' t' d' ht' hd' (hor.resolve_left e) key o ho
    refine ⟨?_, h2⟩
    by_cases ek : s.2.1.toNat = key
    · exfalso; apply hw; rw [ek, h1]; omega
    · rw [if_neg ek]; exact h1
theorem lastK_lastO {os : List T3} {key : Int} {o : T3} (h : lastK os key = some o) : ∃ p, lastO os key = some p := by
  cases e : lastO os key with
  | some p => exact ⟨p, rfl⟩
  | none =>
    exfalso
    unfold lastO at e
    rw [List.find?_eq_none] at e
    exact e o (List.mem_reverse.2 (lastK_some h).1) (by simpa using (lastK_some h).2.2)
theorem obd_set {xs : List Int} {lo hi v : Int} (h : ∀ x ∈ xs, lo ≤ x ∧ x ≤ hi) (i : Nat) (hv : lo ≤ v ∧ v ≤ hi) : ∀ x ∈ xs.set i v, lo ≤ x ∧ x ≤ hi := fun x hx => by
  rcases List.mem_or_eq_of_mem_set hx with hx | rfl
  · exact h x hx
  · exact hv
theorem obd_free {xs : List Int} {hi : Int} (h : ∀ x ∈ xs, 0 ≤ x ∧ x ≤ hi) (n : Nat) (h0 : 0 ≤ hi) : ∀ x ∈ freeO n xs, 0 ≤ x ∧ x ≤ hi := fun x hx => by
  unfold freeO at hx
  obtain ⟨y, hy, rfl⟩ := List.mem_map.1 hx
  have := h y hy
  split <;> omega
theorem LockI.ops_set {ds : Ds} {S : LockSt} (h : LockI ds S) {n : Nat} {t : Tx} {s : T3} (ht : S.1[n]? = some t) (hn : n < 4) (hl4 : t.2.1.length < 4) (hk : s.1 = 1 ∨ s.1 = 2) (hy : 0 ≤ s.2.1 ∧ s.2.1 ≤ 2) (dn : Bool) :
    ∀ (n' : Nat) (t' : Tx), (S.1.set n (t.1, t.2.1 ++ [lockO t.2.1 S.2.1 n s], dn))[n']? = some t' → ∀ o ∈ t'.2.1, opB o = true := by
  intro n' t' ht' o ho
  by_cases e : n' = n
  · subst e
    rw [List.getElem?_set_self (List.getElem?_eq_some_iff.1 ht).1] at ht'
    injection ht' with ht'; subst ht'
    rcases List.mem_append.1 ho with ho | ho
    · exact h.ops n' t ht o ho
    · obtain rfl := List.mem_singleton.1 ho
      exact lockO_ok h.vals (h.ops n' t ht) hn hl4 hk hy
  · rw [List.getElem?_set_ne (fun h => e h.symm)] at ht'
    exact h.ops n' t' ht' o ho
theorem LockI.more {ds : Ds} {S : LockSt} (h : LockI ds S) {n : Nat} {t : Tx} {d : Int × List T3} {s : T3} (ht : S.1[n]? = some t) (hd : ds[n]? = some d) (hl : t.2.1.length < d.2.length) (hn : n < 4) (hl4 : t.2.1.length < 4)
    (hk : s.1 = 1 ∨ s.1 = 2) (hy : 0 ≤ s.2.1 ∧ s.2.1 ≤ 2) (hw : ¬ (S.2.2.getD s.2.1.toNat 0 ≠ 0 ∧ S.2.2.getD s.2.1.toNat 0 ≠ (n : Int) + 1)) (hm : t.2.1.length + 1 ≠ d.2.length) :
    LockI ds (S.1.set n (t.1, t.2.1 ++ [lockO t.2.1 S.2.1 n s], false), S.2.1, S.2.2.set s.2.1.toNat ((n : Int) + 1)) := by
  have hf := h.fits.step hd ht hl (lockO t.2.1 S.2.1 n s)
  rw [decide_eq_false hm] at hf
  exact ⟨hf, h.vals, by simp [h.olen], obd_set h.obd _ (by omega), h.ops_set ht hn hl4 hk hy false, fun n' t' d' ht' hd' hl' => h.pre ht hd hl hy hw false n' t' d' ht' hd' (.inr hl')⟩
theorem LockI.last {ds : Ds} {S : LockSt} (h : LockI ds S) {n : Nat} {t : Tx} {d : Int × List T3} {s : T3} (ht : S.1[n]? = some t) (hd : ds[n]? = some d) (hl : t.2.1.length < d.2.length) (hn : n < 4) (hl4 : t.2.1.length < 4)
    (hk : s.1 = 1 ∨ s.1 = 2) (hy : 0 ≤ s.2.1 ∧ s.2.1 ≤ 2) (hw : ¬ (S.2.2.getD s.2.1.toNat 0 ≠ 0 ∧ S.2.2.getD s.2.1.toNat 0 ≠ (n : Int) + 1)) (hm : t.2.1.length + 1 = d.2.length) :
    LockI ds (S.1.set n (t.1, t.2.1 ++ [lockO t.2.1 S.2.1 n s], true), commitS (t.2.1 ++ [lockO t.2.1 S.2.1 n s]) S.2.1, freeO n (S.2.2.set s.2.1.toNat ((n : Int) + 1))) := by
  have hf := h.fits.step hd ht hl (lockO t.2.1 S.2.1 n s)
  rw [decide_eq_true hm] at hf
  have hpre := h.pre ht hd hl hy hw true
  have hops := h.ops_set ht hn hl4 hk hy true
  have hself : (S.1.set n (t.1, t.2.1 ++ [lockO t.2.1 S.2.1 n s], true))[n]? = some (t.1, t.2.1 ++ [lockO t.2.1 S.2.1 n s], true) := List.getElem?_set_self (List.getElem?_eq_some_iff.1 ht).1
  have hos := hops n _ hself
  refine ⟨hf, h.vals.commit hos, by simp [freeO, h.olen], obd_free (obd_set h.obd _ (by omega)) n (by omega), hops, fun n' t' d' ht' hd' hl' key o ho => ?_⟩
  by_cases e : n' = n
  · subst e
    have := hself.symm.trans ht'
    injection this with this; subst this
    have := hd.symm.trans hd'
    injection this with this; subst this
    simp at hl'; omega
  · obtain ⟨h1, h2⟩ := hpre n' t' d' ht' hd' (.inr hl') key o ho
    refine ⟨by show (freeO n (S.2.2.set s.2.1.toNat ((n : Int) + 1))).getD key 0 = (n' : Int) + 1; rw [getD_free, h1, if_neg (by omega)], h2.trans ?_⟩
    show seesV t'.2.1 S.2.1 key = seesV t'.2.1 (commitS (t.2.1 ++ [lockO t.2.1 S.2.1 n s]) S.2.1) key
    unfold seesV
    cases ek : lastK t'.2.1 (key : Int) with
    | some p => rfl
    | none =>
      show S.2.1.getD key 0 = (commitS (t.2.1 ++ [lockO t.2.1 S.2.1 n s]) S.2.1).getD key 0
      rw [getD_commit _ _ h.vals.1 hos]
      unfold seesV
      cases e3 : lastK (t.2.1 ++ [lockO t.2.1 S.2.1 n s]) (key : Int) with
      | none => rfl
      | some p =>
        exfalso
        obtain ⟨q, hq⟩ := lastK_lastO e3
        have := (hpre n _ d hself hd (.inl rfl) key q hq).1
        omega
/-- A transaction behind a step is valid. -/
theorem txn_ok {f : Int} {os : List T3} {dn : Bool} (hf : 0 ≤ f ∧ f ≤ 3) (ho : ∀ o ∈ os, opB o = true) (hl : os.length ≤ 4) : txnB (f, os, dn) = true := by
  unfold txnB
  simp only [Bool.and_eq_true, List.all_eq_true, inB_iff, decide_eq_true_eq]
  exact ⟨ho, hf, by omega⟩
theorem LockI.txn {ds : Ds} {S : LockSt} (h : LockI ds S) (hds : ∀ d ∈ ds, draftB d = true) {n : Nat} {t : Tx} {d : Int × List T3} (ht : S.1[n]? = some t) (hd : ds[n]? = some d) : txnB t = true := by
  obtain ⟨h1, h2, h3⟩ := h.fits.2 n d t hd ht
  obtain ⟨_, g2, g3, _⟩ := draftB_parts (hds d (List.mem_of_getElem? hd))
  exact txn_ok (f := t.1) (dn := t.2.2) (by rw [h1]; exact g3) (h.ops n t ht) (Nat.le_trans h2 g2)

/-- The store while a commit goes on: the last writes of the first j. -/
def commitTo (os : List T3) (st : List Int) (j : Nat) : List Int := ((lastW os).take j).foldl (fun st o => st.set o.2.1.toNat o.2.2) st
theorem commitTo_zero (os : List T3) (st : List Int) : commitTo os st 0 = st := rfl
theorem commitTo_succ {os : List T3} {st : List Int} {j : Nat} {o : T3} (h : (lastW os)[j]? = some o) : commitTo os st (j + 1) = (commitTo os st j).set o.2.1.toNat o.2.2 := foldl_snoc _ _ h
theorem commitTo_all {os : List T3} {st : List Int} (hst : st.length = 3) {j : Nat} (hj : (lastW os).length = j) : commitTo os st j = commitS os st := by
  unfold commitTo
  rw [← hj, List.take_length]
  obtain ⟨a, b, c, rfl⟩ : ∃ a b c, st = [a, b, c] := by
    match st, hst with
    | [a, b, c], _ => exact ⟨a, b, c, rfl⟩
  unfold lastW commitS seesV
  have h0 := fun o => @lastK_some os 0 o
  have h1 := fun o => @lastK_some os 1 o
  have h2 := fun o => @lastK_some os 2 o
  cases e0 : lastK os 0 <;> cases e1 : lastK os 1 <;> cases e2 : lastK os 2 <;> simp_all

/-- The locks while they are given back: of the keys below j. -/
def freeTo (n : Nat) (ow : List Int) (j : Nat) : List Int := freeO n (ow.take j) ++ ow.drop j
theorem freeTo_zero (n : Nat) (ow : List Int) : freeTo n ow 0 = ow := by simp [freeTo, freeO]
theorem freeTo_all (n : Nat) {ow : List Int} {j : Nat} (h : ow.length = j) : freeTo n ow j = freeO n ow := by subst h; simp [freeTo]
theorem freeTo_at (n : Nat) {ow : List Int} {j : Nat} {x : Int} (h : ow[j]? = some x) : (freeTo n ow j)[j]? = some x := by
  have hj := (List.getElem?_eq_some_iff.1 h).1
  unfold freeTo freeO
  rw [List.getElem?_append_right (by simp; omega)]
  simp [Nat.min_eq_left (Nat.le_of_lt hj), h]
theorem freeTo_keep {n : Nat} {ow : List Int} {j : Nat} {x : Int} (h : ow[j]? = some x) (hx : x ≠ (n : Int) + 1) : freeTo n ow (j + 1) = freeTo n ow j := by
  have hj := (List.getElem?_eq_some_iff.1 h).1
  have hxe := (List.getElem?_eq_some_iff.1 h).2
  unfold freeTo freeO
  rw [List.take_add_one, h, List.map_append, List.drop_eq_getElem_cons hj, hxe]
  simp [hx]
theorem freeTo_free {n : Nat} {ow : List Int} {j : Nat} (h : ow[j]? = some ((n : Int) + 1)) : freeTo n ow (j + 1) = (freeTo n ow j).set j 0 := by
  have hj := (List.getElem?_eq_some_iff.1 h).1
  have hxe := (List.getElem?_eq_some_iff.1 h).2
  unfold freeTo freeO
  rw [List.take_add_one, h, List.map_append, List.set_append_right _ _ (by simp; omega)]
  simp [Nat.min_eq_left (Nat.le_of_lt hj)]
  rw [List.drop_eq_getElem_cons hj]
  rfl

end Go.Proofs.YtfcfhgophpoibaaDoor

namespace Go.Proofs.YtfcfhgophpoibaaDoor

structure Sn where
  ts : List Tx
  st : List Int
  ver : List Int
  kept : List (List Int)
  began : List (List Int)
/-- With its first step a draft remembers the store and the versions. -/
def snKept (S : Sn) (n : Nat) : List (List Int) := if (opsOf S.ts n).length = 0 then S.kept.set n S.st else S.kept
def snBegan (S : Sn) (n : Nat) : List (List Int) := if (opsOf S.ts n).length = 0 then S.began.set n S.ver else S.began
/-- The versions behind the first j writes. -/
def bumpTo (ver : List Int) (ws : List T3) (j : Nat) : List Int := (ws.take j).foldl (fun v o => v.set o.2.1.toNat (v.getD o.2.1.toNat 0 + 1)) ver
def goodTo (ver beg : List Int) (ws : List T3) (j : Nat) : Bool := (ws.take j).all fun o => ver.getD o.2.1.toNat 0 == beg.getD o.2.1.toNat 0
def snOps (S : Sn) (n : Nat) (s : T3) : List T3 := opsOf S.ts n ++ [lockO (opsOf S.ts n) ((snKept S n).getD n []) n s]
def snap1 (ds : Ds) (S : Sn) (n : Nat) : Sn :=
  match (stepsOf ds n)[(opsOf S.ts n).length]? with
  | none => S
  | some s =>
    if (opsOf S.ts n).length + 1 = (stepsOf ds n).length then
      if goodTo S.ver ((snBegan S n).getD n []) (lastW (snOps S n s)) (lastW (snOps S n s)).length then
        ⟨S.ts.set n (sesOf S.ts n, snOps S n s, true), commitS (snOps S n s) S.st, bumpTo S.ver (lastW (snOps S n s)) (lastW (snOps S n s)).length, snKept S n, snBegan S n⟩
      else ⟨S.ts.set n (sesOf S.ts n, snOps S n s, false), S.st, S.ver, snKept S n, snBegan S n⟩
    else ⟨S.ts.set n (sesOf S.ts n, snOps S n s, false), S.st, S.ver, snKept S n, snBegan S n⟩
def z3 : List Int := [0, 0, 0]
def snap0 (ds : Ds) : Sn := ⟨emptyT ds, z3, z3, [z3, z3, z3, z3], [z3, z3, z3, z3]⟩
def snapR (ds : Ds) (xs : List Int) : Sn := xs.foldl (fun S x => snap1 ds S x.toNat) (snap0 ds)
def snapL (ds : Ds) (xs : List Int) : List Tx := if runB ds xs then (snapR ds xs).ts else []
theorem snapR_snoc {ds : Ds} {xs : List Int} {k : Nat} {x : Int} (h : xs[k]? = some x) : snapR ds (xs.take (k + 1)) = snap1 ds (snapR ds (xs.take k)) x.toNat := foldl_snoc _ _ h

section
variable {ds : Ds} {S : Sn} {n : Nat} {d : Int × List T3} {t : Tx} {s : T3}
/-- The operation that a step does. -/
def snO (S : Sn) (n : Nat) (t : Tx) (s : T3) : T3 := lockO t.2.1 ((snKept S n).getD n []) n s
theorem snap1_none (hs : stepsOf ds n = d.2) (ho : opsOf S.ts n = t.2.1) (hl : t.2.1.length = d.2.length) : snap1 ds S n = S := by
  unfold snap1; rw [hs, ho, hl, List.getElem?_eq_none (Nat.le_refl _)]
theorem snap1_more (hs : stepsOf ds n = d.2) (ho : opsOf S.ts n = t.2.1) (he : sesOf S.ts n = t.1) (hl : d.2[t.2.1.length]? = some s) (hm : t.2.1.length + 1 ≠ d.2.length) :
    snap1 ds S n = ⟨S.ts.set n (t.1, t.2.1 ++ [snO S n t s], false), S.st, S.ver, snKept S n, snBegan S n⟩ := by
  unfold snap1 snOps; rw [hs, ho, he, hl]; simp only []; rw [if_neg hm]; rfl
theorem snap1_bad (hs : stepsOf ds n = d.2) (ho : opsOf S.ts n = t.2.1) (he : sesOf S.ts n = t.1) (hl : d.2[t.2.1.length]? = some s) (hm : t.2.1.length + 1 = d.2.length)
    (hg : goodTo S.ver ((snBegan S n).getD n []) (lastW (t.2.1 ++ [snO S n t s])) (lastW (t.2.1 ++ [snO S n t s])).length = false) :
    snap1 ds S n = ⟨S.ts.set n (t.1, t.2.1 ++ [snO S n t s], false), S.st, S.ver, snKept S n, snBegan S n⟩ := by
  unfold snO at hg ⊢
  unfold snap1 snOps; rw [hs, ho, he, hl]; simp only []; rw [if_pos hm, hg]; rfl
theorem snap1_good (hs : stepsOf ds n = d.2) (ho : opsOf S.ts n = t.2.1) (he : sesOf S.ts n = t.1) (hl : d.2[t.2.1.length]? = some s) (hm : t.2.1.length + 1 = d.2.length)
    (hg : goodTo S.ver ((snBegan S n).getD n []) (lastW (t.2.1 ++ [snO S n t s])) (lastW (t.2.1 ++ [snO S n t s])).length = true) :
    snap1 ds S n = ⟨S.ts.set n (t.1, t.2.1 ++ [snO S n t s], true), commitS (t.2.1 ++ [snO S n t s]) S.st, bumpTo S.ver (lastW (t.2.1 ++ [snO S n t s])) (lastW (t.2.1 ++ [snO S n t s])).length, snKept S n, snBegan S n⟩ := by
  unfold snO at hg ⊢
  unfold snap1 snOps; rw [hs, ho, he, hl]; simp only []; rw [if_pos hm, hg]; rfl
end
theorem bumpTo_succ {ver : List Int} {ws : List T3} {j : Nat} {o : T3} (h : ws[j]? = some o) : bumpTo ver ws (j + 1) = (bumpTo ver ws j).set o.2.1.toNat ((bumpTo ver ws j).getD o.2.1.toNat 0 + 1) := foldl_snoc _ _ h
theorem goodTo_succ {ver beg : List Int} {ws : List T3} {j : Nat} {o : T3} (h : ws[j]? = some o) : goodTo ver beg ws (j + 1) = (goodTo ver beg ws j && (ver.getD o.2.1.toNat 0 == beg.getD o.2.1.toNat 0)) := by
  unfold goodTo
  rw [List.take_add_one, h, List.all_append]
  simp
theorem bumpTo_len (ver : List Int) (ws : List T3) (j : Nat) : (bumpTo ver ws j).length = ver.length := by
  unfold bumpTo
  generalize ws.take j = l
  induction l generalizing ver with
  | nil => rfl
  | cons a l ih => rw [List.foldl_cons, ih]; simp
theorem bumpTo_le (ver : List Int) (ws : List T3) (key : Nat) : ∀ j, ver.getD key 0 ≤ (bumpTo ver ws j).getD key 0 ∧ (bumpTo ver ws j).getD key 0 ≤ ver.getD key 0 + j := by
  intro j
  induction j with
  | zero => simp [bumpTo]
  | succ j ih =>
    cases h : ws[j]? with
    | none =>
      have : bumpTo ver ws (j + 1) = bumpTo ver ws j := by unfold bumpTo; rw [List.take_add_one, h]; simp
      rw [this]; omega
    | some o =>
      rw [bumpTo_succ h]
      by_cases hk : o.2.1.toNat < (bumpTo ver ws j).length
      · rw [getD_set _ _ _ _ hk]
        by_cases e : o.2.1.toNat = key
        · rw [if_pos e, e]; omega
        · rw [if_neg e]; omega
      · rw [List.set_eq_of_length_le (by omega)]; omega
theorem lastW_len (os : List T3) : (lastW os).length ≤ 3 := by
  unfold lastW
  cases lastK os 0 <;> cases lastK os 1 <;> cases lastK os 2 <;> simp
theorem snKept_len (S : Sn) (n : Nat) : (snKept S n).length = S.kept.length := by unfold snKept; split <;> simp
theorem snBegan_len (S : Sn) (n : Nat) : (snBegan S n).length = S.began.length := by unfold snBegan; split <;> simp

/-- As the plan, and not committed ahead of its end. -/
def FitN (ds : Ds) (ts : List Tx) : Prop := ts.length = ds.length ∧ ∀ (n : Nat) (d : Int × List T3) (t : Tx), ds[n]? = some d → ts[n]? = some t → t.1 = d.1 ∧ t.2.1.length ≤ d.2.length ∧ (t.2.1.length < d.2.length → t.2.2 = false)
theorem FitN.empty {ds : Ds} : FitN ds (emptyT ds) := by
  refine ⟨by simp [emptyT], fun n d t hd ht => ?_⟩
  unfold emptyT at ht
  rw [List.getElem?_map, hd] at ht
  injection ht with ht; subst ht
  exact ⟨rfl, Nat.zero_le _, fun _ => rfl⟩
theorem FitN.at_ {ds : Ds} {ts : List Tx} (h : FitN ds ts) {n : Nat} (hn : n < ds.length) : ∃ d t, ds[n]? = some d ∧ ts[n]? = some t ∧ stepsOf ds n = d.2 ∧ opsOf ts n = t.2.1 ∧ sesOf ts n = t.1 ∧ t.2.1.length ≤ d.2.length ∧ (t.2.1.length < d.2.length → t.2.2 = false) := by
  have hd : ds[n]? = some ds[n] := List.getElem?_eq_getElem hn
  have ht : ts[n]? = some (ts[n]'(by rw [h.1]; exact hn)) := List.getElem?_eq_getElem _
  obtain ⟨h1, h2, h3⟩ := h.2 n _ _ hd ht
  refine ⟨_, _, hd, ht, ?_, ?_, ?_, h2, h3⟩
  · unfold stepsOf; rw [List.getD_eq_getElem?_getD, hd]; rfl
  · unfold opsOf; rw [List.getD_eq_getElem?_getD, ht]; rfl
  · unfold sesOf; rw [List.getD_eq_getElem?_getD, ht]; rfl
theorem FitN.step {ds : Ds} {ts : List Tx} (h : FitN ds ts) {n : Nat} {d : Int × List T3} {t : Tx} (hd : ds[n]? = some d) (ht : ts[n]? = some t) (hl : t.2.1.length < d.2.length) (o : T3) {dn : Bool} (hdn : t.2.1.length + 1 < d.2.length → dn = false) : FitN ds (ts.set n (t.1, t.2.1 ++ [o], dn)) := by
  refine ⟨by rw [List.length_set]; exact h.1, fun n' d' t' hd' ht' => ?_⟩
  by_cases e : n = n'
  · subst e
    rw [List.getElem?_set_self (List.getElem?_eq_some_iff.1 ht).1] at ht'
    injection ht' with ht'; subst ht'
    have := hd.symm.trans hd'
    injection this with this; subst this
    exact ⟨(h.2 n _ _ hd ht).1, by simp; omega, fun hx => hdn (by simpa using hx)⟩
  · rw [List.getElem?_set_ne e] at ht'
    exact h.2 n' d' t' hd' ht'
theorem FitN.four {ms : Ds} {xs : List Int} {ts : List Tx} (h : FitN ms ts) (hr : runB ms xs = true) : Lean4 ts := by
  obtain ⟨hn, hdb, _, _⟩ := runB_parts hr
  refine ⟨by rw [h.1]; exact hn, fun t ht => ?_⟩
  obtain ⟨i, hi, he⟩ := List.mem_iff_getElem.1 ht
  have h1 : ts[i]? = some t := by rw [← he]; exact List.getElem?_eq_getElem hi
  obtain ⟨d, t', h2, h3, _, _, _, h4, _⟩ := h.at_ (n := i) (by rw [← h.1]; exact hi)
  rw [h1] at h3; injection h3 with h3; subst h3
  have := (draftB_parts (hdb d (List.mem_of_getElem? h2))).2.1
  omega

/-- What holds of a state. -/
structure SnI (ds : Ds) (S : Sn) : Prop where
  fits : FitN ds S.ts
  vals : Vals S.st
  vlen : S.ver.length = 3
  klen : S.kept.length = 4
  blen : S.began.length = 4
  kvals : ∀ x ∈ S.kept, Vals x
  b3 : ∀ x ∈ S.began, x.length = 3
  ops : ∀ (n : Nat) (t : Tx), S.ts[n]? = some t → ∀ o ∈ t.2.1, opB o = true
  held : ∀ (n : Nat) (t : Tx) (d : Int × List T3), S.ts[n]? = some t → ds[n]? = some d → t.2.1.length < d.2.length → ∀ (key : Nat) (o : T3), lastO t.2.1 (key : Int) = some o → o.2.2 = seesV t.2.1 (S.kept.getD n []) key
  vers : ∀ n key : Nat, (S.began.getD n []).getD key 0 ≤ S.ver.getD key 0

theorem SnI.zero (ds : Ds) : SnI ds (snap0 ds) := by
  refine ⟨FitN.empty, Vals.zero, rfl, rfl, rfl, fun x hx => ?_, fun x hx => ?_, fun n t ht o ho => ?_, fun n t d ht hd hl key o ho => ?_, fun n key => ?_⟩
  · have : x = z3 := by simpa [snap0] using hx
    rw [this]; exact Vals.zero
  · have : x = z3 := by simpa [snap0] using hx
    rw [this]; rfl
  · exfalso
    have ht' : (emptyT ds)[n]? = some t := ht
    unfold emptyT at ht'
    rw [List.getElem?_map] at ht'
    cases hd : ds[n]? <;> rw [hd] at ht' <;> simp at ht'
    subst ht'; simp at ho
  · have ht' : (emptyT ds)[n]? = some t := ht
    unfold emptyT at ht'
    rw [List.getElem?_map, hd] at ht'
    injection ht' with ht'; subst ht'
    simp [lastO] at ho
  · show (([z3, z3, z3, z3] : List (List Int)).getD n []).getD key 0 ≤ z3.getD key 0
    match n with
    | 0 => exact Int.le_refl _
    | 1 => exact Int.le_refl _
    | 2 => exact Int.le_refl _
    | 3 => exact Int.le_refl _
    | n + 4 =>
      have h1 : (([z3, z3, z3, z3] : List (List Int)).getD (n + 4) []) = [] := rfl
      rw [h1]
      match key with
      | 0 => exact Int.le_refl _
      | 1 => exact Int.le_refl _
      | 2 => exact Int.le_refl _
      | k + 3 => exact Int.le_refl _

end Go.Proofs.YtfcfhgophpoibaaDoor

namespace Go.Proofs.YtfcfhgophpoibaaDoor

theorem getD_setL (xs : List (List Int)) (i j : Nat) (v : List Int) (hi : i < xs.length) : (xs.set i v).getD j [] = if i = j then v else xs.getD j [] := by
  simp only [List.getD_eq_getElem?_getD]
  by_cases e : i = j
  · subst e; rw [if_pos rfl, List.getElem?_set_self hi]; rfl
  · rw [if_neg e, List.getElem?_set_ne e]
section
variable {ds : Ds} {S : Sn} {n : Nat} {d : Int × List T3} {t : Tx} {s : T3}
theorem snKept_other (S : Sn) {n n' : Nat} (h : n' ≠ n) : (snKept S n).getD n' [] = S.kept.getD n' [] := by
  unfold snKept
  split
  · simp only [List.getD_eq_getElem?_getD]; rw [List.getElem?_set_ne (fun e => h e.symm)]
  · rfl
theorem snBegan_other (S : Sn) {n n' : Nat} (h : n' ≠ n) : (snBegan S n).getD n' [] = S.began.getD n' [] := by
  unfold snBegan
  split
  · simp only [List.getD_eq_getElem?_getD]; rw [List.getElem?_set_ne (fun e => h e.symm)]
  · rfl
theorem snKept_later (ho : opsOf S.ts n = t.2.1) (h : t.2.1 ≠ []) : snKept S n = S.kept := by
  unfold snKept; rw [ho, if_neg (fun e => h (List.eq_nil_of_length_eq_zero e))]
theorem snKept_first (ho : opsOf S.ts n = t.2.1) (h : t.2.1.length = 0) : snKept S n = S.kept.set n S.st := by
  unfold snKept; rw [ho, if_pos h]
theorem snBegan_later (ho : opsOf S.ts n = t.2.1) (h : t.2.1.length ≠ 0) : snBegan S n = S.began := by
  unfold snBegan; rw [ho, if_neg h]
theorem snBegan_first (ho : opsOf S.ts n = t.2.1) (h : t.2.1.length = 0) : snBegan S n = S.began.set n S.ver := by
  unfold snBegan; rw [ho, if_pos h]
theorem SnI.kvals' (h : SnI ds S) (n : Nat) : ∀ x ∈ snKept S n, Vals x := fun x hx => by
  unfold snKept at hx
  split at hx
  · rcases List.mem_or_eq_of_mem_set hx with hx | rfl
    · exact h.kvals x hx
    · exact h.vals
  · exact h.kvals x hx
theorem SnI.b3' (h : SnI ds S) (n : Nat) : ∀ x ∈ snBegan S n, x.length = 3 := fun x hx => by
  unfold snBegan at hx
  split at hx
  · rcases List.mem_or_eq_of_mem_set hx with hx | rfl
    · exact h.b3 x hx
    · exact h.vlen
  · exact h.b3 x hx
theorem SnI.keptV (h : SnI ds S) {n m : Nat} (hn : m < 4) : Vals ((snKept S n).getD m []) := by
  have hl : m < (snKept S n).length := by rw [snKept_len, h.klen]; exact hn
  have : (snKept S n).getD m [] = (snKept S n)[m] := by simp [List.getD, List.getElem?_eq_getElem hl]
  rw [this]; exact h.kvals' n _ (List.getElem_mem hl)
theorem SnI.began3 (h : SnI ds S) {n m : Nat} (hn : m < 4) : ((snBegan S n).getD m []).length = 3 := by
  have hl : m < (snBegan S n).length := by rw [snBegan_len, h.blen]; exact hn
  have : (snBegan S n).getD m [] = (snBegan S n)[m] := by simp [List.getD, List.getElem?_eq_getElem hl]
  rw [this]; exact h.b3' n _ (List.getElem_mem hl)
theorem SnI.vers' (h : SnI ds S) (n m key : Nat) : ((snBegan S n).getD m []).getD key 0 ≤ S.ver.getD key 0 := by
  unfold snBegan
  split
  · by_cases hn : n < S.began.length
    · rw [getD_setL _ _ _ _ hn]
      split
      · exact Int.le_refl _
      · exact h.vers m key
    · rw [List.set_eq_of_length_le (by omega)]; exact h.vers m key
  · exact h.vers m key
theorem SnI.ops_set (h : SnI ds S) (ht : S.ts[n]? = some t) (hn : n < 4) (hl4 : t.2.1.length < 4) (hk : s.1 = 1 ∨ s.1 = 2) (hy : 0 ≤ s.2.1 ∧ s.2.1 ≤ 2) (dn : Bool) :
    ∀ (n' : Nat) (t' : Tx), (S.ts.set n (t.1, t.2.1 ++ [snO S n t s], dn))[n']? = some t' → ∀ o ∈ t'.2.1, opB o = true := by
  intro n' t' ht' o ho
  by_cases e : n' = n
  · subst e
    rw [List.getElem?_set_self (List.getElem?_eq_some_iff.1 ht).1] at ht'
    injection ht' with ht'; subst ht'
    rcases List.mem_append.1 ho with ho | ho
    · exact h.ops n' t ht o ho
    · obtain rfl := List.mem_singleton.1 ho
      exact lockO_ok (h.keptV hn) (h.ops n' t ht) hn hl4 hk hy
  · rw [List.getElem?_set_ne (fun h => e h.symm)] at ht'
    exact h.ops n' t' ht' o ho
theorem SnI.pre (h : SnI ds S) (ho0 : opsOf S.ts n = t.2.1) (ht : S.ts[n]? = some t) (hd : ds[n]? = some d) (hl : t.2.1.length < d.2.length) (hy : 0 ≤ s.2.1 ∧ s.2.1 ≤ 2) (dn : Bool) :
    ∀ (n' : Nat) (t' : Tx) (d' : Int × List T3), (S.ts.set n (t.1, t.2.1 ++ [snO S n t s], dn))[n']? = some t' → ds[n']? = some d' → t'.2.1.length < d'.2.length →
      ∀ (key : Nat) (o : T3), lastO t'.2.1 (key : Int) = some o → o.2.2 = seesV t'.2.1 ((snKept S n).getD n' []) key := by
  intro n' t' d' ht' hd' hl' key o ho
  by_cases e : n' = n
  · subst e
    rw [List.getElem?_set_self (List.getElem?_eq_some_iff.1 ht).1] at ht'
    injection ht' with ht'; subst ht'
    dsimp only at ho ⊢
    rw [lastO_snoc] at ho
    by_cases ek : s.2.1 = key
    · rw [if_pos (show (snO S n' t s).2.1 = key from ek)] at ho
      injection ho with ho; subst ho
      have hk : s.2.1.toNat = key := by omega
      unfold seesV
      rw [lastK_snoc]
      by_cases e2 : s.1 = 2
      · rw [if_pos (And.intro (show (snO S n' t s).1 = 2 from e2) (show (snO S n' t s).2.1 = (key : Int) from ek))]
      · rw [if_neg (fun h => e2 h.1)]
        show lockV t.2.1 ((snKept S n').getD n' []) n' s = _
        unfold lockV
        rw [if_neg e2, hk]
        rfl
    · rw [if_neg (show ¬ (snO S n' t s).2.1 = key from ek)] at ho
      have hne : t.2.1 ≠ [] := fun e => by rw [e] at ho; simp [lastO] at ho
      have h2 := h.held n' t d ht hd hl key o ho
      rw [snKept_later ho0 hne]
      refine h2.trans ?_
      unfold seesV
      rw [lastK_snoc, if_neg (fun h => ek h.2)]
  · rw [List.getElem?_set_ne (fun h => e h.symm)] at ht'
    rw [snKept_other S e]
    exact h.held n' t' d' ht' hd' hl' key o ho
theorem SnI.same (h : SnI ds S) (ho0 : opsOf S.ts n = t.2.1) (ht : S.ts[n]? = some t) (hd : ds[n]? = some d) (hl : t.2.1.length < d.2.length) (hn : n < 4) (hl4 : t.2.1.length < 4)
    (hk : s.1 = 1 ∨ s.1 = 2) (hy : 0 ≤ s.2.1 ∧ s.2.1 ≤ 2) : SnI ds ⟨S.ts.set n (t.1, t.2.1 ++ [snO S n t s], false), S.st, S.ver, snKept S n, snBegan S n⟩ :=
  ⟨h.fits.step hd ht hl _ (fun _ => rfl), h.vals, h.vlen, by rw [snKept_len]; exact h.klen, by rw [snBegan_len]; exact h.blen, h.kvals' n, h.b3' n, h.ops_set ht hn hl4 hk hy false, h.pre ho0 ht hd hl hy false, fun m key => h.vers' n m key⟩
theorem SnI.good (h : SnI ds S) (ho0 : opsOf S.ts n = t.2.1) (ht : S.ts[n]? = some t) (hd : ds[n]? = some d) (hl : t.2.1.length < d.2.length) (hn : n < 4) (hl4 : t.2.1.length < 4)
    (hk : s.1 = 1 ∨ s.1 = 2) (hy : 0 ≤ s.2.1 ∧ s.2.1 ≤ 2) (hm : t.2.1.length + 1 = d.2.length) :
    SnI ds ⟨S.ts.set n (t.1, t.2.1 ++ [snO S n t s], true), commitS (t.2.1 ++ [snO S n t s]) S.st, bumpTo S.ver (lastW (t.2.1 ++ [snO S n t s])) (lastW (t.2.1 ++ [snO S n t s])).length, snKept S n, snBegan S n⟩ := by
  have hops := h.ops_set ht hn hl4 hk hy true
  have hos := hops n _ (List.getElem?_set_self (List.getElem?_eq_some_iff.1 ht).1)
  exact ⟨h.fits.step hd ht hl _ (fun hx => by omega), h.vals.commit hos, by rw [bumpTo_len]; exact h.vlen, by rw [snKept_len]; exact h.klen, by rw [snBegan_len]; exact h.blen, h.kvals' n, h.b3' n, hops, h.pre ho0 ht hd hl hy true,
    fun m key => Int.le_trans (h.vers' n m key) (bumpTo_le _ _ _ _).1⟩
theorem SnI.txn (h : SnI ds S) (hds : ∀ d ∈ ds, draftB d = true) (ht : S.ts[n]? = some t) (hd : ds[n]? = some d) : txnB t = true := by
  obtain ⟨h1, h2, h3⟩ := h.fits.2 n d t hd ht
  obtain ⟨_, g2, g3, _⟩ := draftB_parts (hds d (List.mem_of_getElem? hd))
  exact txn_ok (f := t.1) (dn := t.2.2) (by rw [h1]; exact g3) (h.ops n t ht) (Nat.le_trans h2 g2)
/-- What the reference computes for a read, and what the program does. -/
theorem SnI.own (h : SnI ds S) (ho0 : opsOf S.ts n = t.2.1) (ht : S.ts[n]? = some t) (hd : ds[n]? = some d) (hl : t.2.1.length < d.2.length) (key : Nat) :
    ownV t.2.1 key (((snKept S n).getD n []).getD key 0) = seesV t.2.1 ((snKept S n).getD n []) key := by
  unfold ownV
  cases e : lastO t.2.1 (key : Int) with
  | some o =>
    have hne : t.2.1 ≠ [] := fun e' => by rw [e'] at e; simp [lastO] at e
    rw [snKept_later ho0 hne]
    exact h.held n t d ht hd hl key o e
  | none =>
    show ((snKept S n).getD n []).getD key 0 = seesV t.2.1 ((snKept S n).getD n []) key
    unfold seesV
    cases e2 : lastK t.2.1 (key : Int) with
    | none => rfl
    | some o =>
      exfalso
      obtain ⟨h1, h2, h3⟩ := lastK_some e2
      unfold lastO at e
      rw [List.find?_eq_none] at e
      exact e o (List.mem_reverse.2 h1) (by simpa using h3)
end
/-- The versions grow by at most three a step. -/
def VerB (k : Nat) (S : Sn) : Prop := ∀ key : Nat, 0 ≤ S.ver.getD key 0 ∧ S.ver.getD key 0 ≤ 3 * (k : Int)
theorem VerB.zero (ds : Ds) : VerB 0 (snap0 ds) := fun key => by
  show 0 ≤ z3.getD key 0 ∧ z3.getD key 0 ≤ 0
  match key with
  | 0 => exact ⟨Int.le_refl _, Int.le_refl _⟩
  | 1 => exact ⟨Int.le_refl _, Int.le_refl _⟩
  | 2 => exact ⟨Int.le_refl _, Int.le_refl _⟩
  | k + 3 => exact ⟨Int.le_refl _, Int.le_refl _⟩
theorem VerB.bump {k : Nat} {S : Sn} (h : VerB k S) (os : List T3) (key : Nat) {j : Nat} (hj : j ≤ (lastW os).length) : 0 ≤ (bumpTo S.ver (lastW os) j).getD key 0 ∧ (bumpTo S.ver (lastW os) j).getD key 0 ≤ 3 * (k : Int) + 3 := by
  have h1 := h key
  have h2 := bumpTo_le S.ver (lastW os) key j
  have h3 := lastW_len os
  omega
theorem snapR_inv {ms : Ds} {xs : List Int} (h : runB ms xs = true) : ∀ k, k ≤ xs.length → SnI ms (snapR ms (xs.take k)) := by
  obtain ⟨hn4, hdb, _, hxb⟩ := runB_parts h
  intro k
  induction k with
  | zero => intro _; exact SnI.zero ms
  | succ k ih =>
    intro hk
    have hi := ih (by omega)
    have hx : xs[k]? = some (xs[k]'(by omega)) := List.getElem?_eq_getElem _
    rw [snapR_snoc hx]
    obtain ⟨h0, h1⟩ := hxb _ (List.mem_of_getElem? hx)
    generalize snapR ms (xs.take k) = S at hi ⊢
    obtain ⟨d, t, hd, ht, hst, hop, hse, hle, hdn⟩ := hi.fits.at_ (n := (xs[k]'(by omega)).toNat) (by omega)
    have hdp := draftB_parts (hdb d (List.mem_of_getElem? hd))
    by_cases hfull : t.2.1.length = d.2.length
    · rw [snap1_none hst hop hfull]; exact hi
    · obtain ⟨s, hs⟩ : ∃ s, d.2[t.2.1.length]? = some s := ⟨_, List.getElem?_eq_getElem (by omega)⟩
      obtain ⟨hk12, hy, _⟩ := hdp.2.2.2 s (List.mem_of_getElem? hs)
      have hsame := hi.same (s := s) hop ht hd (by omega) (by omega) (by omega) hk12 hy
      by_cases hm : t.2.1.length + 1 = d.2.length
      · cases hg : goodTo S.ver ((snBegan S (xs[k]'(by omega)).toNat).getD (xs[k]'(by omega)).toNat []) (lastW (t.2.1 ++ [snO S (xs[k]'(by omega)).toNat t s])) (lastW (t.2.1 ++ [snO S (xs[k]'(by omega)).toNat t s])).length
        · rw [snap1_bad hst hop hse hs hm hg]; exact hsame
        · rw [snap1_good hst hop hse hs hm hg]; exact hi.good hop ht hd (by omega) (by omega) (by omega) hk12 hy hm
      · rw [snap1_more hst hop hse hs hm]; exact hsame
theorem snapL_four (ms : Ds) (xs : List Int) : Lean4 (snapL ms xs) := by
  cases h : runB ms xs
  · have : snapL ms xs = [] := by simp [snapL, h]
    rw [this]; exact Lean4.nil
  · have : snapL ms xs = (snapR ms xs).ts := by simp [snapL, h]
    have h2 := snapR_inv h xs.length (Nat.le_refl _)
    rw [List.take_length] at h2
    rw [this]; exact h2.fits.four h

end Go.Proofs.YtfcfhgophpoibaaDoor

namespace Go.Proofs.YtfcfhgophpoibaaDoor

theorem dirtyR_push (ds : Ds) (xs : List Int) (x : Int) : dirtyR ds (xs ++ [x]) = dirty1 ds (dirtyR ds xs) x.toNat := by simp [dirtyR]
theorem lockR_push (ds : Ds) (xs : List Int) (x : Int) : lockR ds (xs ++ [x]) = lock1 ds (lockR ds xs) x.toNat := by simp [lockR]
theorem snapR_push (ds : Ds) (xs : List Int) (x : Int) : snapR ds (xs ++ [x]) = snap1 ds (snapR ds xs) x.toNat := by simp [snapR]
def aloneTo (ds : Ds) : Nat → List Int
  | 0 => []
  | k + 1 => aloneTo ds k ++ List.replicate (stepsOf ds k).length (k : Int)
def aloneAt (ds : Ds) (k j : Nat) : List Int := aloneTo ds k ++ List.replicate j (k : Int)
theorem aloneAt_succ (ds : Ds) (k j : Nat) : aloneAt ds k (j + 1) = aloneAt ds k j ++ [(k : Int)] := by
  unfold aloneAt; rw [List.replicate_succ', List.append_assoc]
theorem aloneAt_end (ds : Ds) (k : Nat) : aloneAt ds k (stepsOf ds k).length = aloneAt ds (k + 1) 0 := by simp [aloneAt, aloneTo]
theorem aloneAt_zero (ds : Ds) : aloneAt ds 0 0 = [] := by simp [aloneAt, aloneTo]

structure Alike (ds : Ds) (n s : Nat) (D : RunSt) (L : LockSt) (N : Sn) : Prop where
  e1 : L.1 = D.1
  e2 : N.ts = D.1
  fits : Fits ds D.1
  low : ∀ (m : Nat) (d : Int × List T3) (t : Tx), m < n → ds[m]? = some d → D.1[m]? = some t → t.2.1.length = d.2.length
  at_ : ∀ t : Tx, D.1[n]? = some t → t.2.1.length = s
  high : ∀ (m : Nat) (t : Tx), n < m → D.1[m]? = some t → t.2.1.length = 0
  slen : D.2.length = 3
  lst : N.st = L.2.1
  llen : L.2.1.length = 3
  key : ∀ (m : Nat) (t : Tx), D.1[m]? = some t → ∀ o ∈ t.2.1, 0 ≤ o.2.1 ∧ o.2.1 ≤ 2
  sees : ∀ key : Nat, D.2.getD key 0 = seesV (opsOf D.1 n) L.2.1 key
  own : L.2.2.length = 3 ∧ ∀ x ∈ L.2.2, x = 0 ∨ x = (n : Int) + 1
  klen : N.kept.length = 4
  blen : N.began.length = 4
  kept : 0 < s → N.kept.getD n [] = N.st
  began : 0 < s → N.began.getD n [] = N.ver

theorem seesV_snoc_w {os : List T3} {st : List Int} {o : T3} (h : o.1 = 2) (key : Nat) : seesV (os ++ [o]) st key = if o.2.1 = (key : Int) then o.2.2 else seesV os st key := by
  unfold seesV
  rw [lastK_snoc]
  by_cases e : o.2.1 = (key : Int)
  · rw [if_pos ⟨h, e⟩, if_pos e]
  · rw [if_neg (fun x => e x.2), if_neg e]
theorem seesV_snoc_r {os : List T3} {st : List Int} {o : T3} (h : o.1 ≠ 2) (key : Nat) : seesV (os ++ [o]) st key = seesV os st key := by
  unfold seesV
  rw [lastK_snoc, if_neg (fun x => h x.1)]
theorem seesV_nil (st : List Int) (key : Nat) : seesV [] st key = st.getD key 0 := rfl
theorem getD_commit' (os : List T3) (st : List Int) (hst : st.length = 3) (hos : ∀ o ∈ os, 0 ≤ o.2.1 ∧ o.2.1 ≤ 2) (j : Nat) : (commitS os st).getD j 0 = seesV os st j := by
  match j with
  | 0 => rfl
  | 1 => rfl
  | 2 => rfl
  | j + 3 =>
    have h1 : (commitS os st).getD (j + 3) 0 = 0 := rfl
    rw [h1]
    unfold seesV
    have h2 : lastK os ((j + 3 : Nat) : Int) = none := by
      cases h : lastK os ((j + 3 : Nat) : Int) with
      | none => rfl
      | some o => have h3 := lastK_some h; have := hos o h3.1; omega
    rw [h2]
    show 0 = st.getD (j + 3) 0
    rw [List.getD_eq_getElem?_getD, List.getElem?_eq_none (by omega)]; rfl
theorem goodTo_self (ver : List Int) (ws : List T3) (j : Nat) : goodTo ver ver ws j = true := by
  unfold goodTo; rw [List.all_eq_true]; intro o _; simp
theorem stepsOf_get {ds : Ds} {n : Nat} {d : Int × List T3} (h : ds[n]? = some d) : stepsOf ds n = d.2 := by simp [stepsOf, List.getD, h]
theorem opsOf_get {ts : List Tx} {n : Nat} {t : Tx} (h : ts[n]? = some t) : opsOf ts n = t.2.1 := by simp [opsOf, List.getD, h]
theorem opsOf_set {ts : List Tx} {n : Nat} (hn : n < ts.length) (t : Tx) : opsOf (ts.set n t) n = t.2.1 := opsOf_get (List.getElem?_set_self hn)
/-- What one step of draft n does in all three. -/
theorem Alike.step {ds : Ds} {n s : Nat} {D : RunSt} {L : LockSt} {N : Sn} (h : Alike ds n s D L N) (hds : ∀ d ∈ ds, draftB d = true) (hn4 : ds.length ≤ 4) (hn : n < ds.length) (hs : s < (stepsOf ds n).length) :
    ∃ (t : Tx) (d : Int × List T3) (o : T3) (st' : List Int), D.1[n]? = some t ∧ ds[n]? = some d ∧ t.2.1.length = s ∧ s < d.2.length ∧ (0 ≤ o.2.1 ∧ o.2.1 ≤ 2) ∧
      dirty1 ds D n = (D.1.set n (t.1, t.2.1 ++ [o], decide (s + 1 = d.2.length)), st') ∧
      st'.length = 3 ∧ (∀ key : Nat, st'.getD key 0 = seesV (t.2.1 ++ [o]) L.2.1 key) ∧
      (s + 1 ≠ d.2.length → lock1 ds L n = (D.1.set n (t.1, t.2.1 ++ [o], false), L.2.1, L.2.2.set o.2.1.toNat ((n : Int) + 1))) ∧
      (s + 1 = d.2.length → lock1 ds L n = (D.1.set n (t.1, t.2.1 ++ [o], true), commitS (t.2.1 ++ [o]) L.2.1, freeO n (L.2.2.set o.2.1.toNat ((n : Int) + 1)))) ∧
      (snKept N n).getD n [] = N.st ∧ (snBegan N n).getD n [] = N.ver ∧ (snKept N n).length = 4 ∧ (snBegan N n).length = 4 ∧
      (s + 1 ≠ d.2.length → snap1 ds N n = ⟨D.1.set n (t.1, t.2.1 ++ [o], false), N.st, N.ver, snKept N n, snBegan N n⟩) ∧
      (s + 1 = d.2.length → ∃ ver, snap1 ds N n = ⟨D.1.set n (t.1, t.2.1 ++ [o], true), commitS (t.2.1 ++ [o]) L.2.1, ver, snKept N n, snBegan N n⟩) := by
  obtain ⟨d, t, hd, ht, hst, hop, hse, hle, hdn⟩ := h.fits.at_ hn
  have hts := h.at_ t ht
  rw [hst] at hs
  obtain ⟨q, hq⟩ : ∃ q, d.2[t.2.1.length]? = some q := ⟨_, List.getElem?_eq_getElem (by omega)⟩
  obtain ⟨hb1, hb2, hb3, hb4⟩ := draftB_parts (hds d (List.mem_of_getElem? hd))
  obtain ⟨hk, hy, hz⟩ := hb4 q (List.mem_of_getElem? hq)
  have hsees := h.sees
  rw [hop] at hsees
  have hyn : ((q.2.1.toNat : Nat) : Int) = q.2.1 := by omega
  have hval : dirtyV D.2 n t.2.1.length q = lockV t.2.1 L.2.1 n q := by
    unfold dirtyV lockV
    split
    · rfl
    · exact hsees _
  have hop1 : opsOf L.1 n = t.2.1 := by rw [h.e1]; exact hop
  have hop2 : opsOf N.ts n = t.2.1 := by rw [h.e2]; exact hop
  have hse1 : sesOf L.1 n = t.1 := by rw [h.e1]; exact hse
  have hse2 : sesOf N.ts n = t.1 := by rw [h.e2]; exact hse
  have hfree : ¬ (L.2.2.getD q.2.1.toNat 0 ≠ 0 ∧ L.2.2.getD q.2.1.toNat 0 ≠ (n : Int) + 1) := by
    rintro ⟨a, b⟩
    by_cases hl : q.2.1.toNat < L.2.2.length
    · have e : L.2.2.getD q.2.1.toNat 0 = L.2.2[q.2.1.toNat] := by rw [List.getD_eq_getElem?_getD, List.getElem?_eq_getElem hl]; rfl
      rcases h.own.2 _ (List.getElem_mem hl) with e2 | e2
      · exact a (e.trans e2)
      · exact b (e.trans e2)
    · have := h.own.1; omega
  have hkp : (snKept N n).getD n [] = N.st := by
    unfold snKept
    rw [hop2]
    split
    · rw [getD_setL _ _ _ _ (by rw [h.klen]; omega), if_pos rfl]
    · exact h.kept (by omega)
  have hbg : (snBegan N n).getD n [] = N.ver := by
    unfold snBegan
    rw [hop2]
    split
    · rw [getD_setL _ _ _ _ (by rw [h.blen]; omega), if_pos rfl]
    · exact h.began (by omega)
  have hso : snO N n t q = lockO t.2.1 L.2.1 n q := by unfold snO; rw [hkp, h.lst]
  refine ⟨t, d, lockO t.2.1 L.2.1 n q, dirtyS D.2 n t.2.1.length q, ht, hd, hts, hs, hy, ?_, ?_, ?_, ?_, ?_, hkp, hbg, by rw [snKept_len, h.klen], by rw [snBegan_len, h.blen], ?_, ?_⟩
  · rw [dirty1_some hst hop hse hq, hval, ← hts]; rfl
  · unfold dirtyS; split <;> simp [h.slen]
  · intro key
    unfold dirtyS
    by_cases h2 : q.1 = 2
    · rw [if_pos h2, seesV_snoc_w (o := lockO t.2.1 L.2.1 n q) h2]
      have e3 : (lockO t.2.1 L.2.1 n q).2.2 = valOf n t.2.1.length := by unfold lockO lockV; simp [h2]
      have e4 : (lockO t.2.1 L.2.1 n q).2.1 = q.2.1 := rfl
      rw [e3, e4, getD_set _ _ _ _ (by have := h.slen; omega), hsees key]
      by_cases e : q.2.1.toNat = key
      · rw [if_pos e, if_pos (by omega)]
      · rw [if_neg e, if_neg (by omega)]
    · rw [if_neg h2, seesV_snoc_r (o := lockO t.2.1 L.2.1 n q) h2, hsees key]
  · intro hm
    have := lock1_more (ds := ds) (S := L) hst hop1 hse1 hq hfree (by rw [hts]; exact hm)
    rw [h.e1] at this
    exact this
  · intro hm
    have := lock1_last (ds := ds) (S := L) hst hop1 hse1 hq hfree (by rw [hts]; exact hm)
    rw [h.e1] at this
    exact this
  · intro hm
    have := snap1_more (ds := ds) (S := N) hst hop2 hse2 hq (by rw [hts]; exact hm)
    rw [hso, h.e2] at this
    exact this
  · intro hm
    have := snap1_good (ds := ds) (S := N) hst hop2 hse2 hq (by rw [hts]; exact hm) (by rw [hbg]; exact goodTo_self _ _ _)
    rw [hso, h.e2, h.lst] at this
    exact ⟨_, this⟩
theorem own_set {xs : List Int} {n : Nat} (h : ∀ x ∈ xs, x = 0 ∨ x = (n : Int) + 1) (i : Nat) : ∀ x ∈ xs.set i ((n : Int) + 1), x = 0 ∨ x = (n : Int) + 1 := fun x hx => by
  rcases List.mem_or_eq_of_mem_set hx with hx | rfl
  · exact h x hx
  · exact .inr rfl
theorem own_free {xs : List Int} {n : Nat} (h : ∀ x ∈ xs, x = 0 ∨ x = (n : Int) + 1) : ∀ x ∈ freeO n xs, x = 0 := fun x hx => by
  unfold freeO at hx
  obtain ⟨y, hy, rfl⟩ := List.mem_map.1 hx
  rcases h y hy with rfl | rfl
  · simp
  · simp
theorem key_set {ts : List Tx} {n : Nat} {t : Tx} {o : T3} (h : ∀ (m : Nat) (t : Tx), ts[m]? = some t → ∀ o ∈ t.2.1, 0 ≤ o.2.1 ∧ o.2.1 ≤ 2) (ht : ts[n]? = some t) (ho : 0 ≤ o.2.1 ∧ o.2.1 ≤ 2) (f : Int) (dn : Bool) :
    ∀ (m : Nat) (u : Tx), (ts.set n (f, t.2.1 ++ [o], dn))[m]? = some u → ∀ p ∈ u.2.1, 0 ≤ p.2.1 ∧ p.2.1 ≤ 2 := by
  intro m u hu p hp
  by_cases e : n = m
  · subst e
    rw [List.getElem?_set_self (List.getElem?_eq_some_iff.1 ht).1] at hu
    injection hu with hu; subst hu
    rcases List.mem_append.1 hp with hp | hp
    · exact h n t ht p hp
    · simp at hp; subst hp; exact ho
  · rw [List.getElem?_set_ne e] at hu
    exact h m u hu p hp
theorem Alike.more {ds : Ds} {n s : Nat} {D : RunSt} {L : LockSt} {N : Sn} (h : Alike ds n s D L N) (hds : ∀ d ∈ ds, draftB d = true) (hn4 : ds.length ≤ 4) (hn : n < ds.length) (hs : s + 1 < (stepsOf ds n).length) :
    Alike ds n (s + 1) (dirty1 ds D n) (lock1 ds L n) (snap1 ds N n) := by
  obtain ⟨t, d, o, st', ht, hd, hts, hsd, ho, q1, q2, q3, q4, _, q6, q7, q8, q9, q10, _⟩ := h.step hds hn4 hn (by omega)
  have hsd2 : s + 1 < d.2.length := by rw [stepsOf_get hd] at hs; exact hs
  rw [q1, q4 (by omega), q10 (by omega), decide_eq_false (show ¬ s + 1 = d.2.length by omega)]
  have hnl : n < D.1.length := (List.getElem?_eq_some_iff.1 ht).1
  have hf := h.fits.step hd ht (by omega) o
  rw [decide_eq_false (show ¬ t.2.1.length + 1 = d.2.length by omega)] at hf
  exact {
    e1 := rfl, e2 := rfl, fits := hf
    low := fun m d' t' hm hd' ht' => by
      rw [List.getElem?_set_ne (by omega)] at ht'; exact h.low m d' t' hm hd' ht'
    at_ := fun t' ht' => by
      rw [List.getElem?_set_self hnl] at ht'
      injection ht' with ht'; subst ht'; simp [hts]
    high := fun m t' hm ht' => by
      rw [List.getElem?_set_ne (by omega)] at ht'; exact h.high m t' hm ht'
    slen := q2, lst := h.lst, llen := h.llen
    key := key_set h.key ht ho _ _
    sees := fun key => by rw [opsOf_set hnl]; exact q3 key
    own := ⟨by simp [h.own.1], own_set h.own.2 _⟩
    klen := q8, blen := q9, kept := fun _ => q6, began := fun _ => q7 }
theorem Alike.last {ds : Ds} {n s : Nat} {D : RunSt} {L : LockSt} {N : Sn} (h : Alike ds n s D L N) (hds : ∀ d ∈ ds, draftB d = true) (hn4 : ds.length ≤ 4) (hn : n < ds.length) (hs : s + 1 = (stepsOf ds n).length) :
    Alike ds (n + 1) 0 (dirty1 ds D n) (lock1 ds L n) (snap1 ds N n) := by
  obtain ⟨t, d, o, st', ht, hd, hts, hsd, ho, q1, q2, q3, _, q5, q6, q7, q8, q9, _, q11⟩ := h.step hds hn4 hn (by omega)
  have hsd2 : s + 1 = d.2.length := by rw [stepsOf_get hd] at hs; exact hs
  obtain ⟨ver, q11⟩ := q11 hsd2
  rw [q1, q5 hsd2, q11, decide_eq_true hsd2]
  have hnl : n < D.1.length := (List.getElem?_eq_some_iff.1 ht).1
  have hf := h.fits.step hd ht (by omega) o
  rw [decide_eq_true (show t.2.1.length + 1 = d.2.length by omega)] at hf
  have hk := key_set h.key ht ho t.1 true
  have hkn : ∀ p ∈ t.2.1 ++ [o], 0 ≤ p.2.1 ∧ p.2.1 ≤ 2 := hk n _ (List.getElem?_set_self hnl)
  exact {
    e1 := rfl, e2 := rfl, fits := hf
    low := fun m d' t' hm hd' ht' => by
      by_cases e : n = m
      · subst e
        rw [List.getElem?_set_self hnl] at ht'
        injection ht' with ht'; subst ht'
        rw [hd] at hd'; injection hd' with hd'; subst hd'
        simp [hts]; exact hsd2
      · rw [List.getElem?_set_ne e] at ht'; exact h.low m d' t' (by omega) hd' ht'
    at_ := fun t' ht' => by
      rw [List.getElem?_set_ne (by omega)] at ht'; exact h.high (n + 1) t' (by omega) ht'
    high := fun m t' hm ht' => by
      rw [List.getElem?_set_ne (by omega)] at ht'; exact h.high m t' (by omega) ht'
    slen := q2, lst := rfl, llen := rfl
    key := hk
    sees := fun key => by
      have e : opsOf (D.1.set n (t.1, t.2.1 ++ [o], true)) (n + 1) = [] := by
        cases hg : (D.1.set n (t.1, t.2.1 ++ [o], true))[n + 1]? with
        | none => simp [opsOf, List.getD, hg]
        | some u =>
          rw [opsOf_get hg]
          rw [List.getElem?_set_ne (by omega)] at hg
          exact List.eq_nil_of_length_eq_zero (h.high (n + 1) u (by omega) hg)
      rw [e, seesV_nil, q3 key, getD_commit' _ _ h.llen hkn]
    own := ⟨by simp [freeO, h.own.1], fun x hx => .inl (own_free (own_set h.own.2 _) x hx)⟩
    klen := q8, blen := q9, kept := fun e => absurd e (by omega), began := fun e => absurd e (by omega) }
theorem Alike.zero {ds : Ds} (hds : ∀ d ∈ ds, draftB d = true) : Alike ds 0 0 (dirtyR ds []) (lockR ds []) (snapR ds []) := by
  have hE : ∀ (m : Nat) (t : Tx), (emptyT ds)[m]? = some t → t.2.1 = [] := fun m t ht => by
    unfold emptyT at ht
    rw [List.getElem?_map] at ht
    cases hd : ds[m]? <;> rw [hd] at ht <;> simp at ht
    subst ht; rfl
  exact {
    e1 := rfl, e2 := rfl, fits := Fits.empty hds
    low := fun m d t hm => absurd hm (by omega)
    at_ := fun t ht => by rw [hE 0 t ht]; rfl
    high := fun m t _ ht => by rw [hE m t ht]; rfl
    slen := rfl, lst := rfl, llen := rfl
    key := fun m t ht o ho => by rw [hE m t ht] at ho; simp at ho
    sees := fun key => by
      have e : opsOf (emptyT ds) 0 = [] := by
        cases hg : (emptyT ds)[0]? with
        | none => simp [opsOf, List.getD, hg]
        | some u => rw [opsOf_get hg]; exact hE 0 u hg
      show z3.getD key 0 = seesV (opsOf (emptyT ds) 0) z3 key
      rw [e, seesV_nil]
    own := ⟨rfl, fun x hx => .inl (by have : x ∈ ([0, 0, 0] : List Int) := hx; simpa using this)⟩
    klen := rfl, blen := rfl, kept := fun e => absurd e (by omega), began := fun e => absurd e (by omega) }
theorem alike_at {ds : Ds} (hds : ∀ d ∈ ds, draftB d = true) (hn4 : ds.length ≤ 4) {n : Nat} (hn : n < ds.length) (h : Alike ds n 0 (dirtyR ds (aloneAt ds n 0)) (lockR ds (aloneAt ds n 0)) (snapR ds (aloneAt ds n 0))) :
    ∀ j, j < (stepsOf ds n).length → Alike ds n j (dirtyR ds (aloneAt ds n j)) (lockR ds (aloneAt ds n j)) (snapR ds (aloneAt ds n j))
  | 0, _ => h
  | j + 1, hj => by
    have ih := alike_at hds hn4 hn h j (by omega)
    rw [aloneAt_succ, dirtyR_push, lockR_push, snapR_push]
    exact ih.more hds hn4 hn hj
theorem alike_run {ds : Ds} (hds : ∀ d ∈ ds, draftB d = true) (hn4 : ds.length ≤ 4) : ∀ n, n ≤ ds.length → Alike ds n 0 (dirtyR ds (aloneAt ds n 0)) (lockR ds (aloneAt ds n 0)) (snapR ds (aloneAt ds n 0))
  | 0, _ => Alike.zero hds
  | n + 1, hn => by
    have ih := alike_run hds hn4 n (by omega)
    have hd : ds[n]? = some (ds[n]'(by omega)) := List.getElem?_eq_getElem _
    have h1 := (draftB_parts (hds _ (List.mem_of_getElem? hd))).1
    rw [← stepsOf_get hd] at h1
    obtain ⟨j, hj⟩ : ∃ j, j + 1 = (stepsOf ds n).length := ⟨(stepsOf ds n).length - 1, by omega⟩
    have := alike_at hds hn4 (by omega) ih j (by omega)
    rw [← aloneAt_end, ← hj, aloneAt_succ, dirtyR_push, lockR_push, snapR_push]
    exact this.last hds hn4 (by omega) hj
def aloneL (ds : Ds) : List Int := aloneAt ds ds.length 0
theorem aloneTo_len {ds : Ds} (hds : ∀ d ∈ ds, draftB d = true) : ∀ n, n ≤ ds.length → (aloneTo ds n).length ≤ 4 * n
  | 0, _ => by simp [aloneTo]
  | n + 1, hn => by
    have ih := aloneTo_len hds n (by omega)
    have hd : ds[n]? = some (ds[n]'(by omega)) := List.getElem?_eq_getElem _
    have h1 := (draftB_parts (hds _ (List.mem_of_getElem? hd))).2.1
    rw [← stepsOf_get hd] at h1
    simp [aloneTo]; omega
theorem aloneTo_mem {ds : Ds} : ∀ (n : Nat) (x : Int), x ∈ aloneTo ds n → 0 ≤ x ∧ x < n
  | 0, x, h => by simp [aloneTo] at h
  | n + 1, x, h => by
    simp only [aloneTo, List.mem_append, List.mem_replicate] at h
    rcases h with h | h
    · have := aloneTo_mem n x h; omega
    · omega
theorem alone_runB {ds : Ds} (h : planB ds = true) : runB ds (aloneL ds) = true := by
  have hp := h
  unfold planB at h
  simp only [Bool.and_eq_true, decide_eq_true_eq, List.all_eq_true] at h
  have hl := aloneTo_len h.2 ds.length (Nat.le_refl _)
  have hm := aloneTo_mem (ds := ds) ds.length
  unfold runB schedB
  simp only [Bool.and_eq_true, decide_eq_true_eq, List.all_eq_true]
  refine ⟨hp, (inB_iff _ _ _).2 ⟨by omega, by have := h.1; omega⟩, ?_, fun x hx => ?_⟩
  · simp [aloneL, aloneAt]; omega
  · rw [inB_iff]
    have := hm x (by simpa [aloneL, aloneAt] using hx)
    omega
/-- The law. -/
theorem alone_same {ds : Ds} (h : planB ds = true) : lockL ds (aloneL ds) = dirtyL ds (aloneL ds) ∧ snapL ds (aloneL ds) = dirtyL ds (aloneL ds) ∧ ∀ t ∈ dirtyL ds (aloneL ds), t.2.2 = true := by
  have hr := alone_runB h
  unfold planB at h
  simp only [Bool.and_eq_true, decide_eq_true_eq, List.all_eq_true] at h
  have := alike_run h.2 h.1 ds.length (Nat.le_refl _)
  have hA : Alike ds ds.length 0 (dirtyR ds (aloneL ds)) (lockR ds (aloneL ds)) (snapR ds (aloneL ds)) := this
  simp only [lockL, snapL, dirtyL, hr, if_true]
  refine ⟨hA.e1, hA.e2, fun t ht => ?_⟩
  obtain ⟨i, hi, he⟩ := List.mem_iff_getElem.1 ht
  have hti : (dirtyR ds (aloneL ds)).1[i]? = some t := by rw [← he]; exact List.getElem?_eq_getElem hi
  have hil : i < ds.length := by rw [← hA.fits.1]; exact hi
  obtain ⟨a, b, c⟩ := hA.fits.2 i _ t (List.getElem?_eq_getElem hil) hti
  rw [c, decide_eq_true_eq]
  exact hA.low i _ t hil (List.getElem?_eq_getElem hil) hti

end Go.Proofs.YtfcfhgophpoibaaDoor

namespace Go.Proofs.YtfcfhgophpoibaaDoor
open Go.RowKit Go.Maps

def opV (o : T3) : Value := .agg #[.int .i64 o.1, .int .i64 o.2.1, .int .i64 o.2.2]
def RV : Value → Option (DataW Value × List MemPlace) := fun v => some (.held v, [])
theorem lawInt : Keyed Tryd.prog 3 := int_keyed Tryd.underlying3
def kI (x : Int) : Lit := .int .i64 x
def wfI (x : Int) : Prop := (Lit.int .i64 x).wf = true
theorem kI_inj {x y : Int} (h : kI x = kI y) : x = y := by unfold kI at h; injection h
theorem keyInt {x : Int} (h : wfI x) : keyOf Tryd.prog 3 (.int .i64 x) = some (kI x) := keyOf_int_mk Tryd.underlying3 h
theorem wfI_small {x : Int} (h0 : 0 ≤ x) (h1 : x ≤ 1000) : wfI x := WalkArith.wf_i64 (by omega)
theorem zeroOp (w : World) : (zeroValue 53).run Tryd.prog w = .ok (opV (0, 0, 0)) w := by kernel_rfl
/-- The map at block b: the last writes among ops. -/
def Last (w : World) (b n : Nat) (os : List T3) : Prop :=
  ∃ D : DataW Value, w.ownsMap Tryd.prog 3 RV b n D ∧ ∀ q, Maps.has D (kI q) = (lastK os q).isSome ∧ D.atKey (kI q) (.held (opV (0, 0, 0))) = .held (opV ((lastK os q).getD (0, 0, 0)))
theorem Last.zero (w : World) : Last (w.alloc (.map #[] 0)) w.heap.size 0 [] :=
  ⟨_, World.ownsMap_made w _ _ _, fun _ => ⟨rfl, rfl⟩⟩
theorem Last.lt {w : World} {b n : Nat} {os : List T3} (h : Last w b n os) : b < w.heap.size := by obtain ⟨D, ho, _⟩ := h; exact ho.lt
theorem Last.below {w w' : World} {b n : Nat} {os : List T3} (h : Last w b n os) (hb : Below w.heap.size w w') : Last w' b n os := by
  obtain ⟨D, ho, h2⟩ := h
  have hlt := ho.lt
  obtain ⟨es, cl, h3, h4⟩ := ho
  exact ⟨D, ⟨es, cl, (hb.block b hlt).trans h3, h4⟩, h2⟩
theorem Last.alloc {w : World} {b n : Nat} {os : List T3} (h : Last w b n os) (o : Obj) : Last (w.alloc o) b n os := h.below ((Below.refl _ _).alloc (Nat.le_refl _) _)
theorem Last.kept {w w' : World} {row : Option Nat} {b n : Nat} {os : List T3} (h : Last w b n os) (hg : w.grownBy w' row) (hne : some b ≠ row) : Last w' b n os := by
  obtain ⟨D, ho, h2⟩ := h
  exact ⟨D, ho.kept hg hne, h2⟩
theorem Last.skip {w : World} {b n k : Nat} {os : List T3} {o : T3} (h : Last w b n (os.take k)) (hk : os[k]? = some o) (ho : o.1 ≠ 2) : Last w b n (os.take (k + 1)) := by
  obtain ⟨D, h1, h2⟩ := h
  refine ⟨D, h1, fun q => ?_⟩
  rw [List.take_add_one, hk]
  simp only [Option.toList_some]
  rw [lastK_snoc, if_neg (fun h => ho h.1)]
  exact h2 q
theorem Last.step {w' : World} {b n k : Nat} {os : List T3} {o : T3} {D : DataW Value} (hm : IsMap D)
    (h2 : ∀ q, Maps.has D (kI q) = (lastK (os.take k) q).isSome ∧ D.atKey (kI q) (.held (opV (0, 0, 0))) = .held (opV ((lastK (os.take k) q).getD (0, 0, 0))))
    (hk : os[k]? = some o) (ho : o.1 = 2) (h : w'.ownsMap Tryd.prog 3 RV b n (D.put (kI o.2.1) (.held (opV o)))) : Last w' b n (os.take (k + 1)) := by
  refine ⟨_, h, fun q => ?_⟩
  rw [List.take_add_one, hk]
  simp only [Option.toList_some]
  rw [lastK_snoc]
  by_cases e : o.2.1 = q
  · subst e
    rw [if_pos ⟨ho, rfl⟩, has_put_same hm (show Go.WideAt.IsKeyLit (kI _) from trivial), atKey_put_same hm (show Go.WideAt.IsKeyLit (kI _) from trivial)]
    exact ⟨rfl, rfl⟩
  · rw [if_neg (fun h => e h.2), has_put_other (fun h => e (kI_inj h).symm), atKey_put_other (fun h => e (kI_inj h).symm)]
    exact h2 q
theorem txnB_op {f : Int} {dn : Bool} {ys : List T3} (h : txnB (f, ys, dn) = true) {k : Nat} {o : T3} (hk : ys[k]? = some o) : opB o = true := by
  unfold txnB at h
  simp only [Bool.and_eq_true] at h
  exact List.all_eq_true.1 h.1 o (List.mem_of_getElem? hk)
theorem txnB_len {f : Int} {dn : Bool} {ys : List T3} (h : txnB (f, ys, dn) = true) : ys.length ≤ 6 := by
  unfold txnB at h; simp at h; exact h.2.2
theorem opB_key {x y z : Int} (h : opB (x, y, z) = true) : 0 ≤ y ∧ y ≤ 2 := by
  unfold opB at h; simp only [Bool.and_eq_true] at h; exact (inB_iff _ _ _).1 h.2.1

end Go.Proofs.YtfcfhgophpoibaaDoor

namespace Go.Proofs.YtfcfhgophpoibaaDoor
open Go.RowKit Go.Maps

set_option maxRecDepth 100000 in
set_option maxHeartbeats 8000000 in
theorem impl_lastWrites_c {v : Value} {m : Nat} {ys : List T3} {f : Int} {dn : Bool} {w : World} (hv : S3 w v m ys) (hok : txnB (f, ys, dn) = true) :
    Calls Tryd.prog 48 #[.agg #[.int .i64 f, v, .bool dn]] w (RetO w (lastW ys)) := by
  obtain ⟨A, c, rfl, hnc, hm, hr⟩ := hv
  have hl := hide hr.len
  have Hok := hide hok; clear hok
  have hm6 : m ≤ 6 := by have := txnB_len Hok.out; rw [hl.out] at this; exact this
  have hmk := fun (v : World) => run_makeMap (P := Tryd.prog) 91 v
  have B0 : Below w.heap.size w ((w.alloc (.cells #[.int .i64 f, .slice A m c, .bool dn] 35)).alloc (.map #[] 0)) := ((Below.refl _ _).alloc (Nat.le_refl _) _).alloc (by simp) _
  have M0 := Last.zero (w.alloc (.cells #[.int .i64 f, .slice A m c, .bool dn] 35))
  have K0 := (Blk.new w 35 #[.int .i64 f, .slice A m c, .bool dn]).alloc (.map #[] 0)
  obtain ⟨g0, g1, g2⟩ := K0.three
  simp only [World.size_alloc] at M0
  clear K0
  go_enter Tryd.func48, Tryd.ntmps48
  go_wp2_with fail
  clear g0 g1 g2
  go_loopw [14] (fun i wr => ∃ k : Nat, k ≤ m ∧ i = .int .i64 k ∧ Last wr (w.heap.size + 1) k (ys.take k) ∧ Below w.heap.size w wr) (fun i _ => m - (intOf i).toNat)
  case atStart => exact ⟨0, Nat.zero_le _, rfl, M0, B0⟩
  case round =>
    clear B0 M0
    obtain ⟨k, hk, rfl, hla, bw⟩ := hrel
    have HLA := hide hla; clear hla
    have hz1 : w.heap.size + 2 ≤ wr.heap.size := HLA.out.lt
    by_cases hkm : k < m
    · obtain ⟨b, off, x, y, z, rfl, hbb, hx, p0, p1, p2⟩ := hr.at_ hkm
      have a0 := (bw.cell (p := ⟨b, off + k * 3, none⟩) hbb).trans p0
      have a1 := (bw.cell (p := ⟨b, off + k * 3 + 1, none⟩) hbb).trans p1
      have a2 := (bw.cell (p := ⟨b, off + k * 3 + 2, none⟩) hbb).trans p2
      have hkey := opB_key (txnB_op Hok.out hx)
      have hwf := wfI_small hkey.1 (by omega)
      have hko := keyInt hwf
      have Hx := hide hx; have HKO := hide hko
      clear hx p0 p1 p2 hko
      have k0 : (0 : Int) ≤ k := by omega
      have k2 : (k : Int) < m := by omega
      have b1 : Below w.heap.size w (wr.alloc (.cells #[.int .i64 x, .int .i64 y, .int .i64 z] 53)) := bw.alloc bw.size _
      have K1 := Blk.new wr 53 #[.int .i64 x, .int .i64 y, .int .i64 z]
      go_wp2_with fail
      refine (writes_c).mono ?_
      rintro e w2 ⟨rfl, b2⟩
      have B2 := below_step b1 b2
      have K2 := K1.belowAll b2
      have HL2 := hide ((HLA.out.alloc (.cells #[.int .i64 x, .int .i64 y, .int .i64 z] 53)).below b2)
      obtain ⟨f0, f1, f2⟩ := K2.three
      clear K1 K2
      by_cases hx2 : x = 2
      · subst hx2
        obtain ⟨D, hown, hD⟩ := HL2.out
        have HM := hide hown.isMap
        have HD := hide hD; clear hD
        have hown2 := hown
        go_wp2_with (at_mapUpdate; refine wpList_mapUpdate_own _ rfl _ _ _ 91 rfl 3 53 lawInt Tryd.underlying91 RV (w.heap.size + 1) k D rfl hown2 (by unfold maxLen; omega) _ _ _ rfl rfl HKO.out _ [] rfl ?_; intro w3 hown3 hgrow3)
        go_roundw
        case rel => exact ⟨k + 1, by omega, by go_num, Last.step HM.out HD.out Hx.out rfl hown3, B2.grown hgrow3 B2.size (fun j e => by cases e; omega)⟩
        case measure => simp [intOf]; omega
      · have hxb : (x == 2) = false := by simpa using hx2
        have HS := hide (HL2.out.skip Hx.out hx2)
        go_wp2_with fail
        go_roundw
        case rel => exact ⟨k + 1, by omega, by go_num, by obtain ⟨D, h1, h2⟩ := HS.out; exact ⟨D, h1.mono (by omega), h2⟩, B2⟩
        case measure => simp [intOf]; omega
    · obtain rfl : k = m := by omega
      have HT := hide (show ys.take k = ys from by rw [← hl.out]; exact List.take_length)
      obtain ⟨D, hown, hD⟩ := HLA.out
      rw [HT.out] at hD
      have HD := hide hD; clear hD
      have hsz : Maps.size D ≤ k := hown.size_le
      have hownk := hown
      have hmk2 := run_make_Opc (Maps.size D) (by omega)
      have B3 : Below w.heap.size w (wr.alloc (.cells ((List.replicate (Maps.size D * 3) (Value.int .i64 0)).toArray) 53)) := bw.alloc bw.size _
      have O0 := (O3.made (w := wr) (Maps.size D) (by omega)).mono (show w.heap.size + 2 ≤ wr.heap.size by omega)
      have L0 : Last (wr.alloc (.cells ((List.replicate (Maps.size D * 3) (Value.int .i64 0)).toArray) 53)) (w.heap.size + 1) k ys := ⟨D, hownk.alloc _, HD.out⟩
      have HB3 := hide B3; have HO0 := hide O0; have HL0 := hide L0
      clear B3 O0 L0
      go_wp2_with (at_len; refine wpList_len_own _ rfl _ 91 rfl 3 53 Tryd.underlying91 RV (w.heap.size + 1) k D rfl hown ?_)
      go_loopw [6, 28] (fun s i wr' => ∃ q : Nat, i = .int .i64 q ∧ q ≤ 3 ∧ O3 53 wr' (w.heap.size + 2) s (lastTo ys q).length (lastTo ys q) ∧ Last wr' (w.heap.size + 1) k ys ∧ Below w.heap.size w wr') (fun _ i _ => 3 - (intOf i).toNat)
      case atStart => exact ⟨0, rfl, by omega, HO0.out, HL0.out, HB3.out⟩
      case round =>
        clear HB3 HO0 HL0 hownk hown hmk2 HD hsz
        obtain ⟨q, rfl, hq, ho, hla, bw3⟩ := hrel
        have hlen := lastTo_len ys q
        obtain ⟨Ao, co, rfl⟩ := ho.shape
        have HO := hide ho; clear ho
        by_cases hq3 : q < 3
        · have hq0 : (0 : Int) ≤ q := by omega
          have hq2 : (q : Int) ≤ 2 := by omega
          have HKO := hide (keyInt (wfI_small hq0 (by omega)))
          obtain ⟨E, hownE, hE⟩ := hla
          have HE := hide hE; clear hE
          have hlt := hownE.lt
          cases hK : lastK ys (q : Int) with
          | none =>
            have hf : lastTo ys (q + 1) = lastTo ys q := by rw [lastTo_succ, hK]; simp
            have F := hide hf; have HK := hide hK
            clear hf hK
            have HHas := hide (show Maps.has E (kI q) = false from by rw [(HE.out _).1, HK.out]; rfl)
            go_wp2_with (at_lookup; refine wpList_lookup_own_ok _ rfl _ _ 91 rfl 3 53 lawInt Tryd.underlying91 RV (zeroOp _) (.held (opV (0, 0, 0))) [] rfl (w.heap.size + 1) k E rfl hownE _ _ rfl HKO.out ?_; intro vv pp hvv; obtain rfl : vv = opV (0, 0, 0) := (by rw [(HE.out _).2, HK.out] at hvv; have := congrArg (fun x => x.map Prod.fst) hvv; simpa [RV] using this); rw [HHas.out]; dsimp only [opV])
            go_roundw
            case rel => exact ⟨q + 1, by go_num, by omega, by rw [F.out]; exact HO.out.alloc _, ⟨E, hownE.alloc _, HE.out⟩, bw3.alloc bw3.size _⟩
            case measure => simp [intOf]; omega
          | some o =>
            obtain ⟨x, y, z⟩ := o
            have hf : lastTo ys (q + 1) = lastTo ys q ++ [(x, y, z)] := by rw [lastTo_succ, hK]; rfl
            have F := hide hf; have HK := hide hK
            clear hf hK
            have HHas := hide (show Maps.has E (kI q) = true from by rw [(HE.out _).1, HK.out]; rfl)
            obtain ⟨W, hW⟩ : ∃ W, wr.alloc (.cells #[.int .i64 x, .int .i64 y, .int .i64 z] 53) = W := ⟨_, rfl⟩
            have KX : Blk W wr.heap.size 53 #[.int .i64 x, .int .i64 y, .int .i64 z] := by rw [← hW]; exact Blk.new wr _ _
            have bW : Below w.heap.size w W := by rw [← hW]; exact bw3.alloc bw3.size _
            have oW : O3 53 W (w.heap.size + 2) (.slice Ao (lastTo ys q).length co) (lastTo ys q).length (lastTo ys q) := by rw [← hW]; exact HO.out.alloc _
            have lW : Last W (w.heap.size + 1) k ys := by rw [← hW]; exact ⟨E, hownE.alloc _, HE.out⟩
            have zW : wr.heap.size + 1 = W.heap.size := by rw [← hW]; simp
            have KN := Blk.new W 53 #[.int .i64 x, .int .i64 y, .int .i64 z]
            have o4 := oW.alloc (.cells #[.int .i64 x, .int .i64 y, .int .i64 z] 53)
            have B4 : Below w.heap.size w (W.alloc (.cells #[.int .i64 x, .int .i64 y, .int .i64 z] 53)) := bW.alloc bW.size _
            have l4 := lW.alloc (.cells #[.int .i64 x, .int .i64 y, .int .i64 z] 53)
            have hz4 : w.heap.size + 2 ≤ (W.alloc (.cells #[.int .i64 x, .int .i64 y, .int .i64 z] 53)).heap.size := by simp; omega
            have hln : (lastTo ys q).length + 1 ≤ 1048576 := by omega
            obtain ⟨f0, f1, f2⟩ := KX.three
            go_wp2_with (first | (at_lookup; refine wpList_lookup_own_ok _ rfl _ _ 91 rfl 3 53 lawInt Tryd.underlying91 RV (zeroOp _) (.held (opV (0, 0, 0))) [] rfl (w.heap.size + 1) k E rfl hownE _ _ rfl HKO.out ?_; intro vv pp hvv; obtain rfl : vv = opV (x, y, z) := (by rw [(HE.out _).2, HK.out] at hvv; have := congrArg (fun x => x.map Prod.fst) hvv; simpa [RV] using this); rw [HHas.out]; dsimp only [opV]) | (at_builtin; refine wpList_app3 rfl _ _ rfl Tryd.underlying33 infoOpz rfl o4 rfl (S3.one KN (Nat.le_refl _)) hln hz4 ?_; intro v1 w4 h4 hg4 hat; have L5 := l4.kept hg4 (o4.far (by omega)); have B5 := below_app3 B4 o4 (by omega) hg4))
            go_roundw
            case rel => exact ⟨q + 1, by go_num, by omega, by rw [F.out, List.length_append]; exact h4, L5, B5⟩
            case measure => simp [intOf]; omega
        · obtain rfl : q = 3 := by omega
          have ho := HO.out
          go_wp2_with fail
          go_ret
          refine ⟨_, (lastTo ys 3).length, rfl, ?_, bw3⟩
          rw [← lastTo_three]
          exact ho.mono (by omega)

end Go.Proofs.YtfcfhgophpoibaaDoor

namespace Go.Proofs.YtfcfhgophpoibaaDoor
open Go.RowKit Go.Maps

/-- Nothing among the first k last writes has the key. -/
theorem lastW_find (os : List T3) (key : Int) {j : Nat} {o : T3} (hj : (lastW os)[j]? = some o) (ho : o.2.1 = key) : lastK os key = some o := by
  have hm := List.mem_of_getElem? hj
  unfold lastW at hm
  simp only [List.mem_append, Option.mem_toList] at hm
  rcases hm with h | h | h
  · have e := (lastK_some h).2.2; rw [← ho, e]; exact h
  · have e := (lastK_some h).2.2; rw [← ho, e]; exact h
  · have e := (lastK_some h).2.2; rw [← ho, e]; exact h
theorem lastW_miss (os : List T3) (key : Int) (h0 : 0 ≤ key) (h2 : key ≤ 2) (h : ∀ o ∈ lastW os, o.2.1 ≠ key) : lastK os key = none := by
  cases e : lastK os key with
  | none => rfl
  | some o =>
    exfalso
    refine h o ?_ (lastK_some e).2.2
    unfold lastW
    simp only [List.mem_append, Option.mem_toList]
    have : key = 0 ∨ key = 1 ∨ key = 2 := by omega
    rcases this with rfl | rfl | rfl
    · exact .inl e
    · exact .inr (.inl e)
    · exact .inr (.inr e)
set_option maxRecDepth 100000 in
set_option maxHeartbeats 8000000 in
theorem impl_seen_c {v : Value} {m : Nat} {ys : List T3} {f : Int} {dn : Bool} {s0 s1 s2 : Int} {key : Nat} {w : World} (hv : S3 w v m ys) (hok : txnB (f, ys, dn) = true) (hkey : key ≤ 2) :
    Calls Tryd.prog 47 #[.agg #[.int .i64 f, v, .bool dn], .agg #[.int .i64 s0, .int .i64 s1, .int .i64 s2], .int .i64 key] w fun e w' => e = .returned (.int .i64 (seesV ys [s0, s1, s2] key)) ∧ Below w.heap.size w w' := by
  have b1 : Below w.heap.size w ((w.alloc (.cells #[.int .i64 f, v, .bool dn] 35)).alloc (.cells #[.int .i64 s0, .int .i64 s1, .int .i64 s2] 51)) := ((Below.refl _ _).alloc (Nat.le_refl _) _).alloc (by simp) _
  have K1 := Blk.new (w.alloc (.cells #[.int .i64 f, v, .bool dn] 35)) 51 #[.int .i64 s0, .int .i64 s1, .int .i64 s2]
  have K0 := (Blk.new w 35 #[.int .i64 f, v, .bool dn]).alloc (.cells #[.int .i64 s0, .int .i64 s1, .int .i64 s2] 51)
  have sv := hv.below b1
  simp only [World.size_alloc] at K1
  obtain ⟨g0, g1, g2⟩ := K0.three
  obtain ⟨A, c, rfl⟩ := hv.shape
  go_enter Tryd.func47, Tryd.ntmps47
  go_wp2_with fail
  refine (impl_lastWrites_c sv hok).mono ?_
  rintro e w2 ⟨r, kk, rfl, hret, b2⟩
  have B2 := below_step b1 b2
  have K2 := K1.belowAll b2
  have s2' := hret.s3
  obtain ⟨A2, c2, rfl, hnc2, hm2, hr2⟩ := s2'
  have hl2 := hide hr2.len
  have k0 : (0 : Int) ≤ key := by omega
  have k2 : (key : Int) ≤ 2 := by omega
  clear g0 g1 g2 K0 K1 hret
  go_wp2_with fail
  go_loopw [12] (fun i wr => ∃ k : Nat, k ≤ kk ∧ i = .int .i64 k ∧ (∀ j o, j < k → (lastW ys)[j]? = some o → o.2.1 ≠ (key : Int)) ∧ Below w2.heap.size w2 wr) (fun i _ => kk - (intOf i).toNat)
  case atStart => exact ⟨0, Nat.zero_le _, rfl, fun j o h => by omega, Below.refl _ _⟩
  case round =>
    obtain ⟨k, hk, rfl, hno, bw⟩ := hrel
    have Hno := hide hno; clear hno
    have BW := below_step B2 bw
    by_cases hkm : k < kk
    · obtain ⟨b, off, x, y, z, rfl, hbb, hx, p0, p1, p2⟩ := hr2.at_ hkm
      have a0 := (bw.cell (p := ⟨b, off + k * 3, none⟩) hbb).trans p0
      have a1 := (bw.cell (p := ⟨b, off + k * 3 + 1, none⟩) hbb).trans p1
      have a2 := (bw.cell (p := ⟨b, off + k * 3 + 2, none⟩) hbb).trans p2
      have Hx := hide hx
      clear hx p0 p1 p2
      have j0 : (0 : Int) ≤ k := by omega
      have j2 : (k : Int) < kk := by omega
      by_cases hy : y = key
      · have hf : seesV ys [s0, s1, s2] key = z := by unfold seesV; rw [lastW_find ys key Hx.out hy]
        have F := hide hf; clear hf
        subst hy
        go_wp2_with fail
        go_ret
        exact ⟨by rw [F.out]; rfl, BW.alloc BW.size _⟩
      · have hyb : (y == (key : Int)) = false := by simpa using hy
        have HS : Hid (∀ j o, j < k + 1 → (lastW ys)[j]? = some o → o.2.1 ≠ (key : Int)) := hide (fun j o hj he => by
          by_cases e : j = k
          · subst e; have := Hx.out.symm.trans he; injection this with this; subst this; exact hy
          · exact Hno.out j o (by omega) he)
        clear hy
        go_wp2_with fail
        go_roundw
        case rel => exact ⟨k + 1, by omega, by go_num, HS.out, bw.alloc bw.size _⟩
        case measure => simp [intOf]; omega
    · obtain rfl : k = kk := by omega
      have hmiss : lastK ys (key : Int) = none := lastW_miss ys key k0 k2 (fun o ho => by
        obtain ⟨j, hj, he⟩ := List.mem_iff_getElem.1 ho
        exact Hno.out j o (by rw [← hl2.out]; exact hj) (by rw [← he]; exact List.getElem?_eq_getElem hj))
      have hf : seesV ys [s0, s1, s2] key = [s0, s1, s2].getD key 0 := by unfold seesV; rw [hmiss]
      have F := hide hf; clear hf hmiss
      obtain ⟨f0, f1, f2⟩ := (K2.belowAll bw).three
      obtain ⟨u, hu⟩ : ∃ u, [s0, s1, s2].getD key 0 = u := ⟨_, rfl⟩
      have hcell : wr.cell? ⟨w.heap.size + 1, key, none⟩ = some (.int .i64 u) := by
        have : key = 0 ∨ key = 1 ∨ key = 2 := by omega
        rcases this with rfl | rfl | rfl
        · rw [← hu]; exact f0
        · rw [← hu]; exact f1
        · rw [← hu]; exact f2
      clear f0 f1 f2
      have k3 : (key : Int) < 3 := by omega
      rw [hu] at F
      clear hu
      go_wp2_with fail
      go_ret
      exact ⟨by rw [F.out]; rfl, BW⟩

end Go.Proofs.YtfcfhgophpoibaaDoor

namespace Go.Proofs.YtfcfhgophpoibaaDoor
open Go.RowKit Go.Maps

def holdB (ow : List Int) (q : Nat) : Bool := !decide (ow.getD q 0 = 0)
def holdV (ow : List Int) (q : Nat) : Int := if ow.getD q 0 = 0 then 0 else ow.getD q 0 - 1
def HoldD (D : DataW Unit) (ow : List Int) : Prop := ∀ q : Nat, q ≤ 2 → Maps.has D (kI q) = holdB ow q ∧ D.atKey (kI q) (.lit (.int .i64 0)) = .lit (.int .i64 (holdV ow q))
def HoldM (w : World) (b n : Nat) (ow : List Int) : Prop := ∃ D : DataW Unit, w.ownsMap Tryd.prog 3 (plainElem Tryd.prog 3) b n D ∧ HoldD D ow
theorem HoldM.zero (w : World) : HoldM (w.alloc (.map #[] 0)) w.heap.size 0 [0, 0, 0] :=
  ⟨_, World.ownsMap_made w _ _ _, fun q hq => by match q, hq with | 0, _ => exact ⟨rfl, rfl⟩ | 1, _ => exact ⟨rfl, rfl⟩ | 2, _ => exact ⟨rfl, rfl⟩⟩
theorem HoldM.lt {w : World} {b n : Nat} {ow : List Int} (h : HoldM w b n ow) : b < w.heap.size := by obtain ⟨D, ho, _⟩ := h; exact ho.lt
theorem HoldM.chg {S : Nat → Prop} {w w' : World} {b n : Nat} {ow : List Int} (h : HoldM w b n ow) (hc : Chg S w w') (hS : ¬ S b) : HoldM w' b n ow := by
  obtain ⟨D, ho, h2⟩ := h
  have hlt := ho.lt
  obtain ⟨es, cl, h3, h4⟩ := ho
  exact ⟨D, ⟨es, cl, (hc.block b hlt hS).trans h3, h4⟩, h2⟩
theorem HoldM.below {w w' : World} {b n : Nat} {ow : List Int} (h : HoldM w b n ow) (hb : Below w.heap.size w w') : HoldM w' b n ow := h.chg (S := fun _ => False) (Chg.of_below hb) id
theorem HoldM.alloc {w : World} {b n : Nat} {ow : List Int} (h : HoldM w b n ow) (o : Obj) : HoldM (w.alloc o) b n ow := h.below ((Below.refl _ _).alloc (Nat.le_refl _) _)
theorem HoldM.mono {w : World} {b n n' : Nat} {ow : List Int} (h : HoldM w b n ow) (hn : n ≤ n') : HoldM w b n' ow := by obtain ⟨D, ho, h2⟩ := h; exact ⟨D, ho.mono hn, h2⟩
theorem HoldM.notT {w : World} {lo n nh b : Nat} {v : Value} {es : List El} {ow : List Int} (h : OT w lo v n es) (hm : HoldM w b nh ow) : ¬ OT.S v es b := fun hk => by
  obtain ⟨D, ⟨es', cl, h3, _⟩, _⟩ := hm
  rcases hk with hk | ⟨j, e, hj, hk⟩
  · rcases h.row.2 with ⟨h1, _⟩ | ⟨g, cap, cur, h1, _, hb, _⟩
    · rw [h1] at hk; simp [Value.ownBlock] at hk
    · rw [h1] at hk
      have e1 : g = b := by have h : some g = some b := hk; injection h
      subst e1
      rw [h3] at hb; injection hb with hb; cases hb
  · rcases (h.own j e hj).1.2 with ⟨h1, _⟩ | ⟨g, cap, cur, h1, _, hb, _⟩
    · rw [h1] at hk; simp [Value.ownBlock] at hk
    · rw [h1] at hk
      have e1 : g = b := by have h : some g = some b := hk; injection h
      subst e1
      rw [h3] at hb; injection hb with hb; cases hb
theorem kI_nat {q q' : Nat} (h : kI q = kI q') : q = q' := by have := kI_inj h; omega
theorem HoldD.put {D : DataW Unit} {ow : List Int} (h : HoldD D ow) (hm : IsMap D) (hl : ow.length = 3) {q : Nat} (hq : q ≤ 2) (x : Nat) : HoldD (D.put (kI q) (.lit (.int .i64 x))) (ow.set q ((x : Int) + 1)) := fun q' hq' => by
  unfold holdB holdV
  rw [getD_set _ _ _ _ (by omega)]
  by_cases e : q = q'
  · subst e
    rw [if_pos rfl, has_put_same hm (show Go.WideAt.IsKeyLit (kI _) from trivial), atKey_put_same hm (show Go.WideAt.IsKeyLit (kI _) from trivial)]
    have h1 : ((x : Int) + 1 = 0) = False := by simp; omega
    simp only [h1]
    refine ⟨by simp, ?_⟩
    rw [if_neg id]
    congr 2; omega
  · rw [if_neg e, has_put_other (fun h => e (kI_nat h).symm), atKey_put_other (fun h => e (kI_nat h).symm)]
    exact h q' hq'
theorem HoldD.del {D : DataW Unit} {ow : List Int} (h : HoldD D ow) (hl : ow.length = 3) {q : Nat} (hq : q ≤ 2) : HoldD (D.del (kI q)) (ow.set q 0) := fun q' hq' => by
  unfold holdB holdV
  rw [getD_set _ _ _ _ (by omega)]
  by_cases e : q = q'
  · subst e
    rw [if_pos rfl, has_del_same, atKey_del_same]
    exact ⟨by simp, by simp⟩
  · rw [if_neg e, has_del_other (fun h => e (kI_nat h).symm), atKey_del_other (fun h => e (kI_nat h).symm)]
    exact h q' hq'
theorem zeroInt (w : World) : (zeroValue 3).run Tryd.prog w = .ok (.int .i64 0) w := by kernel_rfl

end Go.Proofs.YtfcfhgophpoibaaDoor

namespace Go.Proofs.YtfcfhgophpoibaaDoor
open Go.RowKit Go.Maps

/-- The machine, the store, the locks. -/
structure Lk (w0 : World) (sb : Nat) (A : Option Addr) (n c : Nat) (v : Value) (ts : List Tx) (st ow : List Int) (q : Nat) (es : List El) (wr : World) : Prop where
  mach : Mach wr (w0.heap.size + 1) w0.heap.size A n c v ts es
  store : Blk wr sb 51 (storeC st)
  hold : HoldM wr (sb + 1) q ow
  bel : Below w0.heap.size w0 wr
  le : w0.heap.size < sb
section
variable {w0 wr w' : World} {sb n c q : Nat} {A : Option Addr} {v : Value} {ts : List Tx} {st ow : List Int} {es : List El}
theorem Lk.ne_store (h : Lk w0 sb A n c v ts st ow q es wr) : ¬ OT.S v es sb := h.mach.own.notS h.store (by decide) (by decide)
theorem Lk.ne_hold (h : Lk w0 sb A n c v ts st ow q es wr) : ¬ OT.S v es (sb + 1) := HoldM.notT h.mach.own h.hold
theorem Lk.chg {S : Nat → Prop} (h : Lk w0 sb A n c v ts st ow q es wr) (hc : Chg S wr w') (h0 : ∀ k, S k → w0.heap.size < k) (h1 : ¬ S sb) (h2 : ¬ S (sb + 1)) (h3 : ∀ k, OT.S v es k → ¬ S k) : Lk w0 sb A n c v ts st ow q es w' :=
  ⟨h.mach.chg hc (fun hs => by have := h0 _ hs; omega) h3, h.store.chg hc h1, h.hold.chg hc h2, Chg.below h.bel hc (fun k hk => Nat.le_of_lt (h0 k hk)), h.le⟩
theorem Lk.below (h : Lk w0 sb A n c v ts st ow q es wr) (hb : Below wr.heap.size wr w') : Lk w0 sb A n c v ts st ow q es w' :=
  h.chg (S := fun _ => False) (Chg.of_below hb) (fun _ e => e.elim) id id (fun _ _ => id)
theorem Lk.alloc (h : Lk w0 sb A n c v ts st ow q es wr) (o : Obj) : Lk w0 sb A n c v ts st ow q es (wr.alloc o) := h.below ((Below.refl _ _).alloc (Nat.le_refl _) _)
theorem Lk.mono {q' : Nat} (h : Lk w0 sb A n c v ts st ow q es wr) (hq : q ≤ q') : Lk w0 sb A n c v ts st ow q' es wr := ⟨h.mach, h.store, h.hold.mono hq, h.bel, h.le⟩
/-- A store into a cell of another block. -/
theorem Lk.other {x : Nat} (h : Lk w0 sb A n c v ts st ow q es wr) (hx : sb + 1 < x) (ho : ∀ k, OT.S v es k → k < x) (i : Nat) (u : Value) : Lk w0 sb A n c v ts st ow q es (wr.setCell ⟨x, i, none⟩ u) := by
  have hle := h.le
  exact h.chg (Chg.setCell (S := fun k => k = x) (p := ⟨x, i, none⟩) rfl u) (fun k hk => by omega) (by omega) (by omega) (fun k hk e => by have := ho k hk; omega)
/-- Behind 'did'. -/
theorem Lk.did {ts' : List Tx} {es' : List El} (h : Lk w0 sb A n c v ts st ow q es wr) (M : Mach w' (w0.heap.size + 1) w0.heap.size A n c v ts' es') (hc : Chg (OT.S v es) wr w') : Lk w0 sb A n c v ts' st ow q es' w' :=
  ⟨M, h.store.chg hc h.ne_store, h.hold.chg hc h.ne_hold, Chg.below h.bel hc (fun k hk => by have := (h.mach.own.range k hk).1; omega), h.le⟩
/-- A number stored into the store. -/
theorem Lk.put (h : Lk w0 sb A n c v ts st ow q es wr) (i : Nat) (x : Int) : Lk w0 sb A n c v ts (st.set i x) ow q es (wr.setCell ⟨sb, i, none⟩ (.int .i64 x)) := by
  have hle := h.le
  have hc := Chg.setCell (w := wr) (S := fun k => k = sb) (p := ⟨sb, i, none⟩) rfl (.int .i64 x)
  have K := h.store.set_ i (.int .i64 x)
  rw [storeC_set] at K
  exact ⟨h.mach.chg hc (by omega) (fun k hk e => h.ne_store (e ▸ hk)), K, h.hold.chg hc (by omega), Chg.below h.bel hc (fun k hk => by omega), h.le⟩
/-- The map of the locks turned. -/
theorem Lk.turn {ow' : List Int} {q' : Nat} (h : Lk w0 sb A n c v ts st ow q es wr) (hg : wr.grownBy w' (some (sb + 1))) (hm : HoldM w' (sb + 1) q' ow') : Lk w0 sb A n c v ts st ow' q' es w' := by
  have hle := h.le
  have hc := Chg.of_grown (S := fun k => k = sb + 1) hg (fun k e => by injection e with e; exact e.symm)
  exact ⟨h.mach.chg hc (by omega) (fun k hk e => h.ne_hold (e ▸ hk)), h.store.chg hc (by omega), hm, Chg.below h.bel hc (fun k hk => by omega), h.le⟩
/-- A transaction's mark set. -/
theorem Lk.done {g cg : Nat} (h : Lk w0 sb A n c (.slice (some ⟨g, 0, none⟩) n cg) ts st ow q es wr) {n0 : Nat} {t : Tx} (hn : n0 < n) (ht : ts[n0]? = some t) :
    ∃ es', Lk w0 sb A n c (.slice (some ⟨g, 0, none⟩) n cg) (ts.set n0 (t.1, t.2.1, true)) st ow q es' (wr.setCell ⟨g, n0 * 3 + 2, none⟩ (.bool true)) := by
  obtain ⟨g', cg', Au, cu, hv, hnc, hlg, hgs, he, huc, c1, c2, ho⟩ := h.mach.look hn ht
  obtain ⟨rfl, rfl⟩ : g = g' ∧ cg = cg' := by simpa using hv
  have hle := h.le
  have D12 := h.mach.own.set2 he true
  have hgm : w0.heap.size ≠ g := by omega
  have hgs12 : sb ≠ g := fun e => h.ne_store (.inl (by rw [e]; rfl))
  have hgh12 : sb + 1 ≠ g := fun e => h.ne_hold (.inl (by rw [e]; rfl))
  have hsy := h.mach.says.set_ n0 (t.1, t.2.1, true) (.slice Au t.2.1.length cu) t.2.1.length
  exact ⟨_, ⟨h.mach.box.far (p := ⟨g, n0 * 3 + 2, none⟩) hgm (.bool true), D12, hsy, by omega⟩, h.store.far (p := ⟨g, n0 * 3 + 2, none⟩) hgs12 (.bool true),
    h.hold.chg (Chg.setCell (S := fun k => k = g) (p := ⟨g, n0 * 3 + 2, none⟩) rfl (.bool true)) hgh12, h.bel.setCell (p := ⟨g, n0 * 3 + 2, none⟩) (by show w0.heap.size ≤ g; omega) (.bool true), h.le⟩
end
theorem freeTo_len (n : Nat) (ow : List Int) (j : Nat) : (freeTo n ow j).length = ow.length := by unfold freeTo freeO; simp; omega
theorem commitTo_len (os : List T3) (st : List Int) (j : Nat) : (commitTo os st j).length = st.length := by
  unfold commitTo
  generalize (lastW os).take j = l
  induction l generalizing st with
  | nil => rfl
  | cons a l ih => rw [List.foldl_cons, ih]; simp
/-- What the map of locks says at a key, while they are given back. -/
theorem freeTo_hold {n : Nat} {ow : List Int} {j : Nat} {x : Int} (h : ow[j]? = some x) : holdB (freeTo n ow j) j = !decide (x = 0) ∧ holdV (freeTo n ow j) j = if x = 0 then 0 else x - 1 := by
  unfold holdB holdV
  have : (freeTo n ow j).getD j 0 = x := by rw [List.getD_eq_getElem?_getD, freeTo_at n h]; rfl
  rw [this]; exact ⟨rfl, rfl⟩
/-- A lock that may be taken: free, or one's own. -/
theorem lock_free {ow : List Int} {sy n0 : Nat} (h : ¬ (ow.getD sy 0 ≠ 0 ∧ ow.getD sy 0 ≠ (n0 : Int) + 1)) : (holdB ow sy = false ∧ holdV ow sy = 0) ∨ (holdB ow sy = true ∧ holdV ow sy = (n0 : Int)) := by
  unfold holdB holdV
  by_cases h0 : ow.getD sy 0 = 0
  · left; rw [h0]; exact ⟨by simp, by simp⟩
  · right
    have h1 : ow.getD sy 0 = (n0 : Int) + 1 := by omega
    rw [h1]; exact ⟨by simp; omega, by rw [if_neg (by omega)]; omega⟩

end Go.Proofs.YtfcfhgophpoibaaDoor

namespace Go.Proofs.YtfcfhgophpoibaaDoor
open Go.RowKit Go.Maps

theorem reads_c {x y z : Int} {w : World} : Calls Tryd.prog 46 #[.agg #[.int .i64 x, .int .i64 y, .int .i64 z]] w fun e w' => e = .returned (.bool (x == 1)) ∧ Below w.heap.size w w' := by
  go_enter Tryd.func46, Tryd.ntmps46
  go_wp2_with fail
  go_ret
  exact ⟨rfl, (Below.refl _ _).alloc (Nat.le_refl _) _⟩
set_option maxRecDepth 100000 in
set_option maxHeartbeats 16000000 in
theorem impl_runLocks_c {A : Option Addr} {n c : Nat} {ms : Ds} {sv : Value} {m : Nat} {xs : List Int} {w : World} (hr : RDs w A n ms) (hn : n ≤ 1048576) (hsm : SmallD ms) (hs : SI w sv m xs) (hrun : runB ms xs = true) :
    Calls Tryd.prog 42 #[.slice A n c, sv] w fun e w' => ∃ v m es, e = .returned v ∧ OV w' w.heap.size v m es ∧ SaysT es (lockR ms xs).1 ∧ Below w.heap.size w w' := by
  have ss := hs
  have hl := hide hr.1
  obtain ⟨As, cs, rfl, hsnc, hsn, hsr⟩ := hs
  have hsl := hide hsr.len
  obtain ⟨hn4, hdb, hm40, hxb⟩ := runB_parts hrun
  have Q := hide hrun; have DB := hide hdb; have XB := hide hxb
  rw [hl.out] at hn4
  rw [hsl.out] at hm40
  have hmk := fun (v : World) => run_makeMap (P := Tryd.prog) 90 v
  clear hdb hxb hrun
  go_enter Tryd.func42, Tryd.ntmps42
  go_wp2_with fail
  refine (machineOf_c hr (by omega) hsm).mono ?_
  rintro e w2 ⟨v, es0, rfl, M0, b2⟩
  have hz2 := M0.box.lt
  have b3 : Below w2.heap.size w2 ((w2.alloc (.cells #[.int .i64 0, .int .i64 0, .int .i64 0] 51)).alloc (.map #[] 0)) := ((Below.refl _ _).alloc (Nat.le_refl _) _).alloc (by simp) _
  have K1 := (Blk.new w2 51 #[.int .i64 0, .int .i64 0, .int .i64 0]).alloc (.map #[] 0)
  have H1 := HoldM.zero (w2.alloc (.cells #[.int .i64 0, .int .i64 0, .int .i64 0] 51))
  simp only [World.size_alloc] at H1
  have LK0 : Lk w w2.heap.size A n c v (emptyT ms) [0, 0, 0] [0, 0, 0] 0 es0 _ := ⟨M0.below b3, K1, H1, below_step b2 b3, hz2⟩
  clear M0 K1 H1
  go_wp2_with fail
  go_loopw [24] (fun i wr => ∃ (k : Nat) (es : List El), i = .int .i64 k ∧ k ≤ m ∧ Lk w w2.heap.size A n c v (lockR ms (xs.take k)).1 (lockR ms (xs.take k)).2.1 (lockR ms (xs.take k)).2.2 k es wr ∧ LockI ms (lockR ms (xs.take k)) ∧ w2.heap.size + 1 < wr.heap.size) (fun i _ => m - (intOf i).toNat)
  case atStart => exact ⟨0, es0, rfl, Nat.zero_le _, by simpa [lockR] using LK0, by simpa [lockR] using LockI.zero DB.out, by simp⟩
  case round =>
    clear LK0 b2 b3
    obtain ⟨k, es, rfl, hk, hlk, hinv, hsz⟩ := hrel
    have Hinv := hide hinv; have LK := hide hlk; clear hinv hlk
    by_cases hkm : k < m
    · obtain ⟨b, off, x, rfl, hb, hx, hc⟩ := hsr.at_ hkm
      obtain ⟨hx0, hx1⟩ := XB.out x (List.mem_of_getElem? hx)
      rw [hl.out] at hx1
      obtain ⟨n0, rfl⟩ : ∃ q : Nat, x = q := ⟨x.toNat, by omega⟩
      have hn0 : n0 < n := by omega
      obtain ⟨d, t, hd, ht, hst, hop, hse, hle, hdn⟩ := Hinv.out.fits.at_ (show n0 < ms.length by rw [hl.out]; exact hn0)
      obtain ⟨f, ys⟩ := d
      dsimp only at hst hle hdn
      have hdp := draftB_parts (DB.out _ (List.mem_of_getElem? hd))
      dsimp only at hdp
      have q0 := (LK.out.bel.cell (p := ⟨b, off + k, none⟩) hb).trans hc
      have hdr := lockR_snoc (ds := ms) hx
      rw [Int.toNat_natCast] at hdr
      have n0i : (0 : Int) ≤ n0 := by omega
      have n1i : (n0 : Int) < n := by omega
      have k0 : (0 : Int) ≤ k := by omega
      have k1 : (k : Int) < m := by omega
      have Rr := hr.below LK.out.bel
      have Hdr := hide hdr; have Hst := hide hst; have Hop := hide hop; have Hse := hide hse; have Hdn := hide hdn
      have hA1 : ∀ b off, A = some ⟨b, off, none⟩ → b < w.heap.size + 1 := fun b off e => by
        obtain ⟨b', off', e', h', _⟩ := hr.2 (by omega)
        rw [e] at e'; injection e' with e'; injection e' with e'; subst e'; omega
      have HA1 := hide hA1
      clear hx hc hst hop hse hdn hdr hA1
      by_cases hfull : t.2.1.length = ys.length
      · have hnone := lock1_none (ds := ms) (d := (f, ys)) (t := t) (S := lockR ms (xs.take k)) Hst.out Hop.out hfull
        have Hn := hide hnone
        clear hnone
        have FU := hide hfull; have HT := hide ht; have HD := hide hd
        clear hfull ht hd
        go_wp2_with fail
        refine (step_full_c LK.out.mach Rr hn0 HT.out HD.out FU.out).mono ?_
        rintro e w3 ⟨rfl, b3⟩
        have LK3 := hide ((LK.out.below b3).alloc (.cells #[.int .i64 0, .int .i64 0, .int .i64 0] 53))
        have hz3 := b3.size
        go_wp2_with fail
        go_roundw
        case rel => exact ⟨k + 1, es, by go_num, by omega, by rw [Hdr.out, Hn.out]; exact LK3.out.mono (by omega), by rw [Hdr.out, Hn.out]; exact Hinv.out, by simp; omega⟩
        case measure => simp [intOf]; omega
      · have hlt : t.2.1.length < ys.length := by omega
        obtain ⟨⟨sx, sy, sz⟩, hs'⟩ : ∃ s, ys[t.2.1.length]? = some s := ⟨_, List.getElem?_eq_getElem hlt⟩
        have hsp := hdp.2.2.2 _ (List.mem_of_getElem? hs')
        dsimp only at hsp
        obtain ⟨hk12, ⟨sy0, sy2⟩, rfl⟩ := hsp
        obtain ⟨sy, rfl⟩ : ∃ q : Nat, sy = q := ⟨sy.toNat, by omega⟩
        have hsy2 : sy ≤ 2 := by omega
        have hL4 : t.2.1.length < 4 := by omega
        have hn04 : n0 < 4 := by omega
        obtain ⟨q0v, hq0v⟩ : ∃ q : Int, (if sx = 2 then valOf n0 t.2.1.length else 0) = q := ⟨_, rfl⟩
        have Hq := hide hq0v; have Hs := hide hs'; have HT := hide ht; have HD := hide hd; have Hlt := hide hlt
        have sy3 : (sy : Int) < 3 := by omega
        have hL4' := hide hL4
        obtain ⟨⟨S1, ST, OW⟩, hS⟩ : ∃ S, lockR ms (xs.take k) = S := ⟨_, rfl⟩
        rw [hS] at Hdr Hinv LK Hop Hse HT
        dsimp only at LK Hop Hse HT
        have holen := Hinv.out.olen
        dsimp only at holen
        clear hS
        clear hs' ht hd hlt hfull hdp hle sy2 hL4 hq0v
        go_wp2_with fail
        refine (step_c LK.out.mach Rr hn4 hn0 HT.out HD.out hL4'.out Hs.out (q := q0v) (by simpa using Hq.out.symm)).mono ?_
        rintro e w3 ⟨rfl, b3⟩
        obtain ⟨W4, hW4⟩ : ∃ W, w3.alloc (.cells #[.int .i64 sx, .int .i64 (sy : Int), .int .i64 q0v] 53) = W := ⟨_, rfl⟩
        have LK4 : Hid _ := hide ((LK.out.below b3).alloc (.cells #[.int .i64 sx, .int .i64 (sy : Int), .int .i64 q0v] 53))
        have KO := Blk.new w3 53 #[.int .i64 sx, .int .i64 (sy : Int), .int .i64 q0v]
        have hob : ∀ k, OT.S v es k → k < w3.heap.size := fun k hk => ((LK.out.below b3).mach.own.range k hk).2
        have HOB := hide hob
        have hz3 : w2.heap.size + 1 < w3.heap.size := by have := b3.size; omega
        have hW4z : W4.heap.size = w3.heap.size + 1 := by rw [← hW4]; simp
        rw [hW4] at LK4 KO
        obtain ⟨o0, o1, o2⟩ := KO.three
        have HKO := hide (keyInt (wfI_small (x := (sy : Int)) (by omega) (by omega)))
        obtain ⟨D, hown, hD⟩ := LK4.out.hold
        have hhas := (hD sy hsy2).1
        have hat := (hD sy hsy2).2
        have HDD := hide hD; have HMD := hide hown.isMap; have HOWN := hide hown
        clear hD hob
        by_cases hoth : OW.getD sy 0 ≠ 0 ∧ OW.getD sy 0 ≠ (n0 : Int) + 1
        · have hheld := lock1_held (ds := ms) (d := (f, ys)) (t := t) (S := (S1, ST, OW)) (n := n0) Hst.out Hop.out Hs.out (by simpa using hoth)
          have HH := hide hheld
          rw [show holdB OW sy = true by unfold holdB; simpa using hoth.1] at hhas
          obtain ⟨hv, hhv⟩ : ∃ hv, holdV OW sy = hv := ⟨_, rfl⟩
          rw [hhv] at hat
          have hne : (hv != (n0 : Int)) = true := by rw [← hhv]; unfold holdV; rw [if_neg hoth.1, bne_iff_ne]; intro e; exact hoth.2 (by omega)
          have HHas := hide hhas; have HAt := hide hat
          clear hheld hhas hat hhv hoth
          subst hW4
          go_wp2_with (at_lookup; refine wpList_lookup_own_ok_int _ rfl _ _ 90 rfl 3 3 .i64 lawInt Tryd.underlying90 Tryd.underlying3 (zeroInt _) (w2.heap.size + 1) k D rfl hown _ _ rfl HKO.out ?_; intro cc hcc hwc; obtain rfl : cc = hv := (by have h1 := hcc.symm.trans HAt.out; simpa using h1); clear hcc; rw [HHas.out])
          go_roundw
          case rel => exact ⟨k + 1, es, by go_num, by omega, by rw [Hdr.out, HH.out]; exact LK4.out.mono (by omega), by rw [Hdr.out, HH.out]; exact Hinv.out, by omega⟩
          case measure => simp [intOf]; omega
        · have hcase := lock_free hoth
          have HOth := hide hoth
          clear hoth
          obtain ⟨HB, hHB⟩ : ∃ b, holdB OW sy = b := ⟨_, rfl⟩
          obtain ⟨HV, hHV⟩ : ∃ b, holdV OW sy = b := ⟨_, rfl⟩
          rw [hHB, hHV] at hcase
          rw [hHB] at hhas
          rw [hHV] at hat
          have HHas := hide hhas; have HAt := hide hat
          clear hhas hat hHB hHV
          subst hW4
          go_upto_region 10 with (at_lookup; refine wpList_lookup_own_ok_int _ rfl _ _ 90 rfl 3 3 .i64 lawInt Tryd.underlying90 Tryd.underlying3 (zeroInt _) (w2.heap.size + 1) k D rfl hown _ _ rfl HKO.out ?_; intro cc hcc hwc; obtain rfl : cc = HV := (by have h1 := hcc.symm.trans HAt.out; simpa using h1); clear hcc; rw [HHas.out])
          go_cut [12, 13, 48] (fun _ _ s wx => s = .bool false ∧ Below (w3.heap.size + 1) (w3.alloc (.cells #[.int .i64 sx, .int .i64 (sy : Int), .int .i64 q0v] 53)) wx)
          case first =>
            rcases hcase with ⟨rfl, rfl⟩ | ⟨rfl, rfl⟩
            all_goals
              go_wp2_with fail
              go_meet
              case rel => exact ⟨rfl, Below.refl _ _⟩
          case rest =>
            obtain ⟨rfl, bc⟩ := hcut
            have hbc : Below (w3.alloc (.cells #[.int .i64 sx, .int .i64 (sy : Int), .int .i64 q0v] 53)).heap.size (w3.alloc (.cells #[.int .i64 sx, .int .i64 (sy : Int), .int .i64 q0v] 53)) wc := by rw [World.size_alloc]; exact bc
            have LKC := hide (LK4.out.below hbc)
            have KOC := KO.belowAll hbc
            have hzc : w3.heap.size < wc.heap.size := KOC.lt
            have LKH := LKC.out.hold
            obtain ⟨DC, hownC, hDC⟩ := LKH
            have HDC := hide hDC; have HMC := hide hownC.isMap
            clear hown bc hbc hDC o0 o1 o2 KO
            obtain ⟨o0, o1, o2⟩ := KOC.three
            go_wp2_with (at_mapUpdate; refine wpList_mapUpdate_own _ rfl _ _ _ 90 rfl 3 3 lawInt Tryd.underlying90 (plainElem Tryd.prog 3) (w2.heap.size + 1) k DC rfl hownC (by unfold maxLen; omega) _ _ _ rfl rfl HKO.out _ [] (plainElem_int Tryd.underlying3 (WalkArith.wf_i64 (by omega))) ?_; intro w5 hown5 hgrow5; have KO5 := KOC.grown hgrow5 (fun e => by injection e with e; omega); have Z5 := KO5.three; obtain ⟨z0, z1, z2⟩ := Z5)
            have HO5 : HoldM w5 (w2.heap.size + 1) (k + 1) (OW.set sy ((n0 : Int) + 1)) := ⟨_, hown5, HDC.out.put HMC.out holen (by omega) n0⟩
            have LK5 := LKC.out.turn hgrow5 HO5
            clear hown5 hownC HO5 hgrow5 o0 o1 o2 KOC
            refine (reads_c).mono ?_
            rintro e w6 ⟨rfl, b6⟩
            have LK6 := hide (LK5.below b6)
            have KO6 := KO5.belowAll b6
            have hz6 : w3.heap.size < w6.heap.size := KO6.lt
            clear LK5 KO5 z0 z1 z2
            go_upto_if 54 with fail
            go_cut [] (fun wx => Lk w w2.heap.size A n c v S1 ST (OW.set sy ((n0 : Int) + 1)) (k + 1) es wx ∧ Blk wx w3.heap.size 53 #[.int .i64 sx, .int .i64 (sy : Int), .int .i64 (lockV t.2.1 ST n0 (sx, (sy : Int), 0))])
            case first =>
              rcases hk12 with rfl | rfl
              · rw [show ((1 : Int) == 1) = true by rfl]
                obtain ⟨g, cg, Au, cu, hv, hnc, hlg, hgs, he, huc, c1, c2, ho⟩ := LK6.out.mach.look hn0 HT.out
                subst hv
                have c0 := (LK6.out.mach.own.cells he).1
                obtain ⟨s0, s1, s2, hst3⟩ : ∃ a b c, ST = [a, b, c] := by
                  have h3 := Hinv.out.vals.1
                  match ST, h3 with
                  | [a, b, c], _ => exact ⟨a, b, c, rfl⟩
                subst hst3
                have K3 : Blk w6 w2.heap.size 51 #[.int .i64 s0, .int .i64 s1, .int .i64 s2] := LK6.out.store
                obtain ⟨m0, m1, _, _⟩ := LK6.out.mach.box.two
                obtain ⟨t0, t1, t2⟩ := K3.three
                obtain ⟨z0, z1, z2⟩ := KO6.three
                have hgmb : w.heap.size < w6.heap.size := LK6.out.mach.box.lt
                have hstb : w2.heap.size < w6.heap.size := K3.lt
                have hg3 : g ≠ w3.heap.size := by have := HOB.out g (.inl rfl); omega
                have hc8 : ∀ W' : World, Below w6.heap.size w6 W' → (W'.cell? ⟨w.heap.size, 1, none⟩ = some (.slice (some ⟨g, 0, none⟩) n cg) ∧ W'.cell? ⟨g, n0 * 3, none⟩ = some (.int .i64 t.1) ∧ W'.cell? ⟨g, n0 * 3 + 1, none⟩ = some (.slice Au t.2.1.length cu) ∧ W'.cell? ⟨g, n0 * 3 + 2, none⟩ = some (.bool t.2.2) ∧ W'.cell? ⟨w2.heap.size, 0, none⟩ = some (.int .i64 s0) ∧ W'.cell? ⟨w2.heap.size, 1, none⟩ = some (.int .i64 s1) ∧ W'.cell? ⟨w2.heap.size, 2, none⟩ = some (.int .i64 s2) ∧ W'.cell? ⟨w3.heap.size, 1, none⟩ = some (.int .i64 (sy : Int))) := fun W' h => ⟨(h.cell hgmb).trans m1, (h.cell hgs).trans c0, (h.cell hgs).trans c1, (h.cell hgs).trans c2, (h.cell hstb).trans t0, (h.cell hstb).trans t1, (h.cell hstb).trans t2, (h.cell hz6).trans z1⟩
                have hc9 : ∀ (W8 W' : World) (u : Value), W' = W8.setCell ⟨w3.heap.size, 2, none⟩ u → Below w6.heap.size w6 W8 → (W'.cell? ⟨w.heap.size, 1, none⟩ = some (.slice (some ⟨g, 0, none⟩) n cg) ∧ W'.cell? ⟨g, n0 * 3, none⟩ = some (.int .i64 t.1) ∧ W'.cell? ⟨g, n0 * 3 + 1, none⟩ = some (.slice Au t.2.1.length cu) ∧ W'.cell? ⟨g, n0 * 3 + 2, none⟩ = some (.bool t.2.2) ∧ W'.cell? ⟨w2.heap.size, 0, none⟩ = some (.int .i64 s0) ∧ W'.cell? ⟨w2.heap.size, 1, none⟩ = some (.int .i64 s1) ∧ W'.cell? ⟨w2.heap.size, 2, none⟩ = some (.int .i64 s2) ∧ W'.cell? ⟨w3.heap.size, 1, none⟩ = some (.int .i64 (sy : Int))) := fun W8 W' u hW h => by
                  obtain ⟨h1, h2, h3, h4, h5, h6, h7, h8⟩ := hc8 W8 h
                  subst hW
                  refine ⟨(World.cell?_setCell_far _ _ _ _ (by show w3.heap.size ≠ w.heap.size; omega)).trans h1, (World.cell?_setCell_far _ _ _ _ hg3.symm).trans h2, (World.cell?_setCell_far _ _ _ _ hg3.symm).trans h3, (World.cell?_setCell_far _ _ _ _ hg3.symm).trans h4, (World.cell?_setCell_far _ _ _ _ (by show w3.heap.size ≠ w2.heap.size; omega)).trans h5, (World.cell?_setCell_far _ _ _ _ (by show w3.heap.size ≠ w2.heap.size; omega)).trans h6, (World.cell?_setCell_far _ _ _ _ (by show w3.heap.size ≠ w2.heap.size; omega)).trans h7, (((KO6.belowAll h).set_ 2 u).cell 1)⟩
                have htx : txnB (t.1, t.2.1, t.2.2) = true := Hinv.out.txn DB.out HT.out HD.out
                have hseen := impl_seen_c (s0 := s0) (s1 := s1) (s2 := s2) (ho.s3.below ((Below.refl w6.heap.size w6).drew)) htx hsy2
                have hof : ∀ W8, Below w6.heap.size w6 W8 → W8.frozen? ⟨w3.heap.size, 2, none⟩ = false := fun W8 h => (KO6.belowAll h).frozen 2
                have hoc : ∀ W8, Below w6.heap.size w6 W8 → W8.cell? ⟨w3.heap.size, 2, none⟩ = some (.int .i64 q0v) := fun W8 h => (KO6.belowAll h).cell 2
                have hlv2 : lockV t.2.1 [s0, s1, s2] n0 (1, (sy : Int), 0) = seesV t.2.1 [s0, s1, s2] sy := by unfold lockV; dsimp only; rw [if_neg (show ¬ ((1 : Int) = 2) by decide)]; rfl
                have HLV := hide hlv2
                clear hlv2
                go_wp2_with fail
                go_region_held3 (fun W' => (W'.cell? ⟨w.heap.size, 1, none⟩ = some (.slice (some ⟨g, 0, none⟩) n cg) ∧ W'.cell? ⟨g, n0 * 3, none⟩ = some (.int .i64 t.1) ∧ W'.cell? ⟨g, n0 * 3 + 1, none⟩ = some (.slice Au t.2.1.length cu) ∧ W'.cell? ⟨g, n0 * 3 + 2, none⟩ = some (.bool t.2.2) ∧ W'.cell? ⟨w2.heap.size, 0, none⟩ = some (.int .i64 s0) ∧ W'.cell? ⟨w2.heap.size, 1, none⟩ = some (.int .i64 s1) ∧ W'.cell? ⟨w2.heap.size, 2, none⟩ = some (.int .i64 s2) ∧ W'.cell? ⟨w3.heap.size, 1, none⟩ = some (.int .i64 (sy : Int))))
                  (first | exact hc8 _ (Below.refl _ _).drew | exact hc8 _ (below_of_drew b8) | exact hc9 _ _ _ rfl (below_of_drew b8))
                  (first | (go_at_call 47; refine hseen.mono ?_; rintro e w8 ⟨rfl, b8⟩; have f8 := hof _ (below_of_drew b8); have k8 := hoc _ (below_of_drew b8)))
                replace b8 := below_of_drew b8
                go_wp2_with fail
                go_meet
                case rel =>
                  rw [HLV.out]
                  exact ⟨(LK6.out.below b8).other (by omega) HOB.out 2 _, (KO6.belowAll b8).set_ 2 _⟩
              · rw [show ((2 : Int) == 1) = false by rfl]
                go_wp2_with fail
                go_meet
                case rel =>
                  refine ⟨LK6.out, ?_⟩
                  have hq : valOf n0 t.2.1.length = q0v := by have := Hq.out; simpa using this
                  have hlv2 : lockV t.2.1 ST n0 (2, (sy : Int), 0) = q0v := by unfold lockV; dsimp only; rw [if_pos rfl]; exact hq
                  rw [hlv2]; exact KO6
            case rest =>
              obtain ⟨lk9, ko9⟩ := hcut
              obtain ⟨lv, hlv⟩ : ∃ lv, lockV t.2.1 ST n0 (sx, (sy : Int), 0) = lv := ⟨_, rfl⟩
              rw [hlv] at ko9
              have HLO := hide (show lockO t.2.1 ST n0 (sx, (sy : Int), 0) = (sx, (sy : Int), lv) by unfold lockO; dsimp only; rw [hlv])
              have LK9 := hide lk9
              obtain ⟨y0, y1, y2⟩ := ko9.three
              have R9 := hr.below lk9.bel
              have hz9 : w3.heap.size < wc.heap.size := ko9.lt
              have hlo9 : w.heap.size + 1 ≤ wc.heap.size := by omega
              clear lk9 hlv ko9 LK6 KO6 hz6
              go_wp2_with fail
              refine (did_c LK9.out.mach R9 HA1.out hn0 HT.out HD.out hL4'.out hlo9).mono ?_
              rintro e w10 ⟨es10, rfl, M10, c10, _⟩
              have LK10 := hide (LK9.out.did M10 c10)
              have hz10 : wc.heap.size ≤ w10.heap.size := c10.size
              clear y0 y1 y2 M10 c10 R9
              cases hdd : decide (t.2.1.length + 1 = ys.length)
              · have hmore := lock1_more (ds := ms) (d := (f, ys)) (t := t) (S := (S1, ST, OW)) (n := n0) Hst.out Hop.out Hse.out Hs.out (by simpa using HOth.out) (by simpa using hdd)
                have hinv2 := Hinv.out.more (d := (f, ys)) (s := (sx, (sy : Int), 0)) HT.out HD.out Hlt.out hn04 hL4'.out hk12 ⟨sy0, (by omega : (sy : Int) ≤ 2)⟩ (by simpa using HOth.out) (by simpa using hdd)
                dsimp only at hmore hinv2
                rw [HLO.out] at hmore hinv2
                rw [Int.toNat_natCast] at hmore hinv2
                have hbf : t.2.2 = false := by rw [Hdn.out]; have := Hlt.out; simp; omega
                rw [hbf] at LK10
                have HMO := hide hmore; have HI2 := hide hinv2
                clear hmore hinv2 hdd hbf
                go_wp2_with fail
                go_roundw
                case rel => exact ⟨k + 1, es10, by go_num, by omega, by rw [Hdr.out, HMO.out]; exact LK10.out, by rw [Hdr.out, HMO.out]; exact HI2.out, by omega⟩
                case measure => simp [intOf]; omega
              · have hlast := lock1_last (ds := ms) (d := (f, ys)) (t := t) (S := (S1, ST, OW)) (n := n0) Hst.out Hop.out Hse.out Hs.out (by simpa using HOth.out) (by simpa using hdd)
                have hinv2 := Hinv.out.last (d := (f, ys)) (s := (sx, (sy : Int), 0)) HT.out HD.out Hlt.out hn04 hL4'.out hk12 ⟨sy0, (by omega : (sy : Int) ≤ 2)⟩ (by simpa using HOth.out) (by simpa using hdd)
                dsimp only at hlast hinv2
                rw [HLO.out] at hlast hinv2
                rw [Int.toNat_natCast] at hlast hinv2
                have HLA := hide hlast; have HI2 := hide hinv2
                have hjl := (List.getElem?_eq_some_iff.1 HT.out).1
                have hgt : (S1.set n0 (t.1, t.2.1 ++ [(sx, (sy : Int), lv)], t.2.2))[n0]? = some (t.1, t.2.1 ++ [(sx, (sy : Int), lv)], t.2.2) := List.getElem?_set_self hjl
                have htx2 := hinv2.txn (n := n0) DB.out (List.getElem?_set_self hjl) HD.out
                obtain ⟨os, hos⟩ : ∃ os, t.2.1 ++ [(sx, (sy : Int), lv)] = os := ⟨_, rfl⟩
                rw [hos] at HLA HI2 hgt htx2 LK10
                have HTX := hide htx2
                obtain ⟨g, cg, Au, cu, hv, hnc, hlg, hgs, he, huc, c1, c2, ho⟩ := LK10.out.mach.look hn0 hgt
                subst hv
                obtain ⟨z0, z1, _, _⟩ := LK10.out.mach.box.two
                have fz := LK10.out.mach.own.free (n0 * 3 + 2)
                obtain ⟨es12, lk12⟩ := LK10.out.done hn0 hgt
                dsimp only at lk12
                rw [List.set_set] at lk12
                obtain ⟨g', cg', Au2, cu2, hv2, _, _, _, he2, huc2, d1, d2, ho2⟩ := lk12.mach.look hn0 (by rw [List.getElem?_set_self hjl])
                obtain ⟨rfl, rfl⟩ : g = g' ∧ cg = cg' := by simpa using hv2
                have d0 := (lk12.mach.own.cells he2).1
                obtain ⟨y0, y1, _, _⟩ := lk12.mach.box.two
                have hlw := impl_lastWrites_c ho2.s3 HTX.out
                have LK12 := hide lk12
                have hz12 : (w10.setCell ⟨g, n0 * 3 + 2, none⟩ (.bool true)).heap.size = w10.heap.size := size_setCell ..
                clear hdd hlast hinv2 htx2 hgt c1 he ho he2 ho2 lk12 hos hv2 LK9
                go_wp2_with fail
                refine hlw.mono ?_
                rintro e w13 ⟨r13, kk, rfl, hret, b13⟩
                have LK13 := hide (LK12.out.below b13)
                have hz13 : w10.heap.size ≤ w13.heap.size := by have := b13.size; omega
                have HRET := hide hret
                clear y0 y1 d0 d1 d2 z0 z1 c2 fz hlw LK12 b13 hret
                obtain ⟨A3, c3, rfl, hnc3, hm3, hr3⟩ := HRET.out.s3
                have hl3 := hide hr3.len
                clear hr3
                have O13 := hide (HRET.out.mono (show w2.heap.size + 1 ≤ (w10.setCell ⟨g, n0 * 3 + 2, none⟩ (.bool true)).heap.size by rw [hz12]; omega))
                have hstl : ST.length = 3 := Hinv.out.vals.1
                have hopB : ∀ o ∈ os, opB o = true := fun o ho => HI2.out.ops n0 _ (List.getElem?_set_self hjl) o ho
                have HOPB := hide hopB; have HSTL := hide hstl; have HOL := hide holen
                have LK13' := hide (show Lk w w2.heap.size A n c (.slice (some ⟨g, 0, none⟩) n cg) (S1.set n0 (t.1, os, true)) (commitTo os ST 0) (OW.set sy ((n0 : Int) + 1)) (k + 1) es12 w13 from LK13.out)
                clear HRET LK13 hopB hstl holen
                go_wp2_with fail
                go_loopw [88] (fun i wr' => ∃ j : Nat, i = .int .i64 j ∧ j ≤ kk ∧ Lk w w2.heap.size A n c (.slice (some ⟨g, 0, none⟩) n cg) (S1.set n0 (t.1, os, true)) (commitTo os ST j) (OW.set sy ((n0 : Int) + 1)) (k + 1) es12 wr' ∧ O3 53 wr' (w2.heap.size + 1) (.slice A3 kk c3) kk (lastW os) ∧ w13.heap.size ≤ wr'.heap.size) (fun i _ => kk - (intOf i).toNat)
                case atStart => exact ⟨0, rfl, Nat.zero_le _, LK13'.out, O13.out, Nat.le_refl _⟩
                case round =>
                  clear LK13' O13
                  obtain ⟨j, rfl, hj, hlkj, hoj, hzj⟩ := hrel
                  have LKJ := hide hlkj; have OJ := hide hoj
                  clear hlkj hoj
                  by_cases hjk : j < kk
                  · obtain ⟨A4, c4, hA4, _, _, hr4⟩ := OJ.out.s3
                    obtain ⟨rfl, rfl⟩ : A3 = A4 ∧ c3 = c4 := by simpa using hA4
                    obtain ⟨bb, oo, x, y, z, rfl, hbb, hx, p0, p1, p2⟩ := hr4.at_ hjk
                    have hkey := opB_key (HOPB.out _ (lastW_mem (List.mem_of_getElem? hx)).1)
                    obtain ⟨yn, rfl⟩ : ∃ q : Nat, y = q := ⟨y.toNat, by omega⟩
                    have hcl : (commitTo os ST j).length = 3 := by rw [commitTo_len]; exact HSTL.out
                    obtain ⟨u, hu⟩ : ∃ u, (commitTo os ST j)[yn]? = some u := ⟨_, List.getElem?_eq_getElem (by omega)⟩
                    have hcs := commitTo_succ (st := ST) hx
                    dsimp only at hcs
                    rw [Int.toNat_natCast] at hcs
                    have HCS := hide hcs
                    have LKA := hide (LKJ.out.alloc (.cells #[.int .i64 x, .int .i64 (yn : Int), .int .i64 z] 53))
                    have s0 := (LKA.out.store.cell yn).trans (storeC_get hu)
                    have sf := LKA.out.store.frozen yn
                    have j0 : (0 : Int) ≤ j := by omega
                    have j1 : (j : Int) < kk := by omega
                    have yn0 : (0 : Int) ≤ yn := by omega
                    have yn3 : (yn : Int) < 3 := by omega
                    have hOA := (OJ.out.below ((Below.refl _ _).alloc (Nat.le_refl _) (.cells #[.int .i64 x, .int .i64 (yn : Int), .int .i64 z] 53)))
                    have HOA := hide (OF.chg hOA.of (Chg.setCell (S := fun q => q = w2.heap.size) (p := ⟨w2.heap.size, yn, none⟩) rfl (.int .i64 z)) (fun q hq e => by have := (hOA.of.lt q hq).1; omega))
                    clear hx hu hcs hcl hkey hr4 hOA hA4
                    go_wp2_with fail
                    go_roundw
                    case rel => exact ⟨j + 1, by go_num, by omega, by rw [HCS.out]; exact LKA.out.put yn z, HOA.out, by rw [size_setCell]; simp; omega⟩
                    case measure => simp [intOf]; omega
                  · obtain rfl : j = kk := by omega
                    have hca := commitTo_all (os := os) HSTL.out hl3.out
                    rw [hca] at LKJ
                    have hol2 : (OW.set sy ((n0 : Int) + 1)).length = 3 := by simp [HOL.out]
                    obtain ⟨OW2, hOW2⟩ : ∃ o, OW.set sy ((n0 : Int) + 1) = o := ⟨_, rfl⟩
                    rw [hOW2] at hol2 LKJ HI2 HLA
                    have HOL2 := hide hol2
                    have LKJ' := hide (show Lk w w2.heap.size A n c (.slice (some ⟨g, 0, none⟩) n cg) (S1.set n0 (t.1, os, true)) (commitS os ST) (freeTo n0 OW2 0) (k + 1) es12 wr by rw [freeTo_zero]; exact LKJ.out)
                    clear hca hol2 hOW2 LKJ OJ
                    go_wp2_with fail
                    go_loopw [98] (fun i wr' => ∃ j : Nat, i = .int .i64 j ∧ j ≤ 3 ∧ Lk w w2.heap.size A n c (.slice (some ⟨g, 0, none⟩) n cg) (S1.set n0 (t.1, os, true)) (commitS os ST) (freeTo n0 OW2 j) (k + 1) es12 wr' ∧ w13.heap.size ≤ wr'.heap.size) (fun i _ => 3 - (intOf i).toNat)
                    case atStart => exact ⟨0, rfl, by omega, LKJ'.out, hzj⟩
                    case round =>
                      clear LKJ'
                      obtain ⟨j, rfl, hj, hlkj, hzk⟩ := hrel
                      have LKQ := hide hlkj
                      clear hlkj
                      by_cases hj3 : j < 3
                      · obtain ⟨x, hx⟩ : ∃ x, OW2[j]? = some x := ⟨_, List.getElem?_eq_getElem (by rw [HOL2.out]; exact hj3)⟩
                        obtain ⟨D, hown, hD⟩ := LKQ.out.hold
                        have hhas := (hD j (by omega)).1
                        have hat := (hD j (by omega)).2
                        have hfh := freeTo_hold (n := n0) hx
                        rw [hfh.1] at hhas
                        rw [hfh.2] at hat
                        have HDD := hide hD; have HX := hide hx
                        have HKJ := hide (keyInt (wfI_small (x := (j : Int)) (by omega) (by omega)))
                        have j0 : (0 : Int) ≤ j := by omega
                        have j1 : (j : Int) < 3 := by omega
                        clear hD hx hfh
                        by_cases hx1 : x = (n0 : Int) + 1
                        · subst hx1
                          rw [show (!decide ((n0 : Int) + 1 = 0)) = true by simp; omega] at hhas
                          rw [if_neg (show ¬ ((n0 : Int) + 1 = 0) by omega), show (n0 : Int) + 1 - 1 = n0 by omega] at hat
                          have HHas := hide hhas; have HAt := hide hat
                          have hownk := hown
                          have HS := hide (freeTo_free HX.out)
                          clear hhas hat
                          go_wp2_with (first | (at_lookup; refine wpList_lookup_own_ok_int _ rfl _ _ 90 rfl 3 3 .i64 lawInt Tryd.underlying90 Tryd.underlying3 (zeroInt _) (w2.heap.size + 1) (k + 1) D rfl hown _ _ rfl HKJ.out ?_; intro cc hcc hwc; obtain rfl : cc = (n0 : Int) := (by have h1 := hcc.symm.trans HAt.out; simpa using h1); clear hcc; rw [HHas.out]) | (at_delete; refine wpList_delete_own _ rfl _ _ 90 3 rfl 3 lawInt Tryd.underlying90 (plainElem Tryd.prog 3) (w2.heap.size + 1) (k + 1) D rfl hownk _ _ rfl HKJ.out ?_; intro w20 hown20 hturn20))
                          go_roundw
                          case rel => exact ⟨j + 1, by go_num, by omega, by rw [HS.out]; exact LKQ.out.turn hturn20.grown ⟨_, hown20, HDD.out.del (by rw [freeTo_len]; exact HOL2.out) (by omega)⟩, by have := hturn20.grown.size; omega⟩
                          case measure => simp [intOf]; omega
                        · have HS := hide (freeTo_keep (n := n0) HX.out hx1)
                          by_cases hx0 : x = 0
                          · subst hx0
                            rw [show (!decide ((0 : Int) = 0)) = false by rfl] at hhas
                            rw [if_pos rfl] at hat
                            have HHas := hide hhas; have HAt := hide hat
                            clear hhas hat hx1
                            go_wp2_with (at_lookup; refine wpList_lookup_own_ok_int _ rfl _ _ 90 rfl 3 3 .i64 lawInt Tryd.underlying90 Tryd.underlying3 (zeroInt _) (w2.heap.size + 1) (k + 1) D rfl hown _ _ rfl HKJ.out ?_; intro cc hcc hwc; obtain rfl : cc = 0 := (by have h1 := hcc.symm.trans HAt.out; simpa using h1); clear hcc; rw [HHas.out])
                            go_roundw
                            case rel => exact ⟨j + 1, by go_num, by omega, by rw [HS.out]; exact LKQ.out, by omega⟩
                            case measure => simp [intOf]; omega
                          · rw [show (!decide (x = 0)) = true by simpa using hx0] at hhas
                            rw [if_neg hx0] at hat
                            obtain ⟨xv, hxv⟩ : ∃ v, x - 1 = v := ⟨_, rfl⟩
                            rw [hxv] at hat
                            have hne : (xv == (n0 : Int)) = false := by rw [beq_eq_false_iff_ne]; omega
                            have HHas := hide hhas; have HAt := hide hat
                            clear hhas hat hx1 hx0 hxv
                            go_wp2_with (at_lookup; refine wpList_lookup_own_ok_int _ rfl _ _ 90 rfl 3 3 .i64 lawInt Tryd.underlying90 Tryd.underlying3 (zeroInt _) (w2.heap.size + 1) (k + 1) D rfl hown _ _ rfl HKJ.out ?_; intro cc hcc hwc; obtain rfl : cc = xv := (by have h1 := hcc.symm.trans HAt.out; simpa using h1); clear hcc; rw [HHas.out])
                            go_roundw
                            case rel => exact ⟨j + 1, by go_num, by omega, by rw [HS.out]; exact LKQ.out, by omega⟩
                            case measure => simp [intOf]; omega
                      · obtain rfl : j = 3 := by omega
                        have hfa := freeTo_all n0 HOL2.out
                        rw [hfa] at LKQ
                        clear hfa
                        go_wp2_with fail
                        go_roundw
                        case rel => exact ⟨k + 1, es12, by go_num, by omega, by rw [Hdr.out, HLA.out]; exact LKQ.out, by rw [Hdr.out, HLA.out]; exact HI2.out, by omega⟩
                        case measure => simp [intOf]; omega
    · obtain rfl : k = m := by omega
      have hfin : xs.take k = xs := List.take_of_length_le (by rw [hsl.out]; omega)
      rw [hfin] at LK
      have hsmT := (by have := Hinv.out.fits.small DB.out; rw [hfin] at this; exact this : SmallT (lockR ms xs).1)
      have HSM := hide hsmT
      clear hsmT
      obtain ⟨_, _, _, _⟩ := LK.out.mach.box.two
      go_wp2_with fail
      refine (history_c LK.out.mach (by omega) HSM.out).mono ?_
      rintro e w9 ⟨v9, es9, rfl, D9, hs9, b9⟩
      go_wp2_with fail
      go_ret
      exact ⟨_, n, es9, rfl, D9.mono LK.out.bel.size, hs9, below_step LK.out.bel b9⟩

end Go.Proofs.YtfcfhgophpoibaaDoor

namespace Go.Proofs.YtfcfhgophpoibaaDoor
open Go.RowKit

/-- Begun and not committed. -/
def waitB (t : Tx) : Bool := decide (0 < t.2.1.length) && !t.2.2
def waitTo (ts : List Tx) : Nat → List Int
  | 0 => []
  | k + 1 => waitTo ts k ++ (match ts[k]? with | some t => if waitB t then [(k : Int)] else [] | none => [])
theorem waitTo_yes {ts : List Tx} {k : Nat} {t : Tx} (h : ts[k]? = some t) (hb : waitB t = true) : waitTo ts (k + 1) = waitTo ts k ++ [(k : Int)] := by
  rw [waitTo, h]; simp [hb]
theorem waitTo_no {ts : List Tx} {k : Nat} {t : Tx} (h : ts[k]? = some t) (hb : waitB t = false) : waitTo ts (k + 1) = waitTo ts k := by
  rw [waitTo, h]; simp [hb]
theorem waitTo_len (ts : List Tx) (k : Nat) : (waitTo ts k).length ≤ k := by
  induction k with
  | zero => simp [waitTo]
  | succ k ih =>
    rw [waitTo, List.length_append]
    have : (match ts[k]? with | some t => if waitB t then [(k : Int)] else [] | none => []).length ≤ 1 := by split <;> (try split) <;> simp
    omega
def waitL (ds : Ds) (xs : List Int) : List Int := waitTo (lockL ds xs) (lockL ds xs).length
theorem lockL_len {ds : Ds} {xs : List Int} (h : Fits ds (lockR ds xs).1) (hr : runB ds xs = true) : (lockL ds xs).length = ds.length := by
  have : lockL ds xs = (lockR ds xs).1 := by simp [lockL, hr]
  rw [this]; exact h.1

theorem run_make_I0 (c : Nat) (hc : c ≤ 1048576) (w : World) :
    (Instr.makeSlice 24 (.int .i64 0) (.int .i64 (c : Int))).run Tryd.prog w = .ok (.slice (some ⟨w.heap.size, 0, none⟩) 0 c) (w.alloc (.cells (madeCells #[.int .i64 0] c) 3)) := by
  obtain ⟨i, hi, hz, hs, hb⟩ := info_parts intInfo
  have := run_make_rowN 24 3 i (.int .i64 0) Tryd.underlying24 hi hz .i64 .i64 0 c (Nat.zero_le _) (by rw [hb]; omega) (by omega) w
  rw [hs, Nat.mul_one] at this
  exact this
theorem own_I0 (w : World) (c : Nat) (hc : c ≤ 1048576) : OI (w.alloc (.cells (madeCells #[.int .i64 0] c) 3)) w.heap.size (.slice (some ⟨w.heap.size, 0, none⟩) 0 c) 0 [] :=
  ⟨⟨rfl, .inr ⟨w.heap.size, c, _, rfl, Nat.le_refl _, Blk.new w _ _, Nat.zero_le _, by simp [maxLen]; omega, by simp [madeCells], by simp⟩⟩, by omega⟩

set_option maxRecDepth 100000 in
set_option maxHeartbeats 4000000 in
theorem impl_RunLocks_c {A : Option Addr} {n c : Nat} {ms : Ds} {sv : Value} {m : Nat} {xs : List Int} {w : World} (hr : RDs w A n ms) (hn : n ≤ 1048576) (hsm : SmallD ms) (hs : SI w sv m xs) :
    Calls Tryd.prog 18 #[.slice A n c, sv] w fun e w' => ∃ v m es, e = .returned v ∧ OV w' w.heap.size v m es ∧ SaysT es (lockL ms xs) ∧ Below w.heap.size w w' := by
  have ss := hs
  have hl := hide hr.1
  cases hrun : runB ms xs
  · have hf : lockL ms xs = [] := by simp [lockL, hrun]
    have F := hide hf; have Q := hide hrun; clear hf hrun
    go_enter Tryd.func18, Tryd.ntmps18
    go_wp2_with fail
    refine (runnable_c hr (by omega) hsm ss).mono ?_
    rintro e w1 ⟨rfl, b1⟩
    rw [Q.out]
    go_wp2_with fail
    go_ret
    exact ⟨_, 0, [], rfl, ⟨⟨rfl, .inl ⟨rfl, rfl⟩⟩, fun j e h => by simp at h, fun i j p q _ h => by simp at h, by omega⟩, by rw [F.out]; rfl, b1⟩
  · have hf : lockL ms xs = (lockR ms xs).1 := by simp [lockL, hrun]
    have F := hide hf; have Q := hide hrun; clear hf hrun
    go_enter Tryd.func18, Tryd.ntmps18
    go_wp2_with fail
    refine (runnable_c hr (by omega) hsm ss).mono ?_
    rintro e w1 ⟨rfl, b1⟩
    rw [Q.out]
    go_wp2_with fail
    refine (impl_runLocks_c (hr.below b1) (by omega) hsm (ss.below b1) Q.out).mono ?_
    rintro e w2 ⟨v, k, es, rfl, D, hsy, b2⟩
    go_wp2_with fail
    go_ret
    exact ⟨_, k, es, rfl, D.mono b1.size, by rw [F.out]; exact hsy, below_step b1 b2⟩
set_option maxRecDepth 100000 in
set_option maxHeartbeats 4000000 in
theorem impl_WaitingTxns_c {A : Option Addr} {n c : Nat} {ms : Ds} {sv : Value} {m : Nat} {xs : List Int} {w : World} (hr : RDs w A n ms) (hn : n ≤ 1048576) (hsm : SmallD ms) (hs : SI w sv m xs) :
    Calls Tryd.prog 15 #[.slice A n c, sv] w (RetI w (waitL ms xs)) := by
  have ss := hs
  have hl := hide hr.1
  cases hrun : runB ms xs
  · have h0 : lockL ms xs = [] := by simp [lockL, hrun]
    have hf : waitL ms xs = [] := by unfold waitL; rw [h0]; rfl
    clear h0
    have F := hide hf; have Q := hide hrun; clear hf hrun
    go_enter Tryd.func15, Tryd.ntmps15
    go_wp2_with fail
    refine (runnable_c hr (by omega) hsm ss).mono ?_
    rintro e w1 ⟨rfl, b1⟩
    rw [Q.out]
    go_wp2_with fail
    go_ret
    exact ⟨_, 0, rfl, by rw [F.out]; exact OI.nil, b1⟩
  · have hf : lockL ms xs = (lockR ms xs).1 := by simp [lockL, hrun]
    have F := hide hf; have Q := hide hrun; clear hf hrun
    have hmk := run_make_I0 n hn
    go_enter Tryd.func15, Tryd.ntmps15
    go_wp2_with fail
    refine (runnable_c hr (by omega) hsm ss).mono ?_
    rintro e w1 ⟨rfl, b1⟩
    rw [Q.out]
    have o1 := own_I0 w1 n hn
    have B1 : Below w.heap.size w (w1.alloc (.cells (madeCells #[.int .i64 0] n) 3)) := b1.alloc b1.size _
    go_wp2_with fail
    refine (impl_runLocks_c (hr.below B1) (by omega) hsm (ss.below B1) Q.out).mono ?_
    rintro e w2 ⟨v, k, es, rfl, D, hsy, b2⟩
    have B2 := below_step B1 b2
    have o2 := o1.below b2
    simp only [World.size_alloc] at D
    obtain ⟨Ah, ch, rfl, _, _, hrt⟩ := D.sts hsy
    have hlen := hide hrt.1
    have hk := D.small
    have HZ := hide b1.size; have HO := hide o2; have HD := hide D; have HS := hide hsy; have HB := hide B2
    have hz2 : w1.heap.size < w2.heap.size := by have := b2.size; simp at this; omega
    clear o1 o2 D hsy B1 B2 b2 hrt hmk
    go_wp2_with fail
    go_loopw [5, 19] (fun s i wr => ∃ j : Nat, i = .int .i64 j ∧ j ≤ k ∧ OI wr w1.heap.size s (waitTo (lockR ms xs).1 j).length (waitTo (lockR ms xs).1 j) ∧ OV wr (w1.heap.size + 1) (.slice Ah k ch) k es ∧ (∀ q, s.ownBlock = some q → ¬ OV.S (.slice Ah k ch) es q) ∧ w1.heap.size ≤ wr.heap.size ∧ Below w.heap.size w wr) (fun _ i _ => k - (intOf i).toNat)
    case atStart => exact ⟨0, rfl, Nat.zero_le _, HO.out, HD.out, fun q hq hs => by
      have h1 := (HD.out.range q hs).1
      have h2 : w1.heap.size = q := by simpa [Value.ownBlock] using hq
      omega, by omega, HB.out⟩
    case round =>
      clear HO HD HB
      obtain ⟨j, rfl, hj, ho, hd, hne, hzr, bw⟩ := hrel
      have HO := hide ho; have HD := hide hd; have HN := hide hne; have HB := hide bw
      obtain ⟨Ao, co, rfl⟩ := ho.shape
      have hol := waitTo_len (lockR ms xs).1 j
      clear ho hd hne bw
      by_cases hjk : j < k
      · obtain ⟨A', c', hA', _, _, hrt⟩ := HD.out.sts HS.out
        obtain ⟨rfl, rfl⟩ : Ah = A' ∧ ch = c' := by simpa using hA'
        obtain ⟨bb, oo, f, ys, dn, B, kk, d, rfl, hbb, hx, p0, p1, p2, _, _, hr3⟩ := hrt.at_ hjk
        have hyl := hr3.len
        have j0 : (0 : Int) ≤ j := by omega
        have j1 : (j : Int) < k := by omega
        have Hx := hide hx
        clear hx hrt hA' hr3
        by_cases hk0 : 0 < kk
        · have kk0 : (0 : Int) < kk := by omega
          cases dn
          · have hw := waitTo_yes Hx.out (by unfold waitB; simp; omega)
            have HW := hide hw
            clear hw
            have oA := HO.out.alloc (.cells #[.int .i64 f, .slice B kk d, .bool false] 35)
            have o4 := oA.alloc (.cells #[.int .i64 (j : Int)] 3)
            have HD4 := hide ((HD.out.alloc (.cells #[.int .i64 f, .slice B kk d, .bool false] 35)).alloc (.cells #[.int .i64 (j : Int)] 3))
            have HB4 := hide ((HB.out.alloc HB.out.size (.cells #[.int .i64 f, .slice B kk d, .bool false] 35)).alloc (by have := HB.out.size; simp; omega) (.cells #[.int .i64 (j : Int)] 3))
            have s4 := SI.one (wr.alloc (.cells #[.int .i64 f, .slice B kk d, .bool false] 35)) (j : Int) 1 (Nat.le_refl _)
            simp only [World.size_alloc] at s4
            have hln : (waitTo (lockR ms xs).1 j).length + 1 ≤ 1048576 := by omega
            have hbz : w1.heap.size ≤ ((wr.alloc (.cells #[.int .i64 f, .slice B kk d, .bool false] 35)).alloc (.cells #[.int .i64 (j : Int)] 3)).heap.size := by
              simp; omega
            go_wp2_with (at_builtin; refine wpList_appI rfl _ _ rfl rfl o4 rfl s4 hln hbz ?_; intro v5 w5 h5 hg5 hat; have hat2 : v5.ownBlock = (Value.slice Ao (waitTo (lockR ms xs).1 j).length co).ownBlock ∨ v5.ownBlock = some ((wr.alloc (.cells #[.int .i64 f, .slice B kk d, .bool false] 35)).alloc (.cells #[.int .i64 (j : Int)] 3)).heap.size := hat)
            go_roundw
            case rel => exact ⟨j + 1, by go_num, by omega, by rw [HW.out, List.length_append]; exact h5, HD4.out.grown hg5 (fun q hq => HN.out q hq), fun q hq hs => by
              rcases hat2 with e | e
              · exact HN.out q (by rw [← e]; exact hq) hs
              · rw [e] at hq; injection hq with hq
                have := (HD.out.range q hs).2
                simp at hq; omega, by have := hg5.size; simp at this; omega, HB4.out.grown hg5 HB4.out.size (fun q hq => by have := (World.ownsRow.lt HO.out.1 q hq).1; have := HZ.out; omega)⟩
            case measure => simp [intOf]; omega
          · have hw := waitTo_no Hx.out (by unfold waitB; simp)
            have HW := hide hw
            clear hw
            go_wp2_with fail
            go_roundw
            case rel => exact ⟨j + 1, by go_num, by omega, by rw [HW.out]; exact HO.out.alloc _, HD.out.alloc _, HN.out, by simp; omega, HB.out.alloc HB.out.size _⟩
            case measure => simp [intOf]; omega
        · obtain rfl : kk = 0 := by omega
          have hw := waitTo_no Hx.out (by unfold waitB; simp [hyl])
          have HW := hide hw
          clear hw
          go_wp2_with fail
          go_roundw
          case rel => exact ⟨j + 1, by go_num, by omega, by rw [HW.out]; exact HO.out.alloc _, HD.out.alloc _, HN.out, by simp; omega, HB.out.alloc HB.out.size _⟩
          case measure => simp [intOf]; omega
      · obtain rfl : j = k := by omega
        go_wp2_with fail
        go_ret
        refine ⟨_, (waitTo (lockR ms xs).1 j).length, rfl, ?_, HB.out⟩
        have hz1 : waitL ms xs = waitTo (lockR ms xs).1 j := by unfold waitL; rw [F.out, hlen.out]
        rw [hz1]
        exact HO.out.mono (by have := HZ.out; omega)

end Go.Proofs.YtfcfhgophpoibaaDoor

namespace Go.Proofs.YtfcfhgophpoibaaDoor

theorem lockR_inv {ms : Ds} {xs : List Int} (h : runB ms xs = true) : ∀ k, k ≤ xs.length → LockI ms (lockR ms (xs.take k)) := by
  obtain ⟨hn4, hdb, _, hxb⟩ := runB_parts h
  intro k
  induction k with
  | zero => intro _; simpa [lockR] using LockI.zero hdb
  | succ k ih =>
    intro hk
    have hi := ih (by omega)
    have hx : xs[k]? = some (xs[k]'(by omega)) := List.getElem?_eq_getElem _
    rw [lockR_snoc hx]
    obtain ⟨h0, h1⟩ := hxb _ (List.mem_of_getElem? hx)
    generalize lockR ms (xs.take k) = S at hi ⊢
    obtain ⟨d, t, hd, ht, hst, hop, hse, hle, hdn⟩ := hi.fits.at_ (n := (xs[k]'(by omega)).toNat) (by omega)
    have hdp := draftB_parts (hdb d (List.mem_of_getElem? hd))
    by_cases hfull : t.2.1.length = d.2.length
    · rw [lock1_none hst hop hfull]; exact hi
    · obtain ⟨s, hs⟩ : ∃ s, d.2[t.2.1.length]? = some s := ⟨_, List.getElem?_eq_getElem (by omega)⟩
      obtain ⟨hk12, hy, _⟩ := hdp.2.2.2 s (List.mem_of_getElem? hs)
      by_cases hw : S.2.2.getD s.2.1.toNat 0 ≠ 0 ∧ S.2.2.getD s.2.1.toNat 0 ≠ ((xs[k]'(by omega)).toNat : Int) + 1
      · rw [lock1_held hst hop hs hw]; exact hi
      · by_cases hm : t.2.1.length + 1 = d.2.length
        · rw [lock1_last hst hop hse hs hw hm]; exact hi.last ht hd (by omega) (by omega) (by omega) hk12 hy hw hm
        · rw [lock1_more hst hop hse hs hw hm]; exact hi.more ht hd (by omega) (by omega) (by omega) hk12 hy hw hm
theorem lockR_all {ms : Ds} {xs : List Int} (h : runB ms xs = true) : LockI ms (lockR ms xs) := by
  have := lockR_inv h xs.length (Nat.le_refl _)
  rwa [List.take_length] at this
theorem lockL_four (ms : Ds) (xs : List Int) : Lean4 (lockL ms xs) := by
  cases h : runB ms xs
  · have : lockL ms xs = [] := by simp [lockL, h]
    rw [this]; exact Lean4.nil
  · have : lockL ms xs = (lockR ms xs).1 := by simp [lockL, h]
    rw [this]; exact (lockR_all h).fits.four h

end Go.Proofs.YtfcfhgophpoibaaDoor
