/- Merged: LwS, LwS2, RunK, RunK2, LockW, SerP, SerG, SerH, MeetP, SerM, SerD, DirtyP, RunC. -/
import Derived.Test.YtieecneknljmdaaDoorRlMa
import Derived.Test.YtieecneknljmdaaDoorRunS
import Derived.Test.YtieecneknljmdaaDoorRunW
import Derived.Laws.BitsAllLaws
import Derived.Laws.Bits64
namespace Go.Proofs.YtieecneknljmdaaDoor
open Go.RowKit

theorem op_cases (x y z : Int) : (inB x 1 2 = false ∧ opB (x, y, z) = false) ∨ (inB x 1 2 = true ∧ inB y 0 2 = false ∧ opB (x, y, z) = false) ∨
    (inB x 1 2 = true ∧ inB y 0 2 = true ∧ inB z 0 99 = false ∧ opB (x, y, z) = false) ∨ (inB x 1 2 = true ∧ inB y 0 2 = true ∧ inB z 0 99 = true ∧ (x == 1) = true ∧ opB (x, y, z) = true) ∨
    (inB x 1 2 = true ∧ inB y 0 2 = true ∧ inB z 0 99 = true ∧ (x == 1) = false ∧ opB (x, y, z) = decide (0 < z)) := by
  unfold opB
  cases inB x 1 2 <;> cases inB y 0 2 <;> cases inB z 0 99 <;> cases (x == 1) <;> simp
set_option maxHeartbeats 2000000 in
theorem spec_OpValid_c {x y z : Int} {w : World} :
    Calls Tryd.prog 76 #[.agg #[.int .i64 x, .int .i64 y, .int .i64 z]] w fun e w' => e = .returned (.bool (opB (x, y, z))) ∧ Below w.heap.size w w' := by
  have B0 : ∀ o, Below w.heap.size w (w.alloc o) := fun o => (Below.refl _ _).alloc (Nat.le_refl _) o
  rcases op_cases x y z with ⟨h1, hf⟩ | ⟨h1, h2, hf⟩ | ⟨h1, h2, h3, hf⟩ | ⟨h1, h2, h3, h4, hf⟩ | ⟨h1, h2, h3, h4, hf⟩
  · have F := hide hf; have H1 := hide h1; clear hf h1
    go_enter Tryd.func76, Tryd.ntmps76
    go_wp2_with (go_at_call 40; refine (l1In_c).mono ?_; rintro e w' ⟨rfl, rfl⟩; first | rw [H1.out])
    go_ret
    exact ⟨by rw [F.out]; rfl, B0 _⟩
  · have F := hide hf; have H1 := hide h1; have H2 := hide h2; clear hf h1 h2
    go_enter Tryd.func76, Tryd.ntmps76
    go_wp2_with (go_at_call 40; refine (l1In_c).mono ?_; rintro e w' ⟨rfl, rfl⟩; first | rw [H1.out] | rw [H2.out])
    go_ret
    exact ⟨by rw [F.out]; rfl, B0 _⟩
  · have F := hide hf; have H1 := hide h1; have H2 := hide h2; have H3 := hide h3; clear hf h1 h2 h3
    go_enter Tryd.func76, Tryd.ntmps76
    go_wp2_with (go_at_call 40; refine (l1In_c).mono ?_; rintro e w' ⟨rfl, rfl⟩; first | rw [H1.out] | rw [H2.out] | rw [H3.out])
    go_ret
    exact ⟨by rw [F.out]; rfl, B0 _⟩
  · have F := hide hf; have H1 := hide h1; have H2 := hide h2; have H3 := hide h3; clear hf h1 h2 h3
    go_enter Tryd.func76, Tryd.ntmps76
    go_wp2_with (go_at_call 40; refine (l1In_c).mono ?_; rintro e w' ⟨rfl, rfl⟩; first | rw [H1.out] | rw [H2.out] | rw [H3.out])
    go_ret
    exact ⟨by rw [F.out]; rfl, B0 _⟩
  · have F := hide hf; have H1 := hide h1; have H2 := hide h2; have H3 := hide h3; clear hf h1 h2 h3
    go_enter Tryd.func76, Tryd.ntmps76
    go_wp2_with (go_at_call 40; refine (l1In_c).mono ?_; rintro e w' ⟨rfl, rfl⟩; first | rw [H1.out] | rw [H2.out] | rw [H3.out])
    go_ret
    exact ⟨by rw [F.out]; simp [go_sem], B0 _⟩

theorem txnB_bad {t : Tx} {k : Nat} {o : T3} (hk : t.2.1[k]? = some o) (h : opB o = false) : txnB t = false := by simp [txnB, all_badA hk h]
set_option maxHeartbeats 4000000 in
theorem spec_TxnValid_c {v : Value} {m : Nat} {ys : List T3} {f : Int} {dn : Bool} {w : World} (hv : S3 w v m ys) :
    Calls Tryd.prog 50 #[.agg #[.int .i64 f, v, .bool dn]] w fun e w' => e = .returned (.bool (txnB (f, ys, dn))) ∧ Below w.heap.size w w' := by
  have sv := hv
  obtain ⟨A, c, rfl, hnc, hm, hr⟩ := hv
  have hl := hide hr.len
  have b1 : Below w.heap.size w (w.alloc (.cells #[.int .i64 f, .slice A m c, .bool dn] 58)) := (Below.refl _ _).alloc (Nat.le_refl _) _
  have K0 := Blk.new w 58 #[.int .i64 f, .slice A m c, .bool dn]
  go_enter Tryd.func50, Tryd.ntmps50
  go_wp2_with fail
  go_loopw [3] (fun i wr => ∃ k : Nat, k ≤ m ∧ i = .int .i64 k ∧ (ys.take k).all opB = true ∧ Blk wr w.heap.size 58 #[.int .i64 f, .slice A m c, .bool dn] ∧ Below w.heap.size w wr) (fun i _ => m - (intOf i).toNat)
  case atStart => exact ⟨0, Nat.zero_le _, rfl, by simp, K0, b1⟩
  case round =>
    clear K0 b1
    obtain ⟨k, hk, rfl, hall, KR, bw⟩ := hrel
    have Hall := hide hall; have HKR := hide KR; clear hall
    obtain ⟨g0, g1, g2⟩ := KR.three
    clear KR
    by_cases hkm : k < m
    · obtain ⟨b, off, x, y, z, rfl, hbb, hx, p0, p1, p2⟩ := hr.at_ hkm
      have a0 := (bw.cell (p := ⟨b, off + k * 3, none⟩) hbb).trans p0
      have a1 := (bw.cell (p := ⟨b, off + k * 3 + 1, none⟩) hbb).trans p1
      have a2 := (bw.cell (p := ⟨b, off + k * 3 + 2, none⟩) hbb).trans p2
      have Hx := hide hx
      clear hx p0 p1 p2
      have k0 : (0 : Int) ≤ k := by omega
      have k2 : (k : Int) < m := by omega
      cases hv : opB (x, y, z)
      · have hf := txnB_bad (t := (f, ys, dn)) Hx.out hv
        have F := hide hf; have V := hide hv; clear hf hv
        go_wp2_with fail
        refine (spec_OpValid_c).mono ?_
        rintro e w2 ⟨rfl, b2⟩
        rw [V.out]
        have B2 := below_step bw b2
        go_wp2_with fail
        go_ret
        exact ⟨by rw [F.out]; rfl, B2⟩
      · have hq := all_snocA Hall.out Hx.out hv
        have F := hide hq; have V := hide hv; clear hq hv
        go_wp2_with fail
        refine (spec_OpValid_c).mono ?_
        rintro e w2 ⟨rfl, b2⟩
        rw [V.out]
        have B2 := below_step bw b2
        have K2 := HKR.out.belowAll b2
        go_wp2_with fail
        go_roundw
        case rel => exact ⟨k + 1, by omega, by go_num, F.out, K2, B2⟩
        case measure => simp [intOf]; omega
    · obtain rfl : k = m := by omega
      have h1 := Hall.out
      rw [List.take_of_length_le (by rw [hl.out]; omega)] at h1
      cases hS : inB f 0 3
      · have hf : txnB (f, ys, dn) = false := by simp [txnB, hS]
        have F := hide hf; have Z := hide hS; clear hf hS h1
        go_wp2_with (go_at_call 40; refine (l1In_c).mono ?_; rintro e w' ⟨rfl, rfl⟩; rw [Z.out])
        go_ret
        exact ⟨by rw [F.out]; rfl, bw⟩
      · have hf : txnB (f, ys, dn) = decide (k ≤ 6) := by unfold txnB; dsimp only; rw [h1, hS, hl.out]; simp
        have F := hide hf; have Z := hide hS; clear hf hS h1
        go_wp2_with (go_at_call 40; refine (l1In_c).mono ?_; rintro e w' ⟨rfl, rfl⟩; rw [Z.out])
        go_ret
        exact ⟨by rw [F.out]; simp [go_sem]; omega, bw⟩

/-- Where a search from behind stands: nothing found from place j on. -/
def NoneK (ys : List T3) (key : Int) (j : Nat) : Prop := ∀ (i : Nat) p, j ≤ i → ys[i]? = some p → ¬ (p.1 = 2 ∧ p.2.1 = key)
def NoneO (ys : List T3) (key : Int) (j : Nat) : Prop := ∀ (i : Nat) p, j ≤ i → ys[i]? = some p → ¬ p.2.1 = key
theorem NoneK.start {ys : List T3} {key : Int} : NoneK ys key ys.length := fun i p hi hp => by have := (List.getElem?_eq_some_iff.1 hp).1; omega
theorem NoneK.step {ys : List T3} {key : Int} {j : Nat} {o : T3} (h : NoneK ys key (j + 1)) (hj : ys[j]? = some o) (ho : ¬ (o.1 = 2 ∧ o.2.1 = key)) : NoneK ys key j := fun i p hi hp => by
  by_cases e : i = j
  · subst e; rw [hj] at hp; injection hp with hp; subst hp; exact ho
  · exact h i p (by omega) hp
theorem NoneK.found {ys : List T3} {key : Int} {j : Nat} {o : T3} (h : NoneK ys key (j + 1)) (hj : ys[j]? = some o) (ho : o.1 = 2 ∧ o.2.1 = key) : lastK ys key = some o := lastK_at hj ho (fun i p hi hp => h i p hi hp)
theorem NoneK.none_ {ys : List T3} {key : Int} (h : NoneK ys key 0) : lastK ys key = none := lastK_none (fun i p hp => h i p (Nat.zero_le _) hp)
theorem NoneO.start {ys : List T3} {key : Int} : NoneO ys key ys.length := fun i p hi hp => by have := (List.getElem?_eq_some_iff.1 hp).1; omega
theorem NoneO.step {ys : List T3} {key : Int} {j : Nat} {o : T3} (h : NoneO ys key (j + 1)) (hj : ys[j]? = some o) (ho : ¬ o.2.1 = key) : NoneO ys key j := fun i p hi hp => by
  by_cases e : i = j
  · subst e; rw [hj] at hp; injection hp with hp; subst hp; exact ho
  · exact h i p (by omega) hp
theorem NoneO.found {ys : List T3} {key : Int} {j : Nat} {o : T3} (h : NoneO ys key (j + 1)) (hj : ys[j]? = some o) (ho : o.2.1 = key) : lastO ys key = some o := lastO_at hj ho (fun i p hi hp => h i p hi hp)
theorem NoneO.none_ {ys : List T3} {key : Int} (h : NoneO ys key 0) : lastO ys key = none := lastO_none (fun i p hp => h i p (Nat.zero_le _) hp)

set_option maxHeartbeats 4000000 in
theorem l4Before_c {v : Value} {m : Nat} {ys : List T3} {f key : Int} {dn : Bool} {w : World} (hv : S3 w v m ys) :
    Calls Tryd.prog 71 #[.agg #[.int .i64 f, v, .bool dn], .int .i64 (m : Int), .int .i64 key] w fun e w' => e = .returned (.int .i64 (ownV ys key (-1))) ∧ Below w.heap.size w w' := by
  obtain ⟨A, c, rfl, hnc, hm, hr⟩ := hv
  have hl := hide hr.len
  have b1 : Below w.heap.size w (w.alloc (.cells #[.int .i64 f, .slice A m c, .bool dn] 58)) := (Below.refl _ _).alloc (Nat.le_refl _) _
  have K0 := Blk.new w 58 #[.int .i64 f, .slice A m c, .bool dn]
  obtain ⟨g0, g1, g2⟩ := K0.three
  go_enter Tryd.func71, Tryd.ntmps71
  go_wp2_with fail
  go_loopw [7] (fun i wr => ∃ k : Nat, k ≤ m ∧ i = .int .i64 ((k : Int) - 1) ∧ NoneO ys key k ∧ wr = w.alloc (.cells #[.int .i64 f, .slice A m c, .bool dn] 58)) (fun i _ => (intOf i + 1).toNat)
  case atStart => exact ⟨m, Nat.le_refl _, rfl, by have := NoneO.start (ys := ys) (key := key); rw [hl.out] at this; exact this, rfl⟩
  case round =>
    obtain ⟨k, hk, rfl, hno, rfl⟩ := hrel
    have Hno := hide hno; clear hno
    cases k with
    | zero =>
      have hf : ownV ys key (-1) = -1 := by unfold ownV; rw [Hno.out.none_]
      have F := hide hf; clear hf
      go_wp2_with fail
      go_ret
      exact ⟨by rw [F.out]; rfl, b1⟩
    | succ j =>
      obtain ⟨b, off, x, y, z, rfl, hbb, hx, p0, p1, p2⟩ := hr.at_ (show j < m by omega)
      have a0 := (b1.cell (p := ⟨b, off + j * 3, none⟩) hbb).trans p0
      have a1 := (b1.cell (p := ⟨b, off + j * 3 + 1, none⟩) hbb).trans p1
      have a2 := (b1.cell (p := ⟨b, off + j * 3 + 2, none⟩) hbb).trans p2
      have Hx := hide hx
      clear hx p0 p1 p2
      have j0 : (0 : Int) ≤ j := by omega
      have j2 : (j : Int) < m := by omega
      have hjj : ((j + 1 : Nat) : Int) - 1 = j := by omega
      rw [hjj]
      clear hjj
      by_cases hy : y = key
      · subst hy
        have hf : ownV ys y (-1) = z := by unfold ownV; rw [Hno.out.found Hx.out rfl]
        have F := hide hf; clear hf
        go_wp2_with fail
        go_ret
        exact ⟨by rw [F.out]; rfl, b1⟩
      · have hq := Hno.out.step Hx.out hy
        have F := hide hq; clear hq
        have hyb : (y == key) = false := by simpa using hy
        clear hy
        go_wp2_with fail
        go_roundw
        case rel => exact ⟨j, by omega, by go_num, F.out, trivial⟩
        case measure => simp [intOf]

set_option maxHeartbeats 1000000 in
theorem l18Own_c {v : Value} {m : Nat} {ys : List T3} {f key other : Int} {dn : Bool} {w : World} (hv : S3 w v m ys) (hpos : ∀ o ∈ ys, 0 ≤ o.2.2) :
    Calls Tryd.prog 37 #[.agg #[.int .i64 f, v, .bool dn], .int .i64 key, .int .i64 other] w fun e w' => e = .returned (.int .i64 (ownV ys key other)) ∧ Below w.heap.size w w' := by
  have sv := hv
  obtain ⟨A, c, rfl, hnc, hm, hr⟩ := hv
  have b1 : Below w.heap.size w (w.alloc (.cells #[.int .i64 f, .slice A m c, .bool dn] 58)) := (Below.refl _ _).alloc (Nat.le_refl _) _
  cases h : lastO ys key with
  | none =>
    have h1 : ownV ys key (-1) = -1 := by unfold ownV; rw [h]
    have h2 : ownV ys key other = other := by unfold ownV; rw [h]
    have H1 := hide h1; have H2 := hide h2; clear h1 h2 h
    go_enter Tryd.func37, Tryd.ntmps37
    go_wp2_with fail
    refine (l4Before_c (sv.below b1)).mono ?_
    rintro e w2 ⟨rfl, b2⟩
    rw [H1.out]
    go_wp2_with fail
    go_ret
    exact ⟨by rw [H2.out]; rfl, below_step b1 b2⟩
  | some o =>
    have hp := hpos o (lastO_some h).1
    have h1 : ownV ys key (-1) = o.2.2 := by unfold ownV; rw [h]
    have h2 : ownV ys key other = o.2.2 := by unfold ownV; rw [h]
    have H1 := hide h1; have H2 := hide h2; clear h1 h2 h
    go_enter Tryd.func37, Tryd.ntmps37
    go_wp2_with fail
    refine (l4Before_c (sv.below b1)).mono ?_
    rintro e w2 ⟨rfl, b2⟩
    rw [H1.out]
    go_wp2_with fail
    go_ret
    exact ⟨by rw [H2.out]; rfl, below_step b1 b2⟩

end Go.Proofs.YtieecneknljmdaaDoor

namespace Go.Proofs.YtieecneknljmdaaDoor
open Go.RowKit

/-- A new slice of ops. -/
def RetO (w : World) (ts : List T3) (e : Ending) (w' : World) : Prop := ∃ r k, e = .returned r ∧ O3 51 w' w.heap.size r k ts ∧ Below w.heap.size w w'
set_option maxRecDepth 100000 in
set_option maxHeartbeats 8000000 in
theorem spec_LastWrites_c {v : Value} {m : Nat} {ys : List T3} {f : Int} {dn : Bool} {w : World} (hv : S3 w v m ys) (hok : txnB (f, ys, dn) = true) :
    Calls Tryd.prog 39 #[.agg #[.int .i64 f, v, .bool dn]] w (RetO w (lastW ys)) := by
  have sv := hv
  obtain ⟨A, c, rfl, hnc, hm, hr⟩ := hv
  have hl := hide hr.len
  have Hok := hide hok; clear hok
  have B0 : Below w.heap.size w ((w.alloc (.cells #[.int .i64 f, .slice A m c, .bool dn] 58)).alloc (.cells #[] 51)) := ((Below.refl _ _).alloc (Nat.le_refl _) _).alloc (by simp) _
  have K0 := (Blk.new w 58 #[.int .i64 f, .slice A m c, .bool dn]).alloc (.cells #[] 51)
  have o0 := (O3.empty 51 (w.alloc (.cells #[.int .i64 f, .slice A m c, .bool dn] 58)))
  simp only [World.size_alloc] at o0
  go_enter Tryd.func39, Tryd.ntmps39
  go_wp2_with fail
  go_loopw [3, 4] (fun s i wr => ∃ q : Nat, i = .int .i64 q ∧ q ≤ 3 ∧ O3 51 wr (w.heap.size + 1) s (lastTo ys q).length (lastTo ys q) ∧ Blk wr w.heap.size 58 #[.int .i64 f, .slice A m c, .bool dn] ∧ Below w.heap.size w wr) (fun _ i _ => 3 - (intOf i).toNat)
  case atStart => exact ⟨0, rfl, by omega, o0, K0, B0⟩
  case round =>
    clear B0 K0 o0
    obtain ⟨q, rfl, hq, ho, KR, bw⟩ := hrel
    have hlen := lastTo_len ys q
    obtain ⟨Ao, co, rfl⟩ := ho.shape
    by_cases hq3 : q < 3
    · have hq0 : (0 : Int) ≤ q := by omega
      have hq2 : (q : Int) ≤ 2 := by omega
      obtain ⟨g0, g1, g2⟩ := KR.three
      go_wp2_with fail
      refine (spec_TxnValid_c (sv.below bw)).mono ?_
      rintro e w2 ⟨rfl, b2⟩
      rw [Hok.out]
      have B2 := below_step bw b2
      replace ho := ho.below b2
      replace KR := KR.belowAll b2
      clear g0 g1 g2
      obtain ⟨g0, g1, g2⟩ := KR.three
      have hz2 : w.heap.size + 1 ≤ w2.heap.size := KR.lt
      have HKR := hide KR; have HO := hide ho
      clear KR ho
      go_wp2_with fail
      go_loopw [3, 5] (fun s i wr => s = .slice Ao (lastTo ys q).length co ∧ ∃ k : Nat, k ≤ m ∧ i = .int .i64 ((k : Int) - 1) ∧ NoneK ys q k ∧ wr = w2) (fun _ i _ => (intOf i + 1).toNat)
      case atStart => exact ⟨rfl, m, Nat.le_refl _, rfl, by have := NoneK.start (ys := ys) (key := q); rw [hl.out] at this; exact this, rfl⟩
      case round =>
        obtain ⟨rfl, k, hk, rfl, hno, rfl⟩ := hrel
        have Hno := hide hno; clear hno
        cases k with
        | zero =>
          have hf : lastTo ys (q + 1) = lastTo ys q := by rw [lastTo_succ, Hno.out.none_]; simp
          have F := hide hf; clear hf
          go_wp2_with fail
          go_roundw
          case rel => exact ⟨q + 1, by go_num, by omega, by rw [F.out]; exact HO.out, HKR.out, B2⟩
          case measure => simp [intOf]; omega
        | succ j =>
          obtain ⟨b, off, x, y, z, rfl, hbb, hx, p0, p1, p2⟩ := hr.at_ (show j < m by omega)
          have a0 := (B2.cell (p := ⟨b, off + j * 3, none⟩) hbb).trans p0
          have a1 := (B2.cell (p := ⟨b, off + j * 3 + 1, none⟩) hbb).trans p1
          have a2 := (B2.cell (p := ⟨b, off + j * 3 + 2, none⟩) hbb).trans p2
          have Hx := hide hx
          clear hx p0 p1 p2
          have j0 : (0 : Int) ≤ j := by omega
          have j2 : (j : Int) < m := by omega
          have hjj : ((j + 1 : Nat) : Int) - 1 = j := by omega
          rw [hjj]
          clear hjj
          by_cases hxy : x = 2 ∧ y = q
          · obtain ⟨rfl, rfl⟩ := hxy
            have hf : lastTo ys (q + 1) = lastTo ys q ++ [(2, (q : Int), z)] := by rw [lastTo_succ, Hno.out.found Hx.out ⟨rfl, rfl⟩]; rfl
            have F := hide hf; clear hf
            have KN := Blk.new wr 51 #[.int .i64 2, .int .i64 (q : Int), .int .i64 z]
            have o4 := HO.out.alloc (.cells #[.int .i64 2, .int .i64 (q : Int), .int .i64 z] 51)
            have B4 : Below w.heap.size w (wr.alloc (.cells #[.int .i64 2, .int .i64 (q : Int), .int .i64 z] 51)) := B2.alloc B2.size _
            have hz4 : w.heap.size + 1 ≤ (wr.alloc (.cells #[.int .i64 2, .int .i64 (q : Int), .int .i64 z] 51)).heap.size := by simp; omega
            have K4 := HKR.out.alloc (.cells #[.int .i64 2, .int .i64 (q : Int), .int .i64 z] 51)
            have hln : (lastTo ys q).length + 1 ≤ 1048576 := by omega
            go_wp2_with (at_builtin; refine wpList_app3 rfl _ _ rfl Tryd.underlying56 infoOpz rfl o4 rfl (S3.one KN (Nat.le_refl _)) hln hz4 ?_; intro v1 w4 h4 hg4 hat; have K5 := K4.grown hg4 (o4.far (by omega)); have B5 := below_app3 B4 o4 (by omega) hg4)
            go_roundw
            case rel => exact ⟨q + 1, by go_num, by omega, by rw [F.out, List.length_append]; exact h4, K5, B5⟩
            case measure => simp [intOf]; omega
          · have hq' := Hno.out.step Hx.out hxy
            have F := hide hq'
            clear hq'
            by_cases hx2 : x = 2
            · subst hx2
              have hyb : (y == (q : Int)) = false := by simpa using hxy
              clear hxy
              go_wp2_with fail
              go_roundw
              case rel => exact ⟨rfl, j, by omega, by go_num, F.out, trivial⟩
              case measure => simp [intOf]
            · have hxb : (x == 2) = false := by simpa using hx2
              clear hxy hx2
              go_wp2_with fail
              go_roundw
              case rel => exact ⟨rfl, j, by omega, by go_num, F.out, trivial⟩
              case measure => simp [intOf]
    · obtain rfl : q = 3 := by omega
      go_wp2_with fail
      go_ret
      refine ⟨_, (lastTo ys 3).length, rfl, ?_, bw⟩
      rw [← lastTo_three]
      exact ho.mono (by omega)

end Go.Proofs.YtieecneknljmdaaDoor

namespace Go.Proofs.YtieecneknljmdaaDoor

abbrev LockSt := List Tx × List Int × List Int
/-- The store behind a commit; the locks given back. -/
def commitS (os : List T3) (st : List Int) : List Int := [seesV os st 0, seesV os st 1, seesV os st 2]
def freeO (n : Nat) (ow : List Int) : List Int := ow.map fun x => if x = (n : Int) + 1 then 0 else x
def lockV (os : List T3) (st : List Int) (n : Nat) (s : T3) : Int := if s.1 = 2 then valOf n os.length else seesV os st s.2.1.toNat
def lockO (os : List T3) (st : List Int) (n : Nat) (s : T3) : T3 := (s.1, s.2.1, lockV os st n s)
def lock1 (ds : Ds) (S : LockSt) (n : Nat) : LockSt :=
  match (stepsOf ds n)[(opsOf S.1 n).length]? with
  | none => S
  | some s =>
    if S.2.2.getD s.2.1.toNat 0 ≠ 0 ∧ S.2.2.getD s.2.1.toNat 0 ≠ (n : Int) + 1 then S
    else (S.1.set n (sesOf S.1 n, opsOf S.1 n ++ [lockO (opsOf S.1 n) S.2.1 n s], decide ((opsOf S.1 n).length + 1 = (stepsOf ds n).length)),
      if (opsOf S.1 n).length + 1 = (stepsOf ds n).length then commitS (opsOf S.1 n ++ [lockO (opsOf S.1 n) S.2.1 n s]) S.2.1 else S.2.1,
      if (opsOf S.1 n).length + 1 = (stepsOf ds n).length then freeO n (S.2.2.set s.2.1.toNat ((n : Int) + 1)) else S.2.2.set s.2.1.toNat ((n : Int) + 1))
def lockR (ds : Ds) (xs : List Int) : LockSt := xs.foldl (fun S x => lock1 ds S x.toNat) (emptyT ds, [0, 0, 0], [0, 0, 0])
def lockL (ds : Ds) (xs : List Int) : List Tx := if runB ds xs then (lockR ds xs).1 else []
theorem lockR_snoc {ds : Ds} {xs : List Int} {k : Nat} {x : Int} (h : xs[k]? = some x) : lockR ds (xs.take (k + 1)) = lock1 ds (lockR ds (xs.take k)) x.toNat := foldl_snoc _ _ h

theorem lock1_none {ds : Ds} {S : LockSt} {n : Nat} {d : Int × List T3} {t : Tx} (hs : stepsOf ds n = d.2) (ho : opsOf S.1 n = t.2.1) (hl : t.2.1.length = d.2.length) : lock1 ds S n = S := by
  unfold lock1; rw [hs, ho, hl, List.getElem?_eq_none (Nat.le_refl _)]
theorem lock1_held {ds : Ds} {S : LockSt} {n : Nat} {d : Int × List T3} {t : Tx} {s : T3} (hs : stepsOf ds n = d.2) (ho : opsOf S.1 n = t.2.1) (hl : d.2[t.2.1.length]? = some s)
    (hw : S.2.2.getD s.2.1.toNat 0 ≠ 0 ∧ S.2.2.getD s.2.1.toNat 0 ≠ (n : Int) + 1) : lock1 ds S n = S := by
  unfold lock1; rw [hs, ho, hl]; simp only []; rw [if_pos hw]
theorem lock1_more {ds : Ds} {S : LockSt} {n : Nat} {d : Int × List T3} {t : Tx} {s : T3} (hs : stepsOf ds n = d.2) (ho : opsOf S.1 n = t.2.1) (he : sesOf S.1 n = t.1) (hl : d.2[t.2.1.length]? = some s)
    (hw : ¬ (S.2.2.getD s.2.1.toNat 0 ≠ 0 ∧ S.2.2.getD s.2.1.toNat 0 ≠ (n : Int) + 1)) (hm : t.2.1.length + 1 ≠ d.2.length) :
    lock1 ds S n = (S.1.set n (t.1, t.2.1 ++ [lockO t.2.1 S.2.1 n s], false), S.2.1, S.2.2.set s.2.1.toNat ((n : Int) + 1)) := by
  unfold lock1; rw [hs, ho, he, hl]; simp only []; rw [if_neg hw, if_neg hm, if_neg hm, decide_eq_false hm]
theorem lock1_last {ds : Ds} {S : LockSt} {n : Nat} {d : Int × List T3} {t : Tx} {s : T3} (hs : stepsOf ds n = d.2) (ho : opsOf S.1 n = t.2.1) (he : sesOf S.1 n = t.1) (hl : d.2[t.2.1.length]? = some s)
    (hw : ¬ (S.2.2.getD s.2.1.toNat 0 ≠ 0 ∧ S.2.2.getD s.2.1.toNat 0 ≠ (n : Int) + 1)) (hm : t.2.1.length + 1 = d.2.length) :
    lock1 ds S n = (S.1.set n (t.1, t.2.1 ++ [lockO t.2.1 S.2.1 n s], true), commitS (t.2.1 ++ [lockO t.2.1 S.2.1 n s]) S.2.1, freeO n (S.2.2.set s.2.1.toNat ((n : Int) + 1))) := by
  unfold lock1; rw [hs, ho, he, hl]; simp only []; rw [if_neg hw, if_pos hm, if_pos hm, decide_eq_true hm]

/-- What holds of a state. -/
structure LockI (ds : Ds) (S : LockSt) : Prop where
  fits : Fits ds S.1
  vals : Vals S.2.1
  olen : S.2.2.length = 3
  obd : ∀ x ∈ S.2.2, 0 ≤ x ∧ x ≤ 4
  ops : ∀ (n : Nat) (t : Tx), S.1[n]? = some t → ∀ o ∈ t.2.1, opB o = true
  held : ∀ (n : Nat) (t : Tx) (d : Int × List T3), S.1[n]? = some t → ds[n]? = some d → t.2.1.length < d.2.length → ∀ (key : Nat) (o : T3), lastO t.2.1 (key : Int) = some o →
    S.2.2.getD key 0 = (n : Int) + 1 ∧ o.2.2 = seesV t.2.1 S.2.1 key
theorem LockI.zero {ds : Ds} (h : ∀ d ∈ ds, draftB d = true) : LockI ds (emptyT ds, [0, 0, 0], [0, 0, 0]) := by
  refine ⟨Fits.empty h, Vals.zero, rfl, fun x hx => by simp at hx; omega, fun n t ht o ho => ?_, fun n t d ht hd hl key o ho => ?_⟩
  · unfold emptyT at ht
    rw [List.getElem?_map] at ht
    cases hd : ds[n]? <;> rw [hd] at ht <;> simp at ht
    subst ht; simp at ho
  · unfold emptyT at ht
    rw [List.getElem?_map, hd] at ht
    injection ht with ht; subst ht
    simp [lastO] at ho
theorem seesV_bd {os : List T3} {st : List Int} (hv : Vals st) (ho : ∀ o ∈ os, opB o = true) (key : Nat) : 0 ≤ seesV os st key ∧ seesV os st key ≤ 99 := by
  unfold seesV
  cases h : lastK os (key : Int) with
  | some o =>
    have h1 := ho o (lastK_some h).1
    unfold opB at h1
    simp only [Bool.and_eq_true] at h1
    exact (inB_iff _ _ _).1 h1.2.2.1
  | none =>
    show 0 ≤ st.getD key 0 ∧ st.getD key 0 ≤ 99
    by_cases hk : key < st.length
    · have : st.getD key 0 = st[key] := by simp [List.getD, List.getElem?_eq_getElem hk]
      rw [this]; exact hv.2 _ (List.getElem_mem hk)
    · have : st.getD key 0 = 0 := by simp [List.getD, List.getElem?_eq_none (Nat.le_of_not_lt hk)]
      rw [this]; omega
theorem Vals.commit {os : List T3} {st : List Int} (hv : Vals st) (ho : ∀ o ∈ os, opB o = true) : Vals (commitS os st) :=
  ⟨rfl, fun v h => by
    simp [commitS] at h
    rcases h with rfl | rfl | rfl <;> exact seesV_bd hv ho _⟩
theorem lockO_ok {os : List T3} {st : List Int} {n : Nat} {s : T3} (hv : Vals st) (ho : ∀ o ∈ os, opB o = true) (hn : n < 4) (ha : os.length < 4) (hk : s.1 = 1 ∨ s.1 = 2) (hy : 0 ≤ s.2.1 ∧ s.2.1 ≤ 2) : opB (lockO os st n s) = true := by
  have h1 := valOf_bd hn ha
  have h2 := seesV_bd hv ho s.2.1.toNat
  have h3 : 0 < valOf n os.length := by unfold valOf; omega
  unfold opB lockO lockV
  simp only [Bool.and_eq_true, inB_iff, Bool.or_eq_true, beq_iff_eq, decide_eq_true_eq]
  rcases hk with e | e
  · rw [e, if_neg (by omega)]; exact ⟨by omega, hy, h2, .inl rfl⟩
  · rw [e, if_pos rfl]; exact ⟨by omega, hy, h1, .inr h3⟩
/-- What the reference computes for a read, and what the program does. -/
theorem LockI.own {ds : Ds} {S : LockSt} (h : LockI ds S) {n : Nat} {t : Tx} {d : Int × List T3} (ht : S.1[n]? = some t) (hd : ds[n]? = some d) (hl : t.2.1.length < d.2.length) (key : Nat) :
    ownV t.2.1 key (S.2.1.getD key 0) = seesV t.2.1 S.2.1 key := by
  unfold ownV
  cases e : lastO t.2.1 (key : Int) with
  | some o => exact (h.held n t d ht hd hl key o e).2
  | none =>
    show S.2.1.getD key 0 = seesV t.2.1 S.2.1 key
    unfold seesV
    cases e2 : lastK t.2.1 (key : Int) with
    | none => rfl
    | some o =>
      exfalso
      obtain ⟨h1, h2, h3⟩ := lastK_some e2
      unfold lastO at e
      rw [List.find?_eq_none] at e
      exact e o (List.mem_reverse.2 h1) (by simpa using h3)
theorem getD_set (xs : List Int) (i j : Nat) (v : Int) (hi : i < xs.length) : (xs.set i v).getD j 0 = if i = j then v else xs.getD j 0 := by
  simp only [List.getD_eq_getElem?_getD]
  by_cases e : i = j
  · subst e; rw [if_pos rfl, List.getElem?_set_self hi]; rfl
  · rw [if_neg e, List.getElem?_set_ne e]
theorem getD_free (n : Nat) (ow : List Int) (j : Nat) : (freeO n ow).getD j 0 = if ow.getD j 0 = (n : Int) + 1 then 0 else ow.getD j 0 := by
  unfold freeO
  simp only [List.getD_eq_getElem?_getD, List.getElem?_map]
  cases h : ow[j]? with
  | none => simp
  | some x => simp
theorem getD_commit (os : List T3) (st : List Int) (hst : st.length = 3) (hos : ∀ o ∈ os, opB o = true) (j : Nat) : (commitS os st).getD j 0 = seesV os st j := by
  match j with
  | 0 => rfl
  | 1 => rfl
  | 2 => rfl
  | j + 3 =>
    have h1 : (commitS os st).getD (j + 3) 0 = 0 := rfl
    rw [h1]
    unfold seesV
    cases e : lastK os ((j + 3 : Nat) : Int) with
    | none => simp [List.getD, List.getElem?_eq_none (show st.length ≤ j + 3 by omega)]
    | some o =>
      obtain ⟨a, b, c⟩ := lastK_some e
      have := hos o a
      unfold opB at this
      simp only [Bool.and_eq_true] at this
      have := (inB_iff _ _ _).1 this.2.1
      omega

end Go.Proofs.YtieecneknljmdaaDoor

namespace Go.Proofs.YtieecneknljmdaaDoor

theorem LockI.pre {ds : Ds} {S : LockSt} (h : LockI ds S) {n : Nat} {t : Tx} {d : Int × List T3} {s : T3} (ht : S.1[n]? = some t) (hd : ds[n]? = some d) (hl : t.2.1.length < d.2.length) (hy : 0 ≤ s.2.1 ∧ s.2.1 ≤ 2)
    (hw : ¬ (S.2.2.getD s.2.1.toNat 0 ≠ 0 ∧ S.2.2.getD s.2.1.toNat 0 ≠ (n : Int) + 1)) (dn : Bool) :
    ∀ (n' : Nat) (t' : Tx) (d' : Int × List T3), (S.1.set n (t.1, t.2.1 ++ [lockO t.2.1 S.2.1 n s], dn))[n']? = some t' → ds[n']? = some d' → (n' = n ∨ t'.2.1.length < d'.2.length) →
      ∀ (key : Nat) (o : T3), lastO t'.2.1 (key : Int) = some o → (S.2.2.set s.2.1.toNat ((n : Int) + 1)).getD key 0 = (n' : Int) + 1 ∧ o.2.2 = seesV t'.2.1 S.2.1 key := by
  intro n' t' d' ht' hd' hor key o ho
  have hlt : s.2.1.toNat < S.2.2.length := by rw [h.olen]; omega
  rw [getD_set _ _ _ _ hlt]
  by_cases e : n' = n
  · subst e
    rw [List.getElem?_set_self (List.getElem?_eq_some_iff.1 ht).1] at ht'
    injection ht' with ht'; subst ht'
    dsimp only at ho ⊢
    rw [lastO_snoc] at ho
    by_cases ek : s.2.1 = key
    · rw [if_pos (show (lockO t.2.1 S.2.1 n' s).2.1 = key from ek)] at ho
      injection ho with ho; subst ho
      have hk : s.2.1.toNat = key := by omega
      rw [if_pos hk]
      refine ⟨rfl, ?_⟩
      unfold seesV
      rw [lastK_snoc]
      by_cases e2 : s.1 = 2
      · rw [if_pos (And.intro (show (lockO t.2.1 S.2.1 n' s).1 = 2 from e2) (show (lockO t.2.1 S.2.1 n' s).2.1 = (key : Int) from ek))]
      · rw [if_neg (fun h => e2 h.1)]
        show lockV t.2.1 S.2.1 n' s = _
        unfold lockV
        rw [if_neg e2, hk]
        rfl
    · rw [if_neg (show ¬ (lockO t.2.1 S.2.1 n' s).2.1 = key from ek)] at ho
      rw [if_neg (by omega)]
      obtain ⟨h1, h2⟩ := h.held n' t d ht hd hl key o ho
      refine ⟨h1, h2.trans ?_⟩
      unfold seesV
      rw [lastK_snoc, if_neg (fun h => ek h.2)]
  · rw [List.getElem?_set_ne (fun h => e h.symm)] at ht'
    obtain ⟨h1, h2⟩ := h.held n' t' d' ht' hd' (hor.resolve_left e) key o ho
    refine ⟨?_, h2⟩
    by_cases ek : s.2.1.toNat = key
    · exfalso; apply hw; rw [ek, h1]; omega
    · rw [if_neg ek]; exact h1
theorem lastK_lastO {os : List T3} {key : Int} {o : T3} (h : lastK os key = some o) : ∃ p, lastO os key = some p := by
  cases e : lastO os key with
  | some p => exact ⟨p, rfl⟩
  | none =>
    exfalso
    unfold lastO at e
    rw [List.find?_eq_none] at e
    exact e o (List.mem_reverse.2 (lastK_some h).1) (by simpa using (lastK_some h).2.2)
theorem obd_set {xs : List Int} {lo hi v : Int} (h : ∀ x ∈ xs, lo ≤ x ∧ x ≤ hi) (i : Nat) (hv : lo ≤ v ∧ v ≤ hi) : ∀ x ∈ xs.set i v, lo ≤ x ∧ x ≤ hi := fun x hx => by
  rcases List.mem_or_eq_of_mem_set hx with hx | rfl
  · exact h x hx
  · exact hv
theorem obd_free {xs : List Int} {hi : Int} (h : ∀ x ∈ xs, 0 ≤ x ∧ x ≤ hi) (n : Nat) (h0 : 0 ≤ hi) : ∀ x ∈ freeO n xs, 0 ≤ x ∧ x ≤ hi := fun x hx => by
  unfold freeO at hx
  obtain ⟨y, hy, rfl⟩ := List.mem_map.1 hx
  have := h y hy
  split <;> omega
theorem LockI.ops_set {ds : Ds} {S : LockSt} (h : LockI ds S) {n : Nat} {t : Tx} {s : T3} (ht : S.1[n]? = some t) (hn : n < 4) (hl4 : t.2.1.length < 4) (hk : s.1 = 1 ∨ s.1 = 2) (hy : 0 ≤ s.2.1 ∧ s.2.1 ≤ 2) (dn : Bool) :
    ∀ (n' : Nat) (t' : Tx), (S.1.set n (t.1, t.2.1 ++ [lockO t.2.1 S.2.1 n s], dn))[n']? = some t' → ∀ o ∈ t'.2.1, opB o = true := by
  intro n' t' ht' o ho
  by_cases e : n' = n
  · subst e
    rw [List.getElem?_set_self (List.getElem?_eq_some_iff.1 ht).1] at ht'
    injection ht' with ht'; subst ht'
    rcases List.mem_append.1 ho with ho | ho
    · exact h.ops n' t ht o ho
    · obtain rfl := List.mem_singleton.1 ho
      exact lockO_ok h.vals (h.ops n' t ht) hn hl4 hk hy
  · rw [List.getElem?_set_ne (fun h => e h.symm)] at ht'
    exact h.ops n' t' ht' o ho
theorem LockI.more {ds : Ds} {S : LockSt} (h : LockI ds S) {n : Nat} {t : Tx} {d : Int × List T3} {s : T3} (ht : S.1[n]? = some t) (hd : ds[n]? = some d) (hl : t.2.1.length < d.2.length) (hn : n < 4) (hl4 : t.2.1.length < 4)
    (hk : s.1 = 1 ∨ s.1 = 2) (hy : 0 ≤ s.2.1 ∧ s.2.1 ≤ 2) (hw : ¬ (S.2.2.getD s.2.1.toNat 0 ≠ 0 ∧ S.2.2.getD s.2.1.toNat 0 ≠ (n : Int) + 1)) (hm : t.2.1.length + 1 ≠ d.2.length) :
    LockI ds (S.1.set n (t.1, t.2.1 ++ [lockO t.2.1 S.2.1 n s], false), S.2.1, S.2.2.set s.2.1.toNat ((n : Int) + 1)) := by
  have hf := h.fits.step hd ht hl (lockO t.2.1 S.2.1 n s)
  rw [decide_eq_false hm] at hf
  exact ⟨hf, h.vals, by simp [h.olen], obd_set h.obd _ (by omega), h.ops_set ht hn hl4 hk hy false, fun n' t' d' ht' hd' hl' => h.pre ht hd hl hy hw false n' t' d' ht' hd' (.inr hl')⟩
theorem LockI.last {ds : Ds} {S : LockSt} (h : LockI ds S) {n : Nat} {t : Tx} {d : Int × List T3} {s : T3} (ht : S.1[n]? = some t) (hd : ds[n]? = some d) (hl : t.2.1.length < d.2.length) (hn : n < 4) (hl4 : t.2.1.length < 4)
    (hk : s.1 = 1 ∨ s.1 = 2) (hy : 0 ≤ s.2.1 ∧ s.2.1 ≤ 2) (hw : ¬ (S.2.2.getD s.2.1.toNat 0 ≠ 0 ∧ S.2.2.getD s.2.1.toNat 0 ≠ (n : Int) + 1)) (hm : t.2.1.length + 1 = d.2.length) :
    LockI ds (S.1.set n (t.1, t.2.1 ++ [lockO t.2.1 S.2.1 n s], true), commitS (t.2.1 ++ [lockO t.2.1 S.2.1 n s]) S.2.1, freeO n (S.2.2.set s.2.1.toNat ((n : Int) + 1))) := by
  have hf := h.fits.step hd ht hl (lockO t.2.1 S.2.1 n s)
  rw [decide_eq_true hm] at hf
  have hpre := h.pre ht hd hl hy hw true
  have hops := h.ops_set ht hn hl4 hk hy true
  have hself : (S.1.set n (t.1, t.2.1 ++ [lockO t.2.1 S.2.1 n s], true))[n]? = some (t.1, t.2.1 ++ [lockO t.2.1 S.2.1 n s], true) := List.getElem?_set_self (List.getElem?_eq_some_iff.1 ht).1
  have hos := hops n _ hself
  refine ⟨hf, h.vals.commit hos, by simp [freeO, h.olen], obd_free (obd_set h.obd _ (by omega)) n (by omega), hops, fun n' t' d' ht' hd' hl' key o ho => ?_⟩
  by_cases e : n' = n
  · subst e
    have := hself.symm.trans ht'
    injection this with this; subst this
    have := hd.symm.trans hd'
    injection this with this; subst this
    simp at hl'; omega
  · obtain ⟨h1, h2⟩ := hpre n' t' d' ht' hd' (.inr hl') key o ho
    refine ⟨by show (freeO n (S.2.2.set s.2.1.toNat ((n : Int) + 1))).getD key 0 = (n' : Int) + 1; rw [getD_free, h1, if_neg (by omega)], h2.trans ?_⟩
    show seesV t'.2.1 S.2.1 key = seesV t'.2.1 (commitS (t.2.1 ++ [lockO t.2.1 S.2.1 n s]) S.2.1) key
    unfold seesV
    cases ek : lastK t'.2.1 (key : Int) with
    | some p => rfl
    | none =>
      show S.2.1.getD key 0 = (commitS (t.2.1 ++ [lockO t.2.1 S.2.1 n s]) S.2.1).getD key 0
      rw [getD_commit _ _ h.vals.1 hos]
      unfold seesV
      cases e3 : lastK (t.2.1 ++ [lockO t.2.1 S.2.1 n s]) (key : Int) with
      | none => rfl
      | some p =>
        exfalso
        obtain ⟨q, hq⟩ := lastK_lastO e3
        have := (hpre n _ d hself hd (.inl rfl) key q hq).1
        omega
/-- A transaction behind a step is valid. -/
theorem txn_ok {f : Int} {os : List T3} {dn : Bool} (hf : 0 ≤ f ∧ f ≤ 3) (ho : ∀ o ∈ os, opB o = true) (hl : os.length ≤ 4) : txnB (f, os, dn) = true := by
  unfold txnB
  simp only [Bool.and_eq_true, List.all_eq_true, inB_iff, decide_eq_true_eq]
  exact ⟨ho, hf, by omega⟩
theorem LockI.txn {ds : Ds} {S : LockSt} (h : LockI ds S) (hds : ∀ d ∈ ds, draftB d = true) {n : Nat} {t : Tx} {d : Int × List T3} (ht : S.1[n]? = some t) (hd : ds[n]? = some d) : txnB t = true := by
  obtain ⟨h1, h2, h3⟩ := h.fits.2 n d t hd ht
  obtain ⟨_, g2, g3, _⟩ := draftB_parts (hds d (List.mem_of_getElem? hd))
  exact txn_ok (f := t.1) (dn := t.2.2) (by rw [h1]; exact g3) (h.ops n t ht) (Nat.le_trans h2 g2)

/-- The store while a commit goes on: the last writes of the first j. -/
def commitTo (os : List T3) (st : List Int) (j : Nat) : List Int := ((lastW os).take j).foldl (fun st o => st.set o.2.1.toNat o.2.2) st
theorem commitTo_zero (os : List T3) (st : List Int) : commitTo os st 0 = st := rfl
theorem commitTo_succ {os : List T3} {st : List Int} {j : Nat} {o : T3} (h : (lastW os)[j]? = some o) : commitTo os st (j + 1) = (commitTo os st j).set o.2.1.toNat o.2.2 := foldl_snoc _ _ h
theorem commitTo_all {os : List T3} {st : List Int} (hst : st.length = 3) {j : Nat} (hj : (lastW os).length = j) : commitTo os st j = commitS os st := by
  unfold commitTo
  rw [← hj, List.take_length]
  obtain ⟨a, b, c, rfl⟩ : ∃ a b c, st = [a, b, c] := by
    match st, hst with
    | [a, b, c], _ => exact ⟨a, b, c, rfl⟩
  unfold lastW commitS seesV
  have h0 := fun o => @lastK_some os 0 o
  have h1 := fun o => @lastK_some os 1 o
  have h2 := fun o => @lastK_some os 2 o
  cases e0 : lastK os 0 <;> cases e1 : lastK os 1 <;> cases e2 : lastK os 2 <;> simp_all

/-- The locks while they are given back: of the keys below j. -/
def freeTo (n : Nat) (ow : List Int) (j : Nat) : List Int := freeO n (ow.take j) ++ ow.drop j
theorem freeTo_zero (n : Nat) (ow : List Int) : freeTo n ow 0 = ow := by simp [freeTo, freeO]
theorem freeTo_all (n : Nat) {ow : List Int} {j : Nat} (h : ow.length = j) : freeTo n ow j = freeO n ow := by subst h; simp [freeTo]
theorem freeTo_at (n : Nat) {ow : List Int} {j : Nat} {x : Int} (h : ow[j]? = some x) : (freeTo n ow j)[j]? = some x := by
  have hj := (List.getElem?_eq_some_iff.1 h).1
  unfold freeTo freeO
  rw [List.getElem?_append_right (by simp; omega)]
  simp [Nat.min_eq_left (Nat.le_of_lt hj), h]
theorem freeTo_keep {n : Nat} {ow : List Int} {j : Nat} {x : Int} (h : ow[j]? = some x) (hx : x ≠ (n : Int) + 1) : freeTo n ow (j + 1) = freeTo n ow j := by
  have hj := (List.getElem?_eq_some_iff.1 h).1
  have hxe := (List.getElem?_eq_some_iff.1 h).2
  unfold freeTo freeO
  rw [List.take_add_one, h, List.map_append, List.drop_eq_getElem_cons hj, hxe]
  simp [hx]
theorem freeTo_free {n : Nat} {ow : List Int} {j : Nat} (h : ow[j]? = some ((n : Int) + 1)) : freeTo n ow (j + 1) = (freeTo n ow j).set j 0 := by
  have hj := (List.getElem?_eq_some_iff.1 h).1
  have hxe := (List.getElem?_eq_some_iff.1 h).2
  unfold freeTo freeO
  rw [List.take_add_one, h, List.map_append, List.set_append_right _ _ (by simp; omega)]
  simp [Nat.min_eq_left (Nat.le_of_lt hj)]
  rw [List.drop_eq_getElem_cons hj]
  rfl

end Go.Proofs.YtieecneknljmdaaDoor

namespace Go.Proofs.YtieecneknljmdaaDoor

theorem lockR_inv {ms : Ds} {xs : List Int} (h : runB ms xs = true) : ∀ k, k ≤ xs.length → LockI ms (lockR ms (xs.take k)) := by
  obtain ⟨hn4, hdb, _, hxb⟩ := runB_parts h
  intro k
  induction k with
  | zero => intro _; simpa [lockR] using LockI.zero hdb
  | succ k ih =>
    intro hk
    have hi := ih (by omega)
    have hx : xs[k]? = some (xs[k]'(by omega)) := List.getElem?_eq_getElem _
    rw [lockR_snoc hx]
    obtain ⟨h0, h1⟩ := hxb _ (List.mem_of_getElem? hx)
    generalize lockR ms (xs.take k) = S at hi ⊢
    obtain ⟨d, t, hd, ht, hst, hop, hse, hle, hdn⟩ := hi.fits.at_ (n := (xs[k]'(by omega)).toNat) (by omega)
    have hdp := draftB_parts (hdb d (List.mem_of_getElem? hd))
    by_cases hfull : t.2.1.length = d.2.length
    · rw [lock1_none hst hop hfull]; exact hi
    · obtain ⟨s, hs⟩ : ∃ s, d.2[t.2.1.length]? = some s := ⟨_, List.getElem?_eq_getElem (by omega)⟩
      obtain ⟨hk12, hy, _⟩ := hdp.2.2.2 s (List.mem_of_getElem? hs)
      by_cases hw : S.2.2.getD s.2.1.toNat 0 ≠ 0 ∧ S.2.2.getD s.2.1.toNat 0 ≠ ((xs[k]'(by omega)).toNat : Int) + 1
      · rw [lock1_held hst hop hs hw]; exact hi
      · by_cases hm : t.2.1.length + 1 = d.2.length
        · rw [lock1_last hst hop hse hs hw hm]; exact hi.last ht hd (by omega) (by omega) (by omega) hk12 hy hw hm
        · rw [lock1_more hst hop hse hs hw hm]; exact hi.more ht hd (by omega) (by omega) (by omega) hk12 hy hw hm
theorem lockR_all {ms : Ds} {xs : List Int} (h : runB ms xs = true) : LockI ms (lockR ms xs) := by
  have := lockR_inv h xs.length (Nat.le_refl _)
  rwa [List.take_length] at this
theorem lockL_four (ms : Ds) (xs : List Int) : Lean4 (lockL ms xs) := by
  cases h : runB ms xs
  · have : lockL ms xs = [] := by simp [lockL, h]
    rw [this]; exact Lean4.nil
  · have : lockL ms xs = (lockR ms xs).1 := by simp [lockL, h]
    rw [this]; exact (lockR_all h).fits.four h

end Go.Proofs.YtieecneknljmdaaDoor

namespace Go.Proofs.YtieecneknljmdaaDoor
open Go.RowKit

/-- A store behind operations; none, if a read is not right. -/
def followL (s : List Int) : List T3 → Option (List Int)
  | [] => some s
  | o :: os => if o.1 = 2 then followL (s.set o.2.1.toNat o.2.2) os else if s.getD o.2.1.toNat 0 = o.2.2 then followL s os else none
theorem followL_append (os ps : List T3) : ∀ s : List Int, followL s (os ++ ps) = (followL s os).bind fun s' => followL s' ps := by
  induction os with
  | nil => intro s; rfl
  | cons o os ih =>
    intro s
    simp only [List.cons_append, followL]
    split
    · exact ih _
    · split
      · exact ih _
      · rfl
theorem followL_len (os : List T3) : ∀ (s s' : List Int), followL s os = some s' → s'.length = s.length := by
  induction os with
  | nil => intro s s' h; simp only [followL, Option.some.injEq] at h; rw [h]
  | cons o os ih =>
    intro s s' h
    simp only [followL] at h
    split at h
    · have := ih _ _ h; simpa using this
    · split at h
      · exact ih _ _ h
      · cases h
/-- Does an order run, from a store on? -/
def runsF (ts : List Tx) : List Int → List Int → Bool
  | _, [] => true
  | s, n :: r => match followL s (opsOf ts n.toNat) with
    | none => false
    | some s' => runsF ts s' r
/-- All orders, those that begin with earlier ones first. -/
def permsF : Nat → List Int → List (List Int)
  | 0, _ => [[]]
  | f + 1, l => if l = [] then [[]] else (List.range l.length).flatMap fun k => (permsF f (l.eraseIdx k)).map (l.getD k 0 :: ·)
def permsL (l : List Int) : List (List Int) := permsF l.length l
/-- How many orders of the rest run, by a search. -/
def cntF (ts : List Tx) : Nat → List Int → List Int → Nat
  | 0, _, _ => 1
  | f + 1, s, l => if l = [] then 1 else ((List.range l.length).map fun k => (followL s (opsOf ts (l.getD k 0).toNat)).elim 0 fun s' => cntF ts f s' (l.eraseIdx k)).sum
theorem filter_flat {α β : Type} (p : β → Bool) (g : α → List β) : ∀ l : List α, ((l.flatMap g).filter p).length = (l.map fun a => ((g a).filter p).length).sum
  | [] => rfl
  | a :: l => by simp only [List.flatMap_cons, List.filter_append, List.length_append, List.map_cons, List.sum_cons, filter_flat p g l]
theorem perms_cnt (ts : List Tx) : ∀ (f : Nat) (s l : List Int), ((permsF f l).filter (runsF ts s)).length = cntF ts f s l
  | 0, s, l => rfl
  | f + 1, s, l => by
    by_cases h : l = []
    · subst h; rfl
    · simp only [permsF, cntF, if_neg h]
      rw [filter_flat]
      congr 1
      apply List.map_congr_left
      intro k _
      rw [List.filter_map, List.length_map]
      cases hf : followL s (opsOf ts (l.getD k 0).toNat) with
      | none =>
        have : (runsF ts s ∘ fun x => l.getD k 0 :: x) = fun _ => false := by funext x; simp only [Function.comp, runsF, hf]
        rw [this]; simp
      | some s' =>
        have : (runsF ts s ∘ fun x => l.getD k 0 :: x) = runsF ts s' := by funext x; simp only [Function.comp, runsF, hf]
        rw [this]
        exact perms_cnt ts f s' (l.eraseIdx k)
theorem permsL_cnt (ts : List Tx) (s l : List Int) : ((permsL l).filter (runsF ts s)).length = cntF ts l.length s l := perms_cnt ts l.length s l
theorem permsF_len : ∀ (f : Nat) (l : List Int), l.length ≤ f → ∀ x ∈ permsF f l, x.length = l.length
  | 0, l, h, x, hx => by
    have : l.length = 0 := by omega
    simp [permsF] at hx; subst hx; simp [this]
  | f + 1, l, h, x, hx => by
    by_cases h0 : l = []
    · simp [permsF, h0] at hx; subst hx; simp [h0]
    · simp only [permsF, if_neg h0, List.mem_flatMap, List.mem_range, List.mem_map] at hx
      obtain ⟨k, hk, y, hy, rfl⟩ := hx
      have h1 : (l.eraseIdx k).length = l.length - 1 := by rw [List.length_eraseIdx_of_lt hk]
      have := permsF_len f (l.eraseIdx k) (by omega) y hy
      simp only [List.length_cons]
      omega

end Go.Proofs.YtieecneknljmdaaDoor

namespace Go.Proofs.YtieecneknljmdaaDoor
open Go.RowKit

def restOf (all used : List Int) : List Int := all.filter fun n => !used.contains n
/-- The search: of all, those that are not gone, one after the other. -/
def cntG (ts : List Tx) (all : List Int) : Nat → List Int → List Int → Nat
  | 0, _, _ => 1
  | f + 1, s, used => (all.map fun n => if used.contains n then 0 else (followL s (opsOf ts n.toNat)).elim 0 fun s' => cntG ts all f s' (used ++ [n])).sum
theorem sum_filter {p : Int → Bool} {g : Int → Nat} : ∀ l : List Int, (l.map fun n => if p n then 0 else g n).sum = ((l.filter fun n => !p n).map g).sum
  | [] => rfl
  | a :: l => by
    simp only [List.map_cons, List.sum_cons, sum_filter l]
    cases h : p a
    · rw [List.filter_cons_of_pos (by simp [h])]; simp
    · rw [List.filter_cons_of_neg (by simp [h])]; simp
theorem erase_at : ∀ {l : List Int} (_ : l.Nodup) (k : Nat) (hk : k < l.length), l.eraseIdx k = l.erase l[k]
  | [], _, k, hk => by simp at hk
  | a :: l, h, 0, hk => by simp
  | a :: l, h, k + 1, hk => by
    have h2 := List.nodup_cons.1 h
    have hk' : k < l.length := by simpa using hk
    have hne : a ≠ l[k] := fun e => h2.1 (e ▸ List.getElem_mem hk')
    rw [List.eraseIdx_cons_succ, List.getElem_cons_succ, List.erase_cons_tail (by simpa using hne), erase_at h2.2 k hk']
theorem sum_index {F : Int → List Int → Nat} {l : List Int} (hl : l.Nodup) : ((List.range l.length).map fun k => F (l.getD k 0) (l.eraseIdx k)) = l.map fun n => F n (l.erase n) := by
  apply List.ext_getElem
  · simp
  · intro k h1 h2
    have hk : k < l.length := by simpa using h1
    simp only [List.getElem_map, List.getElem_range]
    rw [List.getD_eq_getElem?_getD, List.getElem?_eq_getElem hk, Option.getD_some, erase_at hl k hk]
theorem restOf_snoc {all : List Int} (h : all.Nodup) (used : List Int) (n : Int) : restOf all (used ++ [n]) = (restOf all used).erase n := by
  have hn : (restOf all used).Nodup := List.Nodup.sublist List.filter_sublist h
  rw [List.Nodup.erase_eq_filter hn]
  unfold restOf
  rw [List.filter_filter]
  apply List.filter_congr
  intro x _
  by_cases h1 : x ∈ used <;> by_cases h2 : x = n <;> simp [h1, h2]
theorem cntG_eq (ts : List Tx) {all : List Int} (h : all.Nodup) : ∀ (f : Nat) (s used : List Int), (restOf all used).length = f → cntG ts all f s used = cntF ts f s (restOf all used)
  | 0, s, used, hf => rfl
  | f + 1, s, used, hf => by
    have hn : (restOf all used).Nodup := List.Nodup.sublist List.filter_sublist h
    have h0 : restOf all used ≠ [] := fun e => by rw [e] at hf; cases hf
    simp only [cntG, cntF, if_neg h0]
    rw [sum_filter]
    rw [sum_index (F := fun n r => (followL s (opsOf ts n.toNat)).elim 0 fun s' => cntF ts f s' r) hn]
    congr 1
    show (restOf all used).map _ = _
    apply List.map_congr_left
    intro n hm
    cases followL s (opsOf ts n.toNat) with
    | none => rfl
    | some s' =>
      simp only [Option.elim]
      rw [cntG_eq ts h f s' (used ++ [n]) (by rw [restOf_snoc h, List.length_erase_of_mem hm]; omega), restOf_snoc h]
theorem cntG_all (ts : List Tx) {all : List Int} (h : all.Nodup) (s : List Int) : cntG ts all all.length s [] = ((permsL all).filter (runsF ts s)).length := by
  have h1 : restOf all [] = all := by unfold restOf; simp
  rw [permsL_cnt, cntG_eq ts h all.length s [] (by rw [h1]), h1]

end Go.Proofs.YtieecneknljmdaaDoor

namespace Go.Proofs.YtieecneknljmdaaDoor
open Go.RowKit

section
variable {α : Type} (go : α → List Int → α × Bool) (ts : List Tx)
/-- One level of the search, over what is left of all. -/
def srchL (rec : Int → List Int → α → α × Bool) (used s : List Int) : List Int → α → α × Bool
  | [], a => (a, true)
  | n :: l, a => if used.contains n then srchL rec used s l a else match followL s (opsOf ts n.toNat) with
    | none => srchL rec used s l a
    | some s' => if (rec n s' a).2 then srchL rec used s l (rec n s' a).1 else ((rec n s' a).1, false)
def srch (all : List Int) : Nat → List Int → List Int → α → α × Bool
  | 0, _, used, a => go a used
  | f + 1, s, used, a => srchL ts (fun n s' a => srch all f s' (used ++ [n]) a) used s all a
theorem srchL_used {rec : Int → List Int → α → α × Bool} {used s : List Int} {n : Int} {l : List Int} {a : α} (h : used.contains n = true) : srchL ts rec used s (n :: l) a = srchL ts rec used s l a := by
  simp only [srchL]; rw [if_pos h]
theorem srchL_none {rec : Int → List Int → α → α × Bool} {used s : List Int} {n : Int} {l : List Int} {a : α} (h : used.contains n = false) (hf : followL s (opsOf ts n.toNat) = none) : srchL ts rec used s (n :: l) a = srchL ts rec used s l a := by
  simp only [srchL]; rw [if_neg (by rw [h]; decide), hf]
theorem srchL_on {rec : Int → List Int → α → α × Bool} {used s s' : List Int} {n : Int} {l : List Int} {a : α} (h : used.contains n = false) (hf : followL s (opsOf ts n.toNat) = some s') (hr : (rec n s' a).2 = true) : srchL ts rec used s (n :: l) a = srchL ts rec used s l (rec n s' a).1 := by
  simp only [srchL]; rw [if_neg (by rw [h]; decide), hf]; simp only; rw [if_pos hr]
theorem srchL_stop {rec : Int → List Int → α → α × Bool} {used s s' : List Int} {n : Int} {l : List Int} {a : α} (h : used.contains n = false) (hf : followL s (opsOf ts n.toNat) = some s') (hr : (rec n s' a).2 = false) : srchL ts rec used s (n :: l) a = ((rec n s' a).1, false) := by
  simp only [srchL]; rw [if_neg (by rw [h]; decide), hf]; simp only; rw [if_neg (by rw [hr]; decide)]
end
/-- Counting. -/
def goCnt (a : Nat) (_ : List Int) : Nat × Bool := (a + 1, true)
theorem srch_cnt (ts : List Tx) (all : List Int) : ∀ (f : Nat) (s used : List Int) (a : Nat), srch goCnt ts all f s used a = (a + cntG ts all f s used, true)
  | 0, s, used, a => rfl
  | f + 1, s, used, a => by
    have h : ∀ (l : List Int) (a : Nat), srchL ts (fun n s' a => srch goCnt ts all f s' (used ++ [n]) a) used s l a = (a + (l.map fun n => if used.contains n then 0 else (followL s (opsOf ts n.toNat)).elim 0 fun s' => cntG ts all f s' (used ++ [n])).sum, true) := by
      intro l
      induction l with
      | nil => intro a; rfl
      | cons n l ih =>
        intro a
        simp only [List.map_cons, List.sum_cons]
        cases hc : used.contains n
        · cases hf : followL s (opsOf ts n.toNat) with
          | none => rw [srchL_none ts hc hf, ih]; simp
          | some s' =>
            rw [srchL_on ts hc hf (by rw [srch_cnt ts all f s' (used ++ [n]) a]), ih, srch_cnt ts all f s' (used ++ [n]) a]
            simp [Nat.add_assoc]
        · rw [srchL_used ts hc, ih]; simp
    exact h all a
/-- The first one. -/
def goFst (_ : Option (List Int)) (u : List Int) : Option (List Int) × Bool := (some u, false)
theorem srch_fst (ts : List Tx) (all : List Int) : ∀ (f : Nat) (s used : List Int) (a : Option (List Int)), (cntG ts all f s used = 0 ∧ srch goFst ts all f s used a = (a, true)) ∨ (0 < cntG ts all f s used ∧ ∃ u, srch goFst ts all f s used a = (some u, false))
  | 0, s, used, a => .inr ⟨by simp [cntG], used, rfl⟩
  | f + 1, s, used, a => by
    have h : ∀ (l : List Int), ((l.map fun n => if used.contains n then 0 else (followL s (opsOf ts n.toNat)).elim 0 fun s' => cntG ts all f s' (used ++ [n])).sum = 0 ∧ srchL ts (fun n s' a => srch goFst ts all f s' (used ++ [n]) a) used s l a = (a, true)) ∨
        (0 < (l.map fun n => if used.contains n then 0 else (followL s (opsOf ts n.toNat)).elim 0 fun s' => cntG ts all f s' (used ++ [n])).sum ∧ ∃ u, srchL ts (fun n s' a => srch goFst ts all f s' (used ++ [n]) a) used s l a = (some u, false)) := by
      intro l
      induction l with
      | nil => exact .inl ⟨rfl, rfl⟩
      | cons n l ih =>
        simp only [List.map_cons, List.sum_cons]
        cases hc : used.contains n
        · cases hf : followL s (opsOf ts n.toNat) with
          | none =>
            rw [srchL_none ts hc hf]
            simpa using ih
          | some s' =>
            rcases srch_fst ts all f s' (used ++ [n]) a with ⟨h1, h2⟩ | ⟨h1, u, h2⟩
            · rw [srchL_on ts hc hf (by rw [h2]), h2]
              simpa [h1] using ih
            · refine .inr ⟨by simp; omega, u, ?_⟩
              rw [srchL_stop ts hc hf (by rw [h2]), h2]
        · rw [srchL_used ts hc]
          simpa using ih
    exact h all

end Go.Proofs.YtieecneknljmdaaDoor

namespace Go.Proofs.YtieecneknljmdaaDoor
open Go.RowKit

/-- Two operations on one key, at least one of which writes. -/
def hitB (o p : T3) : Bool := (o.2.1 == p.2.1) && ((o.1 == 2) || (p.1 == 2))
def meetB (a b : List T3) : Bool := a.any fun o => b.any fun p => hitB o p
def opsAt (ts : List Tx) (x : Int) : List T3 := opsOf ts x.toNat
def cntM (ts : List Tx) (a : Int) (l : List Int) : Nat := (l.filter fun b => meetB (opsAt ts a) (opsAt ts b)).length
def meetsR (ts : List Tx) : List Int → Nat
  | [] => 0
  | a :: l => meetsR ts l + cntM ts a l
/-- How many pairs of a list meet. -/
def meetsL (ts : List Tx) (l : List Int) : Nat := meetsR ts l.reverse
theorem cntM_snoc (ts : List Tx) (a b : Int) (l : List Int) : cntM ts a (l ++ [b]) = cntM ts a l + if meetB (opsAt ts a) (opsAt ts b) then 1 else 0 := by
  unfold cntM
  rw [List.filter_append, List.length_append]
  congr 1
  by_cases h : meetB (opsAt ts a) (opsAt ts b) = true
  · simp [h]
  · simp [h]
theorem cntM_le (ts : List Tx) (a : Int) (l : List Int) : cntM ts a l ≤ l.length := List.length_filter_le _ _
theorem cntM_rev (ts : List Tx) (a : Int) (l : List Int) : cntM ts a l.reverse = cntM ts a l := by
  unfold cntM; rw [List.filter_reverse, List.length_reverse]
theorem meetsL_snoc (ts : List Tx) (a : Int) (l : List Int) : meetsL ts (l ++ [a]) = meetsL ts l + cntM ts a l := by
  unfold meetsL
  rw [List.reverse_append]
  show meetsR ts l.reverse + cntM ts a l.reverse = _
  rw [cntM_rev]
theorem meetsL_nil (ts : List Tx) : meetsL ts [] = 0 := rfl
theorem meetsL_le (ts : List Tx) (l : List Int) : 2 * meetsL ts l ≤ l.length * (l.length - 1) := by
  induction l using snoc_ind with
  | nil => simp [meetsL_nil]
  | append_singleton l a ih =>
    rw [meetsL_snoc, List.length_append]
    have h1 := cntM_le ts a l
    have h2 : (l.length + 1) * (l.length + 1 - 1) = l.length * (l.length - 1) + 2 * l.length := by
      cases hl : l.length with
      | zero => rfl
      | succ k =>
        simp only [Nat.add_sub_cancel]
        rw [Nat.add_mul (k + 1) 1 (k + 1), Nat.one_mul, Nat.mul_succ (k + 1) k]
        omega
    show 2 * (meetsL ts l + cntM ts a l) ≤ (l.length + 1) * (l.length + 1 - 1)
    rw [h2]; omega
theorem meetsL_small (ts : List Tx) {l : List Int} (h : l.length ≤ 6) : meetsL ts l ≤ 15 := by
  have h1 := meetsL_le ts l
  have h2 : l.length * (l.length - 1) ≤ 6 * 5 := Nat.mul_le_mul h (by omega)
  omega
def meetV (ts : List Tx) : Int := if histB ts then (meetsL ts (doneL ts) : Int) else -1
theorem meetB_hit {a b : List T3} {k j : Nat} {o p : T3} (ho : a[k]? = some o) (hp : b[j]? = some p) (h : hitB o p = true) : meetB a b = true := by
  unfold meetB
  rw [List.any_eq_true]
  exact ⟨o, List.mem_of_getElem? ho, List.any_eq_true.2 ⟨p, List.mem_of_getElem? hp, h⟩⟩
/-- Nothing before place j of b meets o. -/
theorem meetB_none {a b : List T3} (h : ∀ o ∈ a, (b.any fun p => hitB o p) = false) : meetB a b = false := by
  unfold meetB
  rw [List.any_eq_false]
  intro o ho; rw [h o ho]; simp
/-- The bits of three keys. -/
def bit3 (a b c : Bool) : Nat := (if a then 1 else 0) + (if b then 2 else 0) + (if c then 4 else 0)
def usesK (os : List T3) (k : Int) : Bool := os.any fun o => o.2.1 == k
def wroteK (os : List T3) (k : Int) : Bool := os.any fun o => (o.1 == 2) && (o.2.1 == k)
def maskU (os : List T3) : Nat := bit3 (usesK os 0) (usesK os 1) (usesK os 2)
def maskW (os : List T3) : Nat := bit3 (wroteK os 0) (wroteK os 1) (wroteK os 2)
theorem usesK_snoc (os : List T3) (o : T3) (k : Int) : usesK (os ++ [o]) k = (usesK os k || o.2.1 == k) := by simp [usesK]
theorem wroteK_snoc (os : List T3) (o : T3) (k : Int) : wroteK (os ++ [o]) k = (wroteK os k || ((o.1 == 2) && (o.2.1 == k))) := by simp [wroteK]
theorem bit3_or (a b c a' b' c' : Bool) : bit3 a b c ||| bit3 a' b' c' = bit3 (a || a') (b || b') (c || c') := by
  cases a <;> cases b <;> cases c <;> cases a' <;> cases b' <;> cases c' <;> rfl
theorem bit3_and (a b c a' b' c' : Bool) : bit3 a b c &&& bit3 a' b' c' = bit3 (a && a') (b && b') (c && c') := by
  cases a <;> cases b <;> cases c <;> cases a' <;> cases b' <;> cases c' <;> rfl
theorem bit3_zero (a b c : Bool) : (bit3 a b c == 0) = !(a || b || c) := by
  cases a <;> cases b <;> cases c <;> rfl
theorem bit3_lt (a b c : Bool) : bit3 a b c < 8 := by
  cases a <;> cases b <;> cases c <;> decide
/-- A step of the bits. -/
theorem maskU_snoc (os : List T3) {x y z : Int} (hy : 0 ≤ y ∧ y ≤ 2) : maskU (os ++ [(x, y, z)]) = maskU os ||| 2 ^ y.toNat := by
  have h : y = 0 ∨ y = 1 ∨ y = 2 := by omega
  unfold maskU
  rw [usesK_snoc, usesK_snoc, usesK_snoc]
  rcases h with rfl | rfl | rfl
  · rw [show (2 ^ (0 : Int).toNat : Nat) = bit3 true false false from rfl, bit3_or]; rfl
  · rw [show (2 ^ (1 : Int).toNat : Nat) = bit3 false true false from rfl, bit3_or]; rfl
  · rw [show (2 ^ (2 : Int).toNat : Nat) = bit3 false false true from rfl, bit3_or]; rfl
theorem maskW_snoc_w (os : List T3) {y z : Int} (hy : 0 ≤ y ∧ y ≤ 2) : maskW (os ++ [(2, y, z)]) = maskW os ||| 2 ^ y.toNat := by
  have h : y = 0 ∨ y = 1 ∨ y = 2 := by omega
  unfold maskW
  rw [wroteK_snoc, wroteK_snoc, wroteK_snoc]
  rcases h with rfl | rfl | rfl
  · rw [show (2 ^ (0 : Int).toNat : Nat) = bit3 true false false from rfl, bit3_or]; rfl
  · rw [show (2 ^ (1 : Int).toNat : Nat) = bit3 false true false from rfl, bit3_or]; rfl
  · rw [show (2 ^ (2 : Int).toNat : Nat) = bit3 false false true from rfl, bit3_or]; rfl
theorem maskW_snoc_r (os : List T3) {x y z : Int} (hx : x ≠ 2) : maskW (os ++ [(x, y, z)]) = maskW os := by
  have e : (x == 2) = false := by simpa using hx
  unfold maskW
  rw [wroteK_snoc, wroteK_snoc, wroteK_snoc]
  simp [e]
/-- The bits tell whether two transactions meet. -/
theorem meet_bits {a b : List T3} (ha : ∀ o ∈ a, 0 ≤ o.2.1 ∧ o.2.1 ≤ 2) : ((maskU a &&& maskW b) ||| (maskW a &&& maskU b) == 0) = !meetB a b := by
  unfold maskU maskW
  rw [bit3_and, bit3_and, bit3_or, bit3_zero]
  congr 1
  rw [Bool.eq_iff_iff]
  constructor
  · intro h
    have key : ∀ k : Int, ((usesK a k && wroteK b k) || (wroteK a k && usesK b k)) = true → meetB a b = true := by
      intro k hk
      unfold usesK wroteK at hk
      unfold meetB hitB
      simp only [Bool.or_eq_true, Bool.and_eq_true, List.any_eq_true, beq_iff_eq] at hk ⊢
      rcases hk with ⟨⟨o, ho, h1⟩, p, hp, h2, h3⟩ | ⟨⟨o, ho, h1, h2⟩, p, hp, h3⟩
      · exact ⟨o, ho, p, hp, by rw [h1, h3], .inr h2⟩
      · exact ⟨o, ho, p, hp, by rw [h2, h3], .inl h1⟩
    rw [Bool.or_eq_true, Bool.or_eq_true] at h
    rcases h with (h | h) | h
    · exact key 0 h
    · exact key 1 h
    · exact key 2 h
  · intro h
    unfold meetB hitB at h
    simp only [Bool.or_eq_true, Bool.and_eq_true, List.any_eq_true, beq_iff_eq] at h
    obtain ⟨o, ho, p, hp, h1, h2⟩ := h
    have hk := ha o ho
    have key : ∀ k : Int, o.2.1 = k → ((usesK a k && wroteK b k) || (wroteK a k && usesK b k)) = true := by
      intro k hk
      unfold usesK wroteK
      simp only [Bool.or_eq_true, Bool.and_eq_true, List.any_eq_true, beq_iff_eq]
      rcases h2 with h2 | h2
      · right; exact ⟨⟨o, ho, h2, hk⟩, p, hp, by rw [← h1, hk]⟩
      · left; exact ⟨⟨o, ho, hk⟩, p, hp, h2, by rw [← h1, hk]⟩
    rw [Bool.or_eq_true, Bool.or_eq_true]
    have h3 : o.2.1 = 0 ∨ o.2.1 = 1 ∨ o.2.1 = 2 := by omega
    rcases h3 with e | e | e
    · exact .inl (.inl (key 0 e))
    · exact .inl (.inr (key 1 e))
    · exact .inr (key 2 e)

theorem mask_lt (a b c : Bool) : bit3 a b c < 2 ^ 31 := by have := bit3_lt a b c; omega
theorem or_step {a : Nat} {y : Int} (ha : a < 8) (hy : 0 ≤ y ∧ y ≤ 2) : bits .or .u64 (a : Int) (IntKind.u64.wrap (2 ^ y.toNat)) = ((a ||| 2 ^ y.toNat : Nat) : Int) := by
  have h : y = 0 ∨ y = 1 ∨ y = 2 := by omega
  have hw : IntKind.u64.wrap (2 ^ y.toNat) = ((2 ^ y.toNat : Nat) : Int) := by rcases h with rfl | rfl | rfl <;> rfl
  have hp : 2 ^ y.toNat < 8 := by rcases h with rfl | rfl | rfl <;> decide
  rw [hw, u64_or_nat a _ (by omega) (by omega)]
theorem maskU_step (os : List T3) {x y z : Int} (hy : 0 ≤ y ∧ y ≤ 2) : bits .or .u64 (maskU os : Int) (IntKind.u64.wrap (2 ^ y.toNat)) = (maskU (os ++ [(x, y, z)]) : Int) := by
  rw [or_step (a := maskU os) (show maskU os < 8 from bit3_lt _ _ _) hy, maskU_snoc os hy]
theorem maskW_step (os : List T3) {y z : Int} (hy : 0 ≤ y ∧ y ≤ 2) : bits .or .u64 (maskW os : Int) (IntKind.u64.wrap (2 ^ y.toNat)) = (maskW (os ++ [(2, y, z)]) : Int) := by
  rw [or_step (a := maskW os) (show maskW os < 8 from bit3_lt _ _ _) hy, maskW_snoc_w os hy]
theorem meet_bits64 {a b : List T3} (ha : ∀ o ∈ a, 0 ≤ o.2.1 ∧ o.2.1 ≤ 2) : (bits .or .u64 (bits .and .u64 (maskU a : Int) (maskW b : Int)) (bits .and .u64 (maskW a : Int) (maskU b : Int)) != 0) = meetB a b := by
  have h1 : maskU a < 8 := bit3_lt _ _ _
  have h2 : maskW a < 8 := bit3_lt _ _ _
  have h3 : maskU b < 8 := bit3_lt _ _ _
  have h4 : maskW b < 8 := bit3_lt _ _ _
  have h5 : maskU a &&& maskW b ≤ maskU a := Nat.and_le_left
  have h6 : maskW a &&& maskU b ≤ maskW a := Nat.and_le_left
  rw [u64_and_nat _ _ (by omega) (by omega), u64_and_nat _ _ (by omega) (by omega), u64_or_nat _ _ (by omega) (by omega)]
  have h := meet_bits (b := b) ha
  obtain ⟨q, hq⟩ : ∃ q, ((maskU a &&& maskW b) ||| (maskW a &&& maskU b)) = q := ⟨_, rfl⟩
  rw [hq] at h ⊢
  have e : ((q : Int) != 0) = !(q == 0) := by
    cases q with
    | zero => rfl
    | succ q => simp; omega
  rw [e, h, Bool.not_not]
theorem mask_nil : maskU [] = 0 ∧ maskW [] = 0 := ⟨rfl, rfl⟩

end Go.Proofs.YtieecneknljmdaaDoor

namespace Go.Proofs.YtieecneknljmdaaDoor
open Go.RowKit

def facM : Nat → Nat
  | 0 => 1
  | n + 1 => facM n * (n + 1)
theorem permsF_many' : ∀ (f : Nat) (l : List Int), l.length = f → (permsF f l).length = facM f
  | 0, l, _ => rfl
  | f + 1, l, h => by
    have h0 : l ≠ [] := fun e => by rw [e] at h; cases h
    simp only [permsF, if_neg h0, List.length_flatMap, List.length_map, facM]
    have : ∀ ks : List Nat, (∀ k ∈ ks, k < l.length) → (ks.map fun k => (permsF f (l.eraseIdx k)).length).sum = ks.length * facM f := by
      intro ks
      induction ks with
      | nil => intro _; simp
      | cons k ks ih =>
        intro hk
        have h1 := permsF_many' f (l.eraseIdx k) (by rw [List.length_eraseIdx_of_lt (hk k (by simp))]; omega)
        have h2 := ih (fun k hk' => hk k (by simp [hk']))
        simp only [List.map_cons, List.sum_cons, List.length_cons] at h2 ⊢
        rw [h1, h2, Nat.add_mul, Nat.one_mul, Nat.add_comm]
    rw [this _ (fun k hk => List.mem_range.1 hk), List.length_range, h, Nat.mul_comm]
theorem facM_le : ∀ {n : Nat}, n ≤ 6 → facM n ≤ 720 ∧ 1 ≤ facM n := by
  intro n h
  match n, h with
  | 0, _ => decide
  | 1, _ => decide
  | 2, _ => decide
  | 3, _ => decide
  | 4, _ => decide
  | 5, _ => decide
  | 6, _ => decide
theorem erase_perm : ∀ (l : List Int) (k : Nat) (hk : k < l.length), (l[k] :: l.eraseIdx k).Perm l
  | a :: l, 0, _ => by simp
  | a :: l, k + 1, hk => by
    have hk' : k < l.length := by simpa using hk
    rw [List.eraseIdx_cons_succ, List.getElem_cons_succ]
    exact (List.Perm.swap a l[k] _).trans (List.Perm.cons a (erase_perm l k hk'))
theorem permsF_perm : ∀ (f : Nat) (l : List Int), l.length ≤ f → ∀ x ∈ permsF f l, x.Perm l
  | 0, l, h, x, hx => by
    have : l = [] := List.eq_nil_of_length_eq_zero (by omega)
    simp [permsF] at hx; subst hx; subst this; exact List.Perm.refl _
  | f + 1, l, h, x, hx => by
    by_cases h0 : l = []
    · simp [permsF, h0] at hx; subst hx; subst h0; exact List.Perm.refl _
    · simp only [permsF, if_neg h0, List.mem_flatMap, List.mem_range, List.mem_map] at hx
      obtain ⟨k, hk, y, hy, rfl⟩ := hx
      have h1 := permsF_perm f (l.eraseIdx k) (by rw [List.length_eraseIdx_of_lt hk]; omega) y hy
      have e : l.getD k 0 = l[k] := by rw [List.getD_eq_getElem?_getD, List.getElem?_eq_getElem hk]; rfl
      rw [e]
      exact (List.Perm.cons _ h1).trans (erase_perm l k hk)
/-- Two stores that agree where the operations look. -/
theorem follow_agree : ∀ (os : List T3) (s t : List Int), s.length = t.length → (∀ o ∈ os, s.getD o.2.1.toNat 0 = t.getD o.2.1.toNat 0) → (followL s os).isSome = (followL t os).isSome
  | [], s, t, _, _ => rfl
  | o :: os, s, t, hl, h => by
    simp only [followL]
    by_cases hw : o.1 = 2
    · rw [if_pos hw, if_pos hw]
      refine follow_agree os _ _ (by simp [hl]) (fun p hp => ?_)
      have := h p (by simp [hp])
      simp only [List.getD_eq_getElem?_getD, List.getElem?_set, hl] at this ⊢
      split
      · rfl
      · exact this
    · rw [if_neg hw, if_neg hw, h o (by simp)]
      split
      · exact follow_agree os s t hl (fun p hp => h p (by simp [hp]))
      · rfl
theorem follow_far : ∀ (os : List T3) (s s' : List Int), followL s os = some s' → ∀ k, (∀ o ∈ os, o.1 = 2 → o.2.1.toNat ≠ k) → s'.getD k 0 = s.getD k 0
  | [], s, s', h, k, _ => by simp only [followL, Option.some.injEq] at h; rw [h]
  | o :: os, s, s', h, k, hk => by
    simp only [followL] at h
    split at h
    · rename_i hw
      rw [follow_far os _ s' h k (fun p hp => hk p (by simp [hp]))]
      simp only [List.getD_eq_getElem?_getD, List.getElem?_set]
      rw [if_neg (hk o (by simp) hw)]
    · split at h
      · exact follow_far os s s' h k (fun p hp => hk p (by simp [hp]))
      · cases h
theorem hitB_symm (o p : T3) : hitB o p = hitB p o := by
  unfold hitB
  rw [Bool.eq_iff_iff]
  simp only [Bool.and_eq_true, Bool.or_eq_true, beq_iff_eq]
  constructor
  · rintro ⟨h1, h2⟩; exact ⟨h1.symm, h2.symm⟩
  · rintro ⟨h1, h2⟩; exact ⟨h1.symm, h2.symm⟩
theorem meetB_symm (a b : List T3) : meetB a b = meetB b a := by
  unfold meetB
  rw [Bool.eq_iff_iff]
  simp only [List.any_eq_true]
  constructor
  · rintro ⟨o, ho, p, hp, h⟩; exact ⟨p, hp, o, ho, by rw [hitB_symm]; exact h⟩
  · rintro ⟨o, ho, p, hp, h⟩; exact ⟨p, hp, o, ho, by rw [hitB_symm]; exact h⟩
theorem meets_none (ts : List Tx) : ∀ l : List Int, meetsR ts l = 0 → ∀ a ∈ l, ∀ b ∈ l, a ≠ b → meetB (opsAt ts a) (opsAt ts b) = false
  | [], _, a, ha, _, _, _ => by simp at ha
  | x :: l, h, a, ha, b, hb, hne => by
    simp only [meetsR] at h
    have h1 : meetsR ts l = 0 := by omega
    have h2 : cntM ts x l = 0 := by omega
    have h3 : ∀ y ∈ l, meetB (opsAt ts x) (opsAt ts y) = false := fun y hy => by
      unfold cntM at h2
      have h4 := List.eq_nil_of_length_eq_zero h2
      cases hb : meetB (opsAt ts x) (opsAt ts y)
      · rfl
      · have : y ∈ l.filter fun b => meetB (opsAt ts x) (opsAt ts b) := List.mem_filter.2 ⟨hy, hb⟩
        rw [h4] at this; cases this
    rcases List.mem_cons.1 ha with e | ha'
    · rcases List.mem_cons.1 hb with e2 | hb'
      · exact absurd (e.trans e2.symm) hne
      · rw [e]; exact h3 b hb'
    · rcases List.mem_cons.1 hb with e2 | hb'
      · rw [meetB_symm, e2]; exact h3 a ha'
      · exact meets_none ts l h1 a ha' b hb' hne
/-- Where nothing meets, each transaction runs by itself. -/
theorem runs_apart (ts : List Tx) (hk : ∀ t ∈ ts, ∀ o ∈ t.2.1, (o.1 = 1 ∨ o.1 = 2) ∧ 0 ≤ o.2.1 ∧ o.2.1 ≤ 2) (t : List Int) :
    ∀ (l : List Int) (s : List Int), l.Nodup → (∀ a ∈ l, ∀ b ∈ l, a ≠ b → meetB (opsAt ts a) (opsAt ts b) = false) → s.length = t.length → (∀ a ∈ l, ∀ o ∈ opsAt ts a, s.getD o.2.1.toNat 0 = t.getD o.2.1.toNat 0) →
    runsF ts s l = l.all fun n => (followL t (opsAt ts n)).isSome
  | [], s, _, _, _, _ => rfl
  | n :: l, s, hn, hm, hl, ha => by
    have hops : ∀ a : Int, ∀ o ∈ opsAt ts a, 0 ≤ o.2.1 ∧ o.2.1 ≤ 2 := fun a o ho => by
      unfold opsAt opsOf at ho
      cases hx : ts[a.toNat]? with
      | none => rw [List.getD_eq_getElem?_getD, hx] at ho; simp at ho
      | some x =>
        rw [List.getD_eq_getElem?_getD, hx] at ho
        exact (hk x (List.mem_of_getElem? hx) o ho).2
    have h2 := List.nodup_cons.1 hn
    simp only [runsF, List.all_cons]
    rw [← follow_agree (opsAt ts n) s t hl (ha n (by simp))]
    show (match followL s (opsAt ts n) with | none => false | some s' => runsF ts s' l) = _
    cases hf : followL s (opsAt ts n) with
    | none => rfl
    | some s' =>
      simp only [Option.isSome_some, Bool.true_and]
      refine runs_apart ts hk t l s' h2.2 (fun a ha' b hb' => hm a (by simp [ha']) b (by simp [hb'])) ((followL_len _ _ _ hf).trans hl) (fun a ha' o ho => ?_)
      rw [follow_far _ _ _ hf o.2.1.toNat (fun p hp hw e => ?_)]
      · exact ha a (by simp [ha']) o ho
      · have hne : n ≠ a := fun e => h2.1 (e ▸ ha')
        have h3 := hm n (by simp) a (by simp [ha']) hne
        have h4 := hops n p hp
        have h5 := hops a o ho
        have h6 : meetB (opsAt ts n) (opsAt ts a) = true := by
          unfold meetB
          rw [List.any_eq_true]
          refine ⟨p, hp, List.any_eq_true.2 ⟨o, ho, ?_⟩⟩
          unfold hitB
          simp only [Bool.and_eq_true, Bool.or_eq_true, beq_iff_eq]
          exact ⟨by omega, .inl hw⟩
        rw [h6] at h3; cases h3
/-- If none meet, all orders run, or none does. -/
theorem all_or_none {ts : List Tx} {l : List Int} (hk : ∀ t ∈ ts, ∀ o ∈ t.2.1, (o.1 = 1 ∨ o.1 = 2) ∧ 0 ≤ o.2.1 ∧ o.2.1 ≤ 2) (hn : l.Nodup) (hm : meetsL ts l = 0) (s : List Int) :
    ((permsL l).filter (runsF ts s)).length = 0 ∨ ((permsL l).filter (runsF ts s)).length = facM l.length := by
  have h1 : ∀ x ∈ permsL l, runsF ts s x = l.all fun n => (followL s (opsAt ts n)).isSome := fun x hx => by
    have hp := permsF_perm l.length l (Nat.le_refl _) x hx
    rw [runs_apart ts hk s x s (hp.nodup_iff.2 hn) (fun a ha b hb => meets_none ts l.reverse hm a (by simp [hp.mem_iff.1 ha]) b (by simp [hp.mem_iff.1 hb])) rfl (fun _ _ _ _ => rfl)]
    rw [Bool.eq_iff_iff, List.all_eq_true, List.all_eq_true]
    exact ⟨fun h y hy => h y (hp.mem_iff.2 hy), fun h y hy => h y (hp.mem_iff.1 hy)⟩
  cases hb : l.all fun n => (followL s (opsAt ts n)).isSome
  · left
    rw [List.length_eq_zero_iff, List.filter_eq_nil_iff]
    intro x hx
    rw [h1 x hx, hb]; simp
  · right
    rw [List.filter_eq_self.2 (fun x hx => by rw [h1 x hx, hb])]
    exact permsF_many' l.length l rfl
theorem cnt_le_fac {ts : List Tx} {l : List Int} (s : List Int) : ((permsL l).filter (runsF ts s)).length ≤ facM l.length := by
  have := List.length_filter_le (runsF ts s) (permsL l)
  rw [show (permsL l).length = facM l.length from permsF_many' l.length l rfl] at this
  exact this
theorem fst_found (ts : List Tx) {all : List Int} (h : all.Nodup) (s : List Int) : (srch goFst ts all all.length s [] none).1.isSome = decide (0 < ((permsL all).filter (runsF ts s)).length) := by
  rw [← cntG_all ts h s]
  rcases srch_fst ts all all.length s [] none with ⟨h1, h2⟩ | ⟨h1, u, h2⟩
  · rw [h2, h1]; rfl
  · rw [h2]; simp [h1]

end Go.Proofs.YtieecneknljmdaaDoor

namespace Go.Proofs.YtieecneknljmdaaDoor

theorem doneTo_lt (ts : List Tx) : ∀ (k : Nat) (x : Int), x ∈ doneTo ts k → ∃ j : Nat, x = j ∧ j < k
  | 0, x, h => by simp [doneTo] at h
  | k + 1, x, h => by
    simp only [doneTo, List.mem_append] at h
    rcases h with h | h
    · obtain ⟨j, e, hj⟩ := doneTo_lt ts k x h; exact ⟨j, e, by omega⟩
    · split at h
      · simp at h; exact ⟨k, h, by omega⟩
      · simp at h
theorem doneTo_nodup (ts : List Tx) : ∀ k, (doneTo ts k).Nodup
  | 0 => by simp [doneTo]
  | k + 1 => by
    simp only [doneTo]
    split
    · exact nodup_snoc (doneTo_nodup ts k) (fun h => by obtain ⟨j, e, hj⟩ := doneTo_lt ts k _ h; omega)
    · simpa using doneTo_nodup ts k
theorem doneL_nodup (ts : List Tx) : (doneL ts).Nodup := doneTo_nodup ts ts.length

end Go.Proofs.YtieecneknljmdaaDoor

namespace Go.Proofs.YtieecneknljmdaaDoor

def OpsOk (ts : List Tx) : Prop := ∀ (n : Nat) (t : Tx), ts[n]? = some t → ∀ (j : Nat) (o : T3), t.2.1[j]? = some o → opB o = true ∧ (o.1 = 2 → o.2.2 = valOf n j)
theorem OpsOk.step {ts : List Tx} (h : OpsOk ts) {n : Nat} {t : Tx} (ht : ts[n]? = some t) {o : T3} (ho : opB o = true ∧ (o.1 = 2 → o.2.2 = valOf n t.2.1.length)) (f : Int) (dn : Bool) : OpsOk (ts.set n (f, t.2.1 ++ [o], dn)) := by
  intro m u hu j p hp
  by_cases e : n = m
  · subst e
    rw [List.getElem?_set_self (List.getElem?_eq_some_iff.1 ht).1] at hu
    injection hu with hu; subst hu
    by_cases hj : j < t.2.1.length
    · rw [List.getElem?_append_left hj] at hp
      exact h n t ht j p hp
    · have hp' : (t.2.1 ++ [o])[j]? = some p := hp
      have : j = t.2.1.length := by have := (List.getElem?_eq_some_iff.1 hp').1; simp at this; omega
      subst this
      simp at hp'; subst hp'; exact ho
  · rw [List.getElem?_set_ne e] at hu
    exact h m u hu j p hp
theorem OpsOk.empty (ds : Ds) : OpsOk (emptyT ds) := fun n t ht j o ho => by
  unfold emptyT at ht
  rw [List.getElem?_map] at ht
  cases hd : ds[n]? <;> rw [hd] at ht <;> simp at ht
  subst ht; simp at ho
/-- Values ascend. -/
def Asc (l : List (Int × Int)) (m : Int) : Prop := l.Pairwise (fun a b => a.2 < b.2) ∧ ∀ q ∈ l, q.2 < m
theorem Asc.push {l : List (Int × Int)} {m m' : Int} (h : Asc l m) (k : Int) (hm : m < m') : Asc (l ++ [(k, m)]) m' := by
  refine ⟨List.pairwise_append.2 ⟨h.1, List.pairwise_singleton _ _, fun a ha b hb => ?_⟩, fun q hq => ?_⟩
  · simp at hb; subst hb; exact h.2 a ha
  · rcases List.mem_append.1 hq with hq | hq
    · have := h.2 q hq; omega
    · simp at hq; subst hq; exact hm
theorem Asc.mono {l : List (Int × Int)} {m m' : Int} (h : Asc l m) (hm : m ≤ m') : Asc l m' := ⟨h.1, fun q hq => by have := h.2 q hq; omega⟩
theorem Asc.nodup {l : List (Int × Int)} {m : Int} (h : Asc l m) : l.Nodup := h.1.imp (fun {a b} hab e => by subst e; omega)
theorem asc_ops {ts : List Tx} (h : OpsOk ts) {n : Nat} {t : Tx} (ht : ts[n]? = some t) (h0 : Asc (wl (opsTo ts n 0)) (valOf n 0)) : ∀ j, j ≤ t.2.1.length → Asc (wl (opsTo ts n j)) (valOf n j)
  | 0, _ => h0
  | j + 1, hj => by
    have ih := asc_ops h ht h0 j (by omega)
    have ho : t.2.1[j]? = some (t.2.1[j]'(by omega)) := List.getElem?_eq_getElem _
    have hlt : valOf n j < valOf n (j + 1) := by unfold valOf; omega
    by_cases hw : (t.2.1[j]'(by omega)).1 = 2
    · rw [wl_step_w ht ho hw, (h n t ht j _ ho).2 hw]
      exact ih.push _ hlt
    · rw [wl_step_r ht ho hw]; exact ih.mono (by omega)
theorem asc_txns {ts : List Tx} (h : OpsOk ts) (h4 : ∀ t ∈ ts, t.2.1.length ≤ 4) : ∀ n, n ≤ ts.length → Asc (wl (opsTo ts n 0)) (valOf n 0)
  | 0, _ => by rw [opsTo_zero]; exact ⟨List.Pairwise.nil, fun q hq => by simp [wl] at hq⟩
  | n + 1, hn => by
    have ih := asc_txns h h4 n (by omega)
    have ht : ts[n]? = some (ts[n]'(by omega)) := List.getElem?_eq_getElem _
    have h1 := asc_ops h ht ih _ (Nat.le_refl _)
    rw [opsTo_next ht (Nat.le_refl _)]
    exact h1.mono (by have := h4 _ (List.mem_of_getElem? ht); unfold valOf; omega)
theorem OpsOk.valid {ts : List Tx} (h : OpsOk ts) (h4 : Lean4 ts) (hs : ∀ t ∈ ts, 0 ≤ t.1 ∧ t.1 ≤ 3) : histB ts = true := by
  refine histB_mk (by have := h4.1; omega) (fun t ht => ?_) ?_
  · obtain ⟨i, hi, he⟩ := List.mem_iff_getElem.1 ht
    have h1 : ts[i]? = some t := by rw [← he]; exact List.getElem?_eq_getElem hi
    unfold txnB
    simp only [Bool.and_eq_true, List.all_eq_true, decide_eq_true_eq, inB_iff]
    refine ⟨fun o ho => ?_, hs t ht, by have := h4.2 t ht; omega⟩
    obtain ⟨j, hj, hg⟩ := List.mem_iff_getElem.1 ho
    exact (h i t h1 j o (by rw [← hg]; exact List.getElem?_eq_getElem hj)).1
  · have := (asc_txns h h4.2 ts.length (Nat.le_refl _)).nodup
    rwa [opsTo_all (Nat.le_refl _)] at this

theorem dirty_inv {ms : Ds} {xs : List Int} (h : runB ms xs = true) : ∀ k, k ≤ xs.length → OpsOk (dirtyR ms (xs.take k)).1 ∧ Vals (dirtyR ms (xs.take k)).2 := by
  obtain ⟨hm4, hdb, _, hxb⟩ := runB_parts h
  intro k
  induction k with
  | zero => intro _; simp only [List.take_zero]; exact ⟨OpsOk.empty ms, Vals.zero⟩
  | succ k ih =>
    intro hk
    obtain ⟨ih1, ih2⟩ := ih (by omega)
    have hf := dirtyR_fits h k (by omega)
    have hx : xs[k]? = some (xs[k]'(by omega)) := List.getElem?_eq_getElem _
    rw [dirtyR_snoc hx]
    obtain ⟨h0, h1⟩ := hxb _ (List.mem_of_getElem? hx)
    obtain ⟨d, t, hd, ht, hst, hop, hse, hle, hdn⟩ := hf.at_ (n := (xs[k]'(by omega)).toNat) (by omega)
    by_cases hfull : t.2.1.length = d.2.length
    · rw [dirty1_none hst hop hfull]; exact ⟨ih1, ih2⟩
    · obtain ⟨s, hs⟩ : ∃ s, d.2[t.2.1.length]? = some s := ⟨_, List.getElem?_eq_getElem (by omega)⟩
      rw [dirty1_some hst hop hse hs]
      obtain ⟨_, hb2, _, hb4⟩ := draftB_parts (hdb d (List.mem_of_getElem? hd))
      obtain ⟨hk1, hy, _⟩ := hb4 s (List.mem_of_getElem? hs)
      have hv := valOf_bd (n := (xs[k]'(by omega)).toNat) (at_ := t.2.1.length) (by omega) (by omega)
      have hv0 : 0 < valOf (xs[k]'(by omega)).toNat t.2.1.length := by unfold valOf; omega
      refine ⟨ih1.step ht ⟨?_, ?_⟩ _ _, ?_⟩
      · unfold opB dirtyV
        simp only [Bool.and_eq_true, inB_iff, Bool.or_eq_true, beq_iff_eq, decide_eq_true_eq]
        rcases hk1 with e | e
        · rw [if_neg (by omega)]
          refine ⟨by omega, hy, ?_, .inl e⟩
          have hl := ih2.1
          rw [List.getD_eq_getElem?_getD, List.getElem?_eq_getElem (show s.2.1.toNat < (dirtyR ms (xs.take k)).2.length by omega)]
          exact ih2.2 _ (List.getElem_mem _)
        · rw [if_pos e]; exact ⟨by omega, hy, hv, .inr hv0⟩
      · intro e
        show dirtyV _ _ _ s = _
        unfold dirtyV; rw [if_pos e]
      · unfold dirtyS
        split
        · exact ih2.set_ _ hv
        · exact ih2
theorem dirtyL_ses {ms : Ds} {xs : List Int} (h : runB ms xs = true) : ∀ t ∈ dirtyL ms xs, 0 ≤ t.1 ∧ t.1 ≤ 3 := fun t ht => by
  obtain ⟨_, hdb, _, _⟩ := runB_parts h
  have hf := dirtyL_fits h
  obtain ⟨i, hi, he⟩ := List.mem_iff_getElem.1 ht
  have h1 : (dirtyL ms xs)[i]? = some t := by rw [← he]; exact List.getElem?_eq_getElem hi
  have hl : i < ms.length := by rw [← hf.1]; exact hi
  have := (hf.2 i _ t (List.getElem?_eq_getElem hl) h1).1
  rw [this]
  exact (draftB_parts (hdb _ (List.getElem_mem hl))).2.2.1
theorem dirtyL_eq {ms : Ds} {xs : List Int} (h : runB ms xs = true) : dirtyL ms xs = (dirtyR ms xs).1 := by simp [dirtyL, h]
theorem dirtyL_valid {ms : Ds} {xs : List Int} (h : runB ms xs = true) : histB (dirtyL ms xs) = true := by
  have h1 := (dirty_inv h xs.length (Nat.le_refl _)).1
  rw [List.take_length, ← dirtyL_eq h] at h1
  exact h1.valid (dirtyL_four ms xs) (dirtyL_ses h)
/-- How often k comes among the first j. -/
def cntTo (xs : List Int) (k j : Nat) : Nat := (xs.take j).count (k : Int)
theorem cntTo_zero (xs : List Int) (k : Nat) : cntTo xs k 0 = 0 := by simp [cntTo]
theorem cntTo_yes {xs : List Int} {k j : Nat} (h : xs[j]? = some (k : Int)) : cntTo xs k (j + 1) = cntTo xs k j + 1 := by
  unfold cntTo; rw [List.take_add_one, h]; simp
theorem cntTo_no {xs : List Int} {k j : Nat} {x : Int} (h : xs[j]? = some x) (hx : x ≠ (k : Int)) : cntTo xs k (j + 1) = cntTo xs k j := by
  unfold cntTo; rw [List.take_add_one, h]; simp [List.count_append, hx]
theorem cntTo_le (xs : List Int) (k j : Nat) : cntTo xs k j ≤ j := by
  unfold cntTo
  have h1 := List.count_le_length (a := (k : Int)) (l := xs.take j)
  have h2 := List.length_take_le j xs
  omega
theorem dirty_cnt {ms : Ds} {xs : List Int} (h : runB ms xs = true) : ∀ k, k ≤ xs.length → ∀ (n : Nat) (d : Int × List T3) (t : Tx), ms[n]? = some d → (dirtyR ms (xs.take k)).1[n]? = some t → t.2.1.length = min (cntTo xs n k) d.2.length := by
  obtain ⟨hm4, hdb, _, hxb⟩ := runB_parts h
  intro k
  induction k with
  | zero =>
    intro _ n d t hd ht
    have ht : (emptyT ms)[n]? = some t := ht
    unfold emptyT at ht
    rw [List.getElem?_map, hd] at ht
    injection ht with ht; subst ht
    simp [cntTo]
  | succ k ih =>
    intro hk n d t hd ht
    have ih := ih (by omega)
    have hf := dirtyR_fits h k (by omega)
    have hx : xs[k]? = some (xs[k]'(by omega)) := List.getElem?_eq_getElem _
    obtain ⟨x, hxe⟩ : ∃ x, xs[k]'(by omega) = x := ⟨_, rfl⟩
    rw [hxe] at hx
    rw [dirtyR_snoc hx] at ht
    obtain ⟨h0, h1⟩ := hxb _ (List.mem_of_getElem? hx)
    obtain ⟨x, rfl⟩ : ∃ q : Nat, x = q := ⟨x.toNat, by omega⟩
    rw [Int.toNat_natCast] at ht
    obtain ⟨d', t', hd', ht', hst, hop, hse, hle, hdn⟩ := hf.at_ (n := x) (by omega)
    by_cases e : x = n
    · subst e
      rw [cntTo_yes hx]
      rw [hd] at hd'; injection hd' with hd'; subst hd'
      have ihn := ih x d t' hd ht'
      by_cases hfull : t'.2.1.length = d.2.length
      · rw [dirty1_none hst hop hfull, ht'] at ht
        injection ht with ht; subst ht; omega
      · obtain ⟨s, hs⟩ : ∃ s, d.2[t'.2.1.length]? = some s := ⟨_, List.getElem?_eq_getElem (by omega)⟩
        rw [dirty1_some hst hop hse hs] at ht
        have ht : ((dirtyR ms (xs.take k)).1.set x _)[x]? = some t := ht
        rw [List.getElem?_set_self (List.getElem?_eq_some_iff.1 ht').1] at ht
        injection ht with ht; subst ht
        simp; omega
    · rw [cntTo_no hx (by omega)]
      by_cases hfull : t'.2.1.length = d'.2.length
      · rw [dirty1_none hst hop hfull] at ht
        exact ih n d t hd ht
      · obtain ⟨s, hs⟩ : ∃ s, d'.2[t'.2.1.length]? = some s := ⟨_, List.getElem?_eq_getElem (by omega)⟩
        rw [dirty1_some hst hop hse hs] at ht
        have ht : ((dirtyR ms (xs.take k)).1.set x _)[n]? = some t := ht
        rw [List.getElem?_set_ne e] at ht
        exact ih n d t hd ht
/-- The law's facts at a transaction. -/
theorem dirtyL_at {ms : Ds} {xs : List Int} (h : runB ms xs = true) {n : Nat} {d : Int × List T3} {t : Tx} (hd : ms[n]? = some d) (ht : (dirtyL ms xs)[n]? = some t) :
    t.1 = d.1 ∧ t.2.1.length = min (cntTo xs n xs.length) d.2.length ∧ t.2.2 = decide (d.2.length ≤ cntTo xs n xs.length) := by
  have hf := (dirtyL_fits h).2 n d t hd ht
  rw [dirtyL_eq h] at ht
  have hc := dirty_cnt h xs.length (Nat.le_refl _) n d t hd (by rw [List.take_length]; exact ht)
  refine ⟨hf.1, hc, ?_⟩
  rw [hf.2.2, hc]
  exact decide_eq_decide.2 (by omega)

end Go.Proofs.YtieecneknljmdaaDoor

namespace Go.Proofs.YtieecneknljmdaaDoor
open Go.RowKit

/-- The store behind an order. -/
def runSt (ts : List Tx) : List Int → List Int → Option (List Int)
  | s, [] => some s
  | s, n :: r => match followL s (opsOf ts n.toNat) with
    | none => none
    | some s' => runSt ts s' r
theorem runsF_st (ts : List Tx) : ∀ (l s : List Int), runsF ts s l = (runSt ts s l).isSome
  | [], s => rfl
  | n :: l, s => by
    simp only [runsF, runSt]
    cases followL s (opsOf ts n.toNat) with
    | none => rfl
    | some s' => exact runsF_st ts l s'
theorem runSt_snoc (ts : List Tx) (n : Int) : ∀ (l s : List Int), runSt ts s (l ++ [n]) = (runSt ts s l).bind fun s' => followL s' (opsOf ts n.toNat)
  | [], s => by
    simp only [List.nil_append, runSt, Option.bind_some]
    cases followL s (opsOf ts n.toNat) <;> rfl
  | m :: l, s => by
    simp only [List.cons_append, runSt]
    cases followL s (opsOf ts m.toNat) with
    | none => rfl
    | some s' => exact runSt_snoc ts n l s'
theorem runSt_same {ts ts' : List Tx} : ∀ (l s : List Int), (∀ m ∈ l, opsOf ts' m.toNat = opsOf ts m.toNat) → runSt ts' s l = runSt ts s l
  | [], s, _ => rfl
  | m :: l, s, h => by
    simp only [runSt, h m (by simp)]
    cases followL s (opsOf ts m.toNat) with
    | none => rfl
    | some s' => exact runSt_same l s' (fun k hk => h k (by simp [hk]))
theorem commit_snoc {os : List T3} {s : List Int} (o : T3) (ho : o.1 = 1 ∨ o.1 = 2) (hy : 0 ≤ o.2.1 ∧ o.2.1 ≤ 2) :
    commitS (os ++ [o]) s = if o.1 = 2 then (commitS os s).set o.2.1.toNat o.2.2 else commitS os s := by
  obtain ⟨x, y, z⟩ := o
  dsimp only at ho hy ⊢
  unfold commitS seesV
  have hc : y = 0 ∨ y = 1 ∨ y = 2 := by omega
  rcases ho with rfl | rfl
  · simp only [lastK_snoc]; simp
  · rw [if_pos rfl]
    simp only [lastK_snoc]
    rcases hc with rfl | rfl | rfl <;> simp
theorem follow_commit {s : List Int} (hs : s.length = 3) : ∀ (os : List T3), (∀ o ∈ os, opB o = true) → ∀ s', followL s os = some s' → s' = commitS os s := by
  intro os
  induction os using snoc_ind with
  | nil =>
    intro _ s' h
    simp only [followL, Option.some.injEq] at h
    subst h
    match s, hs with
    | [a, b, c], _ => rfl
  | append_singleton os o ih =>
    intro ho s' h
    have hb := ho o (by simp)
    unfold opB at hb
    simp only [Bool.and_eq_true, inB_iff] at hb
    rw [followL_append] at h
    cases hf : followL s os with
    | none => rw [hf] at h; cases h
    | some s1 =>
      have e1 := ih (fun p hp => ho p (by simp [hp])) s1 hf
      rw [hf] at h
      simp only [Option.bind_some, followL] at h
      rw [commit_snoc o (by omega) hb.2.1, ← e1]
      by_cases hw : o.1 = 2
      · rw [if_pos hw] at h ⊢
        injection h with h; exact h.symm
      · rw [if_neg hw] at h ⊢
        split at h
        · injection h with h; exact h.symm
        · cases h
/-- One more operation of a draft: its transaction follows still. -/
theorem follow_lockO {os : List T3} {st : List Int} {n : Nat} {s : T3} (hst : st.length = 3) (hos : ∀ o ∈ os, opB o = true) (h : (followL st os).isSome = true) :
    (followL st (os ++ [lockO os st n s])).isSome = true := by
  rw [followL_append]
  obtain ⟨s1, h1⟩ := Option.isSome_iff_exists.1 h
  have e1 := follow_commit hst os hos s1 h1
  rw [h1]
  simp only [Option.bind_some, followL]
  by_cases hw : s.1 = 2
  · rw [if_pos (show (lockO os st n s).1 = 2 from hw)]; rfl
  · rw [if_neg (show ¬ (lockO os st n s).1 = 2 from hw)]
    have e2 : s1.getD (lockO os st n s).2.1.toNat 0 = (lockO os st n s).2.2 := by
      rw [e1, getD_commit _ _ hst hos]
      show seesV os st s.2.1.toNat = lockV os st n s
      unfold lockV; rw [if_neg hw]
    rw [if_pos e2]; rfl
/-- What holds of a state with the order of its commits. -/
structure LockC (ds : Ds) (S : LockSt) (L : List Int) : Prop where
  nodup : L.Nodup
  mem : ∀ x : Int, x ∈ L ↔ ∃ (i : Nat) (t : Tx), x = i ∧ S.1[i]? = some t ∧ t.2.2 = true
  runs : runSt S.1 [0, 0, 0] L = some S.2.1
  open_ : ∀ (n : Nat) (t : Tx) (d : Int × List T3), S.1[n]? = some t → ds[n]? = some d → t.2.1.length < d.2.length → (followL S.2.1 t.2.1).isSome = true
  vals : ∀ (n : Nat) (t : Tx), S.1[n]? = some t → ∀ (j : Nat) (o : T3), t.2.1[j]? = some o → o.1 = 2 → o.2.2 = valOf n j
theorem vals_step {ts : List Tx} (h : ∀ (n : Nat) (t : Tx), ts[n]? = some t → ∀ (j : Nat) (o : T3), t.2.1[j]? = some o → o.1 = 2 → o.2.2 = valOf n j) {n : Nat} {t : Tx} (ht : ts[n]? = some t) {o : T3} (ho : o.1 = 2 → o.2.2 = valOf n t.2.1.length) (f : Int) (dn : Bool) :
    ∀ (m : Nat) (u : Tx), (ts.set n (f, t.2.1 ++ [o], dn))[m]? = some u → ∀ (j : Nat) (p : T3), u.2.1[j]? = some p → p.1 = 2 → p.2.2 = valOf m j := by
  intro m u hu j p hp
  by_cases e : n = m
  · subst e
    rw [List.getElem?_set_self (List.getElem?_eq_some_iff.1 ht).1] at hu
    injection hu with hu; subst hu
    by_cases hj : j < t.2.1.length
    · have hp' : (t.2.1 ++ [o])[j]? = some p := hp
      rw [List.getElem?_append_left hj] at hp'
      exact h n t ht j p hp'
    · have hp' : (t.2.1 ++ [o])[j]? = some p := hp
      have : j = t.2.1.length := by have := (List.getElem?_eq_some_iff.1 hp').1; simp at this; omega
      subst this
      simp at hp'; subst hp'; exact ho
  · rw [List.getElem?_set_ne e] at hu
    exact h m u hu j p hp
theorem opsOf_set_ne {ts : List Tx} {n m : Nat} (t : Tx) (h : n ≠ m) : opsOf (ts.set n t) m = opsOf ts m := by
  unfold opsOf; rw [List.getD_eq_getElem?_getD, List.getElem?_set_ne h, ← List.getD_eq_getElem?_getD]
theorem opsOf_set_self {ts : List Tx} {n : Nat} (t : Tx) (h : n < ts.length) : opsOf (ts.set n t) n = t.2.1 := by
  unfold opsOf; rw [List.getD_eq_getElem?_getD, List.getElem?_set_self h]; rfl
theorem lastO_of_mem {os : List T3} {o : T3} (h : o ∈ os) : ∃ p, lastO os o.2.1 = some p := by
  cases e : lastO os o.2.1 with
  | some p => exact ⟨p, rfl⟩
  | none =>
    exfalso
    unfold lastO at e
    rw [List.find?_eq_none] at e
    exact e o (List.mem_reverse.2 h) (by simp)
theorem lockO_val {os : List T3} {st : List Int} {n : Nat} {s : T3} (h : (lockO os st n s).1 = 2) : (lockO os st n s).2.2 = valOf n os.length := by
  show lockV os st n s = _
  unfold lockV; rw [if_pos (show s.1 = 2 from h)]
theorem LockC.more {ds : Ds} {S : LockSt} {L : List Int} (h : LockC ds S L) (hi : LockI ds S) {n : Nat} {t : Tx} {d : Int × List T3} {s : T3} (ht : S.1[n]? = some t) (hd : ds[n]? = some d) (hl : t.2.1.length < d.2.length)
    (hdn : t.2.2 = false) (ow : List Int) :
    LockC ds (S.1.set n (t.1, t.2.1 ++ [lockO t.2.1 S.2.1 n s], false), S.2.1, ow) L := by
  have hlt := (List.getElem?_eq_some_iff.1 ht).1
  have hnL : (n : Int) ∉ L := fun hm => by
    obtain ⟨i, t', e, h1, h2⟩ := (h.mem _).1 hm
    have : n = i := by omega
    subst this
    rw [ht] at h1; injection h1 with h1; subst h1; rw [hdn] at h2; cases h2
  refine ⟨h.nodup, fun x => ?_, ?_, fun n' t' d' ht' hd' hl' => ?_, vals_step h.vals ht lockO_val t.1 false⟩
  · rw [h.mem]
    constructor
    · rintro ⟨i, t', e, h1, h2⟩
      have hne : n ≠ i := fun e2 => by subst e2; rw [ht] at h1; injection h1 with h1; subst h1; rw [hdn] at h2; cases h2
      exact ⟨i, t', e, by rw [List.getElem?_set_ne hne]; exact h1, h2⟩
    · rintro ⟨i, t', e, h1, h2⟩
      by_cases hne : n = i
      · subst hne
        have h1' : (S.1.set n (t.1, t.2.1 ++ [lockO t.2.1 S.2.1 n s], false))[n]? = some t' := h1
        rw [List.getElem?_set_self hlt] at h1'
        injection h1' with h1'; subst h1'; cases h2
      · have h1' : (S.1.set n (t.1, t.2.1 ++ [lockO t.2.1 S.2.1 n s], false))[i]? = some t' := h1
        rw [List.getElem?_set_ne hne] at h1'
        exact ⟨i, t', e, h1', h2⟩
  · show runSt (S.1.set n _) [0, 0, 0] L = some S.2.1
    rw [runSt_same (ts := S.1) L _ (fun m hm => by
      obtain ⟨i, t', e, _, _⟩ := (h.mem m).1 hm
      have : n ≠ m.toNat := fun e2 => hnL (by rw [e2, show ((m.toNat : Nat) : Int) = m by omega]; exact hm)
      exact opsOf_set_ne _ this)]
    exact h.runs
  · show (followL S.2.1 t'.2.1).isSome = true
    have ht2 : (S.1.set n (t.1, t.2.1 ++ [lockO t.2.1 S.2.1 n s], false))[n']? = some t' := ht'
    by_cases hne : n = n'
    · subst hne
      rw [List.getElem?_set_self hlt] at ht2
      injection ht2 with ht2; subst ht2
      exact follow_lockO hi.vals.1 (hi.ops n t ht) (h.open_ n t d ht hd hl)
    · rw [List.getElem?_set_ne hne] at ht2
      exact h.open_ n' t' d' ht2 hd' hl'
theorem LockC.last {ds : Ds} {S : LockSt} {L : List Int} (h : LockC ds S L) (hi : LockI ds S) {n : Nat} {t : Tx} {d : Int × List T3} {s : T3} (ht : S.1[n]? = some t) (hd : ds[n]? = some d) (hl : t.2.1.length < d.2.length) (hn : n < 4) (hl4 : t.2.1.length < 4)
    (hk : s.1 = 1 ∨ s.1 = 2) (hy : 0 ≤ s.2.1 ∧ s.2.1 ≤ 2) (hw : ¬ (S.2.2.getD s.2.1.toNat 0 ≠ 0 ∧ S.2.2.getD s.2.1.toNat 0 ≠ (n : Int) + 1)) (hm : t.2.1.length + 1 = d.2.length) (hdn : t.2.2 = false) (ow : List Int) :
    LockC ds (S.1.set n (t.1, t.2.1 ++ [lockO t.2.1 S.2.1 n s], true), commitS (t.2.1 ++ [lockO t.2.1 S.2.1 n s]) S.2.1, ow) (L ++ [(n : Int)]) := by
  have hlt := (List.getElem?_eq_some_iff.1 ht).1
  have hnL : (n : Int) ∉ L := fun hm => by
    obtain ⟨i, t', e, h1, h2⟩ := (h.mem _).1 hm
    have : n = i := by omega
    subst this
    rw [ht] at h1; injection h1 with h1; subst h1; rw [hdn] at h2; cases h2
  have hops := hi.ops_set ht hn hl4 hk hy true
  have hself : (S.1.set n (t.1, t.2.1 ++ [lockO t.2.1 S.2.1 n s], true))[n]? = some (t.1, t.2.1 ++ [lockO t.2.1 S.2.1 n s], true) := List.getElem?_set_self hlt
  have hos := hops n _ hself
  have hpre := hi.pre ht hd hl hy hw true
  have hfol := follow_lockO (n := n) (s := s) hi.vals.1 (hi.ops n t ht) (h.open_ n t d ht hd hl)
  refine ⟨nodup_snoc h.nodup hnL, fun x => ?_, ?_, fun n' t' d' ht' hd' hl' => ?_, vals_step h.vals ht lockO_val t.1 true⟩
  · rw [List.mem_append, h.mem, List.mem_singleton]
    constructor
    · rintro (⟨i, t', e, h1, h2⟩ | rfl)
      · have hne : n ≠ i := fun e2 => by subst e2; rw [ht] at h1; injection h1 with h1; subst h1; rw [hdn] at h2; cases h2
        exact ⟨i, t', e, by rw [List.getElem?_set_ne hne]; exact h1, h2⟩
      · exact ⟨n, _, rfl, hself, rfl⟩
    · rintro ⟨i, t', e, h1, h2⟩
      by_cases hne : n = i
      · subst hne; exact .inr e
      · have h1' : (S.1.set n (t.1, t.2.1 ++ [lockO t.2.1 S.2.1 n s], true))[i]? = some t' := h1
        rw [List.getElem?_set_ne hne] at h1'
        exact .inl ⟨i, t', e, h1', h2⟩
  · show runSt (S.1.set n _) [0, 0, 0] (L ++ [(n : Int)]) = some (commitS _ S.2.1)
    rw [runSt_snoc, runSt_same (ts := S.1) L _ (fun m hm => by
      obtain ⟨i, t', e, _, _⟩ := (h.mem m).1 hm
      have : n ≠ m.toNat := fun e2 => hnL (by rw [e2, show ((m.toNat : Nat) : Int) = m by omega]; exact hm)
      exact opsOf_set_ne _ this), h.runs, Option.bind_some, Int.toNat_natCast, opsOf_set_self _ hlt]
    obtain ⟨s1, h1⟩ := Option.isSome_iff_exists.1 hfol
    have e1 := follow_commit hi.vals.1 _ hos s1 h1
    show followL S.2.1 (t.2.1 ++ [lockO t.2.1 S.2.1 n s]) = _
    rw [h1, e1]
  · show (followL (commitS (t.2.1 ++ [lockO t.2.1 S.2.1 n s]) S.2.1) t'.2.1).isSome = true
    have ht2 : (S.1.set n (t.1, t.2.1 ++ [lockO t.2.1 S.2.1 n s], true))[n']? = some t' := ht'
    by_cases hne : n = n'
    · subst hne
      rw [hself] at ht2
      injection ht2 with ht2; subst ht2
      rw [hd] at hd'; injection hd' with hd'; subst hd'
      simp at hl'; omega
    · have ht3 := ht2
      rw [List.getElem?_set_ne hne] at ht3
      rw [follow_agree t'.2.1 _ S.2.1 (by rw [hi.vals.1]; rfl) (fun o ho => ?_)]
      · exact h.open_ n' t' d' ht3 hd' hl'
      · have hob := hops n' t' ht2 o ho
        unfold opB at hob
        simp only [Bool.and_eq_true, inB_iff] at hob
        obtain ⟨yk, hyk⟩ : ∃ k : Nat, o.2.1 = k := ⟨o.2.1.toNat, by omega⟩
        rw [getD_commit _ _ hi.vals.1 hos]
        unfold seesV
        obtain ⟨p, hp⟩ := lastO_of_mem ho
        rw [hyk] at hp ⊢
        rw [Int.toNat_natCast]
        have q1 := (hpre n' t' d' ht2 hd' (.inr hl') yk p hp).1
        cases e3 : lastK (t.2.1 ++ [lockO t.2.1 S.2.1 n s]) (yk : Int) with
        | none => rfl
        | some q =>
          exfalso
          obtain ⟨r, hr⟩ := lastK_lastO e3
          have q2 := (hpre n _ d hself hd (.inl rfl) yk r hr).1
          omega
theorem lockR_order {ms : Ds} {xs : List Int} (h : runB ms xs = true) : ∀ k, k ≤ xs.length → ∃ L, LockC ms (lockR ms (xs.take k)) L := by
  obtain ⟨hn4, hdb, _, hxb⟩ := runB_parts h
  intro k
  induction k with
  | zero =>
    intro _
    refine ⟨[], List.nodup_nil, fun x => ?_, rfl, fun n t d ht hd hl => ?_, fun n t ht j o ho => ?_⟩
    · constructor
      · intro h; cases h
      · rintro ⟨i, t, e, h1, h2⟩
        have h1' : (emptyT ms)[i]? = some t := h1
        unfold emptyT at h1'
        rw [List.getElem?_map] at h1'
        cases hd : ms[i]? <;> rw [hd] at h1' <;> simp at h1'
        subst h1'; cases h2
    · have h1' : (emptyT ms)[n]? = some t := ht
      unfold emptyT at h1'
      rw [List.getElem?_map] at h1'
      cases hd : ms[n]? <;> rw [hd] at h1' <;> simp at h1'
      subst h1'; rfl
    · have h1' : (emptyT ms)[n]? = some t := ht
      unfold emptyT at h1'
      rw [List.getElem?_map] at h1'
      cases hd : ms[n]? <;> rw [hd] at h1' <;> simp at h1'
      subst h1'; simp at ho
  | succ k ih =>
    intro hk
    obtain ⟨L, hC⟩ := ih (by omega)
    have hi := lockR_inv h k (by omega)
    have hx : xs[k]? = some (xs[k]'(by omega)) := List.getElem?_eq_getElem _
    rw [lockR_snoc hx]
    obtain ⟨h0, h1⟩ := hxb _ (List.mem_of_getElem? hx)
    generalize lockR ms (xs.take k) = S at hi hC ⊢
    obtain ⟨d, t, hd, ht, hst, hop, hse, hle, hdn⟩ := hi.fits.at_ (n := (xs[k]'(by omega)).toNat) (by omega)
    have hdp := draftB_parts (hdb d (List.mem_of_getElem? hd))
    by_cases hfull : t.2.1.length = d.2.length
    · rw [lock1_none hst hop hfull]; exact ⟨L, hC⟩
    · obtain ⟨s, hs⟩ : ∃ s, d.2[t.2.1.length]? = some s := ⟨_, List.getElem?_eq_getElem (by omega)⟩
      obtain ⟨hk12, hy, _⟩ := hdp.2.2.2 s (List.mem_of_getElem? hs)
      have hdn2 : t.2.2 = false := by rw [hdn]; simpa using hfull
      by_cases hw : S.2.2.getD s.2.1.toNat 0 ≠ 0 ∧ S.2.2.getD s.2.1.toNat 0 ≠ ((xs[k]'(by omega)).toNat : Int) + 1
      · rw [lock1_held hst hop hs hw]; exact ⟨L, hC⟩
      · by_cases hm : t.2.1.length + 1 = d.2.length
        · rw [lock1_last hst hop hse hs hw hm]; exact ⟨_, hC.last hi ht hd (by omega) (by omega) (by omega) hk12 hy hw hm hdn2 _⟩
        · rw [lock1_more hst hop hse hs hw hm]; exact ⟨L, hC.more hi ht hd (by omega) hdn2 _⟩
theorem permsF_all : ∀ (f : Nat) (l x : List Int), l.length = f → x.Perm l → x ∈ permsF f l
  | 0, l, x, h, hp => by
    have : l = [] := List.eq_nil_of_length_eq_zero h
    subst this
    rw [List.perm_nil.1 hp]; simp [permsF]
  | f + 1, l, x, h, hp => by
    have h0 : l ≠ [] := fun e => by rw [e] at h; cases h
    simp only [permsF, if_neg h0, List.mem_flatMap, List.mem_range, List.mem_map]
    match x, hp with
    | [], hp => exact absurd (List.nil_perm.1 hp) h0
    | a :: y, hp =>
      have ha : a ∈ l := hp.mem_iff.1 (by simp)
      obtain ⟨k, hk, e⟩ := List.mem_iff_getElem.1 ha
      have hp2 : (a :: y).Perm (a :: l.eraseIdx k) := hp.trans (by have := (erase_perm l k hk).symm; rw [e] at this; exact this)
      refine ⟨k, hk, y, permsF_all f (l.eraseIdx k) y (by rw [List.length_eraseIdx_of_lt hk]; omega) (List.Perm.cons_inv hp2), ?_⟩
      rw [List.getD_eq_getElem?_getD, List.getElem?_eq_getElem hk, e]; rfl
theorem doneTo_iff (ts : List Tx) : ∀ (k : Nat), k ≤ ts.length → ∀ x : Int, x ∈ doneTo ts k ↔ ∃ (i : Nat) (t : Tx), x = i ∧ i < k ∧ ts[i]? = some t ∧ t.2.2 = true
  | 0, _, x => by simp [doneTo]
  | k + 1, hk, x => by
    have ht : ts[k]? = some (ts[k]'(by omega)) := List.getElem?_eq_getElem _
    simp only [doneTo, List.mem_append]
    rw [doneTo_iff ts k (by omega), List.getD_eq_getElem?_getD, ht]
    constructor
    · rintro (⟨i, t, e, hi, h1, h2⟩ | hm)
      · exact ⟨i, t, e, by omega, h1, h2⟩
      · split at hm
        · rename_i hd
          rw [List.mem_singleton] at hm
          exact ⟨k, _, hm, by omega, ht, hd⟩
        · simp at hm
    · rintro ⟨i, t, e, hi, h1, h2⟩
      by_cases hik : i = k
      · subst hik
        right
        rw [ht] at h1; injection h1 with h1
        rw [if_pos (by rw [Option.getD_some, h1]; exact h2), List.mem_singleton]; exact e
      · exact .inl ⟨i, t, e, by omega, h1, h2⟩
theorem lockL_eq {ms : Ds} {xs : List Int} (h : runB ms xs = true) : lockL ms xs = (lockR ms xs).1 := by simp [lockL, h]
theorem lockL_ses {ms : Ds} {xs : List Int} (h : runB ms xs = true) : ∀ t ∈ lockL ms xs, 0 ≤ t.1 ∧ t.1 ≤ 3 := fun t ht => by
  obtain ⟨_, hdb, _, _⟩ := runB_parts h
  have hf := (lockR_all h).fits
  rw [lockL_eq h] at ht
  obtain ⟨i, hi, he⟩ := List.mem_iff_getElem.1 ht
  have h1 : (lockR ms xs).1[i]? = some t := by rw [← he]; exact List.getElem?_eq_getElem hi
  have hl : i < ms.length := by rw [← hf.1]; exact hi
  have := (hf.2 i _ t (List.getElem?_eq_getElem hl) h1).1
  rw [this]
  exact (draftB_parts (hdb _ (List.getElem_mem hl))).2.2.1
/-- The history of a run with locks is valid, and a serial order is found. -/
theorem lockL_serial {ms : Ds} {xs : List Int} (h : runB ms xs = true) : histB (lockL ms xs) = true ∧ 0 < ((permsL (doneL (lockL ms xs))).filter (runsF (lockL ms xs) [0, 0, 0])).length := by
  obtain ⟨L, hC⟩ := lockR_order h xs.length (Nat.le_refl _)
  rw [List.take_length] at hC
  have hI := lockR_all h
  have hv : histB (lockL ms xs) = true := by
    have hok : OpsOk (lockL ms xs) := by
      rw [lockL_eq h]
      exact fun n t ht j o ho => ⟨hI.ops n t ht o (List.mem_of_getElem? ho), hC.vals n t ht j o ho⟩
    exact hok.valid (lockL_four ms xs) (lockL_ses h)
  refine ⟨hv, ?_⟩
  rw [lockL_eq h]
  have hp : L.Perm (doneL (lockR ms xs).1) := by
    rw [List.perm_ext_iff_of_nodup hC.nodup (doneL_nodup _)]
    intro x
    rw [hC.mem]
    unfold doneL
    rw [doneTo_iff _ _ (Nat.le_refl _)]
    constructor
    · rintro ⟨i, t, e, h1, h2⟩; exact ⟨i, t, e, (List.getElem?_eq_some_iff.1 h1).1, h1, h2⟩
    · rintro ⟨i, t, e, _, h1, h2⟩; exact ⟨i, t, e, h1, h2⟩
  have hm : L ∈ (permsL (doneL (lockR ms xs).1)).filter (runsF (lockR ms xs).1 [0, 0, 0]) := by
    refine List.mem_filter.2 ⟨permsF_all _ _ _ rfl hp, ?_⟩
    rw [runsF_st, hC.runs]; rfl
  exact List.length_pos_of_mem hm

end Go.Proofs.YtieecneknljmdaaDoor
