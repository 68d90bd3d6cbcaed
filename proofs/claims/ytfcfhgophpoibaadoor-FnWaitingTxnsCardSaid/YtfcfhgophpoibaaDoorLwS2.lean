/- The reference's LastWrites. -/
import Derived.Test.YtfcfhgophpoibaaDoorLwS
namespace Go.Proofs.YtfcfhgophpoibaaDoor
open Go.RowKit

/-- A new slice of ops. -/
def RetO (w : World) (ts : List T3) (e : Ending) (w' : World) : Prop := ∃ r k, e = .returned r ∧ O3 53 w' w.heap.size r k ts ∧ Below w.heap.size w w'
set_option maxRecDepth 100000 in
set_option maxHeartbeats 8000000 in
theorem spec_LastWrites_c {v : Value} {m : Nat} {ys : List T3} {f : Int} {dn : Bool} {w : World} (hv : S3 w v m ys) (hok : txnB (f, ys, dn) = true) :
    Calls Tryd.prog 44 #[.agg #[.int .i64 f, v, .bool dn]] w (RetO w (lastW ys)) := by
  have sv := hv
  obtain ⟨A, c, rfl, hnc, hm, hr⟩ := hv
  have hl := hide hr.len
  have Hok := hide hok; clear hok
  have B0 : Below w.heap.size w ((w.alloc (.cells #[.int .i64 f, .slice A m c, .bool dn] 35)).alloc (.cells #[] 53)) := ((Below.refl _ _).alloc (Nat.le_refl _) _).alloc (by simp) _
  have K0 := (Blk.new w 35 #[.int .i64 f, .slice A m c, .bool dn]).alloc (.cells #[] 53)
  have o0 := (O3.empty 53 (w.alloc (.cells #[.int .i64 f, .slice A m c, .bool dn] 35)))
  simp only [World.size_alloc] at o0
  go_enter Tryd.func44, Tryd.ntmps44
  go_wp2_with fail
  go_loopw [3, 4] (fun s i wr => ∃ q : Nat, i = .int .i64 q ∧ q ≤ 3 ∧ O3 53 wr (w.heap.size + 1) s (lastTo ys q).length (lastTo ys q) ∧ Blk wr w.heap.size 35 #[.int .i64 f, .slice A m c, .bool dn] ∧ Below w.heap.size w wr) (fun _ i _ => 3 - (intOf i).toNat)
  case atStart => exact ⟨0, rfl, by omega, o0, K0, B0⟩
  case round =>
    clear B0 K0 o0
    obtain ⟨q, rfl, hq, ho, KR, bw⟩ := hrel
    have hlen := lastTo_len ys q
    obtain ⟨Ao, co, rfl⟩ := ho.shape
    by_cases hq3 : q < 3
    · have hq0 : (0 : Int) ≤ q := by omega
      have hq2 : (q : Int) ≤ 2 := by omega
      obtain ⟨g0, g1, g2⟩ := KR.three
      go_wp2_with fail
      refine (spec_TxnValid_c (sv.below bw)).mono ?_
      rintro e w2 ⟨rfl, b2⟩
      rw [Hok.out]
      have B2 := below_step bw b2
      replace ho := ho.below b2
      replace KR := KR.belowAll b2
      clear g0 g1 g2
      obtain ⟨g0, g1, g2⟩ := KR.three
      have hz2 : w.heap.size + 1 ≤ w2.heap.size := KR.lt
      have HKR := hide KR; have HO := hide ho
      clear KR ho
      go_wp2_with fail
      go_loopw [3, 5] (fun s i wr => s = .slice Ao (lastTo ys q).length co ∧ ∃ k : Nat, k ≤ m ∧ i = .int .i64 ((k : Int) - 1) ∧ NoneK ys q k ∧ wr = w2) (fun _ i _ => (intOf i + 1).toNat)
      case atStart => exact ⟨rfl, m, Nat.le_refl _, rfl, by have := NoneK.start (ys := ys) (key := q); rw [hl.out] at this; exact this, rfl⟩
      case round =>
        obtain ⟨rfl, k, hk, rfl, hno, rfl⟩ := hrel
        have Hno := hide hno; clear hno
        cases k with
        | zero =>
          have hf : lastTo ys (q + 1) = lastTo ys q := by rw [lastTo_succ, Hno.out.none_]; simp
          have F := hide hf; clear hf
          go_wp2_with fail
          go_roundw
          case rel => exact ⟨q + 1, by go_num, by omega, by rw [F.out]; exact HO.out, HKR.out, B2⟩
          case measure => simp [intOf]; omega
        | succ j =>
          obtain ⟨b, off, x, y, z, rfl, hbb, hx, p0, p1, p2⟩ := hr.at_ (show j < m by omega)
          have a0 := (B2.cell (p := ⟨b, off + j * 3, none⟩) hbb).trans p0
          have a1 := (B2.cell (p := ⟨b, off + j * 3 + 1, none⟩) hbb).trans p1
          have a2 := (B2.cell (p := ⟨b, off + j * 3 + 2, none⟩) hbb).trans p2
          have Hx := hide hx
          clear hx p0 p1 p2
          have j0 : (0 : Int) ≤ j := by omega
          have j2 : (j : Int) < m := by omega
          have hjj : ((j + 1 : Nat) : Int) - 1 = j := by omega
          rw [hjj]
          clear hjj
          by_cases hxy : x = 2 ∧ y = q
          · obtain ⟨rfl, rfl⟩ := hxy
            have hf : lastTo ys (q + 1) = lastTo ys q ++ [(2, (q : Int), z)] := by rw [lastTo_succ, Hno.out.found Hx.out ⟨rfl, rfl⟩]; rfl
            have F := hide hf; clear hf
            have KN := Blk.new wr 53 #[.int .i64 2, .int .i64 (q : Int), .int .i64 z]
            have o4 := HO.out.alloc (.cells #[.int .i64 2, .int .i64 (q : Int), .int .i64 z] 53)
            have B4 : Below w.heap.size w (wr.alloc (.cells #[.int .i64 2, .int .i64 (q : Int), .int .i64 z] 53)) := B2.alloc B2.size _
            have hz4 : w.heap.size + 1 ≤ (wr.alloc (.cells #[.int .i64 2, .int .i64 (q : Int), .int .i64 z] 53)).heap.size := by simp; omega
            have K4 := HKR.out.alloc (.cells #[.int .i64 2, .int .i64 (q : Int), .int .i64 z] 53)
            have hln : (lastTo ys q).length + 1 ≤ 1048576 := by omega
            go_wp2_with (at_builtin; refine wpList_app3 rfl _ _ rfl Tryd.underlying33 infoOpz rfl o4 rfl (S3.one KN (Nat.le_refl _)) hln hz4 ?_; intro v1 w4 h4 hg4 hat; have K5 := K4.grown hg4 (o4.far (by omega)); have B5 := below_app3 B4 o4 (by omega) hg4)
            go_roundw
            case rel => exact ⟨q + 1, by go_num, by omega, by rw [F.out, List.length_append]; exact h4, K5, B5⟩
            case measure => simp [intOf]; omega
          · have hq' := Hno.out.step Hx.out hxy
            have F := hide hq'
            clear hq'
            by_cases hx2 : x = 2
            · subst hx2
              have hyb : (y == (q : Int)) = false := by simpa using hxy
              clear hxy
              go_wp2_with fail
              go_roundw
              case rel => exact ⟨rfl, j, by omega, by go_num, F.out, trivial⟩
              case measure => simp [intOf]
            · have hxb : (x == 2) = false := by simpa using hx2
              clear hxy hx2
              go_wp2_with fail
              go_roundw
              case rel => exact ⟨rfl, j, by omega, by go_num, F.out, trivial⟩
              case measure => simp [intOf]
    · obtain rfl : q = 3 := by omega
      go_wp2_with fail
      go_ret
      refine ⟨_, (lastTo ys 3).length, rfl, ?_, bw⟩
      rw [← lastTo_three]
      exact ho.mono (by omega)

end Go.Proofs.YtfcfhgophpoibaaDoor
