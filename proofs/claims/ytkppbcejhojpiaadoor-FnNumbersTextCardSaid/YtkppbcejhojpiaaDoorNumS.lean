/- The reference's l1Number, NumbersText. -/
import Derived.Test.YtkppbcejhojpiaaDoorNumP
import Derived.Test.YtkppbcejhojpiaaDoorInts
import Derived.Laws.IdiomStrings
import Derived.Laws.Concat
import Derived.Deep.DeepCutAuto
namespace Go.Proofs.YtkppbcejhojpiaaDoor
open Go.RowKit

/-- 'string([]byte{c})'. -/
theorem conv_one (w : World) (c : UInt8) : (convert 27 9 (.slice (some ⟨w.heap.size, 0, none⟩) 1 1)).run Tryd.prog (w.alloc (.cells #[.int .u8 (c.toNat : Int)] 5)) = .ok (.string (str [c])) (w.alloc (.cells #[.int .u8 (c.toNat : Int)] 5)) :=
  run_convert_bytes_back (P := Tryd.prog) _ 27 9 5 ⟨w.heap.size, 0, none⟩ 1 [c] Tryd.underlying27 Tryd.underlying5 Tryd.underlying9 (fun j hj => by
    match j, hj with
    | 0, _ => exact (Blk.new w 5 #[.int .u8 (c.toNat : Int)]).cell 0)
def dg (n : Nat) : UInt8 := UInt8.ofNat (48 + n % 10)
theorem dg_val (n : Nat) : ((dg n).toNat : Int) = 48 + (n : Int) % 10 := by
  unfold dg
  have : (UInt8.ofNat (48 + n % 10)).toNat = 48 + n % 10 := by simp; omega
  rw [this]; omega

theorem conv_dg (w : World) (m : Nat) : (convert 27 9 (.slice (some ⟨w.heap.size, 0, none⟩) 1 1)).run Tryd.prog (w.alloc (.cells #[.int .u8 (48 + (m : Int) % 10)] 5)) = .ok (.string (str [dg m])) (w.alloc (.cells #[.int .u8 (48 + (m : Int) % 10)] 5)) := by
  have := conv_one w (dg m)
  rwa [dg_val] at this
set_option maxRecDepth 100000 in
set_option maxHeartbeats 4000000 in
theorem l1Number_c {n : Nat} {w : World} (hn : n ≤ 1000) :
    Calls Tryd.prog 12 #[.int .i64 (n : Int)] w fun e w' => e = .returned (.string (str (digs n))) ∧ Below w.heap.size w w' := by
  have k1 := conv_dg w n
  have B1 := hide ((Below.refl _ w).alloc (Nat.le_refl _) (.cells #[.int .u8 (48 + (n : Int) % 10)] 5))
  have T0 := hide (TailTo.zero n)
  go_enter Tryd.func12, Tryd.ntmps12
  go_wp2_with fail
  go_loopw [0, 3] (fun i v wr => ∃ (m : Nat) (s : List UInt8), i = .int .i64 (m : Int) ∧ v = .string (str s) ∧ m ≤ 1000 ∧ s.length + m ≤ 1001 ∧ TailTo n m s ∧ Below w.heap.size w wr) (fun i _ _ => (intOf i).toNat)
  case atStart => exact ⟨n, [dg n], rfl, rfl, hn, by simp; omega, T0.out, B1.out⟩
  case round =>
    clear k1 B1 T0
    obtain ⟨m, s, rfl, rfl, hm, hs, hT, bw⟩ := hrel
    have HT := hide hT; have BW := hide bw; clear hT bw
    by_cases h9 : 9 < m
    · have h9' : (9 : Int) < m := by omega
      have k1 := conv_dg wr (m / 10)
      simp only [Int.natCast_ediv, Int.cast_ofNat_Int] at k1
      have s1 := fun W : World => run_string_add_sum (P := Tryd.prog) (w := W) (str [dg (m / 10)]) (str s) (by rw [str_size, str_size]; simp; omega)
      have st := HT.out.step h9
      have ST := hide st
      have B2 := hide (below_step BW.out ((Below.refl _ wr).alloc (Nat.le_refl _) (.cells #[.int .u8 (48 + (m : Int) / 10 % 10)] 5)))
      clear st
      go_wp2_with fail
      go_roundw
      case rel => exact ⟨m / 10, _, by go_num, by rw [str_add]; rfl, by omega, by simp; omega, ST.out, B2.out⟩
      case measure => simp [intOf]; omega
    · have h9' : ¬ (9 : Int) < m := by omega
      have hd := HT.out.done h9
      have HD := hide hd; clear hd
      go_wp2_with fail
      go_ret
      exact ⟨by rw [HD.out]; rfl, BW.out⟩

set_option maxRecDepth 100000 in
set_option maxHeartbeats 4000000 in
theorem spec_NumbersText_c {v : Value} {n : Nat} {xs : List Int} {w : World} (hs : SI w v n xs) :
    Calls Tryd.prog 5 #[v] w fun e w' => e = .returned (.string (str (textL xs))) ∧ Below w.heap.size w w' := by
  obtain ⟨A, c, rfl, hnc, hn, hr⟩ := hs
  have hl := hide hr.len
  go_enter Tryd.func5, Tryd.ntmps5
  go_wp2_with fail
  go_loopw [3, 4] (fun v i wr => ∃ k : Nat, i = .int .i64 k ∧ k ≤ n ∧ v = .string (str (textTo xs k)) ∧ (xs.take k).all (fun x => inB x 0 1000) = true ∧ Below w.heap.size w wr) (fun _ i _ => n - (intOf i).toNat)
  case atStart => exact ⟨0, rfl, Nat.zero_le _, rfl, by simp, Below.refl _ _⟩
  case round =>
    obtain ⟨k, rfl, hk, rfl, hall, bw⟩ := hrel
    have HALL := hide hall; have BW := hide bw; clear hall bw
    by_cases hkn : k < n
    · obtain ⟨b, off, x, rfl, hbb, hx, hc⟩ := hr.at_ hkn
      have HX := hide hx
      have q0 := (BW.out.cell (p := ⟨b, off + k, none⟩) hbb).trans hc
      have k0 : (0 : Int) ≤ k := by omega
      have k2 : (k : Int) < n := by omega
      clear hx
      cases hv : inB x 0 1000
      · have hf := numB_no HX.out hv
        have F := hide hf; have HV := hide hv; clear hf hv
        go_wp2_with (go_at_call 11; refine (l1In_c).mono ?_; rintro e w' ⟨rfl, rfl⟩; rw [HV.out])
        go_ret
        exact ⟨by rw [F.out]; rfl, BW.out⟩
      · have hsn := all_snoc HALL.out HX.out hv
        have HSN := hide hsn; have HV := hide hv
        have hi := (inB_iff _ _ _).1 hv
        obtain ⟨y, rfl⟩ : ∃ y : Nat, x = y := ⟨x.toNat, by omega⟩
        have hy : y ≤ 1000 := by omega
        have hlen := textTo_len k HALL.out (by rw [hl.out]; omega)
        have hd := digs_len 3 y (by omega)
        have hst := textTo_succ HX.out
        have HST := hide hst
        clear hsn hv hi hst
        have s1 := fun W : World => run_string_add_sum (P := Tryd.prog) (w := W) (str (textTo xs k)) ⟨#[32]⟩ (by rw [str_size]; show _ + 1 ≤ _; omega)
        have s2 := fun W : World => run_string_add_sum (P := Tryd.prog) (w := W) (str (textTo xs k)) (str (digs y)) (by rw [str_size, str_size]; omega)
        have s3 := fun W : World => run_string_add_sum (P := Tryd.prog) (w := W) (str (textTo xs k) ++ ⟨#[32]⟩) (str (digs y)) (by rw [show (⟨#[32]⟩ : ByteArray) = str [32] from rfl, str_add, str_size, str_size]; simp; omega)
        by_cases hk0 : 0 < k
        · have hk0' : (0 : Int) < k := by omega
          go_wp2_with (go_at_call 11; refine (l1In_c).mono ?_; rintro e w' ⟨rfl, rfl⟩; rw [HV.out])
          refine (l1Number_c hy).mono ?_
          rintro e w2 ⟨rfl, b2⟩
          have B2 := hide (below_step BW.out b2); clear b2
          go_wp2_with fail
          go_roundw
          case rel => exact ⟨k + 1, by go_num, by omega, by rw [HST.out, if_pos hk0, show (⟨#[32]⟩ : ByteArray) = str [32] from rfl, str_add, str_add, List.append_assoc]; rfl, HSN.out, B2.out⟩
          case measure => simp [intOf]; omega
        · have hk0' : ¬ (0 : Int) < k := by omega
          go_wp2_with (go_at_call 11; refine (l1In_c).mono ?_; rintro e w' ⟨rfl, rfl⟩; rw [HV.out])
          refine (l1Number_c hy).mono ?_
          rintro e w2 ⟨rfl, b2⟩
          have B2 := hide (below_step BW.out b2); clear b2
          go_wp2_with fail
          go_roundw
          case rel => exact ⟨k + 1, by go_num, by omega, by rw [HST.out, if_neg hk0, str_add, List.nil_append]; rfl, HSN.out, B2.out⟩
          case measure => simp [intOf]; omega
    · obtain rfl : k = n := by omega
      have hf : textL xs = textTo xs k := by
        have := numB_yes (xs := xs) (by rw [hl.out]; exact HALL.out)
        rw [this, hl.out]
      have F := hide hf; clear hf
      go_wp2_with fail
      go_ret
      exact ⟨by rw [F.out]; rfl, BW.out⟩

end Go.Proofs.YtkppbcejhojpiaaDoor
