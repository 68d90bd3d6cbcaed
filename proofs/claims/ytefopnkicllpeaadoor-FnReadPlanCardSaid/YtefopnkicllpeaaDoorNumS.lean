/- The reference's l1Number, NumbersText. -/
import Derived.Test.YtefopnkicllpeaaDoorNumP
import Derived.Test.YtefopnkicllpeaaDoorInts
import Derived.Laws.IdiomStrings
import Derived.Laws.Concat
import Derived.Deep.DeepCutAuto
namespace Go.Proofs.YtefopnkicllpeaaDoor
open Go.RowKit

/-- 'string([]byte{c})'. -/
theorem conv_one (w : World) (c : UInt8) : (convert 28 9 (.slice (some ⟨w.heap.size, 0, none⟩) 1 1)).run Tryd.prog (w.alloc (.cells #[.int .u8 (c.toNat : Int)] 5)) = .ok (.string (str [c])) (w.alloc (.cells #[.int .u8 (c.toNat : Int)] 5)) :=
  run_convert_bytes_back (P := Tryd.prog) _ 28 9 5 ⟨w.heap.size, 0, none⟩ 1 [c] Tryd.underlying28 Tryd.underlying5 Tryd.underlying9 (fun j hj => by
    match j, hj with
    | 0, _ => exact (Blk.new w 5 #[.int .u8 (c.toNat : Int)]).cell 0)
def dg (n : Nat) : UInt8 := UInt8.ofNat (48 + n % 10)
theorem dg_val (n : Nat) : ((dg n).toNat : Int) = 48 + (n : Int) % 10 := by
  unfold dg
  have : (UInt8.ofNat (48 + n % 10)).toNat = 48 + n % 10 := by simp; omega
  rw [this]; omega

theorem conv_dg (w : World) (m : Nat) : (convert 28 9 (.slice (some ⟨w.heap.size, 0, none⟩) 1 1)).run Tryd.prog (w.alloc (.cells #[.int .u8 (48 + (m : Int) % 10)] 5)) = .ok (.string (str [dg m])) (w.alloc (.cells #[.int .u8 (48 + (m : Int) % 10)] 5)) := by
  have := conv_one w (dg m)
  rwa [dg_val] at this
set_option maxRecDepth 100000 in
set_option maxHeartbeats 4000000 in
theorem l1Number_c {n : Nat} {w : World} (hn : n ≤ 1000) :
    Calls Tryd.prog 37 #[.int .i64 (n : Int)] w fun e w' => e = .returned (.string (str (digs n))) ∧ Below w.heap.size w w' := by
  have k1 := conv_dg w n
  have B1 := hide ((Below.refl _ w).alloc (Nat.le_refl _) (.cells #[.int .u8 (48 + (n : Int) % 10)] 5))
  have T0 := hide (TailTo.zero n)
  go_enter Tryd.func37, Tryd.ntmps37
  go_wp2_with fail
  go_loopw [0, 3] (fun i v wr => ∃ (m : Nat) (s : List UInt8), i = .int .i64 (m : Int) ∧ v = .string (str s) ∧ m ≤ 1000 ∧ s.length + m ≤ 1001 ∧ TailTo n m s ∧ Below w.heap.size w wr) (fun i _ _ => (intOf i).toNat)
  case atStart => exact ⟨n, [dg n], rfl, rfl, hn, by simp; omega, T0.out, B1.out⟩
  case round =>
    clear k1 B1 T0
    obtain ⟨m, s, rfl, rfl, hm, hs, hT, bw⟩ := hrel
    have HT := hide hT; have BW := hide bw; clear hT bw
    by_cases h9 : 9 < m
    · have h9' : (9 : Int) < m := by omega
      have k1 := conv_dg wr (m / 10)
      simp only [Int.natCast_ediv, Int.cast_ofNat_Int] at k1
      have s1 := fun W : World => run_string_add_sum (P := Tryd.prog) (w := W) (str [dg (m / 10)]) (str s) (by rw [str_size, str_size]; simp; omega)
      have st := HT.out.step h9
      have ST := hide st
      have B2 := hide (below_step BW.out ((Below.refl _ wr).alloc (Nat.le_refl _) (.cells #[.int .u8 (48 + (m : Int) / 10 % 10)] 5)))
      clear st
      go_wp2_with fail
      go_roundw
      case rel => exact ⟨m / 10, _, by go_num, by rw [str_add]; rfl, by omega, by simp; omega, ST.out, B2.out⟩
      case measure => simp [intOf]; omega
    · have h9' : ¬ (9 : Int) < m := by omega
      have hd := HT.out.done h9
      have HD := hide hd; clear hd
      go_wp2_with fail
      go_ret
      exact ⟨by rw [HD.out]; rfl, BW.out⟩


end Go.Proofs.YtefopnkicllpeaaDoor
