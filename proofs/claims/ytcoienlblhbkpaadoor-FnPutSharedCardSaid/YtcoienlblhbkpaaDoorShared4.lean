/- setOf: bits of ascending numbers. -/
import Derived.Test.YtcoienlblhbkpaaDoorShared3
namespace Go.Proofs.YtcoienlblhbkpaaDoor
open Go.RowKit

def orBit (acc x : Int) : Int := bits .or .u64 acc (IntKind.u64.wrap (2 ^ x.toNat))
def setL : Int → Int → List Int → Int × Bool
  | _, acc, [] => (acc, true)
  | last, acc, x :: xs => if inB x (last + 1) 30 then setL x (orBit acc x) xs else (0, false)
theorem setL_step {last acc x : Int} {xs : List Int} {k : Nat} (hx : xs[k]? = some x) (h : inB x (last + 1) 30 = true) : setL last acc (xs.drop k) = setL x (orBit acc x) (xs.drop (k + 1)) := by
  obtain ⟨hk, e⟩ := List.getElem?_eq_some_iff.1 hx
  rw [List.drop_eq_getElem_cons hk, e]; simp [setL, h]
theorem setL_stop {last acc x : Int} {xs : List Int} {k : Nat} (hx : xs[k]? = some x) (h : inB x (last + 1) 30 = false) : setL last acc (xs.drop k) = (0, false) := by
  obtain ⟨hk, e⟩ := List.getElem?_eq_some_iff.1 hx
  rw [List.drop_eq_getElem_cons hk, e]; simp [setL, h]

set_option maxHeartbeats 4000000 in
theorem setOf_c {v : Value} {n : Nat} {xs : List Int} {w : World} (hs : SI w v n xs) :
    Calls Tryd.prog 63 #[v] w fun e w' => e = .returned (.tuple #[.int .u64 (setL (-1) 0 xs).1, .bool (setL (-1) 0 xs).2]) ∧ w = w' := by
  obtain ⟨A, c, rfl, hnc, hn, hr⟩ := hs
  have hl := hide hr.len
  go_enter Tryd.func63, Tryd.ntmps63
  go_wp2
  go_loop [4, 5, 10] (fun s l i => ∃ (k : Nat) (acc last : Int), k ≤ n ∧ i = .int .i64 k ∧ s = .int .u64 acc ∧ l = .int .i64 last ∧ -1 ≤ last ∧ last ≤ 30 ∧ setL (-1) 0 xs = setL last acc (xs.drop k)) (fun _ _ i => n - (intOf i).toNat)
  case atStart => exact ⟨0, 0, -1, Nat.zero_le _, rfl, rfl, rfl, by omega, by omega, rfl⟩
  case round =>
    obtain ⟨k, acc, last, hk, rfl, rfl, rfl, hl0, hl1, hall⟩ := hrel
    have Hall := hide hall; clear hall
    by_cases hlt : k < n
    · obtain ⟨b, off, x, rfl, hb, hx, hc⟩ := hr.at_ hlt
      have Hx := hide hx; clear hx
      cases hv : inB x (last + 1) 30
      · have Hv := hide hv; clear hv
        go_wp2_with (go_at_call 50; refine (within_c).mono ?_; rintro e w' ⟨rfl, rfl⟩; rw [Hv.out])
        exact bodyPost_ret (v := .tuple #[.int .u64 0, .bool false]) (by simp [results, Tryd.results63, go_sem]) rfl ⟨by rw [Hall.out, setL_stop Hx.out Hv.out], rfl⟩
      · have hv' := (inB_iff _ _ _).1 hv
        have hx0 : 0 ≤ x := by omega
        have hx1 : x ≤ 64 := by omega
        have Hv := hide hv; clear hv
        go_wp2_with (go_at_call 50; refine (within_c).mono ?_; rintro e w' ⟨rfl, rfl⟩; rw [Hv.out])
        go_round
        case rel => exact ⟨k + 1, _, x, by omega, by go_num, rfl, rfl, by omega, by omega, by rw [Hall.out, setL_step Hx.out Hv.out]; rfl⟩
        case measure => simp [intOf]; omega
    · go_wp2
      obtain rfl : k = n := by omega
      have h1 := Hall.out
      rw [List.drop_of_length_le (by rw [hl.out]; omega)] at h1
      exact bodyPost_ret (v := .tuple #[.int .u64 acc, .bool true]) (by simp [results, Tryd.results63, go_sem]) rfl ⟨by rw [h1]; rfl, rfl⟩

end Go.Proofs.YtcoienlblhbkpaaDoor
