/- sets, the program's SharedValid. -/
import Derived.Test.YtcoienlblhbkpaaDoorShared7
namespace Go.Proofs.YtcoienlblhbkpaaDoor
open Go.RowKit

set_option maxHeartbeats 4000000 in
theorem sets_c {u v : Value} {n m : Nat} {xs ys : List Int} {w : World} (hu : SI w u n xs) (hv : SI w v m ys) :
    Calls Tryd.prog 45 #[.agg #[u, v]] w fun e w' => e = .returned (.tuple #[.int .u64 (setL (-1) 0 xs).1, .int .u64 (setL (-1) 0 ys).1, .bool (sharedB xs ys)]) ∧ Below w.heap.size w w' := by
  obtain ⟨A, c, rfl⟩ := hu.shape
  obtain ⟨B, d, rfl⟩ := hv.shape
  have hu' := hu.alloc (.cells #[.slice A n c, .slice B m d] 27)
  have hv' := hv.alloc (.cells #[.slice A n c, .slice B m d] 27)
  have hb : Below w.heap.size w (w.alloc (.cells #[.slice A n c, .slice B m d] 27)) := (Below.refl _ _).alloc (Nat.le_refl _) _
  have K := Blk.new w 27 #[.slice A n c, .slice B m d]
  have hs : sharedB xs ys = (ascB (-1) xs && (ascB (-1) ys && (bits .andNot .u64 (setL (-1) 0 ys).1 (setL (-1) 0 xs).1 == 0))) := by
    cases h1 : ascB (-1) xs
    · simp [sharedB, h1]
    · cases h2 : ascB (-1) ys
      · simp [sharedB, h2]
      · rw [sharedB_sets h1 h2]; simp
  have e1 := setL_ok xs (-1) 0
  have e2 := setL_ok ys (-1) 0
  generalize hp : setL (-1) 0 xs = P at *
  generalize hq : setL (-1) 0 ys = Q at *
  obtain ⟨p1, p2⟩ := P
  obtain ⟨q1, q2⟩ := Q
  dsimp only at e1 e2 hs ⊢
  subst e1; subst e2
  have HP := hide hp; have HQ := hide hq; have S := hide hs; clear hp hq hs
  cases h1 : ascB (-1) xs <;> cases h2 : ascB (-1) ys
  all_goals
    have H1 := hide h1; have H2 := hide h2; clear h1 h2
    go_enter Tryd.func45, Tryd.ntmps45
    go_wp2_with fail
    refine (setOf_c hu').mono ?_
    rintro e w' ⟨rfl, rfl⟩
    rw [HP.out]
    rw [H1.out]
    have c1 : (w.alloc (.cells #[.slice A n c, .slice B m d] 27)).cell? ⟨w.heap.size, 1, none⟩ = some (.slice B m d) := K.cell 1
    go_wp2_with fail
    refine (setOf_c hv').mono ?_
    rintro e w' ⟨rfl, rfl⟩
    rw [HQ.out]
    rw [H2.out]
    go_wp2_with fail
    exact bodyPost_ret (v := .tuple #[.int .u64 p1, .int .u64 q1, .bool _]) (by simp [results, Tryd.results45, go_sem]; rfl) rfl ⟨by rw [S.out, H1.out, H2.out]; first | rfl | simp, hb⟩

end Go.Proofs.YtcoienlblhbkpaaDoor
