/- Shared sets, the program's side: InShared, PutShared, TakeShared, JoinShared. -/
import Derived.Test.YtcoienlblhbkpaaDoorMemb
import Derived.Test.YtcoienlblhbkpaaDoorShr
import Derived.Test.YtcoienlblhbkpaaDoorShared9
namespace Go.Proofs.YtcoienlblhbkpaaDoor
open Go.RowKit

set_option maxHeartbeats 2000000 in
theorem sharedOf_c {q r : Nat} {w : World} (hq : q < 2 ^ 31) (hr : r < 2 ^ 31) (hT : Tab w) :
    Calls Tryd.prog 51 #[.int .u64 (q : Int), .int .u64 (r : Int)] w (RetP w (memL q) (memL r)) := by
  have B0 : Below w.heap.size w (w.alloc (.cells #[.slice none 0 0, .slice none 0 0] 27)) := (Below.refl _ _).alloc (Nat.le_refl _) _
  have K0 := Blk.new w 27 #[.slice none 0 0, .slice none 0 0]
  go_enter Tryd.func51, Tryd.ntmps51
  go_wp2_with fail
  refine (members_c hq (hT.alloc _)).mono ?_
  rintro e w1 ⟨v1, k1, rfl, o1, b1⟩
  obtain ⟨A1, c1, rfl⟩ := o1.shape
  have B1 := below_step B0 b1
  go_wp2_with fail
  refine (members_c hr (hT.below B1)).mono ?_
  rintro e w2 ⟨v2, k2, rfl, o2, b2⟩
  obtain ⟨A2, c2, rfl⟩ := o2.shape
  have B2 := below_step B1 b2
  have K2 := (K0.belowAll b1).belowAll b2
  obtain ⟨p0, p1, p2, p3⟩ := K2.two
  go_wp2_with fail
  have Kf := (K2.set_ 0 (.slice A1 k1 c1)).set_ 1 (.slice A2 k2 c2)
  obtain ⟨t0, t1, _, _⟩ := Kf.two
  have hz1 := b1.size
  simp only [World.size_alloc] at hz1
  refine bodyPost_ret (v := .agg #[.slice A1 k1 c1, .slice A2 k2 c2]) (by simp [results, Tryd.results51, go_sem, t0, t1]) rfl ⟨A1, k1, c1, A2, k2, c2, rfl, ?_, ?_, OI.apart o1 o2, ?_⟩
  · exact (((o1.below b2).set_low (by simp) _).set_low (by simp) _).mono (by simp)
  · exact ((o2.set_low (by simp; omega) _).set_low (by simp; omega) _).mono (by omega)
  · exact (B2.setCell (by simp) _).setCell (by simp) _

set_option maxHeartbeats 2000000 in
theorem impl_InShared_c {u v : Value} {n m : Nat} {xs ys : List Int} {w : World} (hu : SI w u n xs) (hv : SI w v m ys) (hT : Tab w) :
    Calls Tryd.prog 15 #[.agg #[u, v]] w (RetI w (inL xs ys)) := by
  obtain ⟨A, c, rfl⟩ := hu.shape
  obtain ⟨B, d, rfl⟩ := hv.shape
  have B0 : Below w.heap.size w (w.alloc (.cells #[.slice A n c, .slice B m d] 27)) := (Below.refl _ _).alloc (Nat.le_refl _) _
  cases hs : sharedB xs ys
  · have hf : inL xs ys = [] := by simp [inL, hs]
    have S := hide hs; have F := hide hf; clear hs hf
    go_enter Tryd.func15, Tryd.ntmps15
    go_wp2_with fail
    refine (sets_c (hu.below B0) (hv.below B0)).mono ?_
    rintro e w1 ⟨rfl, b1⟩
    rw [S.out]
    have B1 := below_step B0 b1
    go_wp2_with fail
    go_ret
    rw [F.out]
    exact ⟨_, 0, rfl, OI.nil, B1⟩
  · have hf : inL xs ys = xs.filter fun x => !hasB ys x := by simp [inL, hs]
    obtain ⟨h1, h2, _⟩ := sharedB_asc hs
    obtain ⟨q, eq, lq, _, bq⟩ := set_bits h1
    obtain ⟨r, er, lr, _, br⟩ := set_bits h2
    obtain ⟨Q, e1, lQ, e2⟩ := andNot_bits lq lr bq br (asc_filter _ _ _ h1)
    rw [← e2] at hf
    have S := hide hs; have F := hide hf; have Eq := hide eq; have Er := hide er; have E1 := hide e1; clear hs hf eq er e1 e2 h1 h2 bq br
    go_enter Tryd.func15, Tryd.ntmps15
    go_wp2_with fail
    refine (sets_c (hu.below B0) (hv.below B0)).mono ?_
    rintro e w1 ⟨rfl, b1⟩
    rw [S.out, Eq.out, Er.out]
    have B1 := below_step B0 b1
    go_wp2_with fail
    rw [E1.out]
    refine (members_c lQ (hT.below B1)).mono ?_
    rintro e w2 ⟨v2, k2, rfl, o2, b2⟩
    go_wp2_with fail
    go_ret
    rw [F.out]
    exact ⟨_, _, rfl, o2.mono B1.size, below_step B1 b2⟩

end Go.Proofs.YtcoienlblhbkpaaDoor
