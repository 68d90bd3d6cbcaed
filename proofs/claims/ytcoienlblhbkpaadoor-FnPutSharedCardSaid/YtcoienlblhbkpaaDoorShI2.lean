/- Shared sets, the program's side: PutShared, TakeShared, JoinShared. -/
import Derived.Test.YtcoienlblhbkpaaDoorShI
namespace Go.Proofs.YtcoienlblhbkpaaDoor
open Go.RowKit

set_option maxHeartbeats 4000000 in
theorem impl_PutShared_c {u v : Value} {n m : Nat} {xs ys : List Int} {x : Int} {w : World} (hu : SI w u n xs) (hv : SI w v m ys) (hT : Tab w) :
    Calls Tryd.prog 22 #[.agg #[u, v], .int .i64 x] w (RetP w (psU xs ys x) (psD xs ys x)) := by
  obtain ⟨A, c, rfl⟩ := hu.shape
  obtain ⟨B, d, rfl⟩ := hv.shape
  have B0 : Below w.heap.size w ((w.alloc (.cells #[.slice A n c, .slice B m d] 27)).alloc (.cells #[.slice none 0 0, .slice none 0 0] 27)) := ((Below.refl _ _).alloc (Nat.le_refl _) _).alloc (by simp) _
  have K0 := Blk.new (w.alloc (.cells #[.slice A n c, .slice B m d] 27)) 27 #[.slice none 0 0, .slice none 0 0]
  simp only [World.size_alloc] at K0
  cases hs : sharedB xs ys
  · have f1 : psU xs ys x = [] := by simp [psU, hs]
    have f2 : psD xs ys x = [] := by simp [psD, hs]
    have S := hide hs; have F1 := hide f1; have F2 := hide f2; clear hs f1 f2
    go_enter Tryd.func22, Tryd.ntmps22
    go_wp2_with fail
    refine (sets_c (hu.below B0) (hv.below B0)).mono ?_
    rintro e w1 ⟨rfl, b1⟩
    rw [S.out]
    have B1 := below_step B0 b1
    have K1 := K0.belowAll b1
    obtain ⟨p0, p1, p2, p3⟩ := K1.two
    go_wp2_with fail
    have Kf := (K1.set_ 0 (.slice none 0 0)).set_ 1 (.slice none 0 0)
    obtain ⟨t0, t1, _, _⟩ := Kf.two
    exact bodyPost_ret (v := .agg #[.slice none 0 0, .slice none 0 0]) (by simp [results, Tryd.results22, go_sem, t0, t1]) rfl ⟨none, 0, 0, none, 0, 0, rfl, by rw [F1.out]; exact OI.nil, by rw [F2.out]; exact OI.nil, .inl rfl, (B1.setCell (by simp <;> omega) _).setCell (by simp <;> omega) _⟩
  · obtain ⟨h1, h2, _⟩ := sharedB_asc hs
    obtain ⟨q, eq, lq, mq, bq⟩ := set_bits h1
    obtain ⟨r, er, lr, mr, br⟩ := set_bits h2
    cases hp : inB x 0 30
    · have f1 : psU xs ys x = [] := by simp [psU, hp]
      have f2 : psD xs ys x = [] := by simp [psD, hp]
      have S := hide hs; have F1 := hide f1; have F2 := hide f2; have Eq := hide eq; have Er := hide er; have P := hide hp; clear hs f1 f2 eq er hp h1 h2 mq mr bq br
      go_enter Tryd.func22, Tryd.ntmps22
      go_wp2_with fail
      refine (sets_c (hu.below B0) (hv.below B0)).mono ?_
      rintro e w1 ⟨rfl, b1⟩
      rw [S.out, Eq.out, Er.out]
      have B1 := below_step B0 b1
      have K1 := K0.belowAll b1
      obtain ⟨p0, p1, p2, p3⟩ := K1.two
      go_wp2_with (go_at_call 50; refine (within_c).mono ?_; rintro e w' ⟨rfl, rfl⟩; rw [P.out])
      have Kf := (K1.set_ 0 (.slice none 0 0)).set_ 1 (.slice none 0 0)
      obtain ⟨t0, t1, _, _⟩ := Kf.two
      exact bodyPost_ret (v := .agg #[.slice none 0 0, .slice none 0 0]) (by simp [results, Tryd.results22, go_sem, t0, t1]) rfl ⟨none, 0, 0, none, 0, 0, rfl, by rw [F1.out]; exact OI.nil, by rw [F2.out]; exact OI.nil, .inl rfl, (B1.setCell (by simp <;> omega) _).setCell (by simp <;> omega) _⟩
    · obtain ⟨hx0, hx1⟩ := (inB_iff _ _ _).1 hp
      obtain ⟨e1, lQ⟩ := orBit_nat (x := x) lq hx0 hx1
      unfold orBit at e1
      have e2 := or_put h1 bq hx0 hx1
      have f1 : psU xs ys x = memL (q ||| 2 ^ x.toNat) := by rw [e2]; simp [psU, hs, hp]
      have f2 : psD xs ys x = memL r := by rw [mr]; simp [psD, hs, hp]
      have S := hide hs; have F1 := hide f1; have F2 := hide f2; have Eq := hide eq; have Er := hide er; have P := hide hp; have E1 := hide e1; clear hs f1 f2 eq er hp e1 e2 h1 h2 mq mr bq br
      go_enter Tryd.func22, Tryd.ntmps22
      go_wp2_with fail
      refine (sets_c (hu.below B0) (hv.below B0)).mono ?_
      rintro e w1 ⟨rfl, b1⟩
      rw [S.out, Eq.out, Er.out]
      have B1 := below_step B0 b1
      have K1 := K0.belowAll b1
      go_wp2_with (go_at_call 50; refine (within_c).mono ?_; rintro e w' ⟨rfl, rfl⟩; rw [P.out])
      rw [E1.out]
      refine (sharedOf_c lQ lr (hT.below B1)).mono ?_
      rintro e w2 ⟨A1, k1, c1, A2, k2, c2, rfl, o1, o2, ap, b2⟩
      have hz := B1.size
      have B2 := below_step B1 b2
      have Kb := K1.belowAll b2
      obtain ⟨p0, p1, p2, p3⟩ := Kb.two
      go_wp2_with fail
      have Kf := (Kb.set_ 0 (.slice A1 k1 c1)).set_ 1 (.slice A2 k2 c2)
      obtain ⟨t0, t1, _, _⟩ := Kf.two
      have lk := K1.lt
      refine bodyPost_ret (v := .agg #[.slice A1 k1 c1, .slice A2 k2 c2]) (by simp [results, Tryd.results22, go_sem, t0, t1]) rfl ⟨A1, k1, c1, A2, k2, c2, rfl, ?_, ?_, ap, ?_⟩
      · rw [F1.out]; exact ((o1.set_low lk _).set_low lk _).mono (by omega)
      · rw [F2.out]; exact ((o2.set_low lk _).set_low lk _).mono (by omega)
      · exact (B2.setCell (by simp <;> omega) _).setCell (by simp <;> omega) _

set_option maxHeartbeats 4000000 in
theorem impl_TakeShared_c {u v : Value} {n m : Nat} {xs ys : List Int} {x : Int} {w : World} (hu : SI w u n xs) (hv : SI w v m ys) (hT : Tab w) :
    Calls Tryd.prog 25 #[.agg #[u, v], .int .i64 x] w (RetP w (tsU xs ys x) (tsD xs ys x)) := by
  obtain ⟨A, c, rfl⟩ := hu.shape
  obtain ⟨B, d, rfl⟩ := hv.shape
  have B0 : Below w.heap.size w ((w.alloc (.cells #[.slice A n c, .slice B m d] 27)).alloc (.cells #[.slice none 0 0, .slice none 0 0] 27)) := ((Below.refl _ _).alloc (Nat.le_refl _) _).alloc (by simp) _
  have K0 := Blk.new (w.alloc (.cells #[.slice A n c, .slice B m d] 27)) 27 #[.slice none 0 0, .slice none 0 0]
  simp only [World.size_alloc] at K0
  cases hs : sharedB xs ys
  · have f1 : tsU xs ys x = [] := by simp [tsU, hs]
    have f2 : tsD xs ys x = [] := by simp [tsD, hs]
    have S := hide hs; have F1 := hide f1; have F2 := hide f2; clear hs f1 f2
    go_enter Tryd.func25, Tryd.ntmps25
    go_wp2_with fail
    refine (sets_c (hu.below B0) (hv.below B0)).mono ?_
    rintro e w1 ⟨rfl, b1⟩
    rw [S.out]
    have B1 := below_step B0 b1
    have K1 := K0.belowAll b1
    obtain ⟨p0, p1, p2, p3⟩ := K1.two
    go_wp2_with fail
    have Kf := (K1.set_ 0 (.slice none 0 0)).set_ 1 (.slice none 0 0)
    obtain ⟨t0, t1, _, _⟩ := Kf.two
    exact bodyPost_ret (v := .agg #[.slice none 0 0, .slice none 0 0]) (by simp [results, Tryd.results25, go_sem, t0, t1]) rfl ⟨none, 0, 0, none, 0, 0, rfl, by rw [F1.out]; exact OI.nil, by rw [F2.out]; exact OI.nil, .inl rfl, (B1.setCell (by simp <;> omega) _).setCell (by simp <;> omega) _⟩
  · obtain ⟨h1, h2, _⟩ := sharedB_asc hs
    obtain ⟨q, eq, lq, mq, bq⟩ := set_bits h1
    obtain ⟨r, er, lr, mr, br⟩ := set_bits h2
    cases hp : inB x 0 30
    · have hno : hasB xs x = false := by
        rw [← Bool.not_eq_true]; intro hh
        have := ascB_gt xs (-1) h1 x (has_mem.1 hh)
        rw [inB_not] at hp; omega
      have f1 : tsU xs ys x = memL q := by rw [mq]; simp [tsU, hs]
      have f2 : tsD xs ys x = memL r := by rw [mr]; simp [tsD, hs, hno]
      have S := hide hs; have F1 := hide f1; have F2 := hide f2; have Eq := hide eq; have Er := hide er; have P := hide hp; clear hs f1 f2 eq er hp hno h1 h2 mq mr bq br
      go_enter Tryd.func25, Tryd.ntmps25
      go_wp2_with fail
      refine (sets_c (hu.below B0) (hv.below B0)).mono ?_
      rintro e w1 ⟨rfl, b1⟩
      rw [S.out, Eq.out, Er.out]
      have B1 := below_step B0 b1
      have K1 := K0.belowAll b1
      go_wp2_with (go_at_call 50; refine (within_c).mono ?_; rintro e w' ⟨rfl, rfl⟩; rw [P.out])
      refine (sharedOf_c lq lr (hT.below B1)).mono ?_
      rintro e w2 ⟨A1, k1, c1, A2, k2, c2, rfl, o1, o2, ap, b2⟩
      have hz := B1.size
      have B2 := below_step B1 b2
      have Kb := K1.belowAll b2
      obtain ⟨p0, p1, p2, p3⟩ := Kb.two
      go_wp2_with fail
      have Kf := (Kb.set_ 0 (.slice A1 k1 c1)).set_ 1 (.slice A2 k2 c2)
      obtain ⟨t0, t1, _, _⟩ := Kf.two
      have lk := K1.lt
      refine bodyPost_ret (v := .agg #[.slice A1 k1 c1, .slice A2 k2 c2]) (by simp [results, Tryd.results25, go_sem, t0, t1]) rfl ⟨A1, k1, c1, A2, k2, c2, rfl, ?_, ?_, ap, ?_⟩
      · rw [F1.out]; exact ((o1.set_low lk _).set_low lk _).mono (by omega)
      · rw [F2.out]; exact ((o2.set_low lk _).set_low lk _).mono (by omega)
      · exact (B2.setCell (by simp <;> omega) _).setCell (by simp <;> omega) _
    · obtain ⟨hx0, hx1⟩ := (inB_iff _ _ _).1 hp
      obtain ⟨e1, lQ, e2⟩ := or_take lq lr h2 hx0 hx1 bq br
      have f1 : tsU xs ys x = memL q := by rw [mq]; simp [tsU, hs]
      have f2 : tsD xs ys x = memL (r ||| (q &&& 2 ^ x.toNat)) := by rw [e2]; simp [tsD, hs]
      have S := hide hs; have F1 := hide f1; have F2 := hide f2; have Eq := hide eq; have Er := hide er; have P := hide hp; have E1 := hide e1; clear hs f1 f2 eq er hp e1 e2 h1 h2 mq mr bq br
      go_enter Tryd.func25, Tryd.ntmps25
      go_wp2_with fail
      refine (sets_c (hu.below B0) (hv.below B0)).mono ?_
      rintro e w1 ⟨rfl, b1⟩
      rw [S.out, Eq.out, Er.out]
      have B1 := below_step B0 b1
      have K1 := K0.belowAll b1
      go_wp2_with (go_at_call 50; refine (within_c).mono ?_; rintro e w' ⟨rfl, rfl⟩; rw [P.out])
      rw [E1.out]
      refine (sharedOf_c lq lQ (hT.below B1)).mono ?_
      rintro e w2 ⟨A1, k1, c1, A2, k2, c2, rfl, o1, o2, ap, b2⟩
      have hz := B1.size
      have B2 := below_step B1 b2
      have Kb := K1.belowAll b2
      obtain ⟨p0, p1, p2, p3⟩ := Kb.two
      go_wp2_with fail
      have Kf := (Kb.set_ 0 (.slice A1 k1 c1)).set_ 1 (.slice A2 k2 c2)
      obtain ⟨t0, t1, _, _⟩ := Kf.two
      have lk := K1.lt
      refine bodyPost_ret (v := .agg #[.slice A1 k1 c1, .slice A2 k2 c2]) (by simp [results, Tryd.results25, go_sem, t0, t1]) rfl ⟨A1, k1, c1, A2, k2, c2, rfl, ?_, ?_, ap, ?_⟩
      · rw [F1.out]; exact ((o1.set_low lk _).set_low lk _).mono (by omega)
      · rw [F2.out]; exact ((o2.set_low lk _).set_low lk _).mono (by omega)
      · exact (B2.setCell (by simp <;> omega) _).setCell (by simp <;> omega) _

set_option maxHeartbeats 4000000 in
theorem impl_JoinShared_c {u v u' v' : Value} {n m n' m' : Nat} {xs ys xs' ys' : List Int} {w : World} (hu : SI w u n xs) (hv : SI w v m ys) (hu' : SI w u' n' xs') (hv' : SI w v' m' ys') (hT : Tab w) :
    Calls Tryd.prog 27 #[.agg #[u, v], .agg #[u', v']] w (RetP w (jsU xs ys xs' ys') (jsD xs ys xs' ys')) := by
  obtain ⟨A, c, rfl⟩ := hu.shape
  obtain ⟨B, d, rfl⟩ := hv.shape
  obtain ⟨A', c', rfl⟩ := hu'.shape
  obtain ⟨B', d', rfl⟩ := hv'.shape
  have B0 : Below w.heap.size w (((w.alloc (.cells #[.slice A n c, .slice B m d] 27)).alloc (.cells #[.slice A' n' c', .slice B' m' d'] 27)).alloc (.cells #[.slice none 0 0, .slice none 0 0] 27)) := (((Below.refl _ _).alloc (Nat.le_refl _) _).alloc (by simp) _).alloc (by simp; omega) _
  have J0 := (Blk.new (w.alloc (.cells #[.slice A n c, .slice B m d] 27)) 27 #[.slice A' n' c', .slice B' m' d']).alloc (.cells #[.slice none 0 0, .slice none 0 0] 27)
  have K0 := Blk.new ((w.alloc (.cells #[.slice A n c, .slice B m d] 27)).alloc (.cells #[.slice A' n' c', .slice B' m' d'] 27)) 27 #[.slice none 0 0, .slice none 0 0]
  simp only [World.size_alloc] at J0 K0
  cases hs : sharedB xs ys
  · have f1 : jsU xs ys xs' ys' = [] := by simp [jsU, hs]
    have f2 : jsD xs ys xs' ys' = [] := by simp [jsD, hs]
    have S := hide hs; have F1 := hide f1; have F2 := hide f2; clear hs f1 f2
    go_enter Tryd.func27, Tryd.ntmps27
    go_wp2_with fail
    refine (sets_c (hu.below B0) (hv.below B0)).mono ?_
    rintro e w1 ⟨rfl, b1⟩
    rw [S.out]
    have B1 := below_step B0 b1
    have K1 := K0.belowAll b1
    obtain ⟨j0, j1, _, _⟩ := (J0.belowAll b1).two
    go_wp2_with fail
    refine (sets_c (hu'.below B1) (hv'.below B1)).mono ?_
    rintro e w2 ⟨rfl, b2⟩
    clear j0 j1
    have B2 := below_step B1 b2
    have K2 := K1.belowAll b2
    obtain ⟨p0, p1, p2, p3⟩ := K2.two
    go_wp2_with fail
    have Kf := (K2.set_ 0 (.slice none 0 0)).set_ 1 (.slice none 0 0)
    obtain ⟨t0, t1, _, _⟩ := Kf.two
    exact bodyPost_ret (v := .agg #[.slice none 0 0, .slice none 0 0]) (by simp [results, Tryd.results27, go_sem, t0, t1]) rfl ⟨none, 0, 0, none, 0, 0, rfl, by rw [F1.out]; exact OI.nil, by rw [F2.out]; exact OI.nil, .inl rfl, (B2.setCell (by simp <;> omega) _).setCell (by simp <;> omega) _⟩
  · cases hs' : sharedB xs' ys'
    · have f1 : jsU xs ys xs' ys' = [] := by simp [jsU, hs']
      have f2 : jsD xs ys xs' ys' = [] := by simp [jsD, hs']
      have S := hide hs; have F1 := hide f1; have F2 := hide f2; have S' := hide hs'; clear hs f1 f2 hs'
      go_enter Tryd.func27, Tryd.ntmps27
      go_wp2_with fail
      refine (sets_c (hu.below B0) (hv.below B0)).mono ?_
      rintro e w1 ⟨rfl, b1⟩
      rw [S.out]
      have B1 := below_step B0 b1
      have K1 := K0.belowAll b1
      obtain ⟨j0, j1, _, _⟩ := (J0.belowAll b1).two
      go_wp2_with fail
      refine (sets_c (hu'.below B1) (hv'.below B1)).mono ?_
      rintro e w2 ⟨rfl, b2⟩
      rw [S'.out]
      clear j0 j1
      have B2 := below_step B1 b2
      have K2 := K1.belowAll b2
      obtain ⟨p0, p1, p2, p3⟩ := K2.two
      go_wp2_with fail
      have Kf := (K2.set_ 0 (.slice none 0 0)).set_ 1 (.slice none 0 0)
      obtain ⟨t0, t1, _, _⟩ := Kf.two
      exact bodyPost_ret (v := .agg #[.slice none 0 0, .slice none 0 0]) (by simp [results, Tryd.results27, go_sem, t0, t1]) rfl ⟨none, 0, 0, none, 0, 0, rfl, by rw [F1.out]; exact OI.nil, by rw [F2.out]; exact OI.nil, .inl rfl, (B2.setCell (by simp <;> omega) _).setCell (by simp <;> omega) _⟩
    · obtain ⟨h1, h2, _⟩ := sharedB_asc hs
      obtain ⟨q, eq, lq, mq, bq⟩ := set_bits h1
      obtain ⟨r, er, lr, mr, br⟩ := set_bits h2
      obtain ⟨h1', h2', _⟩ := sharedB_asc hs'
      obtain ⟨q', eq', lq', _, bq'⟩ := set_bits h1'
      obtain ⟨r', er', lr', _, br'⟩ := set_bits h2'
      obtain ⟨e1, l1, m1⟩ := or_join lq lq' h1 h1' bq bq'
      obtain ⟨e2, l2, m2⟩ := or_join lr lr' h2 h2' br br'
      have f1 : jsU xs ys xs' ys' = memL (q ||| q') := by rw [m1]; simp [jsU, hs, hs']
      have f2 : jsD xs ys xs' ys' = memL (r ||| r') := by rw [m2]; simp [jsD, hs, hs']
      have S := hide hs; have F1 := hide f1; have F2 := hide f2; have S' := hide hs'; have Eq := hide eq; have Er := hide er; have Eq' := hide eq'; have Er' := hide er'; have E1 := hide e1; have E2 := hide e2; clear hs f1 f2 hs' eq er eq' er' e1 e2 m1 m2 mq mr h1 h2 h1' h2' bq br bq' br'
      go_enter Tryd.func27, Tryd.ntmps27
      go_wp2_with fail
      refine (sets_c (hu.below B0) (hv.below B0)).mono ?_
      rintro e w1 ⟨rfl, b1⟩
      rw [S.out, Eq.out, Er.out]
      have B1 := below_step B0 b1
      have K1 := K0.belowAll b1
      obtain ⟨j0, j1, _, _⟩ := (J0.belowAll b1).two
      go_wp2_with fail
      refine (sets_c (hu'.below B1) (hv'.below B1)).mono ?_
      rintro e w2 ⟨rfl, b2⟩
      rw [S'.out, Eq'.out, Er'.out]
      clear j0 j1
      have B2 := below_step B1 b2
      have K2 := K1.belowAll b2
      go_wp2_with fail
      rw [E1.out, E2.out]
      refine (sharedOf_c l1 l2 (hT.below B2)).mono ?_
      rintro e w3 ⟨A1, k1, c1, A2, k2, c2, rfl, o1, o2, ap, b3⟩
      have hz := B2.size
      have B3 := below_step B2 b3
      have Kb := K2.belowAll b3
      obtain ⟨p0, p1, p2, p3⟩ := Kb.two
      go_wp2_with fail
      have Kf := (Kb.set_ 0 (.slice A1 k1 c1)).set_ 1 (.slice A2 k2 c2)
      obtain ⟨t0, t1, _, _⟩ := Kf.two
      have lk := K2.lt
      refine bodyPost_ret (v := .agg #[.slice A1 k1 c1, .slice A2 k2 c2]) (by simp [results, Tryd.results27, go_sem, t0, t1]) rfl ⟨A1, k1, c1, A2, k2, c2, rfl, ?_, ?_, ap, ?_⟩
      · rw [F1.out]; exact ((o1.set_low lk _).set_low lk _).mono (by omega)
      · rw [F2.out]; exact ((o2.set_low lk _).set_low lk _).mono (by omega)
      · exact (B3.setCell (by simp <;> omega) _).setCell (by simp <;> omega) _

end Go.Proofs.YtcoienlblhbkpaaDoor
