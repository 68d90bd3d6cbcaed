/- PutShared: the reference's. -/
import Derived.Test.YtcoienlblhbkpaaDoorShPut
import Derived.Test.YtcoienlblhbkpaaDoorShared10
import Derived.Deep.RegionHeld3
namespace Go.Proofs.YtcoienlblhbkpaaDoor
open Go.RowKit

/-- What an append hands on of a slice that lay apart from its first operand. -/
theorem Apart.app {u v v' : Value} {g : Nat} {w : World} {B : Nat} {n : Nat} {xs : List Int} (h : Apart u v) (ho : OI w B u n xs) (hg : w.heap.size ≤ g) (hat : v'.ownBlock = v.ownBlock ∨ v'.ownBlock = some g) : Apart u v' := by
  unfold Apart at h ⊢
  rcases h with h | h
  · exact .inl h
  · rcases hat with e | e
    · right; rw [e]; exact h
    · cases hu : u.ownBlock with
      | none => exact .inl rfl
      | some k =>
        right; rw [e]; intro e2; injection e2 with e2
        have := (World.ownsRow.lt ho.1 k hu).2; omega

theorem asc_len : ∀ (xs : List Int) (l : Int), l ≤ 30 → ascB l xs = true → (xs.length : Int) ≤ 30 - l := by
  intro xs
  induction xs with
  | nil => intro l h _; simp; omega
  | cons a xs ih =>
    intro l _ h
    simp only [ascB, Bool.and_eq_true, inB_iff] at h
    have := ih a (by omega) h.2
    rw [List.length_cons]; omega

set_option maxHeartbeats 8000000 in
theorem spec_PutShared_c {u v : Value} {n m : Nat} {xs ys : List Int} {x : Int} {w : World} (hu : SI w u n xs) (hv : SI w v m ys) :
    Calls Tryd.prog 21 #[.agg #[u, v], .int .i64 x] w (RetP w (psU xs ys x) (psD xs ys x)) := by
  obtain ⟨A, c, rfl⟩ := hu.shape
  obtain ⟨B, d, rfl⟩ := hv.shape
  have B0 : Below w.heap.size w ((w.alloc (.cells #[.slice A n c, .slice B m d] 27)).alloc (.cells #[.slice none 0 0, .slice none 0 0] 27)) := ((Below.refl _ _).alloc (Nat.le_refl _) _).alloc (by simp) _
  have J0 := (Blk.new w 27 #[.slice A n c, .slice B m d]).alloc (.cells #[.slice none 0 0, .slice none 0 0] 27)
  have K0 := Blk.new (w.alloc (.cells #[.slice A n c, .slice B m d] 27)) 27 #[.slice none 0 0, .slice none 0 0]
  simp only [World.size_alloc] at K0
  go_enter Tryd.func21, Tryd.ntmps21
  go_wp2_with fail
  refine (l1OwnShared_c (hu.below B0) (hv.below B0)).mono ?_
  rintro e w1 ⟨A1, k1, c1, A2, k2, c2, rfl, o1, o2, ap, b1⟩
  have B1 := below_step B0 b1
  have J1 := J0.belowAll b1
  have K1 := K0.belowAll b1
  have hz1 := b1.size
  simp only [World.size_alloc] at hz1 o1 o2
  obtain ⟨j0, j1, j2, j3⟩ := J1.two
  have J2 := (J1.set_ 0 (.slice A1 k1 c1)).set_ 1 (.slice A2 k2 c2)
  have K2 := (K1.far (p := ⟨w.heap.size, 0, none⟩) (by simp) (.slice A1 k1 c1)).far (p := ⟨w.heap.size, 1, none⟩) (by simp) (.slice A2 k2 c2)
  have o1' := (o1.set_low (p := ⟨w.heap.size, 0, none⟩) (by simp; omega) (.slice A1 k1 c1)).set_low (p := ⟨w.heap.size, 1, none⟩) (by simp; omega) (.slice A2 k2 c2)
  have o2' := (o2.set_low (p := ⟨w.heap.size, 0, none⟩) (by simp; omega) (.slice A1 k1 c1)).set_low (p := ⟨w.heap.size, 1, none⟩) (by simp; omega) (.slice A2 k2 c2)
  have B2 := (B1.setCell (p := ⟨w.heap.size, 0, none⟩) (by simp) (.slice A1 k1 c1)).setCell (p := ⟨w.heap.size, 1, none⟩) (by simp) (.slice A2 k2 c2)
  obtain ⟨q0, q1, q2, q3⟩ := J2.two
  go_wp2_with fail
  generalize ((w1.setCell ⟨w.heap.size, 0, none⟩ (.slice A1 k1 c1)).setCell ⟨w.heap.size, 1, none⟩ (.slice A2 k2 c2)) = w2 at *
  refine (spec_SharedValid_c o1'.si o2'.si).mono ?_
  rintro e w3 ⟨rfl, b3⟩
  have B3 := below_step B2 b3
  have J3 := J2.belowAll b3
  have K3 := K2.belowAll b3
  have o13 := o1'.below b3
  have o23 := o2'.below b3
  have hz3 := B3.size
  have jl := J3.lt; have kl := K3.lt
  clear j0 j1 j2 j3 q0 q1 q2 q3 o1 o2 o1' o2' J0 J1 J2 K0 K1 K2 B0 B1 B2 b1 b3 hz1
  obtain ⟨p0, p1, p2, p3⟩ := K3.two
  have Kf := (K3.set_ 0 (.slice none 0 0)).set_ 1 (.slice none 0 0)
  obtain ⟨t0, t1, _, _⟩ := Kf.two
  have Zero : ∀ (h1 : Hid (psU xs ys x = [])) (h2 : Hid (psD xs ys x = [])), RetP w (psU xs ys x) (psD xs ys x) (.returned (.agg #[.slice none 0 0, .slice none 0 0])) ((w3.setCell ⟨w.heap.size + 1, 0, none⟩ (.slice none 0 0)).setCell ⟨w.heap.size + 1, 1, none⟩ (.slice none 0 0)) := fun h1 h2 =>
    ⟨none, 0, 0, none, 0, 0, rfl, by rw [h1.out]; exact OI.nil, by rw [h2.out]; exact OI.nil, .inl rfl, (B3.setCell (by simp) _).setCell (by simp) _⟩
  cases hs : sharedB xs ys
  · have f1 : psU xs ys x = [] := by simp [psU, hs]
    have f2 : psD xs ys x = [] := by simp [psD, hs]
    have S := hide hs; have F1 := hide f1; have F2 := hide f2; clear hs f1 f2
    go_wp2_with fail
    exact bodyPost_ret (v := .agg #[.slice none 0 0, .slice none 0 0]) (by simp [results, Tryd.results21, go_sem, t0, t1]) rfl (Zero F1 F2)
  · cases hp : inB x 0 30
    · have f1 : psU xs ys x = [] := by simp [psU, hp]
      have f2 : psD xs ys x = [] := by simp [psD, hp]
      have S := hide hs; have F1 := hide f1; have F2 := hide f2; have P := hide hp; clear hs f1 f2 hp
      go_wp2_with (go_at_call 48; refine (l1In_c).mono ?_; rintro e w' ⟨rfl, rfl⟩; rw [P.out])
      exact bodyPost_ret (v := .agg #[.slice none 0 0, .slice none 0 0]) (by simp [results, Tryd.results21, go_sem, t0, t1]) rfl (Zero F1 F2)
    · have f1 : psU xs ys x = putL x xs := by simp [psU, hs, hp]
      have f2 : psD xs ys x = ys := by simp [psD, hs, hp]
      have S := hide hs; have F1 := hide f1; have F2 := hide f2; have P := hide hp; clear hs f1 f2 hp Zero t0 t1 Kf
      clear p0 p1 p2 p3
      obtain ⟨j0, j1, _, _⟩ := J3.two
      have hn1 : k1 ≤ 1000 := by
        have := asc_len xs (-1) (by omega) (sharedB_asc S.out).1
        rw [o13.len] at this; omega
      go_wp2_with (go_at_call 48; refine (l1In_c).mono ?_; rintro e w' ⟨rfl, rfl⟩; rw [P.out])
      have oE : OI (w3.drew.alloc (.cells #[] 3)) w3.drew.heap.size (.slice (some ⟨w3.heap.size, 0, none⟩) 0 0) 0 [] := OI.empty w3.drew
      have s1 := o13.si.drew
      have s2 := o23.si.drew
      have hk2 : k2 ≤ 1048576 := o23.2
      go_region_held3 (fun W => W.cell? ⟨w.heap.size, 0, none⟩ = some (.slice A1 k1 c1) ∧ W.cell? ⟨w.heap.size, 1, none⟩ = some (.slice A2 k2 c2))
        (first
          | (go_keep; done)
          | (go_split_ands; refine ⟨?_, ?_⟩ <;> (rw [b5.cell (by simp <;> omega)]; assumption))
          | (go_split_ands; refine ⟨?_, ?_⟩ <;> exact (hg.cell (by assumption) oX))
          | (trace_state; fail))
        (first
          | (refine step_appI (by rfl) (.tmp 20) (.tmp 22) (by rfl) (by rfl) (OI.empty w5) (by rfl) ((s2.below b5).alloc _) (by omega) (by simp <;> omega) ?_
             intro v6 w6 ho6 hg hat
             have hz5 := b5.size
             obtain ⟨A6, c6, rfl⟩ := ho6.shape
             have oX := (OI.empty w5).far (b := w.heap.size) (by simp at hz5; omega)
             have o5' := (o5.alloc (.cells #[] 3)).grown hg (OI.apart o5 (OI.empty w5))
             have apX := Apart.app (OI.apart o5 (OI.empty w5)) o5 (by simp) hat
             have K5 := ((K3.drew.belowAll b5).alloc (.cells #[] 3)).grown hg ((OI.empty w5).far (b := w.heap.size + 1) (by simp at hz5; omega))
             have B5 := below_app ((b5.alloc hz5 (.cells #[] 3))) (OI.empty w5) hz5 hg
             obtain ⟨p0, p1, p2, p3⟩ := K5.two)
          | (refine step_appI (by rfl) (.tmp 20) (.tmp 22) (by rfl) (by rfl) (oE.below b5) (by rfl) ((s2.alloc _).below b5) (by omega) (by have := b5.size; simp at this ⊢; omega) ?_
             intro v6 w6 ho6 hg hat
             have hz5 := b5.size
             obtain ⟨A6, c6, rfl⟩ := ho6.shape
             have oX := oE.far (b := w.heap.size) (by simp; omega)
             have o5' := o5.grown hg (OI.apart oE o5).symm
             have apX := Apart.app (OI.apart oE o5).symm o5 (Nat.le_refl _) hat
             have K5 := ((K3.drew.alloc (.cells #[] 3)).belowAll b5).grown hg (oE.far (b := w.heap.size + 1) (by simp; omega))
             have B5 := below_app (((Below.refl w3.drew.heap.size w3.drew).alloc (Nat.le_refl _) (.cells #[] 3)).trans (b5.mono (by simp))) (oE.below b5) (Nat.le_refl _) hg
             obtain ⟨p0, p1, p2, p3⟩ := K5.two)
          | (go_at_call 49; refine (l30Put_c s1 hn1).mono ?_; rintro e w5 ⟨v5, k5, rfl, o5, b5⟩; obtain ⟨A5, c5, rfl⟩ := o5.shape)
          | (go_at_call 49; refine (l30Put_c (s1.alloc _) hn1).mono ?_; rintro e w5 ⟨v5, k5, rfl, o5, b5⟩; obtain ⟨A5, c5, rfl⟩ := o5.shape)
          | (trace_state; fail))
      all_goals go_wp2_with fail
      all_goals have Kf := (K5.set_ 0 (.slice A5 k5 c5)).set_ 1 (.slice A6 k2 c6)
      all_goals obtain ⟨t0, t1, _, _⟩ := Kf.two
      all_goals simp only [Nat.zero_add, List.nil_append] at ho6 apX
      all_goals have hzd : w3.drew.heap.size = w3.heap.size := rfl
      all_goals try simp only [World.size_alloc] at hz5
      all_goals try rw [hzd] at hz5
      all_goals refine bodyPost_ret (v := .agg #[.slice A5 k5 c5, .slice A6 k2 c6]) (by simp [results, Tryd.results21, go_sem, t0, t1]) rfl ⟨A5, k5, c5, A6, k2, c6, rfl, ?_, ?_, apX, ((below_step B3 (below_of_drew B5)).setCell (by simp) _).setCell (by simp) _⟩
      all_goals first
        | (rw [F1.out]; exact ((o5'.set_low (by first | omega | (simp <;> omega)) _).set_low (by first | omega | (simp <;> omega)) _).mono (by first | omega | (simp <;> omega)))
        | (rw [F2.out]; exact ((ho6.set_low (by first | omega | (simp <;> omega)) _).set_low (by first | omega | (simp <;> omega)) _).mono (by first | omega | (simp <;> omega)))

end Go.Proofs.YtcoienlblhbkpaaDoor
