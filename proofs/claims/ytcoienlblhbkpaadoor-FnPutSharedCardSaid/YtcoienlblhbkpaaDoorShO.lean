/- Shared sets, the reference's side: its copy. -/
import Derived.Test.YtcoienlblhbkpaaDoorShared
import Derived.Test.YtcoienlblhbkpaaDoorApp
namespace Go.Proofs.YtcoienlblhbkpaaDoor
open Go.RowKit

theorem Blk.after_app {w w' : World} {g B : Nat} {t : TypeId} {cs : Array Value} {v : Value} {n : Nat} {xs : List Int} (h : Blk w g t cs) (hg : w.grownBy w' v.ownBlock) (ho : OI w B v n xs) (hB : g < B) : Blk w' g t cs := h.grown hg (ho.far hB)

set_option maxHeartbeats 2000000 in
theorem l1OwnShared_c {u v : Value} {n m : Nat} {xs ys : List Int} {w : World} (hu : SI w u n xs) (hv : SI w v m ys) :
    Calls Tryd.prog 47 #[.agg #[u, v]] w (RetP w xs ys) := by
  have hn := hu.bd; have hm := hv.bd
  obtain ⟨A, c, rfl⟩ := hu.shape
  obtain ⟨B, d, rfl⟩ := hv.shape
  have B0 : Below w.heap.size w (((w.alloc (.cells #[.slice A n c, .slice B m d] 27)).alloc (.cells #[.slice none 0 0, .slice none 0 0] 27)).alloc (.cells #[.slice A n c, .slice B m d] 27)) := (((Below.refl _ _).alloc (Nat.le_refl _) _).alloc (by simp) _).alloc (by simp; omega) _
  have K1 := ((Blk.new w 27 #[.slice A n c, .slice B m d]).alloc (.cells #[.slice none 0 0, .slice none 0 0] 27)).alloc (.cells #[.slice A n c, .slice B m d] 27)
  have K2 := (Blk.new (w.alloc (.cells #[.slice A n c, .slice B m d] 27)) 27 #[.slice none 0 0, .slice none 0 0]).alloc (.cells #[.slice A n c, .slice B m d] 27)
  have K3 := Blk.new ((w.alloc (.cells #[.slice A n c, .slice B m d] 27)).alloc (.cells #[.slice none 0 0, .slice none 0 0] 27)) 27 #[.slice A n c, .slice B m d]
  simp only [World.size_alloc] at K2 K3
  have oe : OI ((((w.alloc (.cells #[.slice A n c, .slice B m d] 27)).alloc (.cells #[.slice none 0 0, .slice none 0 0] 27)).alloc (.cells #[.slice A n c, .slice B m d] 27)).alloc (.cells #[] 3)) (w.heap.size + 1 + 1 + 1) (.slice (some ⟨w.heap.size + 1 + 1 + 1, 0, none⟩) 0 0) 0 [] := by
    have := OI.empty (((w.alloc (.cells #[.slice A n c, .slice B m d] 27)).alloc (.cells #[.slice none 0 0, .slice none 0 0] 27)).alloc (.cells #[.slice A n c, .slice B m d] 27))
    simpa using this
  have su1 := (hu.below B0).alloc (.cells #[] 3)
  have sv1 := (hv.below B0).alloc (.cells #[] 3)
  have K1e := K1.alloc (.cells #[] 3); have K2e := K2.alloc (.cells #[] 3); have K3e := K3.alloc (.cells #[] 3)
  have B1 : Below w.heap.size w ((((w.alloc (.cells #[.slice A n c, .slice B m d] 27)).alloc (.cells #[.slice none 0 0, .slice none 0 0] 27)).alloc (.cells #[.slice A n c, .slice B m d] 27)).alloc (.cells #[] 3)) := B0.alloc (by simp; omega) _
  clear K1 K2 K3 B0
  go_enter Tryd.func47, Tryd.ntmps47
  go_wp2_with (first
    | (at_builtin
       refine wpList_appI rfl (.tmp 5) (.tmp 7) rfl rfl oe rfl su1 (by omega) (by simp) ?_
       intro v1 w1 ho hg hat
       simp only [Nat.zero_add, List.nil_append] at ho
       obtain ⟨A1, c1, rfl⟩ := ho.shape
       have K1w := K1e.after_app hg oe (by omega)
       have K2w := K2e.after_app hg oe (by omega)
       have K3w := K3e.after_app hg oe (by omega)
       obtain ⟨p0, p1, p2, p3⟩ := K3w.two
       have hz1 : w.heap.size + 4 ≤ w1.heap.size := by have := hg.size; simp at this; omega
       have K1x := (K1w.far (p := ⟨w.heap.size + 1 + 1, 0, none⟩) (by simp; omega) (.slice A1 n c1)).alloc (.cells #[] 3)
       have K2x := (K2w.far (p := ⟨w.heap.size + 1 + 1, 0, none⟩) (by simp) (.slice A1 n c1)).alloc (.cells #[] 3)
       have K3x := (K3w.set_ 0 (.slice A1 n c1)).alloc (.cells #[] 3)
       obtain ⟨q0, q1, _, _⟩ := K1x.two
       have ho2 := (ho.set_low (p := ⟨w.heap.size + 1 + 1, 0, none⟩) (by simp) (.slice A1 n c1)).alloc (.cells #[] 3)
       have B2 := ((below_app B1 oe (by omega) hg).setCell (p := ⟨w.heap.size + 1 + 1, 0, none⟩) (by simp; omega) (.slice A1 n c1)).alloc (by simp; omega) (.cells #[] 3)
       have sv2 := hv.below B2
       have oe2 : OI ((w1.setCell ⟨w.heap.size + 1 + 1, 0, none⟩ (.slice A1 n c1)).alloc (.cells #[] 3)) w1.heap.size (.slice (some ⟨w1.heap.size, 0, none⟩) 0 0) 0 [] := by
         have := OI.empty (w1.setCell ⟨w.heap.size + 1 + 1, 0, none⟩ (.slice A1 n c1))
         simpa [size_setCell] using this
       clear K1w K2w K3w K1x)
    | (at_builtin
       refine wpList_appI rfl (.tmp 10) (.tmp 12) rfl rfl oe2 rfl sv2 (by omega) (by simp) ?_
       intro v2 w2 ho3 hg2 hat2
       simp only [Nat.zero_add, List.nil_append] at ho3
       obtain ⟨A2, c2, rfl⟩ := ho3.shape
       have K2y := K2x.after_app hg2 oe2 (by omega)
       have K3y := K3x.after_app hg2 oe2 (by omega)
       obtain ⟨r0, r1, r2, r3⟩ := K3y.two
       have K2z := K2y.far (p := ⟨w.heap.size + 1 + 1, 1, none⟩) (by simp) (.slice A2 m c2)
       have K3z := K3y.set_ 1 (.slice A2 m c2)
       obtain ⟨s0, s1, s2, s3⟩ := K2z.two))
  have Kf := (K2z.set_ 0 (.slice A1 n c1)).set_ 1 (.slice A2 m c2)
  obtain ⟨t0, t1, _, _⟩ := Kf.two
  have hz2 : w1.heap.size + 1 ≤ w2.heap.size := by have := hg2.size; simp at this; omega
  have apt : Apart (.slice A1 n c1) (.slice A2 m c2) := by
    have h1 : Apart (.slice A1 n c1) (.slice (some ⟨w1.heap.size, 0, none⟩) 0 0) := by
      cases hv : (Value.slice A1 n c1).ownBlock with
      | none => exact .inl hv
      | some k => right; rw [hv]; intro e; have e' : some k = some w1.heap.size := e; injection e' with e'; have := (World.ownsRow.lt ho.1 k hv).2; omega
    unfold Apart at h1 ⊢
    rcases h1 with h1 | h1
    · exact .inl h1
    · right; rcases hat2 with e | e
      · rw [e]; exact h1
      · rw [e]; cases hv : (Value.slice A1 n c1).ownBlock with
        | none => simp
        | some k => intro e2; injection e2 with e2; have := (World.ownsRow.lt ho.1 k hv).2; simp at e2; omega
  have ho4 := ho2.grown hg2 (by have := (OI.apart (ho.drew) oe2); exact this)
  refine bodyPost_ret (v := .agg #[.slice A1 n c1, .slice A2 m c2]) (by simp [results, Tryd.results47, go_sem, t0, t1]) rfl ⟨A1, n, c1, A2, m, c2, rfl, ?_, ?_, apt, ?_⟩
  · exact (((ho4.set_low (by simp) _).set_low (by simp) _).set_low (by simp) _).mono (by omega)
  · exact (((ho3.set_low (by simp; omega) _).set_low (by simp; omega) _).set_low (by simp; omega) _).mono (by omega)
  · exact (((below_app B2 oe2 (by omega) hg2).setCell (by simp; omega) _).setCell (by simp) _).setCell (by simp) _

end Go.Proofs.YtcoienlblhbkpaaDoor
