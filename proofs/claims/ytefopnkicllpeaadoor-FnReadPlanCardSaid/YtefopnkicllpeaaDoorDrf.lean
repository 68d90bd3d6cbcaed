/- Contracts of the laws' own helpers on a draft. -/
import Derived.Test.YtefopnkicllpeaaDoorOpS
import Derived.Test.YtefopnkicllpeaaDoorApp3
namespace Go.Proofs.YtefopnkicllpeaaDoor
open Go.RowKit

theorem O3.set_low {t : TypeId} {w : World} {B n : Nat} {v : Value} {xs : List T3} (h : O3 t w B v n xs) {p : Addr} (hp : p.block < B) (u : Value) : O3 t (w.setCell p u) B v n xs := ⟨ownsRow_setCell_below h.1 hp u, h.2⟩
theorem O3.form {t : TypeId} {w : World} {B n : Nat} {v : Value} {xs : List T3} (h : O3 t w B v n xs) : ∃ A c, v = .slice A n c ∧ n ≤ c ∧ c ≤ maxLen ∧ R3 w A n xs := by
  obtain ⟨A, c, h1, h2, h3, _⟩ := OF.form h.of
  obtain ⟨A', c', h4, _, _, h5⟩ := h.s3
  rw [h1] at h4; injection h4 with e1 _ e3; subst e1; subst e3
  exact ⟨A, c, h1, h2, h3, h5⟩
theorem Blk.two' {w : World} {g : Nat} {t : TypeId} {a b : Value} (h : Blk w g t #[a, b]) : w.cell? ⟨g, 0, none⟩ = some a ∧ w.cell? ⟨g, 1, none⟩ = some b := ⟨h.cell 0, h.cell 1⟩

/-- The post of a function that returns a new draft. -/
def RetD (w : World) (f : Int) (xs : List T3) (e : Ending) (w' : World) : Prop :=
  ∃ A n c, e = .returned (.agg #[.int .i64 f, .slice A n c]) ∧ O3 42 w' w.heap.size (.slice A n c) n xs ∧ Below w.heap.size w w'

set_option maxHeartbeats 1000000 in
theorem eqDraft_c {v v' : Value} {m m' : Nat} {ys ys' : List T3} {f f' : Int} {w : World} (hv : S3 w v m ys) (hv' : S3 w v' m' ys') :
    Calls Tryd.prog 26 #[.agg #[.int .i64 f, v], .agg #[.int .i64 f', v']] w fun e w' => e = .returned (.bool ((f == f') && decide (ys = ys'))) ∧ Below w.heap.size w w' := by
  obtain ⟨B, d, rfl⟩ := hv.shape
  obtain ⟨B', d', rfl⟩ := hv'.shape
  have B0 : Below w.heap.size w ((w.alloc (.cells #[.int .i64 f, .slice B m d] 37)).alloc (.cells #[.int .i64 f', .slice B' m' d'] 37)) := ((Below.refl _ _).alloc (Nat.le_refl _) _).alloc (by simp) _
  obtain ⟨r, hr⟩ : ∃ r, ((f == f') && decide (ys = ys')) = r := ⟨_, rfl⟩
  rw [hr]
  cases hf : (f == f')
  · have e : r = false := by rw [← hr, hf]; rfl
    have E := hide e; clear e hr
    have hf' : (f != f') = true := by simpa using hf
    go_enter Tryd.func26, Tryd.ntmps26
    go_wp2_with fail
    go_ret
    exact ⟨by rw [E.out]; rfl, B0⟩
  · have e : r = decide (ys = ys') := by rw [← hr, hf]; rfl
    have E := hide e; clear e hr
    have hf2 : f = f' := by simpa using hf
    clear hf
    subst hf2
    go_enter Tryd.func26, Tryd.ntmps26
    go_wp2_with fail
    refine (eqOpS_c (hv.below B0) (hv'.below B0)).mono ?_
    rintro e w2 ⟨rfl, b2⟩
    rw [← E.out]
    have B2 := below_step B0 b2
    cases r
    · go_wp2_with fail
      go_ret
      exact ⟨rfl, B2⟩
    · go_wp2_with fail
      go_ret
      exact ⟨rfl, B2⟩

end Go.Proofs.YtefopnkicllpeaaDoor
