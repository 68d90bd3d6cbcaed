/- Contracts of the laws' own helpers on a draft. -/
import Derived.Test.YtgjepagejongpaaDoorOpS
import Derived.Test.YtgjepagejongpaaDoorApp3
namespace Go.Proofs.YtgjepagejongpaaDoor
open Go.RowKit

theorem O3.set_low {t : TypeId} {w : World} {B n : Nat} {v : Value} {xs : List T3} (h : O3 t w B v n xs) {p : Addr} (hp : p.block < B) (u : Value) : O3 t (w.setCell p u) B v n xs := ⟨ownsRow_setCell_below h.1 hp u, h.2⟩
theorem O3.form {t : TypeId} {w : World} {B n : Nat} {v : Value} {xs : List T3} (h : O3 t w B v n xs) : ∃ A c, v = .slice A n c ∧ n ≤ c ∧ c ≤ maxLen ∧ R3 w A n xs := by
  obtain ⟨A, c, h1, h2, h3, _⟩ := OF.form h.of
  obtain ⟨A', c', h4, _, _, h5⟩ := h.s3
  rw [h1] at h4; injection h4 with e1 _ e3; subst e1; subst e3
  exact ⟨A, c, h1, h2, h3, h5⟩
theorem Blk.two' {w : World} {g : Nat} {t : TypeId} {a b : Value} (h : Blk w g t #[a, b]) : w.cell? ⟨g, 0, none⟩ = some a ∧ w.cell? ⟨g, 1, none⟩ = some b := ⟨h.cell 0, h.cell 1⟩
set_option maxHeartbeats 400000 in
theorem szOpSm_c {A : Option Addr} {n c : Nat} {left : Int} {w : World} (h0 : -1 ≤ left) (h1 : left ≤ 1048576) (hn : n ≤ maxLen) :
    Calls Tryd.prog 33 #[.slice A n c, .int .i64 left] w fun e w' => e = .returned (.int .i64 (szN left n)) ∧ w = w' := by
  unfold maxLen at hn
  by_cases h : (n : Int) ≤ left
  · have hf : szN left n = left - n := by simp [szN, h]
    have F := hide hf; clear hf
    go_enter Tryd.func33, Tryd.ntmps33
    go_wp2
    go_ret
    exact ⟨by rw [F.out]; rfl, rfl⟩
  · have hf : szN left n = -1 := by simp [szN, h]
    have F := hide hf; clear hf
    go_enter Tryd.func33, Tryd.ntmps33
    go_wp2
    go_ret
    exact ⟨by rw [F.out]; rfl, rfl⟩
set_option maxHeartbeats 400000 in
theorem szDraft_c {A : Option Addr} {n c : Nat} {f left : Int} {w : World} (h0 : -1 ≤ left) (h1 : left ≤ 1048576) (hn : n ≤ maxLen) :
    Calls Tryd.prog 15 #[.agg #[.int .i64 f, .slice A n c], .int .i64 left] w fun e w' => e = .returned (.int .i64 (szN left n)) ∧ Below w.heap.size w w' := by
  have b1 : Below w.heap.size w (w.alloc (.cells #[.int .i64 f, .slice A n c] 43)) := (Below.refl _ _).alloc (Nat.le_refl _) _
  by_cases h : (n : Int) ≤ left
  · have hf : szN left n = left - n := by simp [szN, h]
    have F := hide hf; clear hf
    go_enter Tryd.func15, Tryd.ntmps15
    go_wp2_with fail
    refine (szOpSm_c h0 h1 hn).mono ?_
    rintro e w' ⟨rfl, rfl⟩
    rw [F.out]
    go_wp2_with fail
    go_ret
    exact ⟨by rw [F.out]; rfl, b1⟩
  · have hf : szN left n = -1 := by simp [szN, h]
    have F := hide hf; clear hf
    go_enter Tryd.func15, Tryd.ntmps15
    go_wp2_with fail
    refine (szOpSm_c h0 h1 hn).mono ?_
    rintro e w' ⟨rfl, rfl⟩
    rw [F.out]
    go_wp2_with fail
    go_ret
    exact ⟨by rw [F.out]; rfl, b1⟩

/-- The post of a function that returns a new draft. -/
def RetD (w : World) (f : Int) (xs : List T3) (e : Ending) (w' : World) : Prop :=
  ∃ A n c, e = .returned (.agg #[.int .i64 f, .slice A n c]) ∧ O3 46 w' w.heap.size (.slice A n c) n xs ∧ Below w.heap.size w w'
set_option maxHeartbeats 1000000 in
theorem toDraft_c {v : Value} {m : Nat} {ys : List T3} {f : Int} {w : World} (hv : S3 w v m ys) :
    Calls Tryd.prog 17 #[.agg #[.int .i64 f, v]] w (RetD w f ys) := by
  have sv := hv
  obtain ⟨B, d, rfl, _, _, _⟩ := hv
  have B0 : Below w.heap.size w (((w.alloc (.cells #[.int .i64 f, .slice B m d] 43)).alloc (.cells #[.int .i64 0, .slice none 0 0] 37)).alloc (.cells #[.int .i64 f, .slice none 0 0] 37)) := (((Below.refl _ _).alloc (Nat.le_refl _) _).alloc (by simp) _).alloc (by simp; omega) _
  have K2 := Blk.new ((w.alloc (.cells #[.int .i64 f, .slice B m d] 43)).alloc (.cells #[.int .i64 0, .slice none 0 0] 37)) 37 #[.int .i64 f, .slice none 0 0]
  have K1 := (Blk.new (w.alloc (.cells #[.int .i64 f, .slice B m d] 43)) 37 #[.int .i64 0, .slice none 0 0]).alloc (.cells #[.int .i64 f, .slice none 0 0] 37)
  simp only [World.size_alloc] at K1 K2
  go_enter Tryd.func17, Tryd.ntmps17
  go_wp2_with fail
  refine (toOpS_c (sv.below B0)).mono ?_
  rintro e w2 ⟨v2, rfl, o2, b2⟩
  obtain ⟨A2, c2, rfl⟩ := o2.shape
  have B2 := below_step B0 b2
  have hz2 := b2.size
  replace K1 := K1.belowAll b2
  replace K2 := K2.belowAll b2
  simp only [World.size_alloc] at o2 hz2
  have K1s := K1.far (p := ⟨w.heap.size + 1 + 1, 1, none⟩) (by simp) (.slice A2 m c2)
  obtain ⟨p0, p1, p2, p3⟩ := K2.two
  obtain ⟨r0, r1, r2, r3⟩ := K1s.two
  go_wp2_with fail
  obtain ⟨t0, t1, _, _⟩ := ((K1s.set_ 0 (.int .i64 f)).set_ 1 (.slice A2 m c2)).two
  refine bodyPost_ret (v := .agg #[.int .i64 f, .slice A2 m c2]) (by simp [results, Tryd.results17, go_sem, t0, t1]) rfl ⟨A2, m, c2, rfl, ?_, ?_⟩
  · exact (((o2.set_low (p := ⟨w.heap.size + 1 + 1, 1, none⟩) (by simp) _).set_low (p := ⟨w.heap.size + 1, 0, none⟩) (by simp) _).set_low (p := ⟨w.heap.size + 1, 1, none⟩) (by simp) _).mono (by omega)
  · exact ((B2.setCell (p := ⟨w.heap.size + 1 + 1, 1, none⟩) (by simp; omega) _).setCell (p := ⟨w.heap.size + 1, 0, none⟩) (by simp) _).setCell (p := ⟨w.heap.size + 1, 1, none⟩) (by simp) _

set_option maxHeartbeats 1000000 in
theorem eqDraft_c {v v' : Value} {m m' : Nat} {ys ys' : List T3} {f f' : Int} {w : World} (hv : S3 w v m ys) (hv' : S3 w v' m' ys') :
    Calls Tryd.prog 22 #[.agg #[.int .i64 f, v], .agg #[.int .i64 f', v']] w fun e w' => e = .returned (.bool ((f == f') && decide (ys = ys'))) ∧ Below w.heap.size w w' := by
  obtain ⟨B, d, rfl⟩ := hv.shape
  obtain ⟨B', d', rfl⟩ := hv'.shape
  have B0 : Below w.heap.size w ((w.alloc (.cells #[.int .i64 f, .slice B m d] 37)).alloc (.cells #[.int .i64 f', .slice B' m' d'] 37)) := ((Below.refl _ _).alloc (Nat.le_refl _) _).alloc (by simp) _
  obtain ⟨r, hr⟩ : ∃ r, ((f == f') && decide (ys = ys')) = r := ⟨_, rfl⟩
  rw [hr]
  cases hf : (f == f')
  · have e : r = false := by rw [← hr, hf]; rfl
    have E := hide e; clear e hr
    have hf' : (f != f') = true := by simpa using hf
    go_enter Tryd.func22, Tryd.ntmps22
    go_wp2_with fail
    go_ret
    exact ⟨by rw [E.out]; rfl, B0⟩
  · have e : r = decide (ys = ys') := by rw [← hr, hf]; rfl
    have E := hide e; clear e hr
    have hf2 : f = f' := by simpa using hf
    clear hf
    subst hf2
    go_enter Tryd.func22, Tryd.ntmps22
    go_wp2_with fail
    refine (eqOpS_c (hv.below B0) (hv'.below B0)).mono ?_
    rintro e w2 ⟨rfl, b2⟩
    rw [← E.out]
    have B2 := below_step B0 b2
    cases r
    · go_wp2_with fail
      go_ret
      exact ⟨rfl, B2⟩
    · go_wp2_with fail
      go_ret
      exact ⟨rfl, B2⟩

end Go.Proofs.YtgjepagejongpaaDoor
