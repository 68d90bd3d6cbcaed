/- Contracts of the laws' own helpers on Op and []Op. XEdgeS with another name; heldOpS besides. -/
import Derived.Test.YtefopnkicllpeaaDoorRow3b
import Derived.Deep.RegionHeld3
namespace Go.Proofs.YtefopnkicllpeaaDoor
open Go.RowKit


set_option maxHeartbeats 1000000 in
theorem eqOp_c {v t p v' t' p' : Int} {w : World} :
    Calls Tryd.prog 68 #[.agg #[.int .i64 v, .int .i64 t, .int .i64 p], .agg #[.int .i64 v', .int .i64 t', .int .i64 p']] w fun e w' => e = .returned (.bool (v == v' && (t == t' && p == p'))) ∧ Below w.heap.size w w' := by
  have B0 : ∀ o o', Below w.heap.size w ((w.alloc o).alloc o') := fun o o' => ((Below.refl _ _).alloc (Nat.le_refl _) o).alloc (by simp) o'
  obtain ⟨r, hr⟩ : ∃ r, r = (v == v' && (t == t' && p == p')) := ⟨_, rfl⟩
  rw [← hr]
  cases h1 : (v == v')
  · have hf : r = false := by simp [hr, h1]
    have F := hide hf; clear hf hr
    go_enter Tryd.func68, Tryd.ntmps68
    go_wp2
    go_ret
    exact ⟨by rw [F.out]; rfl, B0 _ _⟩
  · cases h2 : (t == t')
    · have hf : r = false := by simp [hr, h1, h2]
      have F := hide hf; clear hf hr
      go_enter Tryd.func68, Tryd.ntmps68
      go_wp2
      go_ret
      exact ⟨by rw [F.out]; rfl, B0 _ _⟩
    · cases h3 : (p == p')
      · have hf : r = false := by simp [hr, h1, h2, h3]
        have F := hide hf; clear hf hr
        go_enter Tryd.func68, Tryd.ntmps68
        go_wp2
        go_ret
        exact ⟨by rw [F.out]; rfl, B0 _ _⟩
      · have hf : r = true := by simp [hr, h1, h2, h3]
        have F := hide hf; clear hf hr
        go_enter Tryd.func68, Tryd.ntmps68
        go_wp2
        go_ret
        exact ⟨by rw [F.out]; rfl, B0 _ _⟩




set_option maxHeartbeats 4000000 in
theorem eqOpS_c {u v : Value} {n m : Nat} {xs ys : List T3} {w : World} (hu : S3 w u n xs) (hv : S3 w v m ys) :
    Calls Tryd.prog 47 #[u, v] w fun e w' => e = .returned (.bool (decide (xs = ys))) ∧ Below w.heap.size w w' := by
  obtain ⟨A, c, rfl, _, hn, ha⟩ := hu
  obtain ⟨B, d, rfl, _, hm, hb⟩ := hv
  have hla := hide ha.len
  have hlb := hide hb.len
  by_cases hnm : n = m
  · subst hnm
    go_enter Tryd.func47, Tryd.ntmps47
    go_wp2
    go_loopw [5] (fun i wr => ∃ k : Nat, k ≤ n ∧ i = .int .i64 k ∧ xs.take k = ys.take k ∧ Below w.heap.size w wr) (fun i _ => n - (intOf i).toNat)
    case atStart => exact ⟨0, Nat.zero_le _, rfl, rfl, Below.refl _ _⟩
    case round =>
      obtain ⟨k, hk, rfl, heq, hbel⟩ := hrel
      have Heq := hide heq; clear heq
      by_cases hlt : k < n
      · obtain ⟨b1, o1, x, y, z, rfl, hb1, hx, p0, p1, p2⟩ := ha.at_ hlt
        obtain ⟨b2, o2, x', y', z', rfl, hb2, hy, q0, q1, q2⟩ := hb.at_ hlt
        have Hx := hide hx; clear hx
        have Hy := hide hy; clear hy
        have c0 : wr.cell? ⟨b1, o1 + k * 3, none⟩ = some (.int .i64 x) := (hbel.cell hb1).trans p0
        have c1 : wr.cell? ⟨b1, o1 + k * 3 + 1, none⟩ = some (.int .i64 y) := (hbel.cell hb1).trans p1
        have c2 : wr.cell? ⟨b1, o1 + k * 3 + 2, none⟩ = some (.int .i64 z) := (hbel.cell hb1).trans p2
        have d0 : wr.cell? ⟨b2, o2 + k * 3, none⟩ = some (.int .i64 x') := (hbel.cell hb2).trans q0
        have d1 : wr.cell? ⟨b2, o2 + k * 3 + 1, none⟩ = some (.int .i64 y') := (hbel.cell hb2).trans q1
        have d2 : wr.cell? ⟨b2, o2 + k * 3 + 2, none⟩ = some (.int .i64 z') := (hbel.cell hb2).trans q2
        have k0 : (0 : Int) ≤ k := by omega
        have k1 : (k : Int) < n := by omega
        have l1 : b1 < wr.heap.size := Nat.lt_of_lt_of_le hb1 hbel.size
        have l2 : b2 < wr.heap.size := Nat.lt_of_lt_of_le hb2 hbel.size
        clear p0 p1 p2 q0 q1 q2
        obtain ⟨r, hr⟩ : ∃ r, r = (x == x' && (y == y' && z == z')) := ⟨_, rfl⟩
        have Hr := hide hr; clear hr
        go_wp2
        go_region_held3 (fun W => W.cell? ⟨b1, o1 + k * 3, none⟩ = some (.int .i64 x) ∧ W.cell? ⟨b1, o1 + k * 3 + 1, none⟩ = some (.int .i64 y) ∧ W.cell? ⟨b1, o1 + k * 3 + 2, none⟩ = some (.int .i64 z) ∧ W.cell? ⟨b2, o2 + k * 3, none⟩ = some (.int .i64 x') ∧ W.cell? ⟨b2, o2 + k * 3 + 1, none⟩ = some (.int .i64 y') ∧ W.cell? ⟨b2, o2 + k * 3 + 2, none⟩ = some (.int .i64 z'))
          (first | (go_keep; done) | (go_split_ands; refine ⟨?_, ?_, ?_, ?_, ?_, ?_⟩ <;> (rw [bq.cell (by first | exact l1 | exact l2)]; assumption)))
          (first | (go_at_call 68; refine (eqOp_c).mono ?_; rintro e wq ⟨rfl, bq⟩; rw [← Hr.out]))
        replace bq := below_of_drew bq
        have BQ := below_step hbel bq
        clear c0 c1 c2 d0 d1 d2 l1 l2
        cases r
        · go_wp2_with fail
          go_ret
          have hne : ¬ xs = ys := by
            intro h
            have e1 := Hx.out; rw [h, Hy.out] at e1
            injection e1 with e1; injection e1 with e1 e2; injection e2 with e2 e3
            have := Hr.out; subst e1; subst e2; subst e3; simp [] at this
          exact ⟨by simp [hne], BQ⟩
        · have he : x = x' ∧ y = y' ∧ z = z' := by have := Hr.out; simpa [] using this.symm
          have He := hide he; clear he
          go_wp2_with fail
          go_roundw
          case rel =>
            obtain ⟨e1, e2, e3⟩ := He.out
            subst e1; subst e2; subst e3
            exact ⟨k + 1, by omega, by go_num, take_snoc_eq3 _ _ _ _ Heq.out Hx.out Hy.out, BQ⟩
          case measure => simp [intOf]; omega
      · go_wp2
        go_ret
        obtain rfl : k = n := by omega
        have h1 := Heq.out
        rw [List.take_of_length_le (by rw [hla.out]; omega), List.take_of_length_le (by rw [hlb.out]; omega)] at h1
        exact ⟨by simp [h1], hbel⟩
  · have hne : ¬ xs = ys := by
      intro h; apply hnm; rw [← hla.out, ← hlb.out, h]
    have Hne := hide hne; clear hne
    go_enter Tryd.func47, Tryd.ntmps47
    go_wp2
    go_ret
    exact ⟨by simp [Hne.out], Below.refl _ _⟩

set_option maxHeartbeats 4000000 in
theorem markOpS_c {v : Value} {n : Nat} {xs : List Int} {k : Int} {B : Nat} {w : World} (ho : OF 42 3 w B v n xs) (hk0 : 0 ≤ k) (hk1 : k ≤ 4194304) :
    Calls Tryd.prog 27 #[v, .int .i64 k] w fun e w' => e = .returned (.int .i64 (k + n * 3)) ∧ OF 42 3 w' B v n (upFrom k (n * 3)) ∧ w.grownBy w' v.ownBlock := by
  have hn := ho.2
  obtain ⟨A, c, rfl, hlc, hmx, hA, hg⟩ := ho.form
  have Hn := hide ho.len
  go_enter Tryd.func27, Tryd.ntmps27
  go_wp2
  go_loopw [1, 5] (fun kk i wr => ∃ j : Nat, j ≤ n ∧ i = .int .i64 j ∧ kk = .int .i64 (k + j * 3) ∧ OF 42 3 wr B (.slice A n c) n (mrk xs k (j * 3)) ∧ w.grownBy wr (Value.slice A n c).ownBlock) (fun _ i _ => n - (intOf i).toNat)
  case atStart => exact ⟨0, Nat.zero_le _, rfl, by simp, by rw [show 0 * 3 = 0 from rfl, mrk_zero]; exact ho, World.grownBy.refl _ _⟩
  case round =>
    obtain ⟨j, hj, rfl, rfl, hown, hgr⟩ := hrel
    by_cases hlt : j < n
    · obtain ⟨b, rfl⟩ : ∃ b, A = some ⟨b, 0, none⟩ := by
        cases A with
        | none => have := (hA rfl).1; omega
        | some a => obtain ⟨g, h1, _⟩ := hg a rfl; exact ⟨g, by rw [h1]⟩
      obtain ⟨u0, _, s0⟩ := hown.cell (j * 3) (by omega)
      obtain ⟨u1, _, s1⟩ := hown.cell (j * 3 + 1) (by omega)
      obtain ⟨u2, _, s2⟩ := hown.cell (j * 3 + 2) (by omega)
      have f0 := hown.free (j * 3)
      have f1 := hown.free (j * 3 + 1)
      have f2 := hown.free (j * 3 + 2)
      have Hown := hide hown; clear hown
      have Hgr := hide hgr; clear hgr
      clear hA hg
      go_wp2
      go_roundw
      case rel =>
        refine ⟨j + 1, by omega, by go_num, by go_num, ?_, grown_setCell (p := ⟨b, j * 3 + 2, none⟩) (grown_setCell (p := ⟨b, j * 3 + 1, none⟩) (grown_setCell (p := ⟨b, j * 3, none⟩) Hgr.out (.inl rfl) _) (.inl rfl) _) (.inl rfl) _⟩
        have h2 := OF.store (OF.store (OF.store Hown.out (j * 3) (k + j * 3)) (j * 3 + 1) (k + j * 3 + 1)) (j * 3 + 2) (k + j * 3 + 1 + 1)
        rw [mrk_step' _ _ _ _ (by rw [Hn.out]; omega) (by omega), mrk_step' _ _ _ _ (by rw [Hn.out]; omega) (by omega), mrk_step' _ _ _ _ (by rw [Hn.out]; omega) (by omega)] at h2
        rw [show (j + 1) * 3 = j * 3 + 1 + 1 + 1 by omega]
        simpa [Int.add_assoc] using h2
      case measure => simp [intOf]; omega
    · go_wp2
      go_ret
      obtain rfl : j = n := by omega
      exact ⟨rfl, by have h3 := hown; rw [← Hn.out, mrk_full, Hn.out] at h3; exact h3, hgr⟩

set_option maxHeartbeats 4000000 in
theorem heldOpS_c {v : Value} {n : Nat} {k : Int} {B : Nat} {w : World} (ho : OF 42 3 w B v n (upFrom k (n * 3))) (hk0 : 0 ≤ k) (hk1 : k ≤ 4194304) :
    Calls Tryd.prog 28 #[v, .int .i64 k] w fun e w' => e = .returned (.int .i64 (k + n * 3)) ∧ Below w.heap.size w w' := by
  have hn := ho.2
  obtain ⟨A, c, rfl, hlc, hmx, hA, hg⟩ := ho.form
  go_enter Tryd.func28, Tryd.ntmps28
  go_wp2
  go_loopw [1, 5] (fun kk i wr => ∃ j : Nat, j ≤ n ∧ i = .int .i64 j ∧ kk = .int .i64 (k + j * 3) ∧ Below w.heap.size w wr) (fun _ i _ => n - (intOf i).toNat)
  case atStart => exact ⟨0, Nat.zero_le _, rfl, by simp, Below.refl _ _⟩
  case round =>
    obtain ⟨j, hj, rfl, rfl, hbel⟩ := hrel
    by_cases hlt : j < n
    · obtain ⟨b, rfl, hbs⟩ : ∃ b, A = some ⟨b, 0, none⟩ ∧ b < w.heap.size := by
        cases A with
        | none => have := (hA rfl).1; omega
        | some a => obtain ⟨g, h1, _, h2⟩ := hg a rfl; exact ⟨g, by rw [h1], h2⟩
      obtain ⟨u0, e0, s0⟩ := ho.cell (j * 3) (by omega)
      obtain ⟨u1, e1, s1⟩ := ho.cell (j * 3 + 1) (by omega)
      obtain ⟨u2, e2, s2⟩ := ho.cell (j * 3 + 2) (by omega)
      rw [upFrom_get _ _ _ (by omega)] at e0 e1 e2
      injection e0 with e0; injection e1 with e1; injection e2 with e2
      have t0 : wr.cell? ⟨b, j * 3, none⟩ = some (.int .i64 (k + j * 3)) := ((hbel.cell (p := ⟨b, j * 3, none⟩) hbs).trans s0).trans (by rw [← e0]; simp)
      have t1 : wr.cell? ⟨b, j * 3 + 1, none⟩ = some (.int .i64 (k + j * 3 + 1)) := ((hbel.cell (p := ⟨b, j * 3 + 1, none⟩) hbs).trans s1).trans (by rw [← e1]; simp; omega)
      have t2 : wr.cell? ⟨b, j * 3 + 2, none⟩ = some (.int .i64 (k + j * 3 + 1 + 1)) := ((hbel.cell (p := ⟨b, j * 3 + 2, none⟩) hbs).trans s2).trans (by rw [← e2]; simp; omega)
      clear e0 e1 e2 s0 s1 s2 hA hg ho
      go_wp2
      go_roundw
      case rel => exact ⟨j + 1, by omega, by go_num, by go_num, hbel⟩
      case measure => simp [intOf]; omega
    · go_wp2
      go_ret
      obtain rfl : j = n := by omega
      exact ⟨rfl, hbel⟩

end Go.Proofs.YtefopnkicllpeaaDoor
