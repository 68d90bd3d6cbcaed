/- The reference's PlanText. -/
import Derived.Test.YtefopnkicllpeaaDoorPlT
import Derived.Test.YtefopnkicllpeaaDoorNumS
import Derived.Test.YtefopnkicllpeaaDoorLib2
import Derived.Deep.RegionHeld3
import Derived.BigQuiet
namespace Go.Proofs.YtefopnkicllpeaaDoor
open Go.RowKit

theorem l1Number_i {x : Int} {w : World} (h0 : 0 ≤ x) (h1 : x ≤ 1000) : Calls Tryd.prog 37 #[.int .i64 x] w fun e w' => e = .returned (.string (str (digs x.toNat))) ∧ Below w.heap.size w w' := by
  have := l1Number_c (n := x.toNat) (w := w) (by omega)
  rwa [Int.toNat_of_nonneg h0] at this
theorem slice_rw1 (w : World) : (Instr.slice 9 (.string ⟨#[114, 119]⟩) (some (.int .i64 0)) (some (.int .i64 1)) none).run Tryd.prog w = .ok (.string (str [114])) w := by
  simp [Instr.slice, Instr.sliceBounds, Instr.sliceBound, run_underlying Tryd.underlying9, asIntOf]
  rfl
theorem slice_rw2 (w : World) : (Instr.slice 9 (.string ⟨#[114, 119]⟩) (some (.int .i64 1)) (some (.int .i64 2)) none).run Tryd.prog w = .ok (.string (str [119])) w := by
  simp [Instr.slice, Instr.sliceBounds, Instr.sliceBound, run_underlying Tryd.underlying9, asIntOf]
  rfl
/-- The text while draft k is written: the first j steps. -/
def midT (ms : Ds) (k : Nat) (f : Int) (ys : List T3) (j : Nat) : List UInt8 := planTo ms k ++ ((if 0 < k then [59, 32] else []) ++ 115 :: (digs f.toNat ++ stepsTo ys j))
set_option maxRecDepth 100000 in
set_option maxHeartbeats 8000000 in
theorem spec_PlanText_c {A : Option Addr} {n c : Nat} {ms : Ds} {w : World} (hr : RDs w A n ms) (hn : n ≤ 1048576) (hsm : SmallD ms) :
    Calls Tryd.prog 15 #[.slice A n c] w fun e w' => e = .returned (.string (str (planT ms))) ∧ Below w.heap.size w w' := by
  have hl := hide hr.1
  cases hv : planB ms
  · have hf : planT ms = [] := by simp [planT, hv]
    have F := hide hf; have V := hide hv; clear hf hv
    by_cases h0 : n = 0
    · subst h0
      go_enter Tryd.func15, Tryd.ntmps15
      go_wp2_with fail
      refine wp_loop_rounds 1 ?_
      rw [rounds_succ]
      go_wp2_with fail
      go_ret
      exact ⟨by rw [F.out]; rfl, Below.refl _ _⟩
    · have n0 : (0 : Int) < n := by omega
      go_enter Tryd.func15, Tryd.ntmps15
      go_wp2_with fail
      refine wp_loop_rounds 1 ?_
      rw [rounds_succ]
      go_wp2_with (go_at_call 16; refine (spec_PlanValid_c hr hn hsm).mono ?_; rintro e w2 ⟨rfl, b2⟩; rw [V.out])
      go_ret
      exact ⟨by rw [F.out]; rfl, b2⟩
  · have hf : planT ms = planTo ms n := by simp [planT, hv, hl.out]
    obtain ⟨h4, hd⟩ := planB_parts hv
    rw [hl.out] at h4
    have F := hide hf; have V := hide hv; have HD := hide hd; clear hf hv hd
    go_enter Tryd.func15, Tryd.ntmps15
    go_wp2_with fail
    go_loopw [3, 4] (fun v i W => ∃ k : Nat, i = .int .i64 k ∧ k ≤ n ∧ v = .string (str (planTo ms k)) ∧ Below w.heap.size w W) (fun _ i _ => n - (intOf i).toNat)
    case atStart => exact ⟨0, rfl, Nat.zero_le _, rfl, Below.refl _ _⟩
    case round =>
      obtain ⟨k, rfl, hk, rfl, bw⟩ := hrel
      by_cases hkn : k < n
      · obtain ⟨b, off, f, ys, B, kk, d, rfl, hbb, hx, q0, q1, hkd, hdm, hri⟩ := hr.at_ hkn
        obtain ⟨hk4, hf3, hst⟩ := draftB_partsT (HD.out _ (List.mem_of_getElem? hx))
        dsimp only at hk4 hf3 hst
        have hyl := hri.len
        have HST := hide hst
        have hss := planTo_succ hx
        have HSS := hide hss
        have hpl := planTo_len HD.out k (by rw [hl.out]; omega)
        have hdl := (digs_len 3 f.toNat (by omega)).2
        have k0 : (0 : Int) ≤ k := by omega
        have k2 : (k : Int) < n := by omega
        have i1 : decide ((k : Int) < 0) = false := by simp
        have i2 : decide (n ≤ k) = false := by simp; omega
        have hr2 := hr.below bw
        have BW := hide bw
        have Q0 := hide q0; have Q1 := hide q1
        clear hss hst q0 q1 bw
        obtain ⟨P, hP⟩ : ∃ q, planTo ms k = q := ⟨_, rfl⟩
        rw [hP] at hpl ⊢
        have HP := hide hP
        clear hP
        obtain ⟨P', hP'⟩ : ∃ q, P ++ (if 0 < k then [59, 32] else []) = q := ⟨_, rfl⟩
        have hP'l : P'.length ≤ 100 := by
          rw [← hP', List.length_append]
          have : (if 0 < k then [(59 : UInt8), 32] else []).length ≤ 2 := by split <;> simp
          omega
        have s1 := fun W : World => run_string_add_sum (P := Tryd.prog) (w := W) (str P) ⟨#[59, 32]⟩ (by rw [str_size]; show _ + 2 ≤ _; omega)
        have s2 := fun W : World => run_string_add_sum (P := Tryd.prog) (w := W) (str P') ⟨#[115]⟩ (by rw [str_size]; show _ + 1 ≤ _; omega)
        have s3 := fun W : World => run_string_add_sum (P := Tryd.prog) (w := W) (str P' ++ ⟨#[115]⟩) (str (digs f.toNat)) (by rw [show (⟨#[115]⟩ : ByteArray) = str [115] from rfl, str_add, str_size, str_size]; simp; omega)
        by_cases hk0 : 0 < k
        · have hk0' : (0 : Int) < k := by omega
          rw [if_pos hk0] at hP'
          have hcat : str P ++ ⟨#[59, 32]⟩ = str P' := by rw [← hP', ← str_add]; rfl
          have HP' := hide (show P ++ (if 0 < k then [59, 32] else []) = P' by rw [if_pos hk0]; exact hP')
          clear hP'
          go_wp2_with (go_at_call 16; refine (spec_PlanValid_c hr2 hn hsm).mono ?_; rintro e w2 ⟨rfl, b2⟩; rw [V.out]; have c0 := ((below_step BW.out b2).cell (p := ⟨b, off + k * 2, none⟩) hbb).trans Q0.out)
          refine (l1Number_i hf3.1 (by omega)).mono ?_
          rintro e w3 ⟨rfl, b3⟩
          have B3 := hide (below_step (below_step BW.out b2) b3)
          clear b2 b3 c0
          go_wp2_with fail
          go_loopw [3, 5] (fun s i W => ∃ j : Nat, i = .int .i64 j ∧ j ≤ kk ∧ s = .string (str (P' ++ 115 :: (digs f.toNat ++ stepsTo ys j))) ∧ Below w.heap.size w W) (fun _ i _ => kk - (intOf i).toNat)
          case atStart => exact ⟨0, rfl, Nat.zero_le _, by rw [stepsTo_zero, List.append_nil, show (⟨#[115]⟩ : ByteArray) = str [115] from rfl, str_add, str_add]; simp, B3.out⟩
          case round =>
            clear B3
            rename World => wr2
            obtain ⟨j, rfl, hj, rfl, bj⟩ := hrel
            have BJ := hide bj
            have c1 := (bj.cell (p := ⟨b, off + k * 2 + 1, none⟩) hbb).trans Q1.out
            by_cases hjk : j < kk
            · obtain ⟨b2, o2, x, y, z, rfl, hbb2, hy, p0, p1, p2⟩ := hri.at_ hjk
              obtain ⟨hx12, hy02, hsb⟩ := HST.out _ (List.mem_of_getElem? hy)
              dsimp only at hx12 hy02
              have a0 := (bj.cell (p := ⟨b2, o2 + j * 3, none⟩) hbb2).trans p0
              have a1 := (bj.cell (p := ⟨b2, o2 + j * 3 + 1, none⟩) hbb2).trans p1
              have a2 := (bj.cell (p := ⟨b2, o2 + j * 3 + 2, none⟩) hbb2).trans p2
              have hse := stepsTo_succ hy
              have HSE := hide hse
              have hsl := stepsTo_len (os := ys) (fun o ho => (HST.out o ho).2.2) j (by rw [hyl]; omega)
              have hdk := (digs_len 3 y.toNat (by omega)).2
              have j0 : (0 : Int) ≤ j := by omega
              have j2 : (j : Int) < kk := by omega
              obtain ⟨wo, hwo⟩ : ∃ q, wr2.alloc (.cells #[.int .i64 x, .int .i64 y, .int .i64 z] 42) = q := ⟨_, rfl⟩
              have KO : Blk wo wr2.heap.size 42 #[.int .i64 x, .int .i64 y, .int .i64 z] := by rw [← hwo]; exact Blk.new wr2 _ _
              have bo : Below wr2.heap.size wr2 wo := by rw [← hwo]; exact (Below.refl _ _).alloc (Nat.le_refl _) _
              have hc : ∀ W, Below wo.heap.size wo W → W.cell? ⟨wr2.heap.size, 0, none⟩ = some (.int .i64 x) ∧ W.cell? ⟨wr2.heap.size, 1, none⟩ = some (.int .i64 y) ∧ W.cell? ⟨wr2.heap.size, 2, none⟩ = some (.int .i64 z) := fun W h => ⟨(KO.belowAll h).cell 0, (KO.belowAll h).cell 1, (KO.belowAll h).cell 2⟩
              have BZ : Below wo.heap.size wo wo.drew := (Below.refl _ _).drew
              have hlen0 : (P' ++ 115 :: (digs f.toNat ++ stepsTo ys j)).length ≤ 200 := by
                simp only [List.length_append, List.length_cons]; omega
              obtain ⟨T, hT⟩ : ∃ q, P' ++ 115 :: (digs f.toNat ++ stepsTo ys j) = q := ⟨_, rfl⟩
              rw [hT] at hlen0 ⊢
              have HT := hide hT
              have t1 := fun W : World => run_string_add_sum (P := Tryd.prog) (w := W) (str T) ⟨#[32]⟩ (by rw [str_size]; show _ + 1 ≤ _; omega)
              have t2 := fun (W : World) (q : UInt8) => run_string_add_sum (P := Tryd.prog) (w := W) (str T ++ ⟨#[32]⟩) (str [q]) (by rw [show (⟨#[32]⟩ : ByteArray) = str [32] from rfl, str_add, str_size, str_size]; simp; omega)
              have t3 := fun (W : World) (q : UInt8) => run_string_add_sum (P := Tryd.prog) (w := W) (str T ++ ⟨#[32]⟩ ++ str [q]) (str (digs y.toNat)) (by rw [show (⟨#[32]⟩ : ByteArray) = str [32] from rfl, str_add, str_add, str_size, str_size]; simp; omega)
              obtain ⟨k0c, k1c, k2c⟩ := hc wo (Below.refl _ _)
              have r1 := slice_rw1
              have v0 : IntKind.i64.wrap 0 = 0 := by decide
              have v1 : IntKind.i64.wrap 1 = 1 := by decide
              have v2 : IntKind.i64.wrap ((1 : Int) - 1) = 0 := by decide
              have v3 : IntKind.i64.wrap ((2 : Int) - 1) = 1 := by decide
              have r2 := slice_rw2
              clear hse p0 p1 p2 hy bj hT
              rcases hx12 with rfl | rfl
              · go_wp2_with fail
                try rw [hwo]
                go_region_held3 (fun W => W.cell? ⟨wr2.heap.size, 0, none⟩ = some (.int .i64 1) ∧ W.cell? ⟨wr2.heap.size, 1, none⟩ = some (.int .i64 y) ∧ W.cell? ⟨wr2.heap.size, 2, none⟩ = some (.int .i64 z))
                  (first | exact hc _ BZ)
                  (first | (go_at_call 37; refine (l1Number_i hy02.1 (by omega)).mono ?_; rintro e w7 ⟨rfl, b7⟩; replace BZ := below_step BZ b7))
                have BY := hide (below_step BJ.out (below_step bo BZ))
                clear hc BZ a0 a1 a2 c1
                go_wp2_with fail
                go_roundw
                case rel => exact ⟨j + 1, by go_num, by omega, by
                  rw [HSE.out, show (⟨#[32]⟩ : ByteArray) = str [32] from rfl, str_add, str_add, str_add, ← HT.out]
                  unfold stepT; simp, BY.out⟩
                case measure => simp [intOf]; omega
              · go_wp2_with fail
                try rw [hwo]
                go_region_held3 (fun W => W.cell? ⟨wr2.heap.size, 0, none⟩ = some (.int .i64 2) ∧ W.cell? ⟨wr2.heap.size, 1, none⟩ = some (.int .i64 y) ∧ W.cell? ⟨wr2.heap.size, 2, none⟩ = some (.int .i64 z))
                  (first | exact hc _ BZ)
                  (first | (go_at_call 37; refine (l1Number_i hy02.1 (by omega)).mono ?_; rintro e w7 ⟨rfl, b7⟩; replace BZ := below_step BZ b7))
                have BY := hide (below_step BJ.out (below_step bo BZ))
                clear hc BZ a0 a1 a2 c1
                go_wp2_with fail
                go_roundw
                case rel => exact ⟨j + 1, by go_num, by omega, by
                  rw [HSE.out, show (⟨#[32]⟩ : ByteArray) = str [32] from rfl, str_add, str_add, str_add, ← HT.out]
                  unfold stepT; simp, BY.out⟩
                case measure => simp [intOf]; omega
            · obtain rfl : j = kk := by omega
              have hse := stepsTo_all hyl
              have HSE := hide hse
              have BJ2 := BJ.out
              clear hse bj
              go_wp2_with fail
              go_roundw
              case rel => exact ⟨k + 1, by go_num, by omega, by rw [HSS.out, HP.out, ← List.append_assoc, HP'.out, HSE.out]; rfl, BJ2⟩
              case measure => simp [intOf]; omega
        · have hk0' : ¬ (0 : Int) < k := by omega
          rw [if_neg hk0, List.append_nil] at hP'
          subst hP'
          have HP' := hide (show P ++ (if 0 < k then [59, 32] else []) = P by rw [if_neg hk0, List.append_nil])
          go_wp2_with (go_at_call 16; refine (spec_PlanValid_c hr2 hn hsm).mono ?_; rintro e w2 ⟨rfl, b2⟩; rw [V.out]; have c0 := ((below_step BW.out b2).cell (p := ⟨b, off + k * 2, none⟩) hbb).trans Q0.out)
          refine (l1Number_i hf3.1 (by omega)).mono ?_
          rintro e w3 ⟨rfl, b3⟩
          have B3 := hide (below_step (below_step BW.out b2) b3)
          clear b2 b3 c0
          go_wp2_with fail
          go_loopw [3, 5] (fun s i W => ∃ j : Nat, i = .int .i64 j ∧ j ≤ kk ∧ s = .string (str (P ++ 115 :: (digs f.toNat ++ stepsTo ys j))) ∧ Below w.heap.size w W) (fun _ i _ => kk - (intOf i).toNat)
          case atStart => exact ⟨0, rfl, Nat.zero_le _, by rw [stepsTo_zero, List.append_nil, show (⟨#[115]⟩ : ByteArray) = str [115] from rfl, str_add, str_add]; simp, B3.out⟩
          case round =>
            clear B3
            rename World => wr2
            obtain ⟨j, rfl, hj, rfl, bj⟩ := hrel
            have BJ := hide bj
            have c1 := (bj.cell (p := ⟨b, off + k * 2 + 1, none⟩) hbb).trans Q1.out
            by_cases hjk : j < kk
            · obtain ⟨b2, o2, x, y, z, rfl, hbb2, hy, p0, p1, p2⟩ := hri.at_ hjk
              obtain ⟨hx12, hy02, hsb⟩ := HST.out _ (List.mem_of_getElem? hy)
              dsimp only at hx12 hy02
              have a0 := (bj.cell (p := ⟨b2, o2 + j * 3, none⟩) hbb2).trans p0
              have a1 := (bj.cell (p := ⟨b2, o2 + j * 3 + 1, none⟩) hbb2).trans p1
              have a2 := (bj.cell (p := ⟨b2, o2 + j * 3 + 2, none⟩) hbb2).trans p2
              have hse := stepsTo_succ hy
              have HSE := hide hse
              have hsl := stepsTo_len (os := ys) (fun o ho => (HST.out o ho).2.2) j (by rw [hyl]; omega)
              have hdk := (digs_len 3 y.toNat (by omega)).2
              have j0 : (0 : Int) ≤ j := by omega
              have j2 : (j : Int) < kk := by omega
              obtain ⟨wo, hwo⟩ : ∃ q, wr2.alloc (.cells #[.int .i64 x, .int .i64 y, .int .i64 z] 42) = q := ⟨_, rfl⟩
              have KO : Blk wo wr2.heap.size 42 #[.int .i64 x, .int .i64 y, .int .i64 z] := by rw [← hwo]; exact Blk.new wr2 _ _
              have bo : Below wr2.heap.size wr2 wo := by rw [← hwo]; exact (Below.refl _ _).alloc (Nat.le_refl _) _
              have hc : ∀ W, Below wo.heap.size wo W → W.cell? ⟨wr2.heap.size, 0, none⟩ = some (.int .i64 x) ∧ W.cell? ⟨wr2.heap.size, 1, none⟩ = some (.int .i64 y) ∧ W.cell? ⟨wr2.heap.size, 2, none⟩ = some (.int .i64 z) := fun W h => ⟨(KO.belowAll h).cell 0, (KO.belowAll h).cell 1, (KO.belowAll h).cell 2⟩
              have BZ : Below wo.heap.size wo wo.drew := (Below.refl _ _).drew
              have hlen0 : (P ++ 115 :: (digs f.toNat ++ stepsTo ys j)).length ≤ 200 := by
                simp only [List.length_append, List.length_cons]; omega
              obtain ⟨T, hT⟩ : ∃ q, P ++ 115 :: (digs f.toNat ++ stepsTo ys j) = q := ⟨_, rfl⟩
              rw [hT] at hlen0 ⊢
              have HT := hide hT
              have t1 := fun W : World => run_string_add_sum (P := Tryd.prog) (w := W) (str T) ⟨#[32]⟩ (by rw [str_size]; show _ + 1 ≤ _; omega)
              have t2 := fun (W : World) (q : UInt8) => run_string_add_sum (P := Tryd.prog) (w := W) (str T ++ ⟨#[32]⟩) (str [q]) (by rw [show (⟨#[32]⟩ : ByteArray) = str [32] from rfl, str_add, str_size, str_size]; simp; omega)
              have t3 := fun (W : World) (q : UInt8) => run_string_add_sum (P := Tryd.prog) (w := W) (str T ++ ⟨#[32]⟩ ++ str [q]) (str (digs y.toNat)) (by rw [show (⟨#[32]⟩ : ByteArray) = str [32] from rfl, str_add, str_add, str_size, str_size]; simp; omega)
              obtain ⟨k0c, k1c, k2c⟩ := hc wo (Below.refl _ _)
              have r1 := slice_rw1
              have v0 : IntKind.i64.wrap 0 = 0 := by decide
              have v1 : IntKind.i64.wrap 1 = 1 := by decide
              have v2 : IntKind.i64.wrap ((1 : Int) - 1) = 0 := by decide
              have v3 : IntKind.i64.wrap ((2 : Int) - 1) = 1 := by decide
              have r2 := slice_rw2
              clear hse p0 p1 p2 hy bj hT
              rcases hx12 with rfl | rfl
              · go_wp2_with fail
                try rw [hwo]
                go_region_held3 (fun W => W.cell? ⟨wr2.heap.size, 0, none⟩ = some (.int .i64 1) ∧ W.cell? ⟨wr2.heap.size, 1, none⟩ = some (.int .i64 y) ∧ W.cell? ⟨wr2.heap.size, 2, none⟩ = some (.int .i64 z))
                  (first | exact hc _ BZ)
                  (first | (go_at_call 37; refine (l1Number_i hy02.1 (by omega)).mono ?_; rintro e w7 ⟨rfl, b7⟩; replace BZ := below_step BZ b7))
                have BY := hide (below_step BJ.out (below_step bo BZ))
                clear hc BZ a0 a1 a2 c1
                go_wp2_with fail
                go_roundw
                case rel => exact ⟨j + 1, by go_num, by omega, by
                  rw [HSE.out, show (⟨#[32]⟩ : ByteArray) = str [32] from rfl, str_add, str_add, str_add, ← HT.out]
                  unfold stepT; simp, BY.out⟩
                case measure => simp [intOf]; omega
              · go_wp2_with fail
                try rw [hwo]
                go_region_held3 (fun W => W.cell? ⟨wr2.heap.size, 0, none⟩ = some (.int .i64 2) ∧ W.cell? ⟨wr2.heap.size, 1, none⟩ = some (.int .i64 y) ∧ W.cell? ⟨wr2.heap.size, 2, none⟩ = some (.int .i64 z))
                  (first | exact hc _ BZ)
                  (first | (go_at_call 37; refine (l1Number_i hy02.1 (by omega)).mono ?_; rintro e w7 ⟨rfl, b7⟩; replace BZ := below_step BZ b7))
                have BY := hide (below_step BJ.out (below_step bo BZ))
                clear hc BZ a0 a1 a2 c1
                go_wp2_with fail
                go_roundw
                case rel => exact ⟨j + 1, by go_num, by omega, by
                  rw [HSE.out, show (⟨#[32]⟩ : ByteArray) = str [32] from rfl, str_add, str_add, str_add, ← HT.out]
                  unfold stepT; simp, BY.out⟩
                case measure => simp [intOf]; omega
            · obtain rfl : j = kk := by omega
              have hse := stepsTo_all hyl
              have HSE := hide hse
              have BJ2 := BJ.out
              clear hse bj
              go_wp2_with fail
              go_roundw
              case rel => exact ⟨k + 1, by go_num, by omega, by rw [HSS.out, HP.out, ← List.append_assoc, HP'.out, HSE.out]; rfl, BJ2⟩
              case measure => simp [intOf]; omega
      · obtain rfl : k = n := by omega
        go_wp2_with fail
        go_ret
        exact ⟨by rw [F.out]; rfl, bw⟩

end Go.Proofs.YtefopnkicllpeaaDoor
