/- l20Plan: a plan; l20Turns: a schedule. Printed by mk_drawplan.py. -/
import Derived.Test.YtefopnkicllpeaaDoorDrawPP
import Derived.Test.YtefopnkicllpeaaDoorRunS
import Derived.Deep.DeepCutAuto
namespace Go.Proofs.YtefopnkicllpeaaDoor
open Go.RowKit

theorem run_make_Op5 (w : World) :
    (Instr.makeSlice 35 (.int .i64 5) (.int .i64 5)).run Tryd.prog w = .ok (.slice (some ⟨w.heap.size, 0, none⟩) 5 5) (w.alloc (.cells ((List.replicate (5 * 3) (Value.int .i64 0)).toArray) 42)) := by
  obtain ⟨i, hi, hz, hs, hb⟩ := info_parts infoOpz
  have := run_make_rowN 35 42 i (.agg #[.int .i64 0, .int .i64 0, .int .i64 0]) Tryd.underlying35 hi hz .i64 .i64 5 5 (Nat.le_refl _) (by rw [hb]; omega) (by omega) w
  have e1 : madeCells (Value.agg #[.int .i64 0, .int .i64 0, .int .i64 0]).cells (5 * i.size) = (List.replicate (5 * 3) (Value.int .i64 0)).toArray := by
    rw [hs, ← Array.toArray_toList (xs := madeCells _ _)]
    rw [show (Value.agg #[.int .i64 0, .int .i64 0, .int .i64 0]).cells = #[Value.int .i64 0, Value.int .i64 0, Value.int .i64 0] from rfl, toList_madeCells3']
  rw [e1] at this
  exact this
theorem SV.five {w : World} {lo : Nat} (hl : lo ≤ w.heap.size) : SV (w.alloc (.cells ((List.replicate (5 * 3) (Value.int .i64 0)).toArray) 42)) lo (.slice (some ⟨w.heap.size, 0, none⟩) 5 5) :=
  ⟨5, List.replicate 5 (0, 0, 0), _, _, rfl, O3.of_blk (Blk.new w _ _) hl rfl rfl (by omega), by omega⟩
theorem TV.new {w : World} {g lo : Nat} {f0 f1 f2 f3 f4 f5 : Int} {q0 q1 q2 q3 q4 q5 : Value} (hl : lo ≤ w.heap.size)
    (kg : w.grownBy (w.alloc (.cells #[.int .i64 f0, q0, .int .i64 f1, q1, .int .i64 f2, q2, .int .i64 f3, q3, .int .i64 f4, q4, .int .i64 f5, q5] 37)) (some g)) (hgl : g < lo)
    (s0 : SV w lo q0) (s1 : SV w lo q1) (s2 : SV w lo q2) (s3 : SV w lo q3) (s4 : SV w lo q4) (s5 : SV w lo q5) :
    TV (w.alloc (.cells #[.int .i64 f0, q0, .int .i64 f1, q1, .int .i64 f2, q2, .int .i64 f3, q3, .int .i64 f4, q4, .int .i64 f5, q5] 37)) lo (.slice (some ⟨w.heap.size, 0, none⟩) 6 6) := by
  have K := Blk.new w 37 #[.int .i64 f0, q0, .int .i64 f1, q1, .int .i64 f2, q2, .int .i64 f3, q3, .int .i64 f4, q4, .int .i64 f5, q5]
  refine ⟨_, rfl, hl, by simp, fun i hi => ?_⟩
  match i, hi with
  | 0, _ => exact ⟨f0, q0, K.cell 0, K.cell 1, s0.kp kg hgl⟩
  | 1, _ => exact ⟨f1, q1, K.cell 2, K.cell 3, s1.kp kg hgl⟩
  | 2, _ => exact ⟨f2, q2, K.cell 4, K.cell 5, s2.kp kg hgl⟩
  | 3, _ => exact ⟨f3, q3, K.cell 6, K.cell 7, s3.kp kg hgl⟩
  | 4, _ => exact ⟨f4, q4, K.cell 8, K.cell 9, s4.kp kg hgl⟩
  | 5, _ => exact ⟨f5, q5, K.cell 10, K.cell 11, s5.kp kg hgl⟩

def PlanR (w : World) (g P : Nat) (e : Ending) (w' : World) : Prop := ∃ v n, e = .returned v ∧ OutV w' w.heap.size v n ∧ n ≤ 5 ∧ RD w' g P ∧ w.grownBy w' (some g)
set_option maxRecDepth 100000 in
set_option maxHeartbeats 16000000 in
theorem l20Plan_c {w : World} {g P : Nat} {q : Int} (hr : RD w g P) (hP : P ≤ 10000) (hq1 : 0 ≤ q) (hq2 : q ≤ 100000) :
    Calls Tryd.prog 30 #[.pointer (some ⟨g, 0, none⟩), .int .i64 q] w (PlanR w g (P + 100)) := by
  have hg := hr.lt
  go_enter Tryd.func30, Tryd.ntmps30
  have O0 := OutV.zero w
  have R0' := hr.alloc (.cells #[] 37)
  go_wp2_with fail
  refine (pick_c R0' (by omega) (by omega) (by omega)).mono ?_
  rintro e w1 ⟨x, rfl, x0, x1, r1, g1⟩
  obtain ⟨j0, rfl⟩ : ∃ j : Nat, x = j := ⟨x.toNat, by omega⟩
  have G1 := grown_trans' (grown_of_below (beB0 w (.cells #[] 37)) (some g)) g1
  have O1 := hide (O0.kp g1 hg)
  have hz1 : w.heap.size < w1.heap.size := by have := g1.size; simp at this; omega
  clear O0 R0' g1
  go_wp2_with fail
  go_loopw [5, 6] (fun v i wr => ∃ (j n : Nat), i = .int .i64 j ∧ n + j ≤ 4 ∧ OutV wr w.heap.size v n ∧ RD wr g (P + 80 - 12 * j) ∧ w.grownBy wr (some g) ∧ w.heap.size < wr.heap.size) (fun _ i _ => (intOf i).toNat)
  case atStart => exact ⟨j0, 0, rfl, by omega, O1.out, r1.mono (by omega), G1, hz1⟩
  case round =>
    clear O1 r1 G1 hz1
    obtain ⟨j, n, rfl, hj, hO, hR, hG, hz⟩ := hrel
    have HO := hide hO; have HG := hide hG
    obtain ⟨Av, cv, hV⟩ : ∃ A c, u5 = .slice A n c := by
      obtain ⟨es, ds, hD, _⟩ := hO
      rcases hD.row.2 with ⟨h1, h2⟩ | ⟨g', cap, cur, h1, _⟩
      · exact ⟨none, 0, by rw [h1, h2]⟩
      · exact ⟨_, cap, h1⟩
    clear hO hG
    by_cases hlt : 0 < j
    · have hlt' : (0 : Int) < j := by omega
      subst hV
      have hgl : g < w.heap.size := hg
      go_wp2_with fail
      refine (pick_c hR (by omega) (by omega) (by omega)).mono ?_
      rintro e w2 ⟨f, rfl, f0, f1, r2, g2⟩
      have G2 := grown_trans' HG.out g2
      have O2 := HO.out.kp g2 hgl
      have hz2 : w.heap.size < w2.heap.size := by have := g2.size; omega
      have KD := Blk.new w2 37 #[.int .i64 f, .slice none 0 0]
      have r2a := r2.alloc (.cells #[.int .i64 f, .slice none 0 0] 37)
      have G2a := grown_alloc G2 (.cells #[.int .i64 f, .slice none 0 0] 37)
      have O2a := (OutB.of O2).kp (grown_of_below (beB0 w2 (.cells #[.int .i64 f, .slice none 0 0] 37)) (some g)) hgl
      clear HO HG hR g2 G2 O2 r2
      go_wp2_with fail
      refine (pick_c r2a (by omega) (by omega) (by omega)).mono ?_
      rintro e w3 ⟨y, rfl, y0, y1, r3, g3⟩
      obtain ⟨j1, rfl⟩ : ∃ q : Nat, y = q := ⟨y.toNat, by omega⟩
      have G3 := hide (grown_trans' G2a g3)
      have O3' := hide (O2a.kp g3 hgl)
      have K3 := hide (KD.grown g3 (fun e => by injection e with e; omega))
      have hz3 : w2.heap.size < w3.heap.size := K3.out.lt
      clear KD r2a G2a O2a g3
      obtain ⟨db, hdb⟩ : ∃ q, w2.heap.size = q := ⟨_, rfl⟩
      rw [hdb] at K3 hz3 O3' ⊢
      have hdw : w.heap.size < db := by omega
      clear hdb hz2
      go_wp2_with fail
      go_loopw [8] (fun i wr2 => ∃ (j2 k : Nat) (ts : List T3) (A : Option Addr) (c : Nat), i = .int .i64 j2 ∧ k + j2 ≤ 4 ∧ Blk wr2 db 37 #[.int .i64 f, .slice A k c] ∧ O3 42 wr2 (db + 1) (.slice A k c) k ts ∧ OutB wr2 w.heap.size db (.slice Av n cv) n ∧ RD wr2 g (P + 80 - 12 * j + 10 - 2 * j2) ∧ w.grownBy wr2 (some g) ∧ db < wr2.heap.size) (fun i _ => (intOf i).toNat)
      case atStart => exact ⟨1 + j1, 0, [], none, 0, by go_num, by omega, K3.out, ⟨World.ownsRow_nil _ _ _ _, by omega⟩, O3'.out, r3.mono (by omega), G3.out, hz3⟩
      case round =>
        clear O3' r3 G3 hz3 K3
        obtain ⟨j2, k, ts, A, c, rfl, hkj, hKb, hTs, hO, R0, hG, hzr⟩ := hrel
        have HO := hide hO; have HG := hide hG; have HK := hide hKb; have HT := hide hTs
        clear hO hG hKb hTs
        by_cases hlt2 : 0 < j2
        · have hlt2' : (0 : Int) < j2 := by omega
          have hgl2 : g < db + 1 := by omega
          obtain ⟨P2, hP2⟩ : ∃ p, P + 80 - 12 * j + 10 - 2 * j2 = p := ⟨_, rfl⟩
          rw [hP2] at R0
          go_upto_region 9 with fail
          rename World => W0
          refine wp_region_invT 12 (fun a0 l a' w' => l.size = 15 ∧ ∃ u26 u27 u28 u29 u30 u31 u32 u33 u34 u35 u36 u37 : Value, a' = ⟨(over a0.tmps.toList [none, none, none, none, none, none, none, none, none, none, none, none, none, none, none, none, none, none, none, none, none, none, none, none, none, none, some u26, some u27, some u28, some u29, some u30, some u31, some u32, some u33, some u34, some u35, some u36, some u37]).toArray, a0.defers⟩ ∧ OutB w' w.heap.size db (.slice Av n cv) n ∧ Blk w' db 37 #[.int .i64 f, .slice A k c] ∧ O3 42 w' (db + 1) (.slice A k c) k ts ∧ W0.grownBy w' (some g) ∧ db + 1 ≤ w'.heap.size ∧ RD w' g (P2 + 2) ∧ Nst l 3 (RD w' g P2) ∧ Nst l 7 (RD w' g (P2 + 1)) ∧ Lst l 0 (u26 = .pointer (some ⟨db, 1, none⟩)) ∧ Lst l 1 (u27 = .slice A k c) ∧ Lst l 2 (u28 = .pointer (some ⟨g, 0, none⟩)) ∧ Lst l 3 (NV 2 u29) ∧ Lst l 4 (IV u30) ∧ Lst l 5 (TI w' (db + 1) u31) ∧ Lst l 6 (u32 = .pointer (some ⟨g, 0, none⟩)) ∧ Lst l 7 (NV 5 u33) ∧ Lst l 8 (PI w' (db + 1) u34) ∧ Lst l 9 (IV u35) ∧ Lst l 10 (OPv u36) ∧ Lst l 11 (RO w' (db + 1) u37)) (by kernel_rfl) (by decide) (by kernel_rfl) (by kernel_rfl) (fun l a' w' h => h.1) ⟨by rfl, _, _, _, _, _, _, _, _, _, _, _, _, rfl, ?G0, ?G1, ?G2, ?G3, ?G4, ?G5, ?N0, ?N1, Lst.none, Lst.none, Lst.none, Lst.none, Lst.none, Lst.none, Lst.none, Lst.none, Lst.none, Lst.none, Lst.none, Lst.none⟩ ?steps ?fin
          case G0 => exact HO.out.kp (grown_of_below (Below.refl _ _).drew _) hgl
          case G1 => exact HK.out
          case G2 => exact HT.out.kp (grown_of_below (Below.refl _ _).drew _) hgl2
          case G3 => exact grown_of_below (Below.refl _ _).drew _
          case G4 => exact by show db + 1 ≤ W0.heap.size; omega
          case G5 => exact (R0.below (Below.refl _ _).drew).mono (by omega)
          case N0 => exact Nst.all (R0.below (Below.refl _ _).drew)
          case N1 => exact Nst.all ((R0.below (Below.refl _ _).drew).mono (by omega))
          case steps =>
            refine StepsOK.cons (fun l a' w' K' hK hl hd hI => ?_) ?_
            · obtain ⟨hsz, hI⟩ := hI
              obtain ⟨u26, hI⟩ := hI
              obtain ⟨u27, hI⟩ := hI
              obtain ⟨u28, hI⟩ := hI
              obtain ⟨u29, hI⟩ := hI
              obtain ⟨u30, hI⟩ := hI
              obtain ⟨u31, hI⟩ := hI
              obtain ⟨u32, hI⟩ := hI
              obtain ⟨u33, hI⟩ := hI
              obtain ⟨u34, hI⟩ := hI
              obtain ⟨u35, hI⟩ := hI
              obtain ⟨u36, hI⟩ := hI
              obtain ⟨u37, hI⟩ := hI
              obtain ⟨ha, hI⟩ := hI
              obtain ⟨h0, hI⟩ := hI
              obtain ⟨h1, hI⟩ := hI
              obtain ⟨h2, hI⟩ := hI
              obtain ⟨h3, hI⟩ := hI
              obtain ⟨h4, hI⟩ := hI
              obtain ⟨h5, hI⟩ := hI
              obtain ⟨n3, hI⟩ := hI
              obtain ⟨n7, hI⟩ := hI
              obtain ⟨l0, hI⟩ := hI
              obtain ⟨l1, hI⟩ := hI
              obtain ⟨l2, hI⟩ := hI
              obtain ⟨l3, hI⟩ := hI
              obtain ⟨l4, hI⟩ := hI
              obtain ⟨l5, hI⟩ := hI
              obtain ⟨l6, hI⟩ := hI
              obtain ⟨l7, hI⟩ := hI
              obtain ⟨l8, hI⟩ := hI
              obtain ⟨l9, hI⟩ := hI
              obtain ⟨l10, hI⟩ := hI
              have l11 := hI; clear hI
              subst ha
              clear hd
              simp only [over]
              go_simp
              exact hK.out _ _ ⟨by simpa using hsz, _, _, _, _, _, _, _, _, _, _, _, _, rfl, h0, h1, h2, h3, h4, h5, n3.set_ne (by decide), n7.set_ne (by decide), Lst.now rfl, l1.set_ne (by decide), l2.set_ne (by decide), l3.set_ne (by decide), l4.set_ne (by decide), l5.set_ne (by decide), l6.set_ne (by decide), l7.set_ne (by decide), l8.set_ne (by decide), l9.set_ne (by decide), l10.set_ne (by decide), l11.set_ne (by decide)⟩
            refine StepsOK.cons (fun l a' w' K' hK hl hd hI => ?_) ?_
            · obtain ⟨hsz, hI⟩ := hI
              obtain ⟨u26, hI⟩ := hI
              obtain ⟨u27, hI⟩ := hI
              obtain ⟨u28, hI⟩ := hI
              obtain ⟨u29, hI⟩ := hI
              obtain ⟨u30, hI⟩ := hI
              obtain ⟨u31, hI⟩ := hI
              obtain ⟨u32, hI⟩ := hI
              obtain ⟨u33, hI⟩ := hI
              obtain ⟨u34, hI⟩ := hI
              obtain ⟨u35, hI⟩ := hI
              obtain ⟨u36, hI⟩ := hI
              obtain ⟨u37, hI⟩ := hI
              obtain ⟨ha, hI⟩ := hI
              obtain ⟨h0, hI⟩ := hI
              obtain ⟨h1, hI⟩ := hI
              obtain ⟨h2, hI⟩ := hI
              obtain ⟨h3, hI⟩ := hI
              obtain ⟨h4, hI⟩ := hI
              obtain ⟨h5, hI⟩ := hI
              obtain ⟨n3, hI⟩ := hI
              obtain ⟨n7, hI⟩ := hI
              obtain ⟨l0, hI⟩ := hI
              obtain ⟨l1, hI⟩ := hI
              obtain ⟨l2, hI⟩ := hI
              obtain ⟨l3, hI⟩ := hI
              obtain ⟨l4, hI⟩ := hI
              obtain ⟨l5, hI⟩ := hI
              obtain ⟨l6, hI⟩ := hI
              obtain ⟨l7, hI⟩ := hI
              obtain ⟨l8, hI⟩ := hI
              obtain ⟨l9, hI⟩ := hI
              obtain ⟨l10, hI⟩ := hI
              have l11 := hI; clear hI
              subst ha
              have r0 := l0.on (hd 0 (by decide))
              clear hd
              subst r0
              obtain ⟨_, d1, _, _⟩ := h1.two
              simp only [over]
              go_simp
              exact hK.out _ _ ⟨by simpa using hsz, _, _, _, _, _, _, _, _, _, _, _, _, rfl, h0, h1, h2, h3, h4, h5, n3.set_ne (by decide), n7.set_ne (by decide), l0.set_ne (by decide), Lst.now rfl, l2.set_ne (by decide), l3.set_ne (by decide), l4.set_ne (by decide), l5.set_ne (by decide), l6.set_ne (by decide), l7.set_ne (by decide), l8.set_ne (by decide), l9.set_ne (by decide), l10.set_ne (by decide), l11.set_ne (by decide)⟩
            refine StepsOK.cons (fun l a' w' K' hK hl hd hI => ?_) ?_
            · obtain ⟨hsz, hI⟩ := hI
              obtain ⟨u26, hI⟩ := hI
              obtain ⟨u27, hI⟩ := hI
              obtain ⟨u28, hI⟩ := hI
              obtain ⟨u29, hI⟩ := hI
              obtain ⟨u30, hI⟩ := hI
              obtain ⟨u31, hI⟩ := hI
              obtain ⟨u32, hI⟩ := hI
              obtain ⟨u33, hI⟩ := hI
              obtain ⟨u34, hI⟩ := hI
              obtain ⟨u35, hI⟩ := hI
              obtain ⟨u36, hI⟩ := hI
              obtain ⟨u37, hI⟩ := hI
              obtain ⟨ha, hI⟩ := hI
              obtain ⟨h0, hI⟩ := hI
              obtain ⟨h1, hI⟩ := hI
              obtain ⟨h2, hI⟩ := hI
              obtain ⟨h3, hI⟩ := hI
              obtain ⟨h4, hI⟩ := hI
              obtain ⟨h5, hI⟩ := hI
              obtain ⟨n3, hI⟩ := hI
              obtain ⟨n7, hI⟩ := hI
              obtain ⟨l0, hI⟩ := hI
              obtain ⟨l1, hI⟩ := hI
              obtain ⟨l2, hI⟩ := hI
              obtain ⟨l3, hI⟩ := hI
              obtain ⟨l4, hI⟩ := hI
              obtain ⟨l5, hI⟩ := hI
              obtain ⟨l6, hI⟩ := hI
              obtain ⟨l7, hI⟩ := hI
              obtain ⟨l8, hI⟩ := hI
              obtain ⟨l9, hI⟩ := hI
              obtain ⟨l10, hI⟩ := hI
              have l11 := hI; clear hI
              subst ha
              clear hd
              simp only [over]
              go_simp
              exact hK.out _ _ ⟨by simpa using hsz, _, _, _, _, _, _, _, _, _, _, _, _, rfl, h0, h1, h2, h3, h4, h5, n3.set_ne (by decide), n7.set_ne (by decide), l0.set_ne (by decide), l1.set_ne (by decide), Lst.now rfl, l3.set_ne (by decide), l4.set_ne (by decide), l5.set_ne (by decide), l6.set_ne (by decide), l7.set_ne (by decide), l8.set_ne (by decide), l9.set_ne (by decide), l10.set_ne (by decide), l11.set_ne (by decide)⟩
            refine StepsOK.cons (fun l a' w' K' hK hl hd hI => ?_) ?_
            · obtain ⟨hsz, hI⟩ := hI
              obtain ⟨u26, hI⟩ := hI
              obtain ⟨u27, hI⟩ := hI
              obtain ⟨u28, hI⟩ := hI
              obtain ⟨u29, hI⟩ := hI
              obtain ⟨u30, hI⟩ := hI
              obtain ⟨u31, hI⟩ := hI
              obtain ⟨u32, hI⟩ := hI
              obtain ⟨u33, hI⟩ := hI
              obtain ⟨u34, hI⟩ := hI
              obtain ⟨u35, hI⟩ := hI
              obtain ⟨u36, hI⟩ := hI
              obtain ⟨u37, hI⟩ := hI
              obtain ⟨ha, hI⟩ := hI
              obtain ⟨h0, hI⟩ := hI
              obtain ⟨h1, hI⟩ := hI
              obtain ⟨h2, hI⟩ := hI
              obtain ⟨h3, hI⟩ := hI
              obtain ⟨h4, hI⟩ := hI
              obtain ⟨h5, hI⟩ := hI
              obtain ⟨n3, hI⟩ := hI
              obtain ⟨n7, hI⟩ := hI
              obtain ⟨l0, hI⟩ := hI
              obtain ⟨l1, hI⟩ := hI
              obtain ⟨l2, hI⟩ := hI
              obtain ⟨l3, hI⟩ := hI
              obtain ⟨l4, hI⟩ := hI
              obtain ⟨l5, hI⟩ := hI
              obtain ⟨l6, hI⟩ := hI
              obtain ⟨l7, hI⟩ := hI
              obtain ⟨l8, hI⟩ := hI
              obtain ⟨l9, hI⟩ := hI
              obtain ⟨l10, hI⟩ := hI
              have l11 := hI; clear hI
              subst ha
              have r2 := l2.on (hd 2 (by decide))
              clear hd
              subst r2
              simp only [over]
              go_simp
              go_at_call 32
              refine (pick_c (n3.on hl) (by omega) (by omega) (by omega)).mono ?_
              rintro e w9 ⟨x, rfl, x0, x1, r9, g9⟩
              go_simp
              have kg := g9
              exact hK.out _ _ ⟨by simpa using hsz, _, _, _, _, _, _, _, _, _, _, _, _, rfl, h0.kp kg hgl, h1.grown kg (fun e => by injection e with e; omega), h2.kp kg hgl2, grown_trans' h3 kg, Nat.le_trans h4 kg.size, r9.mono (by omega), Nst.gone hl, (n7.set_ne (by decide)).mono (fun _ => r9), l0.set_ne (by decide), l1.set_ne (by decide), l2.set_ne (by decide), Lst.now ⟨x.toNat, by rw [Int.toNat_of_nonneg x0], by omega⟩, l4.set_ne (by decide), (l5.set_ne (by decide)).mono (fun h => h.kp kg hgl2), l6.set_ne (by decide), l7.set_ne (by decide), (l8.set_ne (by decide)).mono (fun h => h.kp kg hgl2), l9.set_ne (by decide), l10.set_ne (by decide), (l11.set_ne (by decide)).mono (fun h => h.kp kg hgl2)⟩
            refine StepsOK.cons (fun l a' w' K' hK hl hd hI => ?_) ?_
            · obtain ⟨hsz, hI⟩ := hI
              obtain ⟨u26, hI⟩ := hI
              obtain ⟨u27, hI⟩ := hI
              obtain ⟨u28, hI⟩ := hI
              obtain ⟨u29, hI⟩ := hI
              obtain ⟨u30, hI⟩ := hI
              obtain ⟨u31, hI⟩ := hI
              obtain ⟨u32, hI⟩ := hI
              obtain ⟨u33, hI⟩ := hI
              obtain ⟨u34, hI⟩ := hI
              obtain ⟨u35, hI⟩ := hI
              obtain ⟨u36, hI⟩ := hI
              obtain ⟨u37, hI⟩ := hI
              obtain ⟨ha, hI⟩ := hI
              obtain ⟨h0, hI⟩ := hI
              obtain ⟨h1, hI⟩ := hI
              obtain ⟨h2, hI⟩ := hI
              obtain ⟨h3, hI⟩ := hI
              obtain ⟨h4, hI⟩ := hI
              obtain ⟨h5, hI⟩ := hI
              obtain ⟨n3, hI⟩ := hI
              obtain ⟨n7, hI⟩ := hI
              obtain ⟨l0, hI⟩ := hI
              obtain ⟨l1, hI⟩ := hI
              obtain ⟨l2, hI⟩ := hI
              obtain ⟨l3, hI⟩ := hI
              obtain ⟨l4, hI⟩ := hI
              obtain ⟨l5, hI⟩ := hI
              obtain ⟨l6, hI⟩ := hI
              obtain ⟨l7, hI⟩ := hI
              obtain ⟨l8, hI⟩ := hI
              obtain ⟨l9, hI⟩ := hI
              obtain ⟨l10, hI⟩ := hI
              have l11 := hI; clear hI
              subst ha
              have r3 := l3.on (hd 3 (by decide))
              clear hd
              obtain ⟨x, rfl, hx⟩ := r3
              have x0 : (0 : Int) ≤ x := by omega
              have x1 : (x : Int) < 2 := by omega
              simp only [over]
              go_simp
              exact hK.out _ _ ⟨by simpa using hsz, _, _, _, _, _, _, _, _, _, _, _, _, rfl, h0, h1, h2, h3, h4, h5, n3.set_ne (by decide), n7.set_ne (by decide), l0.set_ne (by decide), l1.set_ne (by decide), l2.set_ne (by decide), l3.set_ne (by decide), Lst.now ⟨_, rfl⟩, l5.set_ne (by decide), l6.set_ne (by decide), l7.set_ne (by decide), l8.set_ne (by decide), l9.set_ne (by decide), l10.set_ne (by decide), l11.set_ne (by decide)⟩
            refine StepsOK.cons (fun l a' w' K' hK hl hd hI => ?_) ?_
            · obtain ⟨hsz, hI⟩ := hI
              obtain ⟨u26, hI⟩ := hI
              obtain ⟨u27, hI⟩ := hI
              obtain ⟨u28, hI⟩ := hI
              obtain ⟨u29, hI⟩ := hI
              obtain ⟨u30, hI⟩ := hI
              obtain ⟨u31, hI⟩ := hI
              obtain ⟨u32, hI⟩ := hI
              obtain ⟨u33, hI⟩ := hI
              obtain ⟨u34, hI⟩ := hI
              obtain ⟨u35, hI⟩ := hI
              obtain ⟨u36, hI⟩ := hI
              obtain ⟨u37, hI⟩ := hI
              obtain ⟨ha, hI⟩ := hI
              obtain ⟨h0, hI⟩ := hI
              obtain ⟨h1, hI⟩ := hI
              obtain ⟨h2, hI⟩ := hI
              obtain ⟨h3, hI⟩ := hI
              obtain ⟨h4, hI⟩ := hI
              obtain ⟨h5, hI⟩ := hI
              obtain ⟨n3, hI⟩ := hI
              obtain ⟨n7, hI⟩ := hI
              obtain ⟨l0, hI⟩ := hI
              obtain ⟨l1, hI⟩ := hI
              obtain ⟨l2, hI⟩ := hI
              obtain ⟨l3, hI⟩ := hI
              obtain ⟨l4, hI⟩ := hI
              obtain ⟨l5, hI⟩ := hI
              obtain ⟨l6, hI⟩ := hI
              obtain ⟨l7, hI⟩ := hI
              obtain ⟨l8, hI⟩ := hI
              obtain ⟨l9, hI⟩ := hI
              obtain ⟨l10, hI⟩ := hI
              have l11 := hI; clear hI
              subst ha
              clear hd
              simp only [over]
              go_simp
              have kb := beB0 w' (.cells #[.int .i64 0, .int .i64 0, .int .i64 1, .int .i64 1, .int .i64 2] 3)
              have kg := grown_of_below kb (some g)
              exact hK.out _ _ ⟨by simpa using hsz, _, _, _, _, _, _, _, _, _, _, _, _, rfl, h0.kp kg hgl, h1.grown kg (fun e => by injection e with e; omega), h2.kp kg hgl2, grown_trans' h3 kg, Nat.le_trans h4 kg.size, h5.below kb, (n3.set_ne (by decide)).mono (fun h => h.below kb), (n7.set_ne (by decide)).mono (fun h => h.below kb), l0.set_ne (by decide), l1.set_ne (by decide), l2.set_ne (by decide), l3.set_ne (by decide), l4.set_ne (by decide), Lst.now (TI.new h4 _ _ _ _ _), l6.set_ne (by decide), l7.set_ne (by decide), (l8.set_ne (by decide)).mono (fun h => h.kp kg hgl2), l9.set_ne (by decide), l10.set_ne (by decide), (l11.set_ne (by decide)).mono (fun h => h.kp kg hgl2)⟩
            refine StepsOK.cons (fun l a' w' K' hK hl hd hI => ?_) ?_
            · obtain ⟨hsz, hI⟩ := hI
              obtain ⟨u26, hI⟩ := hI
              obtain ⟨u27, hI⟩ := hI
              obtain ⟨u28, hI⟩ := hI
              obtain ⟨u29, hI⟩ := hI
              obtain ⟨u30, hI⟩ := hI
              obtain ⟨u31, hI⟩ := hI
              obtain ⟨u32, hI⟩ := hI
              obtain ⟨u33, hI⟩ := hI
              obtain ⟨u34, hI⟩ := hI
              obtain ⟨u35, hI⟩ := hI
              obtain ⟨u36, hI⟩ := hI
              obtain ⟨u37, hI⟩ := hI
              obtain ⟨ha, hI⟩ := hI
              obtain ⟨h0, hI⟩ := hI
              obtain ⟨h1, hI⟩ := hI
              obtain ⟨h2, hI⟩ := hI
              obtain ⟨h3, hI⟩ := hI
              obtain ⟨h4, hI⟩ := hI
              obtain ⟨h5, hI⟩ := hI
              obtain ⟨n3, hI⟩ := hI
              obtain ⟨n7, hI⟩ := hI
              obtain ⟨l0, hI⟩ := hI
              obtain ⟨l1, hI⟩ := hI
              obtain ⟨l2, hI⟩ := hI
              obtain ⟨l3, hI⟩ := hI
              obtain ⟨l4, hI⟩ := hI
              obtain ⟨l5, hI⟩ := hI
              obtain ⟨l6, hI⟩ := hI
              obtain ⟨l7, hI⟩ := hI
              obtain ⟨l8, hI⟩ := hI
              obtain ⟨l9, hI⟩ := hI
              obtain ⟨l10, hI⟩ := hI
              have l11 := hI; clear hI
              subst ha
              clear hd
              simp only [over]
              go_simp
              exact hK.out _ _ ⟨by simpa using hsz, _, _, _, _, _, _, _, _, _, _, _, _, rfl, h0, h1, h2, h3, h4, h5, n3.set_ne (by decide), n7.set_ne (by decide), l0.set_ne (by decide), l1.set_ne (by decide), l2.set_ne (by decide), l3.set_ne (by decide), l4.set_ne (by decide), l5.set_ne (by decide), Lst.now rfl, l7.set_ne (by decide), l8.set_ne (by decide), l9.set_ne (by decide), l10.set_ne (by decide), l11.set_ne (by decide)⟩
            refine StepsOK.cons (fun l a' w' K' hK hl hd hI => ?_) ?_
            · obtain ⟨hsz, hI⟩ := hI
              obtain ⟨u26, hI⟩ := hI
              obtain ⟨u27, hI⟩ := hI
              obtain ⟨u28, hI⟩ := hI
              obtain ⟨u29, hI⟩ := hI
              obtain ⟨u30, hI⟩ := hI
              obtain ⟨u31, hI⟩ := hI
              obtain ⟨u32, hI⟩ := hI
              obtain ⟨u33, hI⟩ := hI
              obtain ⟨u34, hI⟩ := hI
              obtain ⟨u35, hI⟩ := hI
              obtain ⟨u36, hI⟩ := hI
              obtain ⟨u37, hI⟩ := hI
              obtain ⟨ha, hI⟩ := hI
              obtain ⟨h0, hI⟩ := hI
              obtain ⟨h1, hI⟩ := hI
              obtain ⟨h2, hI⟩ := hI
              obtain ⟨h3, hI⟩ := hI
              obtain ⟨h4, hI⟩ := hI
              obtain ⟨h5, hI⟩ := hI
              obtain ⟨n3, hI⟩ := hI
              obtain ⟨n7, hI⟩ := hI
              obtain ⟨l0, hI⟩ := hI
              obtain ⟨l1, hI⟩ := hI
              obtain ⟨l2, hI⟩ := hI
              obtain ⟨l3, hI⟩ := hI
              obtain ⟨l4, hI⟩ := hI
              obtain ⟨l5, hI⟩ := hI
              obtain ⟨l6, hI⟩ := hI
              obtain ⟨l7, hI⟩ := hI
              obtain ⟨l8, hI⟩ := hI
              obtain ⟨l9, hI⟩ := hI
              obtain ⟨l10, hI⟩ := hI
              have l11 := hI; clear hI
              subst ha
              have r6 := l6.on (hd 6 (by decide))
              have off3 := hd 3 (by decide)
              clear hd
              subst r6
              simp only [over]
              go_simp
              go_at_call 32
              refine (pick_c (n7.on hl) (by omega) (by omega) (by omega)).mono ?_
              rintro e w9 ⟨x, rfl, x0, x1, r9, g9⟩
              go_simp
              have kg := g9
              exact hK.out _ _ ⟨by simpa using hsz, _, _, _, _, _, _, _, _, _, _, _, _, rfl, h0.kp kg hgl, h1.grown kg (fun e => by injection e with e; omega), h2.kp kg hgl2, grown_trans' h3 kg, Nat.le_trans h4 kg.size, r9, Nst.off off3 (by decide), Nst.gone hl, l0.set_ne (by decide), l1.set_ne (by decide), l2.set_ne (by decide), l3.set_ne (by decide), l4.set_ne (by decide), (l5.set_ne (by decide)).mono (fun h => h.kp kg hgl2), l6.set_ne (by decide), Lst.now ⟨x.toNat, by rw [Int.toNat_of_nonneg x0], by omega⟩, (l8.set_ne (by decide)).mono (fun h => h.kp kg hgl2), l9.set_ne (by decide), l10.set_ne (by decide), (l11.set_ne (by decide)).mono (fun h => h.kp kg hgl2)⟩
            refine StepsOK.cons (fun l a' w' K' hK hl hd hI => ?_) ?_
            · obtain ⟨hsz, hI⟩ := hI
              obtain ⟨u26, hI⟩ := hI
              obtain ⟨u27, hI⟩ := hI
              obtain ⟨u28, hI⟩ := hI
              obtain ⟨u29, hI⟩ := hI
              obtain ⟨u30, hI⟩ := hI
              obtain ⟨u31, hI⟩ := hI
              obtain ⟨u32, hI⟩ := hI
              obtain ⟨u33, hI⟩ := hI
              obtain ⟨u34, hI⟩ := hI
              obtain ⟨u35, hI⟩ := hI
              obtain ⟨u36, hI⟩ := hI
              obtain ⟨u37, hI⟩ := hI
              obtain ⟨ha, hI⟩ := hI
              obtain ⟨h0, hI⟩ := hI
              obtain ⟨h1, hI⟩ := hI
              obtain ⟨h2, hI⟩ := hI
              obtain ⟨h3, hI⟩ := hI
              obtain ⟨h4, hI⟩ := hI
              obtain ⟨h5, hI⟩ := hI
              obtain ⟨n3, hI⟩ := hI
              obtain ⟨n7, hI⟩ := hI
              obtain ⟨l0, hI⟩ := hI
              obtain ⟨l1, hI⟩ := hI
              obtain ⟨l2, hI⟩ := hI
              obtain ⟨l3, hI⟩ := hI
              obtain ⟨l4, hI⟩ := hI
              obtain ⟨l5, hI⟩ := hI
              obtain ⟨l6, hI⟩ := hI
              obtain ⟨l7, hI⟩ := hI
              obtain ⟨l8, hI⟩ := hI
              obtain ⟨l9, hI⟩ := hI
              obtain ⟨l10, hI⟩ := hI
              have l11 := hI; clear hI
              subst ha
              have r5 := l5.on (hd 5 (by decide))
              have r7 := l7.on (hd 7 (by decide))
              clear hd
              obtain ⟨b, rfl, hb, hs, hc⟩ := r5
              obtain ⟨x, rfl, hx⟩ := r7
              have x0 : (0 : Int) ≤ x := by omega
              have x1 : (x : Int) < 5 := by omega
              simp only [over]
              go_simp
              exact hK.out _ _ ⟨by simpa using hsz, _, _, _, _, _, _, _, _, _, _, _, _, rfl, h0, h1, h2, h3, h4, h5, n3.set_ne (by decide), n7.set_ne (by decide), l0.set_ne (by decide), l1.set_ne (by decide), l2.set_ne (by decide), l3.set_ne (by decide), l4.set_ne (by decide), l5.set_ne (by decide), l6.set_ne (by decide), l7.set_ne (by decide), Lst.now ⟨b, x, by simp, hb, hs, hc x hx⟩, l9.set_ne (by decide), l10.set_ne (by decide), l11.set_ne (by decide)⟩
            refine StepsOK.cons (fun l a' w' K' hK hl hd hI => ?_) ?_
            · obtain ⟨hsz, hI⟩ := hI
              obtain ⟨u26, hI⟩ := hI
              obtain ⟨u27, hI⟩ := hI
              obtain ⟨u28, hI⟩ := hI
              obtain ⟨u29, hI⟩ := hI
              obtain ⟨u30, hI⟩ := hI
              obtain ⟨u31, hI⟩ := hI
              obtain ⟨u32, hI⟩ := hI
              obtain ⟨u33, hI⟩ := hI
              obtain ⟨u34, hI⟩ := hI
              obtain ⟨u35, hI⟩ := hI
              obtain ⟨u36, hI⟩ := hI
              obtain ⟨u37, hI⟩ := hI
              obtain ⟨ha, hI⟩ := hI
              obtain ⟨h0, hI⟩ := hI
              obtain ⟨h1, hI⟩ := hI
              obtain ⟨h2, hI⟩ := hI
              obtain ⟨h3, hI⟩ := hI
              obtain ⟨h4, hI⟩ := hI
              obtain ⟨h5, hI⟩ := hI
              obtain ⟨n3, hI⟩ := hI
              obtain ⟨n7, hI⟩ := hI
              obtain ⟨l0, hI⟩ := hI
              obtain ⟨l1, hI⟩ := hI
              obtain ⟨l2, hI⟩ := hI
              obtain ⟨l3, hI⟩ := hI
              obtain ⟨l4, hI⟩ := hI
              obtain ⟨l5, hI⟩ := hI
              obtain ⟨l6, hI⟩ := hI
              obtain ⟨l7, hI⟩ := hI
              obtain ⟨l8, hI⟩ := hI
              obtain ⟨l9, hI⟩ := hI
              obtain ⟨l10, hI⟩ := hI
              have l11 := hI; clear hI
              subst ha
              have r8 := l8.on (hd 8 (by decide))
              clear hd
              obtain ⟨b, i, rfl, hb, hs, y, hy⟩ := r8
              simp only [over]
              go_simp
              exact hK.out _ _ ⟨by simpa using hsz, _, _, _, _, _, _, _, _, _, _, _, _, rfl, h0, h1, h2, h3, h4, h5, n3.set_ne (by decide), n7.set_ne (by decide), l0.set_ne (by decide), l1.set_ne (by decide), l2.set_ne (by decide), l3.set_ne (by decide), l4.set_ne (by decide), l5.set_ne (by decide), l6.set_ne (by decide), l7.set_ne (by decide), l8.set_ne (by decide), Lst.now ⟨y, rfl⟩, l10.set_ne (by decide), l11.set_ne (by decide)⟩
            refine StepsOK.cons (fun l a' w' K' hK hl hd hI => ?_) ?_
            · obtain ⟨hsz, hI⟩ := hI
              obtain ⟨u26, hI⟩ := hI
              obtain ⟨u27, hI⟩ := hI
              obtain ⟨u28, hI⟩ := hI
              obtain ⟨u29, hI⟩ := hI
              obtain ⟨u30, hI⟩ := hI
              obtain ⟨u31, hI⟩ := hI
              obtain ⟨u32, hI⟩ := hI
              obtain ⟨u33, hI⟩ := hI
              obtain ⟨u34, hI⟩ := hI
              obtain ⟨u35, hI⟩ := hI
              obtain ⟨u36, hI⟩ := hI
              obtain ⟨u37, hI⟩ := hI
              obtain ⟨ha, hI⟩ := hI
              obtain ⟨h0, hI⟩ := hI
              obtain ⟨h1, hI⟩ := hI
              obtain ⟨h2, hI⟩ := hI
              obtain ⟨h3, hI⟩ := hI
              obtain ⟨h4, hI⟩ := hI
              obtain ⟨h5, hI⟩ := hI
              obtain ⟨n3, hI⟩ := hI
              obtain ⟨n7, hI⟩ := hI
              obtain ⟨l0, hI⟩ := hI
              obtain ⟨l1, hI⟩ := hI
              obtain ⟨l2, hI⟩ := hI
              obtain ⟨l3, hI⟩ := hI
              obtain ⟨l4, hI⟩ := hI
              obtain ⟨l5, hI⟩ := hI
              obtain ⟨l6, hI⟩ := hI
              obtain ⟨l7, hI⟩ := hI
              obtain ⟨l8, hI⟩ := hI
              obtain ⟨l9, hI⟩ := hI
              obtain ⟨l10, hI⟩ := hI
              have l11 := hI; clear hI
              subst ha
              have r4 := l4.on (hd 4 (by decide))
              have r9 := l9.on (hd 9 (by decide))
              clear hd
              obtain ⟨x, rfl⟩ := r4
              obtain ⟨y, rfl⟩ := r9
              simp only [over]
              go_simp
              exact hK.out _ _ ⟨by simpa using hsz, _, _, _, _, _, _, _, _, _, _, _, _, rfl, h0, h1, h2, h3, h4, h5, n3.set_ne (by decide), n7.set_ne (by decide), l0.set_ne (by decide), l1.set_ne (by decide), l2.set_ne (by decide), l3.set_ne (by decide), l4.set_ne (by decide), l5.set_ne (by decide), l6.set_ne (by decide), l7.set_ne (by decide), l8.set_ne (by decide), l9.set_ne (by decide), Lst.now ⟨_, _, _, rfl⟩, l11.set_ne (by decide)⟩
            refine StepsOK.cons (fun l a' w' K' hK hl hd hI => ?_) ?_
            · obtain ⟨hsz, hI⟩ := hI
              obtain ⟨u26, hI⟩ := hI
              obtain ⟨u27, hI⟩ := hI
              obtain ⟨u28, hI⟩ := hI
              obtain ⟨u29, hI⟩ := hI
              obtain ⟨u30, hI⟩ := hI
              obtain ⟨u31, hI⟩ := hI
              obtain ⟨u32, hI⟩ := hI
              obtain ⟨u33, hI⟩ := hI
              obtain ⟨u34, hI⟩ := hI
              obtain ⟨u35, hI⟩ := hI
              obtain ⟨u36, hI⟩ := hI
              obtain ⟨u37, hI⟩ := hI
              obtain ⟨ha, hI⟩ := hI
              obtain ⟨h0, hI⟩ := hI
              obtain ⟨h1, hI⟩ := hI
              obtain ⟨h2, hI⟩ := hI
              obtain ⟨h3, hI⟩ := hI
              obtain ⟨h4, hI⟩ := hI
              obtain ⟨h5, hI⟩ := hI
              obtain ⟨n3, hI⟩ := hI
              obtain ⟨n7, hI⟩ := hI
              obtain ⟨l0, hI⟩ := hI
              obtain ⟨l1, hI⟩ := hI
              obtain ⟨l2, hI⟩ := hI
              obtain ⟨l3, hI⟩ := hI
              obtain ⟨l4, hI⟩ := hI
              obtain ⟨l5, hI⟩ := hI
              obtain ⟨l6, hI⟩ := hI
              obtain ⟨l7, hI⟩ := hI
              obtain ⟨l8, hI⟩ := hI
              obtain ⟨l9, hI⟩ := hI
              obtain ⟨l10, hI⟩ := hI
              have l11 := hI; clear hI
              subst ha
              have r10 := l10.on (hd 10 (by decide))
              clear hd
              obtain ⟨x, y, z, rfl⟩ := r10
              simp only [over]
              go_simp
              have kb := beB0 w' (.cells #[.int .i64 x, .int .i64 y, .int .i64 z] 42)
              have kg := grown_of_below kb (some g)
              exact hK.out _ _ ⟨by simpa using hsz, _, _, _, _, _, _, _, _, _, _, _, _, rfl, h0.kp kg hgl, h1.grown kg (fun e => by injection e with e; omega), h2.kp kg hgl2, grown_trans' h3 kg, Nat.le_trans h4 kg.size, h5.below kb, (n3.set_ne (by decide)).mono (fun h => h.below kb), (n7.set_ne (by decide)).mono (fun h => h.below kb), l0.set_ne (by decide), l1.set_ne (by decide), l2.set_ne (by decide), l3.set_ne (by decide), l4.set_ne (by decide), (l5.set_ne (by decide)).mono (fun h => h.kp kg hgl2), l6.set_ne (by decide), l7.set_ne (by decide), (l8.set_ne (by decide)).mono (fun h => h.kp kg hgl2), l9.set_ne (by decide), l10.set_ne (by decide), Lst.now ⟨_, x, y, z, rfl, h4, Blk.new _ _ _⟩⟩
            exact StepsOK.nil
          case fin =>
            intro a' w' hI
            obtain ⟨hsz, hI⟩ := hI
            obtain ⟨u26, hI⟩ := hI
            obtain ⟨u27, hI⟩ := hI
            obtain ⟨u28, hI⟩ := hI
            obtain ⟨u29, hI⟩ := hI
            obtain ⟨u30, hI⟩ := hI
            obtain ⟨u31, hI⟩ := hI
            obtain ⟨u32, hI⟩ := hI
            obtain ⟨u33, hI⟩ := hI
            obtain ⟨u34, hI⟩ := hI
            obtain ⟨u35, hI⟩ := hI
            obtain ⟨u36, hI⟩ := hI
            obtain ⟨u37, hI⟩ := hI
            obtain ⟨ha, hI⟩ := hI
            obtain ⟨h0, hI⟩ := hI
            obtain ⟨h1, hI⟩ := hI
            obtain ⟨h2, hI⟩ := hI
            obtain ⟨h3, hI⟩ := hI
            obtain ⟨h4, hI⟩ := hI
            obtain ⟨h5, hI⟩ := hI
            obtain ⟨n3, hI⟩ := hI
            obtain ⟨n7, hI⟩ := hI
            obtain ⟨l0, hI⟩ := hI
            obtain ⟨l1, hI⟩ := hI
            obtain ⟨l2, hI⟩ := hI
            obtain ⟨l3, hI⟩ := hI
            obtain ⟨l4, hI⟩ := hI
            obtain ⟨l5, hI⟩ := hI
            obtain ⟨l6, hI⟩ := hI
            obtain ⟨l7, hI⟩ := hI
            obtain ⟨l8, hI⟩ := hI
            obtain ⟨l9, hI⟩ := hI
            obtain ⟨l10, hI⟩ := hI
            have l11 := hI; clear hI
            subst ha
            obtain ⟨bo, x, y, z, rfl, hbo, hKo⟩ := l11.on rfl
            obtain rfl := l1.on rfl
            obtain ⟨_, d1, _, _⟩ := h1.two
            have df := h1.frozen 1
            clear l0 l1 l2 l3 l4 l5 l6 l7 l8 l9 l10 l11 n3 n7
            simp only [over]
            refine wpAny_ready (rs := [12]) (by kernel_rfl) (by simp) ?_
            refine AllReady.cons (by rw [List.getElem?_toArray]; exact rfl) (fun K hK1 => ?_) AllReady.nil
            refine step_app3 (by rfl) (.tmp 27) (.tmp 37) (by rfl) (by rfl) h2 (by rfl) (S3.one hKo (Nat.le_refl _)) (by omega) h4 ?_
            intro v' w9 ho9 hg9 hat9
            refine hK1 _ _ ?_
            simp only [Act.put, List.setIfInBounds_toArray, List.set_cons_zero, List.set_cons_succ]
            obtain ⟨A9, c9, rfl⟩ := ho9.shape
            have hnd : some db ≠ (Value.slice A k c).ownBlock := fun e => by have := (h2.of.lt db e.symm).1; omega
            have K9 := h1.grown hg9 hnd
            obtain ⟨_, d1', _, df'⟩ := K9.two
            clear d1 df
            refine wpAny_ready (rs := [13]) (by kernel_rfl) (by simp) ?_
            refine AllReady.cons (by rw [List.getElem?_toArray]; exact rfl) (fun K2 hK2 => ?_) AllReady.nil
            go_simp
            refine hK2 _ _ ?_
            refine wpAny_ready (rs := [14]) (by kernel_rfl) (by simp) ?_
            refine AllReady.cons (by rw [List.getElem?_toArray]; exact rfl) (fun K3 hK3 => ?_) AllReady.nil
            go_simp
            refine hK3 _ _ ?_
            refine wpAny_done (by kernel_rfl) ?_ _
            have hgr : ∀ q, (Value.slice A k c).ownBlock = some q → db + 1 ≤ q := fun q hq => (h2.of.lt q hq).1
            have hO9 := h0.far h2 hg9 (.slice A9 (k + 1) c9)
            have hK9 := K9.set_ 1 (.slice A9 (k + 1) c9)
            have hT9 : O3 42 (w9.setCell ⟨db, 1, none⟩ (.slice A9 (k + 1) c9)) (db + 1) (.slice A9 (k + 1) c9) (k + 1) (ts ++ [(x, y, z)]) := ho9.set_low (by show db < db + 1; omega) _
            have hR9 : RD (w9.setCell ⟨db, 1, none⟩ (.slice A9 (k + 1) c9)) g (P2 + 2) := RD.setC (h5.grown hg9 (fun q hq => by have := hgr q hq; omega)) (by show g < db; omega) _
            have hG9 := grown_setL (grown_row (grown_trans' HG.out h3) hg9 (fun q hq => by have := hgr q hq; omega)) (p := ⟨db, 1, none⟩) (by show w.heap.size ≤ db; omega) (.slice A9 (k + 1) c9)
            have hz9 : db < (w9.setCell ⟨db, 1, none⟩ (.slice A9 (k + 1) c9)).heap.size := by rw [size_setCell]; have := hg9.size; omega
            clear hK1 hK2 hK3 h0 h1 h2 h3 h5 hg9 hat9 hKo ho9 K9 d1' df'
            go_wp2_with fail
            go_roundw
            case rel => exact ⟨j2 - 1, k + 1, ts ++ [(x, y, z)], A9, c9, by go_num, by omega, hK9, hT9, hO9, hR9.mono (by omega), hG9, hz9⟩
            case measure => simp [intOf]; omega
        · obtain rfl : j2 = 0 := by omega
          obtain ⟨d0, d1, _, _⟩ := HK.out.two
          obtain ⟨es, ds, hD, hs, hd⟩ := (HO.out.out)
          have hDR := hD.row
          rename World => wq
          have hDA : (wq.alloc (.cells #[.int .i64 f, .slice A k c] 37)).ownsRow w.heap.size 37 2 (.slice Av n cv) n (cellsD es) := own_chg hDR (S := fun _ => False) (Chg.of_below (beB0 _ _)) (fun _ _ => id)
          have hDD := hD.below (beB0 wq (.cells #[.int .i64 f, .slice A k c] 37))
          have KA := Blk.new wq 37 #[.int .i64 f, .slice A k c]
          have hTA : SV (wq.alloc (.cells #[.int .i64 f, .slice A k c] 37)) w.heap.size (.slice A k c) := ⟨k, ts, A, c, rfl, (HT.out.mono (by omega)).below (beB0 _ _), by omega⟩
          have RA := R0.alloc (.cells #[.int .i64 f, .slice A k c] 37)
          have GA := hide (grown_alloc HG.out (.cells #[.int .i64 f, .slice A k c] 37))
          have hs' := hide hs; have hd' := hide hd; have hDD' := hide hDD; have hTA' := hide hTA
          clear hs hd hD hDR hDD HO HG HT HK hTA R0
          go_wp2_with (at_builtin; refine wpList_appD rfl _ _ rfl rfl hDA rfl KA rfl (by omega) (by simp; omega) ?_; intro v9 w9 hr9 hg9 hat9)
          have hOUT := OutV.push' hDD'.out hs'.out hd'.out hTA'.out (by omega) hg9 hr9
          have hRD := RA.grown hg9 (fun k hk => by have := (World.ownsRow.lt hDA k hk).1; omega)
          have hGR := grown_row GA.out hg9 (fun k hk => (World.ownsRow.lt hDA k hk).1)
          have hz9 : w.heap.size < w9.heap.size := by have := hg9.size; simp at this; omega
          clear hDA KA hr9 hg9 hat9
          go_wp2_with fail
          go_roundw
          case rel => exact ⟨j - 1, n + 1, by go_num, by omega, hOUT, hRD.mono (by omega), hGR, hz9⟩
          case measure => simp [intOf]; omega
    · obtain rfl : j = 0 := by omega
      subst hV
      have hgl : g < w.heap.size := hg
      go_wp2_with fail
      refine (odd_c hR (by omega) hq1 hq2).mono ?_
      rintro e W0 ⟨b, rfl, R0, g3⟩
      have G3 := hide (grown_trans' HG.out g3)
      have O3' := hide (HO.out.kp g3 hgl)
      have hz3 : w.heap.size < W0.heap.size := (by have := g3.size; omega)
      clear HO HG hR g3 hz
      cases b
      · go_wp2_with fail
        go_ret
        exact ⟨_, n, rfl, O3'.out, by omega, R0.mono (by omega), G3.out⟩
      · obtain ⟨PP, hPP⟩ : ∃ p, P + 80 - 12 * 0 + 1 = p := ⟨_, rfl⟩
        rw [hPP] at R0
        go_upto_region 12 with fail
        refine wp_region_invT 22 (fun a0 l a' w' => l.size = 24 ∧ ∃ u47 u48 u49 u50 u51 u52 u53 u54 u55 u56 u57 u58 u59 u60 u61 u62 u63 u64 u65 u66 u67 u68 : Value, a' = ⟨(over a0.tmps.toList [none, none, none, none, none, none, none, none, none, none, none, none, none, none, none, none, none, none, none, none, none, none, none, none, none, none, none, none, none, none, none, none, none, none, none, none, none, none, none, none, none, none, none, none, none, none, none, some u47, some u48, some u49, some u50, some u51, some u52, some u53, some u54, some u55, some u56, some u57, some u58, some u59, some u60, some u61, some u62, some u63, some u64, some u65, some u66, some u67, some u68]).toArray, a0.defers⟩ ∧ OutV w' w.heap.size (.slice Av n cv) n ∧ W0.grownBy w' (some g) ∧ w.heap.size ≤ w'.heap.size ∧ RD w' g (PP + 1) ∧ Nst l 18 (RD w' g PP) ∧ Lst l 0 (u47 = .slice Av n cv) ∧ Lst l 1 (DV w' w.heap.size u48) ∧ Lst l 2 (OPv u49) ∧ Lst l 3 (SV w' w.heap.size u50) ∧ Lst l 4 (DV w' w.heap.size u51) ∧ Lst l 5 (OPv u52) ∧ Lst l 6 (SV w' w.heap.size u53) ∧ Lst l 7 (DV w' w.heap.size u54) ∧ Lst l 8 (OPv u55) ∧ Lst l 9 (SV w' w.heap.size u56) ∧ Lst l 10 (DV w' w.heap.size u57) ∧ Lst l 11 (OPv u58) ∧ Lst l 12 (SV w' w.heap.size u59) ∧ Lst l 13 (DV w' w.heap.size u60) ∧ Lst l 14 (SV w' w.heap.size u61) ∧ Lst l 15 (DV w' w.heap.size u62) ∧ Lst l 16 (TV w' w.heap.size u63) ∧ Lst l 17 (u64 = .pointer (some ⟨g, 0, none⟩)) ∧ Lst l 18 (NV 6 u65) ∧ Lst l 19 (PV w' w.heap.size u66) ∧ Lst l 20 (DV w' w.heap.size u67) ∧ Lst l 21 (RVd w' w.heap.size u68)) (by kernel_rfl) (by decide) (by kernel_rfl) (by kernel_rfl) (fun l a' w' h => h.1) ⟨by rfl, _, _, _, _, _, _, _, _, _, _, _, _, _, _, _, _, _, _, _, _, _, _, rfl, ?G0, ?G1, ?G2, ?G3, ?N0, Lst.none, Lst.none, Lst.none, Lst.none, Lst.none, Lst.none, Lst.none, Lst.none, Lst.none, Lst.none, Lst.none, Lst.none, Lst.none, Lst.none, Lst.none, Lst.none, Lst.none, Lst.none, Lst.none, Lst.none, Lst.none, Lst.none⟩ ?steps ?fin
        case G0 => exact O3'.out.kp (grown_of_below (Below.refl _ _).drew _) hgl
        case G1 => exact grown_of_below (Below.refl _ _).drew _
        case G2 => exact by show w.heap.size ≤ W0.heap.size; omega
        case G3 => exact (R0.below (Below.refl _ _).drew).mono (by omega)
        case N0 => exact Nst.all (R0.below (Below.refl _ _).drew)
        case steps =>
          refine StepsOK.cons (fun l a' w' K' hK hl hd hI => ?_) ?_
          · obtain ⟨hsz, hI⟩ := hI
            obtain ⟨u47, hI⟩ := hI
            obtain ⟨u48, hI⟩ := hI
            obtain ⟨u49, hI⟩ := hI
            obtain ⟨u50, hI⟩ := hI
            obtain ⟨u51, hI⟩ := hI
            obtain ⟨u52, hI⟩ := hI
            obtain ⟨u53, hI⟩ := hI
            obtain ⟨u54, hI⟩ := hI
            obtain ⟨u55, hI⟩ := hI
            obtain ⟨u56, hI⟩ := hI
            obtain ⟨u57, hI⟩ := hI
            obtain ⟨u58, hI⟩ := hI
            obtain ⟨u59, hI⟩ := hI
            obtain ⟨u60, hI⟩ := hI
            obtain ⟨u61, hI⟩ := hI
            obtain ⟨u62, hI⟩ := hI
            obtain ⟨u63, hI⟩ := hI
            obtain ⟨u64, hI⟩ := hI
            obtain ⟨u65, hI⟩ := hI
            obtain ⟨u66, hI⟩ := hI
            obtain ⟨u67, hI⟩ := hI
            obtain ⟨u68, hI⟩ := hI
            obtain ⟨ha, hI⟩ := hI
            obtain ⟨h0, hI⟩ := hI
            obtain ⟨h1, hI⟩ := hI
            obtain ⟨h2, hI⟩ := hI
            obtain ⟨h3, hI⟩ := hI
            obtain ⟨n18, hI⟩ := hI
            obtain ⟨l0, hI⟩ := hI
            obtain ⟨l1, hI⟩ := hI
            obtain ⟨l2, hI⟩ := hI
            obtain ⟨l3, hI⟩ := hI
            obtain ⟨l4, hI⟩ := hI
            obtain ⟨l5, hI⟩ := hI
            obtain ⟨l6, hI⟩ := hI
            obtain ⟨l7, hI⟩ := hI
            obtain ⟨l8, hI⟩ := hI
            obtain ⟨l9, hI⟩ := hI
            obtain ⟨l10, hI⟩ := hI
            obtain ⟨l11, hI⟩ := hI
            obtain ⟨l12, hI⟩ := hI
            obtain ⟨l13, hI⟩ := hI
            obtain ⟨l14, hI⟩ := hI
            obtain ⟨l15, hI⟩ := hI
            obtain ⟨l16, hI⟩ := hI
            obtain ⟨l17, hI⟩ := hI
            obtain ⟨l18, hI⟩ := hI
            obtain ⟨l19, hI⟩ := hI
            obtain ⟨l20, hI⟩ := hI
            have l21 := hI; clear hI
            subst ha
            clear hd
            simp only [over]
            go_simp
            exact hK.out _ _ ⟨by simpa using hsz, _, _, _, _, _, _, _, _, _, _, _, _, _, _, _, _, _, _, _, _, _, _, rfl, h0, h1, h2, h3, n18.set_ne (by decide), Lst.now rfl, l1.set_ne (by decide), l2.set_ne (by decide), l3.set_ne (by decide), l4.set_ne (by decide), l5.set_ne (by decide), l6.set_ne (by decide), l7.set_ne (by decide), l8.set_ne (by decide), l9.set_ne (by decide), l10.set_ne (by decide), l11.set_ne (by decide), l12.set_ne (by decide), l13.set_ne (by decide), l14.set_ne (by decide), l15.set_ne (by decide), l16.set_ne (by decide), l17.set_ne (by decide), l18.set_ne (by decide), l19.set_ne (by decide), l20.set_ne (by decide), l21.set_ne (by decide)⟩
          refine StepsOK.cons (fun l a' w' K' hK hl hd hI => ?_) ?_
          · obtain ⟨hsz, hI⟩ := hI
            obtain ⟨u47, hI⟩ := hI
            obtain ⟨u48, hI⟩ := hI
            obtain ⟨u49, hI⟩ := hI
            obtain ⟨u50, hI⟩ := hI
            obtain ⟨u51, hI⟩ := hI
            obtain ⟨u52, hI⟩ := hI
            obtain ⟨u53, hI⟩ := hI
            obtain ⟨u54, hI⟩ := hI
            obtain ⟨u55, hI⟩ := hI
            obtain ⟨u56, hI⟩ := hI
            obtain ⟨u57, hI⟩ := hI
            obtain ⟨u58, hI⟩ := hI
            obtain ⟨u59, hI⟩ := hI
            obtain ⟨u60, hI⟩ := hI
            obtain ⟨u61, hI⟩ := hI
            obtain ⟨u62, hI⟩ := hI
            obtain ⟨u63, hI⟩ := hI
            obtain ⟨u64, hI⟩ := hI
            obtain ⟨u65, hI⟩ := hI
            obtain ⟨u66, hI⟩ := hI
            obtain ⟨u67, hI⟩ := hI
            obtain ⟨u68, hI⟩ := hI
            obtain ⟨ha, hI⟩ := hI
            obtain ⟨h0, hI⟩ := hI
            obtain ⟨h1, hI⟩ := hI
            obtain ⟨h2, hI⟩ := hI
            obtain ⟨h3, hI⟩ := hI
            obtain ⟨n18, hI⟩ := hI
            obtain ⟨l0, hI⟩ := hI
            obtain ⟨l1, hI⟩ := hI
            obtain ⟨l2, hI⟩ := hI
            obtain ⟨l3, hI⟩ := hI
            obtain ⟨l4, hI⟩ := hI
            obtain ⟨l5, hI⟩ := hI
            obtain ⟨l6, hI⟩ := hI
            obtain ⟨l7, hI⟩ := hI
            obtain ⟨l8, hI⟩ := hI
            obtain ⟨l9, hI⟩ := hI
            obtain ⟨l10, hI⟩ := hI
            obtain ⟨l11, hI⟩ := hI
            obtain ⟨l12, hI⟩ := hI
            obtain ⟨l13, hI⟩ := hI
            obtain ⟨l14, hI⟩ := hI
            obtain ⟨l15, hI⟩ := hI
            obtain ⟨l16, hI⟩ := hI
            obtain ⟨l17, hI⟩ := hI
            obtain ⟨l18, hI⟩ := hI
            obtain ⟨l19, hI⟩ := hI
            obtain ⟨l20, hI⟩ := hI
            have l21 := hI; clear hI
            subst ha
            clear hd
            simp only [over]
            go_simp
            exact hK.out _ _ ⟨by simpa using hsz, _, _, _, _, _, _, _, _, _, _, _, _, _, _, _, _, _, _, _, _, _, _, rfl, h0, h1, h2, h3, n18.set_ne (by decide), l0.set_ne (by decide), Lst.now ⟨0, _, rfl, SV.nil⟩, l2.set_ne (by decide), l3.set_ne (by decide), l4.set_ne (by decide), l5.set_ne (by decide), l6.set_ne (by decide), l7.set_ne (by decide), l8.set_ne (by decide), l9.set_ne (by decide), l10.set_ne (by decide), l11.set_ne (by decide), l12.set_ne (by decide), l13.set_ne (by decide), l14.set_ne (by decide), l15.set_ne (by decide), l16.set_ne (by decide), l17.set_ne (by decide), l18.set_ne (by decide), l19.set_ne (by decide), l20.set_ne (by decide), l21.set_ne (by decide)⟩
          refine StepsOK.cons (fun l a' w' K' hK hl hd hI => ?_) ?_
          · obtain ⟨hsz, hI⟩ := hI
            obtain ⟨u47, hI⟩ := hI
            obtain ⟨u48, hI⟩ := hI
            obtain ⟨u49, hI⟩ := hI
            obtain ⟨u50, hI⟩ := hI
            obtain ⟨u51, hI⟩ := hI
            obtain ⟨u52, hI⟩ := hI
            obtain ⟨u53, hI⟩ := hI
            obtain ⟨u54, hI⟩ := hI
            obtain ⟨u55, hI⟩ := hI
            obtain ⟨u56, hI⟩ := hI
            obtain ⟨u57, hI⟩ := hI
            obtain ⟨u58, hI⟩ := hI
            obtain ⟨u59, hI⟩ := hI
            obtain ⟨u60, hI⟩ := hI
            obtain ⟨u61, hI⟩ := hI
            obtain ⟨u62, hI⟩ := hI
            obtain ⟨u63, hI⟩ := hI
            obtain ⟨u64, hI⟩ := hI
            obtain ⟨u65, hI⟩ := hI
            obtain ⟨u66, hI⟩ := hI
            obtain ⟨u67, hI⟩ := hI
            obtain ⟨u68, hI⟩ := hI
            obtain ⟨ha, hI⟩ := hI
            obtain ⟨h0, hI⟩ := hI
            obtain ⟨h1, hI⟩ := hI
            obtain ⟨h2, hI⟩ := hI
            obtain ⟨h3, hI⟩ := hI
            obtain ⟨n18, hI⟩ := hI
            obtain ⟨l0, hI⟩ := hI
            obtain ⟨l1, hI⟩ := hI
            obtain ⟨l2, hI⟩ := hI
            obtain ⟨l3, hI⟩ := hI
            obtain ⟨l4, hI⟩ := hI
            obtain ⟨l5, hI⟩ := hI
            obtain ⟨l6, hI⟩ := hI
            obtain ⟨l7, hI⟩ := hI
            obtain ⟨l8, hI⟩ := hI
            obtain ⟨l9, hI⟩ := hI
            obtain ⟨l10, hI⟩ := hI
            obtain ⟨l11, hI⟩ := hI
            obtain ⟨l12, hI⟩ := hI
            obtain ⟨l13, hI⟩ := hI
            obtain ⟨l14, hI⟩ := hI
            obtain ⟨l15, hI⟩ := hI
            obtain ⟨l16, hI⟩ := hI
            obtain ⟨l17, hI⟩ := hI
            obtain ⟨l18, hI⟩ := hI
            obtain ⟨l19, hI⟩ := hI
            obtain ⟨l20, hI⟩ := hI
            have l21 := hI; clear hI
            subst ha
            clear hd
            simp only [over]
            go_simp
            exact hK.out _ _ ⟨by simpa using hsz, _, _, _, _, _, _, _, _, _, _, _, _, _, _, _, _, _, _, _, _, _, _, rfl, h0, h1, h2, h3, n18.set_ne (by decide), l0.set_ne (by decide), l1.set_ne (by decide), Lst.now ⟨1, 0, 0, rfl⟩, l3.set_ne (by decide), l4.set_ne (by decide), l5.set_ne (by decide), l6.set_ne (by decide), l7.set_ne (by decide), l8.set_ne (by decide), l9.set_ne (by decide), l10.set_ne (by decide), l11.set_ne (by decide), l12.set_ne (by decide), l13.set_ne (by decide), l14.set_ne (by decide), l15.set_ne (by decide), l16.set_ne (by decide), l17.set_ne (by decide), l18.set_ne (by decide), l19.set_ne (by decide), l20.set_ne (by decide), l21.set_ne (by decide)⟩
          refine StepsOK.cons (fun l a' w' K' hK hl hd hI => ?_) ?_
          · obtain ⟨hsz, hI⟩ := hI
            obtain ⟨u47, hI⟩ := hI
            obtain ⟨u48, hI⟩ := hI
            obtain ⟨u49, hI⟩ := hI
            obtain ⟨u50, hI⟩ := hI
            obtain ⟨u51, hI⟩ := hI
            obtain ⟨u52, hI⟩ := hI
            obtain ⟨u53, hI⟩ := hI
            obtain ⟨u54, hI⟩ := hI
            obtain ⟨u55, hI⟩ := hI
            obtain ⟨u56, hI⟩ := hI
            obtain ⟨u57, hI⟩ := hI
            obtain ⟨u58, hI⟩ := hI
            obtain ⟨u59, hI⟩ := hI
            obtain ⟨u60, hI⟩ := hI
            obtain ⟨u61, hI⟩ := hI
            obtain ⟨u62, hI⟩ := hI
            obtain ⟨u63, hI⟩ := hI
            obtain ⟨u64, hI⟩ := hI
            obtain ⟨u65, hI⟩ := hI
            obtain ⟨u66, hI⟩ := hI
            obtain ⟨u67, hI⟩ := hI
            obtain ⟨u68, hI⟩ := hI
            obtain ⟨ha, hI⟩ := hI
            obtain ⟨h0, hI⟩ := hI
            obtain ⟨h1, hI⟩ := hI
            obtain ⟨h2, hI⟩ := hI
            obtain ⟨h3, hI⟩ := hI
            obtain ⟨n18, hI⟩ := hI
            obtain ⟨l0, hI⟩ := hI
            obtain ⟨l1, hI⟩ := hI
            obtain ⟨l2, hI⟩ := hI
            obtain ⟨l3, hI⟩ := hI
            obtain ⟨l4, hI⟩ := hI
            obtain ⟨l5, hI⟩ := hI
            obtain ⟨l6, hI⟩ := hI
            obtain ⟨l7, hI⟩ := hI
            obtain ⟨l8, hI⟩ := hI
            obtain ⟨l9, hI⟩ := hI
            obtain ⟨l10, hI⟩ := hI
            obtain ⟨l11, hI⟩ := hI
            obtain ⟨l12, hI⟩ := hI
            obtain ⟨l13, hI⟩ := hI
            obtain ⟨l14, hI⟩ := hI
            obtain ⟨l15, hI⟩ := hI
            obtain ⟨l16, hI⟩ := hI
            obtain ⟨l17, hI⟩ := hI
            obtain ⟨l18, hI⟩ := hI
            obtain ⟨l19, hI⟩ := hI
            obtain ⟨l20, hI⟩ := hI
            have l21 := hI; clear hI
            subst ha
            have r2 := l2.on (hd 2 (by decide))
            clear hd
            obtain ⟨x, y, z, rfl⟩ := r2
            simp only [over]
            go_simp
            have kb := beB0 w' (.cells #[.int .i64 x, .int .i64 y, .int .i64 z] 42)
            have kg := grown_of_below kb (some g)
            exact hK.out _ _ ⟨by simpa using hsz, _, _, _, _, _, _, _, _, _, _, _, _, _, _, _, _, _, _, _, _, _, _, rfl, h0.kp kg hgl, grown_trans' h1 kg, Nat.le_trans h2 kg.size, h3.below kb, (n18.set_ne (by decide)).mono (fun h => h.below kb), l0.set_ne (by decide), (l1.set_ne (by decide)).mono (fun h => h.kp kg hgl), l2.set_ne (by decide), Lst.now (SV.one h2 rfl), (l4.set_ne (by decide)).mono (fun h => h.kp kg hgl), l5.set_ne (by decide), (l6.set_ne (by decide)).mono (fun h => h.kp kg hgl), (l7.set_ne (by decide)).mono (fun h => h.kp kg hgl), l8.set_ne (by decide), (l9.set_ne (by decide)).mono (fun h => h.kp kg hgl), (l10.set_ne (by decide)).mono (fun h => h.kp kg hgl), l11.set_ne (by decide), (l12.set_ne (by decide)).mono (fun h => h.kp kg hgl), (l13.set_ne (by decide)).mono (fun h => h.kp kg hgl), (l14.set_ne (by decide)).mono (fun h => h.kp kg hgl), (l15.set_ne (by decide)).mono (fun h => h.kp kg hgl), (l16.set_ne (by decide)).mono (fun h => h.kp kg hgl), l17.set_ne (by decide), l18.set_ne (by decide), (l19.set_ne (by decide)).mono (fun h => h.kp kg hgl), (l20.set_ne (by decide)).mono (fun h => h.kp kg hgl), (l21.set_ne (by decide)).mono (fun h => h.kp kg hgl)⟩
          refine StepsOK.cons (fun l a' w' K' hK hl hd hI => ?_) ?_
          · obtain ⟨hsz, hI⟩ := hI
            obtain ⟨u47, hI⟩ := hI
            obtain ⟨u48, hI⟩ := hI
            obtain ⟨u49, hI⟩ := hI
            obtain ⟨u50, hI⟩ := hI
            obtain ⟨u51, hI⟩ := hI
            obtain ⟨u52, hI⟩ := hI
            obtain ⟨u53, hI⟩ := hI
            obtain ⟨u54, hI⟩ := hI
            obtain ⟨u55, hI⟩ := hI
            obtain ⟨u56, hI⟩ := hI
            obtain ⟨u57, hI⟩ := hI
            obtain ⟨u58, hI⟩ := hI
            obtain ⟨u59, hI⟩ := hI
            obtain ⟨u60, hI⟩ := hI
            obtain ⟨u61, hI⟩ := hI
            obtain ⟨u62, hI⟩ := hI
            obtain ⟨u63, hI⟩ := hI
            obtain ⟨u64, hI⟩ := hI
            obtain ⟨u65, hI⟩ := hI
            obtain ⟨u66, hI⟩ := hI
            obtain ⟨u67, hI⟩ := hI
            obtain ⟨u68, hI⟩ := hI
            obtain ⟨ha, hI⟩ := hI
            obtain ⟨h0, hI⟩ := hI
            obtain ⟨h1, hI⟩ := hI
            obtain ⟨h2, hI⟩ := hI
            obtain ⟨h3, hI⟩ := hI
            obtain ⟨n18, hI⟩ := hI
            obtain ⟨l0, hI⟩ := hI
            obtain ⟨l1, hI⟩ := hI
            obtain ⟨l2, hI⟩ := hI
            obtain ⟨l3, hI⟩ := hI
            obtain ⟨l4, hI⟩ := hI
            obtain ⟨l5, hI⟩ := hI
            obtain ⟨l6, hI⟩ := hI
            obtain ⟨l7, hI⟩ := hI
            obtain ⟨l8, hI⟩ := hI
            obtain ⟨l9, hI⟩ := hI
            obtain ⟨l10, hI⟩ := hI
            obtain ⟨l11, hI⟩ := hI
            obtain ⟨l12, hI⟩ := hI
            obtain ⟨l13, hI⟩ := hI
            obtain ⟨l14, hI⟩ := hI
            obtain ⟨l15, hI⟩ := hI
            obtain ⟨l16, hI⟩ := hI
            obtain ⟨l17, hI⟩ := hI
            obtain ⟨l18, hI⟩ := hI
            obtain ⟨l19, hI⟩ := hI
            obtain ⟨l20, hI⟩ := hI
            have l21 := hI; clear hI
            subst ha
            have r3 := l3.on (hd 3 (by decide))
            clear hd
            obtain ⟨k, ts, A, c, rfl, ho, hk⟩ := r3
            simp only [over]
            go_simp
            exact hK.out _ _ ⟨by simpa using hsz, _, _, _, _, _, _, _, _, _, _, _, _, _, _, _, _, _, _, _, _, _, _, rfl, h0, h1, h2, h3, n18.set_ne (by decide), l0.set_ne (by decide), l1.set_ne (by decide), l2.set_ne (by decide), l3.set_ne (by decide), Lst.now ⟨(-1), _, rfl, k, ts, A, c, rfl, ho, hk⟩, l5.set_ne (by decide), l6.set_ne (by decide), l7.set_ne (by decide), l8.set_ne (by decide), l9.set_ne (by decide), l10.set_ne (by decide), l11.set_ne (by decide), l12.set_ne (by decide), l13.set_ne (by decide), l14.set_ne (by decide), l15.set_ne (by decide), l16.set_ne (by decide), l17.set_ne (by decide), l18.set_ne (by decide), l19.set_ne (by decide), l20.set_ne (by decide), l21.set_ne (by decide)⟩
          refine StepsOK.cons (fun l a' w' K' hK hl hd hI => ?_) ?_
          · obtain ⟨hsz, hI⟩ := hI
            obtain ⟨u47, hI⟩ := hI
            obtain ⟨u48, hI⟩ := hI
            obtain ⟨u49, hI⟩ := hI
            obtain ⟨u50, hI⟩ := hI
            obtain ⟨u51, hI⟩ := hI
            obtain ⟨u52, hI⟩ := hI
            obtain ⟨u53, hI⟩ := hI
            obtain ⟨u54, hI⟩ := hI
            obtain ⟨u55, hI⟩ := hI
            obtain ⟨u56, hI⟩ := hI
            obtain ⟨u57, hI⟩ := hI
            obtain ⟨u58, hI⟩ := hI
            obtain ⟨u59, hI⟩ := hI
            obtain ⟨u60, hI⟩ := hI
            obtain ⟨u61, hI⟩ := hI
            obtain ⟨u62, hI⟩ := hI
            obtain ⟨u63, hI⟩ := hI
            obtain ⟨u64, hI⟩ := hI
            obtain ⟨u65, hI⟩ := hI
            obtain ⟨u66, hI⟩ := hI
            obtain ⟨u67, hI⟩ := hI
            obtain ⟨u68, hI⟩ := hI
            obtain ⟨ha, hI⟩ := hI
            obtain ⟨h0, hI⟩ := hI
            obtain ⟨h1, hI⟩ := hI
            obtain ⟨h2, hI⟩ := hI
            obtain ⟨h3, hI⟩ := hI
            obtain ⟨n18, hI⟩ := hI
            obtain ⟨l0, hI⟩ := hI
            obtain ⟨l1, hI⟩ := hI
            obtain ⟨l2, hI⟩ := hI
            obtain ⟨l3, hI⟩ := hI
            obtain ⟨l4, hI⟩ := hI
            obtain ⟨l5, hI⟩ := hI
            obtain ⟨l6, hI⟩ := hI
            obtain ⟨l7, hI⟩ := hI
            obtain ⟨l8, hI⟩ := hI
            obtain ⟨l9, hI⟩ := hI
            obtain ⟨l10, hI⟩ := hI
            obtain ⟨l11, hI⟩ := hI
            obtain ⟨l12, hI⟩ := hI
            obtain ⟨l13, hI⟩ := hI
            obtain ⟨l14, hI⟩ := hI
            obtain ⟨l15, hI⟩ := hI
            obtain ⟨l16, hI⟩ := hI
            obtain ⟨l17, hI⟩ := hI
            obtain ⟨l18, hI⟩ := hI
            obtain ⟨l19, hI⟩ := hI
            obtain ⟨l20, hI⟩ := hI
            have l21 := hI; clear hI
            subst ha
            clear hd
            simp only [over]
            go_simp
            exact hK.out _ _ ⟨by simpa using hsz, _, _, _, _, _, _, _, _, _, _, _, _, _, _, _, _, _, _, _, _, _, _, rfl, h0, h1, h2, h3, n18.set_ne (by decide), l0.set_ne (by decide), l1.set_ne (by decide), l2.set_ne (by decide), l3.set_ne (by decide), l4.set_ne (by decide), Lst.now ⟨3, 0, 0, rfl⟩, l6.set_ne (by decide), l7.set_ne (by decide), l8.set_ne (by decide), l9.set_ne (by decide), l10.set_ne (by decide), l11.set_ne (by decide), l12.set_ne (by decide), l13.set_ne (by decide), l14.set_ne (by decide), l15.set_ne (by decide), l16.set_ne (by decide), l17.set_ne (by decide), l18.set_ne (by decide), l19.set_ne (by decide), l20.set_ne (by decide), l21.set_ne (by decide)⟩
          refine StepsOK.cons (fun l a' w' K' hK hl hd hI => ?_) ?_
          · obtain ⟨hsz, hI⟩ := hI
            obtain ⟨u47, hI⟩ := hI
            obtain ⟨u48, hI⟩ := hI
            obtain ⟨u49, hI⟩ := hI
            obtain ⟨u50, hI⟩ := hI
            obtain ⟨u51, hI⟩ := hI
            obtain ⟨u52, hI⟩ := hI
            obtain ⟨u53, hI⟩ := hI
            obtain ⟨u54, hI⟩ := hI
            obtain ⟨u55, hI⟩ := hI
            obtain ⟨u56, hI⟩ := hI
            obtain ⟨u57, hI⟩ := hI
            obtain ⟨u58, hI⟩ := hI
            obtain ⟨u59, hI⟩ := hI
            obtain ⟨u60, hI⟩ := hI
            obtain ⟨u61, hI⟩ := hI
            obtain ⟨u62, hI⟩ := hI
            obtain ⟨u63, hI⟩ := hI
            obtain ⟨u64, hI⟩ := hI
            obtain ⟨u65, hI⟩ := hI
            obtain ⟨u66, hI⟩ := hI
            obtain ⟨u67, hI⟩ := hI
            obtain ⟨u68, hI⟩ := hI
            obtain ⟨ha, hI⟩ := hI
            obtain ⟨h0, hI⟩ := hI
            obtain ⟨h1, hI⟩ := hI
            obtain ⟨h2, hI⟩ := hI
            obtain ⟨h3, hI⟩ := hI
            obtain ⟨n18, hI⟩ := hI
            obtain ⟨l0, hI⟩ := hI
            obtain ⟨l1, hI⟩ := hI
            obtain ⟨l2, hI⟩ := hI
            obtain ⟨l3, hI⟩ := hI
            obtain ⟨l4, hI⟩ := hI
            obtain ⟨l5, hI⟩ := hI
            obtain ⟨l6, hI⟩ := hI
            obtain ⟨l7, hI⟩ := hI
            obtain ⟨l8, hI⟩ := hI
            obtain ⟨l9, hI⟩ := hI
            obtain ⟨l10, hI⟩ := hI
            obtain ⟨l11, hI⟩ := hI
            obtain ⟨l12, hI⟩ := hI
            obtain ⟨l13, hI⟩ := hI
            obtain ⟨l14, hI⟩ := hI
            obtain ⟨l15, hI⟩ := hI
            obtain ⟨l16, hI⟩ := hI
            obtain ⟨l17, hI⟩ := hI
            obtain ⟨l18, hI⟩ := hI
            obtain ⟨l19, hI⟩ := hI
            obtain ⟨l20, hI⟩ := hI
            have l21 := hI; clear hI
            subst ha
            have r5 := l5.on (hd 5 (by decide))
            clear hd
            obtain ⟨x, y, z, rfl⟩ := r5
            simp only [over]
            go_simp
            have kb := beB0 w' (.cells #[.int .i64 x, .int .i64 y, .int .i64 z] 42)
            have kg := grown_of_below kb (some g)
            exact hK.out _ _ ⟨by simpa using hsz, _, _, _, _, _, _, _, _, _, _, _, _, _, _, _, _, _, _, _, _, _, _, rfl, h0.kp kg hgl, grown_trans' h1 kg, Nat.le_trans h2 kg.size, h3.below kb, (n18.set_ne (by decide)).mono (fun h => h.below kb), l0.set_ne (by decide), (l1.set_ne (by decide)).mono (fun h => h.kp kg hgl), l2.set_ne (by decide), (l3.set_ne (by decide)).mono (fun h => h.kp kg hgl), (l4.set_ne (by decide)).mono (fun h => h.kp kg hgl), l5.set_ne (by decide), Lst.now (SV.one h2 rfl), (l7.set_ne (by decide)).mono (fun h => h.kp kg hgl), l8.set_ne (by decide), (l9.set_ne (by decide)).mono (fun h => h.kp kg hgl), (l10.set_ne (by decide)).mono (fun h => h.kp kg hgl), l11.set_ne (by decide), (l12.set_ne (by decide)).mono (fun h => h.kp kg hgl), (l13.set_ne (by decide)).mono (fun h => h.kp kg hgl), (l14.set_ne (by decide)).mono (fun h => h.kp kg hgl), (l15.set_ne (by decide)).mono (fun h => h.kp kg hgl), (l16.set_ne (by decide)).mono (fun h => h.kp kg hgl), l17.set_ne (by decide), l18.set_ne (by decide), (l19.set_ne (by decide)).mono (fun h => h.kp kg hgl), (l20.set_ne (by decide)).mono (fun h => h.kp kg hgl), (l21.set_ne (by decide)).mono (fun h => h.kp kg hgl)⟩
          refine StepsOK.cons (fun l a' w' K' hK hl hd hI => ?_) ?_
          · obtain ⟨hsz, hI⟩ := hI
            obtain ⟨u47, hI⟩ := hI
            obtain ⟨u48, hI⟩ := hI
            obtain ⟨u49, hI⟩ := hI
            obtain ⟨u50, hI⟩ := hI
            obtain ⟨u51, hI⟩ := hI
            obtain ⟨u52, hI⟩ := hI
            obtain ⟨u53, hI⟩ := hI
            obtain ⟨u54, hI⟩ := hI
            obtain ⟨u55, hI⟩ := hI
            obtain ⟨u56, hI⟩ := hI
            obtain ⟨u57, hI⟩ := hI
            obtain ⟨u58, hI⟩ := hI
            obtain ⟨u59, hI⟩ := hI
            obtain ⟨u60, hI⟩ := hI
            obtain ⟨u61, hI⟩ := hI
            obtain ⟨u62, hI⟩ := hI
            obtain ⟨u63, hI⟩ := hI
            obtain ⟨u64, hI⟩ := hI
            obtain ⟨u65, hI⟩ := hI
            obtain ⟨u66, hI⟩ := hI
            obtain ⟨u67, hI⟩ := hI
            obtain ⟨u68, hI⟩ := hI
            obtain ⟨ha, hI⟩ := hI
            obtain ⟨h0, hI⟩ := hI
            obtain ⟨h1, hI⟩ := hI
            obtain ⟨h2, hI⟩ := hI
            obtain ⟨h3, hI⟩ := hI
            obtain ⟨n18, hI⟩ := hI
            obtain ⟨l0, hI⟩ := hI
            obtain ⟨l1, hI⟩ := hI
            obtain ⟨l2, hI⟩ := hI
            obtain ⟨l3, hI⟩ := hI
            obtain ⟨l4, hI⟩ := hI
            obtain ⟨l5, hI⟩ := hI
            obtain ⟨l6, hI⟩ := hI
            obtain ⟨l7, hI⟩ := hI
            obtain ⟨l8, hI⟩ := hI
            obtain ⟨l9, hI⟩ := hI
            obtain ⟨l10, hI⟩ := hI
            obtain ⟨l11, hI⟩ := hI
            obtain ⟨l12, hI⟩ := hI
            obtain ⟨l13, hI⟩ := hI
            obtain ⟨l14, hI⟩ := hI
            obtain ⟨l15, hI⟩ := hI
            obtain ⟨l16, hI⟩ := hI
            obtain ⟨l17, hI⟩ := hI
            obtain ⟨l18, hI⟩ := hI
            obtain ⟨l19, hI⟩ := hI
            obtain ⟨l20, hI⟩ := hI
            have l21 := hI; clear hI
            subst ha
            have r6 := l6.on (hd 6 (by decide))
            clear hd
            obtain ⟨k, ts, A, c, rfl, ho, hk⟩ := r6
            simp only [over]
            go_simp
            exact hK.out _ _ ⟨by simpa using hsz, _, _, _, _, _, _, _, _, _, _, _, _, _, _, _, _, _, _, _, _, _, _, rfl, h0, h1, h2, h3, n18.set_ne (by decide), l0.set_ne (by decide), l1.set_ne (by decide), l2.set_ne (by decide), l3.set_ne (by decide), l4.set_ne (by decide), l5.set_ne (by decide), l6.set_ne (by decide), Lst.now ⟨0, _, rfl, k, ts, A, c, rfl, ho, hk⟩, l8.set_ne (by decide), l9.set_ne (by decide), l10.set_ne (by decide), l11.set_ne (by decide), l12.set_ne (by decide), l13.set_ne (by decide), l14.set_ne (by decide), l15.set_ne (by decide), l16.set_ne (by decide), l17.set_ne (by decide), l18.set_ne (by decide), l19.set_ne (by decide), l20.set_ne (by decide), l21.set_ne (by decide)⟩
          refine StepsOK.cons (fun l a' w' K' hK hl hd hI => ?_) ?_
          · obtain ⟨hsz, hI⟩ := hI
            obtain ⟨u47, hI⟩ := hI
            obtain ⟨u48, hI⟩ := hI
            obtain ⟨u49, hI⟩ := hI
            obtain ⟨u50, hI⟩ := hI
            obtain ⟨u51, hI⟩ := hI
            obtain ⟨u52, hI⟩ := hI
            obtain ⟨u53, hI⟩ := hI
            obtain ⟨u54, hI⟩ := hI
            obtain ⟨u55, hI⟩ := hI
            obtain ⟨u56, hI⟩ := hI
            obtain ⟨u57, hI⟩ := hI
            obtain ⟨u58, hI⟩ := hI
            obtain ⟨u59, hI⟩ := hI
            obtain ⟨u60, hI⟩ := hI
            obtain ⟨u61, hI⟩ := hI
            obtain ⟨u62, hI⟩ := hI
            obtain ⟨u63, hI⟩ := hI
            obtain ⟨u64, hI⟩ := hI
            obtain ⟨u65, hI⟩ := hI
            obtain ⟨u66, hI⟩ := hI
            obtain ⟨u67, hI⟩ := hI
            obtain ⟨u68, hI⟩ := hI
            obtain ⟨ha, hI⟩ := hI
            obtain ⟨h0, hI⟩ := hI
            obtain ⟨h1, hI⟩ := hI
            obtain ⟨h2, hI⟩ := hI
            obtain ⟨h3, hI⟩ := hI
            obtain ⟨n18, hI⟩ := hI
            obtain ⟨l0, hI⟩ := hI
            obtain ⟨l1, hI⟩ := hI
            obtain ⟨l2, hI⟩ := hI
            obtain ⟨l3, hI⟩ := hI
            obtain ⟨l4, hI⟩ := hI
            obtain ⟨l5, hI⟩ := hI
            obtain ⟨l6, hI⟩ := hI
            obtain ⟨l7, hI⟩ := hI
            obtain ⟨l8, hI⟩ := hI
            obtain ⟨l9, hI⟩ := hI
            obtain ⟨l10, hI⟩ := hI
            obtain ⟨l11, hI⟩ := hI
            obtain ⟨l12, hI⟩ := hI
            obtain ⟨l13, hI⟩ := hI
            obtain ⟨l14, hI⟩ := hI
            obtain ⟨l15, hI⟩ := hI
            obtain ⟨l16, hI⟩ := hI
            obtain ⟨l17, hI⟩ := hI
            obtain ⟨l18, hI⟩ := hI
            obtain ⟨l19, hI⟩ := hI
            obtain ⟨l20, hI⟩ := hI
            have l21 := hI; clear hI
            subst ha
            clear hd
            simp only [over]
            go_simp
            exact hK.out _ _ ⟨by simpa using hsz, _, _, _, _, _, _, _, _, _, _, _, _, _, _, _, _, _, _, _, _, _, _, rfl, h0, h1, h2, h3, n18.set_ne (by decide), l0.set_ne (by decide), l1.set_ne (by decide), l2.set_ne (by decide), l3.set_ne (by decide), l4.set_ne (by decide), l5.set_ne (by decide), l6.set_ne (by decide), l7.set_ne (by decide), Lst.now ⟨1, 3, 0, rfl⟩, l9.set_ne (by decide), l10.set_ne (by decide), l11.set_ne (by decide), l12.set_ne (by decide), l13.set_ne (by decide), l14.set_ne (by decide), l15.set_ne (by decide), l16.set_ne (by decide), l17.set_ne (by decide), l18.set_ne (by decide), l19.set_ne (by decide), l20.set_ne (by decide), l21.set_ne (by decide)⟩
          refine StepsOK.cons (fun l a' w' K' hK hl hd hI => ?_) ?_
          · obtain ⟨hsz, hI⟩ := hI
            obtain ⟨u47, hI⟩ := hI
            obtain ⟨u48, hI⟩ := hI
            obtain ⟨u49, hI⟩ := hI
            obtain ⟨u50, hI⟩ := hI
            obtain ⟨u51, hI⟩ := hI
            obtain ⟨u52, hI⟩ := hI
            obtain ⟨u53, hI⟩ := hI
            obtain ⟨u54, hI⟩ := hI
            obtain ⟨u55, hI⟩ := hI
            obtain ⟨u56, hI⟩ := hI
            obtain ⟨u57, hI⟩ := hI
            obtain ⟨u58, hI⟩ := hI
            obtain ⟨u59, hI⟩ := hI
            obtain ⟨u60, hI⟩ := hI
            obtain ⟨u61, hI⟩ := hI
            obtain ⟨u62, hI⟩ := hI
            obtain ⟨u63, hI⟩ := hI
            obtain ⟨u64, hI⟩ := hI
            obtain ⟨u65, hI⟩ := hI
            obtain ⟨u66, hI⟩ := hI
            obtain ⟨u67, hI⟩ := hI
            obtain ⟨u68, hI⟩ := hI
            obtain ⟨ha, hI⟩ := hI
            obtain ⟨h0, hI⟩ := hI
            obtain ⟨h1, hI⟩ := hI
            obtain ⟨h2, hI⟩ := hI
            obtain ⟨h3, hI⟩ := hI
            obtain ⟨n18, hI⟩ := hI
            obtain ⟨l0, hI⟩ := hI
            obtain ⟨l1, hI⟩ := hI
            obtain ⟨l2, hI⟩ := hI
            obtain ⟨l3, hI⟩ := hI
            obtain ⟨l4, hI⟩ := hI
            obtain ⟨l5, hI⟩ := hI
            obtain ⟨l6, hI⟩ := hI
            obtain ⟨l7, hI⟩ := hI
            obtain ⟨l8, hI⟩ := hI
            obtain ⟨l9, hI⟩ := hI
            obtain ⟨l10, hI⟩ := hI
            obtain ⟨l11, hI⟩ := hI
            obtain ⟨l12, hI⟩ := hI
            obtain ⟨l13, hI⟩ := hI
            obtain ⟨l14, hI⟩ := hI
            obtain ⟨l15, hI⟩ := hI
            obtain ⟨l16, hI⟩ := hI
            obtain ⟨l17, hI⟩ := hI
            obtain ⟨l18, hI⟩ := hI
            obtain ⟨l19, hI⟩ := hI
            obtain ⟨l20, hI⟩ := hI
            have l21 := hI; clear hI
            subst ha
            have r8 := l8.on (hd 8 (by decide))
            clear hd
            obtain ⟨x, y, z, rfl⟩ := r8
            simp only [over]
            go_simp
            have kb := beB0 w' (.cells #[.int .i64 x, .int .i64 y, .int .i64 z] 42)
            have kg := grown_of_below kb (some g)
            exact hK.out _ _ ⟨by simpa using hsz, _, _, _, _, _, _, _, _, _, _, _, _, _, _, _, _, _, _, _, _, _, _, rfl, h0.kp kg hgl, grown_trans' h1 kg, Nat.le_trans h2 kg.size, h3.below kb, (n18.set_ne (by decide)).mono (fun h => h.below kb), l0.set_ne (by decide), (l1.set_ne (by decide)).mono (fun h => h.kp kg hgl), l2.set_ne (by decide), (l3.set_ne (by decide)).mono (fun h => h.kp kg hgl), (l4.set_ne (by decide)).mono (fun h => h.kp kg hgl), l5.set_ne (by decide), (l6.set_ne (by decide)).mono (fun h => h.kp kg hgl), (l7.set_ne (by decide)).mono (fun h => h.kp kg hgl), l8.set_ne (by decide), Lst.now (SV.one h2 rfl), (l10.set_ne (by decide)).mono (fun h => h.kp kg hgl), l11.set_ne (by decide), (l12.set_ne (by decide)).mono (fun h => h.kp kg hgl), (l13.set_ne (by decide)).mono (fun h => h.kp kg hgl), (l14.set_ne (by decide)).mono (fun h => h.kp kg hgl), (l15.set_ne (by decide)).mono (fun h => h.kp kg hgl), (l16.set_ne (by decide)).mono (fun h => h.kp kg hgl), l17.set_ne (by decide), l18.set_ne (by decide), (l19.set_ne (by decide)).mono (fun h => h.kp kg hgl), (l20.set_ne (by decide)).mono (fun h => h.kp kg hgl), (l21.set_ne (by decide)).mono (fun h => h.kp kg hgl)⟩
          refine StepsOK.cons (fun l a' w' K' hK hl hd hI => ?_) ?_
          · obtain ⟨hsz, hI⟩ := hI
            obtain ⟨u47, hI⟩ := hI
            obtain ⟨u48, hI⟩ := hI
            obtain ⟨u49, hI⟩ := hI
            obtain ⟨u50, hI⟩ := hI
            obtain ⟨u51, hI⟩ := hI
            obtain ⟨u52, hI⟩ := hI
            obtain ⟨u53, hI⟩ := hI
            obtain ⟨u54, hI⟩ := hI
            obtain ⟨u55, hI⟩ := hI
            obtain ⟨u56, hI⟩ := hI
            obtain ⟨u57, hI⟩ := hI
            obtain ⟨u58, hI⟩ := hI
            obtain ⟨u59, hI⟩ := hI
            obtain ⟨u60, hI⟩ := hI
            obtain ⟨u61, hI⟩ := hI
            obtain ⟨u62, hI⟩ := hI
            obtain ⟨u63, hI⟩ := hI
            obtain ⟨u64, hI⟩ := hI
            obtain ⟨u65, hI⟩ := hI
            obtain ⟨u66, hI⟩ := hI
            obtain ⟨u67, hI⟩ := hI
            obtain ⟨u68, hI⟩ := hI
            obtain ⟨ha, hI⟩ := hI
            obtain ⟨h0, hI⟩ := hI
            obtain ⟨h1, hI⟩ := hI
            obtain ⟨h2, hI⟩ := hI
            obtain ⟨h3, hI⟩ := hI
            obtain ⟨n18, hI⟩ := hI
            obtain ⟨l0, hI⟩ := hI
            obtain ⟨l1, hI⟩ := hI
            obtain ⟨l2, hI⟩ := hI
            obtain ⟨l3, hI⟩ := hI
            obtain ⟨l4, hI⟩ := hI
            obtain ⟨l5, hI⟩ := hI
            obtain ⟨l6, hI⟩ := hI
            obtain ⟨l7, hI⟩ := hI
            obtain ⟨l8, hI⟩ := hI
            obtain ⟨l9, hI⟩ := hI
            obtain ⟨l10, hI⟩ := hI
            obtain ⟨l11, hI⟩ := hI
            obtain ⟨l12, hI⟩ := hI
            obtain ⟨l13, hI⟩ := hI
            obtain ⟨l14, hI⟩ := hI
            obtain ⟨l15, hI⟩ := hI
            obtain ⟨l16, hI⟩ := hI
            obtain ⟨l17, hI⟩ := hI
            obtain ⟨l18, hI⟩ := hI
            obtain ⟨l19, hI⟩ := hI
            obtain ⟨l20, hI⟩ := hI
            have l21 := hI; clear hI
            subst ha
            have r9 := l9.on (hd 9 (by decide))
            clear hd
            obtain ⟨k, ts, A, c, rfl, ho, hk⟩ := r9
            simp only [over]
            go_simp
            exact hK.out _ _ ⟨by simpa using hsz, _, _, _, _, _, _, _, _, _, _, _, _, _, _, _, _, _, _, _, _, _, _, rfl, h0, h1, h2, h3, n18.set_ne (by decide), l0.set_ne (by decide), l1.set_ne (by decide), l2.set_ne (by decide), l3.set_ne (by decide), l4.set_ne (by decide), l5.set_ne (by decide), l6.set_ne (by decide), l7.set_ne (by decide), l8.set_ne (by decide), l9.set_ne (by decide), Lst.now ⟨0, _, rfl, k, ts, A, c, rfl, ho, hk⟩, l11.set_ne (by decide), l12.set_ne (by decide), l13.set_ne (by decide), l14.set_ne (by decide), l15.set_ne (by decide), l16.set_ne (by decide), l17.set_ne (by decide), l18.set_ne (by decide), l19.set_ne (by decide), l20.set_ne (by decide), l21.set_ne (by decide)⟩
          refine StepsOK.cons (fun l a' w' K' hK hl hd hI => ?_) ?_
          · obtain ⟨hsz, hI⟩ := hI
            obtain ⟨u47, hI⟩ := hI
            obtain ⟨u48, hI⟩ := hI
            obtain ⟨u49, hI⟩ := hI
            obtain ⟨u50, hI⟩ := hI
            obtain ⟨u51, hI⟩ := hI
            obtain ⟨u52, hI⟩ := hI
            obtain ⟨u53, hI⟩ := hI
            obtain ⟨u54, hI⟩ := hI
            obtain ⟨u55, hI⟩ := hI
            obtain ⟨u56, hI⟩ := hI
            obtain ⟨u57, hI⟩ := hI
            obtain ⟨u58, hI⟩ := hI
            obtain ⟨u59, hI⟩ := hI
            obtain ⟨u60, hI⟩ := hI
            obtain ⟨u61, hI⟩ := hI
            obtain ⟨u62, hI⟩ := hI
            obtain ⟨u63, hI⟩ := hI
            obtain ⟨u64, hI⟩ := hI
            obtain ⟨u65, hI⟩ := hI
            obtain ⟨u66, hI⟩ := hI
            obtain ⟨u67, hI⟩ := hI
            obtain ⟨u68, hI⟩ := hI
            obtain ⟨ha, hI⟩ := hI
            obtain ⟨h0, hI⟩ := hI
            obtain ⟨h1, hI⟩ := hI
            obtain ⟨h2, hI⟩ := hI
            obtain ⟨h3, hI⟩ := hI
            obtain ⟨n18, hI⟩ := hI
            obtain ⟨l0, hI⟩ := hI
            obtain ⟨l1, hI⟩ := hI
            obtain ⟨l2, hI⟩ := hI
            obtain ⟨l3, hI⟩ := hI
            obtain ⟨l4, hI⟩ := hI
            obtain ⟨l5, hI⟩ := hI
            obtain ⟨l6, hI⟩ := hI
            obtain ⟨l7, hI⟩ := hI
            obtain ⟨l8, hI⟩ := hI
            obtain ⟨l9, hI⟩ := hI
            obtain ⟨l10, hI⟩ := hI
            obtain ⟨l11, hI⟩ := hI
            obtain ⟨l12, hI⟩ := hI
            obtain ⟨l13, hI⟩ := hI
            obtain ⟨l14, hI⟩ := hI
            obtain ⟨l15, hI⟩ := hI
            obtain ⟨l16, hI⟩ := hI
            obtain ⟨l17, hI⟩ := hI
            obtain ⟨l18, hI⟩ := hI
            obtain ⟨l19, hI⟩ := hI
            obtain ⟨l20, hI⟩ := hI
            have l21 := hI; clear hI
            subst ha
            clear hd
            simp only [over]
            go_simp
            exact hK.out _ _ ⟨by simpa using hsz, _, _, _, _, _, _, _, _, _, _, _, _, _, _, _, _, _, _, _, _, _, _, rfl, h0, h1, h2, h3, n18.set_ne (by decide), l0.set_ne (by decide), l1.set_ne (by decide), l2.set_ne (by decide), l3.set_ne (by decide), l4.set_ne (by decide), l5.set_ne (by decide), l6.set_ne (by decide), l7.set_ne (by decide), l8.set_ne (by decide), l9.set_ne (by decide), l10.set_ne (by decide), Lst.now ⟨2, 0, 1, rfl⟩, l12.set_ne (by decide), l13.set_ne (by decide), l14.set_ne (by decide), l15.set_ne (by decide), l16.set_ne (by decide), l17.set_ne (by decide), l18.set_ne (by decide), l19.set_ne (by decide), l20.set_ne (by decide), l21.set_ne (by decide)⟩
          refine StepsOK.cons (fun l a' w' K' hK hl hd hI => ?_) ?_
          · obtain ⟨hsz, hI⟩ := hI
            obtain ⟨u47, hI⟩ := hI
            obtain ⟨u48, hI⟩ := hI
            obtain ⟨u49, hI⟩ := hI
            obtain ⟨u50, hI⟩ := hI
            obtain ⟨u51, hI⟩ := hI
            obtain ⟨u52, hI⟩ := hI
            obtain ⟨u53, hI⟩ := hI
            obtain ⟨u54, hI⟩ := hI
            obtain ⟨u55, hI⟩ := hI
            obtain ⟨u56, hI⟩ := hI
            obtain ⟨u57, hI⟩ := hI
            obtain ⟨u58, hI⟩ := hI
            obtain ⟨u59, hI⟩ := hI
            obtain ⟨u60, hI⟩ := hI
            obtain ⟨u61, hI⟩ := hI
            obtain ⟨u62, hI⟩ := hI
            obtain ⟨u63, hI⟩ := hI
            obtain ⟨u64, hI⟩ := hI
            obtain ⟨u65, hI⟩ := hI
            obtain ⟨u66, hI⟩ := hI
            obtain ⟨u67, hI⟩ := hI
            obtain ⟨u68, hI⟩ := hI
            obtain ⟨ha, hI⟩ := hI
            obtain ⟨h0, hI⟩ := hI
            obtain ⟨h1, hI⟩ := hI
            obtain ⟨h2, hI⟩ := hI
            obtain ⟨h3, hI⟩ := hI
            obtain ⟨n18, hI⟩ := hI
            obtain ⟨l0, hI⟩ := hI
            obtain ⟨l1, hI⟩ := hI
            obtain ⟨l2, hI⟩ := hI
            obtain ⟨l3, hI⟩ := hI
            obtain ⟨l4, hI⟩ := hI
            obtain ⟨l5, hI⟩ := hI
            obtain ⟨l6, hI⟩ := hI
            obtain ⟨l7, hI⟩ := hI
            obtain ⟨l8, hI⟩ := hI
            obtain ⟨l9, hI⟩ := hI
            obtain ⟨l10, hI⟩ := hI
            obtain ⟨l11, hI⟩ := hI
            obtain ⟨l12, hI⟩ := hI
            obtain ⟨l13, hI⟩ := hI
            obtain ⟨l14, hI⟩ := hI
            obtain ⟨l15, hI⟩ := hI
            obtain ⟨l16, hI⟩ := hI
            obtain ⟨l17, hI⟩ := hI
            obtain ⟨l18, hI⟩ := hI
            obtain ⟨l19, hI⟩ := hI
            obtain ⟨l20, hI⟩ := hI
            have l21 := hI; clear hI
            subst ha
            have r11 := l11.on (hd 11 (by decide))
            clear hd
            obtain ⟨x, y, z, rfl⟩ := r11
            simp only [over]
            go_simp
            have kb := beB0 w' (.cells #[.int .i64 x, .int .i64 y, .int .i64 z] 42)
            have kg := grown_of_below kb (some g)
            exact hK.out _ _ ⟨by simpa using hsz, _, _, _, _, _, _, _, _, _, _, _, _, _, _, _, _, _, _, _, _, _, _, rfl, h0.kp kg hgl, grown_trans' h1 kg, Nat.le_trans h2 kg.size, h3.below kb, (n18.set_ne (by decide)).mono (fun h => h.below kb), l0.set_ne (by decide), (l1.set_ne (by decide)).mono (fun h => h.kp kg hgl), l2.set_ne (by decide), (l3.set_ne (by decide)).mono (fun h => h.kp kg hgl), (l4.set_ne (by decide)).mono (fun h => h.kp kg hgl), l5.set_ne (by decide), (l6.set_ne (by decide)).mono (fun h => h.kp kg hgl), (l7.set_ne (by decide)).mono (fun h => h.kp kg hgl), l8.set_ne (by decide), (l9.set_ne (by decide)).mono (fun h => h.kp kg hgl), (l10.set_ne (by decide)).mono (fun h => h.kp kg hgl), l11.set_ne (by decide), Lst.now (SV.one h2 rfl), (l13.set_ne (by decide)).mono (fun h => h.kp kg hgl), (l14.set_ne (by decide)).mono (fun h => h.kp kg hgl), (l15.set_ne (by decide)).mono (fun h => h.kp kg hgl), (l16.set_ne (by decide)).mono (fun h => h.kp kg hgl), l17.set_ne (by decide), l18.set_ne (by decide), (l19.set_ne (by decide)).mono (fun h => h.kp kg hgl), (l20.set_ne (by decide)).mono (fun h => h.kp kg hgl), (l21.set_ne (by decide)).mono (fun h => h.kp kg hgl)⟩
          refine StepsOK.cons (fun l a' w' K' hK hl hd hI => ?_) ?_
          · obtain ⟨hsz, hI⟩ := hI
            obtain ⟨u47, hI⟩ := hI
            obtain ⟨u48, hI⟩ := hI
            obtain ⟨u49, hI⟩ := hI
            obtain ⟨u50, hI⟩ := hI
            obtain ⟨u51, hI⟩ := hI
            obtain ⟨u52, hI⟩ := hI
            obtain ⟨u53, hI⟩ := hI
            obtain ⟨u54, hI⟩ := hI
            obtain ⟨u55, hI⟩ := hI
            obtain ⟨u56, hI⟩ := hI
            obtain ⟨u57, hI⟩ := hI
            obtain ⟨u58, hI⟩ := hI
            obtain ⟨u59, hI⟩ := hI
            obtain ⟨u60, hI⟩ := hI
            obtain ⟨u61, hI⟩ := hI
            obtain ⟨u62, hI⟩ := hI
            obtain ⟨u63, hI⟩ := hI
            obtain ⟨u64, hI⟩ := hI
            obtain ⟨u65, hI⟩ := hI
            obtain ⟨u66, hI⟩ := hI
            obtain ⟨u67, hI⟩ := hI
            obtain ⟨u68, hI⟩ := hI
            obtain ⟨ha, hI⟩ := hI
            obtain ⟨h0, hI⟩ := hI
            obtain ⟨h1, hI⟩ := hI
            obtain ⟨h2, hI⟩ := hI
            obtain ⟨h3, hI⟩ := hI
            obtain ⟨n18, hI⟩ := hI
            obtain ⟨l0, hI⟩ := hI
            obtain ⟨l1, hI⟩ := hI
            obtain ⟨l2, hI⟩ := hI
            obtain ⟨l3, hI⟩ := hI
            obtain ⟨l4, hI⟩ := hI
            obtain ⟨l5, hI⟩ := hI
            obtain ⟨l6, hI⟩ := hI
            obtain ⟨l7, hI⟩ := hI
            obtain ⟨l8, hI⟩ := hI
            obtain ⟨l9, hI⟩ := hI
            obtain ⟨l10, hI⟩ := hI
            obtain ⟨l11, hI⟩ := hI
            obtain ⟨l12, hI⟩ := hI
            obtain ⟨l13, hI⟩ := hI
            obtain ⟨l14, hI⟩ := hI
            obtain ⟨l15, hI⟩ := hI
            obtain ⟨l16, hI⟩ := hI
            obtain ⟨l17, hI⟩ := hI
            obtain ⟨l18, hI⟩ := hI
            obtain ⟨l19, hI⟩ := hI
            obtain ⟨l20, hI⟩ := hI
            have l21 := hI; clear hI
            subst ha
            have r12 := l12.on (hd 12 (by decide))
            clear hd
            obtain ⟨k, ts, A, c, rfl, ho, hk⟩ := r12
            simp only [over]
            go_simp
            exact hK.out _ _ ⟨by simpa using hsz, _, _, _, _, _, _, _, _, _, _, _, _, _, _, _, _, _, _, _, _, _, _, rfl, h0, h1, h2, h3, n18.set_ne (by decide), l0.set_ne (by decide), l1.set_ne (by decide), l2.set_ne (by decide), l3.set_ne (by decide), l4.set_ne (by decide), l5.set_ne (by decide), l6.set_ne (by decide), l7.set_ne (by decide), l8.set_ne (by decide), l9.set_ne (by decide), l10.set_ne (by decide), l11.set_ne (by decide), l12.set_ne (by decide), Lst.now ⟨0, _, rfl, k, ts, A, c, rfl, ho, hk⟩, l14.set_ne (by decide), l15.set_ne (by decide), l16.set_ne (by decide), l17.set_ne (by decide), l18.set_ne (by decide), l19.set_ne (by decide), l20.set_ne (by decide), l21.set_ne (by decide)⟩
          refine StepsOK.cons (fun l a' w' K' hK hl hd hI => ?_) ?_
          · obtain ⟨hsz, hI⟩ := hI
            obtain ⟨u47, hI⟩ := hI
            obtain ⟨u48, hI⟩ := hI
            obtain ⟨u49, hI⟩ := hI
            obtain ⟨u50, hI⟩ := hI
            obtain ⟨u51, hI⟩ := hI
            obtain ⟨u52, hI⟩ := hI
            obtain ⟨u53, hI⟩ := hI
            obtain ⟨u54, hI⟩ := hI
            obtain ⟨u55, hI⟩ := hI
            obtain ⟨u56, hI⟩ := hI
            obtain ⟨u57, hI⟩ := hI
            obtain ⟨u58, hI⟩ := hI
            obtain ⟨u59, hI⟩ := hI
            obtain ⟨u60, hI⟩ := hI
            obtain ⟨u61, hI⟩ := hI
            obtain ⟨u62, hI⟩ := hI
            obtain ⟨u63, hI⟩ := hI
            obtain ⟨u64, hI⟩ := hI
            obtain ⟨u65, hI⟩ := hI
            obtain ⟨u66, hI⟩ := hI
            obtain ⟨u67, hI⟩ := hI
            obtain ⟨u68, hI⟩ := hI
            obtain ⟨ha, hI⟩ := hI
            obtain ⟨h0, hI⟩ := hI
            obtain ⟨h1, hI⟩ := hI
            obtain ⟨h2, hI⟩ := hI
            obtain ⟨h3, hI⟩ := hI
            obtain ⟨n18, hI⟩ := hI
            obtain ⟨l0, hI⟩ := hI
            obtain ⟨l1, hI⟩ := hI
            obtain ⟨l2, hI⟩ := hI
            obtain ⟨l3, hI⟩ := hI
            obtain ⟨l4, hI⟩ := hI
            obtain ⟨l5, hI⟩ := hI
            obtain ⟨l6, hI⟩ := hI
            obtain ⟨l7, hI⟩ := hI
            obtain ⟨l8, hI⟩ := hI
            obtain ⟨l9, hI⟩ := hI
            obtain ⟨l10, hI⟩ := hI
            obtain ⟨l11, hI⟩ := hI
            obtain ⟨l12, hI⟩ := hI
            obtain ⟨l13, hI⟩ := hI
            obtain ⟨l14, hI⟩ := hI
            obtain ⟨l15, hI⟩ := hI
            obtain ⟨l16, hI⟩ := hI
            obtain ⟨l17, hI⟩ := hI
            obtain ⟨l18, hI⟩ := hI
            obtain ⟨l19, hI⟩ := hI
            obtain ⟨l20, hI⟩ := hI
            have l21 := hI; clear hI
            subst ha
            clear hd
            have hmk := run_make_Op5
            simp only [over]
            go_simp
            have kb := beB0 w' (.cells ((List.replicate (5 * 3) (Value.int .i64 0)).toArray) 42)
            have kg := grown_of_below kb (some g)
            exact hK.out _ _ ⟨by simpa using hsz, _, _, _, _, _, _, _, _, _, _, _, _, _, _, _, _, _, _, _, _, _, _, rfl, h0.kp kg hgl, grown_trans' h1 kg, Nat.le_trans h2 kg.size, h3.below kb, (n18.set_ne (by decide)).mono (fun h => h.below kb), l0.set_ne (by decide), (l1.set_ne (by decide)).mono (fun h => h.kp kg hgl), l2.set_ne (by decide), (l3.set_ne (by decide)).mono (fun h => h.kp kg hgl), (l4.set_ne (by decide)).mono (fun h => h.kp kg hgl), l5.set_ne (by decide), (l6.set_ne (by decide)).mono (fun h => h.kp kg hgl), (l7.set_ne (by decide)).mono (fun h => h.kp kg hgl), l8.set_ne (by decide), (l9.set_ne (by decide)).mono (fun h => h.kp kg hgl), (l10.set_ne (by decide)).mono (fun h => h.kp kg hgl), l11.set_ne (by decide), (l12.set_ne (by decide)).mono (fun h => h.kp kg hgl), (l13.set_ne (by decide)).mono (fun h => h.kp kg hgl), Lst.now (SV.five h2), (l15.set_ne (by decide)).mono (fun h => h.kp kg hgl), (l16.set_ne (by decide)).mono (fun h => h.kp kg hgl), l17.set_ne (by decide), l18.set_ne (by decide), (l19.set_ne (by decide)).mono (fun h => h.kp kg hgl), (l20.set_ne (by decide)).mono (fun h => h.kp kg hgl), (l21.set_ne (by decide)).mono (fun h => h.kp kg hgl)⟩
          refine StepsOK.cons (fun l a' w' K' hK hl hd hI => ?_) ?_
          · obtain ⟨hsz, hI⟩ := hI
            obtain ⟨u47, hI⟩ := hI
            obtain ⟨u48, hI⟩ := hI
            obtain ⟨u49, hI⟩ := hI
            obtain ⟨u50, hI⟩ := hI
            obtain ⟨u51, hI⟩ := hI
            obtain ⟨u52, hI⟩ := hI
            obtain ⟨u53, hI⟩ := hI
            obtain ⟨u54, hI⟩ := hI
            obtain ⟨u55, hI⟩ := hI
            obtain ⟨u56, hI⟩ := hI
            obtain ⟨u57, hI⟩ := hI
            obtain ⟨u58, hI⟩ := hI
            obtain ⟨u59, hI⟩ := hI
            obtain ⟨u60, hI⟩ := hI
            obtain ⟨u61, hI⟩ := hI
            obtain ⟨u62, hI⟩ := hI
            obtain ⟨u63, hI⟩ := hI
            obtain ⟨u64, hI⟩ := hI
            obtain ⟨u65, hI⟩ := hI
            obtain ⟨u66, hI⟩ := hI
            obtain ⟨u67, hI⟩ := hI
            obtain ⟨u68, hI⟩ := hI
            obtain ⟨ha, hI⟩ := hI
            obtain ⟨h0, hI⟩ := hI
            obtain ⟨h1, hI⟩ := hI
            obtain ⟨h2, hI⟩ := hI
            obtain ⟨h3, hI⟩ := hI
            obtain ⟨n18, hI⟩ := hI
            obtain ⟨l0, hI⟩ := hI
            obtain ⟨l1, hI⟩ := hI
            obtain ⟨l2, hI⟩ := hI
            obtain ⟨l3, hI⟩ := hI
            obtain ⟨l4, hI⟩ := hI
            obtain ⟨l5, hI⟩ := hI
            obtain ⟨l6, hI⟩ := hI
            obtain ⟨l7, hI⟩ := hI
            obtain ⟨l8, hI⟩ := hI
            obtain ⟨l9, hI⟩ := hI
            obtain ⟨l10, hI⟩ := hI
            obtain ⟨l11, hI⟩ := hI
            obtain ⟨l12, hI⟩ := hI
            obtain ⟨l13, hI⟩ := hI
            obtain ⟨l14, hI⟩ := hI
            obtain ⟨l15, hI⟩ := hI
            obtain ⟨l16, hI⟩ := hI
            obtain ⟨l17, hI⟩ := hI
            obtain ⟨l18, hI⟩ := hI
            obtain ⟨l19, hI⟩ := hI
            obtain ⟨l20, hI⟩ := hI
            have l21 := hI; clear hI
            subst ha
            have r14 := l14.on (hd 14 (by decide))
            clear hd
            obtain ⟨k, ts, A, c, rfl, ho, hk⟩ := r14
            simp only [over]
            go_simp
            exact hK.out _ _ ⟨by simpa using hsz, _, _, _, _, _, _, _, _, _, _, _, _, _, _, _, _, _, _, _, _, _, _, rfl, h0, h1, h2, h3, n18.set_ne (by decide), l0.set_ne (by decide), l1.set_ne (by decide), l2.set_ne (by decide), l3.set_ne (by decide), l4.set_ne (by decide), l5.set_ne (by decide), l6.set_ne (by decide), l7.set_ne (by decide), l8.set_ne (by decide), l9.set_ne (by decide), l10.set_ne (by decide), l11.set_ne (by decide), l12.set_ne (by decide), l13.set_ne (by decide), l14.set_ne (by decide), Lst.now ⟨0, _, rfl, k, ts, A, c, rfl, ho, hk⟩, l16.set_ne (by decide), l17.set_ne (by decide), l18.set_ne (by decide), l19.set_ne (by decide), l20.set_ne (by decide), l21.set_ne (by decide)⟩
          refine StepsOK.cons (fun l a' w' K' hK hl hd hI => ?_) ?_
          · obtain ⟨hsz, hI⟩ := hI
            obtain ⟨u47, hI⟩ := hI
            obtain ⟨u48, hI⟩ := hI
            obtain ⟨u49, hI⟩ := hI
            obtain ⟨u50, hI⟩ := hI
            obtain ⟨u51, hI⟩ := hI
            obtain ⟨u52, hI⟩ := hI
            obtain ⟨u53, hI⟩ := hI
            obtain ⟨u54, hI⟩ := hI
            obtain ⟨u55, hI⟩ := hI
            obtain ⟨u56, hI⟩ := hI
            obtain ⟨u57, hI⟩ := hI
            obtain ⟨u58, hI⟩ := hI
            obtain ⟨u59, hI⟩ := hI
            obtain ⟨u60, hI⟩ := hI
            obtain ⟨u61, hI⟩ := hI
            obtain ⟨u62, hI⟩ := hI
            obtain ⟨u63, hI⟩ := hI
            obtain ⟨u64, hI⟩ := hI
            obtain ⟨u65, hI⟩ := hI
            obtain ⟨u66, hI⟩ := hI
            obtain ⟨u67, hI⟩ := hI
            obtain ⟨u68, hI⟩ := hI
            obtain ⟨ha, hI⟩ := hI
            obtain ⟨h0, hI⟩ := hI
            obtain ⟨h1, hI⟩ := hI
            obtain ⟨h2, hI⟩ := hI
            obtain ⟨h3, hI⟩ := hI
            obtain ⟨n18, hI⟩ := hI
            obtain ⟨l0, hI⟩ := hI
            obtain ⟨l1, hI⟩ := hI
            obtain ⟨l2, hI⟩ := hI
            obtain ⟨l3, hI⟩ := hI
            obtain ⟨l4, hI⟩ := hI
            obtain ⟨l5, hI⟩ := hI
            obtain ⟨l6, hI⟩ := hI
            obtain ⟨l7, hI⟩ := hI
            obtain ⟨l8, hI⟩ := hI
            obtain ⟨l9, hI⟩ := hI
            obtain ⟨l10, hI⟩ := hI
            obtain ⟨l11, hI⟩ := hI
            obtain ⟨l12, hI⟩ := hI
            obtain ⟨l13, hI⟩ := hI
            obtain ⟨l14, hI⟩ := hI
            obtain ⟨l15, hI⟩ := hI
            obtain ⟨l16, hI⟩ := hI
            obtain ⟨l17, hI⟩ := hI
            obtain ⟨l18, hI⟩ := hI
            obtain ⟨l19, hI⟩ := hI
            obtain ⟨l20, hI⟩ := hI
            have l21 := hI; clear hI
            subst ha
            have r1 := l1.on (hd 1 (by decide))
            have r4 := l4.on (hd 4 (by decide))
            have r7 := l7.on (hd 7 (by decide))
            have r10 := l10.on (hd 10 (by decide))
            have r13 := l13.on (hd 13 (by decide))
            have r15 := l15.on (hd 15 (by decide))
            clear hd
            obtain ⟨f0, q0, rfl, k0, ts0, A0, c0, rfl, o0, hk0⟩ := r1
            obtain ⟨f1, q1, rfl, k1, ts1, A1, c1, rfl, o1, hk1⟩ := r4
            obtain ⟨f2, q2, rfl, k2, ts2, A2, c2, rfl, o2, hk2⟩ := r7
            obtain ⟨f3, q3, rfl, k3, ts3, A3, c3, rfl, o3, hk3⟩ := r10
            obtain ⟨f4, q4, rfl, k4, ts4, A4, c4, rfl, o4, hk4⟩ := r13
            obtain ⟨f5, q5, rfl, k5, ts5, A5, c5, rfl, o5, hk5⟩ := r15
            simp only [over]
            go_simp
            have kb := beB0 w' (.cells #[.int .i64 f0, .slice A0 k0 c0, .int .i64 f1, .slice A1 k1 c1, .int .i64 f2, .slice A2 k2 c2, .int .i64 f3, .slice A3 k3 c3, .int .i64 f4, .slice A4 k4 c4, .int .i64 f5, .slice A5 k5 c5] 37)
            have kg := grown_of_below kb (some g)
            exact hK.out _ _ ⟨by simpa using hsz, _, _, _, _, _, _, _, _, _, _, _, _, _, _, _, _, _, _, _, _, _, _, rfl, h0.kp kg hgl, grown_trans' h1 kg, Nat.le_trans h2 kg.size, h3.below kb, (n18.set_ne (by decide)).mono (fun h => h.below kb), l0.set_ne (by decide), (l1.set_ne (by decide)).mono (fun h => h.kp kg hgl), l2.set_ne (by decide), (l3.set_ne (by decide)).mono (fun h => h.kp kg hgl), (l4.set_ne (by decide)).mono (fun h => h.kp kg hgl), l5.set_ne (by decide), (l6.set_ne (by decide)).mono (fun h => h.kp kg hgl), (l7.set_ne (by decide)).mono (fun h => h.kp kg hgl), l8.set_ne (by decide), (l9.set_ne (by decide)).mono (fun h => h.kp kg hgl), (l10.set_ne (by decide)).mono (fun h => h.kp kg hgl), l11.set_ne (by decide), (l12.set_ne (by decide)).mono (fun h => h.kp kg hgl), (l13.set_ne (by decide)).mono (fun h => h.kp kg hgl), (l14.set_ne (by decide)).mono (fun h => h.kp kg hgl), (l15.set_ne (by decide)).mono (fun h => h.kp kg hgl), Lst.now (TV.new h2 kg hgl ⟨_, _, _, _, rfl, o0, hk0⟩ ⟨_, _, _, _, rfl, o1, hk1⟩ ⟨_, _, _, _, rfl, o2, hk2⟩ ⟨_, _, _, _, rfl, o3, hk3⟩ ⟨_, _, _, _, rfl, o4, hk4⟩ ⟨_, _, _, _, rfl, o5, hk5⟩), l17.set_ne (by decide), l18.set_ne (by decide), (l19.set_ne (by decide)).mono (fun h => h.kp kg hgl), (l20.set_ne (by decide)).mono (fun h => h.kp kg hgl), (l21.set_ne (by decide)).mono (fun h => h.kp kg hgl)⟩
          refine StepsOK.cons (fun l a' w' K' hK hl hd hI => ?_) ?_
          · obtain ⟨hsz, hI⟩ := hI
            obtain ⟨u47, hI⟩ := hI
            obtain ⟨u48, hI⟩ := hI
            obtain ⟨u49, hI⟩ := hI
            obtain ⟨u50, hI⟩ := hI
            obtain ⟨u51, hI⟩ := hI
            obtain ⟨u52, hI⟩ := hI
            obtain ⟨u53, hI⟩ := hI
            obtain ⟨u54, hI⟩ := hI
            obtain ⟨u55, hI⟩ := hI
            obtain ⟨u56, hI⟩ := hI
            obtain ⟨u57, hI⟩ := hI
            obtain ⟨u58, hI⟩ := hI
            obtain ⟨u59, hI⟩ := hI
            obtain ⟨u60, hI⟩ := hI
            obtain ⟨u61, hI⟩ := hI
            obtain ⟨u62, hI⟩ := hI
            obtain ⟨u63, hI⟩ := hI
            obtain ⟨u64, hI⟩ := hI
            obtain ⟨u65, hI⟩ := hI
            obtain ⟨u66, hI⟩ := hI
            obtain ⟨u67, hI⟩ := hI
            obtain ⟨u68, hI⟩ := hI
            obtain ⟨ha, hI⟩ := hI
            obtain ⟨h0, hI⟩ := hI
            obtain ⟨h1, hI⟩ := hI
            obtain ⟨h2, hI⟩ := hI
            obtain ⟨h3, hI⟩ := hI
            obtain ⟨n18, hI⟩ := hI
            obtain ⟨l0, hI⟩ := hI
            obtain ⟨l1, hI⟩ := hI
            obtain ⟨l2, hI⟩ := hI
            obtain ⟨l3, hI⟩ := hI
            obtain ⟨l4, hI⟩ := hI
            obtain ⟨l5, hI⟩ := hI
            obtain ⟨l6, hI⟩ := hI
            obtain ⟨l7, hI⟩ := hI
            obtain ⟨l8, hI⟩ := hI
            obtain ⟨l9, hI⟩ := hI
            obtain ⟨l10, hI⟩ := hI
            obtain ⟨l11, hI⟩ := hI
            obtain ⟨l12, hI⟩ := hI
            obtain ⟨l13, hI⟩ := hI
            obtain ⟨l14, hI⟩ := hI
            obtain ⟨l15, hI⟩ := hI
            obtain ⟨l16, hI⟩ := hI
            obtain ⟨l17, hI⟩ := hI
            obtain ⟨l18, hI⟩ := hI
            obtain ⟨l19, hI⟩ := hI
            obtain ⟨l20, hI⟩ := hI
            have l21 := hI; clear hI
            subst ha
            clear hd
            simp only [over]
            go_simp
            exact hK.out _ _ ⟨by simpa using hsz, _, _, _, _, _, _, _, _, _, _, _, _, _, _, _, _, _, _, _, _, _, _, rfl, h0, h1, h2, h3, n18.set_ne (by decide), l0.set_ne (by decide), l1.set_ne (by decide), l2.set_ne (by decide), l3.set_ne (by decide), l4.set_ne (by decide), l5.set_ne (by decide), l6.set_ne (by decide), l7.set_ne (by decide), l8.set_ne (by decide), l9.set_ne (by decide), l10.set_ne (by decide), l11.set_ne (by decide), l12.set_ne (by decide), l13.set_ne (by decide), l14.set_ne (by decide), l15.set_ne (by decide), l16.set_ne (by decide), Lst.now rfl, l18.set_ne (by decide), l19.set_ne (by decide), l20.set_ne (by decide), l21.set_ne (by decide)⟩
          refine StepsOK.cons (fun l a' w' K' hK hl hd hI => ?_) ?_
          · obtain ⟨hsz, hI⟩ := hI
            obtain ⟨u47, hI⟩ := hI
            obtain ⟨u48, hI⟩ := hI
            obtain ⟨u49, hI⟩ := hI
            obtain ⟨u50, hI⟩ := hI
            obtain ⟨u51, hI⟩ := hI
            obtain ⟨u52, hI⟩ := hI
            obtain ⟨u53, hI⟩ := hI
            obtain ⟨u54, hI⟩ := hI
            obtain ⟨u55, hI⟩ := hI
            obtain ⟨u56, hI⟩ := hI
            obtain ⟨u57, hI⟩ := hI
            obtain ⟨u58, hI⟩ := hI
            obtain ⟨u59, hI⟩ := hI
            obtain ⟨u60, hI⟩ := hI
            obtain ⟨u61, hI⟩ := hI
            obtain ⟨u62, hI⟩ := hI
            obtain ⟨u63, hI⟩ := hI
            obtain ⟨u64, hI⟩ := hI
            obtain ⟨u65, hI⟩ := hI
            obtain ⟨u66, hI⟩ := hI
            obtain ⟨u67, hI⟩ := hI
            obtain ⟨u68, hI⟩ := hI
            obtain ⟨ha, hI⟩ := hI
            obtain ⟨h0, hI⟩ := hI
            obtain ⟨h1, hI⟩ := hI
            obtain ⟨h2, hI⟩ := hI
            obtain ⟨h3, hI⟩ := hI
            obtain ⟨n18, hI⟩ := hI
            obtain ⟨l0, hI⟩ := hI
            obtain ⟨l1, hI⟩ := hI
            obtain ⟨l2, hI⟩ := hI
            obtain ⟨l3, hI⟩ := hI
            obtain ⟨l4, hI⟩ := hI
            obtain ⟨l5, hI⟩ := hI
            obtain ⟨l6, hI⟩ := hI
            obtain ⟨l7, hI⟩ := hI
            obtain ⟨l8, hI⟩ := hI
            obtain ⟨l9, hI⟩ := hI
            obtain ⟨l10, hI⟩ := hI
            obtain ⟨l11, hI⟩ := hI
            obtain ⟨l12, hI⟩ := hI
            obtain ⟨l13, hI⟩ := hI
            obtain ⟨l14, hI⟩ := hI
            obtain ⟨l15, hI⟩ := hI
            obtain ⟨l16, hI⟩ := hI
            obtain ⟨l17, hI⟩ := hI
            obtain ⟨l18, hI⟩ := hI
            obtain ⟨l19, hI⟩ := hI
            obtain ⟨l20, hI⟩ := hI
            have l21 := hI; clear hI
            subst ha
            have r17 := l17.on (hd 17 (by decide))
            clear hd
            subst r17
            simp only [over]
            go_simp
            go_at_call 32
            refine (pick_c (n18.on hl) (by omega) (by omega) (by omega)).mono ?_
            rintro e w9 ⟨x, rfl, x0, x1, r9, g9⟩
            go_simp
            have kg := g9
            exact hK.out _ _ ⟨by simpa using hsz, _, _, _, _, _, _, _, _, _, _, _, _, _, _, _, _, _, _, _, _, _, _, rfl, h0.kp kg hgl, grown_trans' h1 kg, Nat.le_trans h2 kg.size, r9, Nst.gone hl, l0.set_ne (by decide), (l1.set_ne (by decide)).mono (fun h => h.kp kg hgl), l2.set_ne (by decide), (l3.set_ne (by decide)).mono (fun h => h.kp kg hgl), (l4.set_ne (by decide)).mono (fun h => h.kp kg hgl), l5.set_ne (by decide), (l6.set_ne (by decide)).mono (fun h => h.kp kg hgl), (l7.set_ne (by decide)).mono (fun h => h.kp kg hgl), l8.set_ne (by decide), (l9.set_ne (by decide)).mono (fun h => h.kp kg hgl), (l10.set_ne (by decide)).mono (fun h => h.kp kg hgl), l11.set_ne (by decide), (l12.set_ne (by decide)).mono (fun h => h.kp kg hgl), (l13.set_ne (by decide)).mono (fun h => h.kp kg hgl), (l14.set_ne (by decide)).mono (fun h => h.kp kg hgl), (l15.set_ne (by decide)).mono (fun h => h.kp kg hgl), (l16.set_ne (by decide)).mono (fun h => h.kp kg hgl), l17.set_ne (by decide), Lst.now ⟨x.toNat, by rw [Int.toNat_of_nonneg x0], by omega⟩, (l19.set_ne (by decide)).mono (fun h => h.kp kg hgl), (l20.set_ne (by decide)).mono (fun h => h.kp kg hgl), (l21.set_ne (by decide)).mono (fun h => h.kp kg hgl)⟩
          refine StepsOK.cons (fun l a' w' K' hK hl hd hI => ?_) ?_
          · obtain ⟨hsz, hI⟩ := hI
            obtain ⟨u47, hI⟩ := hI
            obtain ⟨u48, hI⟩ := hI
            obtain ⟨u49, hI⟩ := hI
            obtain ⟨u50, hI⟩ := hI
            obtain ⟨u51, hI⟩ := hI
            obtain ⟨u52, hI⟩ := hI
            obtain ⟨u53, hI⟩ := hI
            obtain ⟨u54, hI⟩ := hI
            obtain ⟨u55, hI⟩ := hI
            obtain ⟨u56, hI⟩ := hI
            obtain ⟨u57, hI⟩ := hI
            obtain ⟨u58, hI⟩ := hI
            obtain ⟨u59, hI⟩ := hI
            obtain ⟨u60, hI⟩ := hI
            obtain ⟨u61, hI⟩ := hI
            obtain ⟨u62, hI⟩ := hI
            obtain ⟨u63, hI⟩ := hI
            obtain ⟨u64, hI⟩ := hI
            obtain ⟨u65, hI⟩ := hI
            obtain ⟨u66, hI⟩ := hI
            obtain ⟨u67, hI⟩ := hI
            obtain ⟨u68, hI⟩ := hI
            obtain ⟨ha, hI⟩ := hI
            obtain ⟨h0, hI⟩ := hI
            obtain ⟨h1, hI⟩ := hI
            obtain ⟨h2, hI⟩ := hI
            obtain ⟨h3, hI⟩ := hI
            obtain ⟨n18, hI⟩ := hI
            obtain ⟨l0, hI⟩ := hI
            obtain ⟨l1, hI⟩ := hI
            obtain ⟨l2, hI⟩ := hI
            obtain ⟨l3, hI⟩ := hI
            obtain ⟨l4, hI⟩ := hI
            obtain ⟨l5, hI⟩ := hI
            obtain ⟨l6, hI⟩ := hI
            obtain ⟨l7, hI⟩ := hI
            obtain ⟨l8, hI⟩ := hI
            obtain ⟨l9, hI⟩ := hI
            obtain ⟨l10, hI⟩ := hI
            obtain ⟨l11, hI⟩ := hI
            obtain ⟨l12, hI⟩ := hI
            obtain ⟨l13, hI⟩ := hI
            obtain ⟨l14, hI⟩ := hI
            obtain ⟨l15, hI⟩ := hI
            obtain ⟨l16, hI⟩ := hI
            obtain ⟨l17, hI⟩ := hI
            obtain ⟨l18, hI⟩ := hI
            obtain ⟨l19, hI⟩ := hI
            obtain ⟨l20, hI⟩ := hI
            have l21 := hI; clear hI
            subst ha
            have r16 := l16.on (hd 16 (by decide))
            have r18 := l18.on (hd 18 (by decide))
            clear hd
            obtain ⟨b, rfl, hb, hs, hc⟩ := r16
            obtain ⟨x, rfl, hx⟩ := r18
            have x0 : (0 : Int) ≤ x := by omega
            have x1 : (x : Int) < 6 := by omega
            simp only [over]
            go_simp
            exact hK.out _ _ ⟨by simpa using hsz, _, _, _, _, _, _, _, _, _, _, _, _, _, _, _, _, _, _, _, _, _, _, rfl, h0, h1, h2, h3, n18.set_ne (by decide), l0.set_ne (by decide), l1.set_ne (by decide), l2.set_ne (by decide), l3.set_ne (by decide), l4.set_ne (by decide), l5.set_ne (by decide), l6.set_ne (by decide), l7.set_ne (by decide), l8.set_ne (by decide), l9.set_ne (by decide), l10.set_ne (by decide), l11.set_ne (by decide), l12.set_ne (by decide), l13.set_ne (by decide), l14.set_ne (by decide), l15.set_ne (by decide), l16.set_ne (by decide), l17.set_ne (by decide), l18.set_ne (by decide), Lst.now ⟨b, x, by simp, hb, hs, hc x hx⟩, l20.set_ne (by decide), l21.set_ne (by decide)⟩
          refine StepsOK.cons (fun l a' w' K' hK hl hd hI => ?_) ?_
          · obtain ⟨hsz, hI⟩ := hI
            obtain ⟨u47, hI⟩ := hI
            obtain ⟨u48, hI⟩ := hI
            obtain ⟨u49, hI⟩ := hI
            obtain ⟨u50, hI⟩ := hI
            obtain ⟨u51, hI⟩ := hI
            obtain ⟨u52, hI⟩ := hI
            obtain ⟨u53, hI⟩ := hI
            obtain ⟨u54, hI⟩ := hI
            obtain ⟨u55, hI⟩ := hI
            obtain ⟨u56, hI⟩ := hI
            obtain ⟨u57, hI⟩ := hI
            obtain ⟨u58, hI⟩ := hI
            obtain ⟨u59, hI⟩ := hI
            obtain ⟨u60, hI⟩ := hI
            obtain ⟨u61, hI⟩ := hI
            obtain ⟨u62, hI⟩ := hI
            obtain ⟨u63, hI⟩ := hI
            obtain ⟨u64, hI⟩ := hI
            obtain ⟨u65, hI⟩ := hI
            obtain ⟨u66, hI⟩ := hI
            obtain ⟨u67, hI⟩ := hI
            obtain ⟨u68, hI⟩ := hI
            obtain ⟨ha, hI⟩ := hI
            obtain ⟨h0, hI⟩ := hI
            obtain ⟨h1, hI⟩ := hI
            obtain ⟨h2, hI⟩ := hI
            obtain ⟨h3, hI⟩ := hI
            obtain ⟨n18, hI⟩ := hI
            obtain ⟨l0, hI⟩ := hI
            obtain ⟨l1, hI⟩ := hI
            obtain ⟨l2, hI⟩ := hI
            obtain ⟨l3, hI⟩ := hI
            obtain ⟨l4, hI⟩ := hI
            obtain ⟨l5, hI⟩ := hI
            obtain ⟨l6, hI⟩ := hI
            obtain ⟨l7, hI⟩ := hI
            obtain ⟨l8, hI⟩ := hI
            obtain ⟨l9, hI⟩ := hI
            obtain ⟨l10, hI⟩ := hI
            obtain ⟨l11, hI⟩ := hI
            obtain ⟨l12, hI⟩ := hI
            obtain ⟨l13, hI⟩ := hI
            obtain ⟨l14, hI⟩ := hI
            obtain ⟨l15, hI⟩ := hI
            obtain ⟨l16, hI⟩ := hI
            obtain ⟨l17, hI⟩ := hI
            obtain ⟨l18, hI⟩ := hI
            obtain ⟨l19, hI⟩ := hI
            obtain ⟨l20, hI⟩ := hI
            have l21 := hI; clear hI
            subst ha
            have r19 := l19.on (hd 19 (by decide))
            clear hd
            obtain ⟨b, i, rfl, hb, hs, f, q, c0, c1, k, ts, A, c, rfl, ho, hk⟩ := r19
            simp only [over]
            go_simp
            exact hK.out _ _ ⟨by simpa using hsz, _, _, _, _, _, _, _, _, _, _, _, _, _, _, _, _, _, _, _, _, _, _, rfl, h0, h1, h2, h3, n18.set_ne (by decide), l0.set_ne (by decide), l1.set_ne (by decide), l2.set_ne (by decide), l3.set_ne (by decide), l4.set_ne (by decide), l5.set_ne (by decide), l6.set_ne (by decide), l7.set_ne (by decide), l8.set_ne (by decide), l9.set_ne (by decide), l10.set_ne (by decide), l11.set_ne (by decide), l12.set_ne (by decide), l13.set_ne (by decide), l14.set_ne (by decide), l15.set_ne (by decide), l16.set_ne (by decide), l17.set_ne (by decide), l18.set_ne (by decide), l19.set_ne (by decide), Lst.now ⟨f, _, rfl, k, ts, A, c, rfl, ho, hk⟩, l21.set_ne (by decide)⟩
          refine StepsOK.cons (fun l a' w' K' hK hl hd hI => ?_) ?_
          · obtain ⟨hsz, hI⟩ := hI
            obtain ⟨u47, hI⟩ := hI
            obtain ⟨u48, hI⟩ := hI
            obtain ⟨u49, hI⟩ := hI
            obtain ⟨u50, hI⟩ := hI
            obtain ⟨u51, hI⟩ := hI
            obtain ⟨u52, hI⟩ := hI
            obtain ⟨u53, hI⟩ := hI
            obtain ⟨u54, hI⟩ := hI
            obtain ⟨u55, hI⟩ := hI
            obtain ⟨u56, hI⟩ := hI
            obtain ⟨u57, hI⟩ := hI
            obtain ⟨u58, hI⟩ := hI
            obtain ⟨u59, hI⟩ := hI
            obtain ⟨u60, hI⟩ := hI
            obtain ⟨u61, hI⟩ := hI
            obtain ⟨u62, hI⟩ := hI
            obtain ⟨u63, hI⟩ := hI
            obtain ⟨u64, hI⟩ := hI
            obtain ⟨u65, hI⟩ := hI
            obtain ⟨u66, hI⟩ := hI
            obtain ⟨u67, hI⟩ := hI
            obtain ⟨u68, hI⟩ := hI
            obtain ⟨ha, hI⟩ := hI
            obtain ⟨h0, hI⟩ := hI
            obtain ⟨h1, hI⟩ := hI
            obtain ⟨h2, hI⟩ := hI
            obtain ⟨h3, hI⟩ := hI
            obtain ⟨n18, hI⟩ := hI
            obtain ⟨l0, hI⟩ := hI
            obtain ⟨l1, hI⟩ := hI
            obtain ⟨l2, hI⟩ := hI
            obtain ⟨l3, hI⟩ := hI
            obtain ⟨l4, hI⟩ := hI
            obtain ⟨l5, hI⟩ := hI
            obtain ⟨l6, hI⟩ := hI
            obtain ⟨l7, hI⟩ := hI
            obtain ⟨l8, hI⟩ := hI
            obtain ⟨l9, hI⟩ := hI
            obtain ⟨l10, hI⟩ := hI
            obtain ⟨l11, hI⟩ := hI
            obtain ⟨l12, hI⟩ := hI
            obtain ⟨l13, hI⟩ := hI
            obtain ⟨l14, hI⟩ := hI
            obtain ⟨l15, hI⟩ := hI
            obtain ⟨l16, hI⟩ := hI
            obtain ⟨l17, hI⟩ := hI
            obtain ⟨l18, hI⟩ := hI
            obtain ⟨l19, hI⟩ := hI
            obtain ⟨l20, hI⟩ := hI
            have l21 := hI; clear hI
            subst ha
            have r20 := l20.on (hd 20 (by decide))
            clear hd
            obtain ⟨f, q, rfl, k, ts, A, c, rfl, ho, hk⟩ := r20
            simp only [over]
            go_simp
            have kb := beB0 w' (.cells #[.int .i64 f, .slice A k c] 37)
            have kg := grown_of_below kb (some g)
            exact hK.out _ _ ⟨by simpa using hsz, _, _, _, _, _, _, _, _, _, _, _, _, _, _, _, _, _, _, _, _, _, _, rfl, h0.kp kg hgl, grown_trans' h1 kg, Nat.le_trans h2 kg.size, h3.below kb, (n18.set_ne (by decide)).mono (fun h => h.below kb), l0.set_ne (by decide), (l1.set_ne (by decide)).mono (fun h => h.kp kg hgl), l2.set_ne (by decide), (l3.set_ne (by decide)).mono (fun h => h.kp kg hgl), (l4.set_ne (by decide)).mono (fun h => h.kp kg hgl), l5.set_ne (by decide), (l6.set_ne (by decide)).mono (fun h => h.kp kg hgl), (l7.set_ne (by decide)).mono (fun h => h.kp kg hgl), l8.set_ne (by decide), (l9.set_ne (by decide)).mono (fun h => h.kp kg hgl), (l10.set_ne (by decide)).mono (fun h => h.kp kg hgl), l11.set_ne (by decide), (l12.set_ne (by decide)).mono (fun h => h.kp kg hgl), (l13.set_ne (by decide)).mono (fun h => h.kp kg hgl), (l14.set_ne (by decide)).mono (fun h => h.kp kg hgl), (l15.set_ne (by decide)).mono (fun h => h.kp kg hgl), (l16.set_ne (by decide)).mono (fun h => h.kp kg hgl), l17.set_ne (by decide), l18.set_ne (by decide), (l19.set_ne (by decide)).mono (fun h => h.kp kg hgl), (l20.set_ne (by decide)).mono (fun h => h.kp kg hgl), Lst.now ⟨_, f, _, rfl, h2, Blk.new _ _ _, (SV.kp ⟨k, ts, A, c, rfl, ho, hk⟩ kg hgl)⟩⟩
          exact StepsOK.nil
        case fin =>
          intro a' w' hI
          obtain ⟨hsz, hI⟩ := hI
          obtain ⟨u47, hI⟩ := hI
          obtain ⟨u48, hI⟩ := hI
          obtain ⟨u49, hI⟩ := hI
          obtain ⟨u50, hI⟩ := hI
          obtain ⟨u51, hI⟩ := hI
          obtain ⟨u52, hI⟩ := hI
          obtain ⟨u53, hI⟩ := hI
          obtain ⟨u54, hI⟩ := hI
          obtain ⟨u55, hI⟩ := hI
          obtain ⟨u56, hI⟩ := hI
          obtain ⟨u57, hI⟩ := hI
          obtain ⟨u58, hI⟩ := hI
          obtain ⟨u59, hI⟩ := hI
          obtain ⟨u60, hI⟩ := hI
          obtain ⟨u61, hI⟩ := hI
          obtain ⟨u62, hI⟩ := hI
          obtain ⟨u63, hI⟩ := hI
          obtain ⟨u64, hI⟩ := hI
          obtain ⟨u65, hI⟩ := hI
          obtain ⟨u66, hI⟩ := hI
          obtain ⟨u67, hI⟩ := hI
          obtain ⟨u68, hI⟩ := hI
          obtain ⟨ha, hI⟩ := hI
          obtain ⟨h0, hI⟩ := hI
          obtain ⟨h1, hI⟩ := hI
          obtain ⟨h2, hI⟩ := hI
          obtain ⟨h3, hI⟩ := hI
          obtain ⟨n18, hI⟩ := hI
          obtain ⟨l0, hI⟩ := hI
          obtain ⟨l1, hI⟩ := hI
          obtain ⟨l2, hI⟩ := hI
          obtain ⟨l3, hI⟩ := hI
          obtain ⟨l4, hI⟩ := hI
          obtain ⟨l5, hI⟩ := hI
          obtain ⟨l6, hI⟩ := hI
          obtain ⟨l7, hI⟩ := hI
          obtain ⟨l8, hI⟩ := hI
          obtain ⟨l9, hI⟩ := hI
          obtain ⟨l10, hI⟩ := hI
          obtain ⟨l11, hI⟩ := hI
          obtain ⟨l12, hI⟩ := hI
          obtain ⟨l13, hI⟩ := hI
          obtain ⟨l14, hI⟩ := hI
          obtain ⟨l15, hI⟩ := hI
          obtain ⟨l16, hI⟩ := hI
          obtain ⟨l17, hI⟩ := hI
          obtain ⟨l18, hI⟩ := hI
          obtain ⟨l19, hI⟩ := hI
          obtain ⟨l20, hI⟩ := hI
          have l21 := hI; clear hI
          subst ha
          obtain ⟨b, f, q, rfl, hb, hK, hq⟩ := l21.on rfl
          obtain rfl := l0.on rfl
          obtain ⟨kq, tq, Aq, cq, rfl, hoq, hkq⟩ := hq
          obtain ⟨es, ds, hD, hs, hd⟩ := h0
          have hDR := hD.row
          clear l0 l1 l2 l3 l4 l5 l6 l7 l8 l9 l10 l11 l12 l13 l14 l15 l16 l17 l18 l19 l20 l21 n18
          simp only [over]
          refine wpAny_ready (rs := [22]) (by kernel_rfl) (by simp) ?_
          refine AllReady.cons (by rw [List.getElem?_toArray]; exact rfl) (fun K hK1 => ?_) AllReady.nil
          refine step_appD (by rfl) (.tmp 47) (.tmp 68) (by rfl) (by rfl) hDR (by rfl) hK rfl (by omega) (by omega) ?_
          intro v' w9 hr9 hg9 hat9
          refine hK1 _ _ ?_
          simp only [Act.put, List.setIfInBounds_toArray, List.set_cons_zero, List.set_cons_succ]
          refine wpAny_ready (rs := [23]) (by kernel_rfl) (by simp) ?_
          refine AllReady.cons (by rw [List.getElem?_toArray]; exact rfl) (fun K2 hK2 => ?_) AllReady.nil
          go_simp
          refine hK2 _ _ ?_
          refine wpAny_done (by kernel_rfl) ?_ _
          have hOUT := OutV.push' hD hs hd ⟨kq, tq, Aq, cq, rfl, hoq, hkq⟩ (by omega) hg9 hr9
          have hRD := h3.grown hg9 (fun k hk => by have := (World.ownsRow.lt hDR k hk).1; omega)
          have hGR := grown_row (grown_trans' G3.out h1) hg9 (fun k hk => (World.ownsRow.lt hDR k hk).1)
          clear hK1 hK2 hD hs hd hDR hr9 hg9 hat9 hK
          go_wp2_with fail
          go_ret
          exact ⟨_, n + 1, rfl, hOUT, by omega, hRD.mono (by omega), hGR⟩

end Go.Proofs.YtefopnkicllpeaaDoor
