/- The drawing reader: l20Shared; the draws of shared sets. Printed by mk_draw8.py. -/
import Derived.Test.YtcoienlblhbkpaaDoorDraw3
import Derived.Test.YtcoienlblhbkpaaDoorShT2
import Derived.Deep.RegionWith
namespace Go.Proofs.YtcoienlblhbkpaaDoor
open Go.RowKit

def DrawSh (w : World) (g P : Nat) (e : Ending) (w' : World) : Prop := ∃ A n c xs B m d ys, e = .returned (.agg #[.slice A n c, .slice B m d]) ∧ OI w' w.heap.size (.slice A n c) n xs ∧ OI w' w.heap.size (.slice B m d) m ys ∧ RD w' g P ∧ w.grownBy w' (some g)
theorem belowG {w a b : World} {g : Nat} (h : Below w.heap.size w a) (k : a.grownBy b (some g)) (hg : w.heap.size ≤ g) : Below w.heap.size w b :=
  h.grown k h.size (fun i hi => by injection hi with hi; omega)
theorem RD.setC {w : World} {g P : Nat} (h : RD w g P) {p : Addr} (hp : g < p.block) (u : Value) : RD (w.setCell p u) g P :=
  h.grown (grown_setCell (World.grownBy.refl w (some p.block)) (.inl rfl) u) (fun k hk => by injection hk with hk; omega)
theorem grownDrew {w a : World} {r : Option Nat} (h : w.grownBy a r) : w.grownBy a.drew r := ⟨h.os, h.tape, h.output, h.size, h.block⟩
theorem RD.drew {w : World} {g P : Nat} (h : RD w g P) : RD w.drew g P := h.below (Below.refl _ _).drew
theorem BY.upB {w w' : World} {A : Option Addr} {n : Nat} (h : BY w w.heap.size A n) (hb : Below w.heap.size w w') : BY w' w'.heap.size A n := fun k hk => by
  obtain ⟨b, off, x, h1, h2, h3, h4⟩ := h k hk
  exact ⟨b, off, x, h1, Nat.lt_of_lt_of_le h2 hb.size, (hb.cell (p := ⟨b, off + k, none⟩) h2).trans h3, h4⟩

set_option maxRecDepth 100000 in
set_option maxHeartbeats 16000000 in
theorem l20Shared_c {w : World} {g P : Nat} {q : Int} (hr : RD w g P) (hP : P ≤ 40000) (hq1 : 0 ≤ q) (hq2 : q ≤ 100000) :
    Calls Tryd.prog 52 #[.pointer (some ⟨g, 0, none⟩), .int .i64 q] w (DrawSh w g (P + 20)) := by
  have hg := hr.lt
  have KR := (((Blk.new w 27 #[.slice none 0 0, .slice none 0 0]).alloc (.cells #[] 3)).alloc (.cells #[] 3)).alloc (.cells #[.slice (some ⟨w.heap.size + 1, 0, none⟩) 0 0, .slice (some ⟨w.heap.size + 1 + 1, 0, none⟩) 0 0] 27)
  have o1 := (((OI.empty (w.alloc (.cells #[.slice none 0 0, .slice none 0 0] 27))).mono (show w.heap.size ≤ _ by simp)).alloc (.cells #[] 3)).alloc (.cells #[.slice (some ⟨w.heap.size + 1, 0, none⟩) 0 0, .slice (some ⟨w.heap.size + 1 + 1, 0, none⟩) 0 0] 27)
  have o2 := ((OI.empty ((w.alloc (.cells #[.slice none 0 0, .slice none 0 0] 27)).alloc (.cells #[] 3))).mono (show w.heap.size ≤ _ by simp; omega)).alloc (.cells #[.slice (some ⟨w.heap.size + 1, 0, none⟩) 0 0, .slice (some ⟨w.heap.size + 1 + 1, 0, none⟩) 0 0] 27)
  have KS := Blk.new (((w.alloc (.cells #[.slice none 0 0, .slice none 0 0] 27)).alloc (.cells #[] 3)).alloc (.cells #[] 3)) 27 #[.slice (some ⟨w.heap.size + 1, 0, none⟩) 0 0, .slice (some ⟨w.heap.size + 1 + 1, 0, none⟩) 0 0]
  simp only [World.size_alloc] at o1 o2 KS
  have G1 := grown_alloc (grown_alloc (grown_alloc (grown_alloc (World.grownBy.refl w (some g)) (.cells #[.slice none 0 0, .slice none 0 0] 27)) (.cells #[] 3)) (.cells #[] 3)) (.cells #[.slice (some ⟨w.heap.size + 1, 0, none⟩) 0 0, .slice (some ⟨w.heap.size + 1 + 1, 0, none⟩) 0 0] 27)
  have r1 := (((hr.alloc (.cells #[.slice none 0 0, .slice none 0 0] 27)).alloc (.cells #[] 3)).alloc (.cells #[] 3)).alloc (.cells #[.slice (some ⟨w.heap.size + 1, 0, none⟩) 0 0, .slice (some ⟨w.heap.size + 1 + 1, 0, none⟩) 0 0] 27)
  go_enter Tryd.func52, Tryd.ntmps52
  go_wp2_with fail
  generalize ((((w.alloc (.cells #[.slice none 0 0, .slice none 0 0] 27)).alloc (.cells #[] 3)).alloc (.cells #[] 3)).alloc (.cells #[.slice (some ⟨w.heap.size + 1, 0, none⟩) 0 0, .slice (some ⟨w.heap.size + 1 + 1, 0, none⟩) 0 0] 27)) = w1 at *
  have hz1 : w.heap.size ≤ w1.heap.size := G1.size
  have hsl := KS.lt
  refine (pick_c r1 (by omega) (by omega) (by omega)).mono ?_
  rintro e w2 ⟨x, rfl, x0, x1, r2, g2⟩
  have G2 := grown_trans' G1 g2
  replace KR := KR.grown g2 (fun e => by injection e with e; omega)
  replace KS := KS.grown g2 (fun e => by injection e with e; omega)
  replace o1 := o1.grown g2 (o1.block_ne hg)
  replace o2 := o2.grown g2 (o2.block_ne hg)
  obtain ⟨j0, rfl⟩ : ∃ j : Nat, x = j := ⟨x.toNat, by omega⟩
  clear G1 g2 r1 hz1 hsl
  go_wp2_with fail
  go_loopw [6] (fun k wr => ∃ (j : Nat) (A : Option Addr) (n c : Nat) (xs : List Int) (B : Option Addr) (m d : Nat) (ys : List Int), k = .int .i64 j ∧ j ≤ 6 ∧ Blk wr (w.heap.size + 1 + 1 + 1) 27 #[.slice A n c, .slice B m d] ∧ OI wr w.heap.size (.slice A n c) n xs ∧ OI wr w.heap.size (.slice B m d) m ys ∧ RD wr g (P + 8 - j) ∧ w.grownBy wr (some g) ∧ Blk wr w.heap.size 27 #[.slice none 0 0, .slice none 0 0]) (fun k _ => (intOf k).toNat)
  case atStart => exact ⟨j0, _, _, _, _, _, _, _, _, rfl, by omega, KS, o1, o2, r2.mono (by omega), G2, KR⟩
  case round =>
    clear KS o1 o2 r2 G2 KR
    obtain ⟨j, A, n, c, xs, B, m, d, ys, rfl, hj, KS, o1, o2, r2, G2, KR⟩ := hrel
    have hgs : g ≠ w.heap.size + 1 + 1 + 1 := by omega
    obtain ⟨s0, s1, s2, s3⟩ := KS.two
    by_cases hlt : 0 < j
    · have hlt' : (0 : Int) < j := by omega
      go_wp2_with fail
      go_region_with (first | (go_at_call 57; refine (pick_c r2.drew (by omega) (by omega) (by omega)).mono ?_; rintro e wp ⟨y, rfl, y0, y1, rp, gp⟩; have KSp := KS.drew.grown gp (fun e => by injection e with e; omega); have o1p := o1.drew.grown gp (o1.block_ne hg); have o2p := o2.drew.grown gp (o2.block_ne hg); obtain ⟨v0, v1, v2, v3⟩ := KSp.two) | (go_at_call 21; refine (spec_PutShared_c o1p.si o2p.si).mono ?_; rintro e wy ⟨A', n', c', B', m', d', rfl, oa, ob, _, byy⟩; have KSy := KSp.belowAll byy; obtain ⟨u0, u1, u2, u3⟩ := KSy.two))
      all_goals
        go_wp2_with fail
        have hzp := gp.size
        have lsp := KSp.lt
        have hgz : w.heap.size ≤ wp.heap.size := Nat.le_trans G2.size hzp
        go_roundw
        case rel =>
          refine ⟨j - 1, A', n', c', _, B', m', d', _, by go_num, by omega, (KSy.set_ 0 _).set_ 1 _, ((oa.set_low (by simpa using lsp) _).set_low (by simpa using lsp) _).mono hgz, ((ob.set_low (by simpa using lsp) _).set_low (by simpa using lsp) _).mono hgz, (((rp.below byy).setC (p := ⟨w.heap.size + 1 + 1 + 1, 0, none⟩) (by simp; omega) _).setC (p := ⟨w.heap.size + 1 + 1 + 1, 1, none⟩) (by simp; omega) _).mono (by omega), ?_, ?_⟩
          · exact grown_setCell (p := ⟨w.heap.size + 1 + 1 + 1, 1, none⟩) (grown_setCell (p := ⟨w.heap.size + 1 + 1 + 1, 0, none⟩) (grown_below (grown_trans' (grownDrew G2) gp) byy) (.inr (by simp; omega)) _) (.inr (by simp; omega)) _
          · exact (((KR.drew.grown gp (fun e => by injection e with e; omega)).belowAll byy).far (p := ⟨w.heap.size + 1 + 1 + 1, 0, none⟩) (by simp; omega) _).far (p := ⟨w.heap.size + 1 + 1 + 1, 1, none⟩) (by simp; omega) _
        case measure => simp [intOf]; omega
    · obtain rfl : j = 0 := by omega
      clear s0 s1 s2 s3
      go_wp2_with fail
      refine (pick_c r2 (by omega) (by omega) (by omega)).mono ?_
      rintro e w4 ⟨x, rfl, x0, x1, r4, g4⟩
      replace G2 := grown_trans' G2 g4
      replace KR := KR.grown g4 (fun e => by injection e with e; omega)
      replace KS := KS.grown g4 (fun e => by injection e with e; omega)
      replace o1 := o1.grown g4 (o1.block_ne hg)
      replace o2 := o2.grown g4 (o2.block_ne hg)
      obtain ⟨j0, rfl⟩ : ∃ j : Nat, x = j := ⟨x.toNat, by omega⟩
      replace r2 := r4
      clear g4 r4
      go_wp2_with fail
      go_loopw [7] (fun k wr => ∃ (j : Nat) (A : Option Addr) (n c : Nat) (xs : List Int) (B : Option Addr) (m d : Nat) (ys : List Int), k = .int .i64 j ∧ j ≤ 2 ∧ Blk wr (w.heap.size + 1 + 1 + 1) 27 #[.slice A n c, .slice B m d] ∧ OI wr w.heap.size (.slice A n c) n xs ∧ OI wr w.heap.size (.slice B m d) m ys ∧ RD wr g (P + 11 - j) ∧ w.grownBy wr (some g) ∧ Blk wr w.heap.size 27 #[.slice none 0 0, .slice none 0 0]) (fun k _ => (intOf k).toNat)
      case atStart => exact ⟨j0, _, _, _, _, _, _, _, _, rfl, by omega, KS, o1, o2, r2.mono (by omega), G2, KR⟩
      case round =>
        clear KS o1 o2 r2 G2 KR
        obtain ⟨j, A, n, c, xs, B, m, d, ys, rfl, hj, KS, o1, o2, r2, G2, KR⟩ := hrel
        have hgs : g ≠ w.heap.size + 1 + 1 + 1 := by omega
        obtain ⟨s0, s1, s2, s3⟩ := KS.two
        by_cases hlt : 0 < j
        · have hlt' : (0 : Int) < j := by omega
          go_wp2_with fail
          go_region_with (first | (go_at_call 57; refine (pick_c r2.drew (by omega) (by omega) (by omega)).mono ?_; rintro e wp ⟨y, rfl, y0, y1, rp, gp⟩; have KSp := KS.drew.grown gp (fun e => by injection e with e; omega); have o1p := o1.drew.grown gp (o1.block_ne hg); have o2p := o2.drew.grown gp (o2.block_ne hg); obtain ⟨v0, v1, v2, v3⟩ := KSp.two) | (go_at_call 24; refine (spec_TakeShared_c o1p.si o2p.si).mono ?_; rintro e wy ⟨A', n', c', B', m', d', rfl, oa, ob, _, byy⟩; have KSy := KSp.belowAll byy; obtain ⟨u0, u1, u2, u3⟩ := KSy.two))
          all_goals
            go_wp2_with fail
            have hzp := gp.size
            have lsp := KSp.lt
            have hgz : w.heap.size ≤ wp.heap.size := Nat.le_trans G2.size hzp
            go_roundw
            case rel =>
              refine ⟨j - 1, A', n', c', _, B', m', d', _, by go_num, by omega, (KSy.set_ 0 _).set_ 1 _, ((oa.set_low (by simpa using lsp) _).set_low (by simpa using lsp) _).mono hgz, ((ob.set_low (by simpa using lsp) _).set_low (by simpa using lsp) _).mono hgz, (((rp.below byy).setC (p := ⟨w.heap.size + 1 + 1 + 1, 0, none⟩) (by simp; omega) _).setC (p := ⟨w.heap.size + 1 + 1 + 1, 1, none⟩) (by simp; omega) _).mono (by omega), ?_, ?_⟩
              · exact grown_setCell (p := ⟨w.heap.size + 1 + 1 + 1, 1, none⟩) (grown_setCell (p := ⟨w.heap.size + 1 + 1 + 1, 0, none⟩) (grown_below (grown_trans' (grownDrew G2) gp) byy) (.inr (by simp; omega)) _) (.inr (by simp; omega)) _
              · exact (((KR.drew.grown gp (fun e => by injection e with e; omega)).belowAll byy).far (p := ⟨w.heap.size + 1 + 1 + 1, 0, none⟩) (by simp; omega) _).far (p := ⟨w.heap.size + 1 + 1 + 1, 1, none⟩) (by simp; omega) _
            case measure => simp [intOf]; omega
        · obtain rfl : j = 0 := by omega
          go_wp2_with fail
          refine (odd_c r2 (by omega) hq1 hq2).mono ?_
          rintro e w6 ⟨b, rfl, r6, g6⟩
          have G6 := grown_trans' G2 g6
          replace KS := KS.grown g6 (fun e => by injection e with e; omega)
          replace KR := KR.grown g6 (fun e => by injection e with e; omega)
          replace o1 := o1.grown g6 (o1.block_ne hg)
          replace o2 := o2.grown g6 (o2.block_ne hg)
          clear s0 s1 s2 s3
          have hz6 := G6.size
          cases b
          · obtain ⟨s0, s1, s2, s3⟩ := KS.two
            obtain ⟨v0, v1, v2, v3⟩ := KR.two
            go_wp2_with fail
            obtain ⟨t0, t1, _, _⟩ := ((KR.set_ 0 (.slice A n c)).set_ 1 (.slice B m d)).two
            refine bodyPost_ret (v := .agg #[.slice A n c, .slice B m d]) (by simp [results, Tryd.results52, go_sem, t0, t1]) rfl ⟨A, n, c, xs, B, m, d, ys, rfl, ?_, ?_, ((r6.setC (p := ⟨w.heap.size, 0, none⟩) hg _).setC (p := ⟨w.heap.size, 1, none⟩) hg _).mono (by omega), grown_setCell (p := ⟨w.heap.size, 1, none⟩) (grown_setCell (p := ⟨w.heap.size, 0, none⟩) G6 (.inr (Nat.le_refl _)) _) (.inr (Nat.le_refl _)) _⟩
            · have gg := grown_setCell (p := ⟨w.heap.size, 1, none⟩) (grown_setCell (p := ⟨w.heap.size, 0, none⟩) (World.grownBy.refl w6 (some w.heap.size)) (.inl rfl) (.slice A n c)) (.inl rfl) (.slice B m d)
              exact o1.grown gg (.inr (o1.ne_blk KR (by decide)))
            · have gg := grown_setCell (p := ⟨w.heap.size, 1, none⟩) (grown_setCell (p := ⟨w.heap.size, 0, none⟩) (World.grownBy.refl w6 (some w.heap.size)) (.inl rfl) (.slice A n c)) (.inl rfl) (.slice B m d)
              exact o2.grown gg (.inr (o2.ne_blk KR (by decide)))
          · clear KS o1 o2
            have p0 : OI ((((((w6.alloc (.cells #[.int .i64 1] 3)).alloc (.cells #[.int .i64 2, .int .i64 1] 3)).alloc (.cells #[.int .i64 31] 3)).alloc (.cells #[.int .i64 1, .int .i64 1] 3)).alloc (.cells #[.int .i64 (-1)] 3)).alloc (.cells #[.slice none 0 0, .slice (some ⟨w6.heap.size, 0, none⟩) 1 1, .slice (some ⟨w6.heap.size + 1, 0, none⟩) 2 2, .slice none 0 0, .slice (some ⟨w6.heap.size + 1 + 1, 0, none⟩) 1 1, .slice none 0 0, .slice (some ⟨w6.heap.size + 1 + 1 + 1, 0, none⟩) 2 2, .slice none 0 0, .slice (some ⟨w6.heap.size + 1 + 1 + 1 + 1, 0, none⟩) 1 1, .slice none 0 0] 27)) w6.heap.size (.slice (some ⟨w6.heap.size, 0, none⟩) 1 1) 1 [1] := ((((((show OI (w6.alloc (.cells #[.int .i64 1] 3)) w6.heap.size (.slice (some ⟨w6.heap.size, 0, none⟩) 1 1) 1 [1] from OI.of_blk (blkAt (w := w6) (g := w6.heap.size) (by simp) 3 #[.int .i64 1]) (by omega) rfl rfl (by omega)).alloc (.cells #[.int .i64 2, .int .i64 1] 3)).alloc (.cells #[.int .i64 31] 3)).alloc (.cells #[.int .i64 1, .int .i64 1] 3)).alloc (.cells #[.int .i64 (-1)] 3)).alloc (.cells #[.slice none 0 0, .slice (some ⟨w6.heap.size, 0, none⟩) 1 1, .slice (some ⟨w6.heap.size + 1, 0, none⟩) 2 2, .slice none 0 0, .slice (some ⟨w6.heap.size + 1 + 1, 0, none⟩) 1 1, .slice none 0 0, .slice (some ⟨w6.heap.size + 1 + 1 + 1, 0, none⟩) 2 2, .slice none 0 0, .slice (some ⟨w6.heap.size + 1 + 1 + 1 + 1, 0, none⟩) 1 1, .slice none 0 0] 27))
            have p1 : OI ((((((w6.alloc (.cells #[.int .i64 1] 3)).alloc (.cells #[.int .i64 2, .int .i64 1] 3)).alloc (.cells #[.int .i64 31] 3)).alloc (.cells #[.int .i64 1, .int .i64 1] 3)).alloc (.cells #[.int .i64 (-1)] 3)).alloc (.cells #[.slice none 0 0, .slice (some ⟨w6.heap.size, 0, none⟩) 1 1, .slice (some ⟨w6.heap.size + 1, 0, none⟩) 2 2, .slice none 0 0, .slice (some ⟨w6.heap.size + 1 + 1, 0, none⟩) 1 1, .slice none 0 0, .slice (some ⟨w6.heap.size + 1 + 1 + 1, 0, none⟩) 2 2, .slice none 0 0, .slice (some ⟨w6.heap.size + 1 + 1 + 1 + 1, 0, none⟩) 1 1, .slice none 0 0] 27)) w6.heap.size (.slice (some ⟨w6.heap.size + 1, 0, none⟩) 2 2) 2 [2, 1] := (((((show OI ((w6.alloc (.cells #[.int .i64 1] 3)).alloc (.cells #[.int .i64 2, .int .i64 1] 3)) w6.heap.size (.slice (some ⟨w6.heap.size + 1, 0, none⟩) 2 2) 2 [2, 1] from OI.of_blk (blkAt (w := (w6.alloc (.cells #[.int .i64 1] 3))) (g := w6.heap.size + 1) (by simp) 3 #[.int .i64 2, .int .i64 1]) (by omega) rfl rfl (by omega)).alloc (.cells #[.int .i64 31] 3)).alloc (.cells #[.int .i64 1, .int .i64 1] 3)).alloc (.cells #[.int .i64 (-1)] 3)).alloc (.cells #[.slice none 0 0, .slice (some ⟨w6.heap.size, 0, none⟩) 1 1, .slice (some ⟨w6.heap.size + 1, 0, none⟩) 2 2, .slice none 0 0, .slice (some ⟨w6.heap.size + 1 + 1, 0, none⟩) 1 1, .slice none 0 0, .slice (some ⟨w6.heap.size + 1 + 1 + 1, 0, none⟩) 2 2, .slice none 0 0, .slice (some ⟨w6.heap.size + 1 + 1 + 1 + 1, 0, none⟩) 1 1, .slice none 0 0] 27))
            have p2 : OI ((((((w6.alloc (.cells #[.int .i64 1] 3)).alloc (.cells #[.int .i64 2, .int .i64 1] 3)).alloc (.cells #[.int .i64 31] 3)).alloc (.cells #[.int .i64 1, .int .i64 1] 3)).alloc (.cells #[.int .i64 (-1)] 3)).alloc (.cells #[.slice none 0 0, .slice (some ⟨w6.heap.size, 0, none⟩) 1 1, .slice (some ⟨w6.heap.size + 1, 0, none⟩) 2 2, .slice none 0 0, .slice (some ⟨w6.heap.size + 1 + 1, 0, none⟩) 1 1, .slice none 0 0, .slice (some ⟨w6.heap.size + 1 + 1 + 1, 0, none⟩) 2 2, .slice none 0 0, .slice (some ⟨w6.heap.size + 1 + 1 + 1 + 1, 0, none⟩) 1 1, .slice none 0 0] 27)) w6.heap.size (.slice (some ⟨w6.heap.size + 1 + 1, 0, none⟩) 1 1) 1 [31] := ((((show OI (((w6.alloc (.cells #[.int .i64 1] 3)).alloc (.cells #[.int .i64 2, .int .i64 1] 3)).alloc (.cells #[.int .i64 31] 3)) w6.heap.size (.slice (some ⟨w6.heap.size + 1 + 1, 0, none⟩) 1 1) 1 [31] from OI.of_blk (blkAt (w := ((w6.alloc (.cells #[.int .i64 1] 3)).alloc (.cells #[.int .i64 2, .int .i64 1] 3))) (g := w6.heap.size + 1 + 1) (by simp) 3 #[.int .i64 31]) (by omega) rfl rfl (by omega)).alloc (.cells #[.int .i64 1, .int .i64 1] 3)).alloc (.cells #[.int .i64 (-1)] 3)).alloc (.cells #[.slice none 0 0, .slice (some ⟨w6.heap.size, 0, none⟩) 1 1, .slice (some ⟨w6.heap.size + 1, 0, none⟩) 2 2, .slice none 0 0, .slice (some ⟨w6.heap.size + 1 + 1, 0, none⟩) 1 1, .slice none 0 0, .slice (some ⟨w6.heap.size + 1 + 1 + 1, 0, none⟩) 2 2, .slice none 0 0, .slice (some ⟨w6.heap.size + 1 + 1 + 1 + 1, 0, none⟩) 1 1, .slice none 0 0] 27))
            have p3 : OI ((((((w6.alloc (.cells #[.int .i64 1] 3)).alloc (.cells #[.int .i64 2, .int .i64 1] 3)).alloc (.cells #[.int .i64 31] 3)).alloc (.cells #[.int .i64 1, .int .i64 1] 3)).alloc (.cells #[.int .i64 (-1)] 3)).alloc (.cells #[.slice none 0 0, .slice (some ⟨w6.heap.size, 0, none⟩) 1 1, .slice (some ⟨w6.heap.size + 1, 0, none⟩) 2 2, .slice none 0 0, .slice (some ⟨w6.heap.size + 1 + 1, 0, none⟩) 1 1, .slice none 0 0, .slice (some ⟨w6.heap.size + 1 + 1 + 1, 0, none⟩) 2 2, .slice none 0 0, .slice (some ⟨w6.heap.size + 1 + 1 + 1 + 1, 0, none⟩) 1 1, .slice none 0 0] 27)) w6.heap.size (.slice (some ⟨w6.heap.size + 1 + 1 + 1, 0, none⟩) 2 2) 2 [1, 1] := (((show OI ((((w6.alloc (.cells #[.int .i64 1] 3)).alloc (.cells #[.int .i64 2, .int .i64 1] 3)).alloc (.cells #[.int .i64 31] 3)).alloc (.cells #[.int .i64 1, .int .i64 1] 3)) w6.heap.size (.slice (some ⟨w6.heap.size + 1 + 1 + 1, 0, none⟩) 2 2) 2 [1, 1] from OI.of_blk (blkAt (w := (((w6.alloc (.cells #[.int .i64 1] 3)).alloc (.cells #[.int .i64 2, .int .i64 1] 3)).alloc (.cells #[.int .i64 31] 3))) (g := w6.heap.size + 1 + 1 + 1) (by simp) 3 #[.int .i64 1, .int .i64 1]) (by omega) rfl rfl (by omega)).alloc (.cells #[.int .i64 (-1)] 3)).alloc (.cells #[.slice none 0 0, .slice (some ⟨w6.heap.size, 0, none⟩) 1 1, .slice (some ⟨w6.heap.size + 1, 0, none⟩) 2 2, .slice none 0 0, .slice (some ⟨w6.heap.size + 1 + 1, 0, none⟩) 1 1, .slice none 0 0, .slice (some ⟨w6.heap.size + 1 + 1 + 1, 0, none⟩) 2 2, .slice none 0 0, .slice (some ⟨w6.heap.size + 1 + 1 + 1 + 1, 0, none⟩) 1 1, .slice none 0 0] 27))
            have p4 : OI ((((((w6.alloc (.cells #[.int .i64 1] 3)).alloc (.cells #[.int .i64 2, .int .i64 1] 3)).alloc (.cells #[.int .i64 31] 3)).alloc (.cells #[.int .i64 1, .int .i64 1] 3)).alloc (.cells #[.int .i64 (-1)] 3)).alloc (.cells #[.slice none 0 0, .slice (some ⟨w6.heap.size, 0, none⟩) 1 1, .slice (some ⟨w6.heap.size + 1, 0, none⟩) 2 2, .slice none 0 0, .slice (some ⟨w6.heap.size + 1 + 1, 0, none⟩) 1 1, .slice none 0 0, .slice (some ⟨w6.heap.size + 1 + 1 + 1, 0, none⟩) 2 2, .slice none 0 0, .slice (some ⟨w6.heap.size + 1 + 1 + 1 + 1, 0, none⟩) 1 1, .slice none 0 0] 27)) w6.heap.size (.slice (some ⟨w6.heap.size + 1 + 1 + 1 + 1, 0, none⟩) 1 1) 1 [-1] := ((show OI (((((w6.alloc (.cells #[.int .i64 1] 3)).alloc (.cells #[.int .i64 2, .int .i64 1] 3)).alloc (.cells #[.int .i64 31] 3)).alloc (.cells #[.int .i64 1, .int .i64 1] 3)).alloc (.cells #[.int .i64 (-1)] 3)) w6.heap.size (.slice (some ⟨w6.heap.size + 1 + 1 + 1 + 1, 0, none⟩) 1 1) 1 [-1] from OI.of_blk (blkAt (w := ((((w6.alloc (.cells #[.int .i64 1] 3)).alloc (.cells #[.int .i64 2, .int .i64 1] 3)).alloc (.cells #[.int .i64 31] 3)).alloc (.cells #[.int .i64 1, .int .i64 1] 3))) (g := w6.heap.size + 1 + 1 + 1 + 1) (by simp) 3 #[.int .i64 (-1)]) (by omega) rfl rfl (by omega)).alloc (.cells #[.slice none 0 0, .slice (some ⟨w6.heap.size, 0, none⟩) 1 1, .slice (some ⟨w6.heap.size + 1, 0, none⟩) 2 2, .slice none 0 0, .slice (some ⟨w6.heap.size + 1 + 1, 0, none⟩) 1 1, .slice none 0 0, .slice (some ⟨w6.heap.size + 1 + 1 + 1, 0, none⟩) 2 2, .slice none 0 0, .slice (some ⟨w6.heap.size + 1 + 1 + 1 + 1, 0, none⟩) 1 1, .slice none 0 0] 27))
            have KT := blkAt (w := (((((w6.alloc (.cells #[.int .i64 1] 3)).alloc (.cells #[.int .i64 2, .int .i64 1] 3)).alloc (.cells #[.int .i64 31] 3)).alloc (.cells #[.int .i64 1, .int .i64 1] 3)).alloc (.cells #[.int .i64 (-1)] 3))) (g := w6.heap.size + 1 + 1 + 1 + 1 + 1) (by simp) 27 #[.slice none 0 0, .slice (some ⟨w6.heap.size, 0, none⟩) 1 1, .slice (some ⟨w6.heap.size + 1, 0, none⟩) 2 2, .slice none 0 0, .slice (some ⟨w6.heap.size + 1 + 1, 0, none⟩) 1 1, .slice none 0 0, .slice (some ⟨w6.heap.size + 1 + 1 + 1, 0, none⟩) 2 2, .slice none 0 0, .slice (some ⟨w6.heap.size + 1 + 1 + 1 + 1, 0, none⟩) 1 1, .slice none 0 0]
            have G7 := (grown_alloc (grown_alloc (grown_alloc (grown_alloc (grown_alloc (grown_alloc G6 (.cells #[.int .i64 1] 3)) (.cells #[.int .i64 2, .int .i64 1] 3)) (.cells #[.int .i64 31] 3)) (.cells #[.int .i64 1, .int .i64 1] 3)) (.cells #[.int .i64 (-1)] 3)) (.cells #[.slice none 0 0, .slice (some ⟨w6.heap.size, 0, none⟩) 1 1, .slice (some ⟨w6.heap.size + 1, 0, none⟩) 2 2, .slice none 0 0, .slice (some ⟨w6.heap.size + 1 + 1, 0, none⟩) 1 1, .slice none 0 0, .slice (some ⟨w6.heap.size + 1 + 1 + 1, 0, none⟩) 2 2, .slice none 0 0, .slice (some ⟨w6.heap.size + 1 + 1 + 1 + 1, 0, none⟩) 1 1, .slice none 0 0] 27))
            have r7 := ((((((r6.alloc (.cells #[.int .i64 1] 3)).alloc (.cells #[.int .i64 2, .int .i64 1] 3)).alloc (.cells #[.int .i64 31] 3)).alloc (.cells #[.int .i64 1, .int .i64 1] 3)).alloc (.cells #[.int .i64 (-1)] 3)).alloc (.cells #[.slice none 0 0, .slice (some ⟨w6.heap.size, 0, none⟩) 1 1, .slice (some ⟨w6.heap.size + 1, 0, none⟩) 2 2, .slice none 0 0, .slice (some ⟨w6.heap.size + 1 + 1, 0, none⟩) 1 1, .slice none 0 0, .slice (some ⟨w6.heap.size + 1 + 1 + 1, 0, none⟩) 2 2, .slice none 0 0, .slice (some ⟨w6.heap.size + 1 + 1 + 1 + 1, 0, none⟩) 1 1, .slice none 0 0] 27))
            have KR7 := ((((((KR.alloc (.cells #[.int .i64 1] 3)).alloc (.cells #[.int .i64 2, .int .i64 1] 3)).alloc (.cells #[.int .i64 31] 3)).alloc (.cells #[.int .i64 1, .int .i64 1] 3)).alloc (.cells #[.int .i64 (-1)] 3)).alloc (.cells #[.slice none 0 0, .slice (some ⟨w6.heap.size, 0, none⟩) 1 1, .slice (some ⟨w6.heap.size + 1, 0, none⟩) 2 2, .slice none 0 0, .slice (some ⟨w6.heap.size + 1 + 1, 0, none⟩) 1 1, .slice none 0 0, .slice (some ⟨w6.heap.size + 1 + 1 + 1, 0, none⟩) 2 2, .slice none 0 0, .slice (some ⟨w6.heap.size + 1 + 1 + 1 + 1, 0, none⟩) 1 1, .slice none 0 0] 27))
            go_wp2_with fail
            generalize ((((((w6.alloc (.cells #[.int .i64 1] 3)).alloc (.cells #[.int .i64 2, .int .i64 1] 3)).alloc (.cells #[.int .i64 31] 3)).alloc (.cells #[.int .i64 1, .int .i64 1] 3)).alloc (.cells #[.int .i64 (-1)] 3)).alloc (.cells #[.slice none 0 0, .slice (some ⟨w6.heap.size, 0, none⟩) 1 1, .slice (some ⟨w6.heap.size + 1, 0, none⟩) 2 2, .slice none 0 0, .slice (some ⟨w6.heap.size + 1 + 1, 0, none⟩) 1 1, .slice none 0 0, .slice (some ⟨w6.heap.size + 1 + 1 + 1, 0, none⟩) 2 2, .slice none 0 0, .slice (some ⟨w6.heap.size + 1 + 1 + 1 + 1, 0, none⟩) 1 1, .slice none 0 0] 27)) = w7 at *
            have r6lt := r6.lt
            refine (pick_c r7 (by omega) (by omega) (by omega)).mono ?_
            rintro e w8 ⟨i, rfl, i0, i1, r8, g8⟩
            have G8 := grown_trans' G7 g8
            have KR8 := KR7.grown g8 (fun e => by injection e with e; omega)
            have KT8 := KT.grown g8 (fun e => by injection e with e; omega)
            replace p0 := (p0.grown g8 (p0.block_ne r6lt)).mono hz6
            replace p1 := (p1.grown g8 (p1.block_ne r6lt)).mono hz6
            replace p2 := (p2.grown g8 (p2.block_ne r6lt)).mono hz6
            replace p3 := (p3.grown g8 (p3.block_ne r6lt)).mono hz6
            replace p4 := (p4.grown g8 (p4.block_ne r6lt)).mono hz6
            obtain ⟨d0, d1, d2, d3⟩ := KR8.two
            have hi : i = 0 ∨ i = 1 ∨ i = 2 ∨ i = 3 ∨ i = 4 := by omega
            clear i0 i1 G7 r7 KR7 KT g8
            rcases hi with rfl | rfl | rfl | rfl | rfl
            · have c0 : w8.cell? ⟨w6.heap.size + 1 + 1 + 1 + 1 + 1, 0, none⟩ = some (.slice none 0 0) := KT8.cell 0
              have c1 : w8.cell? ⟨w6.heap.size + 1 + 1 + 1 + 1 + 1, 1, none⟩ = some (.slice (some ⟨w6.heap.size, 0, none⟩) 1 1) := KT8.cell 1
              have gg := grown_setCell (p := ⟨w.heap.size, 1, none⟩) (grown_setCell (p := ⟨w.heap.size, 0, none⟩) (World.grownBy.refl w8 (some w.heap.size)) (.inl rfl) (.slice none 0 0)) (.inl rfl) (.slice (some ⟨w6.heap.size, 0, none⟩) 1 1)
              go_wp2_with fail
              obtain ⟨t0, t1, _, _⟩ := ((KR8.set_ 0 (.slice none 0 0)).set_ 1 (.slice (some ⟨w6.heap.size, 0, none⟩) 1 1)).two
              exact bodyPost_ret (v := .agg #[.slice none 0 0, .slice (some ⟨w6.heap.size, 0, none⟩) 1 1]) (by simp [results, Tryd.results52, go_sem, t0, t1]) rfl ⟨none, 0, 0, [], (some ⟨w6.heap.size, 0, none⟩), 1, 1, [1], rfl, OI.nil, ((p0.grown gg (.inr (p0.ne_blk KR8 (by decide))))), ((r8.setC (p := ⟨w.heap.size, 0, none⟩) hg _).setC (p := ⟨w.heap.size, 1, none⟩) hg _).mono (by omega), grown_setCell (p := ⟨w.heap.size, 1, none⟩) (grown_setCell (p := ⟨w.heap.size, 0, none⟩) G8 (.inr (Nat.le_refl _)) _) (.inr (Nat.le_refl _)) _⟩
            · have c0 : w8.cell? ⟨w6.heap.size + 1 + 1 + 1 + 1 + 1, 2, none⟩ = some (.slice (some ⟨w6.heap.size + 1, 0, none⟩) 2 2) := KT8.cell 2
              have c1 : w8.cell? ⟨w6.heap.size + 1 + 1 + 1 + 1 + 1, 3, none⟩ = some (.slice none 0 0) := KT8.cell 3
              have gg := grown_setCell (p := ⟨w.heap.size, 1, none⟩) (grown_setCell (p := ⟨w.heap.size, 0, none⟩) (World.grownBy.refl w8 (some w.heap.size)) (.inl rfl) (.slice (some ⟨w6.heap.size + 1, 0, none⟩) 2 2)) (.inl rfl) (.slice none 0 0)
              go_wp2_with fail
              obtain ⟨t0, t1, _, _⟩ := ((KR8.set_ 0 (.slice (some ⟨w6.heap.size + 1, 0, none⟩) 2 2)).set_ 1 (.slice none 0 0)).two
              exact bodyPost_ret (v := .agg #[.slice (some ⟨w6.heap.size + 1, 0, none⟩) 2 2, .slice none 0 0]) (by simp [results, Tryd.results52, go_sem, t0, t1]) rfl ⟨(some ⟨w6.heap.size + 1, 0, none⟩), 2, 2, [2, 1], none, 0, 0, [], rfl, ((p1.grown gg (.inr (p1.ne_blk KR8 (by decide))))), OI.nil, ((r8.setC (p := ⟨w.heap.size, 0, none⟩) hg _).setC (p := ⟨w.heap.size, 1, none⟩) hg _).mono (by omega), grown_setCell (p := ⟨w.heap.size, 1, none⟩) (grown_setCell (p := ⟨w.heap.size, 0, none⟩) G8 (.inr (Nat.le_refl _)) _) (.inr (Nat.le_refl _)) _⟩
            · have c0 : w8.cell? ⟨w6.heap.size + 1 + 1 + 1 + 1 + 1, 4, none⟩ = some (.slice (some ⟨w6.heap.size + 1 + 1, 0, none⟩) 1 1) := KT8.cell 4
              have c1 : w8.cell? ⟨w6.heap.size + 1 + 1 + 1 + 1 + 1, 5, none⟩ = some (.slice none 0 0) := KT8.cell 5
              have gg := grown_setCell (p := ⟨w.heap.size, 1, none⟩) (grown_setCell (p := ⟨w.heap.size, 0, none⟩) (World.grownBy.refl w8 (some w.heap.size)) (.inl rfl) (.slice (some ⟨w6.heap.size + 1 + 1, 0, none⟩) 1 1)) (.inl rfl) (.slice none 0 0)
              go_wp2_with fail
              obtain ⟨t0, t1, _, _⟩ := ((KR8.set_ 0 (.slice (some ⟨w6.heap.size + 1 + 1, 0, none⟩) 1 1)).set_ 1 (.slice none 0 0)).two
              exact bodyPost_ret (v := .agg #[.slice (some ⟨w6.heap.size + 1 + 1, 0, none⟩) 1 1, .slice none 0 0]) (by simp [results, Tryd.results52, go_sem, t0, t1]) rfl ⟨(some ⟨w6.heap.size + 1 + 1, 0, none⟩), 1, 1, [31], none, 0, 0, [], rfl, ((p2.grown gg (.inr (p2.ne_blk KR8 (by decide))))), OI.nil, ((r8.setC (p := ⟨w.heap.size, 0, none⟩) hg _).setC (p := ⟨w.heap.size, 1, none⟩) hg _).mono (by omega), grown_setCell (p := ⟨w.heap.size, 1, none⟩) (grown_setCell (p := ⟨w.heap.size, 0, none⟩) G8 (.inr (Nat.le_refl _)) _) (.inr (Nat.le_refl _)) _⟩
            · have c0 : w8.cell? ⟨w6.heap.size + 1 + 1 + 1 + 1 + 1, 6, none⟩ = some (.slice (some ⟨w6.heap.size + 1 + 1 + 1, 0, none⟩) 2 2) := KT8.cell 6
              have c1 : w8.cell? ⟨w6.heap.size + 1 + 1 + 1 + 1 + 1, 7, none⟩ = some (.slice none 0 0) := KT8.cell 7
              have gg := grown_setCell (p := ⟨w.heap.size, 1, none⟩) (grown_setCell (p := ⟨w.heap.size, 0, none⟩) (World.grownBy.refl w8 (some w.heap.size)) (.inl rfl) (.slice (some ⟨w6.heap.size + 1 + 1 + 1, 0, none⟩) 2 2)) (.inl rfl) (.slice none 0 0)
              go_wp2_with fail
              obtain ⟨t0, t1, _, _⟩ := ((KR8.set_ 0 (.slice (some ⟨w6.heap.size + 1 + 1 + 1, 0, none⟩) 2 2)).set_ 1 (.slice none 0 0)).two
              exact bodyPost_ret (v := .agg #[.slice (some ⟨w6.heap.size + 1 + 1 + 1, 0, none⟩) 2 2, .slice none 0 0]) (by simp [results, Tryd.results52, go_sem, t0, t1]) rfl ⟨(some ⟨w6.heap.size + 1 + 1 + 1, 0, none⟩), 2, 2, [1, 1], none, 0, 0, [], rfl, ((p3.grown gg (.inr (p3.ne_blk KR8 (by decide))))), OI.nil, ((r8.setC (p := ⟨w.heap.size, 0, none⟩) hg _).setC (p := ⟨w.heap.size, 1, none⟩) hg _).mono (by omega), grown_setCell (p := ⟨w.heap.size, 1, none⟩) (grown_setCell (p := ⟨w.heap.size, 0, none⟩) G8 (.inr (Nat.le_refl _)) _) (.inr (Nat.le_refl _)) _⟩
            · have c0 : w8.cell? ⟨w6.heap.size + 1 + 1 + 1 + 1 + 1, 8, none⟩ = some (.slice (some ⟨w6.heap.size + 1 + 1 + 1 + 1, 0, none⟩) 1 1) := KT8.cell 8
              have c1 : w8.cell? ⟨w6.heap.size + 1 + 1 + 1 + 1 + 1, 9, none⟩ = some (.slice none 0 0) := KT8.cell 9
              have gg := grown_setCell (p := ⟨w.heap.size, 1, none⟩) (grown_setCell (p := ⟨w.heap.size, 0, none⟩) (World.grownBy.refl w8 (some w.heap.size)) (.inl rfl) (.slice (some ⟨w6.heap.size + 1 + 1 + 1 + 1, 0, none⟩) 1 1)) (.inl rfl) (.slice none 0 0)
              go_wp2_with fail
              obtain ⟨t0, t1, _, _⟩ := ((KR8.set_ 0 (.slice (some ⟨w6.heap.size + 1 + 1 + 1 + 1, 0, none⟩) 1 1)).set_ 1 (.slice none 0 0)).two
              exact bodyPost_ret (v := .agg #[.slice (some ⟨w6.heap.size + 1 + 1 + 1 + 1, 0, none⟩) 1 1, .slice none 0 0]) (by simp [results, Tryd.results52, go_sem, t0, t1]) rfl ⟨(some ⟨w6.heap.size + 1 + 1 + 1 + 1, 0, none⟩), 1, 1, [-1], none, 0, 0, [], rfl, ((p4.grown gg (.inr (p4.ne_blk KR8 (by decide))))), OI.nil, ((r8.setC (p := ⟨w.heap.size, 0, none⟩) hg _).setC (p := ⟨w.heap.size, 1, none⟩) hg _).mono (by omega), grown_setCell (p := ⟨w.heap.size, 1, none⟩) (grown_setCell (p := ⟨w.heap.size, 0, none⟩) G8 (.inr (Nat.le_refl _)) _) (.inr (Nat.le_refl _)) _⟩

end Go.Proofs.YtcoienlblhbkpaaDoor
