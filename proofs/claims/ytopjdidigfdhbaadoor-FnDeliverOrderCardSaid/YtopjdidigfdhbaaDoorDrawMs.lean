/- l20Messages: drawn messages. Printed by mk_drawms.py. -/
import Derived.Test.YtopjdidigfdhbaaDoorMsgD
import Derived.Deep.DeepCutAuto
import Derived.Deep.RegionLaw
namespace Go.Proofs.YtopjdidigfdhbaaDoor
open Go.RowKit

theorem RdM.below {w w' : World} {A : Option Addr} {n : Nat} {cs : List Value} (h : Rd w 2 A n cs) (hb : Below w.heap.size w w') : Rd w' 2 A n cs :=
  ⟨h.1, fun hn => by
    obtain ⟨b, off, e, hlt, hc⟩ := h.2 hn
    exact ⟨b, off, e, Nat.lt_of_lt_of_le hlt hb.size, fun k u hu => (hb.cell (p := ⟨b, off + k, none⟩) hlt).trans (hc k u hu)⟩⟩
theorem SV4.zero {W : World} {a b c d : Nat} {lo : Nat} (hlo : lo ≤ a) (hab : a < b) (hbc : b < c) (hcd : c < d)
    (ka : Blk W a 3 #[.int .i64 0, .int .i64 0, .int .i64 0, .int .i64 0]) (kb : Blk W b 3 #[.int .i64 0, .int .i64 0, .int .i64 0, .int .i64 0]) (kc : Blk W c 3 #[.int .i64 0, .int .i64 0, .int .i64 0, .int .i64 0]) (kd : Blk W d 3 #[.int .i64 0, .int .i64 0, .int .i64 0, .int .i64 0])
    {sb : Nat} (hsb : d < sb) (ks : Blk W sb 38 #[.slice (some ⟨a, 0, none⟩) 4 4, .slice (some ⟨b, 0, none⟩) 4 4, .slice (some ⟨c, 0, none⟩) 4 4, .slice (some ⟨d, 0, none⟩) 4 4]) : SV4 W lo 0 sb := by
  have hz : ∀ x ∈ ([0, 0, 0, 0] : List Int), 0 ≤ x ∧ x ≤ ((0 : Nat) : Int) := fun x hx => by simp at hx; subst hx; simp
  have ho : ∀ q, lo ≤ q → Blk W q 3 #[.int .i64 0, .int .i64 0, .int .i64 0, .int .i64 0] → OI W lo (.slice (some ⟨q, 0, none⟩) 4 4) 4 [0, 0, 0, 0] := fun q hq k => OI.of_blk k hq rfl rfl (by omega)
  refine ⟨by omega, _, ks, rfl, fun i hi => ?_⟩
  match i, hi with
  | 0, _ => exact ⟨_, _, rfl, ho a (by omega) ka, hz⟩
  | 1, _ => exact ⟨_, _, rfl, ho b (by omega) kb, hz⟩
  | 2, _ => exact ⟨_, _, rfl, ho c (by omega) kc, hz⟩
  | 3, _ => exact ⟨_, _, rfl, ho d (by omega) kd, hz⟩

def DrawMsR (w : World) (g P : Nat) (e : Ending) (w' : World) : Prop := ∃ v n, e = .returned v ∧ MV w' w.heap.size v n ∧ n ≤ 9 ∧ RD w' g P ∧ w.grownBy w' (some g)
set_option maxRecDepth 100000 in
set_option maxHeartbeats 16000000 in
theorem l20Messages_c {w : World} {g P : Nat} {q : Int} (hr : RD w g P) (hP : P ≤ 10000) (hq1 : 0 ≤ q) (hq2 : q ≤ 100000) :
    Calls Tryd.prog 57 #[.pointer (some ⟨g, 0, none⟩), .int .i64 q] w (DrawMsR w g (P + 100)) := by
  have hg := hr.lt
  obtain ⟨Z, hZ⟩ : ∃ Z : Obj, Z = .cells #[.int .i64 0, .int .i64 0, .int .i64 0, .int .i64 0] 3 := ⟨_, rfl⟩
  obtain ⟨W1, hW1⟩ : ∃ W, W = w.alloc (.cells #[] 55) := ⟨_, rfl⟩
  have z1 : W1.heap.size = w.heap.size + 1 := by rw [hW1]; simp
  have k1 : Blk (W1.alloc Z) (w.heap.size + 1) 3 #[.int .i64 0, .int .i64 0, .int .i64 0, .int .i64 0] := by rw [← z1, hZ]; exact Blk.new _ _ _
  have k2 : Blk ((W1.alloc Z).alloc Z) (w.heap.size + 2) 3 #[.int .i64 0, .int .i64 0, .int .i64 0, .int .i64 0] := by
    have := Blk.new (W1.alloc Z) 3 #[.int .i64 0, .int .i64 0, .int .i64 0, .int .i64 0]
    rw [← hZ] at this; simpa [z1] using this
  have k3 : Blk (((W1.alloc Z).alloc Z).alloc Z) (w.heap.size + 3) 3 #[.int .i64 0, .int .i64 0, .int .i64 0, .int .i64 0] := by
    have := Blk.new ((W1.alloc Z).alloc Z) 3 #[.int .i64 0, .int .i64 0, .int .i64 0, .int .i64 0]
    rw [← hZ] at this; simpa [z1] using this
  have k4 : Blk ((((W1.alloc Z).alloc Z).alloc Z).alloc Z) (w.heap.size + 4) 3 #[.int .i64 0, .int .i64 0, .int .i64 0, .int .i64 0] := by
    have := Blk.new (((W1.alloc Z).alloc Z).alloc Z) 3 #[.int .i64 0, .int .i64 0, .int .i64 0, .int .i64 0]
    rw [← hZ] at this; simpa [z1] using this
  obtain ⟨W6, hW6⟩ : ∃ W, W = ((((W1.alloc Z).alloc Z).alloc Z).alloc Z).alloc (.cells #[.slice (some ⟨w.heap.size + 1, 0, none⟩) 4 4, .slice (some ⟨w.heap.size + 2, 0, none⟩) 4 4, .slice (some ⟨w.heap.size + 3, 0, none⟩) 4 4, .slice (some ⟨w.heap.size + 4, 0, none⟩) 4 4] 38) := ⟨_, rfl⟩
  have k5 : Blk W6 (w.heap.size + 5) 38 #[.slice (some ⟨w.heap.size + 1, 0, none⟩) 4 4, .slice (some ⟨w.heap.size + 2, 0, none⟩) 4 4, .slice (some ⟨w.heap.size + 3, 0, none⟩) 4 4, .slice (some ⟨w.heap.size + 4, 0, none⟩) 4 4] := by
    have := Blk.new ((((W1.alloc Z).alloc Z).alloc Z).alloc Z) 38 #[.slice (some ⟨w.heap.size + 1, 0, none⟩) 4 4, .slice (some ⟨w.heap.size + 2, 0, none⟩) 4 4, .slice (some ⟨w.heap.size + 3, 0, none⟩) 4 4, .slice (some ⟨w.heap.size + 4, 0, none⟩) 4 4]
    rw [← hW6] at this; simpa [z1] using this
  have hS0 : SV4 W6 w.heap.size 0 (w.heap.size + 5) := SV4.zero (by omega) (by omega) (by omega) (by omega) (by rw [hW6]; exact (((k1.alloc Z).alloc Z).alloc Z).alloc _) (by rw [hW6]; exact ((k2.alloc Z).alloc Z).alloc _) (by rw [hW6]; exact (k3.alloc Z).alloc _) (by rw [hW6]; exact k4.alloc _) (by omega) k5
  have b6 : Below w.heap.size w W6 := by
    rw [hW6, hW1]
    exact ((((((Below.refl w.heap.size w).alloc (Nat.le_refl _) _).alloc (by simp) _).alloc (by simp <;> omega) _).alloc (by simp <;> omega) _).alloc (by simp <;> omega) _).alloc (by simp <;> omega) _
  have hM0 : MV W6 w.heap.size (.slice (some ⟨w.heap.size, 0, none⟩) 0 0) 0 := by
    rw [hW6, hW1]
    exact (((((MV.new w (Nat.le_refl _)).alloc _).alloc _).alloc _).alloc _).alloc _
  have hR0 := hr.below b6
  have hz6 : w.heap.size + 5 < W6.heap.size := k5.lt
  subst hZ
  have HS0 := hide hS0; have HM0 := hide hM0; have HB6 := hide b6; have HR0 := hide hR0; have HW6 := hide hW6; have HW1 := hide hW1
  clear k1 k2 k3 k4 k5 z1 hS0 hM0 b6 hR0 hW6 hW1
  go_enter Tryd.func57, Tryd.ntmps57
  go_upto_region 3 with fail
  simp only [← HW1.out]
  simp only [← HW6.out]
  go_wp2_with fail
  refine (pick_c HR0.out (by omega) (by omega) (by omega)).mono ?_
  rintro e w1 ⟨x, rfl, x0, x1, r1, g1⟩
  obtain ⟨j0, rfl⟩ : ∃ j : Nat, x = j := ⟨x.toNat, by omega⟩
  have G1 := hide (grown_trans' (grown_of_below HB6.out (some g)) g1)
  have M1 := hide (HM0.out.kp g1 hg)
  have S1 := hide (HS0.out.kp g1 hg)
  have hz1 : w.heap.size + 5 < w1.heap.size := by have := g1.size; omega
  clear HS0 HM0 HB6 HR0 HW6 HW1 g1 hz6
  go_upto_region 4 with fail
  obtain ⟨sb, hsb⟩ : ∃ sb, w.heap.size + 1 + 1 + 1 + 1 + 1 = sb := ⟨_, rfl⟩
  rw [show w.heap.size + 5 = sb from hsb] at S1 hz1
  rw [hsb]
  have hsb5 : w.heap.size + 5 = sb := hsb
  clear hsb
  go_wp2_with fail
  go_loopw [5, 7] (fun v i wr => ∃ (j n bd : Nat), i = .int .i64 j ∧ n + j ≤ 7 ∧ bd + j ≤ 7 ∧ MV wr w.heap.size v n ∧ SV4 wr w.heap.size bd sb ∧ RD wr g (P + 60 - 5 * j) ∧ w.grownBy wr (some g) ∧ sb < wr.heap.size) (fun _ i _ => (intOf i).toNat)
  case atStart => exact ⟨j0, 0, 0, rfl, by omega, by omega, M1.out, S1.out, r1.mono (by omega), G1.out, hz1⟩
  case round =>
    clear M1 S1 r1 G1 hz1
    obtain ⟨j, n, bd, rfl, hnj, hbj, hM, hS, hR, hG, hz⟩ := hrel
    have HM := hide hM; have HS := hide hS; have HG := hide hG
    obtain ⟨b0, off0, c0, hv0, hnc0, hcm0, hlb0, hbs0⟩ := hM.shape
    subst hv0
    clear hM hS hG
    by_cases hlt : 0 < j
    · have hlt' : (0 : Int) < j := by omega
      go_wp2_with fail
      refine (pick_c hR (by omega) (by omega) (by omega)).mono ?_
      rintro e w2 ⟨f, rfl, f0, f1, r2, g2⟩
      obtain ⟨fr, rfl⟩ : ∃ q : Nat, f = q := ⟨f.toNat, by omega⟩
      have M2 := HM.out.kp g2 hg
      have S2 := HS.out.kp g2 hg
      have G2 := grown_trans' HG.out g2
      have hz2 : sb < w2.heap.size := by have := g2.size; omega
      clear HM HS HG hR g2
      go_wp2_with fail
      refine (pick_c r2 (by omega) (by omega) (by omega)).mono ?_
      rintro e w3 ⟨f, rfl, o0, o1, r3, g3⟩
      obtain ⟨ot, rfl⟩ : ∃ q : Nat, f = q := ⟨f.toNat, by omega⟩
      have M3 := hide (M2.kp g3 hg)
      have S3 := S2.kp g3 hg
      have G3 := hide (grown_trans' G2 g3)
      have hz3 : sb < w3.heap.size := by have := g3.size; omega
      obtain ⟨q1, xs1, e1, O1, b1⟩ := S3.at_ (i := fr) (by omega)
      obtain ⟨q2, xs2, e2, O2, b2⟩ := S3.at_ (i := ot) (by omega)
      obtain ⟨hJ1, hJ2⟩ := joinL_ok (bd := bd) (by omega) O1.len O2.len b1 b2
      have HJ2 := hide hJ2; have HJ1 := hide hJ1
      have HS3 := hide S3
      obtain ⟨s1A, s1c, rfl⟩ := O1.shape
      obtain ⟨s2A, s2c, rfl⟩ := O2.shape
      have hc : ∀ W, Below w3.heap.size w3 W → W.cell? ⟨sb, fr, none⟩ = some (.slice s1A 4 s1c) ∧ W.cell? ⟨sb, ot, none⟩ = some (.slice s2A 4 s2c) := fun W h =>
        ⟨(h.cell (p := ⟨sb, fr, none⟩) (by show sb < _; omega)).trans e1, (h.cell (p := ⟨sb, ot, none⟩) (by show sb < _; omega)).trans e2⟩
      have BZ := (Below.refl w3.heap.size w3).drew
      have BS := BZ.size
      clear M2 S2 G2 r2 g3 hz2 b1 b2 hJ1 hJ2 S3
      go_wp2_with fail
      go_region_held3 (fun W => W.cell? ⟨sb, fr, none⟩ = some (.slice s1A 4 s1c) ∧ W.cell? ⟨sb, ot, none⟩ = some (.slice s2A 4 s2c))
        (first | exact hc _ BZ)
        (first | (go_at_call 53; refine (spec_ClockJoin_c (O1.si.below BZ) (O2.si.below BZ)).mono ?_; rintro e w4 ⟨r4, k4, rfl, o4, b4⟩; have BY4 := below_step BZ b4; clear BZ; have BZ := BY4; clear BY4))
      obtain rfl : k4 = 4 := by rw [← o4.len]; exact HJ1.out
      have o4' : OI w4 w3.heap.size r4 4 (joinL xs1 xs2) := o4.mono BS
      clear o4 hc O1 O2 e1 e2 b4
      obtain ⟨gc, capc, rfl, hgl, hgs⟩ := o4'.1.form (by omega)
      obtain ⟨x, hx, cx⟩ := o4'.cell fr (by omega)
      have fx := o4'.free fr
      have hxb := HJ2.out x (List.mem_of_getElem? hx)
      have HX := hide hx
      have O5 := o4'.store fr (x + 1)
      have B5 : Below w3.heap.size w3 (w4.setCell ⟨gc, fr, none⟩ (.int .i64 (x + 1))) := BZ.setCell (p := ⟨gc, fr, none⟩) hgl _
      have hXB : ∀ y ∈ (joinL xs1 xs2).set fr (x + 1), 0 ≤ y ∧ y ≤ ((bd + 1 : Nat) : Int) := fun y hy => by
        rcases List.mem_or_eq_of_mem_set hy with hy | rfl
        · have := HJ2.out y hy; omega
        · omega
      have HXB := hide hXB
      clear hXB hx o4' BZ
      have fr0 : (0 : Int) ≤ fr := by omega
      have fr1 : (fr : Int) < 4 := by omega
      have hx1 : x + 1 ≤ 1000 := by omega
      obtain ⟨ys, hys⟩ : ∃ ys, (joinL xs1 xs2).set fr (x + 1) = ys := ⟨_, rfl⟩
      rw [hys] at O5 HXB
      obtain ⟨w5, hw5⟩ : ∃ W, w4.setCell ⟨gc, fr, none⟩ (.int .i64 (x + 1)) = W := ⟨_, rfl⟩
      have O5' : OI w5 w3.heap.size (.slice (some ⟨gc, 0, none⟩) 4 capc) 4 ys := by rw [← hw5]; exact O5
      have B5' : Below w3.heap.size w3 w5 := by rw [← hw5]; exact B5
      have S5 := hide (HS3.out.below B5')
      have M5 := hide (M3.out.below B5')
      have r5 := r3.below B5'
      have G5 := hide (grown_below G3.out B5')
      have hz5 : sb < w5.heap.size := by have := B5'.size; omega
      have hz53 : w3.heap.size ≤ w5.heap.size := B5'.size
      go_upto_region 10 with fail
      clear cx fx O5 B5 hw5 HS3 M3 G3 r3 HJ1 HJ2 HX
      have e6 := OI.empty w5
      have c5 := O5'.si.alloc (.cells #[] 3)
      have B6 : Below w5.heap.size w5 (w5.alloc (.cells #[] 3)) := (Below.refl _ _).alloc (Nat.le_refl _) _
      have HO5 := hide O5'
      clear O5' B5'
      go_wp2_with (at_builtin; refine wpList_appI rfl _ _ rfl rfl e6 rfl c5 (by omega) (by simp) ?_; intro v7 w7 h7 hg7 hat7; obtain ⟨A7, c7, rfl⟩ := h7.shape; simp only [Nat.zero_add, List.nil_append] at h7; have B7 := below_app B6 e6 (Nat.le_refl _) hg7; have S7 := S5.out.below B7; obtain ⟨q7, x7s, x7, _, _⟩ := S7.at_ (i := fr) (by omega); have y7 := S7.free fr)
      obtain ⟨qs7, k7⟩ := S7.blk
      have hgs7 : w7.grownBy (w7.setCell ⟨sb, fr, none⟩ (.slice A7 4 c7)) (some sb) := grown_setCell (World.grownBy.refl w7 _) (.inl rfl) _
      have S8 := S7.set_ fr (h7.mono (by omega)) HXB.out
      have M8 := (M5.out.below B7).far k7 (by decide) (by decide) fr (.slice A7 4 c7)
      have r8 := RD.setC (r5.below B7) (p := ⟨sb, fr, none⟩) (by show g < sb; omega) (.slice A7 4 c7)
      have G8 := grown_setCell (grown_below G5.out B7) (p := ⟨sb, fr, none⟩) (.inr (by show w.heap.size ≤ sb; omega)) (.slice A7 4 c7)
      have o7 := HO5.out.below B7
      have O8 := o7.grown hgs7 (o7.ne_row k7 (by decide))
      have hz8 : sb < (w7.setCell ⟨sb, fr, none⟩ (.slice A7 4 c7)).heap.size := by have := hgs7.size; have := B7.size; omega
      have hz83 : w3.heap.size ≤ (w7.setCell ⟨sb, fr, none⟩ (.slice A7 4 c7)).heap.size := by have := hgs7.size; have := B7.size; omega
      obtain ⟨w8, hw8⟩ : ∃ W, w7.setCell ⟨sb, fr, none⟩ (.slice A7 4 c7) = W := ⟨_, rfl⟩
      rw [hw8] at S8 M8 r8 G8 O8 hz8 hz83 ⊢
      clear hw8 hgs7 k7 o7 S7 x7 y7 B7 hg7 hat7 h7 e6 c5 B6 S5 M5 r5 G5 HO5 hz5 hz53
      refine (pick_c r8 (by omega) (by omega) (by omega)).mono ?_
      rintro e w9 ⟨f, rfl, y0, y1, r9, g9⟩
      obtain ⟨yn, rfl⟩ : ∃ q : Nat, f = q := ⟨f.toNat, by omega⟩
      have hyn : yn ≤ n := by omega
      have M9 := M8.kp g9 hg
      have S9 := S8.kp g9 hg
      have G9 := grown_trans' G8 g9
      have O9 := O8.grown g9 (O8.block_ne (by omega))
      have hz9 : sb < w9.heap.size := by have := g9.size; omega
      obtain ⟨A0, c0', cs0, hv, hnc', hcm', hR0, hC0⟩ := M9.rd
      obtain ⟨rfl, rfl⟩ : (some ⟨b0, off0, none⟩ : Option Addr) = A0 ∧ c0 = c0' := by simpa using hv
      obtain ⟨Aa, ra, hRa⟩ := sliceM_hi hnc0 hR0 hyn
      obtain ⟨Ab, rb, hRb⟩ := sliceM_lo hnc0 hR0 hyn
      have hm1 := hC0.take hyn
      have hm2 := hC0.drop hyn
      have hca := hm1.cell1
      have hcb := hm2.cell1
      have hmc : MC w9 w.heap.size (.int .i64 (fr : Int)) (.slice (some ⟨gc, 0, none⟩) 4 capc) := ⟨fr, 4, ys, rfl, O9.mono (by omega), by omega⟩
      clear M8 S8 G8 O8 r8 g9 hz8 hz83 M9 O9 hv hnc' hcm' hR0 hC0
      go_wp2_with fail
      have eE := ownE w9.drew
      have eC : ((w9.drew.alloc (.cells #[.int .i64 (fr : Int), .slice (some ⟨gc, 0, none⟩) 4 capc] 55)).alloc (.cells #[] 55)).ownsRow w9.drew.heap.size 55 2 (.slice (some ⟨w9.heap.size + 1, 0, none⟩) 0 0) 0 [] := by
        have := own_mono (ownE (w9.drew.alloc (.cells #[.int .i64 (fr : Int), .slice (some ⟨gc, 0, none⟩) 4 capc] 55))) (show w9.drew.heap.size ≤ _ by simp <;> omega)
        simpa using this
      have kB : Blk ((w9.drew.alloc (.cells #[] 55)).alloc (.cells #[.int .i64 (fr : Int), .slice (some ⟨gc, 0, none⟩) 4 capc] 55)) (w9.heap.size + 1) 55 #[.int .i64 (fr : Int), .slice (some ⟨gc, 0, none⟩) 4 capc] := by
        have := Blk.new (w9.drew.alloc (.cells #[] 55)) 55 #[.int .i64 (fr : Int), .slice (some ⟨gc, 0, none⟩) 4 capc]
        simpa using this
      have kC : Blk ((w9.drew.alloc (.cells #[.int .i64 (fr : Int), .slice (some ⟨gc, 0, none⟩) 4 capc] 55)).alloc (.cells #[] 55)) w9.heap.size 55 #[.int .i64 (fr : Int), .slice (some ⟨gc, 0, none⟩) 4 capc] := (Blk.new w9.drew 55 #[.int .i64 (fr : Int), .slice (some ⟨gc, 0, none⟩) 4 capc]).alloc (.cells #[] 55)
      have bA : Below w9.drew.heap.size w9.drew (w9.drew.alloc (.cells #[] 55)) := (Below.refl w9.drew.heap.size w9.drew).alloc (Nat.le_refl _) _
      have bB : Below w9.drew.heap.size w9.drew ((w9.drew.alloc (.cells #[] 55)).alloc (.cells #[.int .i64 (fr : Int), .slice (some ⟨gc, 0, none⟩) 4 capc] 55)) := ((Below.refl w9.drew.heap.size w9.drew).alloc (Nat.le_refl _) _).alloc (by simp <;> omega) _
      have bC : Below w9.drew.heap.size w9.drew ((w9.drew.alloc (.cells #[.int .i64 (fr : Int), .slice (some ⟨gc, 0, none⟩) 4 capc] 55)).alloc (.cells #[] 55)) := ((Below.refl w9.drew.heap.size w9.drew).alloc (Nat.le_refl _) _).alloc (by simp <;> omega) _
      have eB := own_alloc eE (.cells #[.int .i64 (fr : Int), .slice (some ⟨gc, 0, none⟩) 4 capc] 55)
      have d1 := fun W (h : Below w9.drew.heap.size w9.drew W) => RdM.below hRa (show Below w9.heap.size w9 W from (Below.refl _ _).drew.trans h)
      have d2 := fun W (h : Below w9.drew.heap.size w9.drew W) => RdM.below hRb (show Below w9.heap.size w9 W from (Below.refl _ _).drew.trans h)
      have hq1 : ∀ u ∈ ([.int .i64 (fr : Int), .slice (some ⟨gc, 0, none⟩) 4 capc] : List Value), u.oneCell' = true := fun u hu => by
        simp at hu; rcases hu with rfl | rfl <;> rfl
      go_region_law (first
        | (refine step_appM (by rfl) (.tmp 57) (.tmp 60) (by rfl) (by rfl) eE (by rfl) (d1 _ bA) hca (by omega) (by simp <;> omega) ?_; intro v1 x1 ho1 hg1 hat1; have BB1 := below_appM bA eE (Nat.le_refl _) hg1)
        | (refine step_appM (by rfl) (.tmp 57) (.tmp 60) (by rfl) (by rfl) eB (by rfl) (d1 _ bB) hca (by omega) (by simp <;> omega) ?_; intro v1 x1 ho1 hg1 hat1; have BB1 := below_appM bB eB (Nat.le_refl _) hg1; have KN := kB.grown hg1 (by simp [Value.ownBlock]); have SN := Rd.twoM KN)
        | (refine step_appM (by rfl) (.tmp 57) (.tmp 60) (by rfl) (by rfl) eC (by rfl) (d1 _ bC) hca (by omega) (by simp <;> omega) ?_; intro v1 x1 ho1 hg1 hat1; have BB1 := below_appM bC eC (Nat.le_refl _) hg1; have KN := kC.grown hg1 (by simp [Value.ownBlock]); have SN := Rd.twoM KN)
        | (refine step_appM (by rfl) (.tmp 61) (.tmp 65) (by rfl) (by rfl) (own_alloc ho1 (.cells #[.int .i64 (fr : Int), .slice (some ⟨gc, 0, none⟩) 4 capc] 55)) (by rfl) (Rd.twoM (Blk.new x1 55 #[.int .i64 (fr : Int), .slice (some ⟨gc, 0, none⟩) 4 capc])) hq1 (by omega) (by have := BB1.size; simp at this ⊢; omega) ?_; intro v2 x2 ho2 hg2 hat2; have BB2 := below_appM (BB1.alloc BB1.size (.cells #[.int .i64 (fr : Int), .slice (some ⟨gc, 0, none⟩) 4 capc] 55)) (own_alloc ho1 (.cells #[.int .i64 (fr : Int), .slice (some ⟨gc, 0, none⟩) 4 capc] 55)) (Nat.le_refl _) hg2)
        | (refine step_appM (by rfl) (.tmp 61) (.tmp 65) (by rfl) (by rfl) ho1 (by rfl) SN hq1 (by omega) (by have := BB1.size; simp at this ⊢; omega) ?_; intro v2 x2 ho2 hg2 hat2; have BB2 := below_appM BB1 ho1 (Nat.le_refl _) hg2)
        | (refine step_appM (by rfl) (.tmp 66) (.tmp 69) (by rfl) (by rfl) ho2 (by rfl) (d2 _ BB2) hcb (by omega) (by have := BB2.size; simp at this ⊢; omega) ?_; intro v3 x3 ho3 hg3 hat3; have BB3 := below_appM BB2 ho2 (Nat.le_refl _) hg3))
      all_goals
        have B10 : Below w9.heap.size w9 x3 := (Below.refl _ _).drew.trans BB3
        have hMV : MV x3 w.heap.size v3 (n + 1) := by
          have h1 := own_mono ho3 (show w.heap.size ≤ w9.drew.heap.size by simp <;> omega)
          have h2 : MCs x3 w.heap.size (cs0.take (yn * 2) ++ [.int .i64 (fr : Int), .slice (some ⟨gc, 0, none⟩) 4 capc] ++ cs0.drop (yn * 2)) (yn + 1 + (n - yn)) := ((hm1.map (fun u q h => h.below B10)).append ((MCs.one hmc).map (fun u q h => h.below B10))).append (hm2.map (fun u q h => h.below B10))
          have h3 := MV.of_own (by simpa using h1) (by simpa using h2) (by omega)
          rw [show n + 1 = yn + 1 + (n - yn) by omega]
          simpa using h3
        have hSV := S9.below B10
        have hRD := r9.below B10
        have hGR := grown_below G9 B10
        have hz10 := B10.size
        clear hg3 hat3 ho3 BB3
        go_wp2_with fail
        go_roundw
        case rel => exact ⟨j - 1, n + 1, bd + 1, by go_num, by omega, by omega, hMV, hSV, hRD.mono (by omega), hGR, by omega⟩
        case measure => simp [intOf]; omega
    · obtain rfl : j = 0 := by omega
      have hrow0 : ∀ k, (Value.slice (some ⟨b0, off0, none⟩) n c0).ownBlock = some k → w.heap.size ≤ k := fun k hk => by have e : some b0 = some k := hk; injection e with e; omega
      go_upto_region 13 with fail
      rename World => wA
      obtain ⟨PP, hPP⟩ : ∃ p, P + 60 - 5 * 0 = p := ⟨_, rfl⟩
      rw [hPP] at hR
      go_cut [78] (fun s wx => ∃ b : Bool, s = .bool b ∧ (b = true → 0 < n) ∧ MV wx w.heap.size (.slice (some ⟨b0, off0, none⟩) n c0) n ∧ RD wx g (PP + 1) ∧ w.grownBy wx (some g))
      case first =>
        by_cases hn0 : n = 0
        · subst hn0
          go_wp2_with fail
          go_meet
          case rel => exact ⟨false, rfl, (fun h => by cases h), HM.out, hR.mono (by omega), HG.out⟩
        · have hn1 : (0 : Int) < n := by omega
          go_wp2_with fail
          refine (pick_c hR (by omega) (by omega) (by omega)).mono ?_
          rintro e w2 ⟨f, rfl, f0, f1, r2, g2⟩
          have M2 := HM.out.kp g2 hg
          have G2 := grown_trans' HG.out g2
          go_wp2_with fail
          go_meet
          case rel => exact ⟨_, rfl, fun _ => by omega, M2, r2, G2⟩
      case rest =>
        obtain ⟨bb, rfl, hbb, hM2, hR2, hG2⟩ := hcut
        have HM2 := hide hM2; have HG2 := hide hG2
        clear hM2 hG2 HM HG hR
        go_upto_if 78 with fail
        go_cut [5] (fun v wx => ∃ n' : Nat, n' ≤ 7 ∧ MV wx w.heap.size v n' ∧ RD wx g (PP + 1) ∧ w.grownBy wx (some g))
        case first =>
          cases bb
          · go_wp2_with fail
            go_meet
            case rel => exact ⟨n, by omega, HM2.out, hR2, HG2.out⟩
          · obtain ⟨n1, rfl⟩ : ∃ m, n = m + 1 := ⟨n - 1, by have := hbb rfl; omega⟩
            obtain ⟨c1, rfl⟩ : ∃ m, c0 = m + 1 := ⟨c0 - 1, by omega⟩
            have hsl := sliceM_one (b := b0) (off := off0) (n := n1) (c := c1) (by omega)
            have hMT : MV wc w.heap.size (.slice (some ⟨b0, off0 + (if c1 = 0 then 0 else 2), none⟩) n1 c1) n1 := MV.tail' HM2.out
            obtain ⟨off1, ho1⟩ : ∃ q, off0 + (if c1 = 0 then 0 else 2) = q := ⟨_, rfl⟩
            rw [ho1] at hsl hMT
            clear ho1
            go_wp2_with fail
            go_meet
            case rel => exact ⟨n1, by omega, hMT, hR2, HG2.out⟩
        case rest =>
          clear HM2 HG2 hR2 hbb hnc0 hcm0 hlb0 hbs0 hrow0
          obtain ⟨n2, hn2, hM3, hR3, hG3⟩ := hcut
          obtain ⟨b0, off0, c0, hv0, hnc0, hcm0, hlb0, hbs0⟩ := hM3.shape
          subst hv0
          have hrow0 : ∀ k, (Value.slice (some ⟨b0, off0, none⟩) n2 c0).ownBlock = some k → w.heap.size ≤ k := fun k hk => by have e : some b0 = some k := hk; injection e with e; omega
          go_wp2_with fail
          refine (odd_c hR3 (by omega) hq1 hq2).mono ?_
          rintro e wB ⟨b, rfl, R0, g3⟩
          have M0 := hM3.kp g3 hg
          have G0 := grown_trans' hG3 g3
          have hzB : w.heap.size ≤ wB.heap.size := G0.size
          clear hM3 hG3 hR3 g3
          cases b
          · go_wp2_with fail
            go_ret
            exact ⟨_, n2, rfl, M0, by omega, R0.mono (by omega), G0⟩
          · go_wp2_with fail
            refine (pick_c R0 (by omega) (by omega) (by omega)).mono ?_
            rintro e W0 ⟨x, rfl, x0, x1, R1, g4⟩
            replace M0 := M0.kp g4 hg
            replace G0 := grown_trans' G0 g4
            have hlo0 : w.heap.size ≤ W0.heap.size := G0.size
            clear R0 g4 hzB
            have hx : x = 0 ∨ x = 1 ∨ x = 2 := by omega
            rcases hx with rfl | rfl | rfl
            · obtain ⟨PQ, hPQ⟩ : ∃ p, PP + 1 + 1 + 1 = p := ⟨_, rfl⟩
              rw [hPQ] at R1
              have hgl : g < w.heap.size := hg
              go_upto_region 20 with fail
              refine wp_region_invT 10 (fun a0 l a' w' => l.size = 12 ∧ ∃ u95 u96 u97 u98 u99 u100 u101 u102 u103 u104 : Value, a' = ⟨(over a0.tmps.toList [none, none, none, none, none, none, none, none, none, none, none, none, none, none, none, none, none, none, none, none, none, none, none, none, none, none, none, none, none, none, none, none, none, none, none, none, none, none, none, none, none, none, none, none, none, none, none, none, none, none, none, none, none, none, none, none, none, none, none, none, none, none, none, none, none, none, none, none, none, none, none, none, none, none, none, none, none, none, none, none, none, none, none, none, none, none, none, none, none, none, none, none, none, none, none, some u95, some u96, some u97, some u98, some u99, some u100, some u101, some u102, some u103, some u104]).toArray, a0.defers⟩ ∧ MV w' w.heap.size (.slice (some ⟨b0, off0, none⟩) n2 c0) n2 ∧ W0.grownBy w' (some g) ∧ w.heap.size ≤ w'.heap.size ∧ RD w' g (PQ + 12) ∧ Nst l 3 (RD w' g PQ) ∧ Nst l 7 (RD w' g (PQ + 1)) ∧ Lst l 0 (u95 = .slice (some ⟨b0, off0, none⟩) n2 c0) ∧ Lst l 1 (T2 w' w.heap.size u96) ∧ Lst l 2 (u97 = .pointer (some ⟨g, 0, none⟩)) ∧ Lst l 3 (NV 2 u98) ∧ Lst l 4 (PI w' w.heap.size u99) ∧ Lst l 5 (IV u100) ∧ Lst l 6 (u101 = .pointer (some ⟨g, 0, none⟩)) ∧ Lst l 7 (CVm w' w.heap.size u102) ∧ Lst l 8 (BM w' w.heap.size u103) ∧ Lst l 9 (RMs w' w.heap.size u104)) (by kernel_rfl) (by decide) (by kernel_rfl) (by kernel_rfl) (fun l a' w' h => h.1) ⟨by rfl, _, _, _, _, _, _, _, _, _, _, rfl, ?G0, ?G1, ?G2, ?G3, ?N0, ?N1, Lst.none, Lst.none, Lst.none, Lst.none, Lst.none, Lst.none, Lst.none, Lst.none, Lst.none, Lst.none⟩ ?steps ?fin
              case G0 => exact M0.kp (grown_of_below (Below.refl _ _).drew _) hgl
              case G1 => exact grown_of_below (Below.refl _ _).drew _
              case G2 => exact hlo0
              case G3 => exact (R1.below (Below.refl _ _).drew).mono (by omega)
              case N0 => exact Nst.all (R1.below (Below.refl _ _).drew)
              case N1 => exact Nst.all ((R1.below (Below.refl _ _).drew).mono (by omega))
              case steps =>
                refine StepsOK.cons (fun l a' w' K' hK hl hd hI => ?_) ?_
                · obtain ⟨hsz, hI⟩ := hI
                  obtain ⟨u95, hI⟩ := hI
                  obtain ⟨u96, hI⟩ := hI
                  obtain ⟨u97, hI⟩ := hI
                  obtain ⟨u98, hI⟩ := hI
                  obtain ⟨u99, hI⟩ := hI
                  obtain ⟨u100, hI⟩ := hI
                  obtain ⟨u101, hI⟩ := hI
                  obtain ⟨u102, hI⟩ := hI
                  obtain ⟨u103, hI⟩ := hI
                  obtain ⟨u104, hI⟩ := hI
                  obtain ⟨ha, hI⟩ := hI
                  obtain ⟨h0, hI⟩ := hI
                  obtain ⟨h1, hI⟩ := hI
                  obtain ⟨h2, hI⟩ := hI
                  obtain ⟨h3, hI⟩ := hI
                  obtain ⟨n3, hI⟩ := hI
                  obtain ⟨n7, hI⟩ := hI
                  obtain ⟨l0, hI⟩ := hI
                  obtain ⟨l1, hI⟩ := hI
                  obtain ⟨l2, hI⟩ := hI
                  obtain ⟨l3, hI⟩ := hI
                  obtain ⟨l4, hI⟩ := hI
                  obtain ⟨l5, hI⟩ := hI
                  obtain ⟨l6, hI⟩ := hI
                  obtain ⟨l7, hI⟩ := hI
                  obtain ⟨l8, hI⟩ := hI
                  have l9 := hI; clear hI
                  subst ha
                  clear hd
                  simp only [over]
                  go_simp
                  exact hK.out _ _ ⟨by simpa using hsz, _, _, _, _, _, _, _, _, _, _, rfl, h0, h1, h2, h3, n3.set_ne (by decide), n7.set_ne (by decide), Lst.now rfl, l1.set_ne (by decide), l2.set_ne (by decide), l3.set_ne (by decide), l4.set_ne (by decide), l5.set_ne (by decide), l6.set_ne (by decide), l7.set_ne (by decide), l8.set_ne (by decide), l9.set_ne (by decide)⟩
                refine StepsOK.cons (fun l a' w' K' hK hl hd hI => ?_) ?_
                · obtain ⟨hsz, hI⟩ := hI
                  obtain ⟨u95, hI⟩ := hI
                  obtain ⟨u96, hI⟩ := hI
                  obtain ⟨u97, hI⟩ := hI
                  obtain ⟨u98, hI⟩ := hI
                  obtain ⟨u99, hI⟩ := hI
                  obtain ⟨u100, hI⟩ := hI
                  obtain ⟨u101, hI⟩ := hI
                  obtain ⟨u102, hI⟩ := hI
                  obtain ⟨u103, hI⟩ := hI
                  obtain ⟨u104, hI⟩ := hI
                  obtain ⟨ha, hI⟩ := hI
                  obtain ⟨h0, hI⟩ := hI
                  obtain ⟨h1, hI⟩ := hI
                  obtain ⟨h2, hI⟩ := hI
                  obtain ⟨h3, hI⟩ := hI
                  obtain ⟨n3, hI⟩ := hI
                  obtain ⟨n7, hI⟩ := hI
                  obtain ⟨l0, hI⟩ := hI
                  obtain ⟨l1, hI⟩ := hI
                  obtain ⟨l2, hI⟩ := hI
                  obtain ⟨l3, hI⟩ := hI
                  obtain ⟨l4, hI⟩ := hI
                  obtain ⟨l5, hI⟩ := hI
                  obtain ⟨l6, hI⟩ := hI
                  obtain ⟨l7, hI⟩ := hI
                  obtain ⟨l8, hI⟩ := hI
                  have l9 := hI; clear hI
                  subst ha
                  clear hd
                  simp only [over]
                  go_simp
                  have kb := beB0 w' (.cells #[.int .i64 (-1), .int .i64 4] 3)
                  have kg := grown_of_below kb (some g)
                  exact hK.out _ _ ⟨by simpa using hsz, _, _, _, _, _, _, _, _, _, _, rfl, h0.kp kg hgl, grown_trans' h1 kg, Nat.le_trans h2 kg.size, h3.below kb, (n3.set_ne (by decide)).mono (fun h => h.below kb), (n7.set_ne (by decide)).mono (fun h => h.below kb), l0.set_ne (by decide), Lst.now (T2.new h2 _ _), l2.set_ne (by decide), l3.set_ne (by decide), (l4.set_ne (by decide)).mono (fun h => h.kp kg hgl), l5.set_ne (by decide), l6.set_ne (by decide), (l7.set_ne (by decide)).mono (fun h => h.kp kg hgl), (l8.set_ne (by decide)).mono (fun h => h.kp kg hgl), (l9.set_ne (by decide)).mono (fun h => h.kp kg hgl)⟩
                refine StepsOK.cons (fun l a' w' K' hK hl hd hI => ?_) ?_
                · obtain ⟨hsz, hI⟩ := hI
                  obtain ⟨u95, hI⟩ := hI
                  obtain ⟨u96, hI⟩ := hI
                  obtain ⟨u97, hI⟩ := hI
                  obtain ⟨u98, hI⟩ := hI
                  obtain ⟨u99, hI⟩ := hI
                  obtain ⟨u100, hI⟩ := hI
                  obtain ⟨u101, hI⟩ := hI
                  obtain ⟨u102, hI⟩ := hI
                  obtain ⟨u103, hI⟩ := hI
                  obtain ⟨u104, hI⟩ := hI
                  obtain ⟨ha, hI⟩ := hI
                  obtain ⟨h0, hI⟩ := hI
                  obtain ⟨h1, hI⟩ := hI
                  obtain ⟨h2, hI⟩ := hI
                  obtain ⟨h3, hI⟩ := hI
                  obtain ⟨n3, hI⟩ := hI
                  obtain ⟨n7, hI⟩ := hI
                  obtain ⟨l0, hI⟩ := hI
                  obtain ⟨l1, hI⟩ := hI
                  obtain ⟨l2, hI⟩ := hI
                  obtain ⟨l3, hI⟩ := hI
                  obtain ⟨l4, hI⟩ := hI
                  obtain ⟨l5, hI⟩ := hI
                  obtain ⟨l6, hI⟩ := hI
                  obtain ⟨l7, hI⟩ := hI
                  obtain ⟨l8, hI⟩ := hI
                  have l9 := hI; clear hI
                  subst ha
                  clear hd
                  simp only [over]
                  go_simp
                  exact hK.out _ _ ⟨by simpa using hsz, _, _, _, _, _, _, _, _, _, _, rfl, h0, h1, h2, h3, n3.set_ne (by decide), n7.set_ne (by decide), l0.set_ne (by decide), l1.set_ne (by decide), Lst.now rfl, l3.set_ne (by decide), l4.set_ne (by decide), l5.set_ne (by decide), l6.set_ne (by decide), l7.set_ne (by decide), l8.set_ne (by decide), l9.set_ne (by decide)⟩
                refine StepsOK.cons (fun l a' w' K' hK hl hd hI => ?_) ?_
                · obtain ⟨hsz, hI⟩ := hI
                  obtain ⟨u95, hI⟩ := hI
                  obtain ⟨u96, hI⟩ := hI
                  obtain ⟨u97, hI⟩ := hI
                  obtain ⟨u98, hI⟩ := hI
                  obtain ⟨u99, hI⟩ := hI
                  obtain ⟨u100, hI⟩ := hI
                  obtain ⟨u101, hI⟩ := hI
                  obtain ⟨u102, hI⟩ := hI
                  obtain ⟨u103, hI⟩ := hI
                  obtain ⟨u104, hI⟩ := hI
                  obtain ⟨ha, hI⟩ := hI
                  obtain ⟨h0, hI⟩ := hI
                  obtain ⟨h1, hI⟩ := hI
                  obtain ⟨h2, hI⟩ := hI
                  obtain ⟨h3, hI⟩ := hI
                  obtain ⟨n3, hI⟩ := hI
                  obtain ⟨n7, hI⟩ := hI
                  obtain ⟨l0, hI⟩ := hI
                  obtain ⟨l1, hI⟩ := hI
                  obtain ⟨l2, hI⟩ := hI
                  obtain ⟨l3, hI⟩ := hI
                  obtain ⟨l4, hI⟩ := hI
                  obtain ⟨l5, hI⟩ := hI
                  obtain ⟨l6, hI⟩ := hI
                  obtain ⟨l7, hI⟩ := hI
                  obtain ⟨l8, hI⟩ := hI
                  have l9 := hI; clear hI
                  subst ha
                  have r2 := l2.on (hd 2 (by decide))
                  clear hd
                  subst r2
                  simp only [over]
                  go_simp
                  go_at_call 43
                  refine (pick_c (n3.on hl) (by omega) (by omega) (by omega)).mono ?_
                  rintro e w9 ⟨x, rfl, x0, x1, r9, g9⟩
                  go_simp
                  have kg := g9
                  exact hK.out _ _ ⟨by simpa using hsz, _, _, _, _, _, _, _, _, _, _, rfl, h0.kp kg hgl, grown_trans' h1 kg, Nat.le_trans h2 kg.size, r9.mono (by omega), Nst.gone hl, (n7.set_ne (by decide)).mono (fun _ => r9), l0.set_ne (by decide), (l1.set_ne (by decide)).mono (fun h => h.kp kg hgl), l2.set_ne (by decide), Lst.now ⟨x.toNat, by rw [Int.toNat_of_nonneg x0], by omega⟩, (l4.set_ne (by decide)).mono (fun h => h.kp kg hgl), l5.set_ne (by decide), l6.set_ne (by decide), (l7.set_ne (by decide)).mono (fun h => h.kp kg hgl), (l8.set_ne (by decide)).mono (fun h => h.kp kg hgl), (l9.set_ne (by decide)).mono (fun h => h.kp kg hgl)⟩
                refine StepsOK.cons (fun l a' w' K' hK hl hd hI => ?_) ?_
                · obtain ⟨hsz, hI⟩ := hI
                  obtain ⟨u95, hI⟩ := hI
                  obtain ⟨u96, hI⟩ := hI
                  obtain ⟨u97, hI⟩ := hI
                  obtain ⟨u98, hI⟩ := hI
                  obtain ⟨u99, hI⟩ := hI
                  obtain ⟨u100, hI⟩ := hI
                  obtain ⟨u101, hI⟩ := hI
                  obtain ⟨u102, hI⟩ := hI
                  obtain ⟨u103, hI⟩ := hI
                  obtain ⟨u104, hI⟩ := hI
                  obtain ⟨ha, hI⟩ := hI
                  obtain ⟨h0, hI⟩ := hI
                  obtain ⟨h1, hI⟩ := hI
                  obtain ⟨h2, hI⟩ := hI
                  obtain ⟨h3, hI⟩ := hI
                  obtain ⟨n3, hI⟩ := hI
                  obtain ⟨n7, hI⟩ := hI
                  obtain ⟨l0, hI⟩ := hI
                  obtain ⟨l1, hI⟩ := hI
                  obtain ⟨l2, hI⟩ := hI
                  obtain ⟨l3, hI⟩ := hI
                  obtain ⟨l4, hI⟩ := hI
                  obtain ⟨l5, hI⟩ := hI
                  obtain ⟨l6, hI⟩ := hI
                  obtain ⟨l7, hI⟩ := hI
                  obtain ⟨l8, hI⟩ := hI
                  have l9 := hI; clear hI
                  subst ha
                  have r1 := l1.on (hd 1 (by decide))
                  have r3 := l3.on (hd 3 (by decide))
                  clear hd
                  obtain ⟨b, rfl, hb, hs, hc⟩ := r1
                  obtain ⟨x, rfl, hx⟩ := r3
                  have x0 : (0 : Int) ≤ x := by omega
                  have x1 : (x : Int) < 2 := by omega
                  simp only [over]
                  go_simp
                  exact hK.out _ _ ⟨by simpa using hsz, _, _, _, _, _, _, _, _, _, _, rfl, h0, h1, h2, h3, n3.set_ne (by decide), n7.set_ne (by decide), l0.set_ne (by decide), l1.set_ne (by decide), l2.set_ne (by decide), l3.set_ne (by decide), Lst.now ⟨b, x, by simp, hb, hs, hc x hx⟩, l5.set_ne (by decide), l6.set_ne (by decide), l7.set_ne (by decide), l8.set_ne (by decide), l9.set_ne (by decide)⟩
                refine StepsOK.cons (fun l a' w' K' hK hl hd hI => ?_) ?_
                · obtain ⟨hsz, hI⟩ := hI
                  obtain ⟨u95, hI⟩ := hI
                  obtain ⟨u96, hI⟩ := hI
                  obtain ⟨u97, hI⟩ := hI
                  obtain ⟨u98, hI⟩ := hI
                  obtain ⟨u99, hI⟩ := hI
                  obtain ⟨u100, hI⟩ := hI
                  obtain ⟨u101, hI⟩ := hI
                  obtain ⟨u102, hI⟩ := hI
                  obtain ⟨u103, hI⟩ := hI
                  obtain ⟨u104, hI⟩ := hI
                  obtain ⟨ha, hI⟩ := hI
                  obtain ⟨h0, hI⟩ := hI
                  obtain ⟨h1, hI⟩ := hI
                  obtain ⟨h2, hI⟩ := hI
                  obtain ⟨h3, hI⟩ := hI
                  obtain ⟨n3, hI⟩ := hI
                  obtain ⟨n7, hI⟩ := hI
                  obtain ⟨l0, hI⟩ := hI
                  obtain ⟨l1, hI⟩ := hI
                  obtain ⟨l2, hI⟩ := hI
                  obtain ⟨l3, hI⟩ := hI
                  obtain ⟨l4, hI⟩ := hI
                  obtain ⟨l5, hI⟩ := hI
                  obtain ⟨l6, hI⟩ := hI
                  obtain ⟨l7, hI⟩ := hI
                  obtain ⟨l8, hI⟩ := hI
                  have l9 := hI; clear hI
                  subst ha
                  have r4 := l4.on (hd 4 (by decide))
                  clear hd
                  obtain ⟨b, i, rfl, hb, hs, y, hy⟩ := r4
                  simp only [over]
                  go_simp
                  exact hK.out _ _ ⟨by simpa using hsz, _, _, _, _, _, _, _, _, _, _, rfl, h0, h1, h2, h3, n3.set_ne (by decide), n7.set_ne (by decide), l0.set_ne (by decide), l1.set_ne (by decide), l2.set_ne (by decide), l3.set_ne (by decide), l4.set_ne (by decide), Lst.now ⟨y, rfl⟩, l6.set_ne (by decide), l7.set_ne (by decide), l8.set_ne (by decide), l9.set_ne (by decide)⟩
                refine StepsOK.cons (fun l a' w' K' hK hl hd hI => ?_) ?_
                · obtain ⟨hsz, hI⟩ := hI
                  obtain ⟨u95, hI⟩ := hI
                  obtain ⟨u96, hI⟩ := hI
                  obtain ⟨u97, hI⟩ := hI
                  obtain ⟨u98, hI⟩ := hI
                  obtain ⟨u99, hI⟩ := hI
                  obtain ⟨u100, hI⟩ := hI
                  obtain ⟨u101, hI⟩ := hI
                  obtain ⟨u102, hI⟩ := hI
                  obtain ⟨u103, hI⟩ := hI
                  obtain ⟨u104, hI⟩ := hI
                  obtain ⟨ha, hI⟩ := hI
                  obtain ⟨h0, hI⟩ := hI
                  obtain ⟨h1, hI⟩ := hI
                  obtain ⟨h2, hI⟩ := hI
                  obtain ⟨h3, hI⟩ := hI
                  obtain ⟨n3, hI⟩ := hI
                  obtain ⟨n7, hI⟩ := hI
                  obtain ⟨l0, hI⟩ := hI
                  obtain ⟨l1, hI⟩ := hI
                  obtain ⟨l2, hI⟩ := hI
                  obtain ⟨l3, hI⟩ := hI
                  obtain ⟨l4, hI⟩ := hI
                  obtain ⟨l5, hI⟩ := hI
                  obtain ⟨l6, hI⟩ := hI
                  obtain ⟨l7, hI⟩ := hI
                  obtain ⟨l8, hI⟩ := hI
                  have l9 := hI; clear hI
                  subst ha
                  clear hd
                  simp only [over]
                  go_simp
                  exact hK.out _ _ ⟨by simpa using hsz, _, _, _, _, _, _, _, _, _, _, rfl, h0, h1, h2, h3, n3.set_ne (by decide), n7.set_ne (by decide), l0.set_ne (by decide), l1.set_ne (by decide), l2.set_ne (by decide), l3.set_ne (by decide), l4.set_ne (by decide), l5.set_ne (by decide), Lst.now rfl, l7.set_ne (by decide), l8.set_ne (by decide), l9.set_ne (by decide)⟩
                refine StepsOK.cons (fun l a' w' K' hK hl hd hI => ?_) ?_
                · obtain ⟨hsz, hI⟩ := hI
                  obtain ⟨u95, hI⟩ := hI
                  obtain ⟨u96, hI⟩ := hI
                  obtain ⟨u97, hI⟩ := hI
                  obtain ⟨u98, hI⟩ := hI
                  obtain ⟨u99, hI⟩ := hI
                  obtain ⟨u100, hI⟩ := hI
                  obtain ⟨u101, hI⟩ := hI
                  obtain ⟨u102, hI⟩ := hI
                  obtain ⟨u103, hI⟩ := hI
                  obtain ⟨u104, hI⟩ := hI
                  obtain ⟨ha, hI⟩ := hI
                  obtain ⟨h0, hI⟩ := hI
                  obtain ⟨h1, hI⟩ := hI
                  obtain ⟨h2, hI⟩ := hI
                  obtain ⟨h3, hI⟩ := hI
                  obtain ⟨n3, hI⟩ := hI
                  obtain ⟨n7, hI⟩ := hI
                  obtain ⟨l0, hI⟩ := hI
                  obtain ⟨l1, hI⟩ := hI
                  obtain ⟨l2, hI⟩ := hI
                  obtain ⟨l3, hI⟩ := hI
                  obtain ⟨l4, hI⟩ := hI
                  obtain ⟨l5, hI⟩ := hI
                  obtain ⟨l6, hI⟩ := hI
                  obtain ⟨l7, hI⟩ := hI
                  obtain ⟨l8, hI⟩ := hI
                  have l9 := hI; clear hI
                  subst ha
                  have r6 := l6.on (hd 6 (by decide))
                  have off3 := hd 3 (by decide)
                  clear hd
                  subst r6
                  simp only [over]
                  go_simp
                  go_at_call 70
                  refine (l20Clock_c (n7.on hl) (by omega) (by omega) (by omega)).mono ?_
                  rintro e w9 ⟨vq, kq, xq, rfl, o9, hkq, r9, g9⟩
                  go_simp
                  have kg := g9
                  exact hK.out _ _ ⟨by simpa using hsz, _, _, _, _, _, _, _, _, _, _, rfl, h0.kp kg hgl, grown_trans' h1 kg, Nat.le_trans h2 kg.size, r9.mono (by omega), Nst.off off3 (by decide), Nst.gone hl, l0.set_ne (by decide), (l1.set_ne (by decide)).mono (fun h => h.kp kg hgl), l2.set_ne (by decide), l3.set_ne (by decide), (l4.set_ne (by decide)).mono (fun h => h.kp kg hgl), l5.set_ne (by decide), l6.set_ne (by decide), Lst.now ⟨kq, xq, o9.mono h2, hkq⟩, (l8.set_ne (by decide)).mono (fun h => h.kp kg hgl), (l9.set_ne (by decide)).mono (fun h => h.kp kg hgl)⟩
                refine StepsOK.cons (fun l a' w' K' hK hl hd hI => ?_) ?_
                · obtain ⟨hsz, hI⟩ := hI
                  obtain ⟨u95, hI⟩ := hI
                  obtain ⟨u96, hI⟩ := hI
                  obtain ⟨u97, hI⟩ := hI
                  obtain ⟨u98, hI⟩ := hI
                  obtain ⟨u99, hI⟩ := hI
                  obtain ⟨u100, hI⟩ := hI
                  obtain ⟨u101, hI⟩ := hI
                  obtain ⟨u102, hI⟩ := hI
                  obtain ⟨u103, hI⟩ := hI
                  obtain ⟨u104, hI⟩ := hI
                  obtain ⟨ha, hI⟩ := hI
                  obtain ⟨h0, hI⟩ := hI
                  obtain ⟨h1, hI⟩ := hI
                  obtain ⟨h2, hI⟩ := hI
                  obtain ⟨h3, hI⟩ := hI
                  obtain ⟨n3, hI⟩ := hI
                  obtain ⟨n7, hI⟩ := hI
                  obtain ⟨l0, hI⟩ := hI
                  obtain ⟨l1, hI⟩ := hI
                  obtain ⟨l2, hI⟩ := hI
                  obtain ⟨l3, hI⟩ := hI
                  obtain ⟨l4, hI⟩ := hI
                  obtain ⟨l5, hI⟩ := hI
                  obtain ⟨l6, hI⟩ := hI
                  obtain ⟨l7, hI⟩ := hI
                  obtain ⟨l8, hI⟩ := hI
                  have l9 := hI; clear hI
                  subst ha
                  have r5 := l5.on (hd 5 (by decide))
                  have r7 := l7.on (hd 7 (by decide))
                  clear hd
                  obtain ⟨y, rfl⟩ := r5
                  obtain ⟨kq, xq, hoq, hkq⟩ := r7
                  obtain ⟨Aq, cq, rfl⟩ := hoq.shape
                  simp only [over]
                  go_simp
                  exact hK.out _ _ ⟨by simpa using hsz, _, _, _, _, _, _, _, _, _, _, rfl, h0, h1, h2, h3, n3.set_ne (by decide), n7.set_ne (by decide), l0.set_ne (by decide), l1.set_ne (by decide), l2.set_ne (by decide), l3.set_ne (by decide), l4.set_ne (by decide), l5.set_ne (by decide), l6.set_ne (by decide), l7.set_ne (by decide), Lst.now ⟨y, _, rfl, kq, xq, hoq, hkq⟩, l9.set_ne (by decide)⟩
                refine StepsOK.cons (fun l a' w' K' hK hl hd hI => ?_) ?_
                · obtain ⟨hsz, hI⟩ := hI
                  obtain ⟨u95, hI⟩ := hI
                  obtain ⟨u96, hI⟩ := hI
                  obtain ⟨u97, hI⟩ := hI
                  obtain ⟨u98, hI⟩ := hI
                  obtain ⟨u99, hI⟩ := hI
                  obtain ⟨u100, hI⟩ := hI
                  obtain ⟨u101, hI⟩ := hI
                  obtain ⟨u102, hI⟩ := hI
                  obtain ⟨u103, hI⟩ := hI
                  obtain ⟨u104, hI⟩ := hI
                  obtain ⟨ha, hI⟩ := hI
                  obtain ⟨h0, hI⟩ := hI
                  obtain ⟨h1, hI⟩ := hI
                  obtain ⟨h2, hI⟩ := hI
                  obtain ⟨h3, hI⟩ := hI
                  obtain ⟨n3, hI⟩ := hI
                  obtain ⟨n7, hI⟩ := hI
                  obtain ⟨l0, hI⟩ := hI
                  obtain ⟨l1, hI⟩ := hI
                  obtain ⟨l2, hI⟩ := hI
                  obtain ⟨l3, hI⟩ := hI
                  obtain ⟨l4, hI⟩ := hI
                  obtain ⟨l5, hI⟩ := hI
                  obtain ⟨l6, hI⟩ := hI
                  obtain ⟨l7, hI⟩ := hI
                  obtain ⟨l8, hI⟩ := hI
                  have l9 := hI; clear hI
                  subst ha
                  have r8 := l8.on (hd 8 (by decide))
                  clear hd
                  obtain ⟨f, q, rfl, kq, xq, hoq, hkq⟩ := r8
                  obtain ⟨Aq, cq, rfl⟩ := hoq.shape
                  simp only [over]
                  go_simp
                  have kb := beB0 w' (.cells #[.int .i64 f, .slice Aq kq cq] 55)
                  have kg := grown_of_below kb (some g)
                  exact hK.out _ _ ⟨by simpa using hsz, _, _, _, _, _, _, _, _, _, _, rfl, h0.kp kg hgl, grown_trans' h1 kg, Nat.le_trans h2 kg.size, h3.below kb, (n3.set_ne (by decide)).mono (fun h => h.below kb), (n7.set_ne (by decide)).mono (fun h => h.below kb), l0.set_ne (by decide), (l1.set_ne (by decide)).mono (fun h => h.kp kg hgl), l2.set_ne (by decide), l3.set_ne (by decide), (l4.set_ne (by decide)).mono (fun h => h.kp kg hgl), l5.set_ne (by decide), l6.set_ne (by decide), (l7.set_ne (by decide)).mono (fun h => h.kp kg hgl), (l8.set_ne (by decide)).mono (fun h => h.kp kg hgl), Lst.now ⟨_, f, _, rfl, h2, Blk.new _ _ _, CVm.kp ⟨kq, xq, hoq, hkq⟩ kg hgl⟩⟩
                exact StepsOK.nil
              case fin =>
                intro a' w' hI
                obtain ⟨hsz, hI⟩ := hI
                obtain ⟨u95, hI⟩ := hI
                obtain ⟨u96, hI⟩ := hI
                obtain ⟨u97, hI⟩ := hI
                obtain ⟨u98, hI⟩ := hI
                obtain ⟨u99, hI⟩ := hI
                obtain ⟨u100, hI⟩ := hI
                obtain ⟨u101, hI⟩ := hI
                obtain ⟨u102, hI⟩ := hI
                obtain ⟨u103, hI⟩ := hI
                obtain ⟨u104, hI⟩ := hI
                obtain ⟨ha, hI⟩ := hI
                obtain ⟨h0, hI⟩ := hI
                obtain ⟨h1, hI⟩ := hI
                obtain ⟨h2, hI⟩ := hI
                obtain ⟨h3, hI⟩ := hI
                obtain ⟨n3, hI⟩ := hI
                obtain ⟨n7, hI⟩ := hI
                obtain ⟨l0, hI⟩ := hI
                obtain ⟨l1, hI⟩ := hI
                obtain ⟨l2, hI⟩ := hI
                obtain ⟨l3, hI⟩ := hI
                obtain ⟨l4, hI⟩ := hI
                obtain ⟨l5, hI⟩ := hI
                obtain ⟨l6, hI⟩ := hI
                obtain ⟨l7, hI⟩ := hI
                obtain ⟨l8, hI⟩ := hI
                have l9 := hI; clear hI
                subst ha
                obtain ⟨bm, fm, qm, rfl, hbm, hKm, hqm⟩ := l9.on rfl
                obtain rfl := l0.on rfl
                clear l0 l1 l2 l3 l4 l5 l6 l7 l8 l9 n3 n7
                simp only [over]
                refine wpAny_ready (rs := [10]) (by kernel_rfl) (by simp) ?_
                refine AllReady.cons (by rw [List.getElem?_toArray]; exact rfl) (fun K hK1 => ?_) AllReady.nil
                obtain ⟨kq, xq, hoq, hkq⟩ := hqm
                refine step_appMV (by rfl) (.tmp 95) (.tmp 104) (by rfl) (by rfl) h0 (by rfl) (Rd.twoM hKm) (MCs.one ⟨fm, kq, xq, rfl, hoq, hkq⟩) (by omega) (by omega) h2 ?_
                intro v' w9 hm9 hg9
                refine hK1 _ _ ?_
                simp only [Act.put, List.setIfInBounds_toArray, List.set_cons_zero, List.set_cons_succ]
                refine wpAny_ready (rs := [11]) (by kernel_rfl) (by simp) ?_
                refine AllReady.cons (by rw [List.getElem?_toArray]; exact rfl) (fun K2 hK2 => ?_) AllReady.nil
                go_simp
                refine hK2 _ _ ?_
                refine wpAny_done (by kernel_rfl) ?_ _
                have hRD := h3.grown hg9 (fun k hk => by have := hrow0 k hk; omega)
                have hGR := grown_row (grown_trans' G0 h1) hg9 hrow0
                clear hK1 hK2 h0 h1 h2 h3 hg9 hKm hoq
                go_wp2_with fail
                go_ret
                exact ⟨_, n2 + 1, rfl, hm9, by omega, hRD.mono (by omega), hGR⟩
            · have KI := Blk.new W0 3 #[.int .i64 0, .int .i64 1, .int .i64 1, .int .i64 1]
              have OI1 : OI (W0.alloc (.cells #[.int .i64 0, .int .i64 1, .int .i64 1, .int .i64 1] 3)) w.heap.size (.slice (some ⟨W0.heap.size, 0, none⟩) 4 4) 4 [0, 1, 1, 1] := OI.of_blk KI hlo0 rfl rfl (by omega)
              have KM := Blk.new (W0.alloc (.cells #[.int .i64 0, .int .i64 1, .int .i64 1, .int .i64 1] 3)) 55 #[.int .i64 0, .slice (some ⟨W0.heap.size, 0, none⟩) 4 4]
              simp only [World.size_alloc] at KM
              have MV2 := (M0.alloc (.cells #[.int .i64 0, .int .i64 1, .int .i64 1, .int .i64 1] 3)).alloc (.cells #[.int .i64 0, .slice (some ⟨W0.heap.size, 0, none⟩) 4 4] 55)
              have R2 := (R1.alloc (.cells #[.int .i64 0, .int .i64 1, .int .i64 1, .int .i64 1] 3)).alloc (.cells #[.int .i64 0, .slice (some ⟨W0.heap.size, 0, none⟩) 4 4] 55)
              have G2 := grown_alloc (grown_alloc G0 (.cells #[.int .i64 0, .int .i64 1, .int .i64 1, .int .i64 1] 3)) (.cells #[.int .i64 0, .slice (some ⟨W0.heap.size, 0, none⟩) 4 4] 55)
              have hMC := MCs.one (u := .int .i64 0) ⟨0, 4, [0, 1, 1, 1], rfl, OI1.alloc (.cells #[.int .i64 0, .slice (some ⟨W0.heap.size, 0, none⟩) 4 4] 55), by omega⟩
              have HR2 := hide R2; have HG2 := hide G2
              clear M0 KI OI1 R1 G0 R2 G2
              go_wp2_with (at_builtin; refine wpList_appMV rfl _ _ rfl rfl MV2 rfl (Rd.twoM KM) hMC (by omega) (by omega) (by simp; omega) ?_; intro v' w9 hm9 hg9)
              go_ret
              exact ⟨_, n2 + 1, rfl, hm9, by omega, (HR2.out.grown hg9 (fun k hk => by have := hrow0 k hk; omega)).mono (by omega), grown_row HG2.out hg9 hrow0⟩
            · have KI := Blk.new W0 3 #[.int .i64 0, .int .i64 1, .int .i64 0, .int .i64 0]
              have OI1 : OI (W0.alloc (.cells #[.int .i64 0, .int .i64 1, .int .i64 0, .int .i64 0] 3)) w.heap.size (.slice (some ⟨W0.heap.size, 0, none⟩) 4 4) 4 [0, 1, 0, 0] := OI.of_blk KI hlo0 rfl rfl (by omega)
              have KB := Blk.new (W0.alloc (.cells #[.int .i64 0, .int .i64 1, .int .i64 0, .int .i64 0] 3)) 55 #[.int .i64 1, .slice (some ⟨W0.heap.size, 0, none⟩) 4 4]
              simp only [World.size_alloc] at KB
              obtain ⟨kb0, kb1, _, _⟩ := KB.two
              have KM := Blk.new ((W0.alloc (.cells #[.int .i64 0, .int .i64 1, .int .i64 0, .int .i64 0] 3)).alloc (.cells #[.int .i64 1, .slice (some ⟨W0.heap.size, 0, none⟩) 4 4] 55)) 55 #[.int .i64 1, .slice (some ⟨W0.heap.size, 0, none⟩) 4 4, .int .i64 1, .slice (some ⟨W0.heap.size, 0, none⟩) 4 4]
              simp only [World.size_alloc] at KM
              have MV2 := ((M0.alloc (.cells #[.int .i64 0, .int .i64 1, .int .i64 0, .int .i64 0] 3)).alloc (.cells #[.int .i64 1, .slice (some ⟨W0.heap.size, 0, none⟩) 4 4] 55)).alloc (.cells #[.int .i64 1, .slice (some ⟨W0.heap.size, 0, none⟩) 4 4, .int .i64 1, .slice (some ⟨W0.heap.size, 0, none⟩) 4 4] 55)
              have R2 := ((R1.alloc (.cells #[.int .i64 0, .int .i64 1, .int .i64 0, .int .i64 0] 3)).alloc (.cells #[.int .i64 1, .slice (some ⟨W0.heap.size, 0, none⟩) 4 4] 55)).alloc (.cells #[.int .i64 1, .slice (some ⟨W0.heap.size, 0, none⟩) 4 4, .int .i64 1, .slice (some ⟨W0.heap.size, 0, none⟩) 4 4] 55)
              have G2 := grown_alloc (grown_alloc (grown_alloc G0 (.cells #[.int .i64 0, .int .i64 1, .int .i64 0, .int .i64 0] 3)) (.cells #[.int .i64 1, .slice (some ⟨W0.heap.size, 0, none⟩) 4 4] 55)) (.cells #[.int .i64 1, .slice (some ⟨W0.heap.size, 0, none⟩) 4 4, .int .i64 1, .slice (some ⟨W0.heap.size, 0, none⟩) 4 4] 55)
              have hO2 := (OI1.alloc (.cells #[.int .i64 1, .slice (some ⟨W0.heap.size, 0, none⟩) 4 4] 55)).alloc (.cells #[.int .i64 1, .slice (some ⟨W0.heap.size, 0, none⟩) 4 4, .int .i64 1, .slice (some ⟨W0.heap.size, 0, none⟩) 4 4] 55)
              have hMC := MCs.two (u := .int .i64 1) (u' := .int .i64 1) ⟨1, 4, [0, 1, 0, 0], rfl, hO2, by omega⟩ ⟨1, 4, [0, 1, 0, 0], rfl, hO2, by omega⟩
              have HR2 := hide R2; have HG2 := hide G2
              clear M0 KI OI1 R1 G0 R2 G2 hO2 KB
              go_wp2_with (at_builtin; refine wpList_appMV rfl _ _ rfl rfl MV2 rfl (Rd.fourM KM) hMC (by omega) (by omega) (by simp; omega) ?_; intro v' w9 hm9 hg9)
              go_ret
              exact ⟨_, n2 + 2, rfl, hm9, by omega, (HR2.out.grown hg9 (fun k hk => by have := hrow0 k hk; omega)).mono (by omega), grown_row HG2.out hg9 hrow0⟩

end Go.Proofs.YtopjdidigfdhbaaDoor
