/- DrawMayDeliver: a clock and a message. -/
import Derived.Test.YtcoienlblhbkpaaDoorDraw4
import Derived.Test.YtcoienlblhbkpaaDoorDrawB
import Derived.Test.YtcoienlblhbkpaaDoorApp
import Derived.Deep.RegionWith
import Derived.Deep.DeepCutAuto
namespace Go.Proofs.YtcoienlblhbkpaaDoor
open Go.RowKit

set_option linter.unusedSimpArgs false
def DrawM (w : World) (e : Ending) (w' : World) : Prop := ∃ A k c xs f B m d ys, e = .returned (.tuple #[.slice A k c, .agg #[.int .i64 f, .slice B m d]]) ∧ OI w' w.heap.size (.slice A k c) k xs ∧ OI w' w.heap.size (.slice B m d) m ys ∧ Below w.heap.size w w'
theorem blkM {w : World} {g : Nat} (h : w.heap.size = g) (t : TypeId) (cs : Array Value) : Blk (w.alloc (.cells cs t)) g t cs := by
  subst h; exact Blk.new w t cs
theorem row3_at (k : Nat) (h : k < 3) : ∃ u : Int, (#[.int .i64 1, .int .i64 0, .int .i64 (-1)] : Array Value)[k]? = some (.int .i64 u) := by
  have : k = 0 ∨ k = 1 ∨ k = 2 := by omega
  rcases this with rfl | rfl | rfl
  · exact ⟨1, rfl⟩
  · exact ⟨0, rfl⟩
  · exact ⟨-1, rfl⟩

theorem drawM_end {w X : World} {A2 : Option Addr} {k c2 B : Nat} {xs : List Int} {A5 : Option Addr} {m c5 B' : Nat} {ys : List Int} {f : Int} (o4 : OI X B (.slice A2 k c2) k xs) (o5 : OI X B' (.slice A5 m c5) m ys) (hB : w.heap.size < B) (hB' : w.heap.size < B') (BX : Below w.heap.size w X) :
    DrawM w (.returned (.tuple #[.slice A2 k c2, .agg #[.int .i64 f, .slice A5 m c5]])) (((X.setCell ⟨w.heap.size, 0, none⟩ (.int .i64 f)).setCell ⟨w.heap.size, 1, none⟩ (.slice A5 m c5)).drew) :=
  ⟨A2, k, c2, xs, f, A5, m, c5, ys, rfl, (((o4.set_low (p := ⟨w.heap.size, 0, none⟩) hB _).set_low (p := ⟨w.heap.size, 1, none⟩) hB _).mono (by omega)).drew, (((o5.set_low (p := ⟨w.heap.size, 0, none⟩) hB' _).set_low (p := ⟨w.heap.size, 1, none⟩) hB' _).mono (by omega)).drew, ((BX.setCell (p := ⟨w.heap.size, 0, none⟩) (Nat.le_refl _) _).setCell (p := ⟨w.heap.size, 1, none⟩) (Nat.le_refl _) _).drew⟩

set_option maxRecDepth 100000 in
set_option maxHeartbeats 16000000 in
theorem DrawMayDeliver_c {w : World} {A : Option Addr} {n c : Nat} (hnc : n ≤ c) (hmx : c ≤ maxLen) (hb : BY w w.heap.size A n) : Calls Tryd.prog 32 #[.slice A n c] w (DrawM w) := by
  have b0 := beB0 w (.cells #[.int .i64 0, .slice none 0 0] 44)
  have K3 := Blk.new w 44 #[.int .i64 0, .slice none 0 0]
  go_enter Tryd.func32, Tryd.ntmps32
  go_wp2_with fail
  refine (l20Open_c hnc hmx (hb.upB b0)).mono ?_
  rintro e w1 ⟨rfl, r1, b1⟩
  have B1 := below_step b0 b1
  replace K3 := K3.belowAll b1
  simp only [World.size_alloc] at r1
  simp only [World.size_alloc]
  have l1 := r1.lt
  go_wp2_with fail
  refine (l20Clock_c r1 (by omega) (by omega) (by omega)).mono ?_
  rintro e w2 ⟨v, k, xs, rfl, o2, hk5, r2, g2⟩
  obtain ⟨A2, c2, rfl⟩ := o2.shape
  have B2 := belowG B1 g2 (by omega)
  replace K3 := K3.grown g2 (fun e => by injection e with e; omega)
  have hz2 := g2.size
  go_wp2_with fail
  refine (pick_c r2 (by omega) (by omega) (by omega)).mono ?_
  rintro e w3 ⟨x, rfl, x0, x1, r3, g3⟩
  have B3 := belowG B2 g3 (by omega)
  replace K3 := K3.grown g3 (fun e => by injection e with e; omega)
  have o3 := o2.grown g3 (o2.block_ne l1)
  have hz3 := g3.size
  go_wp2_with fail
  refine (pick_c r3 (by omega) (by omega) (by omega)).mono ?_
  rintro e w4 ⟨y, rfl, y0, y1, r4, g4⟩
  have B4 := belowG B3 g4 (by omega)
  replace K3 := K3.grown g4 (fun e => by injection e with e; omega)
  have o4 := o3.grown g4 (o3.block_ne l1)
  have hz4 := g4.size
  obtain ⟨xn, rfl⟩ : ∃ i : Nat, x = i := ⟨x.toNat, by omega⟩
  have hxn : xn < 4 := by omega
  have hyz : y / 13 = 0 ∨ y / 13 = 1 := by omega
  have oe := OI.empty w4
  clear B1 B2 B3 r1 r2 r3 b0 b1 g2 g3 g4 o2 o3 hb
  rcases hyz with e13 | e13
  · by_cases hk4 : k = 4
    · subst hk4
      have x4 : (xn : Int) < 4 := by omega
      have x00 : (0 : Int) ≤ xn := by omega
      go_wp2_with (at_builtin; refine wpList_appI rfl _ _ rfl rfl oe rfl (o4.si.alloc _) (by omega) (by simp) ?_; intro v5 w5 o5 g5 hat; simp only [Nat.zero_add, List.nil_append] at o5; obtain ⟨A5, c5, rfl⟩ := o5.shape)
      have K6 := Blk.new w5 44 #[.int .i64 (xn : Int), .slice A5 4 c5]
      have B5 := below_app ((Below.refl w4.heap.size w4).alloc (Nat.le_refl _) (.cells #[] 3)) oe (Nat.le_refl _) g5
      have b6 := beB0 w5 (.cells #[.int .i64 (xn : Int), .slice A5 4 c5] 44)
      have B6 := below_step (below_step B4 B5) b6
      have o46 := (o4.below B5).below b6
      have o56 := o5.below b6
      have K36 := (K3.belowAll B5).belowAll b6
      have ap := OI.apart o4 o5
      have hz5 := B5.size
      have r6 := (r4.below B5).below b6
      clear B4 B5 b6 o4 o5 g5 hat oe K3 r4
      generalize w5.alloc (.cells #[.int .i64 (xn : Int), .slice A5 4 c5] 44) = w6 at *
      have hA5 : ∃ b, A5 = some ⟨b, 0, none⟩ ∧ w4.heap.size ≤ b := by
        obtain ⟨A', c', e, _, _, _, h0, h1⟩ := o56.form
        injection e with e1 e2 e3
        subst e1
        cases A5 with
        | none => exact absurd (h0 rfl).1 (by omega)
        | some a => obtain ⟨g, hg, hg2, _⟩ := h1 a rfl; exact ⟨g, by rw [hg], hg2⟩
      obtain ⟨b, rfl, hbw⟩ := hA5
      have hb6 : w5.heap.size ≠ b := fun e => o56.ne_blk K6 (by decide) (by show some b = _; rw [e])
      obtain ⟨e0, he0, hce⟩ := o56.cell xn hxn
      have hfe := o56.free xn
      obtain ⟨q0, q1, _, _⟩ := K6.two
      go_region
      have o47 : OI ((w6.setCell ⟨b, xn, none⟩ (.int .i64 (wrap64 (e0 + 1)))).drew) w1.heap.size (.slice A2 4 c2) 4 xs := (o46.grown (grown_setCell (p := ⟨b, xn, none⟩) (World.grownBy.refl w6 (some b)) (.inl rfl) (.int .i64 (wrap64 (e0 + 1)))) ap).drew
      have o57 := (o56.store xn (wrap64 (e0 + 1))).drew
      have K67 := (K6.far (p := ⟨b, xn, none⟩) hb6 (.int .i64 (wrap64 (e0 + 1)))).drew
      have K37 := (K36.far (p := ⟨b, xn, none⟩) (by show w.heap.size ≠ b; omega) (.int .i64 (wrap64 (e0 + 1)))).drew
      have r7 := (r6.setC (p := ⟨b, xn, none⟩) (by show w.heap.size + 1 < b; omega) (.int .i64 (wrap64 (e0 + 1)))).drew
      have B7 := (B6.setCell (p := ⟨b, xn, none⟩) (by show w.heap.size ≤ b; omega) (.int .i64 (wrap64 (e0 + 1)))).drew
      generalize (w6.setCell ⟨b, xn, none⟩ (.int .i64 (wrap64 (e0 + 1)))).drew = w7 at *
      clear o46 o56 K6 K36 r6 B6 q0 q1 hce hfe he0
      have l7 := r7.lt
      go_wp2_with fail
      refine (pick_c r7 (by omega) (by omega) (by omega)).mono ?_
      rintro e w8 ⟨z, rfl, z0, z1, r8, g8⟩
      have B8 := belowG B7 g8 (by omega)
      have K6 := K67.grown g8 (fun e => by injection e with e; omega)
      have K3 := K37.grown g8 (fun e => by injection e with e; omega)
      have o4 := o47.grown g8 (o47.block_ne l1)
      have o5 := o57.grown g8 (o57.block_ne (by omega))
      obtain ⟨zn, rfl⟩ : ∃ i : Nat, z = i := ⟨z.toNat, by omega⟩
      have hzn : zn < 4 := by omega
      clear B7 K67 K37 o47 o57 g8 r7
      obtain ⟨e1, he1, hce⟩ := o5.cell zn hzn
      have hbl := (World.ownsRow.lt o5.1 b rfl).2
      have l8 := r8.lt
      have l6 := K6.lt
      have GZ : w8.grownBy w8.drew (some (w.heap.size + 1)) := grownDrew (World.grownBy.refl _ _)
      have hcc : ∀ W, w8.grownBy W (some (w.heap.size + 1)) → (W.cell? ⟨w5.heap.size, 0, none⟩ = some (.int .i64 (xn : Int)) ∧ W.cell? ⟨w5.heap.size, 1, none⟩ = some (.slice (some ⟨b, 0, none⟩) 4 c5)) ∧ W.cell? ⟨b, zn, none⟩ = some (.int .i64 e1) ∧ W.frozen? ⟨b, zn, none⟩ = false := fun W h =>
        ⟨⟨(World.cell?_of_block (a := ⟨w5.heap.size, 0, none⟩) (h.block _ l6 (fun e => by injection e with e; dsimp only at e; omega))).trans (K6.cell 0), (World.cell?_of_block (a := ⟨w5.heap.size, 1, none⟩) (h.block _ l6 (fun e => by injection e with e; dsimp only at e; omega))).trans (K6.cell 1)⟩, (World.cell?_of_block (a := ⟨b, zn, none⟩) (h.block _ hbl (fun e => by injection e with e; dsimp only at e; omega))).trans hce, (o5.grown h (o5.block_ne (by omega))).free zn⟩
      clear he1
      have z00 : (0 : Int) ≤ zn := by omega
      have z4 : (zn : Int) < 4 := by omega
      go_upto_region 7 with fail
      go_cut [7] (fun s wx => s = .int .i64 (zn : Int) ∧ ∃ ys', OI wx w4.heap.size (.slice (some ⟨b, 0, none⟩) 4 c5) 4 ys' ∧ OI wx w1.heap.size (.slice A2 4 c2) 4 xs ∧ Blk wx w5.heap.size 44 #[.int .i64 xn, .slice (some ⟨b, 0, none⟩) 4 c5] ∧ Blk wx w.heap.size 44 #[.int .i64 0, .slice none 0 0] ∧ Below w.heap.size w wx)
      case first =>
        obtain ⟨⟨y00, y01⟩, y02, y03⟩ := hcc _ GZ
        obtain ⟨k60, k61, _, _⟩ := K6.two
        have yy0 := fun o => (hcc _ (grown_alloc GZ o)).1.1
        have yy1 := fun o => (hcc _ (grown_alloc GZ o)).1.2
        have yy2 := fun o => (hcc _ (grown_alloc GZ o)).2.1
        clear x4 x00
        refine wp_region_held_drew (S := (fun W => W.cell? ⟨w5.heap.size, 0, none⟩ = some (.int .i64 (xn : Int)) ∧ W.cell? ⟨w5.heap.size, 1, none⟩ = some (.slice (some ⟨b, 0, none⟩) 4 c5))) (by kernel_rfl) ?_ (fun hHeld => ?_)
        · exact (hcc _ GZ).1
        refine wpAnyH_take (i := 0) (v := ?vv0_1) (by rw [List.getElem?_toArray]; exact rfl) (by kernel_rfl) (by kernel_rfl) (by kernel_rfl) (by intro _ _ _ h; exact h) (Or.inl ⟨by rfl, ?hy0_1⟩) hHeld ?rest0_1
        case' hy0_1 => (intro w hSw; (try dsimp only at hSw); go_simp; try (with_reducible rfl))
        (try simp only [Act.put, List.setIfInBounds_toArray, List.set_cons_zero, List.set_cons_succ])
        refine wpAnyH_take (i := 1) (v := ?vv1_2) (by rw [List.getElem?_toArray]; exact rfl) (by kernel_rfl) (by kernel_rfl) (by kernel_rfl) (by intro _ _ _ h; exact h) (Or.inl ⟨by rfl, ?hy1_2⟩) hHeld ?rest1_2
        case' hy1_2 => (intro w hSw; (try dsimp only at hSw); go_simp; try (with_reducible rfl))
        (try simp only [Act.put, List.setIfInBounds_toArray, List.set_cons_zero, List.set_cons_succ])
        refine wpAnyH_take (i := 2) (v := ?vv2_3) (by rw [List.getElem?_toArray]; exact rfl) (by kernel_rfl) (by kernel_rfl) (by kernel_rfl) (by intro _ _ _ h; exact h) (Or.inl ⟨by rfl, ?hy2_3⟩) hHeld ?rest2_3
        case' hy2_3 => (intro w hSw; (try dsimp only at hSw); go_simp; try (with_reducible rfl))
        (try simp only [Act.put, List.setIfInBounds_toArray, List.set_cons_zero, List.set_cons_succ])
        refine wpAnyH_take (i := 3) (v := ?vv3_4) (by rw [List.getElem?_toArray]; exact rfl) (by kernel_rfl) (by kernel_rfl) (by kernel_rfl) (by intro _ _ _ h; exact h) (Or.inl ⟨by rfl, ?hy3_4⟩) hHeld ?rest3_4
        case' hy3_4 => (intro w hSw; (try dsimp only at hSw); go_simp; try (with_reducible rfl))
        (try simp only [Act.put, List.setIfInBounds_toArray, List.set_cons_zero, List.set_cons_succ])
        refine wpAnyH_take (i := 4) (v := ?vv4_5) (by rw [List.getElem?_toArray]; exact rfl) (by kernel_rfl) (by kernel_rfl) (by kernel_rfl) (by intro _ _ _ h; exact h) (Or.inl ⟨by rfl, ?hy4_5⟩) hHeld ?rest4_5
        case' hy4_5 => (intro w hSw; (try dsimp only at hSw); go_simp; try (with_reducible rfl))
        (try simp only [Act.put, List.setIfInBounds_toArray, List.set_cons_zero, List.set_cons_succ])
        refine wpAnyH_take (i := 5) (v := ?vv5_6) (by rw [List.getElem?_toArray]; exact rfl) (by kernel_rfl) (by kernel_rfl) (by kernel_rfl) (by intro _ _ _ h; exact h) (Or.inl ⟨by rfl, ?hy5_6⟩) hHeld ?rest5_6
        case' hy5_6 => (intro w hSw; (try dsimp only at hSw); go_simp; try (with_reducible rfl))
        (try simp only [Act.put, List.setIfInBounds_toArray, List.set_cons_zero, List.set_cons_succ])
        refine wpAnyH_take (i := 6) (v := ?vv6_7) (by rw [List.getElem?_toArray]; exact rfl) (by kernel_rfl) (by kernel_rfl) (by kernel_rfl) (by intro _ _ _ h; exact h) (Or.inl ⟨by rfl, ?hy6_7⟩) hHeld ?rest6_7
        case' hy6_7 => (intro w hSw; (try dsimp only at hSw); go_simp; try (with_reducible rfl))
        (try simp only [Act.put, List.setIfInBounds_toArray, List.set_cons_zero, List.set_cons_succ])
        refine wpAnyH_take (i := 9) (v := ?vv9_8) (by rw [List.getElem?_toArray]; exact rfl) (by kernel_rfl) (by kernel_rfl) (by kernel_rfl) (by intro _ _ _ h; exact h) (Or.inl ⟨by rfl, ?hy9_8⟩) hHeld ?rest9_8
        case' hy9_8 => (intro w hSw; (try dsimp only at hSw); go_simp; try (with_reducible rfl))
        (try simp only [Act.put, List.setIfInBounds_toArray, List.set_cons_zero, List.set_cons_succ])
        refine wpAnyH_ready (rs := [7, 8, 10]) (by kernel_rfl) (by simp) ?_
        refine AllReadyH.cons (by rw [List.getElem?_toArray]; exact rfl) (fun K hK => ?_) ?_
        · go_simp
          refine hK.out _ _ ?_ (fun hHeld => ?_)
          · exact (hcc _ GZ).1
          clear hK K
          (try simp only [Act.put, List.setIfInBounds_toArray, List.set_cons_zero, List.set_cons_succ])
          refine wpAnyH_ready (rs := [8, 10]) (by kernel_rfl) (by simp) ?_
          refine AllReadyH.cons (by rw [List.getElem?_toArray]; exact rfl) (fun K hK => ?_) ?_
          · go_simp
            refine hK.out _ _ ?_ (fun hHeld => ?_)
            · exact (hcc _ (grown_alloc GZ _)).1
            clear hK K
            (try simp only [Act.put, List.setIfInBounds_toArray, List.set_cons_zero, List.set_cons_succ])
            refine wpAnyH_ready (rs := [10]) (by kernel_rfl) (by simp) ?_
            refine AllReadyH.cons (by rw [List.getElem?_toArray]; exact rfl) (fun K hK => ?_) ?_
            · go_simp
              go_at_call 57
              refine (pick_c (r8.drew.alloc (.cells #[.int .i64 1, .int .i64 0, .int .i64 (-1)] 3)) (by omega) (by omega) (by omega)).mono ?_
              rintro e wz ⟨u, rfl, u0, u1, rz, gz⟩
              have KO := (blkM (w := w8.drew) (g := w8.heap.size) rfl 3 #[.int .i64 1, .int .i64 0, .int .i64 (-1)]).grown gz (fun e => (by injection e with e; omega))
              replace GZ := grown_trans' (grown_alloc GZ (.cells #[.int .i64 1, .int .i64 0, .int .i64 (-1)] 3)) gz
              obtain ⟨un, rfl⟩ : ∃ i : Nat, u = i := ⟨u.toNat, by omega⟩
              obtain ⟨t, ht⟩ := row3_at un (by omega)
              have un0 : (0 : Int) ≤ un := by omega
              have un3 : (un : Int) < 3 := by omega
              obtain ⟨⟨v00, v01⟩, v02, v03⟩ := hcc _ GZ
              have f0 := (KO.cell un).trans ht
              (try go_wp2_with fail)
              refine hK.out _ _ ?_ (fun hHeld => ?_)
              · exact (hcc _ GZ).1
              clear hK K
              (try simp only [Act.put, List.setIfInBounds_toArray, List.set_cons_zero, List.set_cons_succ])
              refine wpAnyH_take (i := 11) (v := ?vv11_9) (by rw [List.getElem?_toArray]; exact rfl) (by kernel_rfl) (by kernel_rfl) (by kernel_rfl) (by intro _ _ _ h; exact h) (Or.inl ⟨by rfl, ?hy11_9⟩) hHeld ?rest11_9
              case' hy11_9 => (intro w hSw; (try dsimp only at hSw); go_simp; try (with_reducible rfl))
              (try simp only [Act.put, List.setIfInBounds_toArray, List.set_cons_zero, List.set_cons_succ])
              refine wpAnyH_ready (rs := [12]) (by kernel_rfl) (by simp) ?_
              refine AllReadyH.cons (by rw [List.getElem?_toArray]; exact rfl) (fun K hK => ?_) ?_
              · go_simp
                refine hK.out _ _ ?_ (fun hHeld => ?_)
                · exact (hcc _ GZ).1
                clear hK K
                (try simp only [Act.put, List.setIfInBounds_toArray, List.set_cons_zero, List.set_cons_succ])
                refine wpAnyH_take (i := 13) (v := ?vv13_10) (by rw [List.getElem?_toArray]; exact rfl) (by kernel_rfl) (by kernel_rfl) (by kernel_rfl) (by intro _ _ _ h; exact h) (Or.inl ⟨by rfl, ?hy13_10⟩) hHeld ?rest13_10
                case' hy13_10 => (intro w hSw; (try dsimp only at hSw); go_simp; try (with_reducible rfl))
                (try simp only [Act.put, List.setIfInBounds_toArray, List.set_cons_zero, List.set_cons_succ])
                refine wpAnyH_take (i := 14) (v := ?vv14_11) (by rw [List.getElem?_toArray]; exact rfl) (by kernel_rfl) (by kernel_rfl) (by kernel_rfl) (by intro _ _ _ h; exact h) (Or.inl ⟨by rfl, ?hy14_11⟩) hHeld ?rest14_11
                case' hy14_11 => (intro w hSw; (try dsimp only at hSw); go_simp; try (with_reducible rfl))
                (try simp only [Act.put, List.setIfInBounds_toArray, List.set_cons_zero, List.set_cons_succ])
                refine wpAnyH_take (i := 15) (v := ?vv15_12) (by rw [List.getElem?_toArray]; exact rfl) (by kernel_rfl) (by kernel_rfl) (by kernel_rfl) (by intro _ _ _ h; exact h) (Or.inl ⟨by rfl, ?hy15_12⟩) hHeld ?rest15_12
                case' hy15_12 => (intro w hSw; (try dsimp only at hSw); go_simp; try (with_reducible rfl))
                (try simp only [Act.put, List.setIfInBounds_toArray, List.set_cons_zero, List.set_cons_succ])
                refine wpAnyH_ready (rs := [16]) (by kernel_rfl) (by simp) ?_
                refine AllReadyH.cons (by rw [List.getElem?_toArray]; exact rfl) (fun K hK => ?_) AllReadyH.nil
                go_simp
                all_goals
                  refine hK.out _ _ ?_ (fun hHeld => ?_)
                  · exact ⟨((K6.grown GZ (fun e => by injection e with e; omega)).far (p := ⟨b, zn, none⟩) hb6 _).cell 0, ((K6.grown GZ (fun e => by injection e with e; omega)).far (p := ⟨b, zn, none⟩) hb6 _).cell 1⟩
                  clear hK K
                  (try simp only [Act.put, List.setIfInBounds_toArray, List.set_cons_zero, List.set_cons_succ])
                  refine wpAnyH_done (by kernel_rfl) ?_ _
                  all_goals go_wp2_with fail
                  all_goals go_meet
                  all_goals exact ⟨rfl, _, (o5.grown GZ (o5.block_ne (by omega))).store zn _, (o4.grown GZ (o4.block_ne l1)).grown (grown_setCell (p := ⟨b, zn, none⟩) (World.grownBy.refl _ (some b)) (.inl rfl) _) ap, (K6.grown GZ (fun e => by injection e with e; omega)).far (p := ⟨b, zn, none⟩) hb6 _, (K3.grown GZ (fun e => by injection e with e; omega)).far (p := ⟨b, zn, none⟩) (by show w.heap.size ≠ b; omega) _, (belowG B8 GZ (by omega)).setCell (p := ⟨b, zn, none⟩) (by show w.heap.size ≤ b; omega) _⟩
              exact AllReadyH.nil
            exact AllReadyH.nil
          refine AllReadyH.cons (by rw [List.getElem?_toArray]; exact rfl) (fun K hK => ?_) ?_
          · go_simp
            go_at_call 57
            refine (pick_c r8.drew (by omega) (by omega) (by omega)).mono ?_
            rintro e wz ⟨u, rfl, u0, u1, rz, gz⟩
            replace GZ := grown_trans' GZ gz
            obtain ⟨un, rfl⟩ : ∃ i : Nat, u = i := ⟨u.toNat, by omega⟩
            obtain ⟨t, ht⟩ := row3_at un (by omega)
            have un0 : (0 : Int) ≤ un := by omega
            have un3 : (un : Int) < 3 := by omega
            obtain ⟨⟨v00, v01⟩, v02, v03⟩ := hcc _ GZ
            have vv2 := fun o => (hcc _ (grown_alloc GZ o)).2.1
            have vv3 := fun o => (hcc _ (grown_alloc GZ o)).2.2
            have f0 := ((blkM (w := wz) (g := wz.heap.size) rfl 3 #[.int .i64 1, .int .i64 0, .int .i64 (-1)]).cell un).trans ht
            (try go_wp2_with fail)
            refine hK.out _ _ ?_ (fun hHeld => ?_)
            · exact (hcc _ GZ).1
            clear hK K
            (try simp only [Act.put, List.setIfInBounds_toArray, List.set_cons_zero, List.set_cons_succ])
            refine wpAnyH_ready (rs := [8]) (by kernel_rfl) (by simp) ?_
            refine AllReadyH.cons (by rw [List.getElem?_toArray]; exact rfl) (fun K hK => ?_) ?_
            · go_simp
              refine hK.out _ _ ?_ (fun hHeld => ?_)
              · exact (hcc _ (grown_alloc GZ _)).1
              clear hK K
              (try simp only [Act.put, List.setIfInBounds_toArray, List.set_cons_zero, List.set_cons_succ])
              refine wpAnyH_take (i := 11) (v := ?vv11_13) (by rw [List.getElem?_toArray]; exact rfl) (by kernel_rfl) (by kernel_rfl) (by kernel_rfl) (by intro _ _ _ h; exact h) (Or.inl ⟨by rfl, ?hy11_13⟩) hHeld ?rest11_13
              case' hy11_13 => (intro w hSw; (try dsimp only at hSw); go_simp; try (with_reducible rfl))
              (try simp only [Act.put, List.setIfInBounds_toArray, List.set_cons_zero, List.set_cons_succ])
              refine wpAnyH_ready (rs := [12]) (by kernel_rfl) (by simp) ?_
              refine AllReadyH.cons (by rw [List.getElem?_toArray]; exact rfl) (fun K hK => ?_) ?_
              · go_simp
                refine hK.out _ _ ?_ (fun hHeld => ?_)
                · exact (hcc _ (grown_alloc GZ _)).1
                clear hK K
                (try simp only [Act.put, List.setIfInBounds_toArray, List.set_cons_zero, List.set_cons_succ])
                refine wpAnyH_take (i := 13) (v := ?vv13_14) (by rw [List.getElem?_toArray]; exact rfl) (by kernel_rfl) (by kernel_rfl) (by kernel_rfl) (by intro _ _ _ h; exact h) (Or.inl ⟨by rfl, ?hy13_14⟩) hHeld ?rest13_14
                case' hy13_14 => (intro w hSw; (try dsimp only at hSw); go_simp; try (with_reducible rfl))
                (try simp only [Act.put, List.setIfInBounds_toArray, List.set_cons_zero, List.set_cons_succ])
                refine wpAnyH_take (i := 14) (v := ?vv14_15) (by rw [List.getElem?_toArray]; exact rfl) (by kernel_rfl) (by kernel_rfl) (by kernel_rfl) (by intro _ _ _ h; exact h) (Or.inl ⟨by rfl, ?hy14_15⟩) hHeld ?rest14_15
                case' hy14_15 => (intro w hSw; (try dsimp only at hSw); go_simp; try (with_reducible rfl))
                (try simp only [Act.put, List.setIfInBounds_toArray, List.set_cons_zero, List.set_cons_succ])
                refine wpAnyH_take (i := 15) (v := ?vv15_16) (by rw [List.getElem?_toArray]; exact rfl) (by kernel_rfl) (by kernel_rfl) (by kernel_rfl) (by intro _ _ _ h; exact h) (Or.inl ⟨by rfl, ?hy15_16⟩) hHeld ?rest15_16
                case' hy15_16 => (intro w hSw; (try dsimp only at hSw); go_simp; try (with_reducible rfl))
                (try simp only [Act.put, List.setIfInBounds_toArray, List.set_cons_zero, List.set_cons_succ])
                refine wpAnyH_ready (rs := [16]) (by kernel_rfl) (by simp) ?_
                refine AllReadyH.cons (by rw [List.getElem?_toArray]; exact rfl) (fun K hK => ?_) AllReadyH.nil
                go_simp
                all_goals
                  refine hK.out _ _ ?_ (fun hHeld => ?_)
                  · exact ⟨(((K6.grown GZ (fun e => by injection e with e; omega)).alloc (.cells #[.int .i64 1, .int .i64 0, .int .i64 (-1)] 3)).far (p := ⟨b, zn, none⟩) hb6 _).cell 0, (((K6.grown GZ (fun e => by injection e with e; omega)).alloc (.cells #[.int .i64 1, .int .i64 0, .int .i64 (-1)] 3)).far (p := ⟨b, zn, none⟩) hb6 _).cell 1⟩
                  clear hK K
                  (try simp only [Act.put, List.setIfInBounds_toArray, List.set_cons_zero, List.set_cons_succ])
                  refine wpAnyH_done (by kernel_rfl) ?_ _
                  all_goals go_wp2_with fail
                  all_goals go_meet
                  all_goals exact ⟨rfl, _, ((o5.grown GZ (o5.block_ne (by omega))).alloc (.cells #[.int .i64 1, .int .i64 0, .int .i64 (-1)] 3)).store zn _, ((o4.grown GZ (o4.block_ne l1)).alloc (.cells #[.int .i64 1, .int .i64 0, .int .i64 (-1)] 3)).grown (grown_setCell (p := ⟨b, zn, none⟩) (World.grownBy.refl _ (some b)) (.inl rfl) _) ap, ((K6.grown GZ (fun e => by injection e with e; omega)).alloc (.cells #[.int .i64 1, .int .i64 0, .int .i64 (-1)] 3)).far (p := ⟨b, zn, none⟩) hb6 _, ((K3.grown GZ (fun e => by injection e with e; omega)).alloc (.cells #[.int .i64 1, .int .i64 0, .int .i64 (-1)] 3)).far (p := ⟨b, zn, none⟩) (by show w.heap.size ≠ b; omega) _, ((belowG B8 GZ (by omega)).alloc (belowG B8 GZ (by omega)).size (.cells #[.int .i64 1, .int .i64 0, .int .i64 (-1)] 3)).setCell (p := ⟨b, zn, none⟩) (by show w.heap.size ≤ b; omega) _⟩
              exact AllReadyH.nil
            exact AllReadyH.nil
          exact AllReadyH.nil
        refine AllReadyH.cons (by rw [List.getElem?_toArray]; exact rfl) (fun K hK => ?_) ?_
        · go_simp
          refine hK.out _ _ ?_ (fun hHeld => ?_)
          · exact (hcc _ (grown_alloc GZ _)).1
          clear hK K
          (try simp only [Act.put, List.setIfInBounds_toArray, List.set_cons_zero, List.set_cons_succ])
          refine wpAnyH_ready (rs := [7, 10]) (by kernel_rfl) (by simp) ?_
          refine AllReadyH.cons (by rw [List.getElem?_toArray]; exact rfl) (fun K hK => ?_) ?_
          · go_simp
            refine hK.out _ _ ?_ (fun hHeld => ?_)
            · exact (hcc _ (grown_alloc GZ _)).1
            clear hK K
            (try simp only [Act.put, List.setIfInBounds_toArray, List.set_cons_zero, List.set_cons_succ])
            refine wpAnyH_ready (rs := [10]) (by kernel_rfl) (by simp) ?_
            refine AllReadyH.cons (by rw [List.getElem?_toArray]; exact rfl) (fun K hK => ?_) ?_
            · go_simp
              go_at_call 57
              refine (pick_c (r8.drew.alloc (.cells #[.int .i64 1, .int .i64 0, .int .i64 (-1)] 3)) (by omega) (by omega) (by omega)).mono ?_
              rintro e wz ⟨u, rfl, u0, u1, rz, gz⟩
              have KO := (blkM (w := w8.drew) (g := w8.heap.size) rfl 3 #[.int .i64 1, .int .i64 0, .int .i64 (-1)]).grown gz (fun e => (by injection e with e; omega))
              replace GZ := grown_trans' (grown_alloc GZ (.cells #[.int .i64 1, .int .i64 0, .int .i64 (-1)] 3)) gz
              obtain ⟨un, rfl⟩ : ∃ i : Nat, u = i := ⟨u.toNat, by omega⟩
              obtain ⟨t, ht⟩ := row3_at un (by omega)
              have un0 : (0 : Int) ≤ un := by omega
              have un3 : (un : Int) < 3 := by omega
              obtain ⟨⟨v00, v01⟩, v02, v03⟩ := hcc _ GZ
              have f0 := (KO.cell un).trans ht
              (try go_wp2_with fail)
              refine hK.out _ _ ?_ (fun hHeld => ?_)
              · exact (hcc _ GZ).1
              clear hK K
              (try simp only [Act.put, List.setIfInBounds_toArray, List.set_cons_zero, List.set_cons_succ])
              refine wpAnyH_take (i := 11) (v := ?vv11_17) (by rw [List.getElem?_toArray]; exact rfl) (by kernel_rfl) (by kernel_rfl) (by kernel_rfl) (by intro _ _ _ h; exact h) (Or.inl ⟨by rfl, ?hy11_17⟩) hHeld ?rest11_17
              case' hy11_17 => (intro w hSw; (try dsimp only at hSw); go_simp; try (with_reducible rfl))
              (try simp only [Act.put, List.setIfInBounds_toArray, List.set_cons_zero, List.set_cons_succ])
              refine wpAnyH_ready (rs := [12]) (by kernel_rfl) (by simp) ?_
              refine AllReadyH.cons (by rw [List.getElem?_toArray]; exact rfl) (fun K hK => ?_) ?_
              · go_simp
                refine hK.out _ _ ?_ (fun hHeld => ?_)
                · exact (hcc _ GZ).1
                clear hK K
                (try simp only [Act.put, List.setIfInBounds_toArray, List.set_cons_zero, List.set_cons_succ])
                refine wpAnyH_take (i := 13) (v := ?vv13_18) (by rw [List.getElem?_toArray]; exact rfl) (by kernel_rfl) (by kernel_rfl) (by kernel_rfl) (by intro _ _ _ h; exact h) (Or.inl ⟨by rfl, ?hy13_18⟩) hHeld ?rest13_18
                case' hy13_18 => (intro w hSw; (try dsimp only at hSw); go_simp; try (with_reducible rfl))
                (try simp only [Act.put, List.setIfInBounds_toArray, List.set_cons_zero, List.set_cons_succ])
                refine wpAnyH_take (i := 14) (v := ?vv14_19) (by rw [List.getElem?_toArray]; exact rfl) (by kernel_rfl) (by kernel_rfl) (by kernel_rfl) (by intro _ _ _ h; exact h) (Or.inl ⟨by rfl, ?hy14_19⟩) hHeld ?rest14_19
                case' hy14_19 => (intro w hSw; (try dsimp only at hSw); go_simp; try (with_reducible rfl))
                (try simp only [Act.put, List.setIfInBounds_toArray, List.set_cons_zero, List.set_cons_succ])
                refine wpAnyH_take (i := 15) (v := ?vv15_20) (by rw [List.getElem?_toArray]; exact rfl) (by kernel_rfl) (by kernel_rfl) (by kernel_rfl) (by intro _ _ _ h; exact h) (Or.inl ⟨by rfl, ?hy15_20⟩) hHeld ?rest15_20
                case' hy15_20 => (intro w hSw; (try dsimp only at hSw); go_simp; try (with_reducible rfl))
                (try simp only [Act.put, List.setIfInBounds_toArray, List.set_cons_zero, List.set_cons_succ])
                refine wpAnyH_ready (rs := [16]) (by kernel_rfl) (by simp) ?_
                refine AllReadyH.cons (by rw [List.getElem?_toArray]; exact rfl) (fun K hK => ?_) AllReadyH.nil
                go_simp
                all_goals
                  refine hK.out _ _ ?_ (fun hHeld => ?_)
                  · exact ⟨((K6.grown GZ (fun e => by injection e with e; omega)).far (p := ⟨b, zn, none⟩) hb6 _).cell 0, ((K6.grown GZ (fun e => by injection e with e; omega)).far (p := ⟨b, zn, none⟩) hb6 _).cell 1⟩
                  clear hK K
                  (try simp only [Act.put, List.setIfInBounds_toArray, List.set_cons_zero, List.set_cons_succ])
                  refine wpAnyH_done (by kernel_rfl) ?_ _
                  all_goals go_wp2_with fail
                  all_goals go_meet
                  all_goals exact ⟨rfl, _, (o5.grown GZ (o5.block_ne (by omega))).store zn _, (o4.grown GZ (o4.block_ne l1)).grown (grown_setCell (p := ⟨b, zn, none⟩) (World.grownBy.refl _ (some b)) (.inl rfl) _) ap, (K6.grown GZ (fun e => by injection e with e; omega)).far (p := ⟨b, zn, none⟩) hb6 _, (K3.grown GZ (fun e => by injection e with e; omega)).far (p := ⟨b, zn, none⟩) (by show w.heap.size ≠ b; omega) _, (belowG B8 GZ (by omega)).setCell (p := ⟨b, zn, none⟩) (by show w.heap.size ≤ b; omega) _⟩
              exact AllReadyH.nil
            exact AllReadyH.nil
          refine AllReadyH.cons (by rw [List.getElem?_toArray]; exact rfl) (fun K hK => ?_) ?_
          · go_simp
            go_at_call 57
            refine (pick_c (r8.drew.alloc (.cells #[.int .i64 1, .int .i64 0, .int .i64 (-1)] 3)) (by omega) (by omega) (by omega)).mono ?_
            rintro e wz ⟨u, rfl, u0, u1, rz, gz⟩
            have KO := (blkM (w := w8.drew) (g := w8.heap.size) rfl 3 #[.int .i64 1, .int .i64 0, .int .i64 (-1)]).grown gz (fun e => (by injection e with e; omega))
            replace GZ := grown_trans' (grown_alloc GZ (.cells #[.int .i64 1, .int .i64 0, .int .i64 (-1)] 3)) gz
            obtain ⟨un, rfl⟩ : ∃ i : Nat, u = i := ⟨u.toNat, by omega⟩
            obtain ⟨t, ht⟩ := row3_at un (by omega)
            have un0 : (0 : Int) ≤ un := by omega
            have un3 : (un : Int) < 3 := by omega
            obtain ⟨⟨v00, v01⟩, v02, v03⟩ := hcc _ GZ
            have f0 := (KO.cell un).trans ht
            (try go_wp2_with fail)
            refine hK.out _ _ ?_ (fun hHeld => ?_)
            · exact (hcc _ GZ).1
            clear hK K
            (try simp only [Act.put, List.setIfInBounds_toArray, List.set_cons_zero, List.set_cons_succ])
            refine wpAnyH_take (i := 11) (v := ?vv11_21) (by rw [List.getElem?_toArray]; exact rfl) (by kernel_rfl) (by kernel_rfl) (by kernel_rfl) (by intro _ _ _ h; exact h) (Or.inl ⟨by rfl, ?hy11_21⟩) hHeld ?rest11_21
            case' hy11_21 => (intro w hSw; (try dsimp only at hSw); go_simp; try (with_reducible rfl))
            (try simp only [Act.put, List.setIfInBounds_toArray, List.set_cons_zero, List.set_cons_succ])
            refine wpAnyH_ready (rs := [7, 12]) (by kernel_rfl) (by simp) ?_
            refine AllReadyH.cons (by rw [List.getElem?_toArray]; exact rfl) (fun K hK => ?_) ?_
            · go_simp
              refine hK.out _ _ ?_ (fun hHeld => ?_)
              · exact (hcc _ GZ).1
              clear hK K
              (try simp only [Act.put, List.setIfInBounds_toArray, List.set_cons_zero, List.set_cons_succ])
              refine wpAnyH_ready (rs := [12]) (by kernel_rfl) (by simp) ?_
              refine AllReadyH.cons (by rw [List.getElem?_toArray]; exact rfl) (fun K hK => ?_) ?_
              · go_simp
                refine hK.out _ _ ?_ (fun hHeld => ?_)
                · exact (hcc _ GZ).1
                clear hK K
                (try simp only [Act.put, List.setIfInBounds_toArray, List.set_cons_zero, List.set_cons_succ])
                refine wpAnyH_take (i := 13) (v := ?vv13_22) (by rw [List.getElem?_toArray]; exact rfl) (by kernel_rfl) (by kernel_rfl) (by kernel_rfl) (by intro _ _ _ h; exact h) (Or.inl ⟨by rfl, ?hy13_22⟩) hHeld ?rest13_22
                case' hy13_22 => (intro w hSw; (try dsimp only at hSw); go_simp; try (with_reducible rfl))
                (try simp only [Act.put, List.setIfInBounds_toArray, List.set_cons_zero, List.set_cons_succ])
                refine wpAnyH_take (i := 14) (v := ?vv14_23) (by rw [List.getElem?_toArray]; exact rfl) (by kernel_rfl) (by kernel_rfl) (by kernel_rfl) (by intro _ _ _ h; exact h) (Or.inl ⟨by rfl, ?hy14_23⟩) hHeld ?rest14_23
                case' hy14_23 => (intro w hSw; (try dsimp only at hSw); go_simp; try (with_reducible rfl))
                (try simp only [Act.put, List.setIfInBounds_toArray, List.set_cons_zero, List.set_cons_succ])
                refine wpAnyH_take (i := 15) (v := ?vv15_24) (by rw [List.getElem?_toArray]; exact rfl) (by kernel_rfl) (by kernel_rfl) (by kernel_rfl) (by intro _ _ _ h; exact h) (Or.inl ⟨by rfl, ?hy15_24⟩) hHeld ?rest15_24
                case' hy15_24 => (intro w hSw; (try dsimp only at hSw); go_simp; try (with_reducible rfl))
                (try simp only [Act.put, List.setIfInBounds_toArray, List.set_cons_zero, List.set_cons_succ])
                refine wpAnyH_ready (rs := [16]) (by kernel_rfl) (by simp) ?_
                refine AllReadyH.cons (by rw [List.getElem?_toArray]; exact rfl) (fun K hK => ?_) AllReadyH.nil
                go_simp
                all_goals
                  refine hK.out _ _ ?_ (fun hHeld => ?_)
                  · exact ⟨((K6.grown GZ (fun e => by injection e with e; omega)).far (p := ⟨b, zn, none⟩) hb6 _).cell 0, ((K6.grown GZ (fun e => by injection e with e; omega)).far (p := ⟨b, zn, none⟩) hb6 _).cell 1⟩
                  clear hK K
                  (try simp only [Act.put, List.setIfInBounds_toArray, List.set_cons_zero, List.set_cons_succ])
                  refine wpAnyH_done (by kernel_rfl) ?_ _
                  all_goals go_wp2_with fail
                  all_goals go_meet
                  all_goals exact ⟨rfl, _, (o5.grown GZ (o5.block_ne (by omega))).store zn _, (o4.grown GZ (o4.block_ne l1)).grown (grown_setCell (p := ⟨b, zn, none⟩) (World.grownBy.refl _ (some b)) (.inl rfl) _) ap, (K6.grown GZ (fun e => by injection e with e; omega)).far (p := ⟨b, zn, none⟩) hb6 _, (K3.grown GZ (fun e => by injection e with e; omega)).far (p := ⟨b, zn, none⟩) (by show w.heap.size ≠ b; omega) _, (belowG B8 GZ (by omega)).setCell (p := ⟨b, zn, none⟩) (by show w.heap.size ≤ b; omega) _⟩
              exact AllReadyH.nil
            refine AllReadyH.cons (by rw [List.getElem?_toArray]; exact rfl) (fun K hK => ?_) ?_
            · go_simp
              refine hK.out _ _ ?_ (fun hHeld => ?_)
              · exact (hcc _ GZ).1
              clear hK K
              (try simp only [Act.put, List.setIfInBounds_toArray, List.set_cons_zero, List.set_cons_succ])
              refine wpAnyH_ready (rs := [7]) (by kernel_rfl) (by simp) ?_
              refine AllReadyH.cons (by rw [List.getElem?_toArray]; exact rfl) (fun K hK => ?_) ?_
              · go_simp
                refine hK.out _ _ ?_ (fun hHeld => ?_)
                · exact (hcc _ GZ).1
                clear hK K
                (try simp only [Act.put, List.setIfInBounds_toArray, List.set_cons_zero, List.set_cons_succ])
                refine wpAnyH_take (i := 13) (v := ?vv13_25) (by rw [List.getElem?_toArray]; exact rfl) (by kernel_rfl) (by kernel_rfl) (by kernel_rfl) (by intro _ _ _ h; exact h) (Or.inl ⟨by rfl, ?hy13_25⟩) hHeld ?rest13_25
                case' hy13_25 => (intro w hSw; (try dsimp only at hSw); go_simp; try (with_reducible rfl))
                (try simp only [Act.put, List.setIfInBounds_toArray, List.set_cons_zero, List.set_cons_succ])
                refine wpAnyH_take (i := 14) (v := ?vv14_26) (by rw [List.getElem?_toArray]; exact rfl) (by kernel_rfl) (by kernel_rfl) (by kernel_rfl) (by intro _ _ _ h; exact h) (Or.inl ⟨by rfl, ?hy14_26⟩) hHeld ?rest14_26
                case' hy14_26 => (intro w hSw; (try dsimp only at hSw); go_simp; try (with_reducible rfl))
                (try simp only [Act.put, List.setIfInBounds_toArray, List.set_cons_zero, List.set_cons_succ])
                refine wpAnyH_take (i := 15) (v := ?vv15_27) (by rw [List.getElem?_toArray]; exact rfl) (by kernel_rfl) (by kernel_rfl) (by kernel_rfl) (by intro _ _ _ h; exact h) (Or.inl ⟨by rfl, ?hy15_27⟩) hHeld ?rest15_27
                case' hy15_27 => (intro w hSw; (try dsimp only at hSw); go_simp; try (with_reducible rfl))
                (try simp only [Act.put, List.setIfInBounds_toArray, List.set_cons_zero, List.set_cons_succ])
                refine wpAnyH_ready (rs := [16]) (by kernel_rfl) (by simp) ?_
                refine AllReadyH.cons (by rw [List.getElem?_toArray]; exact rfl) (fun K hK => ?_) AllReadyH.nil
                go_simp
                all_goals
                  refine hK.out _ _ ?_ (fun hHeld => ?_)
                  · exact ⟨((K6.grown GZ (fun e => by injection e with e; omega)).far (p := ⟨b, zn, none⟩) hb6 _).cell 0, ((K6.grown GZ (fun e => by injection e with e; omega)).far (p := ⟨b, zn, none⟩) hb6 _).cell 1⟩
                  clear hK K
                  (try simp only [Act.put, List.setIfInBounds_toArray, List.set_cons_zero, List.set_cons_succ])
                  refine wpAnyH_done (by kernel_rfl) ?_ _
                  all_goals go_wp2_with fail
                  all_goals go_meet
                  all_goals exact ⟨rfl, _, (o5.grown GZ (o5.block_ne (by omega))).store zn _, (o4.grown GZ (o4.block_ne l1)).grown (grown_setCell (p := ⟨b, zn, none⟩) (World.grownBy.refl _ (some b)) (.inl rfl) _) ap, (K6.grown GZ (fun e => by injection e with e; omega)).far (p := ⟨b, zn, none⟩) hb6 _, (K3.grown GZ (fun e => by injection e with e; omega)).far (p := ⟨b, zn, none⟩) (by show w.heap.size ≠ b; omega) _, (belowG B8 GZ (by omega)).setCell (p := ⟨b, zn, none⟩) (by show w.heap.size ≤ b; omega) _⟩
              exact AllReadyH.nil
            exact AllReadyH.nil
          exact AllReadyH.nil
        refine AllReadyH.cons (by rw [List.getElem?_toArray]; exact rfl) (fun K hK => ?_) ?_
        · go_simp
          go_at_call 57
          refine (pick_c r8.drew (by omega) (by omega) (by omega)).mono ?_
          rintro e wz ⟨u, rfl, u0, u1, rz, gz⟩
          replace GZ := grown_trans' GZ gz
          obtain ⟨un, rfl⟩ : ∃ i : Nat, u = i := ⟨u.toNat, by omega⟩
          obtain ⟨t, ht⟩ := row3_at un (by omega)
          have un0 : (0 : Int) ≤ un := by omega
          have un3 : (un : Int) < 3 := by omega
          obtain ⟨⟨v00, v01⟩, v02, v03⟩ := hcc _ GZ
          have vv2 := fun o => (hcc _ (grown_alloc GZ o)).2.1
          have vv3 := fun o => (hcc _ (grown_alloc GZ o)).2.2
          have f0 := ((blkM (w := wz) (g := wz.heap.size) rfl 3 #[.int .i64 1, .int .i64 0, .int .i64 (-1)]).cell un).trans ht
          (try go_wp2_with fail)
          refine hK.out _ _ ?_ (fun hHeld => ?_)
          · exact (hcc _ GZ).1
          clear hK K
          (try simp only [Act.put, List.setIfInBounds_toArray, List.set_cons_zero, List.set_cons_succ])
          refine wpAnyH_ready (rs := [7, 8]) (by kernel_rfl) (by simp) ?_
          refine AllReadyH.cons (by rw [List.getElem?_toArray]; exact rfl) (fun K hK => ?_) ?_
          · go_simp
            refine hK.out _ _ ?_ (fun hHeld => ?_)
            · exact (hcc _ GZ).1
            clear hK K
            (try simp only [Act.put, List.setIfInBounds_toArray, List.set_cons_zero, List.set_cons_succ])
            refine wpAnyH_ready (rs := [8]) (by kernel_rfl) (by simp) ?_
            refine AllReadyH.cons (by rw [List.getElem?_toArray]; exact rfl) (fun K hK => ?_) ?_
            · go_simp
              refine hK.out _ _ ?_ (fun hHeld => ?_)
              · exact (hcc _ (grown_alloc GZ _)).1
              clear hK K
              (try simp only [Act.put, List.setIfInBounds_toArray, List.set_cons_zero, List.set_cons_succ])
              refine wpAnyH_take (i := 11) (v := ?vv11_28) (by rw [List.getElem?_toArray]; exact rfl) (by kernel_rfl) (by kernel_rfl) (by kernel_rfl) (by intro _ _ _ h; exact h) (Or.inl ⟨by rfl, ?hy11_28⟩) hHeld ?rest11_28
              case' hy11_28 => (intro w hSw; (try dsimp only at hSw); go_simp; try (with_reducible rfl))
              (try simp only [Act.put, List.setIfInBounds_toArray, List.set_cons_zero, List.set_cons_succ])
              refine wpAnyH_ready (rs := [12]) (by kernel_rfl) (by simp) ?_
              refine AllReadyH.cons (by rw [List.getElem?_toArray]; exact rfl) (fun K hK => ?_) ?_
              · go_simp
                refine hK.out _ _ ?_ (fun hHeld => ?_)
                · exact (hcc _ (grown_alloc GZ _)).1
                clear hK K
                (try simp only [Act.put, List.setIfInBounds_toArray, List.set_cons_zero, List.set_cons_succ])
                refine wpAnyH_take (i := 13) (v := ?vv13_29) (by rw [List.getElem?_toArray]; exact rfl) (by kernel_rfl) (by kernel_rfl) (by kernel_rfl) (by intro _ _ _ h; exact h) (Or.inl ⟨by rfl, ?hy13_29⟩) hHeld ?rest13_29
                case' hy13_29 => (intro w hSw; (try dsimp only at hSw); go_simp; try (with_reducible rfl))
                (try simp only [Act.put, List.setIfInBounds_toArray, List.set_cons_zero, List.set_cons_succ])
                refine wpAnyH_take (i := 14) (v := ?vv14_30) (by rw [List.getElem?_toArray]; exact rfl) (by kernel_rfl) (by kernel_rfl) (by kernel_rfl) (by intro _ _ _ h; exact h) (Or.inl ⟨by rfl, ?hy14_30⟩) hHeld ?rest14_30
                case' hy14_30 => (intro w hSw; (try dsimp only at hSw); go_simp; try (with_reducible rfl))
                (try simp only [Act.put, List.setIfInBounds_toArray, List.set_cons_zero, List.set_cons_succ])
                refine wpAnyH_take (i := 15) (v := ?vv15_31) (by rw [List.getElem?_toArray]; exact rfl) (by kernel_rfl) (by kernel_rfl) (by kernel_rfl) (by intro _ _ _ h; exact h) (Or.inl ⟨by rfl, ?hy15_31⟩) hHeld ?rest15_31
                case' hy15_31 => (intro w hSw; (try dsimp only at hSw); go_simp; try (with_reducible rfl))
                (try simp only [Act.put, List.setIfInBounds_toArray, List.set_cons_zero, List.set_cons_succ])
                refine wpAnyH_ready (rs := [16]) (by kernel_rfl) (by simp) ?_
                refine AllReadyH.cons (by rw [List.getElem?_toArray]; exact rfl) (fun K hK => ?_) AllReadyH.nil
                go_simp
                all_goals
                  refine hK.out _ _ ?_ (fun hHeld => ?_)
                  · exact ⟨(((K6.grown GZ (fun e => by injection e with e; omega)).alloc (.cells #[.int .i64 1, .int .i64 0, .int .i64 (-1)] 3)).far (p := ⟨b, zn, none⟩) hb6 _).cell 0, (((K6.grown GZ (fun e => by injection e with e; omega)).alloc (.cells #[.int .i64 1, .int .i64 0, .int .i64 (-1)] 3)).far (p := ⟨b, zn, none⟩) hb6 _).cell 1⟩
                  clear hK K
                  (try simp only [Act.put, List.setIfInBounds_toArray, List.set_cons_zero, List.set_cons_succ])
                  refine wpAnyH_done (by kernel_rfl) ?_ _
                  all_goals go_wp2_with fail
                  all_goals go_meet
                  all_goals exact ⟨rfl, _, ((o5.grown GZ (o5.block_ne (by omega))).alloc (.cells #[.int .i64 1, .int .i64 0, .int .i64 (-1)] 3)).store zn _, ((o4.grown GZ (o4.block_ne l1)).alloc (.cells #[.int .i64 1, .int .i64 0, .int .i64 (-1)] 3)).grown (grown_setCell (p := ⟨b, zn, none⟩) (World.grownBy.refl _ (some b)) (.inl rfl) _) ap, ((K6.grown GZ (fun e => by injection e with e; omega)).alloc (.cells #[.int .i64 1, .int .i64 0, .int .i64 (-1)] 3)).far (p := ⟨b, zn, none⟩) hb6 _, ((K3.grown GZ (fun e => by injection e with e; omega)).alloc (.cells #[.int .i64 1, .int .i64 0, .int .i64 (-1)] 3)).far (p := ⟨b, zn, none⟩) (by show w.heap.size ≠ b; omega) _, ((belowG B8 GZ (by omega)).alloc (belowG B8 GZ (by omega)).size (.cells #[.int .i64 1, .int .i64 0, .int .i64 (-1)] 3)).setCell (p := ⟨b, zn, none⟩) (by show w.heap.size ≤ b; omega) _⟩
              exact AllReadyH.nil
            exact AllReadyH.nil
          refine AllReadyH.cons (by rw [List.getElem?_toArray]; exact rfl) (fun K hK => ?_) ?_
          · go_simp
            refine hK.out _ _ ?_ (fun hHeld => ?_)
            · exact (hcc _ (grown_alloc GZ _)).1
            clear hK K
            (try simp only [Act.put, List.setIfInBounds_toArray, List.set_cons_zero, List.set_cons_succ])
            refine wpAnyH_take (i := 11) (v := ?vv11_32) (by rw [List.getElem?_toArray]; exact rfl) (by kernel_rfl) (by kernel_rfl) (by kernel_rfl) (by intro _ _ _ h; exact h) (Or.inl ⟨by rfl, ?hy11_32⟩) hHeld ?rest11_32
            case' hy11_32 => (intro w hSw; (try dsimp only at hSw); go_simp; try (with_reducible rfl))
            (try simp only [Act.put, List.setIfInBounds_toArray, List.set_cons_zero, List.set_cons_succ])
            refine wpAnyH_ready (rs := [7, 12]) (by kernel_rfl) (by simp) ?_
            refine AllReadyH.cons (by rw [List.getElem?_toArray]; exact rfl) (fun K hK => ?_) ?_
            · go_simp
              refine hK.out _ _ ?_ (fun hHeld => ?_)
              · exact (hcc _ (grown_alloc GZ _)).1
              clear hK K
              (try simp only [Act.put, List.setIfInBounds_toArray, List.set_cons_zero, List.set_cons_succ])
              refine wpAnyH_ready (rs := [12]) (by kernel_rfl) (by simp) ?_
              refine AllReadyH.cons (by rw [List.getElem?_toArray]; exact rfl) (fun K hK => ?_) ?_
              · go_simp
                refine hK.out _ _ ?_ (fun hHeld => ?_)
                · exact (hcc _ (grown_alloc GZ _)).1
                clear hK K
                (try simp only [Act.put, List.setIfInBounds_toArray, List.set_cons_zero, List.set_cons_succ])
                refine wpAnyH_take (i := 13) (v := ?vv13_33) (by rw [List.getElem?_toArray]; exact rfl) (by kernel_rfl) (by kernel_rfl) (by kernel_rfl) (by intro _ _ _ h; exact h) (Or.inl ⟨by rfl, ?hy13_33⟩) hHeld ?rest13_33
                case' hy13_33 => (intro w hSw; (try dsimp only at hSw); go_simp; try (with_reducible rfl))
                (try simp only [Act.put, List.setIfInBounds_toArray, List.set_cons_zero, List.set_cons_succ])
                refine wpAnyH_take (i := 14) (v := ?vv14_34) (by rw [List.getElem?_toArray]; exact rfl) (by kernel_rfl) (by kernel_rfl) (by kernel_rfl) (by intro _ _ _ h; exact h) (Or.inl ⟨by rfl, ?hy14_34⟩) hHeld ?rest14_34
                case' hy14_34 => (intro w hSw; (try dsimp only at hSw); go_simp; try (with_reducible rfl))
                (try simp only [Act.put, List.setIfInBounds_toArray, List.set_cons_zero, List.set_cons_succ])
                refine wpAnyH_take (i := 15) (v := ?vv15_35) (by rw [List.getElem?_toArray]; exact rfl) (by kernel_rfl) (by kernel_rfl) (by kernel_rfl) (by intro _ _ _ h; exact h) (Or.inl ⟨by rfl, ?hy15_35⟩) hHeld ?rest15_35
                case' hy15_35 => (intro w hSw; (try dsimp only at hSw); go_simp; try (with_reducible rfl))
                (try simp only [Act.put, List.setIfInBounds_toArray, List.set_cons_zero, List.set_cons_succ])
                refine wpAnyH_ready (rs := [16]) (by kernel_rfl) (by simp) ?_
                refine AllReadyH.cons (by rw [List.getElem?_toArray]; exact rfl) (fun K hK => ?_) AllReadyH.nil
                go_simp
                all_goals
                  refine hK.out _ _ ?_ (fun hHeld => ?_)
                  · exact ⟨(((K6.grown GZ (fun e => by injection e with e; omega)).alloc (.cells #[.int .i64 1, .int .i64 0, .int .i64 (-1)] 3)).far (p := ⟨b, zn, none⟩) hb6 _).cell 0, (((K6.grown GZ (fun e => by injection e with e; omega)).alloc (.cells #[.int .i64 1, .int .i64 0, .int .i64 (-1)] 3)).far (p := ⟨b, zn, none⟩) hb6 _).cell 1⟩
                  clear hK K
                  (try simp only [Act.put, List.setIfInBounds_toArray, List.set_cons_zero, List.set_cons_succ])
                  refine wpAnyH_done (by kernel_rfl) ?_ _
                  all_goals go_wp2_with fail
                  all_goals go_meet
                  all_goals exact ⟨rfl, _, ((o5.grown GZ (o5.block_ne (by omega))).alloc (.cells #[.int .i64 1, .int .i64 0, .int .i64 (-1)] 3)).store zn _, ((o4.grown GZ (o4.block_ne l1)).alloc (.cells #[.int .i64 1, .int .i64 0, .int .i64 (-1)] 3)).grown (grown_setCell (p := ⟨b, zn, none⟩) (World.grownBy.refl _ (some b)) (.inl rfl) _) ap, ((K6.grown GZ (fun e => by injection e with e; omega)).alloc (.cells #[.int .i64 1, .int .i64 0, .int .i64 (-1)] 3)).far (p := ⟨b, zn, none⟩) hb6 _, ((K3.grown GZ (fun e => by injection e with e; omega)).alloc (.cells #[.int .i64 1, .int .i64 0, .int .i64 (-1)] 3)).far (p := ⟨b, zn, none⟩) (by show w.heap.size ≠ b; omega) _, ((belowG B8 GZ (by omega)).alloc (belowG B8 GZ (by omega)).size (.cells #[.int .i64 1, .int .i64 0, .int .i64 (-1)] 3)).setCell (p := ⟨b, zn, none⟩) (by show w.heap.size ≤ b; omega) _⟩
              exact AllReadyH.nil
            refine AllReadyH.cons (by rw [List.getElem?_toArray]; exact rfl) (fun K hK => ?_) ?_
            · go_simp
              refine hK.out _ _ ?_ (fun hHeld => ?_)
              · exact (hcc _ (grown_alloc GZ _)).1
              clear hK K
              (try simp only [Act.put, List.setIfInBounds_toArray, List.set_cons_zero, List.set_cons_succ])
              refine wpAnyH_ready (rs := [7]) (by kernel_rfl) (by simp) ?_
              refine AllReadyH.cons (by rw [List.getElem?_toArray]; exact rfl) (fun K hK => ?_) ?_
              · go_simp
                refine hK.out _ _ ?_ (fun hHeld => ?_)
                · exact (hcc _ (grown_alloc GZ _)).1
                clear hK K
                (try simp only [Act.put, List.setIfInBounds_toArray, List.set_cons_zero, List.set_cons_succ])
                refine wpAnyH_take (i := 13) (v := ?vv13_36) (by rw [List.getElem?_toArray]; exact rfl) (by kernel_rfl) (by kernel_rfl) (by kernel_rfl) (by intro _ _ _ h; exact h) (Or.inl ⟨by rfl, ?hy13_36⟩) hHeld ?rest13_36
                case' hy13_36 => (intro w hSw; (try dsimp only at hSw); go_simp; try (with_reducible rfl))
                (try simp only [Act.put, List.setIfInBounds_toArray, List.set_cons_zero, List.set_cons_succ])
                refine wpAnyH_take (i := 14) (v := ?vv14_37) (by rw [List.getElem?_toArray]; exact rfl) (by kernel_rfl) (by kernel_rfl) (by kernel_rfl) (by intro _ _ _ h; exact h) (Or.inl ⟨by rfl, ?hy14_37⟩) hHeld ?rest14_37
                case' hy14_37 => (intro w hSw; (try dsimp only at hSw); go_simp; try (with_reducible rfl))
                (try simp only [Act.put, List.setIfInBounds_toArray, List.set_cons_zero, List.set_cons_succ])
                refine wpAnyH_take (i := 15) (v := ?vv15_38) (by rw [List.getElem?_toArray]; exact rfl) (by kernel_rfl) (by kernel_rfl) (by kernel_rfl) (by intro _ _ _ h; exact h) (Or.inl ⟨by rfl, ?hy15_38⟩) hHeld ?rest15_38
                case' hy15_38 => (intro w hSw; (try dsimp only at hSw); go_simp; try (with_reducible rfl))
                (try simp only [Act.put, List.setIfInBounds_toArray, List.set_cons_zero, List.set_cons_succ])
                refine wpAnyH_ready (rs := [16]) (by kernel_rfl) (by simp) ?_
                refine AllReadyH.cons (by rw [List.getElem?_toArray]; exact rfl) (fun K hK => ?_) AllReadyH.nil
                go_simp
                all_goals
                  refine hK.out _ _ ?_ (fun hHeld => ?_)
                  · exact ⟨(((K6.grown GZ (fun e => by injection e with e; omega)).alloc (.cells #[.int .i64 1, .int .i64 0, .int .i64 (-1)] 3)).far (p := ⟨b, zn, none⟩) hb6 _).cell 0, (((K6.grown GZ (fun e => by injection e with e; omega)).alloc (.cells #[.int .i64 1, .int .i64 0, .int .i64 (-1)] 3)).far (p := ⟨b, zn, none⟩) hb6 _).cell 1⟩
                  clear hK K
                  (try simp only [Act.put, List.setIfInBounds_toArray, List.set_cons_zero, List.set_cons_succ])
                  refine wpAnyH_done (by kernel_rfl) ?_ _
                  all_goals go_wp2_with fail
                  all_goals go_meet
                  all_goals exact ⟨rfl, _, ((o5.grown GZ (o5.block_ne (by omega))).alloc (.cells #[.int .i64 1, .int .i64 0, .int .i64 (-1)] 3)).store zn _, ((o4.grown GZ (o4.block_ne l1)).alloc (.cells #[.int .i64 1, .int .i64 0, .int .i64 (-1)] 3)).grown (grown_setCell (p := ⟨b, zn, none⟩) (World.grownBy.refl _ (some b)) (.inl rfl) _) ap, ((K6.grown GZ (fun e => by injection e with e; omega)).alloc (.cells #[.int .i64 1, .int .i64 0, .int .i64 (-1)] 3)).far (p := ⟨b, zn, none⟩) hb6 _, ((K3.grown GZ (fun e => by injection e with e; omega)).alloc (.cells #[.int .i64 1, .int .i64 0, .int .i64 (-1)] 3)).far (p := ⟨b, zn, none⟩) (by show w.heap.size ≠ b; omega) _, ((belowG B8 GZ (by omega)).alloc (belowG B8 GZ (by omega)).size (.cells #[.int .i64 1, .int .i64 0, .int .i64 (-1)] 3)).setCell (p := ⟨b, zn, none⟩) (by show w.heap.size ≤ b; omega) _⟩
              exact AllReadyH.nil
            exact AllReadyH.nil
          exact AllReadyH.nil
        exact AllReadyH.nil
      case rest =>
        obtain ⟨rfl, ys', o59, o49, K69, K39, B9⟩ := hcut
        rename World => w9
        clear hcc GZ K6 K3 o4 o5 r8 B8 hce
        go_wp2_with fail
        obtain ⟨q0, q1, _, _⟩ := (K69).two
        obtain ⟨d0, d1, d2, d3⟩ := (K39).two
        go_region
        go_wp2_with fail
        obtain ⟨t0, t1, _, _⟩ := (((K39).set_ 0 (.int .i64 (xn : Int))).set_ 1 (.slice (some ⟨b, 0, none⟩) 4 c5)).two
        exact bodyPost_ret (v := .tuple #[.slice A2 4 c2, .agg #[.int .i64 (xn : Int), (.slice (some ⟨b, 0, none⟩) 4 c5)]]) (by simp [results, Tryd.results32, go_sem, t0, t1]) rfl (drawM_end o49 o59 (by omega) (by omega) B9)
    · have hk4' : ((k : Int) == 4) = false := by simp; omega
      go_wp2_with (at_builtin; refine wpList_appI rfl _ _ rfl rfl oe rfl (o4.si.alloc _) (by omega) (by simp) ?_; intro v5 w5 o5 g5 hat; simp only [Nat.zero_add, List.nil_append] at o5; obtain ⟨A5, c5, rfl⟩ := o5.shape)
      have K6 := Blk.new w5 44 #[.int .i64 (xn : Int), .slice A5 k c5]
      have B5 := below_app ((Below.refl w4.heap.size w4).alloc (Nat.le_refl _) (.cells #[] 3)) oe (Nat.le_refl _) g5
      have b6 := beB0 w5 (.cells #[.int .i64 (xn : Int), .slice A5 k c5] 44)
      have B6 := below_step (below_step B4 B5) b6
      have o46 := (o4.below B5).below b6
      have o56 := o5.below b6
      have K36 := (K3.belowAll B5).belowAll b6
      have ap := OI.apart o4 o5
      have hz5 := B5.size
      have r6 := (r4.below B5).below b6
      clear B4 B5 b6 o4 o5 g5 hat oe K3 r4
      generalize w5.alloc (.cells #[.int .i64 (xn : Int), .slice A5 k c5] 44) = w6 at *
      obtain ⟨q0, q1, _, _⟩ := (K6).two
      obtain ⟨d0, d1, d2, d3⟩ := (K36).two
      go_region
      go_wp2_with fail
      obtain ⟨t0, t1, _, _⟩ := (((K36).set_ 0 (.int .i64 (xn : Int))).set_ 1 (.slice A5 k c5)).two
      exact bodyPost_ret (v := .tuple #[.slice A2 k c2, .agg #[.int .i64 (xn : Int), (.slice A5 k c5)]]) (by simp [results, Tryd.results32, go_sem, t0, t1]) rfl (drawM_end o46 o56 (by omega) (by omega) B6)
  · have x44 : ¬ (xn : Int) + 4 < 4 := by omega
    by_cases hk4 : k = 4
    · subst hk4
      go_wp2_with (at_builtin; refine wpList_appI rfl _ _ rfl rfl oe rfl (o4.si.alloc _) (by omega) (by simp) ?_; intro v5 w5 o5 g5 hat; simp only [Nat.zero_add, List.nil_append] at o5; obtain ⟨A5, c5, rfl⟩ := o5.shape)
      have K6 := Blk.new w5 44 #[.int .i64 ((xn : Int) + 4), .slice A5 4 c5]
      have B5 := below_app ((Below.refl w4.heap.size w4).alloc (Nat.le_refl _) (.cells #[] 3)) oe (Nat.le_refl _) g5
      have b6 := beB0 w5 (.cells #[.int .i64 ((xn : Int) + 4), .slice A5 4 c5] 44)
      have B6 := below_step (below_step B4 B5) b6
      have o46 := (o4.below B5).below b6
      have o56 := o5.below b6
      have K36 := (K3.belowAll B5).belowAll b6
      have ap := OI.apart o4 o5
      have hz5 := B5.size
      have r6 := (r4.below B5).below b6
      clear B4 B5 b6 o4 o5 g5 hat oe K3 r4
      generalize w5.alloc (.cells #[.int .i64 ((xn : Int) + 4), .slice A5 4 c5] 44) = w6 at *
      obtain ⟨q0, q1, _, _⟩ := (K6).two
      obtain ⟨d0, d1, d2, d3⟩ := (K36).two
      go_region
      go_wp2_with fail
      obtain ⟨t0, t1, _, _⟩ := (((K36).set_ 0 (.int .i64 ((xn : Int) + 4))).set_ 1 (.slice A5 4 c5)).two
      exact bodyPost_ret (v := .tuple #[.slice A2 4 c2, .agg #[.int .i64 ((xn : Int) + 4), (.slice A5 4 c5)]]) (by simp [results, Tryd.results32, go_sem, t0, t1]) rfl (drawM_end o46 o56 (by omega) (by omega) B6)
    · have hk4' : ((k : Int) == 4) = false := by simp; omega
      go_wp2_with (at_builtin; refine wpList_appI rfl _ _ rfl rfl oe rfl (o4.si.alloc _) (by omega) (by simp) ?_; intro v5 w5 o5 g5 hat; simp only [Nat.zero_add, List.nil_append] at o5; obtain ⟨A5, c5, rfl⟩ := o5.shape)
      have K6 := Blk.new w5 44 #[.int .i64 ((xn : Int) + 4), .slice A5 k c5]
      have B5 := below_app ((Below.refl w4.heap.size w4).alloc (Nat.le_refl _) (.cells #[] 3)) oe (Nat.le_refl _) g5
      have b6 := beB0 w5 (.cells #[.int .i64 ((xn : Int) + 4), .slice A5 k c5] 44)
      have B6 := below_step (below_step B4 B5) b6
      have o46 := (o4.below B5).below b6
      have o56 := o5.below b6
      have K36 := (K3.belowAll B5).belowAll b6
      have ap := OI.apart o4 o5
      have hz5 := B5.size
      have r6 := (r4.below B5).below b6
      clear B4 B5 b6 o4 o5 g5 hat oe K3 r4
      generalize w5.alloc (.cells #[.int .i64 ((xn : Int) + 4), .slice A5 k c5] 44) = w6 at *
      obtain ⟨q0, q1, _, _⟩ := (K6).two
      obtain ⟨d0, d1, d2, d3⟩ := (K36).two
      go_region
      go_wp2_with fail
      obtain ⟨t0, t1, _, _⟩ := (((K36).set_ 0 (.int .i64 ((xn : Int) + 4))).set_ 1 (.slice A5 k c5)).two
      exact bodyPost_ret (v := .tuple #[.slice A2 k c2, .agg #[.int .i64 ((xn : Int) + 4), (.slice A5 k c5)]]) (by simp [results, Tryd.results32, go_sem, t0, t1]) rfl (drawM_end o46 o56 (by omega) (by omega) B6)

end Go.Proofs.YtcoienlblhbkpaaDoor
