/- Merged (what the law reaches): Edg2. -/
import Derived.Test.YtcfkemchekmjbaaGreatDoorVzc
import Derived.Deep.DeepCutAuto
import Derived.Deep.RegionHeld3
namespace Go.Proofs.YtcfkemchekmjbaaGreatDoor
open Go.RowKit
section
variable {w : World} {bh bl : Nat} {A : Option Addr} {n c : Nat} {W W' : World} {v : Value} {k : Nat} {xs : List T3}
theorem EdS.keep (hS : EdS w bh bl A n c W v k xs) {g : Nat} {t : TypeId} {cs : Array Value} (hb : Blk W g t cs) (hc : Chg (PutS bl v) W W') (h1 : t ≠ 97) (h2 : t ≠ 146) : Blk W' g t cs :=
  hb.chg hc (fun h => by
    rcases h with h | h
    · have h3 := hS.hL; subst h; unfold Blk at hb h3
      rw [hb] at h3; injection h3 with h3; injection h3 with _ h4; exact h1 h4
    · exact o3_ne hS.row hb h2 h)
theorem EdS.keepOI (hS : EdS w bh bl A n c W v k xs) {B m : Nat} {u : Value} {ys : List Int} (ho : OI W B u m ys) (hc : Chg (PutS bl v) W W') : OI W' B u m ys :=
  ho.chg hc (fun g hg h => by
    rcases ho.1.2 with ⟨rfl, _⟩ | ⟨g1, cap, cur, rfl, _, hh, _⟩
    · simp [Value.ownBlock] at hg
    · have e : g1 = g := by have h : some g1 = some g := hg; injection h
      subst e
      have hb : Blk W g1 3 cur := hh
      rcases h with h | h
      · have h3 := hS.hL; rw [← h] at h3; unfold Blk at hb h3
        rw [hb] at h3; injection h3 with h3; injection h3 with _ h4; exact absurd h4 (by decide)
      · exact o3_ne hS.row hb (by decide) h)
theorem EdS.keepSO (hS : EdS w bh bl A n c W v k xs) {m : Nat} {u : Value} {ys : List T3} (ho : SO W u m ys) (hc : Chg (PutS bl v) W W') : SO W' u m ys := by
  obtain ⟨A', h1, h2, h3, h4⟩ := ho
  exact ⟨A', h1, h2, h3, fun hn => by obtain ⟨b, cur, e, hB, hcc⟩ := h4 hn; exact ⟨b, cur, e, hS.keep hB hc (by decide) (by decide), hcc⟩⟩
end
theorem wf_isW {ts : List Tx} (hh : histB ts = true) {key v : Int} {n : Nat} (h : IsW ts key v n) : wfW (key, v) ∧ 0 < v ∧ 0 ≤ key ∧ key ≤ 2 := by
  obtain ⟨t, ht, hm⟩ := h
  obtain ⟨j, hj⟩ := List.getElem?_of_mem hm
  have hop := txnB_opH ((histB_parts hh).2.1 t (List.mem_of_getElem? ht)) hj
  have hw := opB_wf hop
  unfold opB at hop
  simp only [Bool.and_eq_true, Bool.or_eq_true, inB_iff, decide_eq_true_eq, beq_iff_eq] at hop
  exact ⟨hw, by omega, hop.2.1⟩
theorem ord_isW {ts : List Tx} {os : Ls} (ho : ordersB ts os = true) {key : Nat} (hk : key < 3) {v : Int} (hv : v ∈ os.getD key []) : ∃ n, IsW ts key v n := by
  have hp := (ordersB_parts ho).2.2 key hk
  obtain ⟨n, t, ht, _, hl⟩ := mem_inst.1 (hp.mem_iff.1 hv)
  exact ⟨n, t, ht, (lastK_some hl).1⟩
theorem ord_len {ts : List Tx} {os : Ls} (ho : ordersB ts os = true) {key : Nat} (hk : key < 3) : (os.getD key []).length ≤ 6 := by
  obtain ⟨h1, _, hp⟩ := ordersB_parts ho
  rw [(hp key hk).length_eq]
  exact Nat.le_trans (instTo_len ts key ts.length) (histB_parts h1).1
theorem seeR_same {ts : List Tx} {os : List (List Int)} {k k' : Nat} (hk : k ≤ ts.length) (hk' : k' ≤ ts.length) (hl : (doneTo ts k).length = (doneTo ts k').length) (e : T3) : SeeR ts os k 0 e ↔ SeeR ts os k' 0 e := by
  have := doneTo_same (F := fun k => SeeR ts os k 0) (fun k t h1 h2 => funext fun e => propext (SeeR.skip h1 h2 e)) hk hk' hl
  have h2 : SeeR ts os k 0 = SeeR ts os k' 0 := this
  rw [h2]
theorem edR_iff {ts : List Tx} {n key : Nat} {x z : Int} {e : T3} : EdR ts n (x, (key : Int), z) e ↔ (e = (writerV ts key z, (n : Int), 2) ∧ PutP ts (writerV ts key z) n) := by
  unfold EdR
  constructor <;> rintro ⟨rfl, h⟩ <;> exact ⟨rfl, h⟩
theorem edO_some {ts : List Tx} {os : Ls} {n key : Nat} {x z v' : Int} {zs : List Int} (hg : os.getD key [] = zs) (h : nextV zs z = some v') (e : T3) : EdO ts os n (x, (key : Int), z) e ↔ (e = ((n : Int), writerV ts key v', 3) ∧ PutP ts n (writerV ts key v')) := by
  unfold EdO
  simp only [Int.toNat_natCast, hg, h]
  constructor
  · rintro ⟨⟨v'', h1, rfl⟩, h2⟩
    injection h1 with h1; subst h1
    exact ⟨rfl, h2⟩
  · rintro ⟨rfl, h2⟩
    exact ⟨⟨v', rfl, rfl⟩, h2⟩
theorem edO_none {ts : List Tx} {os : Ls} {n key : Nat} {x z : Int} {zs : List Int} (hg : os.getD key [] = zs) (h : nextV zs z = none) (e : T3) : ¬ EdO ts os n (x, (key : Int), z) e := by
  unfold EdO
  simp only [Int.toNat_natCast, hg, h]
  rintro ⟨⟨v'', h1, _⟩, _⟩
  cases h1
theorem edO_close {a b c d : Prop} (h : ¬ d) : (a ∨ b ∨ c) ↔ (a ∨ b ∨ c ∨ d) := by
  constructor
  · rintro (h | h | h)
    · exact .inl h
    · exact .inr (.inl h)
    · exact .inr (.inr (.inl h))
  · rintro (h1 | h1 | h1 | h1)
    · exact .inl h1
    · exact .inr (.inl h1)
    · exact .inr (.inr h1)
    · exact absurd h1 h
theorem idxOf_lt {z : Int} {i : Nat} {xs : List Int} (h : xs.idxOf? z = some i) : i < xs.length := (List.findIdx?_eq_some_iff_getElem.1 h).1
def EdR_ (w : World) (ts : List Tx) (os : Ls) (e : Ending) (w' : World) : Prop := ∃ A' k, e = .returned (.slice A' k k) ∧ k ≤ 144 ∧ R3 w' A' k (edgesL ts os) ∧ Below w.heap.size w w'
set_option maxRecDepth 100000 in
set_option maxHeartbeats 2000000 in
theorem impl_EdgesOf_c {A Ao : Option Addr} {n c no co : Nat} {ts : List Tx} {os : Ls} {w : World} (hr : RTs w A n ts) (hh : histB ts = true) (ho : RL w Ao no os) (hno : no ≤ co) :
    Calls Tryz.prog 58 #[.slice A n c, .slice Ao no co] w (EdR_ w ts os) := by
  obtain ⟨h6, hv, hnd⟩ := histB_parts hh
  have hl := hide hr.1
  have HH := hide hh; have HV := hide hv
  have hn6 : n ≤ 6 := by rw [← hl.out]; exact h6
  have b1 := (Below.refl w.heap.size w).alloc (Nat.le_refl _) (.cells #[.slice A n c] 27)
  have hH1 := Blk.new w 27 #[.slice A n c]
  have c1 := hH1.cell 0
  have hr1 := hr.below b1
  have ho1 := ho.below b1
  have hmf : ∀ (fn : Fn) (first cap : Array Value) (w : World), (Instr.makeFunc fn first cap).run Tryz.prog w = .ok (.func fn first cap) w := fun _ _ _ _ => rfl
  have HB1 := hide b1; have HH1 := hide hH1
  clear hv hnd h6 hh b1 hH1
  go_enter Tryz.func58, Tryz.ntmps58
  go_wp2_with fail
  refine (impl_OrdersValid_c hr1 HH.out ho1 hno).mono ?_
  rintro e w2 ⟨rfl, b2⟩
  have B2 := HB1.out.trans (b2.mono HB1.out.size)
  have H2 := HH1.out.belowAll b2
  clear c1 hr1 ho1 b2
  cases hord : ordersB ts os
  · have hf : edgesL ts os = [] := edgesL_no hord
    have F := hide hf
    clear hf hord
    go_wp2_with fail
    go_ret
    exact ⟨none, 0, rfl, by omega, by rw [F.out]; exact R3.nil, B2⟩
  · have HO := hide hord
    obtain ⟨_, hos3, hperm⟩ := ordersB_parts hord
    have hno3 : no = 3 := ho.1.symm.trans hos3
    subst hno3
    obtain ⟨W3, hW3⟩ : ∃ q, (w2.alloc (.cells #[] 146)).alloc (.cells #[.slice (some ⟨w2.heap.size, 0, none⟩) 0 0] 97) = q := ⟨_, rfl⟩
    have e3 : EdS w w.heap.size (w2.heap.size + 1) A n c W3 (.slice (some ⟨w2.heap.size, 0, none⟩) 0 0) 0 [] := by
      rw [← hW3]
      have hz := B2.size
      refine ⟨(H2.alloc _).alloc _, ?_, ((O3.empty 146 w2).mono hz).alloc _, (B2.alloc hz _).alloc (by simp; omega) _, by omega⟩
      have := Blk.new (w2.alloc (.cells #[] 146)) 97 #[.slice (some ⟨w2.heap.size, 0, none⟩) 0 0]
      rw [World.size_alloc] at this; exact this
    have E3 := hide e3; have HW3 := hide hW3
    have hz2 := B2.size
    clear e3 hW3 hord hos3 hperm B2 H2
    go_wp2_with fail
    rw [HW3.out]
    go_loopw [25] (fun i W => ∃ (q kk : Nat) (v : Value) (xs : List T3), i = .int .i64 q ∧ q ≤ 3 ∧ EdS w w.heap.size (w2.heap.size + 1) A n c W v kk xs ∧ kk ≤ q * 7 ∧ (∀ e, e ∈ xs ↔ SeenW ts os q 1 e)) (fun i _ => 3 - (intOf i).toNat)
    case atStart => exact ⟨0, 0, _, [], rfl, by omega, E3.out, by omega, fun e => ⟨fun h => by simp at h, fun h => absurd h (SeenW.zero (by omega) e)⟩⟩
    case round =>
      clear E3
      rename World => wr
      obtain ⟨q, kk, v, xs, rfl, hq, hE, hkk, hm⟩ := hrel
      have HE := hide hE; have HM := hide hm
      have bw := hE.bw
      clear hm
      by_cases hlt : q < 3
      · obtain ⟨bo, oo, zs, Bz, kz, dz, rfl, hbo, hzx, z0, hzd, hzm, hrz⟩ := ho.at_ hlt
        have e0 := (bw.cell (p := ⟨bo, oo + q, none⟩) hbo).trans z0
        have hgz : os.getD q [] = zs := by simp [List.getD, hzx]
        have HGZ := hide hgz
        have hkz : kz ≤ 6 := by have := ord_len HO.out hlt; rw [hgz] at this; have := hrz.1; omega
        have q0 : (0 : Int) ≤ q := by omega
        have q1 : (q : Int) < 3 := by omega
        clear hzx z0 hgz
        go_wp2_with fail
        go_loopw [9] (fun i W => ∃ (j kk : Nat) (v : Value) (xs : List T3), i = .int .i64 ((j : Int) + 1) ∧ j ≤ 6 ∧ EdS w w.heap.size (w2.heap.size + 1) A n c W v kk xs ∧ kk ≤ q * 7 + j ∧ (∀ e, e ∈ xs ↔ SeenW ts os q (j + 1) e)) (fun i _ => kz - (intOf i).toNat)
        case atStart => exact ⟨0, kk, v, xs, rfl, by omega, HE.out, by omega, HM.out⟩
        case round =>
          clear HE HM e0 hE bw
          rename World => wr2
          obtain ⟨j, kk, v, xs, rfl, hj, hE, hkk, hm⟩ := hrel
          have HE := hide hE; have HM := hide hm
          clear hm
          by_cases hjl : j + 1 < kz
          · obtain ⟨bz, oz, y1, rfl, hbz, hy1, r1⟩ := hrz.at_ (show j < kz by omega)
            obtain ⟨bz', oz', y2, ez, hbz', hy2, r2⟩ := hrz.at_ hjl
            injection ez with ez; injection ez with ez1 ez2; subst ez1; subst ez2
            have c1 := (hE.bw.cell (p := ⟨bz, oz + j, none⟩) hbz).trans r1
            have c2 := (hE.bw.cell (p := ⟨bz, oz + (j + 1), none⟩) hbz).trans r2
            obtain ⟨w1, hw1⟩ := ord_isW HO.out hlt (v := y1) (by rw [HGZ.out]; exact List.mem_of_getElem? hy1)
            obtain ⟨w2', hw2⟩ := ord_isW HO.out hlt (v := y2) (by rw [HGZ.out]; exact List.mem_of_getElem? hy2)
            have wf1 := hide (wf_isW HH.out hw1).1
            have wf2 := hide (wf_isW HH.out hw2).1
            have hst := SeenW.step (ts := ts) (os := os) (k := q) (i := j) (v := y1) (v' := y2) (by rw [HGZ.out]; exact hy1) (by rw [HGZ.out]; exact hy2)
            have HST := hide hst
            obtain ⟨f1, hf1⟩ : ∃ f, writerV ts q y1 = f := ⟨_, rfl⟩
            obtain ⟨f2, hf2⟩ : ∃ f, writerV ts q y2 = f := ⟨_, rfl⟩
            have lf1 : f1 < n := by rw [← hf1, ← hl.out]; exact (writerV_lt ts q y1).2
            have lf2 : f2 < n := by rw [← hf2, ← hl.out]; exact (writerV_lt ts q y2).2
            have HF1 := hide hf1; have HF2 := hide hf2
            have hc : ∀ (V : World) (v : Value) (kk : Nat) (xs : List T3), EdS w w.heap.size (w2.heap.size + 1) A n c V v kk xs → (V.cell? ⟨w.heap.size, 0, none⟩ = some (.slice A n c) ∧ V.cell? ⟨bz, oz + j, none⟩ = some (.int .i64 y1) ∧ V.cell? ⟨bz, oz + (j + 1), none⟩ = some (.int .i64 y2)) := fun V v kk xs h =>
              ⟨h.hH.cell 0, (h.bw.cell (p := ⟨bz, oz + j, none⟩) hbz).trans r1, (h.bw.cell (p := ⟨bz, oz + (j + 1), none⟩) hbz).trans r2⟩
            have HC := hide hc
            have EZ := hE.below ((Below.refl wr2.heap.size wr2).drew)
            have j0 : (0 : Int) ≤ j := by omega
            have j1 : (j : Int) + 1 < kz := by omega
            have j2 : (j : Int) < kz := by omega
            have j3 : IntKind.i64.wrap ((j : Int) + 1 - 1) = j := by rw [show (j : Int) + 1 - 1 = j by omega]; rw [IntKind.wrap_i64]; omega
            have j6 : IntKind.i64.wrap (j : Int) = j := by rw [IntKind.wrap_i64]; omega
            have j5 : (0 : Int) ≤ (j : Int) + 1 := by omega
            have j4 : ((j : Int) + 1).toNat = j + 1 := by omega
            have hkb : kk ≤ 10000 := by omega
            clear hc r1 r2 hy1 hy2 hst hf1 hf2 hw1 hw2 hE
            go_wp2_with fail
            refine wp_region_held_drew (S := (fun V => V.cell? ⟨w.heap.size, 0, none⟩ = some (.slice A n c) ∧ V.cell? ⟨bz, oz + j, none⟩ = some (.int .i64 y1) ∧ V.cell? ⟨bz, oz + (j + 1), none⟩ = some (.int .i64 y2))) (by kernel_rfl) ?_ (fun hHeld => ?_)
            · exact HC.out _ _ _ _ EZ
            refine wpAnyH_take (i := 0) (v := ?vv1_0) (by rw [List.getElem?_toArray]; exact rfl) (by kernel_rfl) (by kernel_rfl) (by kernel_rfl) (by intro _ _ _ h; exact h) (Or.inl ⟨by rfl, ?hy1_0⟩) hHeld ?rest1_0
            case' hy1_0 => (intro w hSw; (try dsimp only at hSw); go_simp; try (with_reducible rfl))
            (try simp only [Act.put, List.setIfInBounds_toArray, List.set_cons_zero, List.set_cons_succ])
            refine wpAnyH_take (i := 1) (v := ?vv1_1) (by rw [List.getElem?_toArray]; exact rfl) (by kernel_rfl) (by kernel_rfl) (by kernel_rfl) (by intro _ _ _ h; exact h) (Or.inl ⟨by rfl, ?hy1_1⟩) hHeld ?rest1_1
            case' hy1_1 => (intro w hSw; (try dsimp only at hSw); go_simp; try (with_reducible rfl))
            (try simp only [Act.put, List.setIfInBounds_toArray, List.set_cons_zero, List.set_cons_succ])
            refine wpAnyH_take (i := 2) (v := ?vv1_2) (by rw [List.getElem?_toArray]; exact rfl) (by kernel_rfl) (by kernel_rfl) (by kernel_rfl) (by intro _ _ _ h; exact h) (Or.inl ⟨by rfl, ?hy1_2⟩) hHeld ?rest1_2
            case' hy1_2 => (intro w hSw; (try dsimp only at hSw); go_simp; try (with_reducible rfl))
            (try simp only [Act.put, List.setIfInBounds_toArray, List.set_cons_zero, List.set_cons_succ])
            refine wpAnyH_take (i := 3) (v := ?vv1_3) (by rw [List.getElem?_toArray]; exact rfl) (by kernel_rfl) (by kernel_rfl) (by kernel_rfl) (by intro _ _ _ h; exact h) (Or.inl ⟨by rfl, ?hy1_3⟩) hHeld ?rest1_3
            case' hy1_3 => (intro w hSw; (try dsimp only at hSw); go_simp; try (with_reducible rfl))
            (try simp only [Act.put, List.setIfInBounds_toArray, List.set_cons_zero, List.set_cons_succ])
            refine wpAnyH_take (i := 4) (v := ?vv1_4) (by rw [List.getElem?_toArray]; exact rfl) (by kernel_rfl) (by kernel_rfl) (by kernel_rfl) (by intro _ _ _ h; exact h) (Or.inl ⟨by rfl, ?hy1_4⟩) hHeld ?rest1_4
            case' hy1_4 => (intro w hSw; (try dsimp only at hSw); go_simp; try (with_reducible rfl))
            (try simp only [Act.put, List.setIfInBounds_toArray, List.set_cons_zero, List.set_cons_succ])
            refine wpAnyH_take (i := 5) (v := ?vv1_5) (by rw [List.getElem?_toArray]; exact rfl) (by kernel_rfl) (by kernel_rfl) (by kernel_rfl) (by intro _ _ _ h; exact h) (Or.inl ⟨by rfl, ?hy1_5⟩) hHeld ?rest1_5
            case' hy1_5 => (intro w hSw; (try dsimp only at hSw); go_simp; try (with_reducible rfl))
            (try simp only [Act.put, List.setIfInBounds_toArray, List.set_cons_zero, List.set_cons_succ])
            refine wpAnyH_take (i := 6) (v := ?vv1_6) (by rw [List.getElem?_toArray]; exact rfl) (by kernel_rfl) (by kernel_rfl) (by kernel_rfl) (by intro _ _ _ h; exact h) (Or.inl ⟨by rfl, ?hy1_6⟩) hHeld ?rest1_6
            case' hy1_6 => (intro w hSw; (try dsimp only at hSw); go_simp; try (with_reducible rfl))
            (try simp only [Act.put, List.setIfInBounds_toArray, List.set_cons_zero, List.set_cons_succ])
            refine wpAnyH_take (i := 7) (v := ?vv1_7) (by rw [List.getElem?_toArray]; exact rfl) (by kernel_rfl) (by kernel_rfl) (by kernel_rfl) (by intro _ _ _ h; exact h) (Or.inl ⟨by rfl, ?hy1_7⟩) hHeld ?rest1_7
            case' hy1_7 => (intro w hSw; (try dsimp only at hSw); go_simp; try (with_reducible rfl))
            (try simp only [Act.put, List.setIfInBounds_toArray, List.set_cons_zero, List.set_cons_succ])
            refine wpAnyH_take (i := 9) (v := ?vv1_9) (by rw [List.getElem?_toArray]; exact rfl) (by kernel_rfl) (by kernel_rfl) (by kernel_rfl) (by intro _ _ _ h; exact h) (Or.inl ⟨by rfl, ?hy1_9⟩) hHeld ?rest1_9
            case' hy1_9 => (intro w hSw; (try dsimp only at hSw); go_simp; try (with_reducible rfl))
            (try simp only [Act.put, List.setIfInBounds_toArray, List.set_cons_zero, List.set_cons_succ])
            refine wpAnyH_take (i := 10) (v := ?vv1_10) (by rw [List.getElem?_toArray]; exact rfl) (by kernel_rfl) (by kernel_rfl) (by kernel_rfl) (by intro _ _ _ h; exact h) (Or.inl ⟨by rfl, ?hy1_10⟩) hHeld ?rest1_10
            case' hy1_10 => (intro w hSw; (try dsimp only at hSw); go_simp; try (with_reducible rfl))
            (try simp only [Act.put, List.setIfInBounds_toArray, List.set_cons_zero, List.set_cons_succ])
            refine wpAnyH_take (i := 11) (v := ?vv1_11) (by rw [List.getElem?_toArray]; exact rfl) (by kernel_rfl) (by kernel_rfl) (by kernel_rfl) (by intro _ _ _ h; exact h) (Or.inl ⟨by rfl, ?hy1_11⟩) hHeld ?rest1_11
            case' hy1_11 => (intro w hSw; (try dsimp only at hSw); go_simp; try (with_reducible rfl))
            (try simp only [Act.put, List.setIfInBounds_toArray, List.set_cons_zero, List.set_cons_succ])
            refine wpAnyH_take (i := 12) (v := ?vv1_12) (by rw [List.getElem?_toArray]; exact rfl) (by kernel_rfl) (by kernel_rfl) (by kernel_rfl) (by intro _ _ _ h; exact h) (Or.inl ⟨by rfl, ?hy1_12⟩) hHeld ?rest1_12
            case' hy1_12 => (intro w hSw; (try dsimp only at hSw); go_simp; try (with_reducible rfl))
            (try simp only [Act.put, List.setIfInBounds_toArray, List.set_cons_zero, List.set_cons_succ])
            refine wpAnyH_take (i := 13) (v := ?vv1_13) (by rw [List.getElem?_toArray]; exact rfl) (by kernel_rfl) (by kernel_rfl) (by kernel_rfl) (by intro _ _ _ h; exact h) (Or.inl ⟨by rfl, ?hy1_13⟩) hHeld ?rest1_13
            case' hy1_13 => (intro w hSw; (try dsimp only at hSw); go_simp; try (with_reducible rfl))
            (try simp only [Act.put, List.setIfInBounds_toArray, List.set_cons_zero, List.set_cons_succ])
            refine wpAnyH_take (i := 14) (v := ?vv1_14) (by rw [List.getElem?_toArray]; exact rfl) (by kernel_rfl) (by kernel_rfl) (by kernel_rfl) (by intro _ _ _ h; exact h) (Or.inl ⟨by rfl, ?hy1_14⟩) hHeld ?rest1_14
            case' hy1_14 => (intro w hSw; (try dsimp only at hSw); go_simp; try (with_reducible rfl))
            (try simp only [Act.put, List.setIfInBounds_toArray, List.set_cons_zero, List.set_cons_succ])
            refine wpAnyH_ready (rs := [8]) (by kernel_rfl) (by simp) ?_
            refine AllReadyH.cons (by rw [List.getElem?_toArray]; exact rfl) (fun K hK => ?_) AllReadyH.nil
            go_simp
            go_at_call 113
            refine (WriterOf_c (hr.below EZ.bw) HH.out wf1.out).mono ?_
            rintro e w' ⟨rfl, bq⟩
            replace EZ := EZ.below bq
            rw [HF1.out]
            refine hK.out _ _ ?_ (fun hHeld => ?_)
            · exact HC.out _ _ _ _ EZ
            clear hK K
            (try simp only [Act.put, List.setIfInBounds_toArray, List.set_cons_zero, List.set_cons_succ])
            refine wpAnyH_ready (rs := [15]) (by kernel_rfl) (by simp) ?_
            refine AllReadyH.cons (by rw [List.getElem?_toArray]; exact rfl) (fun K hK => ?_) AllReadyH.nil
            go_simp
            go_at_call 113
            refine (WriterOf_c (hr.below EZ.bw) HH.out wf2.out).mono ?_
            rintro e w' ⟨rfl, bq⟩
            replace EZ := EZ.below bq
            rw [HF2.out]
            refine hK.out _ _ ?_ (fun hHeld => ?_)
            · exact HC.out _ _ _ _ EZ
            clear hK K
            (try simp only [Act.put, List.setIfInBounds_toArray, List.set_cons_zero, List.set_cons_succ])
            refine wpAnyH_ready (rs := [16]) (by kernel_rfl) (by simp) ?_
            refine AllReadyH.cons (by rw [List.getElem?_toArray]; exact rfl) (fun K hK => ?_) AllReadyH.nil
            go_simp
            go_at_call 112
            refine (put_c EZ hr hkb (by omega) (by omega)).mono ?_
            rintro e w' ⟨⟨_, rfl⟩, v', kk', xs', EZ', hk', hm', hch⟩
            have EZ := EZ'
            refine hK.out _ _ ?_ (fun hHeld => ?_)
            · exact HC.out _ _ _ _ EZ
            clear hK K
            (try simp only [Act.put, List.setIfInBounds_toArray, List.set_cons_zero, List.set_cons_succ])
            refine wpAnyH_done (by kernel_rfl) ?_ _
            go_wp2_with fail
            go_roundw
            case rel => exact ⟨j + 1, kk', v', xs', by go_num, by omega, EZ, by omega, fun e => by rw [hm' e, HM.out e]; rw [HST.out e, HF1.out, HF2.out]; exact ⟨fun h => h.imp id (fun h => ⟨h.1, by rw [h.1]; exact h.2⟩), fun h => h.imp id (fun h => ⟨h.1, by rw [h.1] at h; exact h.2⟩)⟩⟩
            case measure => simp [intOf]; omega
          · have hng : ¬ (j : Int) + 1 < kz := by omega
            have hnx := hide (fun e => (SeenW.next (ts := ts) (os := os) (k := q) (i := j + 1) (by rw [HGZ.out, hrz.1]; omega) e))
            clear hE
            go_wp2_with fail
            go_roundw
            case rel => exact ⟨q + 1, kk, v, xs, by go_num, by omega, HE.out, by omega, fun e => by rw [hnx.out e]; exact HM.out e⟩
            case measure => simp [intOf]; omega
      · obtain rfl : q = 3 := by omega
        have hm0 : ∀ e, e ∈ xs ↔ (SeenW ts os 3 0 e ∨ SeeR ts os 0 0 e) := fun e => by
          rw [HM.out e]
          constructor
          · rintro ⟨key, j, v, v', h, h1⟩
            exact .inl ⟨key, j, v, v', by omega, h1⟩
          · rintro (⟨key, j, v, v', h, h1⟩ | h)
            · exact ⟨key, j, v, v', by omega, h1⟩
            · exact absurd h (SeeR.zero e)
        have HM0 := hide hm0
        have g1 := hE.hH.cell 0
        have hrr := hide (hr.below bw)
        clear hm0 HM
        go_wp2_with fail
        refine (impl_done_c hrr.out (by omega)).mono ?_
        rintro e w3 ⟨dv, dk, rfl, od, b3⟩
        have hE3 := hE.below b3
        have OD := hide (od.mono (B' := w.heap.size) bw.size)
        obtain ⟨Ad, cd, rfl⟩ := od.shape
        have HE3 := hide hE3
        have hkk21 : kk ≤ 21 := by omega
        clear od b3 g1 hrr hE HE bw hE3
        go_wp2_with fail
        go_loopw [57] (fun i W => ∃ (j k kk : Nat) (v : Value) (xs : List T3), i = .int .i64 j ∧ j ≤ dk ∧ EdS w w.heap.size (w2.heap.size + 1) A n c W v kk xs ∧ OI W w.heap.size (.slice Ad dk cd) dk (doneL ts) ∧ k ≤ ts.length ∧ (doneTo ts k).length = j ∧ kk ≤ 21 + 12 * j ∧ (∀ e, e ∈ xs ↔ (SeenW ts os 3 0 e ∨ SeeR ts os k 0 e))) (fun i _ => dk - (intOf i).toNat)
        case atStart => exact ⟨0, 0, kk, v, xs, rfl, Nat.zero_le _, HE3.out, OD.out, Nat.zero_le _, rfl, by omega, HM0.out⟩
        case round =>
          clear HE3 OD HM0 hkk21
          rename World => wr
          obtain ⟨j, k, kk, v, xs, rfl, hjd, hE, od, hkl, hjk, hkk, hm⟩ := hrel
          have HE := hide hE; have HM := hide hm; have HJK := hide hjk; have HOD := hide od
          obtain ⟨Ad', cd', ed, hdc, hdm, hrd⟩ := od.si
          obtain ⟨rfl, rfl⟩ : Ad = Ad' ∧ cd = cd' := by simpa using ed
          have hdl := hide hrd.len
          have bw := hE.bw
          clear hm hjk ed od
          by_cases hlt : j < dk
          · obtain ⟨b, off, x, rfl, hbb, hx, hcd⟩ := hrd.at_ hlt
            obtain ⟨d, t, rfl, ht, htd, hd1, hd2⟩ := doneL_at hx
            have hdn : d < n := by have := (List.getElem?_eq_some_iff.1 ht).1; have := hl.out; omega
            have hsd : ∀ e, e ∈ xs ↔ (SeenW ts os 3 0 e ∨ SeeR ts os d 0 e) := fun e => by rw [HM.out e, seeR_same hkl (by have := hl.out; omega) (HJK.out.trans hd1.symm)]
            obtain ⟨bt, ot, f, ys, dn, B, kq, dd, rfl, hbt, hxt, q0, q1, q2, hkd, hdm2, hry⟩ := hr.at_ hdn
            obtain rfl : (f, ys, dn) = t := by rw [ht] at hxt; injection hxt with hxt; exact hxt.symm
            have hv1 := HV.out _ (List.mem_of_getElem? ht)
            have e0 := (bw.cell (p := ⟨bt, ot + d * 3, none⟩) hbt).trans q0
            have e1 := (bw.cell (p := ⟨bt, ot + d * 3 + 1, none⟩) hbt).trans q1
            have e2 := (bw.cell (p := ⟨bt, ot + d * 3 + 2, none⟩) hbt).trans q2
            have g1 := hE.hH.cell 0
            have h6y : kq ≤ 6 := by have h1 := txnB_lenH hv1; have h2 := hry.len; omega
            have hj6 : j ≤ 6 := by rw [← hd1]; have := doneTo_len ts d; omega
            have hops : ∀ o ∈ ys, opB o = true := fun o ho => by
              obtain ⟨i, hi⟩ := List.getElem?_of_mem ho
              obtain ⟨x, y, z⟩ := o
              exact txnB_all hv1 hi
            have hk3 : ∀ o ∈ ys, 0 ≤ o.2.1 ∧ o.2.1 ≤ 2 := fun o ho => by
              have := hops o ho
              unfold opB at this
              simp only [Bool.and_eq_true, inB_iff] at this
              exact ⟨by omega, by omega⟩
            have s3 : S3 wr (.slice B kq dd) kq ys := (S3.of_args hkd (by omega) hry).below bw
            have HD2 := hide hd2; have HV1 := hide hv1; have HSD := hide hsd; have HT := hide ht; have HOPS := hide hops
            have HDL : Hid (d + 1 ≤ ts.length) := hide (by have := hl.out; omega)
            have j0 : (0 : Int) ≤ j := by omega
            have j2 : (j : Int) < dk := by omega
            have d0 : (0 : Int) ≤ d := by omega
            have d2 : (d : Int) < n := by omega
            clear hx hd1 hd2 hv1 q0 q1 q2 ht hxt hsd hops hrd
            go_wp2_with fail
            refine (firstReads_x s3 h6y hk3).mono ?_
            rintro e w5 ⟨A5, n5, rfl, hn5, so5, b5⟩
            have hE5 := hE.below b5
            have HE5 := hide hE5; have SO5 := hide so5; have OD5 := hide (HOD.out.below b5)
            have n56 : n5 ≤ 6 := by omega
            clear e0 e1 e2 g1 hcd s3 hk3 HOD b5 so5 hE5 hE HE bw
            go_wp2_with fail
            go_loopw [67] (fun i W => ∃ (i' kk' : Nat) (v : Value) (xs : List T3), i = .int .i64 i' ∧ i' ≤ n5 ∧ EdS w w.heap.size (w2.heap.size + 1) (some ⟨bt, ot, none⟩) n c W v kk' xs ∧ SO W (.slice A5 n5 n5) n5 (firstR ys) ∧ OI W w.heap.size (.slice (some ⟨b, off, none⟩) dk cd) dk (doneL ts) ∧ kk' ≤ kk + 2 * i' ∧ (∀ e, e ∈ xs ↔ (SeenW ts os 3 0 e ∨ SeeR ts os d i' e))) (fun i _ => n5 - (intOf i).toNat)
            case atStart => exact ⟨0, kk, v, xs, rfl, Nat.zero_le _, HE5.out, SO5.out, OD5.out, by omega, HSD.out⟩
            case round =>
              clear HE5 SO5 OD5 HSD HM
              rename World => wr2
              obtain ⟨i', kk', v, xs, rfl, hin, hE, so, od, hkk', hm⟩ := hrel
              have HE := hide hE; have HM := hide hm; have HSO := hide so; have HOD := hide od
              obtain ⟨A5', e5, h5m, h5r⟩ := so.s3
              obtain rfl : A5 = A5' := by simpa using e5
              have h5l := hide h5r.len
              have bw := hE.bw
              clear e5 hm so od
              by_cases hil : i' < n5
              · obtain ⟨b5, off5, x, y, z, rfl, hb5, hx, p0, p1, p2⟩ := h5r.at_ hil
                have hop := HOPS.out (x, y, z) (by obtain ⟨i, hi, _⟩ := mem_firstR.1 (List.mem_of_getElem? hx); exact List.mem_of_getElem? hi)
                have wf0 := hide (opB_wf hop)
                have hy3 : 0 ≤ y ∧ y ≤ 2 ∧ 0 ≤ z := by
                  unfold opB at hop
                  simp only [Bool.and_eq_true, Bool.or_eq_true, inB_iff, decide_eq_true_eq, beq_iff_eq] at hop
                  omega
                obtain ⟨key, rfl⟩ : ∃ key : Nat, y = key := ⟨y.toNat, by omega⟩
                have hkey : key < 3 := by omega
                obtain ⟨bo, oo, zs, Bz, kz, dz, rfl, hbo, hzx, z0, hzd, hzm, hrz⟩ := ho.at_ hkey
                have hgz : os.getD key [] = zs := by simp [List.getD, hzx]
                have HGZ := hide hgz
                have hkz : kz ≤ 6 := by have := ord_len HO.out hkey; rw [hgz] at this; have := hrz.1; omega
                have hzl := hide hrz.1
                have HST := hide (fun e => SeeR.step (os := os) HT.out htd hx e)
                obtain ⟨f0, hf0⟩ : ∃ f, writerV ts key z = f := ⟨_, rfl⟩
                have lf0 : f0 < n := by rw [← hf0, ← hl.out]; exact (writerV_lt ts key z).2
                have HF0 := hide hf0
                have b1 : Below wr2.heap.size wr2 (wr2.alloc (.cells #[.int .i64 x, .int .i64 (key : Int), .int .i64 z] 61)) := (Below.refl wr2.heap.size wr2).alloc (Nat.le_refl _) _
                have EA := hide (hE.below b1); have SA := hide (HSO.out.below b1); have DA := hide (HOD.out.below b1)
                have KA := hide (Blk.new wr2 61 #[.int .i64 x, .int .i64 (key : Int), .int .i64 z])
                have g1 := (hE.below b1).hH.cell 0
                have k0 : (0 : Int) ≤ i' := by omega
                have k2 : (i' : Int) < n5 := by omega
                have hkb : kk' ≤ 10000 := by omega
                have key0 : (0 : Int) ≤ key := by omega
                have key2 : (key : Int) < 3 := by omega
                clear hx hop hzx hgz hf0 b1 hE HE hil h5r HSO HOD hy3
                go_wp2_with fail
                refine (WriterOf_c (hr.below EA.out.bw) HH.out wf0.out).mono ?_
                rintro e w6 ⟨rfl, b6⟩
                rw [HF0.out]
                have EB := EA.out.below b6; have KB := KA.out.belowAll b6; have SB := SA.out.below b6; have DB := DA.out.below b6
                clear EA KA SA DA b6 g1
                go_wp2_with fail
                refine (put_c EB hr hkb (by omega) (by omega)).mono ?_
                rintro e w7 ⟨⟨_, rfl⟩, v7, kk7, xs7, EC, hk7, hm7, hch⟩
                have KC := EB.keep KB hch (by decide) (by decide); have SC := hide (EB.keepSO SB hch); have DC := hide (EB.keepOI DB hch)
                have m1 := KC.cell 1; have m2 := KC.cell 2
                have m0 := (EC.bw.cell (p := ⟨bo, oo + key, none⟩) hbo).trans z0
                have HM7 : Hid (∀ e, e ∈ xs7 ↔ (SeenW ts os 3 0 e ∨ SeeR ts os d i' e ∨ EdR ts d (x, (key : Int), z) e)) := hide (fun e => by rw [hm7 e, HM.out e, edR_iff, HF0.out, or_assoc])
                have HEC := hide EC; have HKC := hide KC
                clear hch EB KB SB DB hm7 HM z0 KC EC
                by_cases hz0 : z = 0
                · have hzb : (z != 0) = false := by simpa using hz0
                  have NX0 := hide (show nextV zs z = zs[0]? by unfold nextV; rw [if_pos hz0])
                  by_cases hak : 0 < kz
                  · obtain ⟨bz, oz, y3, rfl, hbz, hy3, r3⟩ := hrz.at_ hak
                    obtain ⟨w3', hw3⟩ := ord_isW HO.out hkey (v := y3) (by rw [HGZ.out]; exact List.mem_of_getElem? hy3)
                    have wf3 := hide (wf_isW HH.out hw3).1
                    obtain ⟨f3, hf3⟩ : ∃ f, writerV ts key y3 = f := ⟨_, rfl⟩
                    have lf3 : f3 < n := by rw [← hf3, ← hl.out]; exact (writerV_lt ts key y3).2
                    have HF3 := hide hf3
                    have hc : ∀ (V : World) (v : Value) (kk : Nat) (xs : List T3), EdS w w.heap.size (w2.heap.size + 1) (some ⟨bt, ot, none⟩) n c V v kk xs → Blk V wr2.heap.size 61 #[.int .i64 x, .int .i64 (key : Int), .int .i64 z] → (V.cell? ⟨w.heap.size, 0, none⟩ = some (.slice (some ⟨bt, ot, none⟩) n c) ∧ V.cell? ⟨wr2.heap.size, 1, none⟩ = some (.int .i64 (key : Int)) ∧ V.cell? ⟨bz, oz, none⟩ = some (.int .i64 y3)) := fun V v kk xs h hk =>
                      ⟨h.hH.cell 0, hk.cell 1, (h.bw.cell (p := ⟨bz, oz, none⟩) hbz).trans r3⟩
                    have HC := hide hc
                    have HEO := hide (edO_some (ts := ts) (n := d) (x := x) HGZ.out (NX0.out.trans hy3))
                    have EZ := HEC.out.below ((Below.refl w7.heap.size w7).drew)
                    have KZ := HKC.out.belowAll ((Below.refl w7.heap.size w7).drew)
                    have SZ := SC.out.below ((Below.refl w7.heap.size w7).drew)
                    have DZ := DC.out.below ((Below.refl w7.heap.size w7).drew)
                    have a0 : (0 : Int) ≤ (0 : Int) := by omega
                    have a1 : (0 : Int) < (kz : Int) := by omega
                    have a2 : ((0 : Int) : Int).toNat = 0 := by omega
                    have hkb2 : kk7 ≤ 10000 := by omega
                    clear hc hw3 hf3 r3 hy3 HEC HKC SC DC
                    go_wp2_with fail
                    refine wp_region_held_drew (S := (fun V => V.cell? ⟨w.heap.size, 0, none⟩ = some (.slice (some ⟨bt, ot, none⟩) n c) ∧ V.cell? ⟨wr2.heap.size, 1, none⟩ = some (.int .i64 (key : Int)) ∧ V.cell? ⟨bz, oz, none⟩ = some (.int .i64 y3))) (by kernel_rfl) ?_ (fun hHeld => ?_)
                    · exact HC.out _ _ _ _ EZ KZ
                    refine wpAnyH_take (i := 0) (v := ?vv2_0) (by rw [List.getElem?_toArray]; exact rfl) (by kernel_rfl) (by kernel_rfl) (by kernel_rfl) (by intro _ _ _ h; exact h) (Or.inl ⟨by rfl, ?hy2_0⟩) hHeld ?rest2_0
                    case' hy2_0 => (intro w hSw; (try dsimp only at hSw); go_simp; try (with_reducible rfl))
                    (try simp only [Act.put, List.setIfInBounds_toArray, List.set_cons_zero, List.set_cons_succ])
                    refine wpAnyH_take (i := 1) (v := ?vv2_1) (by rw [List.getElem?_toArray]; exact rfl) (by kernel_rfl) (by kernel_rfl) (by kernel_rfl) (by intro _ _ _ h; exact h) (Or.inl ⟨by rfl, ?hy2_1⟩) hHeld ?rest2_1
                    case' hy2_1 => (intro w hSw; (try dsimp only at hSw); go_simp; try (with_reducible rfl))
                    (try simp only [Act.put, List.setIfInBounds_toArray, List.set_cons_zero, List.set_cons_succ])
                    refine wpAnyH_take (i := 2) (v := ?vv2_2) (by rw [List.getElem?_toArray]; exact rfl) (by kernel_rfl) (by kernel_rfl) (by kernel_rfl) (by intro _ _ _ h; exact h) (Or.inl ⟨by rfl, ?hy2_2⟩) hHeld ?rest2_2
                    case' hy2_2 => (intro w hSw; (try dsimp only at hSw); go_simp; try (with_reducible rfl))
                    (try simp only [Act.put, List.setIfInBounds_toArray, List.set_cons_zero, List.set_cons_succ])
                    refine wpAnyH_take (i := 3) (v := ?vv2_3) (by rw [List.getElem?_toArray]; exact rfl) (by kernel_rfl) (by kernel_rfl) (by kernel_rfl) (by intro _ _ _ h; exact h) (Or.inl ⟨by rfl, ?hy2_3⟩) hHeld ?rest2_3
                    case' hy2_3 => (intro w hSw; (try dsimp only at hSw); go_simp; try (with_reducible rfl))
                    (try simp only [Act.put, List.setIfInBounds_toArray, List.set_cons_zero, List.set_cons_succ])
                    refine wpAnyH_take (i := 4) (v := ?vv2_4) (by rw [List.getElem?_toArray]; exact rfl) (by kernel_rfl) (by kernel_rfl) (by kernel_rfl) (by intro _ _ _ h; exact h) (Or.inl ⟨by rfl, ?hy2_4⟩) hHeld ?rest2_4
                    case' hy2_4 => (intro w hSw; (try dsimp only at hSw); go_simp; try (with_reducible rfl))
                    (try simp only [Act.put, List.setIfInBounds_toArray, List.set_cons_zero, List.set_cons_succ])
                    refine wpAnyH_take (i := 5) (v := ?vv2_5) (by rw [List.getElem?_toArray]; exact rfl) (by kernel_rfl) (by kernel_rfl) (by kernel_rfl) (by intro _ _ _ h; exact h) (Or.inl ⟨by rfl, ?hy2_5⟩) hHeld ?rest2_5
                    case' hy2_5 => (intro w hSw; (try dsimp only at hSw); go_simp; try (with_reducible rfl))
                    (try simp only [Act.put, List.setIfInBounds_toArray, List.set_cons_zero, List.set_cons_succ])
                    refine wpAnyH_take (i := 6) (v := ?vv2_6) (by rw [List.getElem?_toArray]; exact rfl) (by kernel_rfl) (by kernel_rfl) (by kernel_rfl) (by intro _ _ _ h; exact h) (Or.inl ⟨by rfl, ?hy2_6⟩) hHeld ?rest2_6
                    case' hy2_6 => (intro w hSw; (try dsimp only at hSw); go_simp; try (with_reducible rfl))
                    (try simp only [Act.put, List.setIfInBounds_toArray, List.set_cons_zero, List.set_cons_succ])
                    refine wpAnyH_take (i := 7) (v := ?vv2_7) (by rw [List.getElem?_toArray]; exact rfl) (by kernel_rfl) (by kernel_rfl) (by kernel_rfl) (by intro _ _ _ h; exact h) (Or.inl ⟨by rfl, ?hy2_7⟩) hHeld ?rest2_7
                    case' hy2_7 => (intro w hSw; (try dsimp only at hSw); go_simp; try (with_reducible rfl))
                    (try simp only [Act.put, List.setIfInBounds_toArray, List.set_cons_zero, List.set_cons_succ])
                    refine wpAnyH_take (i := 8) (v := ?vv2_8) (by rw [List.getElem?_toArray]; exact rfl) (by kernel_rfl) (by kernel_rfl) (by kernel_rfl) (by intro _ _ _ h; exact h) (Or.inl ⟨by rfl, ?hy2_8⟩) hHeld ?rest2_8
                    case' hy2_8 => (intro w hSw; (try dsimp only at hSw); go_simp; try (with_reducible rfl))
                    (try simp only [Act.put, List.setIfInBounds_toArray, List.set_cons_zero, List.set_cons_succ])
                    refine wpAnyH_ready (rs := [9]) (by kernel_rfl) (by simp) ?_
                    refine AllReadyH.cons (by rw [List.getElem?_toArray]; exact rfl) (fun K hK => ?_) AllReadyH.nil
                    go_simp
                    go_at_call 113
                    refine (WriterOf_c (hr.below EZ.bw) HH.out wf3.out).mono ?_
                    rintro e w' ⟨rfl, bq⟩
                    replace KZ := KZ.belowAll bq
                    replace SZ := SZ.below bq
                    replace DZ := DZ.below bq
                    replace EZ := EZ.below bq
                    rw [HF3.out]
                    refine hK.out _ _ ?_ (fun hHeld => ?_)
                    · exact HC.out _ _ _ _ EZ KZ
                    clear hK K
                    (try simp only [Act.put, List.setIfInBounds_toArray, List.set_cons_zero, List.set_cons_succ])
                    refine wpAnyH_ready (rs := [10]) (by kernel_rfl) (by simp) ?_
                    refine AllReadyH.cons (by rw [List.getElem?_toArray]; exact rfl) (fun K hK => ?_) AllReadyH.nil
                    go_simp
                    go_at_call 112
                    refine (put_c EZ hr hkb2 (by omega) (by omega)).mono ?_
                    rintro e w' ⟨⟨_, rfl⟩, v8, kk8, xs8, EZ', hk8, hm8, hch⟩
                    replace KZ := EZ.keep KZ hch (by decide) (by decide)
                    replace SZ := EZ.keepSO SZ hch
                    replace DZ := EZ.keepOI DZ hch
                    have EZ := EZ'
                    refine hK.out _ _ ?_ (fun hHeld => ?_)
                    · exact HC.out _ _ _ _ EZ KZ
                    clear hK K
                    (try simp only [Act.put, List.setIfInBounds_toArray, List.set_cons_zero, List.set_cons_succ])
                    refine wpAnyH_done (by kernel_rfl) ?_ _
                    go_wp2_with fail
                    go_roundw
                    case rel => exact ⟨i' + 1, kk8, v8, xs8, by go_num, by omega, EZ, SZ, DZ, by omega, fun e => by rw [hm8 e, HM7.out e, HST.out e, HEO.out e, HF3.out]; simp only [or_assoc]⟩
                    case measure => simp [intOf]; omega
                  · have hng : ¬ (0 : Int) < (kz : Int) := by omega
                    have HEN := hide (edO_none (ts := ts) (n := d) (x := x) (os := os) HGZ.out (NX0.out.trans (List.getElem?_eq_none (by have := hzl.out; omega))))
                    go_wp2_with fail
                    go_roundw
                    case rel => exact ⟨i' + 1, kk7, v7, xs7, by go_num, by omega, HEC.out, SC.out, DC.out, by omega, fun e => by rw [HM7.out e, HST.out e]; exact edO_close (HEN.out e)⟩
                    case measure => simp [intOf]; omega
                · have hzb : (z != 0) = true := by simpa using hz0
                  have hsi : SI w7 (.slice Bz kz dz) kz zs := ⟨Bz, dz, rfl, hzd, hzm, hrz.below HEC.out.bw⟩
                  cases hix : zs.idxOf? z with
                  | none =>
                    have hiv : idxV zs z = -1 := by unfold idxV; rw [hix]
                    have NX1 := hide (show nextV zs z = none by unfold nextV; rw [if_neg hz0, hix]; rfl)
                    clear hix
                    go_wp2_with fail
                    refine (IndexInt_c hsi).mono ?_
                    rintro e w8 ⟨rfl, rfl⟩
                    rw [hiv]
                    go_wp2_with fail
                    go_roundw
                    case rel => exact ⟨i' + 1, kk7, v7, xs7, by go_num, by omega, HEC.out, SC.out, DC.out, by omega, fun e => by rw [HM7.out e, HST.out e]; exact edO_close (edO_none HGZ.out NX1.out e)⟩
                    case measure => simp [intOf]; omega
                  | some i1 =>
                    have hiv : idxV zs z = i1 := by unfold idxV; rw [hix]
                    have NX1 := hide (show nextV zs z = zs[i1 + 1]? by unfold nextV; rw [if_neg hz0, hix]; rfl)
                    have hi1 : i1 < kz := by rw [← hzl.out]; exact idxOf_lt hix
                    have hn0 : ¬ (i1 : Int) < 0 := by omega
                    have hw1 : IntKind.i64.wrap ((i1 : Int) + 1) = (i1 : Int) + 1 := by rw [IntKind.wrap_i64]; omega
                    clear hix
                    go_wp2_with fail
                    refine (IndexInt_c hsi).mono ?_
                    rintro e w8 ⟨rfl, rfl⟩
                    rw [hiv]
                    clear hiv hsi
                    by_cases hak : (i1 + 1) < kz
                    · obtain ⟨bz, oz, y3, rfl, hbz, hy3, r3⟩ := hrz.at_ hak
                      obtain ⟨w3', hw3⟩ := ord_isW HO.out hkey (v := y3) (by rw [HGZ.out]; exact List.mem_of_getElem? hy3)
                      have wf3 := hide (wf_isW HH.out hw3).1
                      obtain ⟨f3, hf3⟩ : ∃ f, writerV ts key y3 = f := ⟨_, rfl⟩
                      have lf3 : f3 < n := by rw [← hf3, ← hl.out]; exact (writerV_lt ts key y3).2
                      have HF3 := hide hf3
                      have hc : ∀ (V : World) (v : Value) (kk : Nat) (xs : List T3), EdS w w.heap.size (w2.heap.size + 1) (some ⟨bt, ot, none⟩) n c V v kk xs → Blk V wr2.heap.size 61 #[.int .i64 x, .int .i64 (key : Int), .int .i64 z] → (V.cell? ⟨w.heap.size, 0, none⟩ = some (.slice (some ⟨bt, ot, none⟩) n c) ∧ V.cell? ⟨wr2.heap.size, 1, none⟩ = some (.int .i64 (key : Int)) ∧ V.cell? ⟨bz, oz + (i1 + 1), none⟩ = some (.int .i64 y3)) := fun V v kk xs h hk =>
                        ⟨h.hH.cell 0, hk.cell 1, (h.bw.cell (p := ⟨bz, oz + (i1 + 1), none⟩) hbz).trans r3⟩
                      have HC := hide hc
                      have HEO := hide (edO_some (ts := ts) (n := d) (x := x) HGZ.out (NX1.out.trans hy3))
                      have EZ := HEC.out.below ((Below.refl w7.heap.size w7).drew)
                      have KZ := HKC.out.belowAll ((Below.refl w7.heap.size w7).drew)
                      have SZ := SC.out.below ((Below.refl w7.heap.size w7).drew)
                      have DZ := DC.out.below ((Below.refl w7.heap.size w7).drew)
                      have a0 : (0 : Int) ≤ ((i1 : Int) + 1) := by omega
                      have a1 : ((i1 : Int) + 1) < (kz : Int) := by omega
                      have a2 : (((i1 : Int) + 1) : Int).toNat = (i1 + 1) := by omega
                      have hkb2 : kk7 ≤ 10000 := by omega
                      clear hc hw3 hf3 r3 hy3 HEC HKC SC DC
                      go_wp2_with fail
                      refine wp_region_held_drew (S := (fun V => V.cell? ⟨w.heap.size, 0, none⟩ = some (.slice (some ⟨bt, ot, none⟩) n c) ∧ V.cell? ⟨wr2.heap.size, 1, none⟩ = some (.int .i64 (key : Int)) ∧ V.cell? ⟨bz, oz + (i1 + 1), none⟩ = some (.int .i64 y3))) (by kernel_rfl) ?_ (fun hHeld => ?_)
                      · exact HC.out _ _ _ _ EZ KZ
                      refine wpAnyH_take (i := 0) (v := ?vv3_0) (by rw [List.getElem?_toArray]; exact rfl) (by kernel_rfl) (by kernel_rfl) (by kernel_rfl) (by intro _ _ _ h; exact h) (Or.inl ⟨by rfl, ?hy3_0⟩) hHeld ?rest3_0
                      case' hy3_0 => (intro w hSw; (try dsimp only at hSw); go_simp; try (with_reducible rfl))
                      (try simp only [Act.put, List.setIfInBounds_toArray, List.set_cons_zero, List.set_cons_succ])
                      refine wpAnyH_take (i := 1) (v := ?vv3_1) (by rw [List.getElem?_toArray]; exact rfl) (by kernel_rfl) (by kernel_rfl) (by kernel_rfl) (by intro _ _ _ h; exact h) (Or.inl ⟨by rfl, ?hy3_1⟩) hHeld ?rest3_1
                      case' hy3_1 => (intro w hSw; (try dsimp only at hSw); go_simp; try (with_reducible rfl))
                      (try simp only [Act.put, List.setIfInBounds_toArray, List.set_cons_zero, List.set_cons_succ])
                      refine wpAnyH_take (i := 2) (v := ?vv3_2) (by rw [List.getElem?_toArray]; exact rfl) (by kernel_rfl) (by kernel_rfl) (by kernel_rfl) (by intro _ _ _ h; exact h) (Or.inl ⟨by rfl, ?hy3_2⟩) hHeld ?rest3_2
                      case' hy3_2 => (intro w hSw; (try dsimp only at hSw); go_simp; try (with_reducible rfl))
                      (try simp only [Act.put, List.setIfInBounds_toArray, List.set_cons_zero, List.set_cons_succ])
                      refine wpAnyH_take (i := 3) (v := ?vv3_3) (by rw [List.getElem?_toArray]; exact rfl) (by kernel_rfl) (by kernel_rfl) (by kernel_rfl) (by intro _ _ _ h; exact h) (Or.inl ⟨by rfl, ?hy3_3⟩) hHeld ?rest3_3
                      case' hy3_3 => (intro w hSw; (try dsimp only at hSw); go_simp; try (with_reducible rfl))
                      (try simp only [Act.put, List.setIfInBounds_toArray, List.set_cons_zero, List.set_cons_succ])
                      refine wpAnyH_take (i := 4) (v := ?vv3_4) (by rw [List.getElem?_toArray]; exact rfl) (by kernel_rfl) (by kernel_rfl) (by kernel_rfl) (by intro _ _ _ h; exact h) (Or.inl ⟨by rfl, ?hy3_4⟩) hHeld ?rest3_4
                      case' hy3_4 => (intro w hSw; (try dsimp only at hSw); go_simp; try (with_reducible rfl))
                      (try simp only [Act.put, List.setIfInBounds_toArray, List.set_cons_zero, List.set_cons_succ])
                      refine wpAnyH_take (i := 5) (v := ?vv3_5) (by rw [List.getElem?_toArray]; exact rfl) (by kernel_rfl) (by kernel_rfl) (by kernel_rfl) (by intro _ _ _ h; exact h) (Or.inl ⟨by rfl, ?hy3_5⟩) hHeld ?rest3_5
                      case' hy3_5 => (intro w hSw; (try dsimp only at hSw); go_simp; try (with_reducible rfl))
                      (try simp only [Act.put, List.setIfInBounds_toArray, List.set_cons_zero, List.set_cons_succ])
                      refine wpAnyH_take (i := 6) (v := ?vv3_6) (by rw [List.getElem?_toArray]; exact rfl) (by kernel_rfl) (by kernel_rfl) (by kernel_rfl) (by intro _ _ _ h; exact h) (Or.inl ⟨by rfl, ?hy3_6⟩) hHeld ?rest3_6
                      case' hy3_6 => (intro w hSw; (try dsimp only at hSw); go_simp; try (with_reducible rfl))
                      (try simp only [Act.put, List.setIfInBounds_toArray, List.set_cons_zero, List.set_cons_succ])
                      refine wpAnyH_take (i := 7) (v := ?vv3_7) (by rw [List.getElem?_toArray]; exact rfl) (by kernel_rfl) (by kernel_rfl) (by kernel_rfl) (by intro _ _ _ h; exact h) (Or.inl ⟨by rfl, ?hy3_7⟩) hHeld ?rest3_7
                      case' hy3_7 => (intro w hSw; (try dsimp only at hSw); go_simp; try (with_reducible rfl))
                      (try simp only [Act.put, List.setIfInBounds_toArray, List.set_cons_zero, List.set_cons_succ])
                      refine wpAnyH_take (i := 8) (v := ?vv3_8) (by rw [List.getElem?_toArray]; exact rfl) (by kernel_rfl) (by kernel_rfl) (by kernel_rfl) (by intro _ _ _ h; exact h) (Or.inl ⟨by rfl, ?hy3_8⟩) hHeld ?rest3_8
                      case' hy3_8 => (intro w hSw; (try dsimp only at hSw); go_simp; try (with_reducible rfl))
                      (try simp only [Act.put, List.setIfInBounds_toArray, List.set_cons_zero, List.set_cons_succ])
                      refine wpAnyH_ready (rs := [9]) (by kernel_rfl) (by simp) ?_
                      refine AllReadyH.cons (by rw [List.getElem?_toArray]; exact rfl) (fun K hK => ?_) AllReadyH.nil
                      go_simp
                      go_at_call 113
                      refine (WriterOf_c (hr.below EZ.bw) HH.out wf3.out).mono ?_
                      rintro e w' ⟨rfl, bq⟩
                      replace KZ := KZ.belowAll bq
                      replace SZ := SZ.below bq
                      replace DZ := DZ.below bq
                      replace EZ := EZ.below bq
                      rw [HF3.out]
                      refine hK.out _ _ ?_ (fun hHeld => ?_)
                      · exact HC.out _ _ _ _ EZ KZ
                      clear hK K
                      (try simp only [Act.put, List.setIfInBounds_toArray, List.set_cons_zero, List.set_cons_succ])
                      refine wpAnyH_ready (rs := [10]) (by kernel_rfl) (by simp) ?_
                      refine AllReadyH.cons (by rw [List.getElem?_toArray]; exact rfl) (fun K hK => ?_) AllReadyH.nil
                      go_simp
                      go_at_call 112
                      refine (put_c EZ hr hkb2 (by omega) (by omega)).mono ?_
                      rintro e w' ⟨⟨_, rfl⟩, v8, kk8, xs8, EZ', hk8, hm8, hch⟩
                      replace KZ := EZ.keep KZ hch (by decide) (by decide)
                      replace SZ := EZ.keepSO SZ hch
                      replace DZ := EZ.keepOI DZ hch
                      have EZ := EZ'
                      refine hK.out _ _ ?_ (fun hHeld => ?_)
                      · exact HC.out _ _ _ _ EZ KZ
                      clear hK K
                      (try simp only [Act.put, List.setIfInBounds_toArray, List.set_cons_zero, List.set_cons_succ])
                      refine wpAnyH_done (by kernel_rfl) ?_ _
                      go_wp2_with fail
                      go_roundw
                      case rel => exact ⟨i' + 1, kk8, v8, xs8, by go_num, by omega, EZ, SZ, DZ, by omega, fun e => by rw [hm8 e, HM7.out e, HST.out e, HEO.out e, HF3.out]; simp only [or_assoc]⟩
                      case measure => simp [intOf]; omega
                    · have hng : ¬ ((i1 : Int) + 1) < (kz : Int) := by omega
                      have HEN := hide (edO_none (ts := ts) (n := d) (x := x) (os := os) HGZ.out (NX1.out.trans (List.getElem?_eq_none (by have := hzl.out; omega))))
                      go_wp2_with fail
                      go_roundw
                      case rel => exact ⟨i' + 1, kk7, v7, xs7, by go_num, by omega, HEC.out, SC.out, DC.out, by omega, fun e => by rw [HM7.out e, HST.out e]; exact edO_close (HEN.out e)⟩
                      case measure => simp [intOf]; omega
              · obtain rfl : i' = n5 := by omega
                have HNX := hide (fun e => SeeR.next (os := os) HT.out (Nat.le_of_eq h5l.out) e)
                clear hE h5r
                go_wp2_with fail
                go_roundw
                case rel => exact ⟨j + 1, d + 1, kk', v, xs, by go_num, by omega, HE.out, HOD.out, HDL.out, HD2.out, by omega, fun e => by rw [HNX.out e]; exact HM.out e⟩
                case measure => simp [intOf]; omega
          · obtain rfl : j = dk := by omega
            have hse : ∀ e, e ∈ xs ↔ EdgeP ts os e := fun e => by
              rw [HM.out e, seeR_same hkl (Nat.le_refl _) (by rw [HJK.out]; exact hdl.out.symm)]; rfl
            have HSE := hide hse
            have htri : ∀ e ∈ xs, e ∈ tri := fun e he => ((hse e).1 he).tri (histB_parts HH.out).1
            have g2 := hE.hL.cell 0
            have hrow := hE.row
            clear hse hE hrd
            go_wp2_with fail
            refine (sorted_c hrow htri).mono ?_
            rintro e w9 ⟨A9, k9, rfl, hk9, r9, hg9⟩
            have B9 := below_app3 bw hrow (Nat.le_refl _) hg9
            have r9' : R3 w9 A9 k9 (edgesL ts os) := by rw [edgesL_yes HO.out]; rw [canonL_congr (fun e _ => HSE.out e)] at r9; exact r9
            have R9 := hide r9'
            clear r9 r9' hg9 hrow g2 htri HE HOD bw
            go_wp2_with fail
            go_ret
            exact ⟨A9, k9, rfl, hk9, R9.out, B9⟩
end Go.Proofs.YtcfkemchekmjbaaGreatDoor
