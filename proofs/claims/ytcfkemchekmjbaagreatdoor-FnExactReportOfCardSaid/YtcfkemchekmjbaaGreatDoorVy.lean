/- Merged (what the law reaches): Cpt2, Val. -/
import Derived.Test.YtcfkemchekmjbaaGreatDoorVx
import Derived.RangeFuncNested
import Derived.RangeFuncBound
import Derived.RangeFuncCalls
import Derived.RangeFuncLeaves
import Derived.Shelf.Abstract
import Derived.Shelf.RegionOpen
import Derived.OwnWalkIn
import Derived.TacticsInMore
import Derived.LoopNIn
import Derived.LoopIn
import Derived.Shelf.AbstractIn
import Derived.RegionIn
namespace Go.Proofs.YtcfkemchekmjbaaGreatDoor
open Go.RowKit
/-- The slice value v, k elements, reads as zs; all lies in block g. -/
def CptR (w : World) (g c : Nat) (xs : List T3) (e : Ending) (w' : World) : Prop :=
  ∃ k zs, e = .returned (.slice (some ⟨g, 0, none⟩) k c) ∧ k ≤ xs.length ∧ R3 w' (some ⟨g, 0, none⟩) k zs ∧ zs.Pairwise ltE ∧ (∀ e, e ∈ zs ↔ e ∈ xs) ∧ w.grownBy w' (some g)
theorem grownBQ {a b c : World} {row : Option Nat} (h : a.grownBy b row) (k : Below b.heap.size b c) : a.grownBy c row :=
  ⟨k.os.trans h.os, k.tape.trans h.tape, k.output.trans h.output, Nat.le_trans h.size k.size, fun i hi hn => (k.block i (Nat.lt_of_lt_of_le hi h.size)).trans (h.block i hi hn)⟩
theorem R3.pre_ {w : World} {A : Option Addr} {n : Nat} {ts : List T3} (h : R3 w A n ts) {k : Nat} (hk : k ≤ n) : R3 w A k (ts.take k) := by
  refine ⟨by rw [List.length_take, h.1]; omega, fun hk0 => ?_⟩
  obtain ⟨b, off, e, hlt, hc⟩ := h.2 (by omega)
  refine ⟨b, off, e, hlt, fun j x hx => hc j x ?_⟩
  have hf : ∀ (ts : List T3) (k : Nat), flat3 (ts.take k) = (flat3 ts).take (k * 3) := by
    intro ts
    induction ts with
    | nil => intro k; simp [flat3]
    | cons a ts ih =>
      intro k
      obtain ⟨x, y, z⟩ := a
      cases k with
      | zero => simp [flat3]
      | succ k => rw [List.take_succ_cons, show (k + 1) * 3 = k * 3 + 1 + 1 + 1 by omega]; simp [flat3, ih]
  rw [hf] at hx
  have hj : j < k * 3 := by have := (List.getElem?_eq_some_iff.1 hx).1; rw [List.length_take] at this; omega
  rwa [List.getElem?_take_of_lt hj] at hx
set_option maxRecDepth 100000 in
set_option maxHeartbeats 16000000 in
theorem Compact_c {g n c B : Nat} {xs : List T3} {w : World} (ho : O3 146 w B (.slice (some ⟨g, 0, none⟩) n c) n xs) (hs : xs.Pairwise (fun a b => ¬ ltE b a)) :
    Calls Tryz.prog 165 #[.slice (some ⟨g, 0, none⟩) n c] w (CptR w g c xs) := by
  have hl := hide ho.len
  have hn := ho.2
  have hnc : n ≤ c := by obtain ⟨A', c', e, h1, _, _⟩ := ho.s3; injection e with _ _ e3; omega
  have HS := hide hs; have HO := hide ho
  obtain ⟨A1, c1, e1, _, _, hr0⟩ := ho.s3
  obtain ⟨rfl, rfl⟩ : some ⟨g, 0, none⟩ = A1 ∧ c = c1 := by simpa using e1
  have HR0 := hide hr0
  have hq := eqEdL
  have hq2 := neqEdL
  clear hs ho e1 hr0
  by_cases h2 : n < 2
  · have h2' : (n : Int) < 2 := by omega
    have hsx : xs.Pairwise ltE := by
      have h3 : xs.length < 2 := by rw [hl.out]; exact h2
      match xs, h3 with
      | [], _ => simp
      | [x], _ => simp
    have HSX := hide hsx
    clear hsx
    go_enter Tryz.func165, Tryz.ntmps165
    go_wp2_with fail
    go_ret
    exact ⟨n, xs, rfl, by rw [hl.out]; exact Nat.le_refl _, HR0.out, HSX.out, fun _ => Iff.rfl, World.grownBy.refl w _⟩
  · have h2' : ¬ (n : Int) < 2 := by omega
    have h1s : (xs.take 1).Pairwise ltE := by
      cases xs with
      | nil => simp
      | cons a l => simp
    have H1S := hide h1s
    clear h1s
    go_enter Tryz.func165, Tryz.ntmps165
    go_wp2_with fail
    go_loopw [3] (fun i W => ∃ j : Nat, i = .int .i64 ((j : Int) + 1) ∧ j + 1 ≤ n ∧ (xs.take (j + 1)).Pairwise ltE ∧ Below w.heap.size w W) (fun i _ => n - (intOf i).toNat)
    case atStart => exact ⟨0, rfl, by omega, H1S.out, Below.refl _ _⟩
    case round =>
      clear H1S
      rename World => wr
      obtain ⟨j, rfl, hj, hp, bw⟩ := hrel
      have HP := hide hp; clear hp
      by_cases hlt : j + 1 < n
      · have hor := HO.out.below bw
        obtain ⟨⟨x, y, z⟩, hx⟩ : ∃ q, xs[j]? = some q := ⟨_, List.getElem?_eq_getElem (by rw [hl.out]; omega)⟩
        obtain ⟨⟨x', y', z'⟩, hx'⟩ : ∃ q, xs[j + 1]? = some q := ⟨_, List.getElem?_eq_getElem (by rw [hl.out]; omega)⟩
        obtain ⟨c0, c1, c2⟩ := hor.cells hx
        obtain ⟨d0, d1, d2⟩ := hor.cells hx'
        have HX := hide hx; have HX' := hide hx'; have HOR := hide hor; have BW := hide bw
        have k0 : (0 : Int) ≤ j := by omega
        have k1 : (j : Int) + 1 < n := by omega
        have k2 : (j : Int) < n := by omega
        have k3 : ((j : Int) + 1).toNat = j + 1 := by omega
        have k4 : (j : Int) + 1 - 1 = j := by omega
        clear hx hx' hor
        by_cases he : (x', y', z') = (x, y, z)
        · have hb : (x' == x && (y' == y && z' == z)) = true := by simpa using he
          have he2 : xs[j + 1]? = some (x, y, z) := by rw [HX'.out, he]
          have HI := hide (CptI.start HP.out HX.out he2)
          clear he he2
          go_wp2_with fail
          go_region
          have hfrom : ∀ (q : Nat), q < n → ∀ W, (Instr.slice 97 (.slice (some ⟨g, 0, none⟩) n c) (some (.int .i64 (q : Int))) none none).run Tryz.prog W = .ok (.slice (some ⟨g, q * 3, none⟩) (n - q) (c - q)) W := fun q hqn W => by
            obtain ⟨i, hi, hz, hsz, hb⟩ := info_parts infoEd
            have h1 : q ≤ n := by omega
            have h2 : ¬ c - q = 0 := by omega
            have h3 : ¬ c = q := by omega
            have h4 : q ≤ c := by omega
            simp [Instr.slice, Instr.sliceBounds, Instr.sliceBound, run_underlying Tryz.underlying97, sizeOf, typeInfo, hi, asIntOf, h1, hsz, h3, addr_add]
          have hto : ∀ (q : Nat), q ≤ n → ∀ W, (Instr.slice 97 (.slice (some ⟨g, 0, none⟩) n c) none (some (.int .i64 (q : Int))) none).run Tryz.prog W = .ok (.slice (some ⟨g, 0, none⟩) q c) W := fun q hqn W => by
            obtain ⟨i, hi, hz, hsz, hb⟩ := info_parts infoEd
            have h1 : q ≤ c := by omega
            have h3 : c ≠ 0 := by omega
            simp [Instr.slice, Instr.sliceBounds, Instr.sliceBound, run_underlying Tryz.underlying97, sizeOf, typeInfo, hi, asIntOf, h1, h3, addr_add]
          obtain ⟨m, hm⟩ : ∃ m, n - (j + 1) = m := ⟨_, rfl⟩
          have hsl1 : ∀ W, (Instr.slice 97 (.slice (some ⟨g, 0, none⟩) n c) (some (.int .i64 ((j : Int) + 1))) none none).run Tryz.prog W = .ok (.slice (some ⟨g, (j + 1) * 3, none⟩) m (c - (j + 1))) W := fun W => by
            have := hfrom (j + 1) hlt W
            rw [hm] at this
            exact this
          have HFROM := hide hfrom; have HTO := hide hto
          have OS := hide (HOR.out.drew)
          have GS := hide (grown_of_below BW.out.drew (some g))
          clear hfrom hto c0 c1 c2 d0 d1 d2
          go_wp2_with fail
          go_loopw [3, 5] (fun s i W => ∃ (kk q : Nat) (ys : List T3), s = .int .i64 (kk : Int) ∧ i = .int .i64 ((q : Int) + 1) ∧ CptI xs ys (j + 1 + (q + 1)) kk ∧ O3 146 W B (.slice (some ⟨g, 0, none⟩) n c) n ys ∧ w.grownBy W (some g)) (fun _ i _ => m - (intOf i).toNat)
          case atStart => exact ⟨j + 1, 0, xs, rfl, rfl, HI.out, OS.out, GS.out⟩
          case round =>
            clear HI OS GS hsl1
            rename World => wr2
            obtain ⟨kk, q, ys, rfl, rfl, hI, hO, hG⟩ := hrel
            have hkp := hI.kp; have hpn := hI.pn
            have hys := hO.len
            have HI := hide hI; have HO2 := hide hO; have HG := hide hG
            have hxl := hl.out
            by_cases hlt2 : q + 1 < m
            · obtain ⟨⟨x1, y1, z1⟩, hx1⟩ : ∃ r, xs[j + 1 + q]? = some r := ⟨_, List.getElem?_eq_getElem (by omega)⟩
              obtain ⟨⟨x2, y2, z2⟩, hx2⟩ : ∃ r, xs[j + 1 + (q + 1)]? = some r := ⟨_, List.getElem?_eq_getElem (by omega)⟩
              obtain ⟨⟨a, b, d⟩, hk0⟩ : ∃ r, ys[kk]? = some r := ⟨_, List.getElem?_eq_getElem (by omega)⟩
              obtain ⟨c0, c1, c2⟩ := hO.cells ((hI.high _ (by omega)).trans hx1)
              obtain ⟨d0, d1, d2⟩ := hO.cells ((hI.high _ (by omega)).trans hx2)
              obtain ⟨o0, o1, o2⟩ := hO.cells hk0
              have f0 : ∀ t, wr2.frozen? ⟨g, t, none⟩ = false := fun t => OF.free hO.of t
              have g0 := f0 (kk * 3); have g1 := f0 (kk * 3 + 1); have g2 := f0 (kk * 3 + 2)
              rw [show (j + 1 + q) * 3 = (j + 1) * 3 + q * 3 by omega] at c0 c1 c2
              rw [show (j + 1 + (q + 1)) * 3 = (j + 1) * 3 + (q + 1) * 3 by omega] at d0 d1 d2
              have HX1 := hide hx1; have HX2 := hide hx2
              have q0 : (0 : Int) ≤ q := by omega
              have q1 : (q : Int) + 1 < m := by omega
              have q2 : (q : Int) < m := by omega
              have q3 : (q : Int) + 1 - 1 = q := by omega
              have kk1 : (kk : Int) < n := by omega
              have kk0 : (0 : Int) ≤ kk := by omega
              have hpe : j + 1 + (q + 1) - 1 = j + 1 + q := by omega
              have HPE := hide hpe
              clear hx1 hx2 hI hO hG hk0 f0 hpe
              by_cases he2 : (x2, y2, z2) = (x1, y1, z1)
              · have hb2 : (!(x2 == x1 && (y2 == y1 && z2 == z1))) = false := by simpa using he2
                have HI2 := hide (HI.out.skip (x := (x1, y1, z1)) (by rw [HX2.out, he2]) (by rw [HPE.out]; exact HX1.out))
                clear he2
                go_wp2_with fail
                go_region
                go_wp2_with fail
                go_roundw
                case rel => exact ⟨kk, q + 1, ys, rfl, by go_num, HI2.out, HO2.out.drew, grownBQ HG.out (below_drewN (Below.refl _ _) 1)⟩
                case measure => simp [intOf]; omega
              · have hb2 : (!(x2 == x1 && (y2 == y1 && z2 == z1))) = true := by rw [show (x2 == x1 && (y2 == y1 && z2 == z1)) = false by simpa using he2]; rfl
                have HI2 := hide (HI.out.keep HS.out (x := (x2, y2, z2)) (q := (x1, y1, z1)) HX2.out (by rw [HPE.out]; exact HX1.out) he2)
                have hkn : kk < n := by omega
                have HO3 := hide (HO2.out.drew.put hkn x2 y2 z2)
                have HG3 := hide (grown_setCell (p := ⟨g, kk * 3 + 2, none⟩) (grown_setCell (p := ⟨g, kk * 3 + 1, none⟩) (grown_setCell (p := ⟨g, kk * 3, none⟩) (grownBQ HG.out (below_drewN (Below.refl _ _) 1)) (.inl rfl) (.int .i64 x2)) (.inl rfl) (.int .i64 y2)) (.inl rfl) (.int .i64 z2))
                clear he2
                go_wp2_with fail
                go_region
                go_wp2_with fail
                go_roundw
                case rel => exact ⟨kk + 1, q + 1, _, by go_num, by go_num, HI2.out, HO3.out, HG3.out⟩
                case measure => simp [intOf]; omega
            · have hq1 : q + 1 = m := by omega
              have hpn2 : j + 1 + (q + 1) = n := by omega
              have hng : ¬ (q : Int) + 1 < m := by omega
              have hf1 := HFROM.out kk (by omega)
              have hf2 := HTO.out kk (by omega)
              have f0 : ∀ t, wr2.frozen? ⟨g, t, none⟩ = false := fun t => OF.free hO.of t
              obtain ⟨zs, hzl, hcl⟩ := run_clearE wr2 g (kk * 3) (n - kk) (c - kk) (by omega) (fun t ht => by
                obtain ⟨v, _, hv⟩ := OF.cell hO.of (kk * 3 + t) (by omega)
                rw [hv]; rfl) (fun t _ => f0 _)
              have hR : R3 (wr2.setCells g (kk * 3) zs) (some ⟨g, 0, none⟩) kk (ys.take kk) := by
                obtain ⟨A9, c9, e9, _, _, hr9⟩ := hO.s3
                injection e9 with e9 _ _
                rw [← e9] at hr9
                have hp9 := hr9.pre_ (k := kk) (by omega)
                refine ⟨hp9.1, fun h0 => ?_⟩
                obtain ⟨b9, off9, e10, hlt9, hc9⟩ := hp9.2 h0
                injection e10 with e10; injection e10 with e11 e12
                subst e11; subst e12
                refine ⟨g, 0, rfl, ?_, fun t x hx => ?_⟩
                · have hsz : ∀ (zs : List Value) (o : Nat) (w : World), (w.setCells g o zs).heap.size = w.heap.size := by
                    intro zs
                    induction zs with
                    | nil => intro o w; rfl
                    | cons z zs ih => intro o w; show ((w.setCell _ _).setCells g _ zs).heap.size = _; rw [ih]; exact size_setCell _ _ _
                  rw [hsz]; exact hlt9
                · rw [World.cell?_setCells_out]
                  · exact hc9 t x hx
                  · intro _ _
                    left
                    have := (List.getElem?_eq_some_iff.1 hx).1
                    rw [flat3_len, List.length_take] at this
                    show 0 + t < kk * 3
                    omega
              have hgz : w.grownBy (wr2.setCells g (kk * 3) zs) (some g) := by
                have : ∀ (zs : List Value) (o : Nat) (W : World), w.grownBy W (some g) → w.grownBy (W.setCells g o zs) (some g) := by
                  intro zs
                  induction zs with
                  | nil => intro o W h; exact h
                  | cons z zs ih => intro o W h; exact ih (o + 1) _ (grown_setCell (p := ⟨g, o, none⟩) h (.inl rfl) z)
                exact this zs _ _ hG
              have hmem : ∀ e, e ∈ ys.take kk ↔ e ∈ xs := fun e => by rw [hI.mem, hpn2, ← hl.out, List.take_length]
              have hst := hI.srt
              have HR := hide hR; have HGZ := hide hgz; have HMEM := hide hmem; have HST := hide hst
              clear hI hO hG hR hgz hmem hst f0
              go_wp2_with fail
              go_ret
              exact ⟨kk, ys.take kk, rfl, by omega, HR.out, HST.out, HMEM.out, HGZ.out⟩
        · have hb : (x' == x && (y' == y && z' == z)) = false := by simpa using he
          have hpn : (xs.take (j + 2)).Pairwise ltE := by
            have ht : xs.take (j + 2) = xs.take (j + 1) ++ [(x', y', z')] := by rw [List.take_add_one, HX'.out]; rfl
            rw [ht]
            refine strict_snoc (p := (x, y, z)) HP.out (by rw [List.take_add_one, HX.out]; simp) ?_
            obtain ⟨a1, b1⟩ := List.getElem?_eq_some_iff.1 HX.out
            obtain ⟨a2, b2⟩ := List.getElem?_eq_some_iff.1 HX'.out
            have := List.pairwise_iff_getElem.1 HS.out j (j + 1) a1 a2 (by omega)
            rw [b1, b2] at this
            exact lt_of_not this (fun e => he e.symm)
          have HPN := hide hpn
          clear he hpn
          go_wp2_with fail
          go_region
          go_wp2_with fail
          go_roundw
          case rel => exact ⟨j + 1, by go_num, by omega, HPN.out, BW.out.drew⟩
          case measure => simp [intOf]; omega
      · have hsx : xs.Pairwise ltE := by have := HP.out; rwa [List.take_of_length_le (by rw [hl.out]; omega)] at this
        have HSX := hide hsx
        have hng : ¬ (j : Int) + 1 < n := by omega
        clear hsx
        go_wp2_with fail
        go_ret
        exact ⟨n, xs, rfl, by rw [hl.out]; exact Nat.le_refl _, HR0.out.below bw, HSX.out, fun _ => Iff.rfl, grown_of_below bw _⟩
set_option maxHeartbeats 1000000 in
theorem ClipE_c {A : Option Addr} {n c : Nat} {w : World} (hA : ∀ a, A = some a → ∃ g o, a = ⟨g, o, none⟩) (hnc : n ≤ c) :
    Calls Tryz.prog 164 #[.slice A n c] w fun e w' => e = .returned (.slice A n n) ∧ w = w' := by
  have hcl : ∀ W, (Instr.slice 97 (.slice A n c) none (some (.int .i64 (n : Int))) (some (.int .i64 (n : Int)))).run Tryz.prog W = .ok (.slice A n n) W := fun W => by
    obtain ⟨i, hi, hz, hsz, hb⟩ := info_parts infoEd
    have h1 : (if n = 0 then A else A.map (·.add (0 * i.size))) = A := by
      split
      · rfl
      · cases A with
        | none => rfl
        | some a => obtain ⟨g, o, rfl⟩ := hA a rfl; rw [Nat.zero_mul]; simp [addr_add]
    simp [Instr.slice, Instr.sliceBounds, Instr.sliceBound, run_underlying Tryz.underlying97, sizeOf, typeInfo, hi, asIntOf, hnc]
    simpa using h1
  clear hA
  go_enter Tryz.func164, Tryz.ntmps164
  go_wp2_with fail
  go_ret
  exact ⟨rfl, rfl⟩
theorem srtE_perm (xs : List T3) : (srtE xs).Perm xs := List.mergeSort_perm xs _
theorem srtE_sorted (xs : List T3) : (srtE xs).Pairwise (fun a b => ¬ ltE b a) := by
  have h := List.pairwise_mergeSort (le := fun x y : T3 => !(Go.Proofs.ltOf cmpE y x)) (fun a b c h1 h2 => by
    rw [ltOfE] at *; simp at *; unfold ltE at *; omega) (fun a b => by
    rw [ltOfE, ltOfE]; simp; unfold ltE; omega) xs
  refine h.imp fun {a b} hab => ?_
  rw [ltOfE] at hab
  simpa using hab
/-- A slice of edges in its one order, its block g. -/
def SrtR (w : World) (v0 : Value) (S : T3 → Prop) (e : Ending) (w' : World) : Prop := ∃ A k, e = .returned (.slice A k k) ∧ k ≤ 144 ∧ R3 w' A k (canonL S) ∧ w.grownBy w' v0.ownBlock
set_option maxRecDepth 100000 in
set_option maxHeartbeats 4000000 in
theorem sorted_c {B n : Nat} {v : Value} {xs : List T3} {w : World} (ho : O3 146 w B v n xs) (ht : ∀ e ∈ xs, e ∈ tri) :
    Calls Tryz.prog 115 #[v] w (SrtR w v (fun e => e ∈ xs)) := by
  have hl := hide ho.len
  rcases ho.1.2 with ⟨rfl, h0⟩ | ⟨g, c, cur, rfl, hB, hg, hc, hcm, hs, hcur⟩
  · subst h0
    have hx : xs = [] := List.eq_nil_of_length_eq_zero ho.len
    subst hx
    have hcan : canonL (fun e : T3 => e ∈ ([] : List T3)) = [] := by
      rw [List.eq_nil_iff_forall_not_mem]; intro e he; have := (mem_canonL.1 he).2; simp at this
    have HC := hide hcan
    have hcomp : ∀ W : World, Calls Tryz.prog 165 #[.slice none 0 0] W fun e w' => e = .returned (.slice none 0 0) ∧ W = w' := fun W => by
      go_enter Tryz.func165, Tryz.ntmps165
      go_wp2_with fail
      go_ret
      exact ⟨rfl, rfl⟩
    have hsort := fun W => AnyF.slices_SortFunc_none { sortEd with } none 0 (.func (.func 163) #[] #[]) W
    change ∀ W, Calls Tryz.prog 162 _ _ _ at hsort
    clear hcan ho
    go_enter Tryz.func115, Tryz.ntmps115
    go_wp2_with fail
    refine (hsort w).mono ?_
    rintro e w' ⟨rfl, rfl⟩
    go_wp2_with fail
    refine (hcomp _).mono ?_
    rintro e w2 ⟨rfl, rfl⟩
    go_wp2_with fail
    refine (ClipE_c (fun a h => by cases h) (Nat.le_refl _)).mono ?_
    rintro e w3 ⟨rfl, rfl⟩
    go_wp2_with fail
    go_ret
    exact ⟨none, 0, rfl, by omega, by rw [HC.out]; exact R3.nil, World.grownBy.refl _ _⟩
  · have HT := hide ht; have HO := hide ho
    clear ht ho
    go_enter Tryz.func115, Tryz.ntmps115
    go_wp2_with fail
    refine (SortFunc_c HO.out).mono ?_
    rintro e w2 ⟨rfl, o2, g2⟩
    have G2 := hide g2; have O2 := hide o2
    clear g2 o2
    go_wp2_with fail
    refine (Compact_c O2.out (srtE_sorted xs)).mono ?_
    rintro e w3 ⟨k, zs, rfl, hk, hr3, hz, hm, g3⟩
    have hkc : k ≤ c := by
      have h1 := O2.out.len
      have h2 : (srtE xs).length = xs.length := by unfold srtE; rw [List.length_mergeSort]
      have := hl.out
      omega
    have hcan : zs = canonL (fun e => e ∈ xs) := sorted_ext hz (canonL_sorted _) (fun e => by
      rw [hm, (srtE_perm xs).mem_iff, mem_canonL]
      exact ⟨fun h => ⟨HT.out e h, h⟩, fun h => h.2⟩)
    have hk144 : k ≤ 144 := by rw [← hr3.1, hcan]; exact canonL_len _
    have HR := hide hr3; have HC := hide hcan; have G3 := hide g3
    clear hr3 hcan g3 hz hm
    go_wp2_with fail
    refine (ClipE_c (fun a h => ⟨g, 0, by injection h with h; exact h.symm⟩) hkc).mono ?_
    rintro e w4 ⟨rfl, rfl⟩
    go_wp2_with fail
    go_ret
    have hz2 := G2.out.size
    exact ⟨some ⟨g, 0, none⟩, k, rfl, hk144, by rw [← HC.out]; exact HR.out, ⟨G3.out.os.trans G2.out.os, G3.out.tape.trans G2.out.tape, G3.out.output.trans G2.out.output, Nat.le_trans G2.out.size G3.out.size, fun i hi hn => (G3.out.block i (by omega) hn).trans (G2.out.block i hi hn)⟩⟩
end Go.Proofs.YtcfkemchekmjbaaGreatDoor

namespace Go.Proofs.YtcfkemchekmjbaaGreatDoor
open Go.RowKit Go.Shelf Go.Sort Go.Maps
attribute [local go_sem] Oper.semAt_some
set_option maxRecDepth 100000 in
set_option maxHeartbeats 4000000 in
theorem values1 (n l bx : Nat) {A : Option Addr} {m c : Nat} {xs : List Int} {w : World} (J : List Int → World → Prop) (hJB : ∀ p W, J p W → Below w.heap.size w W)
    (hbx : bx < w.heap.size) (hx : w.cell? ⟨bx, 0, none⟩ = some (.slice A m c)) (hr : RI w A m xs) (hm : m ≤ 1048576)
    (hY : ∀ pre x W, J pre W → pre.length < m → YieldAt Fence.wide (n - 1) Tryz.prog l #[.int .i64 x] W fun e W' => e = .returned (.bool true) ∧ J (pre ++ [x]) W' ∧ KeepsWalks W W')
    (W : World) (h0 : J [] W) :
    CallsIn Fence.wide n Tryz.prog 155 #[.func (.yield l) #[] #[], .pointer (some ⟨bx, 0, none⟩)] W fun e W' => (∃ v, e = .returned v) ∧ J xs W' := by
  refine callsIn_of_wp Tryz.func155 rfl trivial ?_ rfl
  simp only [Tryz.ntmps155, List.size_toArray, List.length_cons, List.length_nil, Nat.reduceAdd, Nat.reduceSub, Array.replicate_succ, Array.replicate_zero, List.push_toArray, List.append_toArray, List.nil_append, List.cons_append]
  have c1 := ((hJB _ _ h0).cell (p := ⟨bx, 0, none⟩) hbx).trans hx
  have H0 := hide h0
  have hl := hide hr.len
  clear h0
  gi_wp2
  gi_loopw [7] (fun i wr => ∃ k : Nat, i = .int .i64 k ∧ k ≤ m ∧ J (xs.take k) wr) (fun i _ => m - (intOf i).toNat)
  case atStart => exact ⟨0, rfl, Nat.zero_le _, H0.out⟩
  case round =>
    clear H0 c1
    obtain ⟨k, rfl, hk, hj⟩ := hrel
    have HJ := hide hj
    by_cases hlt : k < m
    · obtain ⟨b, off, x, rfl, hbb, hxx, hc⟩ := hr.at_ hlt
      have c2 := ((hJB _ _ hj).cell (p := ⟨b, off + k, none⟩) hbb).trans hc
      obtain ⟨fn, tmps, assign, body, hy, hR⟩ := hY (xs.take k) x wr hj (by rw [List.length_take]; omega)
      have hst : xs.take (k + 1) = xs.take k ++ [x] := by rw [List.take_add_one, hxx]; rfl
      have HST := hide hst
      have HR := hide hR
      have k0 : (0 : Int) ≤ k := by omega
      have k1 : (k : Int) < m := by omega
      have hwr : IntKind.i64.wrap ((k : Int) + 1) = (k : Int) + 1 := by rw [IntWalk.i64_left, IntWalk.wrap64_in _ (by omega)]
      clear hj hst hR hxx hc
      gi_wp2
      refine ⟨fun h => (by cases h), HR.out.mono ?_⟩
      rintro e W3 ⟨rfl, hJ3, _⟩
      have HJ3 := hide hJ3; clear hJ3
      gi_wp2
      go_roundw
      case rel => exact ⟨k + 1, by go_num, by omega, by rw [HST.out]; exact HJ3.out⟩
      case measure => simp [intOf]; omega
    · obtain rfl : k = m := by omega
      have hj2 : J xs wr := by have := HJ.out; rwa [← hl.out, List.take_length] at this
      have HJ2 := hide hj2
      clear hj hj2
      gi_wp2
      go_end0
      exact ⟨⟨_, rfl⟩, HJ2.out⟩
set_option maxRecDepth 100000 in
set_option maxHeartbeats 2000000 in
/-- slices.AppendSeq(nil, slices.Values(x)): after the shelf's law for iterators, at the one iterator. -/
theorem appendSeq1 (n : Nat) (hn : 2 ≤ n) (bx : Nat) {A : Option Addr} {m c : Nat} {xs : List Int} {w : World} (hbx : bx < w.heap.size) (hx : w.cell? ⟨bx, 0, none⟩ = some (.slice A m c)) (hr : RI w A m xs) (hm : m ≤ 1048576) :
    CallsIn Fence.wide n Tryz.prog 186 #[.slice none 0 0, .func (.func 155) #[] #[.pointer (some ⟨bx, 0, none⟩)]] w fun e w' => ∃ v, e = .returned v ∧ w'.ownsRow w.heap.size 3 1 v xs.length (xs.map encZ) ∧ (v = .slice none 0 0 ↔ xs = []) ∧ Below w.heap.size w w' := by
  have h1 : 1 ≤ n := by omega
  have L := sortedA
  have eg := enters_of (P := Tryz.prog) Tryz.func155 (by kernel_rfl) rfl
  have u24 := run_underlying Tryz.underlying24
  refine callsIn_of_wp_marks Tryz.func186 rfl trivial ?_ rfl
  simp only [Tryz.ntmps186, List.size_toArray, List.length_cons, List.length_nil, Nat.reduceAdd, Nat.reduceSub, Array.replicate_succ, Array.replicate_zero, List.push_toArray, List.append_toArray, List.nil_append, List.cons_append]
  gi_wp2
  refine wpIn_rangeFunc ?_
  intro fn hfn
  obtain ⟨W0, hW0⟩ : ∃ W0, w.alloc (.cells #[.slice none 0 0] 24) = W0 := ⟨_, rfl⟩
  have hs0 : W0.heap.size = w.heap.size + 1 := by rw [← hW0]; simp
  have hv0 : W0.heap[w.heap.size]? = some (.cells #[.slice none 0 0] 24 (0, 0)) := by rw [← hW0]; exact World.alloc_heap_new w _
  have hb0 : Below w.heap.size w W0 := by rw [← hW0]; exact (Below.refl _ w).alloc (Nat.le_refl _) _
  rw [hW0]
  obtain ⟨W1, hW1⟩ : ∃ W1, (W0.alloc (.deferred (some []))).alloc (.loop (AnyZI.apRec sortedA_ren fn (.func (.func 155) #[] #[.pointer (some ⟨bx, 0, none⟩)]) w.heap.size W0.heap.size .ready none)) = W1 := ⟨_, rfl⟩
  have hold : ∀ k, k < W0.heap.size → W1.heap[k]? = W0.heap[k]? := fun k hk => by
    rw [← hW1]; exact (Below.heap_alloc _ _ k (by simp; omega)).trans (Below.heap_alloc _ _ k hk)
  have hb1 : Below w.heap.size w W1 := by rw [← hW1]; exact (hb0.alloc hb0.size _).alloc (by have := hb0.size; simp; omega) _
  have hs1 : W1.heap.size = W0.heap.size + 2 := by rw [← hW1]; simp
  have hM : AnyZI.ApAt sortedA_ren w fn (.func (.func 155) #[] #[.pointer (some ⟨bx, 0, none⟩)]) w.heap.size (W0.heap.size + 1) W0.heap.size [] W1 :=
    ⟨⟨_, (hold w.heap.size (by omega)).trans hv0, ⟨rfl, .inl ⟨rfl, rfl⟩⟩, by simp⟩,
     by rw [← hW1]; have := World.alloc_heap_new (W0.alloc (.deferred (some []))) (.loop (AnyZI.apRec sortedA_ren fn (.func (.func 155) #[] #[.pointer (some ⟨bx, 0, none⟩)]) w.heap.size W0.heap.size .ready none)); rwa [World.size_alloc] at this,
     by rw [← hW1]; exact (Below.heap_alloc _ _ _ (by simp)).trans (World.alloc_heap_new W0 _), hb1⟩
  refine ⟨W0.heap.size + 1, [{ target := .collected W0.heap.size, args := #[] }], W1, { target := .fn (.func 155) #[.pointer (some ⟨bx, 0, none⟩)], args := #[.func (.yield (W0.heap.size + 1)) #[] #[]] }, W1, 155,
    #[.func (.yield (W0.heap.size + 1)) #[] #[]] ++ #[.pointer (some ⟨bx, 0, none⟩)], W1, ?_, ?_, ?_, ?_, fun _ => h1, ?_⟩
  · rw [← hW1]; exact run_enterLoop_outer _ _ _ _ _
  · simp [resolve, go_sem]
  · intro f' hf'; trivial
  · simp [invoke, go_sem]
  · refine (values1 (n - 1) (W0.heap.size + 1) bx (AnyZI.ApAt sortedA_ren w fn (.func (.func 155) #[] #[.pointer (some ⟨bx, 0, none⟩)]) w.heap.size (W0.heap.size + 1) W0.heap.size) (fun p W h => h.below) hbx hx hr hm
      (fun pre x W hJ hl => AnyZI.apYield { L with } Fence.wide (n - 1 - 1) w fn hfn _ w.heap.size (W0.heap.size + 1) W0.heap.size (by omega) (by omega) (by omega) (Nat.le_refl _) (by omega) m (by simp only [maxLen]; omega) (by omega) pre x W hJ hl) W1 hM).mono ?_
    rintro e W2 ⟨⟨v0, rfl⟩, h2⟩
    obtain ⟨v, hv, hrow, hnil⟩ := h2.box
    have hend := run_endLoop (P := Tryz.prog) h2.L (by simp [AnyZI.apRec])
    obtain ⟨W3, hW3⟩ : ∃ W3, W2.putObj (W0.heap.size + 1) (.loop { AnyZI.apRec sortedA_ren fn (.func (.func 155) #[] #[.pointer (some ⟨bx, 0, none⟩)]) w.heap.size W0.heap.size .ready none with state := .exhausted }) = W3 := ⟨_, rfl⟩
    rw [hW3] at hend
    have hne : (24 : TypeId) ≠ 3 := by decide
    have hg3 : W2.grownBy W3 (some (W0.heap.size + 1)) := by rw [← hW3]; exact grownBy_putObj_a _ _ _
    have hv3 : W3.heap[w.heap.size]? = some (.cells #[v] 24 (0, 0)) := by rw [← hW3]; exact (World.putObj_heap_other (by omega)).trans hv
    have hK3 : W3.heap[W0.heap.size]? = some (.deferred (some [])) := by rw [← hW3]; exact (World.putObj_heap_other (by omega)).trans h2.K
    have hrow3 := hrow.kept hg3 (ownsRow_ne_a hrow h2.L (fun cur e => by first | cases e | exact hne (Obj.cells.inj e).2.1))
    have hb3 : Below w.heap.size w W3 := h2.below.grown hg3 h2.below.size (fun k e => by cases e; omega)
    obtain ⟨hc3, hf3⟩ := cell_of_box_a hv3
    clear hW3
    refine ⟨none, W3, hend, ?_⟩
    gi_wp2
    rw [← hs0]
    refine ⟨by simp, .inl ⟨_, _, rfl, run_takeDeferred hK3, ?_⟩⟩
    exact ⟨_, results_tmp rfl _ _ _, v, rfl, hrow3.kept (grownBy_putObj_a _ _ _) (ownsRow_ne_a hrow3 hK3 (fun cur e => by first | cases e | exact hne (Obj.cells.inj e).2.1)), hnil, hb3.grown (grownBy_putObj_a _ _ _) hb3.size (fun k e => by cases e; omega)⟩
end Go.Proofs.YtcfkemchekmjbaaGreatDoor
