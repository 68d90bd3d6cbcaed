/- Merged (what the law reaches): SerI, SerD. -/
import Derived.Test.YtcfkemchekmjbaaGreatDoorVh
import Derived.Laws.Bits64
import Derived.Laws.BitsAllLaws
namespace Go.Proofs.YtcfkemchekmjbaaGreatDoor
open Go.RowKit
theorem anyone_c {x : Int} {y : Int} {w : World} : Calls Tryz.prog 75 #[.int .u64 x, .int .i64 y] w fun e w' => e = .returned (.bool true) ∧ w = w' := by
  go_enter Tryz.func75, Tryz.ntmps75
  go_wp2_with fail
  go_ret
  exact ⟨rfl, rfl⟩
/-- The callback does what go says, and keeps the search's state. -/
structure CbOK {α : Type} (K : EsK) (go : α → List Int → α × Bool) (I : α → World → Prop) (Live : α → Prop) : Prop where
  call : ∀ a w v k used, k = K.na → Live a → Es K w v k used → I a w → Calls Tryz.prog K.cN (#[v] ++ K.caps) w fun e w' => e = .returned (.bool (go a used).2) ∧ I (go a used).1 w' ∧ Es K w' v k used ∧ Fr K w v w' v
  enters : ∀ args w, (callFunc K.cN args).run Tryz.prog w = .ok (.enter K.cN args) w
  live : ∀ a used, Live a → (go a used).2 = true → Live (go a used).1
  below : ∀ a w w', I a w → Below w.heap.size w w' → I a w'
  far : ∀ a w w', Live a → I a w → (∀ i, K.cb i → w'.heap[i]? = w.heap[i]?) → w.heap.size ≤ w'.heap.size → I a w'
theorem srchL_live {α : Type} {Live : α → Prop} {ts : List Tx} {rec : Int → List Int → α → α × Bool} {used s : List Int} (hr : ∀ n s a, Live a → (rec n s a).2 = true → Live (rec n s a).1) :
    ∀ (l : List Int) (a : α), Live a → (srchL ts rec used s l a).2 = true → Live (srchL ts rec used s l a).1
  | [], a, h, _ => h
  | n :: l, a, h, h2 => by
    cases hc : used.contains n
    · cases hf : followL s (opsOf ts n.toNat) with
      | none => rw [srchL_none ts hc hf] at h2 ⊢; exact srchL_live hr l a h h2
      | some s' =>
        cases hb : (rec n s' a).2
        · rw [srchL_stop ts hc hf hb] at h2; cases h2
        · rw [srchL_on ts hc hf hb] at h2 ⊢; exact srchL_live hr l _ (hr n s' a h hb) h2
    · rw [srchL_used ts hc] at h2 ⊢; exact srchL_live hr l a h h2
theorem srch_live {α : Type} {go : α → List Int → α × Bool} {Live : α → Prop} (ts : List Tx) (all : List Int) (hg : ∀ a used, Live a → (go a used).2 = true → Live (go a used).1) : ∀ (f : Nat) (s used : List Int) (a : α), Live a → (srch go ts all f s used a).2 = true → Live (srch go ts all f s used a).1
  | 0, _, used, a, h, h2 => hg a used h h2
  | f + 1, _, used, a, h, h2 => srchL_live (fun n s' a h h2 => srch_live ts all hg f s' (used ++ [n]) a h h2) all a h h2
theorem mask_bit {g m : Nat} {used : List Int} (h : MaskOf g used) (hm : m < 6) : (bits .and .u64 ((g : Int) / 2 ^ m) 1 == 1) = used.contains (m : Int) := by
  have h1 := h.1
  have e : ((g : Int) / 2 ^ m) = ((g / 2 ^ m : Nat) : Int) := by
    rw [Int.natCast_ediv]; congr 1
  have hq : g / 2 ^ m ≤ g := Nat.div_le_self _ _
  rw [e, show (1 : Int) = ((1 : Nat) : Int) from rfl, u64_and_nat _ _ (by omega) (by omega), ← h.2 m hm]
  rw [Nat.and_one_is_mod, Nat.testBit_eq_decide_div_mod_eq, Bool.eq_iff_iff]
  simp
  omega
theorem mask_or {g m : Nat} (h1 : g < 64) (hm : m < 6) : bits .or .u64 (g : Int) (IntKind.u64.wrap (2 ^ m)) = ((g ||| 2 ^ m : Nat) : Int) := by
  have hp : 2 ^ m ≤ 32 := by
    match m, hm with
    | 0, _ => decide
    | 1, _ => decide
    | 2, _ => decide
    | 3, _ => decide
    | 4, _ => decide
    | 5, _ => decide
  have hw : IntKind.u64.wrap (2 ^ m) = ((2 ^ m : Nat) : Int) := by
    match m, hm with
    | 0, _ => rfl
    | 1, _ => rfl
    | 2, _ => rfl
    | 3, _ => rfl
    | 4, _ => rfl
    | 5, _ => rfl
  rw [hw, u64_or_nat g _ (by omega) (by omega)]
/-- 'order[:k]' on a row of the call's own. -/
theorem slice_pop (g k c : Nat) (hk : k + 1 ≤ c) (w : World) : (Instr.slice 24 (.slice (some ⟨g, 0, none⟩) (k + 1) c) none (some (.int .i64 (k : Int))) none).run Tryz.prog w = .ok (.slice (some ⟨g, 0, none⟩) k c) w := by
  obtain ⟨i, hi, hz, hsz, hb⟩ := info_parts intInfo
  have h2 : k ≤ c := by omega
  have h3 : c ≠ 0 := by omega
  simp [Instr.slice, Instr.sliceBounds, Instr.sliceBound, run_underlying Tryz.underlying24, sizeOf, typeInfo, hi, asIntOf, h2, h3, addr_add]
theorem OI.ownform {w : World} {B k : Nat} {v : Value} {xs : List Int} (h : OI w B v (k + 1) xs) : ∃ g c, v = .slice (some ⟨g, 0, none⟩) (k + 1) c ∧ k + 1 ≤ c := by
  obtain ⟨A, c, rfl, hc, _, _, h5, h6⟩ := h.form
  cases A with
  | none => have := (h5 rfl).1; omega
  | some a => obtain ⟨g, rfl, _⟩ := h6 a rfl; exact ⟨g, c, rfl, hc⟩
theorem three_of {l : List Int} (h : l.length = 3) : ∃ x y z, l = [x, y, z] := by
  match l, h with
  | [x, y, z], _ => exact ⟨x, y, z, rfl⟩
def FromR {α : Type} (K : EsK) (I : α → World → Prop) (r1 : α) (r2 : Bool) (w : World) (v : Value) (k : Nat) (used : List Int) (e : Ending) (w' : World) : Prop :=
  ∃ v' k' used', e = .returned (.bool r2) ∧ Es K w' v' k' used' ∧ Fr K w v w' v' ∧ I r1 w' ∧ (r2 = true → k' = k ∧ used' = used)
set_option maxRecDepth 100000 in
set_option maxHeartbeats 16000000 in
theorem from_c {α : Type} {K : EsK} {go : α → List Int → α × Bool} {I : α → World → Prop} {Live : α → Prop} (hcb : CbOK K go I Live) (hr : RTs K.wb K.A K.n K.ts) (hin : ∀ x ∈ K.all, ∃ j : Nat, x = j ∧ j < K.n ∧ j < 6)
    (hk : ∀ t ∈ K.ts, ∀ o ∈ t.2.1, (o.1 = 1 ∨ o.1 = 2) ∧ 0 ≤ o.2.1 ∧ o.2.1 ≤ 2) (hsm : SmallT K.ts) (h6 : K.na ≤ 6) :
    ∀ (f : Nat) (w : World) (v : Value) (k : Nat) (used : List Int) (x y z : Int) (g : Nat) (a : α), Es K w v k used → k + f = K.na → MaskOf g used → Live a → I a w →
    Calls Tryz.prog 174 #[.agg #[.int .i64 x, .int .i64 y, .int .i64 z], .int .u64 (g : Int), .pointer (some ⟨K.bO, 0, none⟩), .pointer (some ⟨K.bA, 0, none⟩), .pointer (some ⟨K.bC, 0, none⟩), .pointer (some ⟨K.bL, 0, none⟩), .pointer (some ⟨K.bH, 0, none⟩), .pointer (some ⟨K.bF, 0, none⟩)] w
      (FromR K I (srch go K.ts K.all f [x, y, z] used a).1 (srch go K.ts K.all f [x, y, z] used a).2 w v k used) := by
  intro f
  induction f with
  | zero =>
    intro w v k used x y z g a hE hkf hm hL hI
    obtain rfl : k = K.na := by omega
    clear hkf
    obtain ⟨Av, cv, rfl⟩ := hE.oO.shape
    obtain ⟨Aa, ca, hva⟩ := hE.oA.shape
    have b0 : Below w.heap.size w (w.alloc (.cells #[.int .i64 x, .int .i64 y, .int .i64 z] 58)) := (Below.refl _ _).alloc (Nat.le_refl _) _
    have E1 := hE.below b0
    have I1 := hcb.below a _ _ hI b0
    have cO := E1.hO.cell 0
    have cA : (w.alloc (.cells #[.int .i64 x, .int .i64 y, .int .i64 z] 58)).cell? ⟨K.bA, 0, none⟩ = some (.slice Aa K.na ca) := by rw [← hva]; exact E1.hA.cell 0
    have cC := E1.hC.cell 0
    have hkn' : ((K.na : Int) == (K.na : Int)) = true := by simp
    have en := hcb.enters
    go_enter Tryz.func174, Tryz.ntmps174
    go_wp2_with fail
    refine (hcb.call a _ _ _ used rfl hL E1 I1).mono ?_
    rintro e w2 ⟨rfl, i2, e2, f2⟩
    go_wp2_with fail
    go_ret
    exact ⟨_, _, used, rfl, e2, (Fr.of_below b0).trans f2, i2, fun _ => ⟨rfl, rfl⟩⟩
  | succ f ih =>
    intro w v k used x y z g a hE hkf hm hL hI
    have hkn : k < K.na := by omega
    obtain ⟨Av, cv, rfl⟩ := hE.oO.shape
    obtain ⟨Aa, ca, hva⟩ := hE.oA.shape
    have b0 : Below w.heap.size w (w.alloc (.cells #[.int .i64 x, .int .i64 y, .int .i64 z] 58)) := (Below.refl _ _).alloc (Nat.le_refl _) _
    have E1 := hE.below b0
    have I1 := hcb.below a _ _ hI b0
    have cO := E1.hO.cell 0
    have cA : (w.alloc (.cells #[.int .i64 x, .int .i64 y, .int .i64 z] 58)).cell? ⟨K.bA, 0, none⟩ = some (.slice Aa K.na ca) := by rw [← hva]; exact E1.hA.cell 0
    have hkn' : ((k : Int) == (K.na : Int)) = false := by simp; omega
    have hsi : SI w (.slice Aa K.na ca) K.na K.all := by rw [← hva]; exact hE.oA.si
    obtain ⟨Aa', ca', ea, hac, ham, hri⟩ := hsi
    obtain ⟨rfl, rfl⟩ : Aa = Aa' ∧ ca = ca' := by simpa using ea
    have HRI := hide hri
    have Ks := hide (Blk.new w 58 #[.int .i64 x, .int .i64 y, .int .i64 z])
    have E1H := hide E1; have I1H := hide I1
    obtain ⟨w1, hw1⟩ : ∃ q, w.alloc (.cells #[.int .i64 x, .int .i64 y, .int .i64 z] 58) = q := ⟨_, rfl⟩
    rw [hw1] at Ks E1H I1H b0 cO cA
    have hlt : w.heap.size < w1.heap.size := by rw [← hw1]; simp
    have hlen := hri.len
    have HVA := hide hva
    clear ea hri hva E1 I1
    go_enter Tryz.func174, Tryz.ntmps174
    go_wp2_with fail
    clear cO cA hw1
    go_loopw [24] (fun i W => ∃ (j : Nat) (b : α) (v' : Value), i = .int .i64 j ∧ j ≤ K.na ∧ Es K W v' k used ∧ Fr K w1 (.slice Av k cv) W v' ∧ I b W ∧ Live b ∧ srch go K.ts K.all (f + 1) [x, y, z] used a = srchL K.ts (fun n s' a => srch go K.ts K.all f s' (used ++ [n]) a) used [x, y, z] (K.all.drop j) b) (fun i _ => K.na - (intOf i).toNat)
    case atStart => exact ⟨0, a, _, rfl, Nat.zero_le _, E1H.out, Fr.refl, I1H.out, hL, rfl⟩
    case round =>
      clear E1H I1H
      obtain ⟨j, b, v', rfl, hj, hE2, hF2, hI2, hL2, he⟩ := hrel
      have HE := hide he; clear he
      by_cases hjn : j < K.na
      · have hsa : SI wr (.slice Aa K.na ca) K.na K.all := by rw [← HVA.out]; exact hE2.oA.si
        obtain ⟨A9, c9, e9, _, _, hra⟩ := hsa
        obtain ⟨rfl, rfl⟩ : Aa = A9 ∧ ca = c9 := by simpa using e9
        obtain ⟨b1, o1, x9, rfl, hb1, hx9, hc9⟩ := hra.at_ hjn
        obtain ⟨m, rfl, hmn, hm6⟩ := hin x9 (List.mem_of_getElem? hx9)
        have hdrop : K.all.drop j = (m : Int) :: K.all.drop (j + 1) := by
          have hl : j < K.all.length := (List.getElem?_eq_some_iff.1 hx9).1
          rw [List.drop_eq_getElem_cons hl, (List.getElem?_eq_some_iff.1 hx9).2]
        have hg := HE.out
        rw [hdrop] at hg
        have HG := hide hg
        have KS := hide (Ks.out.fr hF2 (fun e => by have := hE.hO.lt; omega) (fun hc => by have := (hE.cbs _ hc).2.1; omega) (fun e => by have := (hE.row_lt e).2; omega))
        obtain ⟨s0, s1, s2⟩ := KS.out.three
        have j0 : (0 : Int) ≤ j := by omega
        have j2 : (j : Int) < K.na := by omega
        have hne : w.heap.size < wr.heap.size := Nat.lt_of_lt_of_le hlt hF2.size
        have m0 : (0 : Int) ≤ m := by omega
        have m2 : (m : Int) < K.n := by omega
        have m63 : (m : Int) < 64 := by omega
        clear hg hx9 e9 hdrop HE
        obtain ⟨W1, hW1⟩ : ∃ q, wr.alloc (.cells #[.int .i64 x, .int .i64 y, .int .i64 z] 58) = q := ⟨_, rfl⟩
        have BA : Below wr.heap.size wr W1 := by rw [← hW1]; exact (Below.refl _ _).alloc (Nat.le_refl _) _
        have EA := hE2.below BA
        have FA := hF2.below BA
        have IA := hcb.below b _ _ hI2 BA
        have hbit := mask_bit hm hm6
        cases hc : used.contains (m : Int)
        · rw [hc] at hbit
          obtain ⟨bt, ot, f', ys, dn, B, kk, d, hKA, hbt, hxt, q0, q1, q2, hkd, hdm, hry⟩ := hr.at_ hmn
          have cL := EA.hL.cell 0
          have cH : W1.cell? ⟨K.bH, 0, none⟩ = some (.slice (some ⟨bt, ot, none⟩) K.n K.c) := by rw [← hKA]; exact EA.hH.cell 0
          have p0 := (EA.bw.cell (p := ⟨bt, ot + m * 3, none⟩) hbt).trans q0
          have p1 := (EA.bw.cell (p := ⟨bt, ot + m * 3 + 1, none⟩) hbt).trans q1
          have p2 := (EA.bw.cell (p := ⟨bt, ot + m * 3 + 2, none⟩) hbt).trans q2
          have hops : opsOf K.ts ((m : Int)).toNat = ys := by unfold opsOf; rw [List.getD_eq_getElem?_getD, Int.toNat_natCast, hxt]; rfl
          have hky := hk _ (List.mem_of_getElem? hxt)
          have h61 : kk ≤ 1048576 := by have h1 := hsm _ (List.mem_of_getElem? hxt); have h2 := hry.len; dsimp only at h1; omega
          have S1 : S3 K.wb (.slice B kk d) kk ys := S3.of_args hkd h61 hry
          have K2 : StB W1 wr.heap.size [x, y, z] := ⟨rfl, by rw [← hW1]; exact Blk.new wr 58 _⟩
          have HOPS := hide hops; have HC := hide hc; have HKY := hide hky; have BAH := hide BA; have HK2 := hide K2
          clear q0 q1 q2 hxt hops hc hky hry K2 IA FA
          go_wp2_with fail
          refine (anyone_c).mono ?_
          rintro e w2 ⟨rfl, rfl⟩
          go_wp2_with fail
          refine (follow_c EA.bw S1 (Nat.le_trans hE2.bw.size (Nat.le_refl _)) HK2.out HKY.out).mono ?_
          rintro e w3 ⟨rfl, hst, b3, g3⟩
          have BW3 : Below wr.heap.size wr w3 := below_of_grown BAH.out g3 BAH.out.size (fun q hq => by injection hq with hq; omega)
          have E3 := hide (hE2.below BW3); have F3 := hide (hF2.below BW3); have I3 := hide (hcb.below b _ _ hI2 BW3)
          have hsz3 := BW3.size
          clear cL cH p0 p1 p2 BW3 BA g3 b3 s0 s1 s2
          cases hf : followL [x, y, z] ys with
          | none =>
            have hgo := HG.out.trans (srchL_none K.ts HC.out (by rw [HOPS.out]; exact hf))
            have HGO := hide hgo
            clear hgo hst hf
            rw [show (none : Option (List Int)).isSome = false from rfl]
            go_wp2_with fail
            go_roundw
            case rel => exact ⟨j + 1, b, v', by go_num, by omega, E3.out, F3.out, I3.out, hL2, HGO.out⟩
            case measure => simp [intOf]; omega
          | some s' =>
            have hst2 := hst s' hf
            obtain ⟨x', y', z', rfl⟩ := three_of hst2.1
            have hf2 : followL [x, y, z] (opsOf K.ts ((m : Int)).toNat) = some [x', y', z'] := by rw [HOPS.out]; exact hf
            have HF2 := hide hf2
            have K3 := hide hst2.2
            obtain ⟨Av', cv', rfl⟩ := hE2.oO.shape
            clear hf2 hf hst hst2
            obtain ⟨w4, hw4⟩ : ∃ q, w3.alloc (.cells #[.int .i64 (m : Int)] 3) = q := ⟨_, rfl⟩
            have b4 : Below w3.heap.size w3 w4 := by rw [← hw4]; exact (Below.refl _ _).alloc (Nat.le_refl _) _
            have E4 := hide (E3.out.below b4); have F4 := hide (F3.out.below b4); have I4 := hide (hcb.below b _ _ I3.out b4)
            have K4 := hide (K3.out.belowAll b4)
            have c3 : w3.cell? ⟨K.bO, 0, none⟩ = some (.slice Av' k cv') := E3.out.hO.cell 0
            have sone : SI w4 (.slice (some ⟨w3.heap.size, 0, none⟩) 1 1) 1 [(m : Int)] := by rw [← hw4]; exact SI.one _ _ _ (by omega)
            have hnot4 : K.bO < w4.heap.size := E4.out.hO.lt
            rw [show (some [x', y', z'] : Option (List Int)).isSome = true from rfl]
            have E5 := fun v5 w5 (o5 : OI w5 K.wb.heap.size v5 (k + 1) (used ++ [(m : Int)])) (hg5 : w4.grownBy w5 (Value.slice Av' k cv').ownBlock) (hat : v5.ownBlock = (Value.slice Av' k cv').ownBlock ∨ v5.ownBlock = some w4.heap.size) => E4.out.put hg5 o5 (hat.imp id (fun e i hi => by rw [e] at hi; injection hi with hi; omega))
            have E5H := hide E5
            clear E5
            go_upto_region 9 with (at_builtin; refine wpList_appI rfl _ _ rfl rfl E4.out.oO rfl sone (by omega) (by have := E4.out.bw.size; omega) ?_; intro v5 w5 o5 hg5 hat; obtain ⟨g5, d5, rfl, hc5⟩ := o5.ownform; have c5 := (E4.out.hO.grown hg5 (fun e => E4.out.ne_row E4.out.hO (by decide) e.symm)).cell 0; have f5 := (E4.out.hO.grown hg5 (fun e => E4.out.ne_row E4.out.hO (by decide) e.symm)).frozen 0)
            obtain ⟨W5, hW5⟩ : ∃ q, w5.setCell ⟨K.bO, 0, none⟩ (.slice (some ⟨g5, 0, none⟩) (k + 1) d5) = q := ⟨_, rfl⟩
            have hput := E5H.out _ _ o5 hg5 hat
            rw [hW5] at hput
            rw [hW5]
            obtain ⟨E6, F6⟩ := hput
            have nb1 : wr.heap.size ≠ K.bO := fun e => by have := hE2.hO.lt; omega
            have nb2 : ¬ K.cb wr.heap.size := fun hc => by have := (hE2.cbs _ hc).2.1; omega
            have nb3 : (Value.slice Av' k cv').ownBlock ≠ some wr.heap.size := fun e => by have := (hE2.row_lt e).2; omega
            have K6 := K4.out.fr F6 nb1 nb2 nb3
            have nb4 : (Value.slice (some ⟨g5, 0, none⟩) (k + 1) d5).ownBlock ≠ some wr.heap.size := by
              rcases F6.row with e | e
              · rw [e]; exact nb3
              · intro e2; have h1 := e _ e2; have h2 := K4.out.lt; omega
            have I6 : I b W5 := by
              refine hcb.far b w4 W5 hL2 I4.out (fun i hi => ?_) F6.size
              obtain ⟨_, h2, ⟨_, _, _, _, _, h8⟩, _, h9⟩ := E4.out.cbs i hi
              rw [← hW5]
              exact (Below.heap_setCell w5 ⟨K.bO, 0, none⟩ _ i (fun e => h8 e)).trans (hg5.block i h2 (fun e => h9 e.symm))
            have hcell : ∀ (W : World) (V : Value) (kq : Nat) (uq : List Int), Es K W V kq uq → Fr K W5 (.slice (some ⟨g5, 0, none⟩) (k + 1) d5) W V → (W.cell? ⟨K.bF, 0, none⟩ = some (.func (.func 174) #[] #[.pointer (some ⟨K.bO, 0, none⟩), .pointer (some ⟨K.bA, 0, none⟩), .pointer (some ⟨K.bC, 0, none⟩), .pointer (some ⟨K.bL, 0, none⟩), .pointer (some ⟨K.bH, 0, none⟩), .pointer (some ⟨K.bF, 0, none⟩)]) ∧ W.cell? ⟨wr.heap.size, 0, none⟩ = some (.int .i64 x') ∧ W.cell? ⟨wr.heap.size, 1, none⟩ = some (.int .i64 y') ∧ W.cell? ⟨wr.heap.size, 2, none⟩ = some (.int .i64 z')) := fun W V kq uq hE hF =>
              ⟨hE.hF.cell 0, (K6.fr hF nb1 nb2 nb4).three⟩
            have EZ := E6.below (Below.refl W5.heap.size W5).drew
            have FZ : Fr K W5 (.slice (some ⟨g5, 0, none⟩) (k + 1) d5) W5.drew (.slice (some ⟨g5, 0, none⟩) (k + 1) d5) := Fr.of_below (Below.refl W5.heap.size W5).drew
            have IZ := hcb.below b _ _ I6 (Below.refl W5.heap.size W5).drew
            have hih := ih W5.drew _ (k + 1) (used ++ [(m : Int)]) x' y' z' (g ||| 2 ^ m) b EZ (by omega) (hm.snoc hm6) hL2 IZ
            rw [← mask_or hm.1 hm6] at hih
            have F5 := hide (F4.out.trans F6)
            obtain ⟨r, hrr⟩ : ∃ r, srch go K.ts K.all f [x', y', z'] (used ++ [(m : Int)]) b = r := ⟨_, rfl⟩
            rw [hrr] at hih
            have HRR := hide hrr
            clear hrr F6 E6 c5 f5 hW5 hg5 hat o5 I6 K6 sone c3 hw4 b4 hbit
            rcases r with ⟨r1, r2⟩
            cases r2
            · dsimp only at hih
              refine wp_region_held_drew (S := (fun W => W.cell? ⟨K.bF, 0, none⟩ = some (.func (.func 174) #[] #[.pointer (some ⟨K.bO, 0, none⟩), .pointer (some ⟨K.bA, 0, none⟩), .pointer (some ⟨K.bC, 0, none⟩), .pointer (some ⟨K.bL, 0, none⟩), .pointer (some ⟨K.bH, 0, none⟩), .pointer (some ⟨K.bF, 0, none⟩)]) ∧ W.cell? ⟨wr.heap.size, 0, none⟩ = some (.int .i64 x') ∧ W.cell? ⟨wr.heap.size, 1, none⟩ = some (.int .i64 y') ∧ W.cell? ⟨wr.heap.size, 2, none⟩ = some (.int .i64 z'))) (by kernel_rfl) ?_ (fun hHeld => ?_)
              · exact hcell _ _ _ _ EZ FZ
              refine wpAnyH_take (i := 0) (v := ?vv1_0) (by rw [List.getElem?_toArray]; exact rfl) (by kernel_rfl) (by kernel_rfl) (by kernel_rfl) (by intro _ _ _ h; exact h) (Or.inl ⟨by rfl, ?hy1_0⟩) hHeld ?rest1_0
              case' hy1_0 => (intro w hSw; (try dsimp only at hSw); go_simp; try (with_reducible rfl))
              (try simp only [Act.put, List.setIfInBounds_toArray, List.set_cons_zero, List.set_cons_succ])
              refine wpAnyH_take (i := 1) (v := ?vv1_1) (by rw [List.getElem?_toArray]; exact rfl) (by kernel_rfl) (by kernel_rfl) (by kernel_rfl) (by intro _ _ _ h; exact h) (Or.inl ⟨by rfl, ?hy1_1⟩) hHeld ?rest1_1
              case' hy1_1 => (intro w hSw; (try dsimp only at hSw); go_simp; try (with_reducible rfl))
              (try simp only [Act.put, List.setIfInBounds_toArray, List.set_cons_zero, List.set_cons_succ])
              refine wpAnyH_take (i := 2) (v := ?vv1_2) (by rw [List.getElem?_toArray]; exact rfl) (by kernel_rfl) (by kernel_rfl) (by kernel_rfl) (by intro _ _ _ h; exact h) (Or.inl ⟨by rfl, ?hy1_2⟩) hHeld ?rest1_2
              case' hy1_2 => (intro w hSw; (try dsimp only at hSw); go_simp; try (with_reducible rfl))
              (try simp only [Act.put, List.setIfInBounds_toArray, List.set_cons_zero, List.set_cons_succ])
              refine wpAnyH_take (i := 3) (v := ?vv1_3) (by rw [List.getElem?_toArray]; exact rfl) (by kernel_rfl) (by kernel_rfl) (by kernel_rfl) (by intro _ _ _ h; exact h) (Or.inl ⟨by rfl, ?hy1_3⟩) hHeld ?rest1_3
              case' hy1_3 => (intro w hSw; (try dsimp only at hSw); go_simp; try (with_reducible rfl))
              (try simp only [Act.put, List.setIfInBounds_toArray, List.set_cons_zero, List.set_cons_succ])
              refine wpAnyH_take (i := 4) (v := ?vv1_4) (by rw [List.getElem?_toArray]; exact rfl) (by kernel_rfl) (by kernel_rfl) (by kernel_rfl) (by intro _ _ _ h; exact h) (Or.inl ⟨by rfl, ?hy1_4⟩) hHeld ?rest1_4
              case' hy1_4 => (intro w hSw; (try dsimp only at hSw); go_simp; try (with_reducible rfl))
              (try simp only [Act.put, List.setIfInBounds_toArray, List.set_cons_zero, List.set_cons_succ])
              refine wpAnyH_take (i := 5) (v := ?vv1_5) (by rw [List.getElem?_toArray]; exact rfl) (by kernel_rfl) (by kernel_rfl) (by kernel_rfl) (by intro _ _ _ h; exact h) (Or.inl ⟨by rfl, ?hy1_5⟩) hHeld ?rest1_5
              case' hy1_5 => (intro w hSw; (try dsimp only at hSw); go_simp; try (with_reducible rfl))
              (try simp only [Act.put, List.setIfInBounds_toArray, List.set_cons_zero, List.set_cons_succ])
              refine wpAnyH_ready (rs := [6]) (by kernel_rfl) (by simp) ?_
              refine AllReadyH.cons (by rw [List.getElem?_toArray]; exact rfl) (fun K hK => ?_) AllReadyH.nil
              go_simp
              refine hih.mono ?_
              rintro e w6 ⟨v6, k6, used6, rfl, E7, F7, I7, hR⟩
              clear EZ
              have EZ := E7
              replace FZ := FZ.trans F7
              refine hK.out _ _ ?_ (fun hHeld => ?_)
              · exact hcell _ _ _ _ EZ FZ
              clear hK K
              (try simp only [Act.put, List.setIfInBounds_toArray, List.set_cons_zero, List.set_cons_succ])
              refine wpAnyH_take (i := 7) (v := ?vv1_7) (by rw [List.getElem?_toArray]; exact rfl) (by kernel_rfl) (by kernel_rfl) (by kernel_rfl) (by intro _ _ _ h; exact h) (Or.inl ⟨by rfl, ?hy1_7⟩) hHeld ?rest1_7
              case' hy1_7 => (intro w hSw; (try dsimp only at hSw); go_simp; try (with_reducible rfl))
              (try simp only [Act.put, List.setIfInBounds_toArray, List.set_cons_zero, List.set_cons_succ])
              refine wpAnyH_done (by kernel_rfl) ?_ _
              have F7' := hide FZ
              go_wp2_with fail
              go_ret
              have hgo := HG.out.trans (srchL_stop K.ts HC.out HF2.out (by rw [HRR.out]))
              rw [HRR.out] at hgo
              refine ⟨v6, k6, used6, by rw [hgo]; rfl, EZ, (Fr.of_below b0).trans (F5.out.trans F7'.out), by rw [hgo]; exact I7, fun h => by rw [hgo] at h; cases h⟩
            · dsimp only at hih
              refine wp_region_held_drew (S := (fun W => W.cell? ⟨K.bF, 0, none⟩ = some (.func (.func 174) #[] #[.pointer (some ⟨K.bO, 0, none⟩), .pointer (some ⟨K.bA, 0, none⟩), .pointer (some ⟨K.bC, 0, none⟩), .pointer (some ⟨K.bL, 0, none⟩), .pointer (some ⟨K.bH, 0, none⟩), .pointer (some ⟨K.bF, 0, none⟩)]) ∧ W.cell? ⟨wr.heap.size, 0, none⟩ = some (.int .i64 x') ∧ W.cell? ⟨wr.heap.size, 1, none⟩ = some (.int .i64 y') ∧ W.cell? ⟨wr.heap.size, 2, none⟩ = some (.int .i64 z'))) (by kernel_rfl) ?_ (fun hHeld => ?_)
              · exact hcell _ _ _ _ EZ FZ
              refine wpAnyH_take (i := 0) (v := ?vv2_0) (by rw [List.getElem?_toArray]; exact rfl) (by kernel_rfl) (by kernel_rfl) (by kernel_rfl) (by intro _ _ _ h; exact h) (Or.inl ⟨by rfl, ?hy2_0⟩) hHeld ?rest2_0
              case' hy2_0 => (intro w hSw; (try dsimp only at hSw); go_simp; try (with_reducible rfl))
              (try simp only [Act.put, List.setIfInBounds_toArray, List.set_cons_zero, List.set_cons_succ])
              refine wpAnyH_take (i := 1) (v := ?vv2_1) (by rw [List.getElem?_toArray]; exact rfl) (by kernel_rfl) (by kernel_rfl) (by kernel_rfl) (by intro _ _ _ h; exact h) (Or.inl ⟨by rfl, ?hy2_1⟩) hHeld ?rest2_1
              case' hy2_1 => (intro w hSw; (try dsimp only at hSw); go_simp; try (with_reducible rfl))
              (try simp only [Act.put, List.setIfInBounds_toArray, List.set_cons_zero, List.set_cons_succ])
              refine wpAnyH_take (i := 2) (v := ?vv2_2) (by rw [List.getElem?_toArray]; exact rfl) (by kernel_rfl) (by kernel_rfl) (by kernel_rfl) (by intro _ _ _ h; exact h) (Or.inl ⟨by rfl, ?hy2_2⟩) hHeld ?rest2_2
              case' hy2_2 => (intro w hSw; (try dsimp only at hSw); go_simp; try (with_reducible rfl))
              (try simp only [Act.put, List.setIfInBounds_toArray, List.set_cons_zero, List.set_cons_succ])
              refine wpAnyH_take (i := 3) (v := ?vv2_3) (by rw [List.getElem?_toArray]; exact rfl) (by kernel_rfl) (by kernel_rfl) (by kernel_rfl) (by intro _ _ _ h; exact h) (Or.inl ⟨by rfl, ?hy2_3⟩) hHeld ?rest2_3
              case' hy2_3 => (intro w hSw; (try dsimp only at hSw); go_simp; try (with_reducible rfl))
              (try simp only [Act.put, List.setIfInBounds_toArray, List.set_cons_zero, List.set_cons_succ])
              refine wpAnyH_take (i := 4) (v := ?vv2_4) (by rw [List.getElem?_toArray]; exact rfl) (by kernel_rfl) (by kernel_rfl) (by kernel_rfl) (by intro _ _ _ h; exact h) (Or.inl ⟨by rfl, ?hy2_4⟩) hHeld ?rest2_4
              case' hy2_4 => (intro w hSw; (try dsimp only at hSw); go_simp; try (with_reducible rfl))
              (try simp only [Act.put, List.setIfInBounds_toArray, List.set_cons_zero, List.set_cons_succ])
              refine wpAnyH_take (i := 5) (v := ?vv2_5) (by rw [List.getElem?_toArray]; exact rfl) (by kernel_rfl) (by kernel_rfl) (by kernel_rfl) (by intro _ _ _ h; exact h) (Or.inl ⟨by rfl, ?hy2_5⟩) hHeld ?rest2_5
              case' hy2_5 => (intro w hSw; (try dsimp only at hSw); go_simp; try (with_reducible rfl))
              (try simp only [Act.put, List.setIfInBounds_toArray, List.set_cons_zero, List.set_cons_succ])
              refine wpAnyH_ready (rs := [6]) (by kernel_rfl) (by simp) ?_
              refine AllReadyH.cons (by rw [List.getElem?_toArray]; exact rfl) (fun K hK => ?_) AllReadyH.nil
              go_simp
              refine hih.mono ?_
              rintro e w6 ⟨v6, k6, used6, rfl, E7, F7, I7, hR⟩
              clear EZ
              have EZ := E7
              replace FZ := FZ.trans F7
              refine hK.out _ _ ?_ (fun hHeld => ?_)
              · exact hcell _ _ _ _ EZ FZ
              clear hK K
              (try simp only [Act.put, List.setIfInBounds_toArray, List.set_cons_zero, List.set_cons_succ])
              refine wpAnyH_take (i := 7) (v := ?vv2_7) (by rw [List.getElem?_toArray]; exact rfl) (by kernel_rfl) (by kernel_rfl) (by kernel_rfl) (by intro _ _ _ h; exact h) (Or.inl ⟨by rfl, ?hy2_7⟩) hHeld ?rest2_7
              case' hy2_7 => (intro w hSw; (try dsimp only at hSw); go_simp; try (with_reducible rfl))
              (try simp only [Act.put, List.setIfInBounds_toArray, List.set_cons_zero, List.set_cons_succ])
              refine wpAnyH_done (by kernel_rfl) ?_ _
              obtain ⟨rfl, rfl⟩ := hR rfl
              obtain ⟨g6, d6, rfl, hd6⟩ := EZ.oO.ownform
              have hp := EZ.pop
              have cO := EZ.hO.cell 0
              have fO := EZ.hO.frozen 0
              obtain ⟨E8, F8⟩ := EZ.put (World.grownBy.refl w6 _) hp (.inl rfl)
              have hsl := slice_pop g6 k d6 hd6
              have hL3 : Live r1 := by
                have h := srch_live (go := go) K.ts K.all hcb.live f [x', y', z'] (used ++ [(m : Int)]) b hL2
                rw [HRR.out] at h
                exact h rfl
              have I8 : I r1 (w6.setCell ⟨K.bO, 0, none⟩ (.slice (some ⟨g6, 0, none⟩) k d6)) := by
                refine hcb.far r1 w6 _ hL3 I7 (fun i hi => ?_) F8.size
                obtain ⟨_, h2, ⟨_, _, _, _, _, h8⟩, _, h9⟩ := EZ.cbs i hi
                exact Below.heap_setCell w6 ⟨K.bO, 0, none⟩ _ i (fun e => h8 e)
              have E8' := hide E8; have F8' := hide ((F5.out.trans FZ).trans F8); have I8' := hide I8
              have hgo := HG.out.trans (srchL_on K.ts HC.out HF2.out (by rw [HRR.out]))
              rw [HRR.out] at hgo
              have HGO := hide hgo
              have k63 : (k : Int) + 1 - 1 = k := by omega
              clear hcell EZ FZ E8 F8 I8 hgo hp E7 F7
              go_wp2_with fail
              go_roundw
              case rel => exact ⟨j + 1, r1, _, by go_num, by omega, E8'.out, F8'.out, I8'.out, hL3, HGO.out⟩
              case measure => simp [intOf]; omega
        · rw [hc] at hbit
          have hgo := HG.out.trans (srchL_used K.ts hc)
          have HGO := hide hgo
          clear hgo
          go_wp2_with fail
          go_roundw
          case rel => exact ⟨j + 1, b, v', by go_num, by omega, EA, FA, IA, hL2, HGO.out⟩
          case measure => simp [intOf]; omega
      · obtain rfl : j = K.na := by omega
        have he2 : srch go K.ts K.all (f + 1) [x, y, z] used a = (b, true) := by rw [HE.out, List.drop_eq_nil_of_le (by omega)]; rfl
        have F := hide he2; clear he2
        have FF := (Fr.of_below b0).trans hF2
        go_wp2_with fail
        go_ret
        exact ⟨v', k, used, by rw [F.out]; rfl, hE2, FF, by rw [F.out]; exact hI2, fun _ => ⟨rfl, rfl⟩⟩
end Go.Proofs.YtcfkemchekmjbaaGreatDoor

namespace Go.Proofs.YtcfkemchekmjbaaGreatDoor
theorem doneTo_lt (ts : List Tx) : ∀ (k : Nat) (x : Int), x ∈ doneTo ts k → ∃ j : Nat, x = j ∧ j < k
  | 0, x, h => by simp [doneTo] at h
  | k + 1, x, h => by
    simp only [doneTo, List.mem_append] at h
    rcases h with h | h
    · obtain ⟨j, e, hj⟩ := doneTo_lt ts k x h; exact ⟨j, e, by omega⟩
    · split at h
      · simp at h; exact ⟨k, h, by omega⟩
      · simp at h
theorem doneTo_nodup (ts : List Tx) : ∀ k, (doneTo ts k).Nodup
  | 0 => by simp [doneTo]
  | k + 1 => by
    simp only [doneTo]
    split
    · exact nodup_snoc (doneTo_nodup ts k) (fun h => by obtain ⟨j, e, hj⟩ := doneTo_lt ts k _ h; omega)
    · simpa using doneTo_nodup ts k
theorem doneL_nodup (ts : List Tx) : (doneL ts).Nodup := doneTo_nodup ts ts.length
end Go.Proofs.YtcfkemchekmjbaaGreatDoor
