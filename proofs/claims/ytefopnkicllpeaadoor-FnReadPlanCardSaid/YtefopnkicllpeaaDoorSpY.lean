/- The reference's ReadPlan: the walk. Printed by mk_spy.py. -/
import Derived.Test.YtefopnkicllpeaaDoorSpX
import Derived.Test.YtefopnkicllpeaaDoorPlS
import Derived.Deep.DeepCutAuto
namespace Go.Proofs.YtefopnkicllpeaaDoor
open Go.RowKit

/-- The words lie somewhere, in a block of strings. -/
def WB (w : World) (A : Option Addr) (n : Nat) (ls : List (List UInt8)) : Prop := RT w A n ls ∧ StrB w A
theorem WB.below {w w' : World} {A : Option Addr} {n : Nat} {ls : List (List UInt8)} (h : WB w A n ls) (hb : Below w.heap.size w w') : WB w' A n ls := ⟨h.1.below hb, h.2.below hb⟩
theorem WB.grown {w w' : World} {A : Option Addr} {n : Nat} {ls : List (List UInt8)} {row : Option Nat} (h : WB w A n ls) (hg : w.grownBy w' row) (hr : ∀ (g : Nat) (cs : Array Value), Blk w g 9 cs → some g ≠ row) : WB w' A n ls :=
  ⟨h.1.grown hg (fun a ha => by obtain ⟨cs, h1⟩ := h.2 a ha; exact hr _ _ h1), fun a ha => by obtain ⟨cs, h1⟩ := h.2 a ha; exact ⟨cs, h1.grown hg (hr _ _ h1)⟩⟩
theorem WB.far {w : World} {A : Option Addr} {n g i : Nat} {ls : List (List UInt8)} (h : WB w A n ls) {t : TypeId} {cs : Array Value} (hb : Blk w g t cs) (ht : t ≠ 9) (u : Value) : WB (w.setCell ⟨g, i, none⟩ u) A n ls :=
  ⟨h.1.far (p := ⟨g, i, none⟩) (fun a ha e => by
    obtain ⟨ds, h1⟩ := h.2 a ha
    rw [show a.block = g from e] at h1
    unfold Blk at h1 hb; rw [hb] at h1; injection h1 with h1; injection h1 with _ h1; exact ht h1) _, h.2.set _ _ _⟩
theorem OS.wb {w : World} {lo : Nat} {v : Value} {ls : List (List UInt8)} (h : OS w lo v ls) : ∃ A c, v = .slice A ls.length c ∧ ls.length ≤ c ∧ WB w A ls.length ls := by
  obtain ⟨A, c, rfl, h1, h2⟩ := h.shape
  refine ⟨A, c, rfl, h1, h2, fun a ha => ?_⟩
  rcases h.2 with ⟨e, h0⟩ | ⟨g, cap, cur, e, hB, hg, _⟩
  · injection e with e; subst e; cases ha
  · injection e with e; subst e; injection ha with ha; subst ha; exact ⟨cur, hg⟩
theorem OA.blk {w : World} {lo g n c : Nat} {A : List (Int × In)} (h : OA w lo (.slice (some ⟨g, 0, none⟩) n c) A) : ∃ cur, Blk w g 37 cur := by
  rcases h.row.2 with ⟨h1, _⟩ | ⟨g', cap, cur, h1, _, hh, _⟩
  · cases h1
  · injection h1 with h1; injection h1 with h1; injection h1 with h1; subst h1; exact ⟨cur, hh⟩
/-- The reference's answer. -/
def SReadR (s : List UInt8) (w : World) (e : Ending) (w' : World) : Prop :=
  Below w.heap.size w w' ∧ ((∃ (p : Ds) (A : Option Addr) (n c : Nat), planB p = true ∧ planT p = s ∧ e = .returned (.tuple #[.slice A n c, .bool true]) ∧ n ≤ c ∧ n ≤ 4 ∧ RDs w' A n p) ∨
    ((∀ p, planB p = true → planT p ≠ s) ∧ ∃ g, e = .returned (.tuple #[.slice (some ⟨g, 0, none⟩) 0 0, .bool false])))
/-- Where the reading stands. -/
structure SrI (w : World) (s : List UInt8) (A : Option Addr) (n k : Nat) (v : Value) (fr : Bool) (W : World) (es : List (Int × In)) (ds : Ds) : Prop where
  rd : rdTo (wordsTo s s.length) k = some (ds, fr)
  own : OA W w.heap.size v es
  says : SaysD es ds
  words : WB W A n (wordsTo s s.length)
  low : Below w.heap.size w W
theorem SrI.stop {w W : World} {s : List UInt8} {A : Option Addr} {n k : Nat} {v : Value} {fr : Bool} {es : List (Int × In)} {ds : Ds} (h : SrI w s A n k v fr W es ds) {x : List UInt8} (hx : (wordsTo s s.length)[k]? = some x) (hs : s ≠ []) (hr : rdStep (ds, fr) x = none) : ∀ p, planB p = true → planT p ≠ s := fun p h1 h2 => by
  have e1 := rd_plan h1 h2 hs
  have e2 : rdTo (wordsTo s s.length) (k + 1) = none := by rw [rdTo_succ hx, h.rd]; exact hr
  have hk := (List.getElem?_eq_some_iff.1 hx).1
  have e3 := rdTo_none ((wordsTo s s.length).length - (k + 1)) _ e2
  rw [show k + 1 + ((wordsTo s s.length).length - (k + 1)) = (wordsTo s s.length).length by omega, e1] at e3
  cases e3
theorem SrI.len {w W : World} {s : List UInt8} {A : Option Addr} {n k : Nat} {v : Value} {fr : Bool} {es : List (Int × In)} {ds : Ds} (h : SrI w s A n k v fr W es ds) : es.length = ds.length := by have := congrArg List.length h.says; simpa using this
theorem wordsTo_word (s : List UInt8) : ∀ k, k ≤ s.length → ∀ x ∈ wordsTo s k, x.length ≤ k
  | 0, _, x, hx => by simp [wordsTo] at hx; subst hx; simp
  | k + 1, h, x, hx => by
    obtain ⟨A, l, h1, h2⟩ := wordsTo_form s k (by omega)
    have ih := wordsTo_word s k (by omega)
    have h3 : s[k]? = some (s[k]'(by omega)) := List.getElem?_eq_getElem _
    rw [wordsTo_succ h3, h1] at hx
    rw [h1] at ih
    unfold wstep at hx
    split at hx
    · rcases List.mem_append.1 hx with hx | hx
      · have := ih x hx; omega
      · simp at hx; subst hx; simp
    · simp only [List.dropLast_concat, List.getLast?_concat, Option.getD_some] at hx
      rcases List.mem_append.1 hx with hx | hx
      · have := ih x (by simp [hx]); omega
      · simp at hx; subst hx
        have := ih l (by simp)
        simp; omega
set_option maxRecDepth 100000 in
set_option maxHeartbeats 4000000 in
theorem spec_ReadPlan_c {s : List UInt8} {w : World} (hlen : s.length ≤ 1048576) : Calls Tryd.prog 6 #[.string (str s)] w (SReadR s w) := by
  go_enter Tryd.func6, Tryd.ntmps6
  cases s with
  | nil =>
    have hne : (str []).toList.isEmpty = true := by rw [str_toList]; rfl
    have hq' : ((str []).toList == (str []).toList) = true := by simp
    have hw1 : (wordsTo [] ([] : List UInt8).length).length = 1 := rfl
    have hpb : planB [] = true := rfl
    have hpt : planT [] = [] := rfl
    have hSm : SmallD [] := fun d h => by cases h
    have b0 : Below w.heap.size w (w.alloc (.cells #[] 37)) := (Below.refl _ _).alloc (Nat.le_refl _) _
    go_wp2_with (go_at_call 18; refine (l3Words_c (s := []) (by simp)).mono ?_; rintro e w2 ⟨v, rfl, ho, b2⟩)
    obtain ⟨A, cc, rfl, hncc, hwb⟩ := ho.wb
    rw [hw1] at hncc ⊢
    have B2 := hide (below_step b0 b2)
    clear ho hwb b0 b2
    go_wp2_with fail
    refine wp_loop_rounds 1 ?_
    rw [rounds_succ]
    go_wp2_with fail
    refine (spec_PlanValid_c (RDs.nil (A := some ⟨w.heap.size, 0, none⟩)) (by omega) hSm).mono ?_
    rintro e W2 ⟨rfl, b2⟩
    rw [hpb]
    go_wp2_with fail
    refine (spec_PlanText_c (RDs.nil (A := some ⟨w.heap.size, 0, none⟩)) (by omega) hSm).mono ?_
    rintro e W3 ⟨rfl, b3⟩
    rw [hpt]
    go_wp2_with fail
    refine bodyPost_ret (v := .tuple #[.slice (some ⟨w.heap.size, 0, none⟩) 0 0, .bool true]) (by simp [results, Tryd.results6, go_sem]) rfl ?_
    exact ⟨below_step (below_step B2.out b2) b3, .inl ⟨[], _, 0, 0, rfl, rfl, rfl, Nat.le_refl _, by omega, RDs.nil⟩⟩
  | cons c0 s0 =>
    have hne : (str (c0 :: s0)).toList.isEmpty = false := by rw [str_toList]; rfl
    obtain ⟨s, hs⟩ : ∃ s, c0 :: s0 = s := ⟨_, rfl⟩
    have hs0 : s ≠ [] := by rw [← hs]; simp
    rw [hs] at hlen hne ⊢
    clear hs
    go_wp2_with (go_at_call 18; refine (l3Words_c hlen).mono ?_; rintro e w2 ⟨v, rfl, ho, b2⟩)
    obtain ⟨A, cc, rfl, hncc, hwb⟩ := ho.wb
    have b1 : Below w.heap.size w (w.alloc (.cells #[] 37)) := (Below.refl _ _).alloc (Nat.le_refl _) _
    have I0 : SrI w s A (wordsTo s s.length).length 0 (.slice (some ⟨w.heap.size, 0, none⟩) 0 0) true w2 [] [] :=
      ⟨rfl, (OA.zero (w := w)).below b2, rfl, hwb, below_step b1 b2⟩
    obtain ⟨n, hn⟩ : ∃ n, (wordsTo s s.length).length = n := ⟨_, rfl⟩
    have hn1 : n ≤ 1048577 := by
      obtain ⟨A, l, h1, h2⟩ := wordsTo_form s s.length (Nat.le_refl _)
      rw [← hn, h1]; simp; omega
    rw [hn] at I0 hncc ⊢
    have HI0 := hide I0
    have HN := hide hn
    clear I0 ho hwb b1 b2 hn
    go_wp2_with fail
    go_loopw [4, 6, 7] (fun v f i W => ∃ (k : Nat) (fr : Bool) (es : List (Int × In)) (ds : Ds), i = .int .i64 k ∧ k ≤ n ∧ f = .bool fr ∧ SrI w s A n k v fr W es ds) (fun _ _ i _ => n - (intOf i).toNat)
    case atStart => exact ⟨0, true, [], [], rfl, Nat.zero_le _, rfl, HI0.out⟩
    case round =>
      clear HI0
      obtain ⟨k, fr, es, ds, rfl, hk, rfl, I⟩ := hrel
      obtain ⟨hl1, hl2, hl3⟩ := rdTo_len k ds fr (by rw [HN.out]; exact hk) I.rd
      have HEL := hide I.len
      obtain ⟨A0, c0', rfl⟩ := row_shape I.own.row
      by_cases hkn : k < n
      · obtain ⟨b, off, x, rfl, hbb, hx, hcx⟩ := I.words.1.at_ hkn
        have i1 : decide ((k : Int) < 0) = false := by simp
        have i2 : decide (n ≤ k) = false := by simp; omega
        have k2 : (k : Int) < n := by omega
        have hcw := hcx
        have HI := hide I; have HX := hide hx; have HL1 := hide hl1; have HL2 := hide hl2
        have hxl : x.length ≤ 1048576 := by
          have := wordsTo_word s s.length (Nat.le_refl _) x (List.mem_of_getElem? hx)
          omega
        clear I hx hl1 hl2 hcw
        go_upto_region 8 with fail
        go_cut [9] (fun e W => e = .bool (endsS x) ∧ W = wr)
        case first =>
          rcases List.eq_nil_or_concat x with rfl | ⟨B, l, rfl⟩
          · have hz : ((str []).size : Int) = 0 := rfl
            have he : endsS [] = false := rfl
            go_wp2_with fail
            go_meet
            case rel => exact ⟨by rw [he], rfl⟩
          · rw [List.concat_eq_append] at *
            have hz : (str (B ++ [l])).size = B.length + 1 := by rw [str_size]; simp
            have hcc : (B ++ [l])[B.length]'(by simp) = l := by simp
            have hi : (str (B ++ [l]))[B.length]'(by omega) = l := (show (str (B ++ [l]))[B.length]'(by omega) = (B ++ [l])[B.length]'(by simp) from rfl).trans hcc
            clear hcc
            have i6 : IntKind.i64.wrap (B.length : Int) = (B.length : Int) := by rw [IntWalk.i64_left, IntWalk.wrap64_in _ (by simp at hxl; omega)]
            have i7 : (B.length : Int) < (B.length : Int) + 1 := by omega
            have i8 : (0 : Int) < (B.length : Int) + 1 := by omega
            have he : endsS (B ++ [l]) = (l == 59) := by unfold endsS; simp
            by_cases h59 : l = 59
            · subst h59
              go_wp2_with fail
              go_meet
              case rel => exact ⟨by rw [he]; rfl, rfl⟩
            · have hc59 : (l.toNat == 59) = false := by
                rw [beq_eq_false_iff_ne]; intro h; exact h59 (UInt8.toNat_inj.mp h)
              have hc59' : ((l.toNat : Int) == 59) = false := by
                rw [beq_eq_false_iff_ne]; intro h; exact h59 (UInt8.toNat_inj.mp (by exact_mod_cast h))
              go_wp2_with fail
              go_meet
              case rel => exact ⟨by rw [he, show (l == 59) = false by simpa using h59], rfl⟩
        case rest =>
          obtain ⟨he0, rfl⟩ := hcut
          obtain ⟨eb, heb⟩ : ∃ eb, endsS x = eb := ⟨_, rfl⟩
          rw [heb] at he0
          subst he0
          have HE := hide heb
          clear heb
          go_upto_if 40 with fail
          go_cut [8] (fun u W => u = .string (str (cutE x)) ∧ W = wc)
          case first =>
            have he := HE.out
            clear HE
            cases eb
            · have hc : cutE x = x := by unfold cutE; rw [he]; rfl
              have HC := hide hc
              clear hc
              go_wp2_with fail
              go_meet
              case rel => exact ⟨by rw [HC.out], rfl⟩
            · obtain ⟨B, rfl⟩ : ∃ B, x = B ++ [59] := by
                unfold endsS at he
                rw [beq_iff_eq] at he
                obtain ⟨B, hB⟩ := List.getLast?_eq_some_iff.1 he
                exact ⟨B, hB⟩
              have hc : cutE (B ++ [59]) = B := by unfold cutE; rw [he]; simp
              have HC := hide hc
              have hz : (str (B ++ [59])).size = B.length + 1 := by rw [str_size]; simp
              have i6 : IntKind.i64.wrap (B.length : Int) = (B.length : Int) := by rw [IntWalk.i64_left, IntWalk.wrap64_in _ (by simp at hxl; omega)]
              have hsl := slice_hi (B ++ [59]) (i := B.length) (by simp)
              rw [List.take_left] at hsl
              clear hc
              go_wp2_with fail
              go_meet
              case rel => exact ⟨by rw [HC.out], rfl⟩
          case rest =>
            obtain ⟨rfl, rfl⟩ := hcut
            obtain ⟨y, hy⟩ : ∃ y, cutE x = y := ⟨_, rfl⟩
            rw [hy]
            by_cases h2 : ∃ a c, y = [a, c]
            · obtain ⟨a, c, rfl⟩ := h2
              have HY := hide hy
              clear hy
              have hstr : str [a, c] = ⟨#[a, c]⟩ := rfl
              have hi0 : (ByteArray.mk #[a, c])[0]'(by show 0 < 2; omega) = a := rfl
              have hi1 : (ByteArray.mk #[a, c])[1]'(by show 1 < 2; omega) = c := rfl
              have hsz : ((ByteArray.mk #[a, c]).size : Int) = 2 := rfl
              have hc := c.toNat_lt
              rw [hstr]
              by_cases q1 : c.toNat < 48
              · have q1' : (c.toNat : Int) < 48 := by omega
                have hst : rdStep (ds, fr) x = none := by
                  unfold rdStep
                  rw [HY.out]
                  simp only; rw [if_pos (.inl q1)]
                have HST := hide (HI.out.stop HX.out hs0 hst)
                clear hst
                go_wp2_with fail
                refine bodyPost_ret (v := .tuple #[.slice (some ⟨wc.heap.size, 0, none⟩) 0 0, .bool false]) (by simp [results, Tryd.results6, go_sem]) rfl ?_
                exact ⟨HI.out.low.alloc HI.out.low.size _, .inr ⟨HST.out, _, rfl⟩⟩
              by_cases q2 : 57 < c.toNat
              · have q1' : ¬ (c.toNat : Int) < 48 := by omega
                have q2' : (57 : Int) < c.toNat := by omega
                have hst : rdStep (ds, fr) x = none := by
                  unfold rdStep
                  rw [HY.out]
                  simp only; rw [if_pos (.inr (.inl q2))]
                have HST := hide (HI.out.stop HX.out hs0 hst)
                clear hst
                go_wp2_with fail
                refine bodyPost_ret (v := .tuple #[.slice (some ⟨wc.heap.size, 0, none⟩) 0 0, .bool false]) (by simp [results, Tryd.results6, go_sem]) rfl ?_
                exact ⟨HI.out.low.alloc HI.out.low.size _, .inr ⟨HST.out, _, rfl⟩⟩
              by_cases q3 : 4 < es.length
              · have q1' : ¬ (c.toNat : Int) < 48 := by omega
                have q2' : ¬ (57 : Int) < c.toNat := by omega
                have q3' : (4 : Int) < es.length := by omega
                have q4 : 4 < ds.length := by rw [← HEL.out]; exact q3
                have hst : rdStep (ds, fr) x = none := by
                  unfold rdStep
                  rw [HY.out]
                  simp only; rw [if_pos (.inr (.inr q4))]
                have HST := hide (HI.out.stop HX.out hs0 hst)
                clear hst
                go_wp2_with fail
                refine bodyPost_ret (v := .tuple #[.slice (some ⟨wc.heap.size, 0, none⟩) 0 0, .bool false]) (by simp [results, Tryd.results6, go_sem]) rfl ?_
                exact ⟨HI.out.low.alloc HI.out.low.size _, .inr ⟨HST.out, _, rfl⟩⟩
              have q1' : ¬ (c.toNat : Int) < 48 := by omega
              have q2' : ¬ (57 : Int) < c.toNat := by omega
              have q3' : ¬ (4 : Int) < es.length := by omega
              have hw1 : IntKind.u8.wrap ((c.toNat : Int) - 48) = (c.toNat : Int) - 48 := by rw [IntWalk.u8_in _ (by omega)]
              have hw2 : IntKind.i64.wrap ((c.toNat : Int) - 48) = (c.toNat : Int) - 48 := by rw [IntWalk.i64_left, IntWalk.wrap64_in _ (by omega)]
              have hw3 : wrap64 ((c.toNat : Int) - 48) = (c.toNat : Int) - 48 := by rw [IntWalk.wrap64_in _ (by omega)]
              have hno : ¬ (c.toNat < 48 ∨ 57 < c.toNat ∨ 4 < ds.length) := by rw [← HEL.out]; omega
              have HNO := hide hno
              clear hno
              have byteI : ∀ v : UInt8, a ≠ v → (a.toNat == v.toNat) = false := fun v h => by
                rw [beq_eq_false_iff_ne]; intro e; exact h (UInt8.toNat_inj.mp e)
              cases fr
              · have hdn := HL2.out rfl
                obtain ⟨D, d, rfl⟩ : ∃ D d, ds = D ++ [d] := ⟨ds.dropLast, ds.getLast hdn, (List.dropLast_concat_getLast hdn).symm⟩
                have hel2 := HEL.out
                rw [List.length_append, List.length_singleton] at hel2
                obtain ⟨E, e, rfl⟩ : ∃ E e, es = E ++ [e] := by
                  have hn : es ≠ [] := by intro h; rw [h] at hel2; simp at hel2
                  exact ⟨es.dropLast, es.getLast hn, (List.dropLast_concat_getLast hn).symm⟩
                rw [List.length_append, List.length_singleton] at hel2
                have hey : e.2.2.2 = flat3 d.2 := by
                  have h1 := HI.out.says
                  unfold SaysD at h1
                  rw [List.map_append, List.map_append] at h1
                  have h3 := (List.append_inj h1 (by simp; omega)).2
                  simp at h3
                  exact h3.2
                obtain ⟨g, cg, hv, hnc, hlg, hgs, cl, fl⟩ := HI.out.own.last
                have hEl : (E ++ [e]).length = E.length + 1 := by simp
                rw [hEl] at hv q3 q3' ⊢
                injection hv with hv1 _ hv2
                subst hv1; subst hv2
                have HI' := HI.out
                rw [hEl] at HI'
                clear HI
                have HI := hide HI'
                clear HI' hdn
                have hEb : E.length ≤ 4 := by omega
                have HEL2 := hide hel2
                clear hel2 hl3
                have i6 : IntKind.i64.wrap (E.length : Int) = (E.length : Int) := by rw [IntWalk.i64_left, IntWalk.wrap64_in _ (by omega)]
                have i7 : (E.length : Int) < (E.length : Int) + 1 := by omega
                by_cases h1 : a = 114
                · subst h1
                  have hst : rdStep (D ++ [d], false) x = some (D ++ [(d.1, d.2 ++ [((1 : Int), (c.toNat : Int) - 48, 0)])], eb) := by
                    unfold rdStep
                    rw [HY.out, HE.out]
                    simp only; rw [if_neg HNO.out, if_neg (by simp), if_pos (by decide)]
                    unfold addStep; simp
                  have HST := hide hst
                  clear hst byteI
                  have hK := Blk.new wc 42 #[.int .i64 1, .int .i64 ((c.toNat : Int) - 48), .int .i64 0]
                  have b1 : Below wc.heap.size wc (wc.alloc (.cells #[.int .i64 1, .int .i64 ((c.toNat : Int) - 48), .int .i64 0] 42)) := (Below.refl _ _).alloc (Nat.le_refl _) _
                  have O1 := HI.out.own.below b1
                  have HO1 := hide O1
                  have W1 := hide (HI.out.words.below b1)
                  have L1 := HI.out.low.alloc HI.out.low.size (.cells #[.int .i64 1, .int .i64 ((c.toNat : Int) - 48), .int .i64 0] 42)
                  have HL := hide L1
                  have hbase := L1.size
                  have o3 : O3 42 (wc.alloc (.cells #[.int .i64 1, .int .i64 ((c.toNat : Int) - 48), .int .i64 0] 42)) w.heap.size e.2.1 e.2.2.1 d.2 := by
                    have := O1.own E.length e (by simp)
                    rw [hey] at this
                    exact this
                  have hm : e.2.2.1 + 1 ≤ 1048576 := by
                    have h1 := o3.len
                    have h2 := HL1.out d (by simp)
                    omega
                  have s1 := S3.one hK (Nat.le_refl 1)
                  clear b1 O1 L1
                  go_wp2_with (at_builtin; refine wpList_app3 rfl _ _ rfl Tryd.underlying35 infoOpz rfl o3 rfl s1 hm hbase ?_; intro v' w' ho' hg' hat'; obtain ⟨A1, c1, rfl⟩ := ho'.shape; obtain ⟨t1, t2, O2⟩ := OA.upd HO1.out hg' (q := (.slice A1 (e.2.2.1 + 1) c1, e.2.2.1 + 1, flat3 (d.2 ++ [((1 : Int), (c.toNat : Int) - 48, 0)]))) ho'.of hat'; have HO2 := hide O2; have HO3 := hide o3; have W2 := hide (W1.out.grown hg' (fun g cs hb => row_ne HO3.out.1 hb (by decide))); have L2 := hide (HL.out.grown hg' HL.out.size (fun k hk => (HO3.out.of.lt k hk).1)); have KD := hide (HO1.out.ow2.row); have HG := hide hg'; clear O2 ho' hat' o3)
                  have hgg : ∃ cur, Blk w' g 37 cur := by
                    obtain ⟨cur, hb⟩ := HO1.out.blk
                    exact ⟨cur, hb.grown HG.out (fun e' => (row_ne HO3.out.1 hb (by decide)) e')⟩
                  obtain ⟨cur, hgb⟩ := hgg
                  go_roundw
                  case rel =>
                    refine ⟨k + 1, eb, _, _, by go_num, by omega, rfl, by rw [rdTo_succ HX.out, HI.out.rd]; exact HST.out, HO2.out, ?_, W2.out.far hgb (by decide) _, L2.out.setCell (p := ⟨g, E.length * 2 + 1, none⟩) hlg _⟩
                    have h1 := HI.out.says
                    unfold SaysD at h1 ⊢
                    rw [List.map_append, List.map_append] at h1 ⊢
                    have h2 := List.append_inj h1 (by have := HEL2.out; simp; omega)
                    rw [h2.1]
                    have h3 := h2.2
                    simp at h3 ⊢
                    exact h3.1
                  case measure => simp [intOf]; omega
                by_cases h2 : a = 119
                · subst h2
                  have hst : rdStep (D ++ [d], false) x = some (D ++ [(d.1, d.2 ++ [((2 : Int), (c.toNat : Int) - 48, 0)])], eb) := by
                    unfold rdStep
                    rw [HY.out, HE.out]
                    simp only; rw [if_neg HNO.out, if_neg (by simp), if_pos (by decide)]
                    unfold addStep; simp
                  have HST := hide hst
                  clear hst byteI
                  have hK := Blk.new wc 42 #[.int .i64 2, .int .i64 ((c.toNat : Int) - 48), .int .i64 0]
                  have b1 : Below wc.heap.size wc (wc.alloc (.cells #[.int .i64 2, .int .i64 ((c.toNat : Int) - 48), .int .i64 0] 42)) := (Below.refl _ _).alloc (Nat.le_refl _) _
                  have O1 := HI.out.own.below b1
                  have HO1 := hide O1
                  have W1 := hide (HI.out.words.below b1)
                  have L1 := HI.out.low.alloc HI.out.low.size (.cells #[.int .i64 2, .int .i64 ((c.toNat : Int) - 48), .int .i64 0] 42)
                  have HL := hide L1
                  have hbase := L1.size
                  have o3 : O3 42 (wc.alloc (.cells #[.int .i64 2, .int .i64 ((c.toNat : Int) - 48), .int .i64 0] 42)) w.heap.size e.2.1 e.2.2.1 d.2 := by
                    have := O1.own E.length e (by simp)
                    rw [hey] at this
                    exact this
                  have hm : e.2.2.1 + 1 ≤ 1048576 := by
                    have h1 := o3.len
                    have h2 := HL1.out d (by simp)
                    omega
                  have s1 := S3.one hK (Nat.le_refl 1)
                  clear b1 O1 L1
                  go_wp2_with (at_builtin; refine wpList_app3 rfl _ _ rfl Tryd.underlying35 infoOpz rfl o3 rfl s1 hm hbase ?_; intro v' w' ho' hg' hat'; obtain ⟨A1, c1, rfl⟩ := ho'.shape; obtain ⟨t1, t2, O2⟩ := OA.upd HO1.out hg' (q := (.slice A1 (e.2.2.1 + 1) c1, e.2.2.1 + 1, flat3 (d.2 ++ [((2 : Int), (c.toNat : Int) - 48, 0)]))) ho'.of hat'; have HO2 := hide O2; have HO3 := hide o3; have W2 := hide (W1.out.grown hg' (fun g cs hb => row_ne HO3.out.1 hb (by decide))); have L2 := hide (HL.out.grown hg' HL.out.size (fun k hk => (HO3.out.of.lt k hk).1)); have KD := hide (HO1.out.ow2.row); have HG := hide hg'; clear O2 ho' hat' o3)
                  have hgg : ∃ cur, Blk w' g 37 cur := by
                    obtain ⟨cur, hb⟩ := HO1.out.blk
                    exact ⟨cur, hb.grown HG.out (fun e' => (row_ne HO3.out.1 hb (by decide)) e')⟩
                  obtain ⟨cur, hgb⟩ := hgg
                  go_roundw
                  case rel =>
                    refine ⟨k + 1, eb, _, _, by go_num, by omega, rfl, by rw [rdTo_succ HX.out, HI.out.rd]; exact HST.out, HO2.out, ?_, W2.out.far hgb (by decide) _, L2.out.setCell (p := ⟨g, E.length * 2 + 1, none⟩) hlg _⟩
                    have h1 := HI.out.says
                    unfold SaysD at h1 ⊢
                    rw [List.map_append, List.map_append] at h1 ⊢
                    have h2 := List.append_inj h1 (by have := HEL2.out; simp; omega)
                    rw [h2.1]
                    have h3 := h2.2
                    simp at h3 ⊢
                    exact h3.1
                  case measure => simp [intOf]; omega
                have h1' := byteI 114 h1
                have h2' := byteI 119 h2
                have h1a : ((a.toNat : Int) == 114) = false := by rw [beq_eq_false_iff_ne] at h1' ⊢; intro e; exact h1' (by exact_mod_cast e)
                have h2a : ((a.toNat : Int) == 119) = false := by rw [beq_eq_false_iff_ne] at h2' ⊢; intro e; exact h2' (by exact_mod_cast e)
                clear byteI
                have hst : rdStep (D ++ [d], false) x = none := by
                  unfold rdStep
                  rw [HY.out]
                  simp only; rw [if_neg HNO.out, if_neg (by simp), if_neg (by simp [h1, h2])]
                have HST := hide (HI.out.stop HX.out hs0 hst)
                clear hst
                go_wp2_with fail
                refine bodyPost_ret (v := .tuple #[.slice (some ⟨wc.heap.size, 0, none⟩) 0 0, .bool false]) (by simp [results, Tryd.results6, go_sem]) rfl ?_
                exact ⟨HI.out.low.alloc HI.out.low.size _, .inr ⟨HST.out, _, rfl⟩⟩
              · by_cases ha : a = 115
                · subst ha
                  have hst : rdStep (ds, true) x = some (ds ++ [((c.toNat : Int) - 48, [])], eb) := by
                    unfold rdStep
                    rw [HY.out, HE.out]
                    simp only; rw [if_neg HNO.out, if_pos (by decide)]
                  have HST := hide hst
                  clear hst byteI
                  have hK := Blk.new wc 37 #[.int .i64 ((c.toNat : Int) - 48), .slice none 0 0]
                  have b1 : Below wc.heap.size wc (wc.alloc (.cells #[.int .i64 ((c.toNat : Int) - 48), .slice none 0 0] 37)) := (Below.refl _ _).alloc (Nat.le_refl _) _
                  have O1 := HI.out.own.below b1
                  have HO1 := hide O1
                  have W1 := hide (HI.out.words.below b1)
                  have L1 := HI.out.low.alloc HI.out.low.size (.cells #[.int .i64 ((c.toNat : Int) - 48), .slice none 0 0] 37)
                  have HL := hide L1
                  have hbase := L1.size
                  have hrow := O1.row
                  clear b1 O1 L1
                  go_wp2_with (at_builtin; refine wpList_appD rfl _ _ rfl rfl hrow rfl hK rfl (by omega) hbase ?_; intro v' w' hown hg hat; have O2 := hide (HO1.out.push hown hg (by omega)); have W2 := hide (W1.out.grown hg (fun g cs hb => row_ne HO1.out.row hb (by decide))); have L2 := hide (HL.out.grown hg HL.out.size (fun k hk => (World.ownsRow.lt HO1.out.row k hk).1)); clear hown hg hat)
                  go_roundw
                  case rel => exact ⟨k + 1, eb, _, _, by go_num, by omega, rfl, by rw [rdTo_succ HX.out, HI.out.rd]; exact HST.out, O2.out, by unfold SaysD; rw [List.map_append, List.map_append, HI.out.says]; rfl, W2.out, L2.out⟩
                  case measure => simp [intOf]; omega
                · have ha' := byteI 115 ha
                  have ha2 : ((a.toNat : Int) == 115) = false := by rw [beq_eq_false_iff_ne] at ha' ⊢; intro e; exact ha' (by exact_mod_cast e)
                  clear byteI
                  have hst : rdStep (ds, true) x = none := by
                    unfold rdStep
                    rw [HY.out]
                    simp only; rw [if_neg HNO.out, if_neg (by simp [ha]), if_neg (by simp)]
                  have HST := hide (HI.out.stop HX.out hs0 hst)
                  clear hst
                  go_wp2_with fail
                  refine bodyPost_ret (v := .tuple #[.slice (some ⟨wc.heap.size, 0, none⟩) 0 0, .bool false]) (by simp [results, Tryd.results6, go_sem]) rfl ?_
                  exact ⟨HI.out.low.alloc HI.out.low.size _, .inr ⟨HST.out, _, rfl⟩⟩
            · have hlen2 : (y.length == 2) = false := by
                rw [beq_eq_false_iff_ne]
                intro hl
                match y, hl with
                | [a, c], _ => exact h2 ⟨a, c, rfl⟩
              have hst : rdStep (ds, fr) x = none := by
                unfold rdStep
                rw [hy]
                split
                · rename_i a c; exact absurd ⟨a, c, rfl⟩ h2
                · rfl
              have HST := hide (HI.out.stop HX.out hs0 hst)
              have hzy := str_size y
              have h2a : ((y.length : Int) == 2) = false := by rw [beq_eq_false_iff_ne] at hlen2 ⊢; omega
              have h2c : ¬ y.length = 2 := by rw [beq_eq_false_iff_ne] at hlen2; exact hlen2
              clear hst h2 hy
              go_wp2_with fail
              refine bodyPost_ret (v := .tuple #[.slice (some ⟨wc.heap.size, 0, none⟩) 0 0, .bool false]) (by simp [results, Tryd.results6, go_sem]) rfl ?_
              exact ⟨HI.out.low.alloc HI.out.low.size _, .inr ⟨HST.out, _, rfl⟩⟩
      · obtain rfl : k = n := by omega
        have hrd := I.rd
        obtain ⟨A1, c1, hv, hnc, hR⟩ := I.own.ow2.rds I.says
        injection hv with hv1 _ hv2
        subst hv1; subst hv2
        have hN : es.length ≤ 1048576 := I.own.small
        have hS : SmallD ds := OW2.smallD I.own.ow2 I.says
        have hU : ∀ p : Ds, planB p = true → planT p = s → ds = p := fun p h1 h2 => by
          have e1 := rd_plan h1 h2 hs0
          rw [HN.out, hrd] at e1
          injection e1 with e1; injection e1
        have HU := hide hU; have HS := hide hS; have HI := hide I; have HNN := hide hN
        clear hU hS hl1 hl2 hrd I hk hkn
        cases hV : planB ds
        · have HV := hide hV
          clear hV
          go_wp2_with fail
          refine (spec_PlanValid_c hR HNN.out HS.out).mono ?_
          rintro e W2 ⟨rfl, b2⟩
          rw [HV.out]
          go_wp2_with fail
          refine bodyPost_ret (v := .tuple #[.slice (some ⟨W2.heap.size, 0, none⟩) 0 0, .bool false]) (by simp [results, Tryd.results6, go_sem]) rfl ?_
          exact ⟨(below_step HI.out.low b2).alloc (below_step HI.out.low b2).size _, .inr ⟨fun p h1 h2 => by
            have := HU.out p h1 h2
            subst this
            rw [HV.out] at h1; exact absurd h1 (by simp), _, rfl⟩⟩
        · have HV := hide hV
          clear hV
          by_cases hq : planT ds = s
          · have hq' : ((str (planT ds)).toList == (str s).toList) = true := by rw [str_toList, str_toList, hq]; simp
            have H4 : Hid (es.length ≤ 4) := hide (by rw [HEL.out]; exact (planB_parts HV.out).1)
            go_wp2_with fail
            refine (spec_PlanValid_c hR HNN.out HS.out).mono ?_
            rintro e W2 ⟨rfl, b2⟩
            rw [HV.out]
            have hR2 := hR.below b2
            go_wp2_with fail
            refine (spec_PlanText_c hR2 HNN.out HS.out).mono ?_
            rintro e W3 ⟨rfl, b3⟩
            go_wp2_with fail
            refine bodyPost_ret (v := .tuple #[.slice A0 es.length c0', .bool true]) (by simp [results, Tryd.results6, go_sem]) rfl ?_
            exact ⟨below_step (below_step HI.out.low b2) b3, .inl ⟨ds, A0, es.length, c0', HV.out, hq, rfl, hnc, H4.out, hR2.below b3⟩⟩
          · have hq' : ((str (planT ds)).toList == (str s).toList) = false := by rw [str_toList, str_toList]; simpa using hq
            go_wp2_with fail
            refine (spec_PlanValid_c hR HNN.out HS.out).mono ?_
            rintro e W2 ⟨rfl, b2⟩
            rw [HV.out]
            have hR2 := hR.below b2
            go_wp2_with fail
            refine (spec_PlanText_c hR2 HNN.out HS.out).mono ?_
            rintro e W3 ⟨rfl, b3⟩
            go_wp2_with fail
            refine bodyPost_ret (v := .tuple #[.slice (some ⟨W3.heap.size, 0, none⟩) 0 0, .bool false]) (by simp [results, Tryd.results6, go_sem]) rfl ?_
            have b4 := below_step (below_step HI.out.low b2) b3
            exact ⟨b4.alloc b4.size _, .inr ⟨fun p h1 h2 => by
              have := HU.out p h1 h2
              subst this
              exact hq h2, _, rfl⟩⟩

end Go.Proofs.YtefopnkicllpeaaDoor
