/- impl.ReadPlan: the walk. -/
import Derived.Test.YtefopnkicllpeaaDoorSpQ
import Derived.OrdersIn
namespace Go.Proofs.YtefopnkicllpeaaDoor
open Go.RowKit Go.Shelf
attribute [local go_sem] Oper.semAt_some

set_option maxRecDepth 100000 in
set_option maxHeartbeats 4000000 in
theorem ReadPlan_c {s : List UInt8} {w : World} {m : Int} (hlen : s.length ≤ 1048576) (hm : w.cell? ⟨2, 0, none⟩ = some (.int .i64 m)) (hm1 : 2 < w.heap.size) (hA : ∀ W l, l.length ≤ 1048576 → Below w.heap.size w W → Calls Tryd.prog 43 #[.string (str l)] W (AtR l W))
    (hL : ∀ (p ds : Ds), planB p = true → planT p = s → s ≠ [] → ds.length = (partsL [59, 32] s).length → (∀ (j : Nat) (x : List UInt8) (d : Int × List T3), (partsL [59, 32] s)[j]? = some x → ds[j]? = some d → PartD x d) → ds = p)
    (hG : ∀ p : Ds, planB p = true → planT p = s → s ≠ [] → ∀ x ∈ partsL [59, 32] s, GoodPart x) :
    Calls Tryd.prog 7 #[.string (str s)] w (ReadR s w) := by
  refine (callsIn_wide (n := 3)).1 (callsIn_of_wp_marks Tryd.func7 rfl trivial ?_)
  simp only [Tryd.ntmps7, List.size_toArray, List.length_cons, List.length_nil, Nat.reduceAdd, Nat.reduceSub, Array.replicate_succ, Array.replicate_zero, List.push_toArray, List.append_toArray, List.nil_append, List.cons_append]
  have HA := hide hA
  clear hA
  cases s with
  | nil =>
    have hne : (str []).toList.isEmpty = true := by rw [str_toList]; rfl
    obtain ⟨W0, hW0⟩ : ∃ q, (((w.alloc (.cells #[.slice none 0 0] 22)).alloc (.cells #[.bool false] 4)).alloc (.cells #[] 37)).alloc (.cells #[.slice (some ⟨w.heap.size + 1 + 1, 0, none⟩) 0 0] 22) = q := ⟨_, rfl⟩
    have q0 : Blk W0 w.heap.size 22 #[.slice none 0 0] := by rw [← hW0]; exact (((Blk.new w _ _).alloc _).alloc _).alloc _
    have q1 : Blk W0 (w.heap.size + 1) 4 #[.bool false] := by
      have := Blk.new (w.alloc (.cells #[.slice none 0 0] 22)) 4 #[.bool false]
      rw [World.size_alloc] at this
      rw [← hW0]; exact (this.alloc _).alloc _
    have q2 : Blk W0 (w.heap.size + 1 + 1) 37 #[] := by
      have := Blk.new ((w.alloc (.cells #[.slice none 0 0] 22)).alloc (.cells #[.bool false] 4)) 37 #[]
      rw [World.size_alloc, World.size_alloc] at this
      rw [← hW0]; exact this.alloc _
    have q3 : Blk W0 (w.heap.size + 1 + 1 + 1) 22 #[.slice (some ⟨w.heap.size + 1 + 1, 0, none⟩) 0 0] := by
      have := Blk.new (((w.alloc (.cells #[.slice none 0 0] 22)).alloc (.cells #[.bool false] 4)).alloc (.cells #[] 37)) 22 #[.slice (some ⟨w.heap.size + 1 + 1, 0, none⟩) 0 0]
      rw [World.size_alloc, World.size_alloc, World.size_alloc] at this
      rw [← hW0]; exact this
    have b0 : Below w.heap.size w W0 := by rw [← hW0]; exact ((((Below.refl _ _).alloc (Nat.le_refl _) _).alloc (by simp) _).alloc (by simp; omega) _).alloc (by simp; omega) _
    have ow : OW2 W0 w.heap.size (.slice (some ⟨w.heap.size + 1 + 1, 0, none⟩) 0 0) 0 [] := ⟨⟨rfl, .inr ⟨_, 0, #[], rfl, by omega, q2, by simp, by simp [maxLen], by simp, by simp [cellsD]⟩⟩, fun j e h => by simp at h, fun i j p q _ h => by simp at h, rfl, by omega⟩
    have hSm : SmallD [] := fun d h => by cases h
    have hpb : planB [] = true := rfl
    have hpt : planT [] = [] := rfl
    have hq' : ((str []).toList == (str []).toList) = true := by simp
    have HW0 := hide hW0
    clear hL hG HA hW0
    gi_wp2_with (first | (rw [HW0.out]; refine ⟨trivial, ?_⟩; gi_at_call 24; refine (callsIn_wide.2 (impl_PlanValid_c (RDs.nil (A := some ⟨w.heap.size + 1 + 1, 0, none⟩)) (by omega) hSm)).mono ?_; rintro e W2 ⟨rfl, b2⟩; rw [hpb]; have R0 := q0.belowAll b2; have R1 := q1.belowAll b2; have Rp := q3.belowAll b2; have p2 := Rp.cell 0; simp only [List.getElem?_toArray, List.getElem?_cons_zero] at p2) | (refine ⟨trivial, ?_⟩; gi_at_call 13; refine (callsIn_wide.2 (impl_PlanText_c (RDs.nil (A := some ⟨w.heap.size + 1 + 1, 0, none⟩)) (by omega) hSm)).mono ?_; rintro e W3 ⟨rfl, b3⟩; rw [hpt]; have Rp3 := Rp.belowAll b3; have R03 := R0.belowAll b3; have R13 := R1.belowAll b3; have p3 := Rp3.cell 0; have q03 := R03.cell 0; have q13 := R13.cell 0; have f03 := R03.frozen 0; have f13 := R13.frozen 0; simp only [List.getElem?_toArray, List.getElem?_cons_zero] at q03 q13 p3) | (refine ⟨trivial, ?_⟩; gi_at_call 25; refine (callsIn_wide.2 (Clip_Draft_c (ow.keep (fun g cs t _ _ hb => (hb.belowAll b2).belowAll b3)))).mono ?_; rintro e W4 ⟨rfl, rfl⟩))
    obtain ⟨z0, z1⟩ := blk_res (u' := .slice (some ⟨w.heap.size + 1 + 1, 0, none⟩) 0 0) (b' := true) R03 R13
    have b4 := below_step (below_step b0 b2) b3
    exact retN Tryd.results7 z0 z1 rfl rfl ⟨(b4.setCell (p := ⟨w.heap.size, 0, none⟩) (Nat.le_refl _) _).setCell (p := ⟨w.heap.size + 1, 0, none⟩) (by show w.heap.size ≤ w.heap.size + 1; omega) _, .inl ⟨[], _, 0, 0, [], rfl, rfl, rfl, Nat.le_refl _, ow.keep (fun g cs t _ ht hb => blk_set2 R03 R13 ht ((hb.belowAll b2).belowAll b3)), rfl⟩⟩
  | cons c0 s0 =>
    have hne : (str (c0 :: s0)).toList.isEmpty = false := by rw [str_toList]; rfl
    gi_wp2_with (first | (refine ⟨trivial, ?_⟩; gi_at_call 19; refine (callsIn_wide.2 SplitSeq_c).mono ?_; rintro e w' ⟨rfl, rfl⟩))
    obtain ⟨W0, hW0⟩ : ∃ q, (((w.alloc (.cells #[.slice none 0 0] 22)).alloc (.cells #[.bool false] 4)).alloc (.cells #[] 37)).alloc (.cells #[.slice (some ⟨w.heap.size + 1 + 1, 0, none⟩) 0 0] 22) = q := ⟨_, rfl⟩
    rw [hW0]
    have hz : W0.heap.size = w.heap.size + 1 + 1 + 1 + 1 := by rw [← hW0]; simp
    refine rangeSplit (bT := w.heap.size + 1 + 1 + 1 + 1 + 1) (bS := w.heap.size + 1 + 1 + 1 + 1) (bV := w.heap.size + 1 + 1 + 1 + 1 + 2) (m := m) (s := c0 :: s0) rfl rfl (by omega) ?hbS (RdI w (w.heap.size + 1 + 1 + 1) (w.heap.size + 1 + 1 + 1 + 1) (w.heap.size + 1 + 1 + 1 + 1 + 1) (w.heap.size + 1 + 1 + 1 + 1 + 2)) (fun c pre W => RdX w pre W ∧ c = .ret) ?hI ?hIx ?hC ?h0 ?hs0 (fun x => { tmps := #[.string (str (c0 :: s0)), undef, .pointer (some ⟨w.heap.size, 0, none⟩), .pointer (some ⟨w.heap.size + 1, 0, none⟩), .pointer (some ⟨w.heap.size + 1 + 1 + 1, 0, none⟩), .string (str x), undef, undef, .slice (some ⟨w.heap.size + 1 + 1, 0, none⟩) 0 0, .string (str (c0 :: s0)), .bool true, .string (str (c0 :: s0)), seqV (w.heap.size + 1 + 1 + 1 + 1), .string (str x), undef, undef, undef, undef, undef, undef, undef, undef, undef, undef, undef, undef, undef, undef, undef, undef, undef, undef, undef, undef, undef, undef, undef, undef, undef, undef, undef, undef, undef, undef, undef, undef, undef, undef, undef, undef, undef, undef, undef, undef, undef, undef, undef, undef, undef, undef, undef, undef, undef, undef], defers := [] }) ?hassign ?hbody ?hdone ?hstop
    case hbS => simp [seqW, hz]
    case hI => intro p W W' h hk; exact h.kq hk (by simp [seqW, hz]; omega) (by omega) (by omega) (by omega) (by omega)
    case hIx => rintro c p W W' ⟨h, rfl⟩ hk; exact ⟨h.kq hk (by simp [seqW, hz]; omega) (by omega), rfl⟩
    case hC => intro p W h; exact ⟨h.sep.cell 0, h.zero.cell 0, (h.b0.cell (p := ⟨2, 0, none⟩) hm1).trans hm⟩
    case h0 =>
      have q0 : Blk W0 w.heap.size 22 #[.slice none 0 0] := by rw [← hW0]; exact (((Blk.new w _ _).alloc _).alloc _).alloc _
      have q1 : Blk W0 (w.heap.size + 1) 4 #[.bool false] := by
        have := Blk.new (w.alloc (.cells #[.slice none 0 0] 22)) 4 #[.bool false]
        rw [World.size_alloc] at this
        rw [← hW0]; exact (this.alloc _).alloc _
      have q2 : Blk W0 (w.heap.size + 1 + 1) 37 #[] := by
        have := Blk.new ((w.alloc (.cells #[.slice none 0 0] 22)).alloc (.cells #[.bool false] 4)) 37 #[]
        rw [World.size_alloc, World.size_alloc] at this
        rw [← hW0]; exact this.alloc _
      have q3 : Blk W0 (w.heap.size + 1 + 1 + 1) 22 #[.slice (some ⟨w.heap.size + 1 + 1, 0, none⟩) 0 0] := by
        have := Blk.new (((w.alloc (.cells #[.slice none 0 0] 22)).alloc (.cells #[.bool false] 4)).alloc (.cells #[] 37)) 22 #[.slice (some ⟨w.heap.size + 1 + 1, 0, none⟩) 0 0]
        rw [World.size_alloc, World.size_alloc, World.size_alloc] at this
        rw [← hW0]; exact this
      have b0 : Below w.heap.size w W0 := by rw [← hW0]; exact ((((Below.refl _ _).alloc (Nat.le_refl _) _).alloc (by simp) _).alloc (by simp; omega) _).alloc (by simp; omega) _
      have r1 : Blk (seqW W0 (c0 :: s0)) (w.heap.size + 1 + 1 + 1 + 1 + 1) 9 #[.string (str [59, 32])] := by
        have := Blk.new (W0.alloc (.cells #[.string (str (c0 :: s0))] 9)) 9 #[.string ⟨#[59, 32]⟩]
        rw [World.size_alloc, hz] at this
        exact this.alloc _
      have r2 : Blk (seqW W0 (c0 :: s0)) (w.heap.size + 1 + 1 + 1 + 1 + 2) 3 #[.int .i64 0] := by
        have := Blk.new ((W0.alloc (.cells #[.string (str (c0 :: s0))] 9)).alloc (.cells #[.string ⟨#[59, 32]⟩] 9)) 3 #[.int .i64 0]
        rw [World.size_alloc, World.size_alloc, hz] at this
        exact this
      refine ⟨((b0.alloc (by omega) _).alloc (by simp; omega) _).alloc (by simp; omega) _, ((q0.alloc _).alloc _).alloc _, ((q1.alloc _).alloc _).alloc _, r1, r2, _, [], [], ((q3.alloc _).alloc _).alloc _, ⟨⟨rfl, .inr ⟨_, 0, #[], rfl, by omega, ((q2.alloc _).alloc _).alloc _, by simp, by simp [maxLen], by simp, by simp [cellsD]⟩⟩, fun j e h => by simp at h, fun i j p q _ h => by simp at h, rfl, by simp⟩, rfl, rfl, fun k hk => ?_, fun j x d h => by simp at h⟩
      rcases hk with hk | ⟨j, e, h, _⟩
      · have hk : some (w.heap.size + 1 + 1) = some k := hk
        injection hk with hk; omega
      · simp at h
    case hs0 =>
      have h1 : Blk (seqW W0 (c0 :: s0)) (w.heap.size + 1 + 1 + 1 + 1) 9 #[.string (str (c0 :: s0))] := by
        rw [← hz]
        exact ((Blk.new W0 9 _).alloc _).alloc _
      exact ⟨h1.cell 0, h1.frozen 0⟩
    case hassign =>
      intro l x W K hK
      gi_wp2
      exact hK
    case hbody =>
      rintro l pre x W ⟨r, hr⟩ hi
      obtain ⟨hb, r0, r1, r2, r3, v, es, ds, P⟩ := hi
      have hxl : x.length ≤ 1048576 := Nat.le_trans (partsF_len _ _ x (by show x ∈ partsL _ _; rw [hr]; simp)) hlen
      have hmW : W.cell? ⟨2, 0, none⟩ = some (.int .i64 m) := (hb.cell (p := ⟨2, 0, none⟩) hm1).trans hm
      have hcnt : pre.length + 1 ≤ 1048576 := by
        have h1 := partsF_count (sep := [59, 32]) rfl (c0 :: s0).length (c0 :: s0)
        have h2 : (partsF [59, 32] (c0 :: s0).length (c0 :: s0)).length = pre.length + (r.length + 1) := by
          show (partsL _ _).length = _
          rw [hr]; simp
        omega
      have hsp := strings_Split (str x) ⟨#[32]⟩ m W (by rw [str_size]; omega) hmW (by decide)
      have hsc := scan_new (W := W) hxl
      obtain ⟨k, hk⟩ : ∃ k, Lib.countB (str x) ⟨#[32]⟩ + 1 = k := ⟨_, rfl⟩
      rw [hk] at hsp hsc
      obtain ⟨C1, hC1⟩ : ∃ q, Obj.cells ((Lib.splitB ⟨#[32]⟩ 0 (Lib.countB (str x) ⟨#[32]⟩) (str x)).map Value.string).toArray 9 = q := ⟨_, rfl⟩
      rw [hC1] at hsp hsc
      have b1 : Below W.heap.size W (W.alloc C1) := (Below.refl _ _).alloc (Nat.le_refl _) _
      have b2 : Below W.heap.size W ((W.alloc C1).alloc (.cells #[.slice (some ⟨W.heap.size, 0, none⟩) k k, .bool false] 49)) := b1.alloc (by simp) _
      have hse := session_c hsc (fun w' g => HA.out w' _ (Nat.le_trans (cut_len x) hxl) ((below_step hb b2).grown g (by simp; have := hb.size; omega) (fun k e => by injection e with e; have := hb.size; omega)))
      have HSP := hide hsp; have HSE := hide hse
      have hbs := hb.size
      clear hsp hse hC1 hsc hL hG hr hmW hm hm1 hlen
      gi_wp2_with (first | (refine ⟨trivial, ?_⟩; gi_at_call 20; refine (CallsIn.inRound l (callsIn_wide.2 HSP.out)).mono ?_; rintro e w' ⟨rfl, rfl⟩) | (refine ⟨trivial, ?_⟩; gi_at_call 21; refine (CallsIn.inRound l (callsIn_wide.2 HSE.out)).mono ?_; rintro e W3 ⟨n, ok, rfl, s3, g3, hn⟩))
      have b3 : Below W.heap.size W W3 := (b2.grown g3 (by simp; omega) (fun k e => by injection e with e; omega))
      have hbl : W.heap.size + 1 < W3.heap.size := by
        obtain ⟨A, q, c, h, _⟩ := s3
        exact h.lt
      have I0 : DrI W x (W.heap.size + 1) W3.heap.size n (W3.alloc (.cells #[.int .i64 n, .slice none 0 0] 37)) (wordsOf x).tail (false || (wordsOf x).isEmpty || !hasS ((wordsOf x).headD []) || !ok) [] (.slice none 0 0) [] := by
        refine ⟨s3.below ((Below.refl _ _).alloc (Nat.le_refl _) _), Blk.new W3 _ _, ⟨World.ownsRow_nil _ _ _ _, by simp⟩, b3.alloc (by omega) _, fun hbad => ?_, rfl, rfl⟩
        rintro ⟨g, ss, h1, h2, h3, _⟩
        rw [h1] at hbad hn
        have := (hn g rfl h2 h3).2
        subst this
        simp [hasS] at hbad
      have HI0 := hide I0
      clear I0 s3 g3
      gi_loopw [33] (fun _ wr => ∃ (ls : List (List UInt8)) (bad : Bool) (ts : List T3) (u : Value) (done : List (List UInt8)), DrI W x (W.heap.size + 1) W3.heap.size n wr ls bad ts u done) (fun _ wr => leftW (W.heap.size + 1) wr)
      case atStart => exact ⟨_, _, _, _, _, HI0.out⟩
      case round =>
        clear HI0
        obtain ⟨ls, bad, ts, u, done, I⟩ := hrel
        have hsc := I.sc
        obtain ⟨A, q, c, hK, hnc, hq, hr, hne⟩ := hsc
        have hl := hr.1
        obtain ⟨k0, k1, f0, f1⟩ := hK.two
        have p0 := I.box.cell 0; have p1 := I.box.cell 1; have e0 := I.box.frozen 0; have e1 := I.box.frozen 1
        simp only [List.getElem?_toArray, List.getElem?_cons_zero, List.getElem?_cons_succ] at p0 p1
        have R0 := r0.belowAll I.low; have R1 := r1.belowAll I.low; have RP := P.box.belowAll I.low
        have z0 := R0.cell 0; have z1 := R1.cell 0; have y0 := R0.frozen 0; have y1 := R1.frozen 0; have zP := RP.cell 0; have yP := RP.frozen 0
        simp only [List.getElem?_toArray, List.getElem?_cons_zero] at z0 z1 zP
        have HI := hide I
        have HN := hide hn
        clear hK hr hne I hn
        cases bad
        · cases ls with
          | nil =>
            have hq0 : q = 0 := hl.symm
            subst hq0
            have hOW := HI.out.own.of.ow
            have bn := hb.size
            have bz := r3.lt
            have HB0 := hide hb; have HR0 := hide r0; have HR1 := hide r1; have HR2 := hide r2; have HR3 := hide r3; have HPP := hide P
            clear r0 r1 r2 r3 P RP R0 R1
            gi_wp2_with (first | (refine ⟨trivial, ?_⟩; gi_at_call 23; refine (CallsIn.inRound l (callsIn_wide.2 (Clip_Op_c hOW))).mono ?_; rintro e w' ⟨v', rfl, ow, rfl⟩; obtain ⟨A2, c2, rfl, _⟩ := ow.form; obtain ⟨kPw, A3, c3, W10, hrun, hc10, hf10, hK10, hS10, hR10⟩ := RdI.push HB0.out HR0.out HR1.out HR2.out HR3.out HPP.out HI.out (fun g h1 h2 h3 => (HN.out g h1 h2 h3).1) ow (by omega) (by omega) (by omega) (by omega) (by omega) (by omega) hcnt rfl; have HK10 := hide hK10; have HS10 := hide hS10; have HR10 := hide hR10; clear hK10 hS10 hR10 ow) | (gi_at_builtin; refine wpIn_appI _ _ rfl rfl rfl hrun ?_))
            exact ⟨HK10.out, HS10.out, HR10.out⟩
          | cons y ls =>
            have hst := step_c (w := wr.drew) (b := W.heap.size + 1) (ls := y :: ls) (bad := false) (HI.out.sc.below (Below.refl _ _).drew)
            unfold StepR at hst
            rw [List.headD_cons, List.tail_cons, Bool.false_or] at hst
            obtain ⟨o, ho⟩ : ∃ o, (stepOf y).getD (0, 0, 0) = o := ⟨_, rfl⟩
            rw [ho] at hst
            have hq0 : (0 : Int) < q := by rw [List.length_cons] at hl; omega
            have HST := hide hst; have HO := hide ho
            have hsd : ∀ w' : World, wr.drew.grownBy w' (some (W.heap.size + 1)) → wr.grownBy w' (some (W.heap.size + 1)) := fun w' h => ⟨h.os, h.tape, h.output, h.size, h.block⟩
            have HSD := hide hsd
            clear hst ho hsd R0 R1 RP z0 z1 y0 y1 zP yP
            gi_wp2_with fail
            refine wpIn_region_any (by kernel_rfl) ?_
            (try (change wpAnyIn _ _ _ _ _ _ _ _ _ (World.drew _)))
            -- TREE
            refine wpAnyIn_ready (rs := [0, 2]) (by kernel_rfl) (by simp) ?_
            refine AllReadyIn.cons (by rw [List.getElem?_toArray]; exact rfl) (fun K hK => ?_) ?_
            · go_simp
              refine hK _ _ ?_
              clear hK K
              (try simp only [Act.put, List.setIfInBounds_toArray, List.set_cons_zero, List.set_cons_succ])
              refine wpAnyIn_ready (rs := [1, 2]) (by kernel_rfl) (by simp) ?_
              refine AllReadyIn.cons (by rw [List.getElem?_toArray]; exact rfl) (fun K hK => ?_) ?_
              · go_simp
                refine hK _ _ ?_
                clear hK K
                (try simp only [Act.put, List.setIfInBounds_toArray, List.set_cons_zero, List.set_cons_succ])
                refine wpAnyIn_ready (rs := [2]) (by kernel_rfl) (by simp) ?_
                refine AllReadyIn.cons (by rw [List.getElem?_toArray]; exact rfl) (fun K hK => ?_) ?_
                · go_simp
                  refine hK _ _ ?_
                  clear hK K
                  (try simp only [Act.put, List.setIfInBounds_toArray, List.set_cons_zero, List.set_cons_succ])
                  refine wpAnyIn_ready (rs := [3]) (by kernel_rfl) (by simp) ?_
                  refine AllReadyIn.cons (by rw [List.getElem?_toArray]; exact rfl) (fun K hK => ?_) ?_
                  · go_simp
                    refine ⟨trivial, ?_⟩
                    refine (CallsIn.inRound l (callsIn_wide.2 HST.out)).mono ?_
                    rintro e W4 ⟨rfl, s4, g4⟩
                    obtain ⟨k4, A5, c5, W6, hrun, hc6, hf6, I6⟩ := HI.out.app hxl (by omega) (by omega) (by omega) HO.out s4 (HSD.out _ g4)
                    have p4 := k4.cell 1
                    have p5 : ∀ ob, (W4.alloc ob).cell? ⟨W3.heap.size, 1, none⟩ = some u := fun ob => (k4.alloc ob).cell 1
                    simp only [List.getElem?_toArray, List.getElem?_cons_zero, List.getElem?_cons_succ] at p4
                    have HI6 := hide I6
                    clear I6 s4 g4 k4
                    go_simp
                    refine hK _ _ ?_
                    clear hK K
                    (try simp only [Act.put, List.setIfInBounds_toArray, List.set_cons_zero, List.set_cons_succ])
                    refine wpAnyIn_ready (rs := [4]) (by kernel_rfl) (by simp) ?_
                    refine AllReadyIn.cons (by rw [List.getElem?_toArray]; exact rfl) (fun K hK => ?_) ?_
                    · go_simp
                      refine hK _ _ ?_
                      clear hK K
                      (try simp only [Act.put, List.setIfInBounds_toArray, List.set_cons_zero, List.set_cons_succ])
                      refine wpAnyIn_ready (rs := [5]) (by kernel_rfl) (by simp) ?_
                      refine AllReadyIn.cons (by rw [List.getElem?_toArray]; exact rfl) (fun K hK => ?_) ?_
                      · refine wpIn_app_step (by rfl) _ _ (by rfl) rfl rfl hrun ?_
                        refine hK _ _ ?_
                        clear hK K
                        (try simp only [Act.put, List.setIfInBounds_toArray, List.set_cons_zero, List.set_cons_succ])
                        refine wpAnyIn_ready (rs := [6]) (by kernel_rfl) (by simp) ?_
                        refine AllReadyIn.cons (by rw [List.getElem?_toArray]; exact rfl) (fun K hK => ?_) ?_
                        · go_simp
                          refine hK _ _ ?_
                          clear hK K
                          (try simp only [Act.put, List.setIfInBounds_toArray, List.set_cons_zero, List.set_cons_succ])
                          refine wpAnyIn_ready (rs := [7]) (by kernel_rfl) (by simp) ?_
                          refine AllReadyIn.cons (by rw [List.getElem?_toArray]; exact rfl) (fun K hK => ?_) ?_
                          · go_simp
                            refine hK _ _ ?_
                            clear hK K
                            (try simp only [Act.put, List.setIfInBounds_toArray, List.set_cons_zero, List.set_cons_succ])
                            refine wpAnyIn_done (by kernel_rfl) ?_ _
                            gi_wp2
                            go_roundw
                            case rel => exact ⟨_, _, _, _, _, HI6.out⟩
                            case measure => rw [HI6.out.sc.left, HI.out.sc.left, List.length_cons]; omega
                          exact AllReadyIn.nil
                        exact AllReadyIn.nil
                      exact AllReadyIn.nil
                    exact AllReadyIn.nil
                  exact AllReadyIn.nil
                exact AllReadyIn.nil
              refine AllReadyIn.cons (by rw [List.getElem?_toArray]; exact rfl) (fun K hK => ?_) ?_
              · go_simp
                refine hK _ _ ?_
                clear hK K
                (try simp only [Act.put, List.setIfInBounds_toArray, List.set_cons_zero, List.set_cons_succ])
                refine wpAnyIn_ready (rs := [1, 3]) (by kernel_rfl) (by simp) ?_
                refine AllReadyIn.cons (by rw [List.getElem?_toArray]; exact rfl) (fun K hK => ?_) ?_
                · go_simp
                  refine hK _ _ ?_
                  clear hK K
                  (try simp only [Act.put, List.setIfInBounds_toArray, List.set_cons_zero, List.set_cons_succ])
                  refine wpAnyIn_ready (rs := [3]) (by kernel_rfl) (by simp) ?_
                  refine AllReadyIn.cons (by rw [List.getElem?_toArray]; exact rfl) (fun K hK => ?_) ?_
                  · go_simp
                    refine ⟨trivial, ?_⟩
                    refine (CallsIn.inRound l (callsIn_wide.2 HST.out)).mono ?_
                    rintro e W4 ⟨rfl, s4, g4⟩
                    obtain ⟨k4, A5, c5, W6, hrun, hc6, hf6, I6⟩ := HI.out.app hxl (by omega) (by omega) (by omega) HO.out s4 (HSD.out _ g4)
                    have p4 := k4.cell 1
                    have p5 : ∀ ob, (W4.alloc ob).cell? ⟨W3.heap.size, 1, none⟩ = some u := fun ob => (k4.alloc ob).cell 1
                    simp only [List.getElem?_toArray, List.getElem?_cons_zero, List.getElem?_cons_succ] at p4
                    have HI6 := hide I6
                    clear I6 s4 g4 k4
                    go_simp
                    refine hK _ _ ?_
                    clear hK K
                    (try simp only [Act.put, List.setIfInBounds_toArray, List.set_cons_zero, List.set_cons_succ])
                    refine wpAnyIn_ready (rs := [4]) (by kernel_rfl) (by simp) ?_
                    refine AllReadyIn.cons (by rw [List.getElem?_toArray]; exact rfl) (fun K hK => ?_) ?_
                    · go_simp
                      refine hK _ _ ?_
                      clear hK K
                      (try simp only [Act.put, List.setIfInBounds_toArray, List.set_cons_zero, List.set_cons_succ])
                      refine wpAnyIn_ready (rs := [5]) (by kernel_rfl) (by simp) ?_
                      refine AllReadyIn.cons (by rw [List.getElem?_toArray]; exact rfl) (fun K hK => ?_) ?_
                      · refine wpIn_app_step (by rfl) _ _ (by rfl) rfl rfl hrun ?_
                        refine hK _ _ ?_
                        clear hK K
                        (try simp only [Act.put, List.setIfInBounds_toArray, List.set_cons_zero, List.set_cons_succ])
                        refine wpAnyIn_ready (rs := [6]) (by kernel_rfl) (by simp) ?_
                        refine AllReadyIn.cons (by rw [List.getElem?_toArray]; exact rfl) (fun K hK => ?_) ?_
                        · go_simp
                          refine hK _ _ ?_
                          clear hK K
                          (try simp only [Act.put, List.setIfInBounds_toArray, List.set_cons_zero, List.set_cons_succ])
                          refine wpAnyIn_ready (rs := [7]) (by kernel_rfl) (by simp) ?_
                          refine AllReadyIn.cons (by rw [List.getElem?_toArray]; exact rfl) (fun K hK => ?_) ?_
                          · go_simp
                            refine hK _ _ ?_
                            clear hK K
                            (try simp only [Act.put, List.setIfInBounds_toArray, List.set_cons_zero, List.set_cons_succ])
                            refine wpAnyIn_done (by kernel_rfl) ?_ _
                            gi_wp2
                            go_roundw
                            case rel => exact ⟨_, _, _, _, _, HI6.out⟩
                            case measure => rw [HI6.out.sc.left, HI.out.sc.left, List.length_cons]; omega
                          exact AllReadyIn.nil
                        exact AllReadyIn.nil
                      exact AllReadyIn.nil
                    exact AllReadyIn.nil
                  exact AllReadyIn.nil
                refine AllReadyIn.cons (by rw [List.getElem?_toArray]; exact rfl) (fun K hK => ?_) ?_
                · go_simp
                  refine ⟨trivial, ?_⟩
                  refine (CallsIn.inRound l (callsIn_wide.2 HST.out)).mono ?_
                  rintro e W4 ⟨rfl, s4, g4⟩
                  obtain ⟨k4, A5, c5, W6, hrun, hc6, hf6, I6⟩ := HI.out.app hxl (by omega) (by omega) (by omega) HO.out s4 (HSD.out _ g4)
                  have p4 := k4.cell 1
                  have p5 : ∀ ob, (W4.alloc ob).cell? ⟨W3.heap.size, 1, none⟩ = some u := fun ob => (k4.alloc ob).cell 1
                  simp only [List.getElem?_toArray, List.getElem?_cons_zero, List.getElem?_cons_succ] at p4
                  have HI6 := hide I6
                  clear I6 s4 g4 k4
                  go_simp
                  refine hK _ _ ?_
                  clear hK K
                  (try simp only [Act.put, List.setIfInBounds_toArray, List.set_cons_zero, List.set_cons_succ])
                  refine wpAnyIn_ready (rs := [1, 4]) (by kernel_rfl) (by simp) ?_
                  refine AllReadyIn.cons (by rw [List.getElem?_toArray]; exact rfl) (fun K hK => ?_) ?_
                  · go_simp
                    refine hK _ _ ?_
                    clear hK K
                    (try simp only [Act.put, List.setIfInBounds_toArray, List.set_cons_zero, List.set_cons_succ])
                    refine wpAnyIn_ready (rs := [4]) (by kernel_rfl) (by simp) ?_
                    refine AllReadyIn.cons (by rw [List.getElem?_toArray]; exact rfl) (fun K hK => ?_) ?_
                    · go_simp
                      refine hK _ _ ?_
                      clear hK K
                      (try simp only [Act.put, List.setIfInBounds_toArray, List.set_cons_zero, List.set_cons_succ])
                      refine wpAnyIn_ready (rs := [5]) (by kernel_rfl) (by simp) ?_
                      refine AllReadyIn.cons (by rw [List.getElem?_toArray]; exact rfl) (fun K hK => ?_) ?_
                      · refine wpIn_app_step (by rfl) _ _ (by rfl) rfl rfl hrun ?_
                        refine hK _ _ ?_
                        clear hK K
                        (try simp only [Act.put, List.setIfInBounds_toArray, List.set_cons_zero, List.set_cons_succ])
                        refine wpAnyIn_ready (rs := [6]) (by kernel_rfl) (by simp) ?_
                        refine AllReadyIn.cons (by rw [List.getElem?_toArray]; exact rfl) (fun K hK => ?_) ?_
                        · go_simp
                          refine hK _ _ ?_
                          clear hK K
                          (try simp only [Act.put, List.setIfInBounds_toArray, List.set_cons_zero, List.set_cons_succ])
                          refine wpAnyIn_ready (rs := [7]) (by kernel_rfl) (by simp) ?_
                          refine AllReadyIn.cons (by rw [List.getElem?_toArray]; exact rfl) (fun K hK => ?_) ?_
                          · go_simp
                            refine hK _ _ ?_
                            clear hK K
                            (try simp only [Act.put, List.setIfInBounds_toArray, List.set_cons_zero, List.set_cons_succ])
                            refine wpAnyIn_done (by kernel_rfl) ?_ _
                            gi_wp2
                            go_roundw
                            case rel => exact ⟨_, _, _, _, _, HI6.out⟩
                            case measure => rw [HI6.out.sc.left, HI.out.sc.left, List.length_cons]; omega
                          exact AllReadyIn.nil
                        exact AllReadyIn.nil
                      exact AllReadyIn.nil
                    exact AllReadyIn.nil
                  refine AllReadyIn.cons (by rw [List.getElem?_toArray]; exact rfl) (fun K hK => ?_) ?_
                  · go_simp
                    refine hK _ _ ?_
                    clear hK K
                    (try simp only [Act.put, List.setIfInBounds_toArray, List.set_cons_zero, List.set_cons_succ])
                    refine wpAnyIn_ready (rs := [1]) (by kernel_rfl) (by simp) ?_
                    refine AllReadyIn.cons (by rw [List.getElem?_toArray]; exact rfl) (fun K hK => ?_) ?_
                    · go_simp
                      refine hK _ _ ?_
                      clear hK K
                      (try simp only [Act.put, List.setIfInBounds_toArray, List.set_cons_zero, List.set_cons_succ])
                      refine wpAnyIn_ready (rs := [5]) (by kernel_rfl) (by simp) ?_
                      refine AllReadyIn.cons (by rw [List.getElem?_toArray]; exact rfl) (fun K hK => ?_) ?_
                      · refine wpIn_app_step (by rfl) _ _ (by rfl) rfl rfl hrun ?_
                        refine hK _ _ ?_
                        clear hK K
                        (try simp only [Act.put, List.setIfInBounds_toArray, List.set_cons_zero, List.set_cons_succ])
                        refine wpAnyIn_ready (rs := [6]) (by kernel_rfl) (by simp) ?_
                        refine AllReadyIn.cons (by rw [List.getElem?_toArray]; exact rfl) (fun K hK => ?_) ?_
                        · go_simp
                          refine hK _ _ ?_
                          clear hK K
                          (try simp only [Act.put, List.setIfInBounds_toArray, List.set_cons_zero, List.set_cons_succ])
                          refine wpAnyIn_ready (rs := [7]) (by kernel_rfl) (by simp) ?_
                          refine AllReadyIn.cons (by rw [List.getElem?_toArray]; exact rfl) (fun K hK => ?_) ?_
                          · go_simp
                            refine hK _ _ ?_
                            clear hK K
                            (try simp only [Act.put, List.setIfInBounds_toArray, List.set_cons_zero, List.set_cons_succ])
                            refine wpAnyIn_done (by kernel_rfl) ?_ _
                            gi_wp2
                            go_roundw
                            case rel => exact ⟨_, _, _, _, _, HI6.out⟩
                            case measure => rw [HI6.out.sc.left, HI.out.sc.left, List.length_cons]; omega
                          exact AllReadyIn.nil
                        exact AllReadyIn.nil
                      exact AllReadyIn.nil
                    exact AllReadyIn.nil
                  exact AllReadyIn.nil
                exact AllReadyIn.nil
              exact AllReadyIn.nil
            refine AllReadyIn.cons (by rw [List.getElem?_toArray]; exact rfl) (fun K hK => ?_) ?_
            · go_simp
              refine hK _ _ ?_
              clear hK K
              (try simp only [Act.put, List.setIfInBounds_toArray, List.set_cons_zero, List.set_cons_succ])
              refine wpAnyIn_ready (rs := [0, 3]) (by kernel_rfl) (by simp) ?_
              refine AllReadyIn.cons (by rw [List.getElem?_toArray]; exact rfl) (fun K hK => ?_) ?_
              · go_simp
                refine hK _ _ ?_
                clear hK K
                (try simp only [Act.put, List.setIfInBounds_toArray, List.set_cons_zero, List.set_cons_succ])
                refine wpAnyIn_ready (rs := [1, 3]) (by kernel_rfl) (by simp) ?_
                refine AllReadyIn.cons (by rw [List.getElem?_toArray]; exact rfl) (fun K hK => ?_) ?_
                · go_simp
                  refine hK _ _ ?_
                  clear hK K
                  (try simp only [Act.put, List.setIfInBounds_toArray, List.set_cons_zero, List.set_cons_succ])
                  refine wpAnyIn_ready (rs := [3]) (by kernel_rfl) (by simp) ?_
                  refine AllReadyIn.cons (by rw [List.getElem?_toArray]; exact rfl) (fun K hK => ?_) ?_
                  · go_simp
                    refine ⟨trivial, ?_⟩
                    refine (CallsIn.inRound l (callsIn_wide.2 HST.out)).mono ?_
                    rintro e W4 ⟨rfl, s4, g4⟩
                    obtain ⟨k4, A5, c5, W6, hrun, hc6, hf6, I6⟩ := HI.out.app hxl (by omega) (by omega) (by omega) HO.out s4 (HSD.out _ g4)
                    have p4 := k4.cell 1
                    have p5 : ∀ ob, (W4.alloc ob).cell? ⟨W3.heap.size, 1, none⟩ = some u := fun ob => (k4.alloc ob).cell 1
                    simp only [List.getElem?_toArray, List.getElem?_cons_zero, List.getElem?_cons_succ] at p4
                    have HI6 := hide I6
                    clear I6 s4 g4 k4
                    go_simp
                    refine hK _ _ ?_
                    clear hK K
                    (try simp only [Act.put, List.setIfInBounds_toArray, List.set_cons_zero, List.set_cons_succ])
                    refine wpAnyIn_ready (rs := [4]) (by kernel_rfl) (by simp) ?_
                    refine AllReadyIn.cons (by rw [List.getElem?_toArray]; exact rfl) (fun K hK => ?_) ?_
                    · go_simp
                      refine hK _ _ ?_
                      clear hK K
                      (try simp only [Act.put, List.setIfInBounds_toArray, List.set_cons_zero, List.set_cons_succ])
                      refine wpAnyIn_ready (rs := [5]) (by kernel_rfl) (by simp) ?_
                      refine AllReadyIn.cons (by rw [List.getElem?_toArray]; exact rfl) (fun K hK => ?_) ?_
                      · refine wpIn_app_step (by rfl) _ _ (by rfl) rfl rfl hrun ?_
                        refine hK _ _ ?_
                        clear hK K
                        (try simp only [Act.put, List.setIfInBounds_toArray, List.set_cons_zero, List.set_cons_succ])
                        refine wpAnyIn_ready (rs := [6]) (by kernel_rfl) (by simp) ?_
                        refine AllReadyIn.cons (by rw [List.getElem?_toArray]; exact rfl) (fun K hK => ?_) ?_
                        · go_simp
                          refine hK _ _ ?_
                          clear hK K
                          (try simp only [Act.put, List.setIfInBounds_toArray, List.set_cons_zero, List.set_cons_succ])
                          refine wpAnyIn_ready (rs := [7]) (by kernel_rfl) (by simp) ?_
                          refine AllReadyIn.cons (by rw [List.getElem?_toArray]; exact rfl) (fun K hK => ?_) ?_
                          · go_simp
                            refine hK _ _ ?_
                            clear hK K
                            (try simp only [Act.put, List.setIfInBounds_toArray, List.set_cons_zero, List.set_cons_succ])
                            refine wpAnyIn_done (by kernel_rfl) ?_ _
                            gi_wp2
                            go_roundw
                            case rel => exact ⟨_, _, _, _, _, HI6.out⟩
                            case measure => rw [HI6.out.sc.left, HI.out.sc.left, List.length_cons]; omega
                          exact AllReadyIn.nil
                        exact AllReadyIn.nil
                      exact AllReadyIn.nil
                    exact AllReadyIn.nil
                  exact AllReadyIn.nil
                refine AllReadyIn.cons (by rw [List.getElem?_toArray]; exact rfl) (fun K hK => ?_) ?_
                · go_simp
                  refine ⟨trivial, ?_⟩
                  refine (CallsIn.inRound l (callsIn_wide.2 HST.out)).mono ?_
                  rintro e W4 ⟨rfl, s4, g4⟩
                  obtain ⟨k4, A5, c5, W6, hrun, hc6, hf6, I6⟩ := HI.out.app hxl (by omega) (by omega) (by omega) HO.out s4 (HSD.out _ g4)
                  have p4 := k4.cell 1
                  have p5 : ∀ ob, (W4.alloc ob).cell? ⟨W3.heap.size, 1, none⟩ = some u := fun ob => (k4.alloc ob).cell 1
                  simp only [List.getElem?_toArray, List.getElem?_cons_zero, List.getElem?_cons_succ] at p4
                  have HI6 := hide I6
                  clear I6 s4 g4 k4
                  go_simp
                  refine hK _ _ ?_
                  clear hK K
                  (try simp only [Act.put, List.setIfInBounds_toArray, List.set_cons_zero, List.set_cons_succ])
                  refine wpAnyIn_ready (rs := [1, 4]) (by kernel_rfl) (by simp) ?_
                  refine AllReadyIn.cons (by rw [List.getElem?_toArray]; exact rfl) (fun K hK => ?_) ?_
                  · go_simp
                    refine hK _ _ ?_
                    clear hK K
                    (try simp only [Act.put, List.setIfInBounds_toArray, List.set_cons_zero, List.set_cons_succ])
                    refine wpAnyIn_ready (rs := [4]) (by kernel_rfl) (by simp) ?_
                    refine AllReadyIn.cons (by rw [List.getElem?_toArray]; exact rfl) (fun K hK => ?_) ?_
                    · go_simp
                      refine hK _ _ ?_
                      clear hK K
                      (try simp only [Act.put, List.setIfInBounds_toArray, List.set_cons_zero, List.set_cons_succ])
                      refine wpAnyIn_ready (rs := [5]) (by kernel_rfl) (by simp) ?_
                      refine AllReadyIn.cons (by rw [List.getElem?_toArray]; exact rfl) (fun K hK => ?_) ?_
                      · refine wpIn_app_step (by rfl) _ _ (by rfl) rfl rfl hrun ?_
                        refine hK _ _ ?_
                        clear hK K
                        (try simp only [Act.put, List.setIfInBounds_toArray, List.set_cons_zero, List.set_cons_succ])
                        refine wpAnyIn_ready (rs := [6]) (by kernel_rfl) (by simp) ?_
                        refine AllReadyIn.cons (by rw [List.getElem?_toArray]; exact rfl) (fun K hK => ?_) ?_
                        · go_simp
                          refine hK _ _ ?_
                          clear hK K
                          (try simp only [Act.put, List.setIfInBounds_toArray, List.set_cons_zero, List.set_cons_succ])
                          refine wpAnyIn_ready (rs := [7]) (by kernel_rfl) (by simp) ?_
                          refine AllReadyIn.cons (by rw [List.getElem?_toArray]; exact rfl) (fun K hK => ?_) ?_
                          · go_simp
                            refine hK _ _ ?_
                            clear hK K
                            (try simp only [Act.put, List.setIfInBounds_toArray, List.set_cons_zero, List.set_cons_succ])
                            refine wpAnyIn_done (by kernel_rfl) ?_ _
                            gi_wp2
                            go_roundw
                            case rel => exact ⟨_, _, _, _, _, HI6.out⟩
                            case measure => rw [HI6.out.sc.left, HI.out.sc.left, List.length_cons]; omega
                          exact AllReadyIn.nil
                        exact AllReadyIn.nil
                      exact AllReadyIn.nil
                    exact AllReadyIn.nil
                  refine AllReadyIn.cons (by rw [List.getElem?_toArray]; exact rfl) (fun K hK => ?_) ?_
                  · go_simp
                    refine hK _ _ ?_
                    clear hK K
                    (try simp only [Act.put, List.setIfInBounds_toArray, List.set_cons_zero, List.set_cons_succ])
                    refine wpAnyIn_ready (rs := [1]) (by kernel_rfl) (by simp) ?_
                    refine AllReadyIn.cons (by rw [List.getElem?_toArray]; exact rfl) (fun K hK => ?_) ?_
                    · go_simp
                      refine hK _ _ ?_
                      clear hK K
                      (try simp only [Act.put, List.setIfInBounds_toArray, List.set_cons_zero, List.set_cons_succ])
                      refine wpAnyIn_ready (rs := [5]) (by kernel_rfl) (by simp) ?_
                      refine AllReadyIn.cons (by rw [List.getElem?_toArray]; exact rfl) (fun K hK => ?_) ?_
                      · refine wpIn_app_step (by rfl) _ _ (by rfl) rfl rfl hrun ?_
                        refine hK _ _ ?_
                        clear hK K
                        (try simp only [Act.put, List.setIfInBounds_toArray, List.set_cons_zero, List.set_cons_succ])
                        refine wpAnyIn_ready (rs := [6]) (by kernel_rfl) (by simp) ?_
                        refine AllReadyIn.cons (by rw [List.getElem?_toArray]; exact rfl) (fun K hK => ?_) ?_
                        · go_simp
                          refine hK _ _ ?_
                          clear hK K
                          (try simp only [Act.put, List.setIfInBounds_toArray, List.set_cons_zero, List.set_cons_succ])
                          refine wpAnyIn_ready (rs := [7]) (by kernel_rfl) (by simp) ?_
                          refine AllReadyIn.cons (by rw [List.getElem?_toArray]; exact rfl) (fun K hK => ?_) ?_
                          · go_simp
                            refine hK _ _ ?_
                            clear hK K
                            (try simp only [Act.put, List.setIfInBounds_toArray, List.set_cons_zero, List.set_cons_succ])
                            refine wpAnyIn_done (by kernel_rfl) ?_ _
                            gi_wp2
                            go_roundw
                            case rel => exact ⟨_, _, _, _, _, HI6.out⟩
                            case measure => rw [HI6.out.sc.left, HI.out.sc.left, List.length_cons]; omega
                          exact AllReadyIn.nil
                        exact AllReadyIn.nil
                      exact AllReadyIn.nil
                    exact AllReadyIn.nil
                  exact AllReadyIn.nil
                exact AllReadyIn.nil
              refine AllReadyIn.cons (by rw [List.getElem?_toArray]; exact rfl) (fun K hK => ?_) ?_
              · go_simp
                refine ⟨trivial, ?_⟩
                refine (CallsIn.inRound l (callsIn_wide.2 HST.out)).mono ?_
                rintro e W4 ⟨rfl, s4, g4⟩
                obtain ⟨k4, A5, c5, W6, hrun, hc6, hf6, I6⟩ := HI.out.app hxl (by omega) (by omega) (by omega) HO.out s4 (HSD.out _ g4)
                have p4 := k4.cell 1
                have p5 : ∀ ob, (W4.alloc ob).cell? ⟨W3.heap.size, 1, none⟩ = some u := fun ob => (k4.alloc ob).cell 1
                simp only [List.getElem?_toArray, List.getElem?_cons_zero, List.getElem?_cons_succ] at p4
                have HI6 := hide I6
                clear I6 s4 g4 k4
                go_simp
                refine hK _ _ ?_
                clear hK K
                (try simp only [Act.put, List.setIfInBounds_toArray, List.set_cons_zero, List.set_cons_succ])
                refine wpAnyIn_ready (rs := [0, 4]) (by kernel_rfl) (by simp) ?_
                refine AllReadyIn.cons (by rw [List.getElem?_toArray]; exact rfl) (fun K hK => ?_) ?_
                · go_simp
                  refine hK _ _ ?_
                  clear hK K
                  (try simp only [Act.put, List.setIfInBounds_toArray, List.set_cons_zero, List.set_cons_succ])
                  refine wpAnyIn_ready (rs := [1, 4]) (by kernel_rfl) (by simp) ?_
                  refine AllReadyIn.cons (by rw [List.getElem?_toArray]; exact rfl) (fun K hK => ?_) ?_
                  · go_simp
                    refine hK _ _ ?_
                    clear hK K
                    (try simp only [Act.put, List.setIfInBounds_toArray, List.set_cons_zero, List.set_cons_succ])
                    refine wpAnyIn_ready (rs := [4]) (by kernel_rfl) (by simp) ?_
                    refine AllReadyIn.cons (by rw [List.getElem?_toArray]; exact rfl) (fun K hK => ?_) ?_
                    · go_simp
                      refine hK _ _ ?_
                      clear hK K
                      (try simp only [Act.put, List.setIfInBounds_toArray, List.set_cons_zero, List.set_cons_succ])
                      refine wpAnyIn_ready (rs := [5]) (by kernel_rfl) (by simp) ?_
                      refine AllReadyIn.cons (by rw [List.getElem?_toArray]; exact rfl) (fun K hK => ?_) ?_
                      · refine wpIn_app_step (by rfl) _ _ (by rfl) rfl rfl hrun ?_
                        refine hK _ _ ?_
                        clear hK K
                        (try simp only [Act.put, List.setIfInBounds_toArray, List.set_cons_zero, List.set_cons_succ])
                        refine wpAnyIn_ready (rs := [6]) (by kernel_rfl) (by simp) ?_
                        refine AllReadyIn.cons (by rw [List.getElem?_toArray]; exact rfl) (fun K hK => ?_) ?_
                        · go_simp
                          refine hK _ _ ?_
                          clear hK K
                          (try simp only [Act.put, List.setIfInBounds_toArray, List.set_cons_zero, List.set_cons_succ])
                          refine wpAnyIn_ready (rs := [7]) (by kernel_rfl) (by simp) ?_
                          refine AllReadyIn.cons (by rw [List.getElem?_toArray]; exact rfl) (fun K hK => ?_) ?_
                          · go_simp
                            refine hK _ _ ?_
                            clear hK K
                            (try simp only [Act.put, List.setIfInBounds_toArray, List.set_cons_zero, List.set_cons_succ])
                            refine wpAnyIn_done (by kernel_rfl) ?_ _
                            gi_wp2
                            go_roundw
                            case rel => exact ⟨_, _, _, _, _, HI6.out⟩
                            case measure => rw [HI6.out.sc.left, HI.out.sc.left, List.length_cons]; omega
                          exact AllReadyIn.nil
                        exact AllReadyIn.nil
                      exact AllReadyIn.nil
                    exact AllReadyIn.nil
                  refine AllReadyIn.cons (by rw [List.getElem?_toArray]; exact rfl) (fun K hK => ?_) ?_
                  · go_simp
                    refine hK _ _ ?_
                    clear hK K
                    (try simp only [Act.put, List.setIfInBounds_toArray, List.set_cons_zero, List.set_cons_succ])
                    refine wpAnyIn_ready (rs := [1]) (by kernel_rfl) (by simp) ?_
                    refine AllReadyIn.cons (by rw [List.getElem?_toArray]; exact rfl) (fun K hK => ?_) ?_
                    · go_simp
                      refine hK _ _ ?_
                      clear hK K
                      (try simp only [Act.put, List.setIfInBounds_toArray, List.set_cons_zero, List.set_cons_succ])
                      refine wpAnyIn_ready (rs := [5]) (by kernel_rfl) (by simp) ?_
                      refine AllReadyIn.cons (by rw [List.getElem?_toArray]; exact rfl) (fun K hK => ?_) ?_
                      · refine wpIn_app_step (by rfl) _ _ (by rfl) rfl rfl hrun ?_
                        refine hK _ _ ?_
                        clear hK K
                        (try simp only [Act.put, List.setIfInBounds_toArray, List.set_cons_zero, List.set_cons_succ])
                        refine wpAnyIn_ready (rs := [6]) (by kernel_rfl) (by simp) ?_
                        refine AllReadyIn.cons (by rw [List.getElem?_toArray]; exact rfl) (fun K hK => ?_) ?_
                        · go_simp
                          refine hK _ _ ?_
                          clear hK K
                          (try simp only [Act.put, List.setIfInBounds_toArray, List.set_cons_zero, List.set_cons_succ])
                          refine wpAnyIn_ready (rs := [7]) (by kernel_rfl) (by simp) ?_
                          refine AllReadyIn.cons (by rw [List.getElem?_toArray]; exact rfl) (fun K hK => ?_) ?_
                          · go_simp
                            refine hK _ _ ?_
                            clear hK K
                            (try simp only [Act.put, List.setIfInBounds_toArray, List.set_cons_zero, List.set_cons_succ])
                            refine wpAnyIn_done (by kernel_rfl) ?_ _
                            gi_wp2
                            go_roundw
                            case rel => exact ⟨_, _, _, _, _, HI6.out⟩
                            case measure => rw [HI6.out.sc.left, HI.out.sc.left, List.length_cons]; omega
                          exact AllReadyIn.nil
                        exact AllReadyIn.nil
                      exact AllReadyIn.nil
                    exact AllReadyIn.nil
                  exact AllReadyIn.nil
                refine AllReadyIn.cons (by rw [List.getElem?_toArray]; exact rfl) (fun K hK => ?_) ?_
                · go_simp
                  refine hK _ _ ?_
                  clear hK K
                  (try simp only [Act.put, List.setIfInBounds_toArray, List.set_cons_zero, List.set_cons_succ])
                  refine wpAnyIn_ready (rs := [0]) (by kernel_rfl) (by simp) ?_
                  refine AllReadyIn.cons (by rw [List.getElem?_toArray]; exact rfl) (fun K hK => ?_) ?_
                  · go_simp
                    refine hK _ _ ?_
                    clear hK K
                    (try simp only [Act.put, List.setIfInBounds_toArray, List.set_cons_zero, List.set_cons_succ])
                    refine wpAnyIn_ready (rs := [1]) (by kernel_rfl) (by simp) ?_
                    refine AllReadyIn.cons (by rw [List.getElem?_toArray]; exact rfl) (fun K hK => ?_) ?_
                    · go_simp
                      refine hK _ _ ?_
                      clear hK K
                      (try simp only [Act.put, List.setIfInBounds_toArray, List.set_cons_zero, List.set_cons_succ])
                      refine wpAnyIn_ready (rs := [5]) (by kernel_rfl) (by simp) ?_
                      refine AllReadyIn.cons (by rw [List.getElem?_toArray]; exact rfl) (fun K hK => ?_) ?_
                      · refine wpIn_app_step (by rfl) _ _ (by rfl) rfl rfl hrun ?_
                        refine hK _ _ ?_
                        clear hK K
                        (try simp only [Act.put, List.setIfInBounds_toArray, List.set_cons_zero, List.set_cons_succ])
                        refine wpAnyIn_ready (rs := [6]) (by kernel_rfl) (by simp) ?_
                        refine AllReadyIn.cons (by rw [List.getElem?_toArray]; exact rfl) (fun K hK => ?_) ?_
                        · go_simp
                          refine hK _ _ ?_
                          clear hK K
                          (try simp only [Act.put, List.setIfInBounds_toArray, List.set_cons_zero, List.set_cons_succ])
                          refine wpAnyIn_ready (rs := [7]) (by kernel_rfl) (by simp) ?_
                          refine AllReadyIn.cons (by rw [List.getElem?_toArray]; exact rfl) (fun K hK => ?_) ?_
                          · go_simp
                            refine hK _ _ ?_
                            clear hK K
                            (try simp only [Act.put, List.setIfInBounds_toArray, List.set_cons_zero, List.set_cons_succ])
                            refine wpAnyIn_done (by kernel_rfl) ?_ _
                            gi_wp2
                            go_roundw
                            case rel => exact ⟨_, _, _, _, _, HI6.out⟩
                            case measure => rw [HI6.out.sc.left, HI.out.sc.left, List.length_cons]; omega
                          exact AllReadyIn.nil
                        exact AllReadyIn.nil
                      exact AllReadyIn.nil
                    exact AllReadyIn.nil
                  exact AllReadyIn.nil
                exact AllReadyIn.nil
              exact AllReadyIn.nil
            exact AllReadyIn.nil
            -- ENDTREE
        · gi_wp2
          obtain ⟨z0', z1'⟩ := blk_res (u' := .slice none 0 0) (b' := false) R0 R1
          exact ⟨((keeps_below HI.out.low).trans (KeepsOthers.setCell _ _ _)).trans (KeepsOthers.setCell _ _ _), ⟨((below_step hb HI.out.low).setCell (p := ⟨w.heap.size, 0, none⟩) (Nat.le_refl _) _).setCell (p := ⟨w.heap.size + 1, 0, none⟩) (by show w.heap.size ≤ w.heap.size + 1; omega) _, z0', z1', x, by simp, HI.out.bads rfl⟩, rfl⟩
    case hdone =>
      rintro D W hD hi hK
      obtain ⟨hb, r0, r1, r2, r3, v, es, ds, P⟩ := hi
      obtain ⟨A, c, rfl, hnc, hrd⟩ := P.own.rds P.says
      have p0 := P.box.cell 0
      simp only [List.getElem?_toArray, List.getElem?_cons_zero] at p0
      have hN : es.length ≤ 1048576 := P.own.small
      have hS : SmallD ds := OW2.smallD P.own P.says
      have HN := hide hN; have HS := hide hS
      have hl : ds.length = (partsL [59, 32] (c0 :: s0)).length := by
        have := congrArg List.length P.says
        simp only [List.length_map] at this
        rw [← this]; exact P.n
      have hU : ∀ p : Ds, planB p = true → planT p = c0 :: s0 → ds = p := fun p h1 h2 => hL p ds h1 h2 (by simp) hl P.parts
      have HU := hide hU
      clear hS hU hL hG hl
      have HK := hide hK
      clear hK
      cases hV : planB ds
      · have HV := hide hV
        clear hV
        gi_wp2_with (first | (refine ⟨trivial, ?_⟩; gi_at_call 24; refine (callsIn_wide.2 (impl_PlanValid_c hrd HN.out HS.out)).mono ?_; rintro e W2 ⟨rfl, b2⟩; rw [HV.out]; have hrd2 := hrd.below b2; have Rp := P.box.belowAll b2; have R0 := r0.belowAll b2; have R1 := r1.belowAll b2; have p2 := Rp.cell 0; have q0 := R0.cell 0; have q1 := R1.cell 0; have f0 := R0.frozen 0; have f1 := R1.frozen 0; simp only [List.getElem?_toArray, List.getElem?_cons_zero] at q0 q1 p2) | (refine And.intro (show Fence.wide.fn 13 from trivial) ?_))
        obtain ⟨z0, z1⟩ := blk_res (u' := .slice none 0 0) (b' := false) R0 R1
        refine retR Tryd.results7 z0 z1 (def_fin HK.out b2 (by simp [seqW, hz] at hD; omega) _ _) rfl rfl ⟨below_fin (below_step hb b2) (by simp [seqW, hz] at hD; omega) _ _ _, .inr ⟨fun p h1 h2 => ?_, rfl⟩⟩
        have := HU.out p h1 h2
        subst this
        rw [HV.out] at h1; cases h1
      · have HV := hide hV
        clear hV
        by_cases hq : planT ds = c0 :: s0
        · have hq' : ((str (planT ds)).toList == (str (c0 :: s0)).toList) = true := by rw [str_toList, str_toList, hq]; simp
          gi_wp2_with (first | (refine ⟨trivial, ?_⟩; gi_at_call 24; refine (callsIn_wide.2 (impl_PlanValid_c hrd HN.out HS.out)).mono ?_; rintro e W2 ⟨rfl, b2⟩; rw [HV.out]; have hrd2 := hrd.below b2; have Rp := P.box.belowAll b2; have R0 := r0.belowAll b2; have R1 := r1.belowAll b2; have p2 := Rp.cell 0; have q0 := R0.cell 0; have q1 := R1.cell 0; have f0 := R0.frozen 0; have f1 := R1.frozen 0; simp only [List.getElem?_toArray, List.getElem?_cons_zero] at q0 q1 p2) | (refine ⟨trivial, ?_⟩; gi_at_call 13; refine (callsIn_wide.2 (impl_PlanText_c hrd2 HN.out HS.out)).mono ?_; rintro e W3 ⟨rfl, b3⟩; have Rp3 := Rp.belowAll b3; have R03 := R0.belowAll b3; have R13 := R1.belowAll b3; have p3 := Rp3.cell 0; have q03 := R03.cell 0; have q13 := R13.cell 0; have f03 := R03.frozen 0; have f13 := R13.frozen 0; simp only [List.getElem?_toArray, List.getElem?_cons_zero] at q03 q13 p3) | (refine ⟨trivial, ?_⟩; gi_at_call 25; refine (callsIn_wide.2 (Clip_Draft_c ((P.own.keep (fun g cs t _ _ hb => (hb.belowAll b2).belowAll b3))))).mono ?_; rintro e W4 ⟨rfl, rfl⟩))
          obtain ⟨z0, z1⟩ := blk_res (u' := .slice A es.length es.length) (b' := true) R03 R13
          have bw := below_step b2 b3
          refine retR Tryd.results7 z0 z1 (def_fin HK.out bw (by simp [seqW, hz] at hD; omega) _ _) rfl rfl ⟨below_fin (below_step hb bw) (by simp [seqW, hz] at hD; omega) _ _ _, .inl ⟨ds, A, es.length, c, es, HV.out, hq, rfl, hnc, P.own.keep (fun g cs t _ ht hb => blk_put (def_fin HK.out bw (by simp [seqW, hz] at hD; omega) _ _) (blk_set2 R03 R13 ht ((hb.belowAll b2).belowAll b3))), P.says⟩⟩
        · have hq' : ((str (planT ds)).toList == (str (c0 :: s0)).toList) = false := by rw [str_toList, str_toList]; simpa using hq
          gi_wp2_with (first | (refine ⟨trivial, ?_⟩; gi_at_call 24; refine (callsIn_wide.2 (impl_PlanValid_c hrd HN.out HS.out)).mono ?_; rintro e W2 ⟨rfl, b2⟩; rw [HV.out]; have hrd2 := hrd.below b2; have Rp := P.box.belowAll b2; have R0 := r0.belowAll b2; have R1 := r1.belowAll b2; have p2 := Rp.cell 0; have q0 := R0.cell 0; have q1 := R1.cell 0; have f0 := R0.frozen 0; have f1 := R1.frozen 0; simp only [List.getElem?_toArray, List.getElem?_cons_zero] at q0 q1 p2) | (refine ⟨trivial, ?_⟩; gi_at_call 13; refine (callsIn_wide.2 (impl_PlanText_c hrd2 HN.out HS.out)).mono ?_; rintro e W3 ⟨rfl, b3⟩; have Rp3 := Rp.belowAll b3; have R03 := R0.belowAll b3; have R13 := R1.belowAll b3; have p3 := Rp3.cell 0; have q03 := R03.cell 0; have q13 := R13.cell 0; have f03 := R03.frozen 0; have f13 := R13.frozen 0; simp only [List.getElem?_toArray, List.getElem?_cons_zero] at q03 q13 p3))
          obtain ⟨z0, z1⟩ := blk_res (u' := .slice none 0 0) (b' := false) R03 R13
          refine retR Tryd.results7 z0 z1 (def_fin HK.out (below_step b2 b3) (by simp [seqW, hz] at hD; omega) _ _) rfl rfl ⟨below_fin (below_step hb (below_step b2 b3)) (by simp [seqW, hz] at hD; omega) _ _ _, .inr ⟨fun p h1 h2 => ?_, rfl⟩⟩
          have := HU.out p h1 h2
          subst this
          exact hq h2
    case hstop =>
      rintro D c pre W hD hpre ⟨hx, rfl⟩ hK
      obtain ⟨hb, z0, z1, x, hxp, hbad⟩ := hx
      have hno : ∀ p, planB p = true → planT p ≠ c0 :: s0 := fun p h1 h2 => hbad (hG p h1 h2 (by simp) x (hpre.subset hxp))
      clear hL hG
      gi_wp2
      exact retR Tryd.results7 z0 z1 hK rfl rfl ⟨below_put hb (by simp [seqW, hz] at hD; omega) _, .inr ⟨hno, rfl⟩⟩

end Go.Proofs.YtefopnkicllpeaaDoor
