/- Merged (what the law reaches): Bad2, Bad3, Bad4. -/
import Derived.Test.YtcfkemchekmjbaaGreatDoorVn
import Derived.Deep.DeepCutAuto
namespace Go.Proofs.YtcfkemchekmjbaaGreatDoor
open Go.RowKit Go.Maps
theorem opB_wf {x y z : Int} (h : opB (x, y, z) = true) : wfW (y, z) := by
  unfold opB at h
  simp only [Bool.and_eq_true, inB_iff] at h
  obtain ⟨_, h2, h3, _⟩ := h
  exact ⟨WalkArith.wf_i64 (by omega), WalkArith.wf_i64 (by omega)⟩
set_option maxRecDepth 100000 in
set_option maxHeartbeats 8000000 in
theorem badKind_c {A : Option Addr} {n c : Nat} {ts : List Tx} {who : Nat} {x y z : Int} {w : World} (hr : RTs w A n ts) (hh : histB ts = true) (ho : opB (x, y, z) = true) :
    Calls Tryz.prog 128 #[.slice A n c, .int .i64 (who : Int), .agg #[.int .i64 x, .int .i64 y, .int .i64 z]] w fun e w' => e = .returned (.int .i64 (badK ts who (x, y, z))) ∧ Below w.heap.size w w' := by
  have hb := (Below.refl w.heap.size w).alloc (Nat.le_refl _) (.cells #[.int .i64 x, .int .i64 y, .int .i64 z] 61)
  have K0 := Blk.new w 61 #[.int .i64 x, .int .i64 y, .int .i64 z]
  have hr0 := hr.below hb
  obtain ⟨e0, e1, e2⟩ := K0.three
  have HH := hide hh; have HL := hide hr.1
  have hq := opB_wf ho
  have hd0 : badK ts who (x, y, z) = (if x ≠ 1 ∨ z = 0 ∨ writerV ts y z = (who : Int) then 0 else match writerN ts y z with | none => 1 | some n => if (txAt ts n).2.2 then (if lastB ts y z then 0 else 3) else 2) := rfl
  have HD := hide hd0
  have HQ := hide hq
  have HB := hide hb
  clear hh hd0 hr hb hq
  go_enter Tryz.func128, Tryz.ntmps128
  go_wp2_with fail
  refine (WriterOf_c hr0 HH.out HQ.out).mono ?_
  rintro e w2 ⟨rfl, b2⟩
  have B2 := HB.out.trans (b2.mono HB.out.size)
  have K2 := K0.belowAll b2
  have hr2 := hr0.below b2
  clear e0 e1 e2 K0 hr0 b2
  obtain ⟨e0, e1, e2⟩ := K2.three
  obtain ⟨v, hv⟩ : ∃ v, writerV ts y z = v := ⟨_, rfl⟩
  rw [hv]
  have HV := hide hv
  clear hv
  go_wp2_with fail
  refine (readsOp_c).mono ?_
  rintro e w3 ⟨rfl, b3⟩
  have B3 := below_step B2 b3
  have K3 := K2.belowAll b3
  have hr3 := hr2.below b3
  clear e0 e1 e2 K2 hr2 b3 B2
  obtain ⟨e0, e1, e2⟩ := K3.three
  by_cases hx : x = 1
  · subst hx
    rw [show ((1 : Int) == 1) = true by rfl]
    by_cases hz : z = 0
    · have hzb : (z == 0) = true := by simpa using hz
      have hf : badK ts who (1, y, z) = 0 := by rw [HD.out, if_pos (.inr (.inl hz))]
      have F := hide hf
      clear hf hz
      go_wp2_with fail
      go_ret
      exact ⟨congrArg (fun q => Ending.returned (.int .i64 q)) F.out.symm, B3⟩
    · have hzb : (z == 0) = false := by simpa using hz
      have HZ := hide hz
      clear hz
      by_cases hw : v = (who : Int)
      · have hwb : (v == (who : Int)) = true := by simpa using hw
        have hf : badK ts who (1, y, z) = 0 := by rw [HD.out, if_pos (.inr (.inr (HV.out.trans hw)))]
        have F := hide hf
        clear hf hw
        go_wp2_with fail
        go_ret
        exact ⟨congrArg (fun q => Ending.returned (.int .i64 q)) F.out.symm, B3⟩
      · have hwb : (v == (who : Int)) = false := by simpa using hw
        have hc : ¬ ((1 : Int) ≠ 1 ∨ z = 0 ∨ writerV ts y z = (who : Int)) := by
          rintro (h | h | h)
          · exact h rfl
          · exact HZ.out h
          · exact hw (HV.out.symm.trans h)
        have hD2 := HD.out
        rw [if_neg hc] at hD2
        have HD2 := hide hD2
        clear hw hc hD2
        cases hn : writerN ts y z with
        | none =>
          have hv1 : v = -1 := by rw [← HV.out]; unfold writerV; rw [hn]
          have hf : badK ts who (1, y, z) = 1 := by rw [HD2.out, hn]
          have F := hide hf
          have hneg : v < 0 := by omega
          clear hf hn hv1
          go_wp2_with fail
          go_ret
          exact ⟨congrArg (fun q => Ending.returned (.int .i64 q)) F.out.symm, B3⟩
        | some m =>
          have hv1 : v = (m : Int) := by rw [← HV.out]; unfold writerV; rw [hn]
          obtain ⟨t, ht, _⟩ := writerN_some hn
          have hmn : m < n := by have := (List.getElem?_eq_some_iff.1 ht).1; have := HL.out; omega
          obtain ⟨b, off, f, ys, dn, B, kk, d, rfl, hbb, hx, q0, q1, q2, hkd, hdm, hri⟩ := hr3.at_ hmn
          have hD3 := HD2.out
          rw [hn] at hD3
          have hD4 : badK ts who (1, y, z) = if (txAt ts m).2.2 then (if lastB ts y z then 0 else 3) else 2 := hD3
          rw [txAt_get hx] at hD4
          have HD4 := hide hD4
          subst hv1
          have m0 : (0 : Int) ≤ m := by omega
          have m1 : (m : Int) < n := by omega
          clear hD3 hD4 hn ht hx hri
          cases dn
          · have hf : badK ts who (1, y, z) = 2 := by rw [HD4.out]; rfl
            have F := hide hf; clear hf
            go_wp2_with fail
            go_ret
            exact ⟨congrArg (fun q => Ending.returned (.int .i64 q)) F.out.symm, B3⟩
          · go_wp2_with fail
            refine (LastValue_c hr3 HH.out HQ.out).mono ?_
            rintro e w4 ⟨rfl, b4⟩
            cases hl : lastB ts y z
            · have hf : badK ts who (1, y, z) = 3 := by rw [HD4.out, hl]; rfl
              have F := hide hf; clear hf hl
              go_wp2_with fail
              go_ret
              exact ⟨congrArg (fun q => Ending.returned (.int .i64 q)) F.out.symm, below_step B3 b4⟩
            · have hf : badK ts who (1, y, z) = 0 := by rw [HD4.out, hl]; rfl
              have F := hide hf; clear hf hl
              go_wp2_with fail
              go_ret
              exact ⟨congrArg (fun q => Ending.returned (.int .i64 q)) F.out.symm, below_step B3 b4⟩
  · have hxb : (x == 1) = false := by simpa using hx
    have hf : badK ts who (x, y, z) = 0 := by rw [HD.out, if_pos (.inl hx)]
    have F := hide hf
    rw [hxb]
    clear hf hx
    go_wp2_with fail
    go_ret
    exact ⟨congrArg (fun q => Ending.returned (.int .i64 q)) F.out.symm, B3⟩
/-- Rows of places. -/
theorem infoPl : (Tryz.prog.info? 155).map (fun i => (i.zero, i.size, i.bytes)) = some (some (.agg #[.int .i64 0, .int .i64 0]), 2, 16) := by kernel_rfl
theorem OF.rd {te : TypeId} {s : Nat} {w : World} {B : Nat} {A : Option Addr} {n c : Nat} {xs : List Int} (h : OF te s w B (.slice A n c) n xs) : Rd w s A n (xs.map (Value.int .i64)) := by
  have hl := h.len
  obtain ⟨⟨h1, h2⟩, h3⟩ := h
  refine ⟨by simp [hl], fun hn => ?_⟩
  rcases h2 with ⟨h4, h5⟩ | ⟨g, cap, cur, h4, hB, hg, hc, hm, hs, ht⟩
  · omega
  · injection h4 with e1 e2 e3
    subst e1
    refine ⟨g, 0, rfl, Blk.lt hg, fun k u hu => ?_⟩
    rw [Nat.zero_add, Blk.cell (t := te) (cs := cur) hg]
    have hk : k < n * s := by have := (List.getElem?_eq_some_iff.1 hu).1; simp [hl] at this; exact this
    have h6 : (cur.toList.take (n * s))[k]? = some u := by rw [ht]; exact hu
    rw [List.getElem?_take_of_lt hk] at h6
    simpa using h6
theorem wpList_appP {w : World} {o : Oper} {a : Act} {Q : Exit → Act → World → Prop} {ops : Array Oper} {rest : List Oper} (hgd : o.guard = none) (s x : Operand)
    (ho : o.op = .call { callee := .builtin .append, args := #[s, x], argTypes := #[105, 105] })
    {B : Nat} {v : Value} {n : Nat} {xs : List Int} (hs : a.eval s = v) (hown : OF 155 2 w B v n xs)
    {A : Option Addr} {m c : Nat} {ys : List Int} (hx : a.eval x = .slice A m c) (hr : Rd w 2 A m (ys.map (Value.int .i64))) (hnm : n + m ≤ 1048576) (hbase : B ≤ w.heap.size)
    (h : ∀ v' w', OF 155 2 w' B v' (n + m) (xs ++ ys) → w.grownBy w' v.ownBlock → wpList Tryz.prog ops Q rest (a.put o.dst v') w') : wpList Tryz.prog ops Q (o :: rest) a w := by
  obtain ⟨i, hi, hz, hsz, hby⟩ := info_parts infoPl
  refine wpList_app hgd s x _ ho B 155 i (.agg #[.int .i64 0, .int .i64 0]) 2 16 Tryz.underlying105 hi hz hsz hby rfl (by omega) v n _ hs hown.1 A m c _ hx hr (ints_oneCell _ _) (by simp only [maxLen]; omega) (by omega) hbase ?_
  intro v' w' h1 h2 h3
  exact h v' w' ⟨by simpa using h1, hnm⟩ h2
theorem OF.emptyP (w : World) : OF 155 2 (w.alloc (.cells #[] 155)) w.heap.size (.slice (some ⟨w.heap.size, 0, none⟩) 0 0) 0 [] :=
  ⟨⟨rfl, .inr ⟨w.heap.size, 0, #[], rfl, Nat.le_refl _, Blk.new w _ _, Nat.le_refl _, by simp [maxLen], rfl, rfl⟩⟩, by omega⟩
theorem OF.belowG {te : TypeId} {s : Nat} {a w w' : World} {B : Nat} {v : Value} {n : Nat} {xs : List Int} (h : Below a.heap.size a w) (ho : OF te s w B v n xs) (hB : a.heap.size ≤ B) (hg : w.grownBy w' v.ownBlock) : Below a.heap.size a w' :=
  h.grown hg h.size (fun k hk => by have := (World.ownsRow.lt ho.1 k hk).1; omega)
theorem OF.alloc {te : TypeId} {s : Nat} {w : World} {B : Nat} {v : Value} {n : Nat} {xs : List Int} (h : OF te s w B v n xs) (o : Obj) : OF te s (w.alloc o) B v n xs := h.below ((Below.refl _ _).alloc (Nat.le_refl _) _)
theorem Rd.twoP {w : World} {g : Nat} {te : TypeId} {x y : Int} (h : Blk w g te #[.int .i64 x, .int .i64 y]) : Rd w 2 (some ⟨g, 0, none⟩) 1 (([x, y] : List Int).map (Value.int .i64)) := by
  refine ⟨rfl, fun _ => ⟨g, 0, rfl, h.lt, fun k u hu => ?_⟩⟩
  rw [Nat.zero_add, h.cell]
  match k, hu with
  | 0, hu => simp at hu; subst hu; rfl
  | 1, hu => simp at hu; subst hu; rfl
/-- A row is no map. -/
theorem own_map_ne {w : World} {b n k s B : Nat} {t kt : TypeId} {H : Type} {R : Value → Option (DataW H × List MemPlace)} {D : DataW H} {q : Value} {xs : List Value} (h : w.ownsMap Tryz.prog kt R b n D) (ho : w.ownsRow B t s q k xs) : some b ≠ q.ownBlock := fun e => by
  obtain ⟨es, cl, h3, _⟩ := h
  rcases ho.2 with ⟨rfl, _⟩ | ⟨g, cap, cur, rfl, _, hh, _⟩
  · simp [Value.ownBlock] at e
  · have e1 : b = g := by have h : some b = some g := e; injection h
    subst e1
    rw [hh] at h3; injection h3 with h3; cases h3
/-- The map at block b: the last operations among os. -/
def LastM (w : World) (b n : Nat) (os : List T3) : Prop :=
  ∃ D : DataW Value, w.ownsMap Tryz.prog 3 RV b n D ∧ ∀ q, Maps.has D (kI q) = (lastO os q).isSome ∧ D.atKey (kI q) (.held (.int .i64 0)) = .held (.int .i64 ((lastO os q).getD (0, 0, 0)).2.2)
theorem LastM.zero (w : World) : LastM (w.alloc (.map #[] 0)) w.heap.size 0 [] := ⟨_, World.ownsMap_made w _ _ _, fun _ => ⟨rfl, rfl⟩⟩
theorem LastM.lt {w : World} {b n : Nat} {os : List T3} (h : LastM w b n os) : b < w.heap.size := by obtain ⟨D, ho, _⟩ := h; exact ho.lt
theorem LastM.below {w w' : World} {b n : Nat} {os : List T3} (h : LastM w b n os) (hb : Below w.heap.size w w') : LastM w' b n os := by
  obtain ⟨D, ho, h2⟩ := h
  have hlt := ho.lt
  obtain ⟨es, cl, h3, h4⟩ := ho
  exact ⟨D, ⟨es, cl, (hb.block b hlt).trans h3, h4⟩, h2⟩
theorem LastM.alloc {w : World} {b n : Nat} {os : List T3} (h : LastM w b n os) (o : Obj) : LastM (w.alloc o) b n os := h.below ((Below.refl _ _).alloc (Nat.le_refl _) _)
theorem LastM.kept {w w' : World} {row : Option Nat} {b n : Nat} {os : List T3} (h : LastM w b n os) (hg : w.grownBy w' row) (hne : some b ≠ row) : LastM w' b n os := by
  obtain ⟨D, ho, h2⟩ := h
  exact ⟨D, ho.kept hg hne, h2⟩
theorem LastM.step {w' : World} {b n k : Nat} {os : List T3} {o : T3} {D : DataW Value} (hm : IsMap D)
    (h2 : ∀ q, Maps.has D (kI q) = (lastO (os.take k) q).isSome ∧ D.atKey (kI q) (.held (.int .i64 0)) = .held (.int .i64 ((lastO (os.take k) q).getD (0, 0, 0)).2.2))
    (hk : os[k]? = some o) (h : w'.ownsMap Tryz.prog 3 RV b n (D.put (kI o.2.1) (.held (.int .i64 o.2.2)))) : LastM w' b n (os.take (k + 1)) := by
  refine ⟨_, h, fun q => ?_⟩
  rw [List.take_add_one, hk]
  simp only [Option.toList_some]
  rw [lastO_snoc]
  by_cases e : o.2.1 = q
  · subst e
    rw [if_pos rfl, has_put_same hm (show Go.WideAt.IsKeyLit (kI _) from trivial), atKey_put_same hm (show Go.WideAt.IsKeyLit (kI _) from trivial)]
    exact ⟨rfl, rfl⟩
  · rw [if_neg e, has_put_other (fun h => e (kI_inj h).symm), atKey_put_other (fun h => e (kI_inj h).symm)]
    exact h2 q
end Go.Proofs.YtcfkemchekmjbaaGreatDoor

namespace Go.Proofs.YtcfkemchekmjbaaGreatDoor
open Go.RowKit Go.Maps
theorem zeroIv (w : World) : (zeroValue 3).run Tryz.prog w = .ok (.int .i64 0) w := by kernel_rfl
def RetOwn (w : World) (k : Nat) (e : Ending) (w' : World) : Prop := ∃ A n c xs, e = .returned (.slice A n c) ∧ n = k ∧ OF 155 2 w' w.heap.size (.slice A n c) n xs ∧ Below w.heap.size w w'
theorem OF.shapeP {te : TypeId} {s : Nat} {w : World} {B : Nat} {v : Value} {n : Nat} {xs : List Int} (h : OF te s w B v n xs) : ∃ A c, v = .slice A n c := by obtain ⟨A, c, h1, _⟩ := h.form; exact ⟨A, c, h1⟩
theorem ownBad_four (ts : List Tx) (who : Nat) (ys : List T3) (j : Nat) (o : T3) : (if (4 : Int) = 4 then ownBad ys j o else decide (badK ts who o = 4)) = ownBad ys j o := if_pos rfl
set_option maxRecDepth 100000 in
set_option maxHeartbeats 16000000 in
theorem ownErrors_c {u : Value} {m : Nat} {ys : List T3} {f who : Int} {dn : Bool} {w : World} (ts : List Tx) (nn : Nat) (hu : S3 w u m ys) (hok : txnB (f, ys, dn) = true) :
    Calls Tryz.prog 127 #[.int .i64 who, .agg #[.int .i64 f, u, .bool dn]] w (RetOwn w (badTo ts 4 nn ys ys.length)) := by
  obtain ⟨A, c, rfl, hnc, hmm, hr⟩ := hu
  have hl := hide hr.len
  have Hok := hide hok
  have hm6 : m ≤ 6 := by have h1 := txnB_lenH hok; have h2 := hr.len; omega
  have hmk := fun (v : World) => run_makeMap (P := Tryz.prog) 194 v
  have K0 := Blk.new w 66 #[.int .i64 f, .slice A m c, .bool dn]
  have o0 := ((OF.emptyP (w.alloc (.cells #[.int .i64 f, .slice A m c, .bool dn] 66))).alloc (.map #[] 0)).mono (B' := w.heap.size) (by simp)
  have M0 := LastM.zero ((w.alloc (.cells #[.int .i64 f, .slice A m c, .bool dn] 66)).alloc (.cells #[] 155))
  have B0 : Below w.heap.size w (((w.alloc (.cells #[.int .i64 f, .slice A m c, .bool dn] 66)).alloc (.cells #[] 155)).alloc (.map #[] 0)) := (((Below.refl w.heap.size w).alloc (Nat.le_refl _) _).alloc (by simp) _).alloc (by simp <;> omega) _
  simp only [World.size_alloc] at o0 M0
  have O0 := hide o0; have M0' := hide M0; have B0' := hide B0
  clear o0 M0 B0 hok
  obtain ⟨g0, g1, g2⟩ := K0.three
  clear K0
  go_enter Tryz.func127, Tryz.ntmps127
  go_wp2_with fail
  clear g0 g1 g2
  go_loopw [5, 16] (fun v i W => ∃ (k n : Nat) (xs : List Int), i = .int .i64 k ∧ k ≤ m ∧ OF 155 2 W w.heap.size v n xs ∧ n = badTo ts 4 nn ys k ∧ LastM W (w.heap.size + 1 + 1) k (ys.take k) ∧ Below w.heap.size w W) (fun _ i _ => m - (intOf i).toNat)
  case atStart => exact ⟨0, 0, [], rfl, Nat.zero_le _, O0.out, rfl, M0'.out, B0'.out⟩
  case round =>
    clear O0 M0' B0'
    rename World => wr
    obtain ⟨k, n, xs, rfl, hkm, ho, hnk, hla, bw⟩ := hrel
    have hn6 : n ≤ 6 := by rw [hnk]; exact Nat.le_trans (badTo_le ts 4 nn ys k) (by omega)
    have HN := hide hnk; clear hnk
    obtain ⟨Ao, co, rfl⟩ := ho.shapeP
    by_cases hlt : k < m
    · obtain ⟨b, off, x, y, z, rfl, hbb, hx, p0, p1, p2⟩ := hr.at_ hlt
      have a0 := (bw.cell (p := ⟨b, off + k * 3, none⟩) hbb).trans p0
      have a1 := (bw.cell (p := ⟨b, off + k * 3 + 1, none⟩) hbb).trans p1
      have a2 := (bw.cell (p := ⟨b, off + k * 3 + 2, none⟩) hbb).trans p2
      have hop := txnB_op Hok.out hx
      have hkey := opB_key hop
      have HKO := hide (keyInt (wfI_small hkey.1 (by omega)))
      have HX := hide hx
      clear hx p0 p1 p2 hop hkey
      have k0 : (0 : Int) ≤ k := by omega
      have k2 : (k : Int) < m := by omega
      have b1 : Below w.heap.size w (wr.alloc (.cells #[.int .i64 x, .int .i64 y, .int .i64 z] 61)) := bw.alloc bw.size _
      have K1 := Blk.new wr 61 #[.int .i64 x, .int .i64 y, .int .i64 z]
      have ho1 := ho.alloc (.cells #[.int .i64 x, .int .i64 y, .int .i64 z] 61)
      have hl1 := hla.alloc (.cells #[.int .i64 x, .int .i64 y, .int .i64 z] 61)
      obtain ⟨D, hown, hD⟩ := hl1
      have HD := hide hD
      clear hD ho hla
      have HO1 := hide ho1; have HB1 := hide b1; have HK1 := hide K1
      have HOW := hide hown
      clear ho1 b1 K1
      have hhas := (HD.out y).1
      have hat := (HD.out y).2
      cases hlo : lastO (ys.take k) y with
      | none =>
        rw [hlo] at hhas hat
        have hno : badTo ts 4 nn ys (k + 1) = badTo ts 4 nn ys k := badTo_no HX.out (by rw [ownBad_four]; unfold ownBad; dsimp only; rw [hlo]; simp)
        have HNO := hide hno
        have HT := hide (show Maps.has D (kI y) = false from hhas)
        have HAT := hide (show D.atKey (kI y) (.held (.int .i64 0)) = .held (.int .i64 0) from hat)
        clear hno hhas hat hlo
        go_wp2_with (at_lookup; refine wpList_lookup_own_ok _ rfl _ _ 194 rfl 3 3 lawInt Tryz.underlying194 RV (zeroIv _) (.held (.int .i64 0)) [] rfl (w.heap.size + 1 + 1) k D rfl hown _ _ rfl HKO.out ?_; intro vv pp hvv; obtain rfl : vv = .int .i64 0 := (by rw [HAT.out] at hvv; have := congrArg (fun x => x.map Prod.fst) hvv; simpa [RV] using this); rw [HT.out])
        refine (readsOp_c).mono ?_
        rintro e w3 ⟨rfl, b3⟩
        have B3 := below_step HB1.out b3
        have K3 := HK1.out.belowAll b3
        have ho3 := HO1.out.below b3
        obtain ⟨D3, hown3, hD3⟩ : LastM w3 (w.heap.size + 1 + 1) k (ys.take k) := LastM.below ⟨D, HOW.out, HD.out⟩ b3
        have HM3 := hide hown3.isMap
        have HD3 := hide hD3
        have HO3 := hide ho3; have HB3 := hide B3
        obtain ⟨f0, f1, f2⟩ := K3.three
        have hlt3 := hown3.lt
        have hne3 := own_map_ne hown3 ho3.1
        clear hD3 ho3 B3 K3 b3 hown
        have hown4 := hown3
        cases hxb : (x == 1)
        all_goals
          go_wp2_with (at_mapUpdate; refine wpList_mapUpdate_own _ rfl _ _ _ 194 rfl 3 3 lawInt Tryz.underlying194 RV (w.heap.size + 1 + 1) k D3 rfl hown4 (by unfold maxLen; omega) _ _ _ rfl rfl HKO.out _ [] rfl ?_; intro w5 hown5 hgrow5)
          go_roundw
          case rel => exact ⟨k + 1, n, xs, by go_num, by omega, HO3.out.grown hgrow5 (.inr (fun e => hne3 e.symm)), by rw [HNO.out]; exact HN.out, LastM.step HM3.out HD3.out HX.out hown5, HB3.out.grown hgrow5 HB3.out.size (fun j e => by cases e; omega)⟩
          case measure => simp [intOf]; omega
      | some p =>
        obtain ⟨px, py, pz⟩ := p
        rw [hlo] at hhas hat
        have HT := hide (show Maps.has D (kI y) = true from hhas)
        have HAT := hide (show D.atKey (kI y) (.held (.int .i64 0)) = .held (.int .i64 pz) from hat)
        have HLO := hide hlo
        clear hhas hat hlo
        go_wp2_with (at_lookup; refine wpList_lookup_own_ok _ rfl _ _ 194 rfl 3 3 lawInt Tryz.underlying194 RV (zeroIv _) (.held (.int .i64 0)) [] rfl (w.heap.size + 1 + 1) k D rfl hown _ _ rfl HKO.out ?_; intro vv pp hvv; obtain rfl : vv = .int .i64 pz := (by rw [HAT.out] at hvv; have := congrArg (fun x => x.map Prod.fst) hvv; simpa [RV] using this); rw [HT.out])
        refine (readsOp_c).mono ?_
        rintro e w3 ⟨rfl, b3⟩
        have B3 := below_step HB1.out b3
        have K3 := HK1.out.belowAll b3
        have ho3 := HO1.out.below b3
        have hl3 : LastM w3 (w.heap.size + 1 + 1) k (ys.take k) := LastM.below ⟨D, HOW.out, HD.out⟩ b3
        have hlt3 := hl3.lt
        have hne3 : some (w.heap.size + 1 + 1) ≠ (Value.slice Ao n co).ownBlock := by obtain ⟨D3, hown3, _⟩ := hl3; exact own_map_ne hown3 ho3.1
        have HO3 := hide ho3; have HB3 := hide B3; have HL3 := hide hl3; have HK3 := hide K3
        obtain ⟨f0, f1, f2⟩ := K3.three
        clear ho3 B3 K3 b3 hown hl3
        by_cases hbad : x = 1 ∧ pz ≠ z
        · obtain ⟨rfl, hpz⟩ := hbad
          have hpb : (pz != z) = true := by simpa using hpz
          have hyes : badTo ts 4 nn ys (k + 1) = badTo ts 4 nn ys k + 1 := badTo_yes HX.out (by rw [ownBad_four]; unfold ownBad; dsimp only; rw [HLO.out]; simpa using hpz)
          have HY := hide hyes
          rw [show ((1 : Int) == 1) = true by rfl]
          clear hyes hpz
          have ho4 := HO3.out.alloc (.cells #[.int .i64 who, .int .i64 (k : Int)] 155)
          have hl4 := HL3.out.alloc (.cells #[.int .i64 who, .int .i64 (k : Int)] 155)
          have B4 := HB3.out.alloc HB3.out.size (.cells #[.int .i64 who, .int .i64 (k : Int)] 155)
          have rd4 := Rd.twoP (Blk.new w3 155 #[.int .i64 who, .int .i64 (k : Int)])
          have K4 := HK3.out.alloc (.cells #[.int .i64 who, .int .i64 (k : Int)] 155)
          have hz4 := HB3.out.size
          have hwz : some wr.heap.size ≠ (Value.slice Ao n co).ownBlock := fun e => HO1.out.ne_blk HK1.out (by decide) e.symm
          go_upto_region 9 with (at_builtin; refine wpList_appP rfl _ _ rfl rfl ho4 rfl rd4 (by omega) (by simp <;> omega) ?_; intro v5 w5 o5 hg5)
          have hl5 := hl4.kept hg5 hne3
          have B5 := OF.belowG B4 ho4 (Nat.le_refl _) hg5
          have K5 := K4.grown hg5 hwz
          have hne5 : some (w.heap.size + 1 + 1) ≠ v5.ownBlock := by obtain ⟨D3, hown3, _⟩ := hl5; exact own_map_ne hown3 o5.1
          obtain ⟨D5, hown5, hD5⟩ := hl5
          have HM5 := hide hown5.isMap
          have HD5 := hide hD5
          have hlt5 := hown5.lt
          have hown6 := hown5
          clear f0 f1 f2
          obtain ⟨f0, f1, f2⟩ := K5.three
          clear hD5 ho4 hl4 K4 rd4 hg5
          go_wp2_with (at_mapUpdate; refine wpList_mapUpdate_own _ rfl _ _ _ 194 rfl 3 3 lawInt Tryz.underlying194 RV (w.heap.size + 1 + 1) k D5 rfl hown6 (by unfold maxLen; omega) _ _ _ rfl rfl HKO.out _ [] rfl ?_; intro w7 hown7 hgrow7)
          go_roundw
          case rel => exact ⟨k + 1, n + 1, _, by go_num, by omega, o5.grown hgrow7 (.inr (fun e => hne5 e.symm)), by rw [HY.out, HN.out], LastM.step HM5.out HD5.out HX.out hown7, B5.grown hgrow7 B5.size (fun j e => by cases e; omega)⟩
          case measure => simp [intOf]; omega
        · have hno : badTo ts 4 nn ys (k + 1) = badTo ts 4 nn ys k := badTo_no HX.out (by
            rw [ownBad_four]; unfold ownBad; dsimp only; rw [HLO.out]
            by_cases h1 : x = 1
            · have : ¬ pz ≠ z := fun h => hbad ⟨h1, h⟩
              simp [h1, this]
            · simp [h1])
          have HNO := hide hno
          obtain ⟨D5, hown5, hD5⟩ := HL3.out
          have HM5 := hide hown5.isMap
          have HD5 := hide hD5
          have hown6 := hown5
          clear hno hD5
          by_cases h1 : x = 1
          · have hpz : pz = z := Classical.byContradiction fun h => hbad ⟨h1, h⟩
            have hpb : (pz != z) = false := by simpa using hpz
            subst h1
            rw [show ((1 : Int) == 1) = true by rfl]
            clear hbad hpz
            go_wp2_with (at_mapUpdate; refine wpList_mapUpdate_own _ rfl _ _ _ 194 rfl 3 3 lawInt Tryz.underlying194 RV (w.heap.size + 1 + 1) k D5 rfl hown6 (by unfold maxLen; omega) _ _ _ rfl rfl HKO.out _ [] rfl ?_; intro w7 hown7 hgrow7)
            go_roundw
            case rel => exact ⟨k + 1, n, xs, by go_num, by omega, HO3.out.grown hgrow7 (.inr (fun e => hne3 e.symm)), by rw [HNO.out]; exact HN.out, LastM.step HM5.out HD5.out HX.out hown7, HB3.out.grown hgrow7 HB3.out.size (fun j e => by cases e; omega)⟩
            case measure => simp [intOf]; omega
          · have hxb : (x == 1) = false := by simpa using h1
            rw [hxb]
            clear hbad h1
            go_wp2_with (at_mapUpdate; refine wpList_mapUpdate_own _ rfl _ _ _ 194 rfl 3 3 lawInt Tryz.underlying194 RV (w.heap.size + 1 + 1) k D5 rfl hown6 (by unfold maxLen; omega) _ _ _ rfl rfl HKO.out _ [] rfl ?_; intro w7 hown7 hgrow7)
            go_roundw
            case rel => exact ⟨k + 1, n, xs, by go_num, by omega, HO3.out.grown hgrow7 (.inr (fun e => hne3 e.symm)), by rw [HNO.out]; exact HN.out, LastM.step HM5.out HD5.out HX.out hown7, HB3.out.grown hgrow7 HB3.out.size (fun j e => by cases e; omega)⟩
            case measure => simp [intOf]; omega
    · obtain rfl : k = m := by omega
      go_wp2_with fail
      go_ret
      exact ⟨Ao, n, co, xs, rfl, by rw [hl.out]; exact HN.out, ho, bw⟩
end Go.Proofs.YtcfkemchekmjbaaGreatDoor

namespace Go.Proofs.YtcfkemchekmjbaaGreatDoor
open Go.RowKit
def earlyAt (ys : List T3) (i : Nat) : Bool := match ys[i]? with | some o => decide (o.1 = 1) && (ys.drop (i + 1)).any (fun p => decide (p = (2, o.2.1, o.2.2))) | none => false
theorem earlyB_eq (ys : List T3) : earlyB ys = (List.range ys.length).any (earlyAt ys) := rfl
theorem slice_fromOp (A : Option Addr) (n c k : Nat) (hk : k ≤ n) (hnc : n ≤ c) : ∃ A', (∀ w, (Instr.slice 64 (.slice A n c) (some (.int .i64 (k : Int))) none none).run Tryz.prog w = .ok (.slice A' (n - k) (c - k)) w) ∧ ∀ w ys, R3 w A n ys → R3 w A' (n - k) (ys.drop k) := by
  obtain ⟨i, hi, hz, hsz, hb⟩ := info_parts infoOpz
  refine ⟨if c = k then A else A.map (·.add (k * i.size)), fun w => ?_, fun w ys h => ?_⟩
  · have h1 : k ≤ c := by omega
    have h2 : (c - k = 0) ↔ c = k := by omega
    simp [Instr.slice, Instr.sliceBounds, Instr.sliceBound, run_underlying Tryz.underlying64, sizeOf, typeInfo, hi, asIntOf, hk]
  · refine ⟨by rw [List.length_drop, h.1], fun hn => ?_⟩
    obtain ⟨b, off, e, hlt, hc⟩ := h.2 (by omega)
    refine ⟨b, off + k * 3, ?_, hlt, fun j x hx => ?_⟩
    · rw [if_neg (by omega), e, hsz]; simp [addr_add]
    · have : (flat3 ys)[k * 3 + j]? = some x := by
        have hf : ∀ (ys : List T3) (k : Nat), flat3 (ys.drop k) = (flat3 ys).drop (k * 3) := by
          intro ys
          induction ys with
          | nil => intro k; simp [flat3]
          | cons a ys ih =>
            intro k
            obtain ⟨x, y, z⟩ := a
            cases k with
            | zero => simp
            | succ k => rw [List.drop_succ_cons, ih, show (k + 1) * 3 = k * 3 + 1 + 1 + 1 by omega]; simp [flat3]
        rw [hf, List.getElem?_drop] at hx
        exact hx
      rw [Nat.add_assoc]
      exact hc _ _ this
set_option maxRecDepth 100000 in
set_option maxHeartbeats 8000000 in
theorem early_c {u : Value} {m : Nat} {ys : List T3} {f : Int} {dn : Bool} {w : World} (hu : S3 w u m ys) (hm6 : m ≤ 6) :
    Calls Tryz.prog 161 #[.agg #[.int .i64 f, u, .bool dn]] w fun e w' => e = .returned (.bool (earlyB ys)) ∧ Below w.heap.size w w' := by
  obtain ⟨A, c, rfl, hnc, hmm, hr⟩ := hu
  have hl := hide hr.len
  have K0 := Blk.new w 66 #[.int .i64 f, .slice A m c, .bool dn]
  have B0 : Below w.heap.size w (w.alloc (.cells #[.int .i64 f, .slice A m c, .bool dn] 66)) := (Below.refl w.heap.size w).alloc (Nat.le_refl _) _
  have K0H := hide K0; have B0H := hide B0
  have hq := eqOpL
  obtain ⟨g0, g1, g2⟩ := K0.three
  have hlt0 := K0.lt
  clear K0 B0
  go_enter Tryz.func161, Tryz.ntmps161
  go_wp2_with fail
  clear g0 g1 g2
  go_loopw [10] (fun i W => ∃ k : Nat, i = .int .i64 k ∧ k ≤ m ∧ (List.range k).any (earlyAt ys) = false ∧ Blk W w.heap.size 66 #[.int .i64 f, .slice A m c, .bool dn] ∧ Below w.heap.size w W) (fun i _ => m - (intOf i).toNat)
  case atStart => exact ⟨0, rfl, Nat.zero_le _, rfl, K0H.out, B0H.out⟩
  case round =>
    clear K0H B0H hlt0
    rename World => wr
    obtain ⟨k, rfl, hkm, hno, hK, bw⟩ := hrel
    have HNO := hide hno; clear hno
    by_cases hlt : k < m
    · obtain ⟨b, off, x, y, z, rfl, hbb, hx, p0, p1, p2⟩ := hr.at_ hlt
      have a0 := (bw.cell (p := ⟨b, off + k * 3, none⟩) hbb).trans p0
      have a1 := (bw.cell (p := ⟨b, off + k * 3 + 1, none⟩) hbb).trans p1
      have a2 := (bw.cell (p := ⟨b, off + k * 3 + 2, none⟩) hbb).trans p2
      have HX := hide hx
      clear hx p0 p1 p2
      have k0 : (0 : Int) ≤ k := by omega
      have k2 : (k : Int) < m := by omega
      have al : Below wr.heap.size wr (wr.alloc (.cells #[.int .i64 x, .int .i64 y, .int .i64 z] 61)) := (Below.refl _ _).alloc (Nat.le_refl _) _
      have K1 := hK.alloc (.cells #[.int .i64 x, .int .i64 y, .int .i64 z] 61)
      have KO := Blk.new wr 61 #[.int .i64 x, .int .i64 y, .int .i64 z]
      have B1 := below_step bw al
      have hlo := hK.lt
      obtain ⟨h0, h1, h2⟩ := K1.three
      have hk1 : ((k : Int) + 1) = ((k + 1 : Nat) : Int) := by omega
      have hsl : ∃ A', (∀ W, (Instr.slice 64 (.slice (some ⟨b, off, none⟩) m c) (some (.int .i64 ((k : Int) + 1))) none none).run Tryz.prog W = .ok (.slice A' (m - (k + 1)) (c - (k + 1))) W) ∧ R3 w A' (m - (k + 1)) (ys.drop (k + 1)) := by
        obtain ⟨A', hrun, hR⟩ := slice_fromOp (some ⟨b, off, none⟩) m c (k + 1) (by omega) hnc
        exact ⟨A', fun W => by have := hrun W; rw [← hk1] at this; exact this, hR w ys hr⟩
      obtain ⟨A', hsl1, hrd⟩ := hsl
      have B1H := hide B1; have K1H := hide K1; have KOH := hide KO
      have hld := hide hrd.len
      have hnlt : wr.heap.size < (wr.alloc (.cells #[.int .i64 x, .int .i64 y, .int .i64 z] 61)).heap.size := by simp
      clear B1 K1 KO hK bw al hk1
      go_wp2_with fail
      clear h0 h1 h2 a0 a1 a2
      go_loopw [21] (fun i W => ∃ j : Nat, i = .int .i64 j ∧ j ≤ m - (k + 1) ∧ (x = 1 → ((ys.drop (k + 1)).take j).any (fun p => decide (p = (2, y, z))) = false) ∧ Blk W w.heap.size 66 #[.int .i64 f, .slice (some ⟨b, off, none⟩) m c, .bool dn] ∧ Blk W wr.heap.size 61 #[.int .i64 x, .int .i64 y, .int .i64 z] ∧ Below w.heap.size w W) (fun i _ => (m - (k + 1)) - (intOf i).toNat)
      case atStart => exact ⟨0, rfl, Nat.zero_le _, fun _ => rfl, K1H.out, KOH.out, B1H.out⟩
      case round =>
        clear K1H KOH B1H hnlt
        rename World => wr2
        obtain ⟨j, rfl, hjm, hany, hK, hKO, bw⟩ := hrel
        have HANY := hide hany; clear hany
        by_cases hjlt : j < m - (k + 1)
        · obtain ⟨b2, off2, x2, y2, z2, rfl, hbb2, hx2, p0, p1, p2⟩ := hrd.at_ hjlt
          have a0 := (bw.cell (p := ⟨b2, off2 + j * 3, none⟩) hbb2).trans p0
          have a1 := (bw.cell (p := ⟨b2, off2 + j * 3 + 1, none⟩) hbb2).trans p1
          have a2 := (bw.cell (p := ⟨b2, off2 + j * 3 + 2, none⟩) hbb2).trans p2
          have HX2 := hide hx2
          clear hx2 p0 p1 p2
          have j0 : (0 : Int) ≤ j := by omega
          have j2 : (j : Int) < (m - (k + 1) : Nat) := by omega
          have al : Below wr2.heap.size wr2 (wr2.alloc (.cells #[.int .i64 x2, .int .i64 y2, .int .i64 z2] 61)) := (Below.refl _ _).alloc (Nat.le_refl _) _
          have K2 := hK.alloc (.cells #[.int .i64 x2, .int .i64 y2, .int .i64 z2] 61)
          have KO2 := hKO.alloc (.cells #[.int .i64 x2, .int .i64 y2, .int .i64 z2] 61)
          have KN2 := Blk.new wr2 61 #[.int .i64 x2, .int .i64 y2, .int .i64 z2]
          have B2 := below_step bw al
          have hlo2 := hKO.lt
          obtain ⟨h0, h1, h2⟩ := KO2.three
          have B2H := hide B2; have K2H := hide K2; have KO2H := hide KO2; have KN2H := hide KN2
          clear B2 K2 KO2 KN2 hK hKO bw al
          go_wp2_with fail
          refine (readsOp_c).mono ?_
          rintro e w3 ⟨rfl, b3⟩
          have B3 := hide (below_step B2H.out b3); have K3 := hide (K2H.out.belowAll b3); have KO3 := hide (KO2H.out.belowAll b3)
          have KN3 := KN2H.out.belowAll b3
          clear h0 h1 h2 a0 a1 a2 b3
          obtain ⟨h0, h1, h2⟩ := KO3.out.three
          obtain ⟨d0, d1, d2⟩ := KN3.three
          clear KN3
          by_cases hx1 : x = 1
          · subst hx1
            rw [show ((1 : Int) == 1) = true by rfl]
            by_cases he : (x2, y2, z2) = (2, y, z)
            · have hb : (x2 == 2 && (y2 == y && z2 == z)) = true := by simpa using he
              have hf : earlyB ys = true := by
                rw [earlyB_eq, List.any_eq_true]
                refine ⟨k, List.mem_range.2 (by have := hl.out; omega), ?_⟩
                unfold earlyAt
                rw [HX.out]
                simp only [decide_true, Bool.true_and, List.any_eq_true, decide_eq_true_eq]
                exact ⟨_, List.mem_of_getElem? HX2.out, he⟩
              have F := hide hf
              clear hf he
              go_wp2_with fail
              go_ret
              exact ⟨congrArg (fun q => Ending.returned (.bool q)) F.out.symm, B3.out⟩
            · have hb : (x2 == 2 && (y2 == y && z2 == z)) = false := by simpa using he
              have hn2 : ((ys.drop (k + 1)).take (j + 1)).any (fun p => decide (p = (2, y, z))) = false := by
                rw [List.take_add_one, HX2.out, List.any_append, HANY.out rfl]
                simpa using he
              have HN2 := hide hn2
              clear hn2 he
              go_wp2_with fail
              go_roundw
              case rel => exact ⟨j + 1, by go_num, by omega, fun _ => HN2.out, K3.out, KO3.out, B3.out⟩
              case measure => simp [intOf]; omega
          · have hxb : (x == 1) = false := by simpa using hx1
            rw [hxb]
            have HX1 := hide hx1
            clear hx1
            go_wp2_with fail
            go_roundw
            case rel => exact ⟨j + 1, by go_num, by omega, fun h => absurd h HX1.out, K3.out, KO3.out, B3.out⟩
            case measure => simp [intOf]; omega
        · obtain rfl : j = m - (k + 1) := by omega
          have hn2 : (List.range (k + 1)).any (earlyAt ys) = false := by
            rw [List.range_succ, List.any_append, HNO.out]
            have : earlyAt ys k = false := by
              unfold earlyAt
              rw [HX.out]
              by_cases hx1 : x = 1
              · have h1 := HANY.out hx1
                rw [← hld.out, List.take_length] at h1
                simp only [h1, Bool.and_false]
              · simp [hx1]
            simp [this]
          have HN2 := hide hn2
          have HK := hide hK; have BW := hide bw
          clear hn2 hK bw hKO
          go_wp2_with fail
          go_roundw
          case rel => exact ⟨k + 1, by go_num, by omega, HN2.out, HK.out, BW.out⟩
          case measure => simp [intOf]; omega
    · obtain rfl : k = m := by omega
      have hf : earlyB ys = false := by rw [earlyB_eq, hl.out]; exact HNO.out
      have F := hide hf
      clear hf
      go_wp2_with fail
      go_ret
      exact ⟨congrArg (fun q => Ending.returned (.bool q)) F.out.symm, bw⟩
end Go.Proofs.YtcfkemchekmjbaaGreatDoor
