/- impl.PlanText. -/
import Derived.Test.YtefopnkicllpeaaDoorPlJ
import Derived.Test.YtefopnkicllpeaaDoorPlanI
import Derived.Test.YtefopnkicllpeaaDoorLib2
import Derived.BigQuiet
namespace Go.Proofs.YtefopnkicllpeaaDoor
open Go.RowKit

theorem writesP_c {x y z : Int} {w : World} : Calls Tryd.prog 50 #[.agg #[.int .i64 x, .int .i64 y, .int .i64 z]] w fun e w' => e = .returned (.bool (x == 2)) ∧ Below w.heap.size w w' := by
  go_enter Tryd.func50, Tryd.ntmps50
  go_wp2_with fail
  go_ret
  exact ⟨rfl, (Below.refl _ _).alloc (Nat.le_refl _) _⟩
theorem letter_c {x y z : Int} {w : World} : Calls Tryd.prog 35 #[.agg #[.int .i64 x, .int .i64 y, .int .i64 z]] w fun e w' => e = .returned (.string (str [if x = 2 then 119 else 114])) ∧ Below w.heap.size w w' := by
  have B0 := hide ((Below.refl w.heap.size w).alloc (Nat.le_refl _) (.cells #[.int .i64 x, .int .i64 y, .int .i64 z] 42))
  by_cases h : x = 2
  · subst h
    go_enter Tryd.func35, Tryd.ntmps35
    go_wp2_with fail
    refine (writesP_c).mono ?_
    rintro e w2 ⟨rfl, b2⟩
    rw [show ((2 : Int) == 2) = true from rfl]
    go_wp2_with fail
    go_ret
    exact ⟨rfl, below_step B0.out b2⟩
  · have hx : (x == 2) = false := by simpa using h
    go_enter Tryd.func35, Tryd.ntmps35
    go_wp2_with fail
    refine (writesP_c).mono ?_
    rintro e w2 ⟨rfl, b2⟩
    rw [hx]
    go_wp2_with fail
    go_ret
    exact ⟨rfl, below_step B0.out b2⟩
/-- The value v is a slice of texts of the call's own. -/
def OS (w : World) (lo : Nat) (v : Value) (ls : List (List UInt8)) : Prop := w.ownsRow lo 9 1 v ls.length (ls.map fun l => .string (str l))
theorem OS.below {w w' : World} {lo : Nat} {v : Value} {ls : List (List UInt8)} (h : OS w lo v ls) (hb : Below w.heap.size w w') : OS w' lo v ls :=
  h.kept (row := none) ⟨hb.os, hb.tape, hb.output, hb.size, fun k hk _ => hb.block k hk⟩ (by cases hv : v.ownBlock <;> simp)
theorem OS.grown_le {w : World} {lo : Nat} {v : Value} {ls : List (List UInt8)} (h : OS w lo v ls) {a : World} (ha : a.heap.size ≤ lo) : ∀ k, v.ownBlock = some k → a.heap.size ≤ k := fun k hk => by have := (World.ownsRow.lt h k hk).1; omega
theorem OS.shape {w : World} {lo : Nat} {v : Value} {ls : List (List UInt8)} (h : OS w lo v ls) : ∃ A c, v = .slice A ls.length c ∧ ls.length ≤ c ∧ RT w A ls.length ls := by
  rcases h.2 with ⟨e, h0⟩ | ⟨g, cap, cur, e, hB, hg, hc, hcm, hs, ht⟩
  · rw [h0]; exact ⟨none, 0, e, Nat.le_refl _, h0, fun h => by omega⟩
  · subst e
    refine ⟨_, _, rfl, hc, rfl, fun _ => ⟨g, 0, rfl, Blk.lt (t := 9) (cs := cur) hg, fun k x hx => ?_⟩⟩
    have hk : k < ls.length := (List.getElem?_eq_some_iff.1 hx).1
    rw [Nat.zero_add, World.ownsRow.cellAt h k (by omega)]
    simp [hx]
theorem run_make_S0 (c : Nat) (hc : c ≤ 1000) (w : World) :
    (Instr.makeSlice 39 (.int .i64 0) (.int .i64 (c : Int))).run Tryd.prog w = .ok (.slice (some ⟨w.heap.size, 0, none⟩) 0 c) (w.alloc (.cells (madeCells #[.string ⟨#[]⟩] c) 9)) := by
  obtain ⟨i, hi, hz, hs, hb⟩ := info_parts strInfo
  have := run_make_rowN 39 9 i (.string ⟨#[]⟩) Tryd.underlying39 hi hz .i64 .i64 0 c (Nat.zero_le _) (by rw [hb]; omega) (by omega) w
  rw [hs, Nat.mul_one] at this
  exact this
theorem OS.made (w : World) (c : Nat) (hc : c ≤ 1000) : OS (w.alloc (.cells (madeCells #[.string ⟨#[]⟩] c) 9)) w.heap.size (.slice (some ⟨w.heap.size, 0, none⟩) 0 c) [] :=
  ⟨rfl, .inr ⟨w.heap.size, c, _, rfl, Nat.le_refl _, Blk.new w _ _, Nat.zero_le _, by simp [maxLen]; omega, by simp [madeCells], by simp⟩⟩
theorem Rd.oneS {w : World} {b : Nat} {t : TypeId} {u : Value} (h : Blk w b t #[u]) : Rd w 1 (some ⟨b, 0, none⟩) 1 [u] :=
  ⟨rfl, fun _ => ⟨b, 0, rfl, h.lt, fun k x hx => by
    match k, hx with
    | 0, hx => simp at hx; subst hx; exact h.cell 0⟩⟩
/-- 'append(parts, part)'. -/
theorem OS.app {w : World} {o : Oper} {a : Act} {Q : Exit → Act → World → Prop} {ops : Array Oper} {rest : List Oper} (hgd : o.guard = none) (s x : Operand)
    (ho : o.op = .call { callee := .builtin .append, args := #[s, x], argTypes := #[39, 39] })
    {lo : Nat} {v : Value} {ls : List (List UInt8)} (hs : a.eval s = v) (h : OS w lo v ls) {b : Nat} {l : List UInt8} (hx : a.eval x = .slice (some ⟨b, 0, none⟩) 1 1) (hK : Blk w b 9 #[.string (str l)]) (hn : ls.length ≤ 1000) (hlo : lo ≤ w.heap.size)
    (hh : ∀ v' w', OS w' lo v' (ls ++ [l]) → w.grownBy w' v.ownBlock → wpList Tryd.prog ops Q rest (a.put o.dst v') w') : wpList Tryd.prog ops Q (o :: rest) a w := by
  obtain ⟨i, hi, hz, hsz, hby⟩ := info_parts strInfo
  refine wpList_app hgd s x _ ho lo 9 i (.string ⟨#[]⟩) 1 16 Tryd.underlying39 hi hz hsz hby rfl (by omega) v ls.length _ hs h _ 1 1 [.string (str l)] hx (Rd.oneS hK) (fun u hu => by simp at hu; subst hu; rfl) (by simp only [maxLen]; omega) (by omega) hlo ?_
  intro v' w' hown hg hat
  refine hh v' w' ?_ hg
  unfold OS
  rw [List.length_append, List.length_singleton, List.map_append]
  exact hown
theorem Itoa_small_c {x : Int} {w : World} (h0 : 0 ≤ x) (h1 : x < 100) : Calls Tryd.prog 34 #[.int .i64 x] w fun e w' => e = .returned (.string (str (digs x.toNat))) ∧ w' = w := by
  have := strconv_Itoa_small x.toNat (by omega) w
  rwa [Int.toNat_of_nonneg h0] at this
set_option maxRecDepth 100000 in
set_option maxHeartbeats 8000000 in
theorem impl_PlanText_c {A : Option Addr} {n c : Nat} {ms : Ds} {w : World} (hr : RDs w A n ms) (hn : n ≤ 1048576) (hsm : SmallD ms) :
    Calls Tryd.prog 13 #[.slice A n c] w fun e w' => e = .returned (.string (str (planT ms))) ∧ Below w.heap.size w w' := by
  have hl := hide hr.1
  cases hv : planB ms
  · have hf : planT ms = [] := by simp [planT, hv]
    have F := hide hf; have V := hide hv; clear hf hv
    go_enter Tryd.func13, Tryd.ntmps13
    go_wp2_with fail
    refine (impl_PlanValid_c hr hn hsm).mono ?_
    rintro e w2 ⟨rfl, b2⟩
    rw [V.out]
    go_wp2_with fail
    go_ret
    exact ⟨by rw [F.out]; rfl, b2⟩
  · have hf : planT ms = planTo ms n := by simp [planT, hv, hl.out]
    obtain ⟨h4, hd⟩ := planB_parts hv
    rw [hl.out] at h4
    have F := hide hf; have V := hide hv; have HD := hide hd; clear hf hv hd
    have hmk := run_make_S0 n (by omega)
    go_enter Tryd.func13, Tryd.ntmps13
    go_wp2_with fail
    refine (impl_PlanValid_c hr hn hsm).mono ?_
    rintro e w2 ⟨rfl, b2⟩
    rw [V.out]
    have O0 := hide (OS.made w2 n (by omega))
    have B0 := hide ((Below.refl w2.heap.size w2).alloc (Nat.le_refl _) (.cells (madeCells #[.string ⟨#[]⟩] n) 9))
    have HR := hide (hr.below b2); have B2 := hide b2
    clear b2
    go_wp2_with fail
    go_loopw [3, 17] (fun v i W => ∃ k : Nat, i = .int .i64 k ∧ k ≤ n ∧ OS W w2.heap.size v ((ms.take k).map draftT) ∧ Below w2.heap.size w2 W) (fun _ i _ => n - (intOf i).toNat)
    case atStart => exact ⟨0, rfl, Nat.zero_le _, O0.out, B0.out⟩
    case round =>
      clear O0 B0
      obtain ⟨k, rfl, hk, ho, bw⟩ := hrel
      have HO := hide ho; have BW := hide bw
      clear ho bw
      by_cases hkn : k < n
      · obtain ⟨b, off, f, ys, B, kk, d, rfl, hbb, hx, q0, q1, hkd, hdm, hri⟩ := HR.out.at_ hkn
        have hdp := draftB_partsT (HD.out _ (List.mem_of_getElem? hx))
        obtain ⟨hk4, hf3, hst⟩ := hdp
        dsimp only at hk4 hf3 hst
        have hyl := hri.len
        have HX := hide hx; have HST := hide hst
        have e0 := (BW.out.cell (p := ⟨b, off + k * 2, none⟩) hbb).trans q0
        have e1 := (BW.out.cell (p := ⟨b, off + k * 2 + 1, none⟩) hbb).trans q1
        have k0 : (0 : Int) ≤ k := by omega
        have k2 : (k : Int) < n := by omega
        have KD := hide (Blk.new wr 37 #[.int .i64 f, .slice B kk d])
        have HO1 := hide (HO.out.below ((Below.refl wr.heap.size wr).alloc (Nat.le_refl _) (.cells #[.int .i64 f, .slice B kk d] 37)))
        have BW1 := hide (BW.out.alloc BW.out.size (.cells #[.int .i64 f, .slice B kk d] 37))
        have s1 := fun W : World => run_string_add_sum (P := Tryd.prog) (w := W) ⟨#[115]⟩ (str (digs f.toNat)) (by rw [str_size]; have := (digs_len 3 f.toNat (by omega)).2; show 1 + _ ≤ _; omega)
        clear hx q0 q1 hst
        go_wp2_with fail
        refine (Itoa_small_c hf3.1 (by omega)).mono ?_
        rintro e w3 ⟨rfl, rfl⟩
        go_wp2_with fail
        obtain ⟨w1, hw1⟩ : ∃ q, wr.alloc (.cells #[.int .i64 f, .slice B kk d] 37) = q := ⟨_, rfl⟩
        rw [hw1] at HO1 BW1 KD
        rw [hw1]
        clear e0 e1 hw1 BW HO
        go_loopw [6, 28] (fun s i W => ∃ j : Nat, i = .int .i64 j ∧ j ≤ kk ∧ s = .string (str (115 :: (digs f.toNat ++ stepsTo ys j))) ∧ Below w1.heap.size w1 W) (fun _ i _ => kk - (intOf i).toNat)
        case atStart => exact ⟨0, rfl, Nat.zero_le _, by rw [stepsTo_zero, List.append_nil, show (⟨#[115]⟩ : ByteArray) = str [115] from rfl, str_add]; rfl, Below.refl _ _⟩
        case round =>
          rename World => wr2
          obtain ⟨j, rfl, hj, rfl, bj⟩ := hrel
          have BJ := hide bj
          have BWJ := below_step BW1.out bj
          by_cases hjk : j < kk
          · obtain ⟨b2, o2, x, y, z, rfl, hbb2, hy, p0, p1, p2⟩ := hri.at_ hjk
            obtain ⟨hx12, hy02, hsb⟩ := HST.out _ (List.mem_of_getElem? hy)
            dsimp only at hx12 hy02
            have a0 := (BWJ.cell (p := ⟨b2, o2 + j * 3, none⟩) hbb2).trans p0
            have a1 := (BWJ.cell (p := ⟨b2, o2 + j * 3 + 1, none⟩) hbb2).trans p1
            have a2 := (BWJ.cell (p := ⟨b2, o2 + j * 3 + 2, none⟩) hbb2).trans p2
            have hss := stepsTo_succ hy
            have HSS := hide hss
            have hsl := stepsTo_len (os := ys) (fun o ho => (HST.out o ho).2.2) j (by rw [hyl]; omega)
            have hdl := (digs_len 3 f.toNat (by omega)).2
            have hdk := (digs_len 3 y.toNat (by omega)).2
            have j0 : (0 : Int) ≤ j := by omega
            have j2 : (j : Int) < kk := by omega
            obtain ⟨wo, hwo⟩ : ∃ q, wr2.alloc (.cells #[.int .i64 x, .int .i64 y, .int .i64 z] 42) = q := ⟨_, rfl⟩
            have KO : Blk wo wr2.heap.size 42 #[.int .i64 x, .int .i64 y, .int .i64 z] := by rw [← hwo]; exact Blk.new wr2 _ _
            have bo : Below wr2.heap.size wr2 wo := by rw [← hwo]; exact (Below.refl _ _).alloc (Nat.le_refl _) _
            have hc : ∀ W, Below wo.heap.size wo W → W.cell? ⟨wr2.heap.size, 0, none⟩ = some (.int .i64 x) ∧ W.cell? ⟨wr2.heap.size, 1, none⟩ = some (.int .i64 y) ∧ W.cell? ⟨wr2.heap.size, 2, none⟩ = some (.int .i64 z) := fun W h => ⟨(KO.belowAll h).cell 0, (KO.belowAll h).cell 1, (KO.belowAll h).cell 2⟩
            have BZ : Below wo.heap.size wo wo.drew := (Below.refl _ _).drew
            obtain ⟨lc, hlc⟩ : ∃ q : UInt8, (if x = 2 then 119 else 114) = q := ⟨_, rfl⟩
            have HLC := hide hlc
            have t1 := fun W : World => run_string_add_sum (P := Tryd.prog) (w := W) ⟨#[32]⟩ (str [lc]) (by rw [str_size]; show 1 + 1 ≤ _; omega)
            have t2 := fun W : World => run_string_add_sum (P := Tryd.prog) (w := W) (⟨#[32]⟩ ++ str [lc]) (str (digs y.toNat)) (by rw [show (⟨#[32]⟩ : ByteArray) = str [32] from rfl, str_add, str_size, str_size]; simp; omega)
            have t3 := fun W : World => run_string_add_sum (P := Tryd.prog) (w := W) (str (115 :: (digs f.toNat ++ stepsTo ys j))) (⟨#[32]⟩ ++ str [lc] ++ str (digs y.toNat)) (by rw [show (⟨#[32]⟩ : ByteArray) = str [32] from rfl, str_add, str_add, str_size, str_size]; simp; omega)
            obtain ⟨k0c, k1c, k2c⟩ := hc wo (Below.refl _ _)
            clear hss p0 p1 p2 hy BWJ bj hlc
            go_wp2_with fail
            try rw [hwo]
            go_region_held3 (fun W => W.cell? ⟨wr2.heap.size, 0, none⟩ = some (.int .i64 x) ∧ W.cell? ⟨wr2.heap.size, 1, none⟩ = some (.int .i64 y) ∧ W.cell? ⟨wr2.heap.size, 2, none⟩ = some (.int .i64 z))
              (first | exact hc _ BZ)
              (first | (go_at_call 35; refine (letter_c).mono ?_; rintro e w7 ⟨rfl, b7⟩; rw [HLC.out]; replace BZ := below_step BZ b7) | (go_at_call 34; refine (Itoa_small_c hy02.1 (by omega)).mono ?_; rintro e w7 ⟨rfl, rfl⟩))
            have BY := hide (below_step BJ.out (below_step bo BZ))
            clear hc BZ a0 a1 a2
            go_wp2_with fail
            go_roundw
            case rel => exact ⟨j + 1, by go_num, by omega, by
              rw [HSS.out, show (⟨#[32]⟩ : ByteArray) = str [32] from rfl, str_add, str_add, str_add]
              unfold stepT; rw [← HLC.out]; simp, BY.out⟩
            case measure => simp [intOf]; omega
          · obtain rfl : j = kk := by omega
            have hse := stepsTo_all hyl
            have HSE := hide hse
            have hpl : ((ms.take k).map draftT).length = k := by rw [List.length_map, List.length_take, hl.out]; omega
            obtain ⟨Ap, cp, rfl, _, _⟩ := HO1.out.shape
            have HO2 := HO1.out.below BJ.out
            have HO3 := HO2.below ((Below.refl wr2.heap.size wr2).alloc (Nat.le_refl _) (.cells #[.string (str (115 :: (digs f.toNat ++ stepsTo ys j)))] 9))
            have KS := Blk.new wr2 9 #[.string (str (115 :: (digs f.toNat ++ stepsTo ys j)))]
            have BW2 := (below_step BW1.out BJ.out)
            have BW3 := BW2.alloc BW2.size (.cells #[.string (str (115 :: (digs f.toNat ++ stepsTo ys j)))] 9)
            have htk : (ms.take (k + 1)).map draftT = (ms.take k).map draftT ++ [115 :: (digs f.toNat ++ stepsTo ys j)] := by
              rw [List.take_add_one, HX.out, List.map_append, HSE.out]; rfl
            have HTK := hide htk
            clear hse htk bj
            go_wp2_with (at_builtin; refine OS.app rfl _ _ rfl rfl HO3 rfl KS (by omega) BW3.size ?_; intro v9 w9 l9 hg9)
            have B9 := below_of_grown BW3 hg9 BW3.size (HO3.grown_le (Nat.le_refl _))
            go_roundw
            case rel => exact ⟨k + 1, by go_num, by omega, by rw [HTK.out]; exact l9, B9⟩
            case measure => simp [intOf]; omega
      · obtain rfl : k = n := by omega
        have ht : ms.take k = ms := List.take_of_length_le (by rw [hl.out]; omega)
        rw [ht] at HO
        have hdl : (ms.map draftT).length = k := by rw [List.length_map, hl.out]
        obtain ⟨Ao, co, rfl, hco, hrt⟩ := HO.out.shape
        rw [hdl] at hco hrt ⊢
        have hjp := joinTo_plan ms k (by rw [hl.out]; omega)
        have HJP := hide hjp
        have h100 : ∀ x ∈ ms.map draftT, x.length ≤ 100 := fun x hx => by
          obtain ⟨d, hd, rfl⟩ := List.mem_map.1 hx
          have := draftT_len (HD.out d hd); omega
        clear hjp
        go_wp2_with fail
        refine (Join_c hco hrt h4 h100).mono ?_
        rintro e w5 ⟨rfl, b5⟩
        go_wp2_with fail
        go_ret
        exact ⟨by rw [F.out, ← HJP.out]; rfl, below_step B2.out (below_step BW.out b5)⟩

end Go.Proofs.YtefopnkicllpeaaDoor
