/- Merged (what the law reaches): Far3. -/
import Derived.Test.YtcfkemchekmjbaaGreatDoorVzf
namespace Go.Proofs.YtcfkemchekmjbaaGreatDoor
open Go.RowKit
/-- What is the best way back, of the first edges. -/
def BestI (many : Nat) (es : List T3) (s j : Nat) (b : Int) : Prop := (b = -1 ∧ (es.take j).any (goodE many es s) = false) ∨ (0 ≤ b ∧ b ≤ 6 ∧ es.any (goodE many es s) = true)
theorem BestI.skip {many : Nat} {es : List T3} {s j : Nat} {b : Int} {e : T3} (h : BestI many es s j b) (he : es[j]? = some e) (hg : goodE many es s e = false) : BestI many es s (j + 1) b := by
  rcases h with ⟨h1, h2⟩ | h
  · exact .inl ⟨h1, by rw [any_take he, h2, hg]; rfl⟩
  · exact .inr h
theorem BestI.hit {many : Nat} {es : List T3} {s j : Nat} {f : Int} {e : T3} (he : es[j]? = some e) (hg : goodE many es s e = true) (h0 : 0 ≤ f) (h6 : f ≤ 6) : BestI many es s (j + 1) f :=
  .inr ⟨h0, h6, List.any_eq_true.2 ⟨e, List.mem_of_getElem? he, hg⟩⟩
theorem BestI.keep {many : Nat} {es : List T3} {s j : Nat} {b : Int} (h : BestI many es s j b) (h0 : 0 ≤ b) : BestI many es s (j + 1) b := by
  rcases h with ⟨h1, h2⟩ | h
  · omega
  · exact .inr h
/-- A slice of ints, not empty just if there is a cycle. -/
def CycR (w : World) (many : Nat) (es : List T3) (e : Ending) (w' : World) : Prop := ∃ A k c, e = .returned (.slice A k c) ∧ decide (0 < k) = cycB many es ∧ Below w.heap.size w w'
set_option maxRecDepth 100000 in
set_option maxHeartbeats 8000000 in
theorem CycleOf_c {many n : Nat} {v : Value} {es : List T3} {w : World} (hs : S3 w v n es) (hm : many ≤ 6) (hR : InR many es) (hE : edgesB (many : Int) es = true) :
    Calls Tryz.prog 230 #[.int .i64 (many : Int), v] w (CycR w many es) := by
  have sv := hs
  obtain ⟨A, c, rfl, hnc, hn, hr⟩ := hs
  have hl := hide hr.len
  have hRR := hide hR
  have V := hide hE
  have o0 := hide (OI.empty w)
  have b0 := hide ((Below.refl w.heap.size w).alloc (Nat.le_refl _) (.cells #[] 3))
  clear hR hE
  go_enter Tryz.func230, Tryz.ntmps230
  go_wp2_with fail
  go_loopw [5, 6] (fun q i W => ∃ s : Nat, q = .slice (some ⟨w.heap.size, 0, none⟩) 0 0 ∧ i = .int .i64 s ∧ s ≤ many ∧ (List.range s).any (fun q => es.any (goodE many es q)) = false ∧ OI W w.heap.size (.slice (some ⟨w.heap.size, 0, none⟩) 0 0) 0 [] ∧ Below w.heap.size w W) (fun _ i _ => many - (intOf i).toNat)
  case atStart => exact ⟨0, rfl, rfl, Nat.zero_le _, rfl, o0.out, b0.out⟩
  case round =>
    clear o0 b0
    obtain ⟨s, rfl, rfl, hsm, hnone, ho, bw⟩ := hrel
    rename World => wr
    have HNO := hide hnone; have HO := hide ho; have BW := hide bw
    clear hnone ho
    by_cases hsk : s < many
    · have s2 : (s : Int) < many := by omega
      clear bw
      go_wp2_with (go_at_call 229; refine (spec_EdgesValid_c (sv.below BW.out)).mono ?_; rintro e w2 ⟨rfl, b2⟩; rw [V.out])
      have sv2 := (sv.below BW.out).below b2
      have B2 := hide (below_step BW.out b2)
      have O2 := hide (HO.out.below b2)
      clear b2 BW HO
      refine (l9Far_c sv2 hm hsk hRR.out).mono ?_
      rintro e w3 ⟨r3, k3, rfl, o3, b3⟩
      have hl3 : k3 = many := by rw [← o3.len]; exact farL_len _ _ _
      subst hl3
      have B3 := hide (below_step B2.out b3)
      have O3' := hide (O2.out.below b3)
      have FAR := hide o3.si
      obtain ⟨A3, c3, rfl, hnc3, hm3, hr3, _, hg3⟩ := o3.form
      obtain ⟨g3, off3, f3, rfl, _, _, _⟩ := hr3.at_ hsk
      obtain ⟨g', hge, hBg, hgs⟩ := hg3 _ rfl
      injection hge with e1 e2; subst e1; subst e2
      have hlt2 : w.heap.size < w2.heap.size := (World.ownsRow.lt O2.out.1 w.heap.size rfl).2
      have hg3w : g3 ≠ w.heap.size := by omega
      clear sv2 b3 O2 B2 o3 hg3 hlt2 hBg hm3
      go_wp2_with fail
      go_loopw [8, 9] (fun q i W => ∃ (b : Int) (j : Nat), q = .int .i64 b ∧ i = .int .i64 j ∧ j ≤ n ∧ BestI k3 es s j b ∧ W = w3) (fun _ i _ => n - (intOf i).toNat)
      case atStart => exact ⟨-1, 0, rfl, rfl, Nat.zero_le _, .inl ⟨rfl, rfl⟩, rfl⟩
      case round =>
        obtain ⟨bb, j, rfl, rfl, hj, hbi, rfl⟩ := hrel
        have HBI := hide hbi; clear hbi
        by_cases hjn : j < n
        · obtain ⟨b, off, x, y, z, rfl, hbk, hx, p0, p1, p2⟩ := hr.at_ hjn
          have hin := hRR.out _ (List.mem_of_getElem? hx)
          dsimp only at hin
          obtain ⟨y, rfl⟩ : ∃ q : Nat, y = q := ⟨y.toNat, by omega⟩
          have hyk : y < k3 := by omega
          obtain ⟨b4, off4, f, e4, hb4, hf, cf⟩ := hr3.at_ hyk
          injection e4 with e4; injection e4 with e4 e5; subst e4; subst e5; rw [Nat.zero_add] at cf
          have a0 := (B3.out.cell (p := ⟨b, off + j * 3, none⟩) hbk).trans p0
          have a1 := (B3.out.cell (p := ⟨b, off + j * 3 + 1, none⟩) hbk).trans p1
          have hge := goodE_at (x := x) (z := z) hf
          have hf6 : f ≤ k3 := by
            have := farTo_le hRR.out hsk y
            rw [List.getD_eq_getElem?_getD, hf] at this; exact this
          have HX := hide hx; have HG := hide hge
          have j2 : (j : Int) < n := by omega
          have y2 : (y : Int) < k3 := by omega
          clear p0 p1 p2 hx hin hf hge
          by_cases h1 : x = s
          · subst h1
            by_cases h2 : 0 ≤ f
            · have hg := hide (HG.out.trans (by simp [h2]) : goodE k3 es s ((s : Int), (y : Int), z) = true)
              by_cases h3 : bb < 0
              · go_wp2_with fail
                go_roundw
                case rel => exact ⟨f, j + 1, rfl, by go_num, by omega, BestI.hit HX.out hg.out h2 (by omega), trivial⟩
                case measure => simp [intOf]; omega
              · by_cases h4 : f < bb
                · go_wp2_with fail
                  go_roundw
                  case rel => exact ⟨f, j + 1, rfl, by go_num, by omega, BestI.hit HX.out hg.out h2 (by omega), trivial⟩
                  case measure => simp [intOf]; omega
                · go_wp2_with fail
                  go_roundw
                  case rel => exact ⟨bb, j + 1, rfl, by go_num, by omega, HBI.out.keep (by omega), trivial⟩
                  case measure => simp [intOf]; omega
            · have hg := hide (HG.out.trans (by simp [h2]) : goodE k3 es s ((s : Int), (y : Int), z) = false)
              go_wp2_with fail
              go_roundw
              case rel => exact ⟨bb, j + 1, rfl, by go_num, by omega, HBI.out.skip HX.out hg.out, trivial⟩
              case measure => simp [intOf]; omega
          · have hg := hide (HG.out.trans (by simp [h1]) : goodE k3 es s (x, (y : Int), z) = false)
            have h1b : (x == (s : Int)) = false := by simpa using h1
            clear h1
            go_wp2_with fail
            go_roundw
            case rel => exact ⟨bb, j + 1, rfl, by go_num, by omega, HBI.out.skip HX.out hg.out, trivial⟩
            case measure => simp [intOf]; omega
        · obtain rfl : n = j := by omega
          have hbi := HBI.out
          unfold BestI at hbi
          rw [List.take_of_length_le (show es.length ≤ n by rw [hl.out]; omega)] at hbi
          rcases hbi with ⟨rfl, hno⟩ | ⟨h0, h6, hyes⟩
          · have HN := hide hno; clear hno
            go_wp2_with fail
            go_roundw
            case rel => exact ⟨s + 1, rfl, by go_num, by omega, by rw [List.range_succ, List.any_append, HNO.out]; simp [HN.out], O3'.out, B3.out⟩
            case measure => simp [intOf]; omega
          · have HY := hide (cycB_hit hsk hyes); clear hyes
            obtain ⟨bn, rfl⟩ : ∃ q : Nat, bb = q := ⟨bb.toNat, by omega⟩
            have oa := hide (O3'.out.alloc (.cells #[.int .i64 (s : Int)] 3))
            have ba := hide (B3.out.alloc B3.out.size (.cells #[.int .i64 (s : Int)] 3))
            have sone : SI (wr.alloc (.cells #[.int .i64 (s : Int)] 3)) (.slice (some ⟨wr.heap.size, 0, none⟩) 1 1) 1 [(s : Int)] := SI.one _ _ _ (by omega)
            go_wp2_with (at_builtin; refine wpList_appI rfl _ _ rfl rfl oa.out rfl sone (by omega) (ba.out.size) ?_; intro v7 w7 o7 hg7 hat)
            have B7 := hide (Below.grown ba.out hg7 ba.out.size (fun q hq => (World.ownsRow.lt oa.out.1 q hq).1))
            have R7 := hide ((hr3.below ((Below.refl _ _).alloc (Nat.le_refl _) (.cells #[.int .i64 (s : Int)] 3))).grown hg7 (fun a ha => by injection ha with ha; subst ha; intro e; injection e with e; exact hg3w e))
            have N7 : v7.ownBlock ≠ some g3 := by
              rcases hat with e | e
              · rw [e]; intro e2; injection e2 with e2; exact hg3w e2.symm
              · rw [e, World.size_alloc]; intro e2; injection e2 with e2; omega
            have L7 : g3 < w7.heap.size := Nat.lt_of_lt_of_le (by rw [World.size_alloc]; omega) hg7.size
            have O7 := hide o7
            clear oa ba sone hg7 hat o7 hr3 FAR O3' B3 HBI
            go_wp2_with fail
            go_loopw [5, 10, 11] (fun q t l W => ∃ (m lv : Nat) (at_ : Int) (xs : List Int), t = .int .i64 at_ ∧ l = .int .i64 lv ∧ OI W w.heap.size q (m + 1) xs ∧ m + lv ≤ 6 ∧ Below w.heap.size w W ∧ RI W (some ⟨g3, 0, none⟩) k3 (farL k3 es s) ∧ q.ownBlock ≠ some g3 ∧ g3 < W.heap.size) (fun _ _ l _ => (intOf l).toNat)
            case atStart => exact ⟨0, bn, _, _, rfl, rfl, O7.out, by omega, B7.out, R7.out, N7, L7⟩
            case round =>
              clear O7 B7 R7 N7 L7
              obtain ⟨m, lv, at_, xs, rfl, rfl, ho, hml, bw, hrr, hne, hgw⟩ := hrel
              rename World => w4
              have HO := hide ho; have BW := hide bw
              obtain ⟨Ao, co, rfl⟩ := ho.shape
              clear ho bw
              cases lv with
              | zero =>
                go_wp2_with fail
                go_ret
                exact ⟨_, _, _, rfl, by rw [HY.out]; exact decide_eq_true (by omega), BW.out⟩
              | succ lv =>
                go_wp2_with fail
                go_loopw [12, 13] (fun z i W => ∃ (zz : Int) (j : Nat), z = .int .i64 zz ∧ i = .int .i64 j ∧ j ≤ n ∧ W = w4) (fun _ i _ => n - (intOf i).toNat)
                case atStart => exact ⟨_, 0, rfl, rfl, Nat.zero_le _, rfl⟩
                case round =>
                  obtain ⟨zz, j, rfl, rfl, hj, rfl⟩ := hrel
                  by_cases hjn : j < n
                  · obtain ⟨b, off, x, y, z, rfl, hbk, hx, p0, p1, p2⟩ := hr.at_ hjn
                    have hin := hRR.out _ (List.mem_of_getElem? hx)
                    dsimp only at hin
                    obtain ⟨y, rfl⟩ : ∃ q : Nat, y = q := ⟨y.toNat, by omega⟩
                    have hyk : y < k3 := by omega
                    obtain ⟨b4, off4, f, e4, hb4, hf, cf⟩ := hrr.at_ hyk
                    injection e4 with e4; injection e4 with e4 e5; subst e4; subst e5; rw [Nat.zero_add] at cf
                    have a0 := (BW.out.cell (p := ⟨b, off + j * 3, none⟩) hbk).trans p0
                    have a1 := (BW.out.cell (p := ⟨b, off + j * 3 + 1, none⟩) hbk).trans p1
                    have j2 : (j : Int) < n := by omega
                    have y2 : (y : Int) < k3 := by omega
                    clear p0 p1 p2 hx hin hf
                    cases h1 : (x == at_)
                    · go_wp2_with fail
                      go_roundw
                      case rel => exact ⟨_, j + 1, rfl, by go_num, by omega, trivial⟩
                      case measure => simp [intOf]; omega
                    · cases h2 : (f == ((lv + 1 : Nat) : Int))
                      · go_wp2_with fail
                        go_roundw
                        case rel => exact ⟨_, j + 1, rfl, by go_num, by omega, trivial⟩
                        case measure => simp [intOf]; omega
                      · go_wp2_with fail
                        go_roundw
                        case rel => exact ⟨_, j + 1, rfl, by go_num, by omega, trivial⟩
                        case measure => simp [intOf]; omega
                  · obtain rfl : j = n := by omega
                    have oa := hide (HO.out.alloc (.cells #[.int .i64 zz] 3))
                    have ba := hide (BW.out.alloc BW.out.size (.cells #[.int .i64 zz] 3))
                    have sone : SI (wr.alloc (.cells #[.int .i64 zz] 3)) (.slice (some ⟨wr.heap.size, 0, none⟩) 1 1) 1 [zz] := SI.one _ _ _ (by omega)
                    go_wp2_with (at_builtin; refine wpList_appI rfl _ _ rfl rfl oa.out rfl sone (by omega) (ba.out.size) ?_; intro v8 w8 o8 hg8 hat8)
                    have B8 := Below.grown ba.out hg8 ba.out.size (fun q hq => (World.ownsRow.lt oa.out.1 q hq).1)
                    have R8 := (hrr.below ((Below.refl _ _).alloc (Nat.le_refl _) (.cells #[.int .i64 zz] 3))).grown hg8 (fun a ha => by injection ha with ha; subst ha; exact fun e => hne e.symm)
                    have N8 : v8.ownBlock ≠ some g3 := by
                      rcases hat8 with e | e
                      · rw [e]; exact hne
                      · rw [e, World.size_alloc]; intro e2; injection e2 with e2; omega
                    have L8 : g3 < w8.heap.size := Nat.lt_of_lt_of_le (by rw [World.size_alloc]; omega) hg8.size
                    go_roundw
                    case rel => exact ⟨m + 1, lv, _, _, rfl, by go_num, o8, by omega, B8, R8, N8, L8⟩
                    case measure => simp [intOf]
    · obtain rfl : s = many := by omega
      have hf : decide (0 < 0) = cycB s es := by rw [cycB_eq, HNO.out]; rfl
      go_wp2_with fail
      go_ret
      exact ⟨_, 0, _, rfl, hf, bw⟩
end Go.Proofs.YtcfkemchekmjbaaGreatDoor
