/- impl.MessagesValid. -/
import Derived.Test.YtopjdidigfdhbaaDoorMsgsM
import Derived.Test.YtopjdidigfdhbaaDoorMsgsS
import Derived.Test.YtopjdidigfdhbaaDoorClockJ
import Derived.Deep.RegionHeld3
import Derived.BigRegion
namespace Go.Proofs.YtopjdidigfdhbaaDoor
open Go.RowKit Go.Maps

theorem zeroBool (w : World) : (zeroValue 4).run Tryd.prog w = .ok (.bool false) w := by kernel_rfl
set_option maxRecDepth 100000 in
set_option maxHeartbeats 8000000 in
theorem impl_MessagesValid_c {A : Option Addr} {n c : Nat} {ms : Ms} {w : World} (hr : RM w A n ms) (hn : n ≤ 1048576) (hsm : Small ms) :
    Calls Tryd.prog 29 #[.slice A n c] w fun e w' => e = .returned (.bool (mvB ms)) ∧ Below w.heap.size w w' := by
  have hl := hide hr.1
  have hmk := fun (v : World) => run_makeMap (P := Tryd.prog) 79 v
  have M0 := Seen.zero w ms
  have B0 : Below w.heap.size w (w.alloc (.map #[] 0)) := beM w _
  go_enter Tryd.func29, Tryd.ntmps29
  go_wp2_with fail
  go_loopw [12] (fun i wr => ∃ k : Nat, k ≤ n ∧ i = .int .i64 k ∧ MvTo ms k ∧ Seen wr w.heap.size k ms k ∧ Below w.heap.size w wr) (fun i _ => n - (intOf i).toNat)
  case atStart => exact ⟨0, Nat.zero_le _, rfl, MvTo.zero, M0, B0⟩
  case round =>
    clear M0 B0
    obtain ⟨k, hk, rfl, hmv, hseen, bw⟩ := hrel
    have Hmv := hide hmv; have Hseen := hide hseen; clear hmv hseen
    by_cases hkn : k < n
    · obtain ⟨b, off, f, ys, B, kk, d, rfl, hbb, hx, q0, q1, hkd, hdm, hri⟩ := hr.at_ hkn
      have e0 := (bw.cell (p := ⟨b, off + k * 2, none⟩) hbb).trans q0
      have e1 := (bw.cell (p := ⟨b, off + k * 2 + 1, none⟩) hbb).trans q1
      have hsz := hsm _ (List.mem_of_getElem? hx)
      have hk1 : kk ≤ 1048576 := by have := hri.len; dsimp only at hsz; omega
      have s1 : SI w (.slice B kk d) kk ys := SI.of_args hkd hk1 hri
      have b1 : Below w.heap.size w (wr.alloc (.cells #[.int .i64 f, .slice B kk d] 55)) := bw.alloc bw.size _
      have K0 := Blk.new wr 55 #[.int .i64 f, .slice B kk d]
      have s2 := s1.below b1
      have s3 := hide hri
      have hkl : k < ms.length := by rw [hl.out]; exact hkn
      have hat := atM_get hx
      have At := hide hat; have Hkl := hide hkl; clear hat hkl hx q0 q1 hsz hri
      have k0 : (0 : Int) ≤ k := by omega
      have k2 : (k : Int) < n := by omega
      go_wp2_with fail
      refine (clockOf_c s2).mono ?_
      rintro e w2 ⟨c0, c1, c2, c3, rfl, hck, b2⟩
      have B2 := below_step b1 b2
      have K2 := K0.belowAll b2
      obtain ⟨f0, f1, _, _⟩ := K2.two
      have hlt2 := K2.lt
      have Hck := hide hck; clear hck e0 e1 s2 K0
      cases hY : clockB ys
      · have hf := mvB_bad Hkl.out (by rw [At.out]; exact msgOk_clock hY)
        have F := hide hf; clear hf hY
        go_wp2_with fail
        go_ret
        exact ⟨by rw [F.out]; rfl, B2.alloc B2.size _⟩
      · cases hF : inB f 0 3
        · have hf := mvB_bad Hkl.out (by rw [At.out]; exact msgOk_from hF)
          have F := hide hf; have Z := hide hF; clear hf hY hF
          go_wp2_with (go_at_call 41; refine (placeOk_c).mono ?_; rintro e w' ⟨rfl, rfl⟩; rw [Z.out])
          go_ret
          exact ⟨by rw [F.out]; rfl, B2.alloc B2.size _⟩
        · obtain ⟨f, rfl⟩ : ∃ g : Nat, f = g := ⟨f.toNat, by have := (inB_iff _ _ _).1 hF; omega⟩
          have hf4 : f < 4 := by have := (inB_iff _ _ _).1 hF; omega
          have hcl := Hck.out.of hY
          obtain ⟨y, hy⟩ : ∃ y, ys.getD (f : Int).toNat 0 = y := ⟨_, rfl⟩
          have hyc : (#[.int .i64 c0, .int .i64 c1, .int .i64 c2, .int .i64 c3] : Array Value)[f]? = some (.int .i64 y) := by
            rw [← hy, hcl]; match f, hf4 with | 0, _ => rfl | 1, _ => rfl | 2, _ => rfl | 3, _ => rfl
          have hyb : 0 ≤ y ∧ y ≤ 1000 := by
            have := (inB_iff _ _ _).1 (((clockB_iff _).1 hY).2 y (by
              rw [← hy, hcl]; match f, hf4 with | 0, _ => simp | 1, _ => simp | 2, _ => simp | 3, _ => simp))
            exact this
          obtain ⟨y0, y1⟩ := hyb
          have ec : (w2.alloc (.cells #[.int .i64 c0, .int .i64 c1, .int .i64 c2, .int .i64 c3] 81)).cell? ⟨w2.heap.size, f, none⟩ = some (.int .i64 y) := ((Blk.new w2 _ _).cell f).trans hyc
          have Yc := hide hyc; clear hyc
          by_cases hyz : y = 0
          · have hf := mvB_bad Hkl.out (by rw [At.out]; exact msgOk_zero (hy.trans hyz))
            have F := hide hf; have Z := hide hF; clear hf hY hF hcl hy
            subst hyz
            go_wp2_with (go_at_call 41; refine (placeOk_c).mono ?_; rintro e w' ⟨rfl, rfl⟩; rw [Z.out])
            go_ret
            exact ⟨by rw [F.out]; rfl, B2.alloc B2.size _⟩
          · have hok : msgOk (atM ms k) = true := by rw [At.out]; exact msgOk_good hF hY (fun h => hyz (hy.symm.trans h))
            have hky : keyM (atM ms k) = ((f : Int), y) := by unfold keyM cntM; rw [At.out]; exact congrArg _ hy
            have Ok := hide hok; have Ky := hide hky; have Z := hide hF
            have y2 : 1 ≤ y := by omega
            have hlook : ∀ D : DataW Unit, (∀ q, wfS q → D.atKey (klS q) (.lit (.bool false)) = .lit (.bool (metB ms k q))) → D.atKey (klS ((f : Int), y)) (.lit (.bool false)) = .lit (.bool (metB ms k ((f : Int), y))) := fun D h => h _ ⟨WalkArith.wf_i64 (by omega), WalkArith.wf_i64 (by omega)⟩
            have hwq : wfS ((f : Int), y) := ⟨WalkArith.wf_i64 (by dsimp only; omega), WalkArith.wf_i64 (by dsimp only; omega)⟩
            have hkey := keySent (f : Int) y hwq.1 hwq.2
            have HL := hide hlook; have HW := hide hwq; have HK := hide hkey
            obtain ⟨D, hown, hD⟩ := Hseen.out.below (below_step (below_step (beM wr (.cells #[.int .i64 (f : Int), .slice B kk d] 55)) b2) (beM w2 (.cells #[.int .i64 c0, .int .i64 c1, .int .i64 c2, .int .i64 c3] 81)))
            have hmapD := hown.isMap
            have HM := hide hmapD
            have HD := hide hD; clear hD hlook hwq hkey hmapD
            have hgl : ([.int .i64 c0, .int .i64 c1, .int .i64 c2, .int .i64 c3] : List Value)[f]'(by simpa using hf4) = .int .i64 y := by
              have := Yc.out
              rw [Array.getElem?_eq_getElem (by simpa using hf4)] at this
              injection this
            clear Yc y0 y1 hyz
            have hown2 := (hown.drew).alloc (.cells #[.int .i64 (f : Int), .int .i64 y] 85)
            cases hmet : metB ms k ((f : Int), y)
            · have hfree : FreeTo ms k k := metB_free.1 (by rw [Ky.out]; exact hmet)
              have FR := hide hfree; have MT := hide hmet
              clear hmet hfree
              go_wp2_with (go_at_call 41; refine (placeOk_c).mono ?_; rintro e w' ⟨rfl, rfl⟩; rw [Z.out])
              all_goals
                go_region
                go_wp2_with (first | (at_lookup; refine wpList_lookup_own_bool _ rfl _ _ 79 rfl 85 4 lawSent Tryd.underlying79 Tryd.underlying4 (zeroBool _) w.heap.size k D rfl hown2 _ _ rfl HK.out ?_; intro cc hcc; obtain rfl : cc = false := (by have h0 := HL.out D HD.out; rw [MT.out] at h0; have h1 := hcc.symm.trans h0; simpa using h1); clear hcc) | (at_mapUpdate; refine wpList_mapUpdate_own _ rfl _ _ _ 79 rfl 85 4 lawSent Tryd.underlying79 (plainElem Tryd.prog 4) w.heap.size k D rfl hown2 (by unfold maxLen; omega) _ _ _ rfl rfl HK.out _ [] (plainElem_boolB Tryd.underlying4 true) ?_; intro w3 hown3 hgrow3))
                go_roundw
                case rel => exact ⟨k + 1, by omega, by go_num, Hmv.out.step Ok.out FR.out, Seen.step HM.out HD.out (by rw [Ky.out]; exact HW.out) (by rw [Ky.out]; exact hown3), (((B2.alloc B2.size _).drew).alloc (by have := B2.size; simp; omega) _).grown hgrow3 (by have := B2.size; simp; omega) (fun j e => by cases e; exact Nat.le_refl _)⟩
                case measure => simp [intOf]; omega
            · obtain ⟨i, hi, he⟩ := metB_true (by rw [Ky.out]; exact hmet)
              have hf := mvB_twice Hkl.out hi he
              have F := hide hf; have MT := hide hmet
              clear hmet hf hi he
              go_wp2_with (go_at_call 41; refine (placeOk_c).mono ?_; rintro e w' ⟨rfl, rfl⟩; rw [Z.out])
              all_goals
                go_region
                go_wp2_with (at_lookup; refine wpList_lookup_own_bool _ rfl _ _ 79 rfl 85 4 lawSent Tryd.underlying79 Tryd.underlying4 (zeroBool _) w.heap.size k D rfl hown2 _ _ rfl HK.out ?_; intro cc hcc; obtain rfl : cc = true := (by have h0 := HL.out D HD.out; rw [MT.out] at h0; have h1 := hcc.symm.trans h0; simpa using h1); clear hcc)
                go_ret
                exact ⟨by rw [F.out]; rfl, ((B2.alloc B2.size _).drew).alloc (by have := B2.size; simp; omega) _⟩
    · obtain rfl : k = n := by omega
      have hf : mvB ms = decide (k ≤ 12) := by rw [mvB_all (by rw [hl.out]; exact Hmv.out), hl.out]
      have F := hide hf; clear hf
      go_wp2_with fail
      go_ret
      exact ⟨by rw [F.out]; simp [go_sem]; omega, bw⟩

end Go.Proofs.YtopjdidigfdhbaaDoor
