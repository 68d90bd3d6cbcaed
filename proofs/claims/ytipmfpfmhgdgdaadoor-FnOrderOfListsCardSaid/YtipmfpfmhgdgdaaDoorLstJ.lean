/- impl.ListsAgree, longest, OrderOfLists. -/
import Derived.Test.YtipmfpfmhgdgdaaDoorLstI
namespace Go.Proofs.YtipmfpfmhgdgdaaDoor
open Go.RowKit

theorem iff_no {ls : Ls} (h : ¬ okP ls) : (false = true ↔ okP ls) := ⟨(fun h => by cases h), fun h2 => absurd h2 h⟩
theorem iff_yes {ls : Ls} (h : okP ls) : (true = true ↔ okP ls) := ⟨fun _ => h, fun _ => rfl⟩
/-- What ListsAgree tells. -/
def AgrR (ls : Ls) (w : World) (e : Ending) (w' : World) : Prop := ∃ (i k : Int) (ok : Bool), e = .returned (.tuple #[.int .i64 i, .int .i64 k]) ∧ (i != -1) = !ok ∧ (ok = true ↔ okP ls) ∧ Below w.heap.size w w'
set_option maxRecDepth 100000 in
set_option maxHeartbeats 4000000 in
theorem impl_ListsAgree_c {A : Option Addr} {n c : Nat} {ls : Ls} {w : World} (hr : RL w A n ls) (hn : n ≤ 1048576) :
    Calls Tryd.prog 17 #[.slice A n c] w (AgrR ls w) := by
  have hl := hide hr.1
  cases hv : listsB ls
  · have hf := iff_no (ls := ls) (fun h => by have := h.1; rw [hv] at this; cases this)
    have F := hide hf; have V := hide hv; clear hf hv
    go_enter Tryd.func17, Tryd.ntmps17
    go_wp2_with fail
    refine (impl_ListsValid_c hr hn).mono ?_
    rintro e w2 ⟨rfl, b2⟩
    rw [V.out]
    go_wp2_with fail
    refine bodyPost_ret (v := .tuple #[.int .i64 (-2), .int .i64 (-2)]) (by simp [results, Tryd.results17, go_sem]) rfl ⟨-2, -2, false, rfl, rfl, (by have := F.out; simpa using this), b2⟩
  · have V := hide hv; clear hv
    go_enter Tryd.func17, Tryd.ntmps17
    go_wp2_with fail
    refine (impl_ListsValid_c hr hn).mono ?_
    rintro e w2 ⟨rfl, b2⟩
    rw [V.out]
    have B2 := hide b2; clear b2
    go_wp2_with fail
    go_loopw [12] (fun i wr => ∃ k : Nat, i = .int .i64 k ∧ k ≤ n ∧ AgreeTo ls k (k + 1) ∧ Below w.heap.size w wr) (fun i _ => n - (intOf i).toNat)
    case atStart => exact ⟨0, rfl, Nat.zero_le _, AgreeTo.zero ls _ (by omega), B2.out⟩
    case round =>
      clear B2
      obtain ⟨k, rfl, hk, hag, bw⟩ := hrel
      have HA := hide hag; have BW := hide bw; clear hag bw
      by_cases hkn : k < n
      · obtain ⟨b, off, xs, B, kk, d, rfl, hbb, hx, q0, hkd, hk1, hri⟩ := hr.at_ hkn
        have e0 := (BW.out.cell (p := ⟨b, off + k, none⟩) hbb).trans q0
        have s1 : SI w (.slice B kk d) kk xs := ⟨B, d, rfl, hkd, hk1, hri⟩
        have HX := hide hx
        have k0 : (0 : Int) ≤ k := by omega
        have k2 : (k : Int) < n := by omega
        clear hx q0 hri
        go_wp2_with fail
        clear e0
        go_loopw [6] (fun i wr2 => ∃ j : Nat, i = .int .i64 j ∧ k + 1 ≤ j ∧ j ≤ n ∧ AgreeTo ls k j ∧ Below w.heap.size w wr2) (fun i _ => n - (intOf i).toNat)
        case atStart => exact ⟨k + 1, by go_num, Nat.le_refl _, by omega, HA.out, BW.out⟩
        case round =>
          clear HA BW
          obtain ⟨j, rfl, hkj, hj, hag, bw⟩ := hrel
          rename World => wr2
          have HA := hide hag; have BW := hide bw; clear hag bw
          by_cases hjn : j < n
          · obtain ⟨b', off', ys, B', kk', d', ea, hbb', hy, q0', hkd', hk1', hri'⟩ := hr.at_ hjn
            injection ea with ea; injection ea with ea1 ea2; subst ea1; subst ea2
            have e0' := (BW.out.cell (p := ⟨b, off + j, none⟩) hbb').trans q0'
            have s2 : SI w (.slice B' kk' d') kk' ys := ⟨B', d', rfl, hkd', hk1', hri'⟩
            have HY := hide hy
            have j0 : (0 : Int) ≤ j := by omega
            have j2 : (j : Int) < n := by omega
            clear hy q0' hri'
            cases hb : begB xs ys
            · have hno := okP_no (by omega) HX.out HY.out hb
              have hf := iff_no hno
              have F := hide hf; have HB := hide hb; clear hf hno hb
              have hki : ((k : Int) != -1) = !false := by first | (simp; done) | (simp; omega)
              have HKI := hide hki; clear hki
              go_wp2_with fail
              refine (begins_c (s1.below BW.out) (s2.below BW.out)).mono ?_
              rintro e w3 ⟨rfl, b3⟩
              rw [HB.out]
              go_wp2_with fail
              refine bodyPost_ret (v := .tuple #[.int .i64 (k : Int), .int .i64 (j : Int)]) (by simp [results, Tryd.results17, go_sem]) rfl ⟨k, j, false, rfl, HKI.out, (by have := F.out; simpa using this), below_step BW.out b3⟩
            · have hag := HA.out.step HX.out HY.out hb
              have HG := hide hag; have HB := hide hb; clear hag hb
              go_wp2_with fail
              refine (begins_c (s1.below BW.out) (s2.below BW.out)).mono ?_
              rintro e w3 ⟨rfl, b3⟩
              rw [HB.out]
              have B3 := below_step BW.out b3
              go_wp2_with fail
              go_roundw
              case rel => exact ⟨j + 1, by go_num, by omega, by omega, HG.out, B3⟩
              case measure => simp [intOf]; omega
          · obtain rfl : j = n := by omega
            have hag := HA.out.next (by rw [hl.out]; omega)
            have HG := hide hag; clear hag
            go_wp2_with fail
            go_roundw
            case rel => exact ⟨k + 1, by go_num, by omega, HG.out, BW.out⟩
            case measure => simp [intOf]; omega
      · obtain rfl : k = n := by omega
        have hok := okP_yes V.out HA.out (by rw [hl.out]; omega)
        have hf := iff_yes hok
        have F := hide hf; clear hf hok
        go_wp2_with fail
        refine bodyPost_ret (v := .tuple #[.int .i64 (-1), .int .i64 (-1)]) (by simp [results, Tryd.results17, go_sem]) rfl ⟨-1, -1, true, rfl, rfl, (by have := F.out; simpa using this), BW.out⟩

/-- A slice whose address, if it has one, is a row's beginning. -/
def RowV (u : Value) : Prop := ∃ A n c, u = .slice A n c ∧ ∀ a, A = some a → ∃ g, a = ⟨g, 0, none⟩
set_option maxHeartbeats 1000000 in
theorem CloneL_c {u : Value} {n : Nat} {xs : List Int} {w : World} (hs : SI w u n xs) :
    Calls Tryd.prog 35 #[u] w fun e w' => ∃ v, e = .returned v ∧ SI w' v n xs ∧ RowV v ∧ Below w.heap.size w w' := by
  have ss := hs
  obtain ⟨A, c, rfl, hnc, hn, hr⟩ := hs
  have qT : ∀ (w : World) (a : Option Addr) (n c n' c' : Nat), (binOp .eql 25 (.slice a n c) (.slice none n' c')).run Tryd.prog w = .ok (.bool a.isNone) w := fun w a n c n' c' => Lib.run_eql_slice_nil w _ _ a n c n' c' Tryd.underlying25
  cases A with
  | none =>
    have h0 : n = 0 := by
      rcases Nat.eq_zero_or_pos n with h | h
      · exact h
      · obtain ⟨_, _, h2, _⟩ := hr.2 h; cases h2
    subst h0
    have hx : xs = [] := List.eq_nil_of_length_eq_zero hr.1
    subst hx
    go_enter Tryd.func35, Tryd.ntmps35
    go_wp2_with fail
    go_ret
    exact ⟨_, rfl, ⟨none, 0, rfl, Nat.le_refl _, by omega, RI.nil⟩, ⟨none, 0, 0, rfl, fun a h => by cases h⟩, Below.refl _ _⟩
  | some a =>
    go_enter Tryd.func35, Tryd.ntmps35
    go_wp2_with (at_builtin; refine wpList_appI rfl _ _ rfl rfl (OI.empty w) rfl (ss.alloc _) (by omega) (by simp) ?_; intro v1 w1 ho hg hat)
    go_ret
    simp only [Nat.zero_add, List.nil_append] at ho
    have ho2 := ho
    obtain ⟨A', c', rfl, _, _, _, _, hrow⟩ := ho.form
    exact ⟨_, rfl, ho2.si, ⟨A', n, c', rfl, fun a h => by obtain ⟨g, e, _⟩ := hrow a h; exact ⟨g, e⟩⟩, ((Below.refl _ _).alloc (Nat.le_refl _) _).grown hg (by simp) (fun k hk => by have h : some w.heap.size = some k := hk; injection h; omega)⟩
theorem run_clipL (A : Option Addr) (n c : Nat) (hnc : n ≤ c) (hA : ∀ a, A = some a → ∃ g, a = ⟨g, 0, none⟩) (w : World) :
    (Instr.slice 25 (.slice A n c) none (some (.int .i64 (n : Int))) (some (.int .i64 (n : Int)))).run Tryd.prog w = .ok (.slice A n n) w := by
  obtain ⟨i, hi, hz, hsz, hb⟩ := info_parts intInfo
  have h1 : (if n = 0 then A else A.map (·.add (0 * i.size))) = A := by
    split
    · rfl
    · cases A with
      | none => rfl
      | some a => obtain ⟨g, rfl⟩ := hA a rfl; rw [Nat.zero_mul]; simp [addr_add]
  simp [Instr.slice, Instr.sliceBounds, Instr.sliceBound, run_underlying Tryd.underlying25, sizeOf, typeInfo, hi, asIntOf, hnc]
  simpa using h1
set_option maxHeartbeats 1000000 in
theorem ClipL_c {u : Value} {n : Nat} {xs : List Int} {w : World} (hs : SI w u n xs) (hR : RowV u) :
    Calls Tryd.prog 34 #[u] w fun e w' => ∃ v, e = .returned v ∧ SI w v n xs ∧ w = w' := by
  obtain ⟨A, c, rfl, hnc, hn, hr⟩ := hs
  obtain ⟨A', n', c', e, hrow⟩ := hR
  injection e with e1 e2 e3; subst e1; subst e2; subst e3
  have hcl := fun w => run_clipL A n c hnc hrow w
  have HR := hide hr; clear hr
  go_enter Tryd.func34, Tryd.ntmps34
  go_wp2_with fail
  go_ret
  exact ⟨_, rfl, ⟨A, n, rfl, Nat.le_refl _, hn, HR.out⟩, rfl⟩
set_option maxRecDepth 100000 in
set_option maxHeartbeats 2000000 in
theorem longest_c {A : Option Addr} {n c : Nat} {ls : Ls} {w : World} (hr : RL w A n ls) (hn : n ≤ 1048576) :
    Calls Tryd.prog 18 #[.slice A n c] w fun e w' => ∃ v m, e = .returned v ∧ SI w' v m (longL ls) ∧ Below w.heap.size w w' := by
  have hl := hide hr.1
  go_enter Tryd.func18, Tryd.ntmps18
  go_wp2_with fail
  go_loopw [3, 8] (fun u i wr => ∃ k : Nat, i = .int .i64 k ∧ k ≤ n ∧ SI wr u (longTo ls k).length (longTo ls k) ∧ Below w.heap.size w wr) (fun _ i _ => n - (intOf i).toNat)
  case atStart => exact ⟨0, rfl, Nat.zero_le _, ⟨none, 0, rfl, Nat.le_refl _, by simp [longTo], RI.nil⟩, Below.refl _ _⟩
  case round =>
    obtain ⟨k, rfl, hk, hu, bw⟩ := hrel
    obtain ⟨Au, cu, rfl⟩ := hu.shape
    have HU := hide hu; have BW := hide bw; clear hu bw
    by_cases hkn : k < n
    · obtain ⟨b, off, xs, B, kk, d, rfl, hbb, hx, q0, hkd, hk1, hri⟩ := hr.at_ hkn
      have e0 := (BW.out.cell (p := ⟨b, off + k, none⟩) hbb).trans q0
      have s1 : SI w (.slice B kk d) kk xs := ⟨B, d, rfl, hkd, hk1, hri⟩
      have hxl := hri.len
      have HX := hide hx
      have k0 : (0 : Int) ≤ k := by omega
      have k2 : (k : Int) < n := by omega
      have S1 := hide (s1.below BW.out)
      clear hx q0 hri
      by_cases hlt : (longTo ls k).length < xs.length
      · have hy := longTo_yes HX.out hlt
        have HY := hide hy
        have hlt' : ((longTo ls k).length : Int) < (kk : Int) := by omega
        clear hy
        go_wp2_with fail
        go_roundw
        case rel => exact ⟨k + 1, by go_num, by omega, by rw [HY.out, hxl]; exact S1.out, BW.out⟩
        case measure => simp [intOf]; omega
      · have hy := longTo_no HX.out hlt
        have HY := hide hy
        have hlt' : ¬ (((longTo ls k).length : Int) < (kk : Int)) := by omega
        clear hy
        go_wp2_with fail
        go_roundw
        case rel => exact ⟨k + 1, by go_num, by omega, by rw [HY.out]; exact HU.out, BW.out⟩
        case measure => simp [intOf]; omega
    · obtain rfl : k = n := by omega
      have hf : longTo ls k = longL ls := by unfold longL; rw [hl.out]
      have F := hide hf; clear hf
      go_wp2_with fail
      refine (CloneL_c HU.out).mono ?_
      rintro e w2 ⟨v2, rfl, s2, r2, b2⟩
      have B2 := below_step BW.out b2
      go_wp2_with fail
      refine (ClipL_c s2 r2).mono ?_
      rintro e w3 ⟨v3, rfl, s3, rfl⟩
      go_wp2_with fail
      go_ret
      exact ⟨_, _, rfl, by rw [← F.out]; exact s3, B2⟩
/-- What OrderOfLists returns. -/
def OrdR (ls : Ls) (w : World) (e : Ending) (w' : World) : Prop := ∃ (v : Value) (m : Nat) (ok : Bool), e = .returned (.tuple #[v, .bool ok]) ∧ (ok = true ↔ okP ls) ∧ SI w' v m (if ok then longL ls else []) ∧ Below w.heap.size w w'
set_option maxRecDepth 100000 in
set_option maxHeartbeats 2000000 in
theorem impl_OrderOfLists_c {A : Option Addr} {n c : Nat} {ls : Ls} {w : World} (hr : RL w A n ls) (hn : n ≤ 1048576) :
    Calls Tryd.prog 6 #[.slice A n c] w (OrdR ls w) := by
  go_enter Tryd.func6, Tryd.ntmps6
  go_wp2_with fail
  refine (impl_ListsAgree_c hr hn).mono ?_
  rintro e w2 ⟨i, k, ok, rfl, hi, hok, b2⟩
  have HO := hide hok; clear hok
  cases ok
  · go_wp2_with fail
    refine bodyPost_ret (v := .tuple #[.slice none 0 0, .bool false]) (by simp [results, Tryd.results6, go_sem]) rfl ⟨.slice none 0 0, 0, false, rfl, (by have := HO.out; simpa using this), ⟨none, 0, rfl, Nat.le_refl _, by omega, RI.nil⟩, b2⟩
  · go_wp2_with fail
    refine (longest_c (hr.below b2) hn).mono ?_
    rintro e w3 ⟨v3, m3, rfl, s3, b3⟩
    go_wp2_with fail
    refine bodyPost_ret (v := .tuple #[v3, .bool true]) (by simp [results, Tryd.results6, go_sem]) rfl ⟨v3, m3, true, rfl, (by have := HO.out; simpa using this), s3, below_step b2 b3⟩

end Go.Proofs.YtipmfpfmhgdgdaaDoor
