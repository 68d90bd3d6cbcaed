/- Merged (what the law reaches): Srt, First, Fst. -/
import Derived.Test.YtcfkemchekmjbaaGreatDoorQza
namespace Go.Proofs.YtcfkemchekmjbaaGreatDoor
open Go.RowKit Go.Shelf Go.Sort Go.Maps
def srt (xs : List Int) : List Int := xs.mergeSort fun x y => decide (x ≤ y)
section
variable {bx : Nat} {A : Option Addr} {m c : Nat} {xs : List Int} {w : World}
theorem AppendSeq_c (hbx : bx < w.heap.size) (hx : w.cell? ⟨bx, 0, none⟩ = some (.slice A m c)) (hr : RI w A m xs) (hm : m ≤ 1048576) :
    Calls Tryz.prog 186 #[.slice none 0 0, .func (.func 155) #[] #[.pointer (some ⟨bx, 0, none⟩)]] w fun e w' => ∃ v, e = .returned v ∧ w'.ownsRow w.heap.size 3 1 v xs.length (xs.map (Value.int .i64)) ∧ (v = .slice none 0 0 ↔ xs = []) ∧ Below w.heap.size w w' :=
  callsIn_wide.1 (appendSeq1 5 (by omega) bx hbx hx hr hm)
set_option maxHeartbeats 1000000 in
theorem Collect_c (hbx : bx < w.heap.size) (hx : w.cell? ⟨bx, 0, none⟩ = some (.slice A m c)) (hr : RI w A m xs) (hm : m ≤ 1048576) :
    Calls Tryz.prog 153 #[.func (.func 155) #[] #[.pointer (some ⟨bx, 0, none⟩)]] w fun e w' => ∃ v, e = .returned v ∧ w'.ownsRow w.heap.size 3 1 v xs.length (xs.map (Value.int .i64)) ∧ (v = .slice none 0 0 ↔ xs = []) ∧ Below w.heap.size w w' := by
  go_enter Tryz.func153, Tryz.ntmps153
  go_wp2_with fail
  refine (AppendSeq_c hbx hx hr hm).mono ?_
  rintro e w2 ⟨v, rfl, h1, h2, h3⟩
  go_wp2_with fail
  go_ret
  exact ⟨v, rfl, h1, h2, h3⟩
set_option maxRecDepth 100000 in
set_option maxHeartbeats 2000000 in
theorem Sorted_c (hbx : bx < w.heap.size) (hx : w.cell? ⟨bx, 0, none⟩ = some (.slice A m c)) (hr : RI w A m xs) (hm : m ≤ 1048576) :
    Calls Tryz.prog 106 #[.func (.func 155) #[] #[.pointer (some ⟨bx, 0, none⟩)]] w fun e w' => ∃ v, e = .returned v ∧ OI w' w.heap.size v xs.length (srt xs) ∧ Below w.heap.size w w' := by
  have hl := hide hr.len
  have hcl := Collect_c hbx hx hr hm
  clear hx hr
  go_enter Tryz.func106, Tryz.ntmps106
  go_wp2_with fail
  refine hcl.mono ?_
  rintro e W ⟨v, rfl, hrow, hnil, hb⟩
  rcases hrow.2 with ⟨rfl, hz⟩ | ⟨gb, cap, cur, rfl, hbase, hgb, r1, r2, r3, r4⟩
  · have hxs : xs = [] := List.eq_nil_of_length_eq_zero hz
    subst hxs
    go_wp2_with fail
    refine (slices_Sort_int_none none 0 W).mono ?_
    rintro e w' ⟨rfl, rfl⟩
    go_wp2_with fail
    go_ret
    exact ⟨.slice none 0 0, rfl, by rw [show srt [] = [] by simp [srt]]; exact OI.nil, hb⟩
  · have hH : Holds (Value.int .i64) W gb 0 xs.toArray := holds_of_block_i hgb (by simpa using r4)
    have hgl : gb < W.heap.size := (Array.getElem?_eq_some_iff.1 hgb).1
    have hsz : xs.length < 4611686018427387904 := by have := hl.out; omega
    have cS := slices_Sort_int gb 0 cap xs W hH hgl hsz
    have hlen : (srt xs).length = xs.length := by unfold srt; rw [List.length_mergeSort]
    have HN := hide hnil; have HROW := hide hrow
    clear hnil hrow hH hcl r4
    go_wp2_with fail
    refine cS.mono ?_
    rintro e w' ⟨rfl, nn, os, rfl⟩
    go_wp2_with fail
    go_ret
    refine ⟨.slice (some ⟨gb, 0, none⟩) xs.length cap, rfl, ⟨?_, by have := hl.out; omega⟩, hb.grown (grownBy_sorted_i _) hb.size (fun j hj => by cases hj; exact hbase)⟩
    exact ownsRow_sorted_i (by simp) hbase hgb r1 r2 r3
end
set_option maxHeartbeats 1000000 in
theorem Values_c {u : Value} {w : World} (hu : ∃ A n c, u = .slice A n c) : Calls Tryz.prog 107 #[u] w fun e w' => e = .returned (.func (.func 155) #[] #[.pointer (some ⟨w.heap.size, 0, none⟩)]) ∧ w' = w.alloc (.cells #[u] 24) := by
  obtain ⟨A, n, c, rfl⟩ := hu
  go_enter Tryz.func107, Tryz.ntmps107
  go_wp2_with fail
  go_ret
  exact ⟨rfl, rfl⟩
set_option maxHeartbeats 2000000 in
theorem EqualInt_c {u v : Value} {n m : Nat} {xs ys : List Int} {w : World} (hu : SI w u n xs) (hv : SI w v m ys) :
    Calls Tryz.prog 109 #[u, v] w fun e w' => e = .returned (.bool (decide (xs = ys))) ∧ Below w.heap.size w w' := by
  obtain ⟨A, c, rfl, _, hn, ha⟩ := hu
  obtain ⟨B, d, rfl, _, hm, hb⟩ := hv
  have hla := hide ha.len
  have hlb := hide hb.len
  by_cases hnm : n = m
  · subst hnm
    go_enter Tryz.func109, Tryz.ntmps109
    go_wp2_with fail
    go_loopw [13] (fun i wr => ∃ k : Nat, k ≤ n ∧ i = .int .i64 k ∧ xs.take k = ys.take k ∧ Below w.heap.size w wr) (fun i _ => n - (intOf i).toNat)
    case atStart => exact ⟨0, Nat.zero_le _, rfl, rfl, Below.refl _ _⟩
    case round =>
      obtain ⟨k, hk, rfl, heq, hbel⟩ := hrel
      have HE := hide heq; clear heq
      by_cases hlt : k < n
      · obtain ⟨b1, o1, x, rfl, hb1, hx, hc1⟩ := ha.at_ hlt
        obtain ⟨b2, o2, y, rfl, hb2, hy, hc2⟩ := hb.at_ hlt
        have c1 := (hbel.cell (p := ⟨b1, o1 + k, none⟩) hb1).trans hc1
        have c2 := (hbel.cell (p := ⟨b2, o2 + k, none⟩) hb2).trans hc2
        have HX := hide hx; have HY := hide hy
        have k0 : (0 : Int) ≤ k := by omega
        have k1 : (k : Int) < n := by omega
        clear hx hy hc1 hc2
        by_cases hxy : x = y
        · have hne : (x != y) = false := by simpa using hxy
          have hs := hide (take_snoc_eq xs ys k x HE.out HX.out (by rw [HY.out, hxy]))
          clear hxy
          go_wp2_with fail
          go_region
          go_wp2_with fail
          go_roundw
          case rel => exact ⟨k + 1, by omega, by go_num, hs.out, hbel.drew⟩
          case measure => simp [intOf]; omega
        · have hne : (x != y) = true := by simpa using hxy
          have hf : decide (xs = ys) = false := decide_eq_false (by
            rintro rfl
            have := HX.out.symm.trans HY.out
            injection this with this; exact hxy this)
          have F := hide hf
          clear hf hxy
          go_wp2_with fail
          go_region
          go_wp2_with fail
          go_ret
          exact ⟨congrArg (fun q => Ending.returned (.bool q)) F.out.symm, hbel.drew⟩
      · obtain rfl : k = n := by omega
        have hf : decide (xs = ys) = true := decide_eq_true (by
          have := HE.out
          rwa [List.take_of_length_le (by rw [hla.out]; exact Nat.le_refl _), List.take_of_length_le (by rw [hlb.out]; exact Nat.le_refl _)] at this)
        have F := hide hf
        clear hf
        go_wp2_with fail
        go_ret
        exact ⟨congrArg (fun q => Ending.returned (.bool q)) F.out.symm, hbel⟩
  · have hne : ((n : Int) != (m : Int)) = true := by simp; omega
    have hf : decide (xs = ys) = false := decide_eq_false (by rintro rfl; exact hnm (hla.out.symm.trans hlb.out))
    have F := hide hf
    clear hf
    go_enter Tryz.func109, Tryz.ntmps109
    go_wp2_with fail
    go_ret
    exact ⟨congrArg (fun q => Ending.returned (.bool q)) F.out.symm, Below.refl _ _⟩
theorem srt_eq_iff {xs ys : List Int} : srt xs = srt ys ↔ xs.Perm ys := by
  constructor
  · intro h
    have h1 : (srt xs).Perm xs := List.mergeSort_perm xs _
    have h2 : (srt ys).Perm ys := List.mergeSort_perm ys _
    rw [h] at h1
    exact h1.symm.trans h2
  · intro h
    exact mergeSort_of_perm_i h
set_option maxRecDepth 100000 in
set_option maxHeartbeats 16000000 in
theorem impl_OrdersValid_c {A Ao : Option Addr} {n c no co : Nat} {ts : List Tx} {os : Ls} {w : World} (hr : RTs w A n ts) (hh : histB ts = true) (ho : RL w Ao no os) (hno : no ≤ co) :
    Calls Tryz.prog 55 #[.slice A n c, .slice Ao no co] w fun e w' => e = .returned (.bool (ordersB ts os)) ∧ Below w.heap.size w w' := by
  obtain ⟨h6, hv, hnd⟩ := histB_parts hh
  have hl := hide hr.1
  have hol := hide ho.1
  have HH := hide hh
  have hn6 : n ≤ 6 := by rw [← hl.out]; exact h6
  have hsm : SmallT ts := fun t ht => by have h : t.2.1.length ≤ 6 := txnB_lenH (hv t ht); omega
  clear hv hnd h6 hh
  go_enter Tryz.func55, Tryz.ntmps55
  go_wp2_with fail
  refine (impl_HistoryValid_c hr (by omega) hsm).mono ?_
  rintro e w2 ⟨rfl, b2⟩
  rw [HH.out]
  by_cases h3 : no = 3
  · subst h3
    go_wp2_with fail
    go_loopw [19] (fun i W => ∃ k : Nat, i = .int .i64 k ∧ k ≤ 3 ∧ (∀ q : Nat, q < k → (os.getD q []).Perm (inst ts (q : Int))) ∧ Below w.heap.size w W) (fun i _ => 3 - (intOf i).toNat)
    case atStart => exact ⟨0, rfl, Nat.zero_le _, fun q hq => by omega, b2⟩
    case round =>
      clear b2
      rename World => wr
      obtain ⟨k, rfl, hk, hp, bw⟩ := hrel
      have HP := hide hp; clear hp
      by_cases hlt : k < 3
      · obtain ⟨b, off, xs, B, kk, d, rfl, hbb, hx, q0, hkd, hkm, hri⟩ := ho.at_ hlt
        have e0 := (bw.cell (p := ⟨b, off + k, none⟩) hbb).trans q0
        have hgx : os.getD k [] = xs := by simp [List.getD, hx]
        have HGX := hide hgx
        have k0 : (0 : Int) ≤ k := by omega
        have k1 : (k : Int) < 3 := by omega
        have hriw := hri.below bw
        have b3 := bw.alloc bw.size (.cells #[.slice B kk d] 24)
        have B3 := hide b3
        have hri3 := hriw.below ((Below.refl wr.heap.size wr).alloc (Nat.le_refl _) (.cells #[.slice B kk d] 24))
        have c3 : (wr.alloc (.cells #[.slice B kk d] 24)).cell? ⟨wr.heap.size, 0, none⟩ = some (.slice B kk d) := (Blk.new wr _ _).cell 0
        clear hx q0 hgx hriw b3
        go_wp2_with fail
        refine (Values_c ⟨B, kk, d, rfl⟩).mono ?_
        rintro e w3 ⟨rfl, rfl⟩
        go_wp2_with fail
        refine (Sorted_c (by simp) c3 hri3 hkm).mono ?_
        rintro e w4 ⟨v4, rfl, o4, b4⟩
        have B4 := hide (below_step B3.out b4)
        have o4 := hide (o4.mono (B' := w.heap.size) B3.out.size)
        clear c3 hri3 b4 e0
        go_wp2_with fail
        refine (impl_Installed_c (hr.below B4.out) HH.out hlt).mono ?_
        rintro e w5 ⟨v5, k5, rfl, o5, b5⟩
        have B5 := hide (below_step B4.out b5)
        have o45 := hide (o4.out.below b5)
        obtain ⟨A5, c5, hv5, _, hm5, hri5⟩ := o5.si
        subst hv5
        have hri6 := hri5.below ((Below.refl w5.heap.size w5).alloc (Nat.le_refl _) (.cells #[.slice A5 k5 c5] 24))
        have c6 : (w5.alloc (.cells #[.slice A5 k5 c5] 24)).cell? ⟨w5.heap.size, 0, none⟩ = some (.slice A5 k5 c5) := (Blk.new w5 _ _).cell 0
        have B6 := hide (B5.out.alloc B5.out.size (.cells #[.slice A5 k5 c5] 24))
        have o46 := hide (o45.out.alloc (.cells #[.slice A5 k5 c5] 24))
        clear o5 b5 hri5
        go_wp2_with fail
        refine (Values_c ⟨A5, k5, c5, rfl⟩).mono ?_
        rintro e w6 ⟨rfl, rfl⟩
        go_wp2_with fail
        refine (Sorted_c (by simp) c6 hri6 hm5).mono ?_
        rintro e w7 ⟨v7, rfl, o7, b7⟩
        have B7 := hide (below_step B6.out b7)
        have s47 := hide (o46.out.below b7).si
        have s7 := hide o7.si
        clear c6 hri6 b7 o7
        obtain ⟨A4, c4, rfl⟩ := s47.out.shape
        obtain ⟨A7, c7, rfl⟩ := s7.out.shape
        go_wp2_with fail
        refine (EqualInt_c s47.out s7.out).mono ?_
        rintro e w8 ⟨rfl, b8⟩
        have B8 := hide (below_step B7.out b8)
        clear b8
        by_cases hpm : xs.Perm (inst ts (k : Int))
        · rw [decide_eq_true (srt_eq_iff.2 hpm)]
          have HP2 := hide (show ∀ q : Nat, q < k + 1 → (os.getD q []).Perm (inst ts (q : Int)) from fun q hq => by
            by_cases e : q = k
            · subst e; rw [HGX.out]; exact hpm
            · exact HP.out q (by omega))
          clear hpm
          go_wp2_with fail
          go_roundw
          case rel => exact ⟨k + 1, by go_num, by omega, HP2.out, B8.out⟩
          case measure => simp [intOf]; omega
        · rw [decide_eq_false (fun h => hpm (srt_eq_iff.1 h))]
          have hf : ordersB ts os = false := ordersB_no hlt (by rw [HGX.out]; exact hpm)
          have F := hide hf
          clear hf hpm
          go_wp2_with fail
          go_ret
          exact ⟨congrArg (fun q => Ending.returned (.bool q)) F.out.symm, B8.out⟩
      · obtain rfl : k = 3 := by omega
        have hf : ordersB ts os = true := ordersB_mk HH.out hol.out HP.out
        have F := hide hf
        clear hf
        go_wp2_with fail
        go_ret
        exact ⟨congrArg (fun q => Ending.returned (.bool q)) F.out.symm, bw⟩
  · have hf : ordersB ts os = false := by
      unfold ordersB
      have : ¬ os.length = 3 := by rw [hol.out]; exact h3
      simp [this]
    have hne : ((no : Int) != 3) = true := by simp; omega
    have F := hide hf
    clear hf h3
    go_wp2_with fail
    go_ret
    exact ⟨congrArg (fun q => Ending.returned (.bool q)) F.out.symm, b2⟩
end Go.Proofs.YtcfkemchekmjbaaGreatDoor

namespace Go.Proofs.YtcfkemchekmjbaaGreatDoor
open Go.RowKit Go.Maps
theorem lawIntF : Keyed Tryz.prog 3 := int_keyed Tryz.underlying3
def kF (x : Int) : Lit := .int .i64 x
theorem keyF {x : Int} (h0 : 0 ≤ x) (h1 : x ≤ 1000) : keyOf Tryz.prog 3 (.int .i64 x) = some (kF x) := keyOf_int_mk Tryz.underlying3 (WalkArith.wf_i64 (by omega))
set_option maxRecDepth 100000 in
theorem zeroBo (w : World) : (zeroValue 4).run Tryz.prog w = .ok (.bool false) w := by kernel_rfl
set_option maxRecDepth 100000 in
theorem plainB {H : Type} (x : Bool) : (plainElem Tryz.prog 4 (.bool x) : Option (DataW H × List MemPlace)) = some (.lit (.bool x), []) := by
  unfold plainElem; rw [Tryz.underlying4]
set_option maxRecDepth 100000 in
theorem plainB_inv {H : Type} {v : Value} {z : DataW H × List MemPlace} (h : plainElem Tryz.prog 4 v = some z) : ∃ x, v = .bool x := by
  unfold plainElem at h
  rw [Tryz.underlying4] at h
  cases v <;> simp at h
  exact ⟨_, rfl⟩
/-- A map of bools of the call's own. -/
def TM (w : World) (b n : Nat) : Prop := ∃ D : DataW Unit, w.ownsMap Tryz.prog 3 (plainElem Tryz.prog 4) b n D
theorem TM.zero (w : World) : TM (w.alloc (.map #[] 0)) w.heap.size 0 := ⟨_, World.ownsMap_made w _ _ _⟩
theorem TM.lt {w : World} {b n : Nat} (h : TM w b n) : b < w.heap.size := by obtain ⟨D, ho⟩ := h; exact ho.lt
theorem TM.below {w w' : World} {b n : Nat} (h : TM w b n) (hb : Below w.heap.size w w') : TM w' b n := by
  obtain ⟨D, ho⟩ := h
  have hlt := ho.lt
  obtain ⟨es, cl, h3, h4⟩ := ho
  exact ⟨D, es, cl, (hb.block b hlt).trans h3, h4⟩
theorem TM.grown {w w' : World} {b n : Nat} {row : Option Nat} (h : TM w b n) (hg : w.grownBy w' row) (hne : some b ≠ row) : TM w' b n := by
  obtain ⟨D, ho⟩ := h
  have hlt := ho.lt
  obtain ⟨es, cl, h3, h4⟩ := ho
  exact ⟨D, es, cl, (hg.block b hlt hne).trans h3, h4⟩
theorem TM.alloc {w : World} {b n : Nat} (h : TM w b n) (o : Obj) : TM (w.alloc o) b n := h.below ((Below.refl _ _).alloc (Nat.le_refl _) _)
theorem TM.mono {w : World} {b n m : Nat} (h : TM w b n) (hm : n ≤ m) : TM w b m := by obtain ⟨D, h⟩ := h; exact ⟨D, h.mono hm⟩
/-- A row is no map. -/
theorem TM.ne {w : World} {b n k s B : Nat} {t : TypeId} {q : Value} {xs : List Value} (h : TM w b n) (ho : w.ownsRow B t s q k xs) : some b ≠ q.ownBlock := fun e => by
  obtain ⟨D, es, cl, h3, _⟩ := h
  rcases ho.2 with ⟨rfl, _⟩ | ⟨g, cap, cur, rfl, _, hh, _⟩
  · simp [Value.ownBlock] at e
  · have e1 : b = g := by have h : some b = some g := e; injection h
    subst e1
    rw [hh] at h3; injection h3 with h3; cases h3
set_option maxRecDepth 100000 in
theorem TM.look {w : World} {b n : Nat} {y : Int} (h : TM w b n) (h0 : 0 ≤ y) (h1 : y ≤ 1000) : ∃ c, (Instr.lookup 179 (.map (some b)) (.int .i64 y) false).run Tryz.prog w = .ok (.bool c) w := by
  obtain ⟨D, hown⟩ := h
  obtain ⟨v, ps, hrun, hv⟩ := hown.lookup lawIntF Tryz.underlying179 (zeroBo w) (plainB false) (keyF h0 h1)
  obtain ⟨c, rfl⟩ := plainB_inv hv
  exact ⟨c, by simpa using hrun⟩
theorem O3.fresh {te : TypeId} {w : World} {B : Nat} {v : Value} {n : Nat} {ts : List T3} (h : O3 te w B v n ts) : some w.heap.size ≠ v.ownBlock := fun e => by have := (World.ownsRow.lt h.1 _ e.symm).2; omega
set_option maxRecDepth 100000 in
theorem made3 (w : World) : (Instr.makeSlice 64 (.int .i64 0) (.int .i64 3)).run Tryz.prog w = .ok (.slice (some ⟨w.heap.size, 0, none⟩) 0 3) (w.alloc (.cells (madeCells #[.int .i64 0, .int .i64 0, .int .i64 0] 9) 61)) := by
  obtain ⟨i, hi, hz, hs, hb⟩ := info_parts infoOh
  have := run_make_rowN 64 61 i (.agg #[.int .i64 0, .int .i64 0, .int .i64 0]) Tryz.underlying64 hi hz .i64 .i64 0 3 (Nat.zero_le _) (by rw [hb]; omega) (by omega) w
  rw [hs] at this
  exact this
theorem made3_o (w : World) : O3 61 (w.alloc (.cells (madeCells #[.int .i64 0, .int .i64 0, .int .i64 0] 9) 61)) w.heap.size (.slice (some ⟨w.heap.size, 0, none⟩) 0 3) 0 [] :=
  ⟨⟨rfl, .inr ⟨w.heap.size, 3, _, rfl, Nat.le_refl _, Blk.new w _ _, Nat.zero_le _, by simp [maxLen], by simp [size_madeCells], by simp [flat3]⟩⟩, by omega⟩
/-- A slice of operations in a row of operations. -/
def SO (w : World) (v : Value) (n : Nat) (zs : List T3) : Prop := ∃ A, v = .slice A n n ∧ n ≤ 1048576 ∧ zs.length = n ∧ (0 < n → ∃ b cur, A = some ⟨b, 0, none⟩ ∧ Blk w b 61 cur ∧ ∀ (k : Nat) (x : Int), (flat3 zs)[k]? = some x → cur[k]? = some (.int .i64 x))
theorem SO.below {w w' : World} {v : Value} {n : Nat} {zs : List T3} (h : SO w v n zs) (hb : Below w.heap.size w w') : SO w' v n zs := by
  obtain ⟨A, h1, h2, h3, h4⟩ := h
  exact ⟨A, h1, h2, h3, fun hn => by obtain ⟨b, cur, e, hB, hc⟩ := h4 hn; exact ⟨b, cur, e, hB.belowAll hb, hc⟩⟩
theorem SO.row {w w' : World} {v q : Value} {n m s B : Nat} {t : TypeId} {xs : List Value} {zs : List T3} (h : SO w v n zs) (ho : w.ownsRow B t s q m xs) (ht : t ≠ 61) (hg : w.grownBy w' q.ownBlock) : SO w' v n zs := by
  obtain ⟨A, h1, h2, h3, h4⟩ := h
  exact ⟨A, h1, h2, h3, fun hn => by
    obtain ⟨b, cur, e, hB, hc⟩ := h4 hn
    exact ⟨b, cur, e, hB.grown hg (fun e => by
      rcases own_neB ho hB ht with q | q
      · rw [q] at e; cases e
      · exact q e.symm), hc⟩⟩
theorem SO.s3 {w : World} {v : Value} {n : Nat} {zs : List T3} (h : SO w v n zs) : ∃ A, v = .slice A n n ∧ n ≤ 1048576 ∧ R3 w A n zs := by
  obtain ⟨A, h1, h2, h3, h4⟩ := h
  refine ⟨A, h1, h2, h3, fun hn => ?_⟩
  obtain ⟨b, cur, e, hB, hc⟩ := h4 hn
  exact ⟨b, 0, e, hB.lt, fun k x hk => by
    rw [Nat.zero_add]
    exact (hB.cell _).trans (hc k x hk)⟩
theorem slice3 {A : Option Addr} {n c B : Nat} {ys : List T3} {w : World} (h : O3 61 w B (.slice A n c) n ys) :
    ∃ A', (∀ w', (Instr.slice 64 (.slice A n c) none (some (.int .i64 (n : Int))) (some (.int .i64 (n : Int)))).run Tryz.prog w' = .ok (.slice A' n n) w') ∧ SO w (.slice A' n n) n ys := by
  have hl := h.len
  obtain ⟨A0, c0, e, hnc, hn, hr⟩ := h.s3
  injection e with e1 e2 e3
  subst e1; subst e3
  obtain ⟨i, hi, hz, hsz, hb⟩ := info_parts infoOh
  refine ⟨if n = 0 then A else A.map (·.add (0 * i.size)), fun w' => ?_, _, rfl, hn, hl, fun hk0 => ?_⟩
  · simp [Instr.slice, Instr.sliceBounds, Instr.sliceBound, run_underlying Tryz.underlying64, sizeOf, typeInfo, hi, asIntOf, hnc]
  · rcases h.1.2 with ⟨_, h0⟩ | ⟨g, cap, cur, e, hB, hg, hc, hcm, hs, ht⟩
    · omega
    · injection e with e _ _
      subst e
      refine ⟨g, cur, ?_, hg, fun k x hk => ?_⟩
      · rw [if_neg (by omega), Nat.zero_mul]; simp [addr_add]
      · have hkl : k < n * 3 := by have := (List.getElem?_eq_some_iff.1 hk).1; rw [flat3_len, hl] at this; exact this
        have : (cur.toList.take (n * 3))[k]? = some (.int .i64 x) := by rw [ht]; simp [hk]
        rw [List.getElem?_take_of_lt hkl] at this
        simpa using this
end Go.Proofs.YtcfkemchekmjbaaGreatDoor

namespace Go.Proofs.YtcfkemchekmjbaaGreatDoor
open Go.RowKit Go.Maps
theorem kF_inj {x y : Int} (h : kF x = kF y) : x = y := by unfold kF at h; injection h
set_option maxRecDepth 100000 in
theorem plainB_inv2 {H : Type} {v : Value} {z : DataW H × List MemPlace} (h : plainElem Tryz.prog 4 v = some z) : ∃ x, v = .bool x ∧ z = (.lit (.bool x), []) := by
  unfold plainElem at h
  rw [Tryz.underlying4] at h
  cases v <;> simp at h
  exact ⟨_, rfl, h.symm⟩
/-- The map at block b: the keys of os. -/
def TX (w : World) (b n : Nat) (os : List T3) : Prop := ∃ D : DataW Unit, w.ownsMap Tryz.prog 3 (plainElem Tryz.prog 4) b n D ∧ ∀ q, D.atKey (kF q) (.lit (.bool false)) = .lit (.bool (lastO os q).isSome)
theorem TX.zero (w : World) : TX (w.alloc (.map #[] 0)) w.heap.size 0 [] := ⟨_, World.ownsMap_made w _ _ _, fun _ => rfl⟩
theorem TX.lt {w : World} {b n : Nat} {os : List T3} (h : TX w b n os) : b < w.heap.size := by obtain ⟨D, ho, _⟩ := h; exact ho.lt
theorem TX.below {w w' : World} {b n : Nat} {os : List T3} (h : TX w b n os) (hb : Below w.heap.size w w') : TX w' b n os := by
  obtain ⟨D, ho, h2⟩ := h
  have hlt := ho.lt
  obtain ⟨es, cl, h3, h4⟩ := ho
  exact ⟨D, ⟨es, cl, (hb.block b hlt).trans h3, h4⟩, h2⟩
theorem TX.grown {w w' : World} {b n : Nat} {row : Option Nat} {os : List T3} (h : TX w b n os) (hg : w.grownBy w' row) (hne : some b ≠ row) : TX w' b n os := by
  obtain ⟨D, ho, h2⟩ := h
  have hlt := ho.lt
  obtain ⟨es, cl, h3, h4⟩ := ho
  exact ⟨D, ⟨es, cl, (hg.block b hlt hne).trans h3, h4⟩, h2⟩
theorem TX.alloc {w : World} {b n : Nat} {os : List T3} (h : TX w b n os) (o : Obj) : TX (w.alloc o) b n os := h.below ((Below.refl _ _).alloc (Nat.le_refl _) _)
theorem TX.tm {w : World} {b n : Nat} {os : List T3} (h : TX w b n os) : TM w b n := by obtain ⟨D, ho, _⟩ := h; exact ⟨D, ho⟩
set_option maxRecDepth 100000 in
theorem TX.look {w : World} {b n : Nat} {os : List T3} {y : Int} (h : TX w b n os) (h0 : 0 ≤ y) (h1 : y ≤ 1000) : (Instr.lookup 179 (.map (some b)) (.int .i64 y) false).run Tryz.prog w = .ok (.bool (lastO os y).isSome) w := by
  obtain ⟨D, hown, hD⟩ := h
  obtain ⟨v, ps, hrun, hv⟩ := hown.lookup lawIntF Tryz.underlying179 (zeroBo w) (plainB false) (keyF h0 h1)
  obtain ⟨c, rfl, hc⟩ := plainB_inv2 hv
  have hc1 := congrArg Prod.fst hc
  have e : c = (lastO os y).isSome := by
    have := (hD y).symm.trans hc1
    injection this with this; injection this with this; exact this.symm
  rw [← e]
  simpa using hrun
theorem TX.step {w' : World} {b n k : Nat} {os : List T3} {o : T3} {D : DataW Unit} (hm : IsMap D) (h2 : ∀ q, D.atKey (kF q) (.lit (.bool false)) = .lit (.bool (lastO (os.take k) q).isSome))
    (hk : os[k]? = some o) (h : w'.ownsMap Tryz.prog 3 (plainElem Tryz.prog 4) b n (D.put (kF o.2.1) (.lit (.bool true)))) : TX w' b n (os.take (k + 1)) := by
  refine ⟨_, h, fun q => ?_⟩
  rw [List.take_add_one, hk]
  simp only [Option.toList_some]
  rw [lastO_snoc]
  by_cases e : o.2.1 = q
  · subst e
    rw [if_pos rfl, atKey_put_same hm (show Go.WideAt.IsKeyLit (kF _) from trivial)]; rfl
  · rw [if_neg e, atKey_put_other (fun h => e (kF_inj h).symm)]
    exact h2 q
set_option maxRecDepth 100000 in
set_option maxHeartbeats 8000000 in
theorem firstReads_x {u : Value} {m : Nat} {ys : List T3} {f : Int} {dn : Bool} {w : World} (hu : S3 w u m ys) (hm : m ≤ 6) (hk : ∀ o ∈ ys, 0 ≤ o.2.1 ∧ o.2.1 ≤ 2) :
    Calls Tryz.prog 101 #[.agg #[.int .i64 f, u, .bool dn]] w fun e w' => ∃ A n, e = .returned (.slice A n n) ∧ n ≤ m ∧ SO w' (.slice A n n) n (firstR ys) ∧ Below w.heap.size w w' := by
  obtain ⟨A, c, rfl, hnc, hmm, hr⟩ := hu
  have hl := hide hr.len
  have hmk := fun (v : World) => run_makeMap (P := Tryz.prog) 179 v
  have hm3 := made3
  have KB := Blk.new w 66 #[.int .i64 f, .slice A m c, .bool dn]
  have o0 := ((made3_o (w.alloc (.cells #[.int .i64 f, .slice A m c, .bool dn] 66))).mono (B' := w.heap.size) (by simp)).alloc (.map #[] 0)
  have T0 := TX.zero ((w.alloc (.cells #[.int .i64 f, .slice A m c, .bool dn] 66)).alloc (.cells (madeCells #[.int .i64 0, .int .i64 0, .int .i64 0] 9) 61))
  have B0 : Below w.heap.size w (((w.alloc (.cells #[.int .i64 f, .slice A m c, .bool dn] 66)).alloc (.cells (madeCells #[.int .i64 0, .int .i64 0, .int .i64 0] 9) 61)).alloc (.map #[] 0)) := (((Below.refl w.heap.size w).alloc (Nat.le_refl _) _).alloc (by simp) _).alloc (by simp <;> omega) _
  simp only [World.size_alloc] at o0 T0
  have O0 := hide o0; have T0' := hide T0; have B0' := hide B0
  clear o0 T0 B0 KB
  go_enter Tryz.func101, Tryz.ntmps101
  go_wp2_with fail
  go_loopw [3, 12] (fun v i W => ∃ (k n : Nat), i = .int .i64 k ∧ k ≤ m ∧ O3 61 W w.heap.size v n (firstTo ys k) ∧ n ≤ k ∧ TX W (w.heap.size + 1 + 1) k (ys.take k) ∧ Below w.heap.size w W) (fun _ i _ => m - (intOf i).toNat)
  case atStart => exact ⟨0, 0, rfl, Nat.zero_le _, O0.out, Nat.le_refl _, T0'.out, B0'.out⟩
  case round =>
    clear O0 T0' B0' hm3 hmk
    rename World => wr
    obtain ⟨k, n, rfl, hkm, ho, hnk, hT, bw⟩ := hrel
    by_cases hlt : k < m
    · obtain ⟨b, off, x, y, z, rfl, hbb, hx, p0, p1, p2⟩ := hr.at_ hlt
      have a0 := (bw.cell (p := ⟨b, off + k * 3, none⟩) hbb).trans p0
      have a1 := (bw.cell (p := ⟨b, off + k * 3 + 1, none⟩) hbb).trans p1
      have a2 := (bw.cell (p := ⟨b, off + k * 3 + 2, none⟩) hbb).trans p2
      obtain ⟨hy0, hy2⟩ := hk _ (List.mem_of_getElem? hx)
      dsimp only at hy0 hy2
      have HX := hide hx
      clear hx p0 p1 p2
      have k0 : (0 : Int) ≤ k := by omega
      have k2 : (k : Int) < m := by omega
      have K1 := Blk.new wr 61 #[.int .i64 x, .int .i64 y, .int .i64 z]
      have b1 : Below w.heap.size w (wr.alloc (.cells #[.int .i64 x, .int .i64 y, .int .i64 z] 61)) := bw.alloc bw.size _
      have ho1 := ho.alloc (.cells #[.int .i64 x, .int .i64 y, .int .i64 z] 61)
      have hT1 := hT.alloc (.cells #[.int .i64 x, .int .i64 y, .int .i64 z] 61)
      have hfr := ho.fresh
      clear ho hT
      go_wp2_with fail
      refine (readsOp_c).mono ?_
      rintro e w2 ⟨rfl, b2⟩
      have B2 := below_step b1 b2
      have K2 := K1.belowAll b2
      have ho2 := ho1.below b2
      have hT2 := hT1.below b2
      have hlt2 := hT2.lt
      obtain ⟨f0, f1, f2⟩ := K2.three
      clear K1 ho1 hT1 b1 b2 bw a0 a1 a2
      by_cases hx1 : x = 1
      · subst hx1
        rw [show ((1 : Int) == 1) = true by rfl]
        have hlk := hT2.look hy0 (by omega)
        by_cases hlo : lastO (ys.take k) y = none
        · rw [hlo] at hlk
          have HF := hide (firstTo_yes HX.out rfl hlo)
          have KN := Blk.new w2 61 #[.int .i64 1, .int .i64 y, .int .i64 z]
          have ho3 := ho2.alloc (.cells #[.int .i64 1, .int .i64 y, .int .i64 z] 61)
          have hT3 := hT2.alloc (.cells #[.int .i64 1, .int .i64 y, .int .i64 z] 61)
          have B3 := B2.alloc B2.size (.cells #[.int .i64 1, .int .i64 y, .int .i64 z] 61)
          have K3 := K2.alloc (.cells #[.int .i64 1, .int .i64 y, .int .i64 z] 61)
          have hs3 := B2.size
          clear ho2 hT2 K2 hlo
          have f0' := K3.three
          obtain ⟨e0, e1, e2⟩ := f0'
          go_upto_region 8 with (at_builtin; refine wpList_app3 rfl _ _ rfl Tryz.underlying64 infoOh rfl ho3 rfl (S3.one KN (Nat.le_refl _)) (by omega) (by simp <;> omega) ?_; intro v4 w4 o4 hg4 hat4)
          have hT4 := hT3.grown hg4 (TM.ne hT3.tm ho3.1)
          have B4 := below_app3 B3 ho3 (Nat.le_refl _) hg4
          have K4 : w4.cell? ⟨wr.heap.size, 1, none⟩ = some (.int .i64 y) := (K3.grown hg4 hfr).cell 1
          rw [← HF.out] at o4
          clear f0 f1 f2 ho3 hT3 K3 KN hlk
          obtain ⟨D, hown, hD⟩ := hT4
          have HD := hide hD
          have hown2 := hown
          have HM := hide hown.isMap
          have hneO := TM.ne ⟨D, hown⟩ o4.1
          have KF := hide (keyF (x := y) (by omega) (by omega))
          clear hD
          go_wp2_with (at_mapUpdate; refine wpList_mapUpdate_own _ rfl _ _ _ 179 rfl 3 4 lawIntF Tryz.underlying179 (plainElem Tryz.prog 4) (w.heap.size + 1 + 1) k D rfl hown2 (by unfold maxLen; omega) _ _ _ rfl rfl KF.out _ [] (plainB true) ?_; intro w9 hown9 hg9)
          go_roundw
          case rel => exact ⟨k + 1, n + 1, by go_num, by omega, O3.grown o4 hg9 (.inr (fun e => hneO e.symm)), by omega, TX.step HM.out HD.out HX.out hown9, B4.grown hg9 B4.size (fun j e => by injection e with e; omega)⟩
          case measure => simp [intOf]; omega
        · have hsm : (lastO (ys.take k) y).isSome = true := by cases h : lastO (ys.take k) y with
            | none => exact absurd h hlo
            | some p => rfl
          rw [hsm] at hlk
          have HF := hide (firstTo_no HX.out (fun h => hlo h.2))
          clear K2 hlo hsm
          obtain ⟨D, hown, hD⟩ := hT2
          have HD := hide hD
          have hown2 := hown
          have HM := hide hown.isMap
          have hneO := TM.ne ⟨D, hown⟩ ho2.1
          have KF := hide (keyF (x := y) (by omega) (by omega))
          clear hD
          go_wp2_with (at_mapUpdate; refine wpList_mapUpdate_own _ rfl _ _ _ 179 rfl 3 4 lawIntF Tryz.underlying179 (plainElem Tryz.prog 4) (w.heap.size + 1 + 1) k D rfl hown2 (by unfold maxLen; omega) _ _ _ rfl rfl KF.out _ [] (plainB true) ?_; intro w9 hown9 hg9)
          go_roundw
          case rel => exact ⟨k + 1, n, by go_num, by omega, by rw [HF.out]; exact O3.grown ho2 hg9 (.inr (fun e => hneO e.symm)), by omega, TX.step HM.out HD.out HX.out hown9, B2.grown hg9 B2.size (fun j e => by injection e with e; omega)⟩
          case measure => simp [intOf]; omega
      · have hxb : (x == 1) = false := by simpa using hx1
        have HF := hide (firstTo_no HX.out (fun h => hx1 h.1))
        rw [hxb]
        go_upto_region 8 with fail
        clear K2 hx1
        obtain ⟨D, hown, hD⟩ := hT2
        have HD := hide hD
        have hown2 := hown
        have HM := hide hown.isMap
        have hneO := TM.ne ⟨D, hown⟩ ho2.1
        have KF := hide (keyF (x := y) (by omega) (by omega))
        clear hD
        go_wp2_with (at_mapUpdate; refine wpList_mapUpdate_own _ rfl _ _ _ 179 rfl 3 4 lawIntF Tryz.underlying179 (plainElem Tryz.prog 4) (w.heap.size + 1 + 1) k D rfl hown2 (by unfold maxLen; omega) _ _ _ rfl rfl KF.out _ [] (plainB true) ?_; intro w9 hown9 hg9)
        go_roundw
        case rel => exact ⟨k + 1, n, by go_num, by omega, by rw [HF.out]; exact O3.grown ho2 hg9 (.inr (fun e => hneO e.symm)), by omega, TX.step HM.out HD.out HX.out hown9, B2.grown hg9 B2.size (fun j e => by injection e with e; omega)⟩
        case measure => simp [intOf]; omega
    · obtain rfl : k = m := by omega
      obtain ⟨Ao, co, rfl⟩ := ho.shape
      obtain ⟨A', rc, sc⟩ := slice3 ho
      have hfr : firstTo ys k = firstR ys := by unfold firstR; rw [hl.out]
      rw [hfr] at sc
      have HR3 := hide sc
      clear sc hfr
      go_wp2_with fail
      go_ret
      exact ⟨A', n, rfl, hnk, HR3.out, bw⟩
end Go.Proofs.YtcfkemchekmjbaaGreatDoor
