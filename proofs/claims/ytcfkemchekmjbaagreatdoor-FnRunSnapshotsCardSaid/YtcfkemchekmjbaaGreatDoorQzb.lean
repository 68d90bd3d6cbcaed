/- Merged (what the law reaches): LstP, Srt, Mat1. -/
import Derived.Test.YtcfkemchekmjbaaGreatDoorQza
import Derived.Deep.DeepCutAuto
namespace Go.Proofs.YtcfkemchekmjbaaGreatDoor
open Go.RowKit
abbrev Ls := List (List Int)
def EL (w : World) (b off : Nat) (xs : List Int) : Prop := ∃ (B : Option Addr) (k d : Nat), w.cell? ⟨b, off, none⟩ = some (.slice B k d) ∧ k ≤ d ∧ k ≤ 1048576 ∧ RI w B k xs
theorem EL.below {w w' : World} {b off : Nat} {xs : List Int} (h : EL w b off xs) (hb : Below w.heap.size w w') (hlt : b < w.heap.size) : EL w' b off xs := by
  obtain ⟨B, k, d, h1, h2, h3, h4⟩ := h
  exact ⟨B, k, d, (hb.cell (p := ⟨b, off, none⟩) hlt).trans h1, h2, h3, h4.below hb⟩
/-- n lists at A. -/
def RL (w : World) (A : Option Addr) (n : Nat) (ls : Ls) : Prop :=
  ls.length = n ∧ (0 < n → ∃ b off, A = some ⟨b, off, none⟩ ∧ b < w.heap.size ∧ ∀ (k : Nat) (xs : List Int), ls[k]? = some xs → EL w b (off + k) xs)
theorem RL.below {w w' : World} {A : Option Addr} {n : Nat} {ls : Ls} (h : RL w A n ls) (hb : Below w.heap.size w w') : RL w' A n ls :=
  ⟨h.1, fun hn => by
    obtain ⟨b, off, e, hlt, hc⟩ := h.2 hn
    exact ⟨b, off, e, Nat.lt_of_lt_of_le hlt hb.size, fun k m hm => (hc k m hm).below hb hlt⟩⟩
theorem RL.at_ {w : World} {A : Option Addr} {n : Nat} {ls : Ls} (h : RL w A n ls) {k : Nat} (hk : k < n) :
    ∃ b off xs B kk d, A = some ⟨b, off, none⟩ ∧ b < w.heap.size ∧ ls[k]? = some xs ∧ w.cell? ⟨b, off + k, none⟩ = some (.slice B kk d) ∧ kk ≤ d ∧ kk ≤ 1048576 ∧ RI w B kk xs := by
  obtain ⟨b, off, e, hlt, hc⟩ := h.2 (by omega)
  have hl : k < ls.length := by have := h.1; omega
  obtain ⟨xs, hg⟩ : ∃ q, ls[k]? = some q := ⟨ls[k], List.getElem?_eq_getElem hl⟩
  obtain ⟨B, kk, d, h1, h2, h3, h4⟩ := hc k xs hg
  exact ⟨b, off, xs, B, kk, d, e, hlt, hg, h1, h2, h3, h4⟩
def begB (a b : List Int) : Bool := decide (a.take (min a.length b.length) = b.take (min a.length b.length))
/-- All pairs before (k, j) agree. -/
def AgreeTo (ls : Ls) (k j : Nat) : Prop := ∀ (p q : Nat) (a b : List Int), p < q → (p < k ∨ (p = k ∧ q < j)) → ls[p]? = some a → ls[q]? = some b → begB a b = true
theorem AgreeTo.zero (ls : Ls) (j : Nat) (hj : j ≤ 1) : AgreeTo ls 0 j := fun p q a b h1 h2 _ _ => by omega
theorem AgreeTo.step {ls : Ls} {k j : Nat} {a b : List Int} (h : AgreeTo ls k j) (ha : ls[k]? = some a) (hb : ls[j]? = some b) (hab : begB a b = true) : AgreeTo ls k (j + 1) := fun p q a' b' h1 h2 h3 h4 => by
  by_cases e : p = k ∧ q = j
  · obtain ⟨rfl, rfl⟩ := e
    rw [ha] at h3; rw [hb] at h4
    injection h3 with h3; injection h4 with h4; subst h3; subst h4; exact hab
  · exact h p q a' b' h1 (by omega) h3 h4
theorem AgreeTo.next {ls : Ls} {k j : Nat} (h : AgreeTo ls k j) (hj : ls.length ≤ j) : AgreeTo ls (k + 1) (k + 2) := fun p q a b h1 h2 h3 h4 => by
  have hq := (List.getElem?_eq_some_iff.1 h4).1
  exact h p q a b h1 (by omega) h3 h4
end Go.Proofs.YtcfkemchekmjbaaGreatDoor

namespace Go.Proofs.YtcfkemchekmjbaaGreatDoor
open Go.RowKit Go.Shelf Go.Sort Go.Maps
def srt (xs : List Int) : List Int := xs.mergeSort fun x y => decide (x ≤ y)
section
variable {bx : Nat} {A : Option Addr} {m c : Nat} {xs : List Int} {w : World}
theorem AppendSeq_c (hbx : bx < w.heap.size) (hx : w.cell? ⟨bx, 0, none⟩ = some (.slice A m c)) (hr : RI w A m xs) (hm : m ≤ 1048576) :
    Calls Tryz.prog 186 #[.slice none 0 0, .func (.func 155) #[] #[.pointer (some ⟨bx, 0, none⟩)]] w fun e w' => ∃ v, e = .returned v ∧ w'.ownsRow w.heap.size 3 1 v xs.length (xs.map (Value.int .i64)) ∧ (v = .slice none 0 0 ↔ xs = []) ∧ Below w.heap.size w w' :=
  callsIn_wide.1 (appendSeq1 5 (by omega) bx hbx hx hr hm)
set_option maxHeartbeats 1000000 in
theorem Collect_c (hbx : bx < w.heap.size) (hx : w.cell? ⟨bx, 0, none⟩ = some (.slice A m c)) (hr : RI w A m xs) (hm : m ≤ 1048576) :
    Calls Tryz.prog 153 #[.func (.func 155) #[] #[.pointer (some ⟨bx, 0, none⟩)]] w fun e w' => ∃ v, e = .returned v ∧ w'.ownsRow w.heap.size 3 1 v xs.length (xs.map (Value.int .i64)) ∧ (v = .slice none 0 0 ↔ xs = []) ∧ Below w.heap.size w w' := by
  go_enter Tryz.func153, Tryz.ntmps153
  go_wp2_with fail
  refine (AppendSeq_c hbx hx hr hm).mono ?_
  rintro e w2 ⟨v, rfl, h1, h2, h3⟩
  go_wp2_with fail
  go_ret
  exact ⟨v, rfl, h1, h2, h3⟩
set_option maxRecDepth 100000 in
set_option maxHeartbeats 2000000 in
theorem Sorted_c (hbx : bx < w.heap.size) (hx : w.cell? ⟨bx, 0, none⟩ = some (.slice A m c)) (hr : RI w A m xs) (hm : m ≤ 1048576) :
    Calls Tryz.prog 106 #[.func (.func 155) #[] #[.pointer (some ⟨bx, 0, none⟩)]] w fun e w' => ∃ v, e = .returned v ∧ OI w' w.heap.size v xs.length (srt xs) ∧ Below w.heap.size w w' := by
  have hl := hide hr.len
  have hcl := Collect_c hbx hx hr hm
  clear hx hr
  go_enter Tryz.func106, Tryz.ntmps106
  go_wp2_with fail
  refine hcl.mono ?_
  rintro e W ⟨v, rfl, hrow, hnil, hb⟩
  rcases hrow.2 with ⟨rfl, hz⟩ | ⟨gb, cap, cur, rfl, hbase, hgb, r1, r2, r3, r4⟩
  · have hxs : xs = [] := List.eq_nil_of_length_eq_zero hz
    subst hxs
    go_wp2_with fail
    refine (slices_Sort_int_none none 0 W).mono ?_
    rintro e w' ⟨rfl, rfl⟩
    go_wp2_with fail
    go_ret
    exact ⟨.slice none 0 0, rfl, by rw [show srt [] = [] by simp [srt]]; exact OI.nil, hb⟩
  · have hH : Holds (Value.int .i64) W gb 0 xs.toArray := holds_of_block_i hgb (by simpa using r4)
    have hgl : gb < W.heap.size := (Array.getElem?_eq_some_iff.1 hgb).1
    have hsz : xs.length < 4611686018427387904 := by have := hl.out; omega
    have cS := slices_Sort_int gb 0 cap xs W hH hgl hsz
    have hlen : (srt xs).length = xs.length := by unfold srt; rw [List.length_mergeSort]
    have HN := hide hnil; have HROW := hide hrow
    clear hnil hrow hH hcl r4
    go_wp2_with fail
    refine cS.mono ?_
    rintro e w' ⟨rfl, nn, os, rfl⟩
    go_wp2_with fail
    go_ret
    refine ⟨.slice (some ⟨gb, 0, none⟩) xs.length cap, rfl, ⟨?_, by have := hl.out; omega⟩, hb.grown (grownBy_sorted_i _) hb.size (fun j hj => by cases hj; exact hbase)⟩
    exact ownsRow_sorted_i (by simp) hbase hgb r1 r2 r3
end
set_option maxHeartbeats 1000000 in
theorem Values_c {u : Value} {w : World} (hu : ∃ A n c, u = .slice A n c) : Calls Tryz.prog 107 #[u] w fun e w' => e = .returned (.func (.func 155) #[] #[.pointer (some ⟨w.heap.size, 0, none⟩)]) ∧ w' = w.alloc (.cells #[u] 24) := by
  obtain ⟨A, n, c, rfl⟩ := hu
  go_enter Tryz.func107, Tryz.ntmps107
  go_wp2_with fail
  go_ret
  exact ⟨rfl, rfl⟩
set_option maxHeartbeats 2000000 in
theorem EqualInt_c {u v : Value} {n m : Nat} {xs ys : List Int} {w : World} (hu : SI w u n xs) (hv : SI w v m ys) :
    Calls Tryz.prog 109 #[u, v] w fun e w' => e = .returned (.bool (decide (xs = ys))) ∧ Below w.heap.size w w' := by
  obtain ⟨A, c, rfl, _, hn, ha⟩ := hu
  obtain ⟨B, d, rfl, _, hm, hb⟩ := hv
  have hla := hide ha.len
  have hlb := hide hb.len
  by_cases hnm : n = m
  · subst hnm
    go_enter Tryz.func109, Tryz.ntmps109
    go_wp2_with fail
    go_loopw [13] (fun i wr => ∃ k : Nat, k ≤ n ∧ i = .int .i64 k ∧ xs.take k = ys.take k ∧ Below w.heap.size w wr) (fun i _ => n - (intOf i).toNat)
    case atStart => exact ⟨0, Nat.zero_le _, rfl, rfl, Below.refl _ _⟩
    case round =>
      obtain ⟨k, hk, rfl, heq, hbel⟩ := hrel
      have HE := hide heq; clear heq
      by_cases hlt : k < n
      · obtain ⟨b1, o1, x, rfl, hb1, hx, hc1⟩ := ha.at_ hlt
        obtain ⟨b2, o2, y, rfl, hb2, hy, hc2⟩ := hb.at_ hlt
        have c1 := (hbel.cell (p := ⟨b1, o1 + k, none⟩) hb1).trans hc1
        have c2 := (hbel.cell (p := ⟨b2, o2 + k, none⟩) hb2).trans hc2
        have HX := hide hx; have HY := hide hy
        have k0 : (0 : Int) ≤ k := by omega
        have k1 : (k : Int) < n := by omega
        clear hx hy hc1 hc2
        by_cases hxy : x = y
        · have hne : (x != y) = false := by simpa using hxy
          have hs := hide (take_snoc_eq xs ys k x HE.out HX.out (by rw [HY.out, hxy]))
          clear hxy
          go_wp2_with fail
          go_region
          go_wp2_with fail
          go_roundw
          case rel => exact ⟨k + 1, by omega, by go_num, hs.out, hbel.drew⟩
          case measure => simp [intOf]; omega
        · have hne : (x != y) = true := by simpa using hxy
          have hf : decide (xs = ys) = false := decide_eq_false (by
            rintro rfl
            have := HX.out.symm.trans HY.out
            injection this with this; exact hxy this)
          have F := hide hf
          clear hf hxy
          go_wp2_with fail
          go_region
          go_wp2_with fail
          go_ret
          exact ⟨congrArg (fun q => Ending.returned (.bool q)) F.out.symm, hbel.drew⟩
      · obtain rfl : k = n := by omega
        have hf : decide (xs = ys) = true := decide_eq_true (by
          have := HE.out
          rwa [List.take_of_length_le (by rw [hla.out]; exact Nat.le_refl _), List.take_of_length_le (by rw [hlb.out]; exact Nat.le_refl _)] at this)
        have F := hide hf
        clear hf
        go_wp2_with fail
        go_ret
        exact ⟨congrArg (fun q => Ending.returned (.bool q)) F.out.symm, hbel⟩
  · have hne : ((n : Int) != (m : Int)) = true := by simp; omega
    have hf : decide (xs = ys) = false := decide_eq_false (by rintro rfl; exact hnm (hla.out.symm.trans hlb.out))
    have F := hide hf
    clear hf
    go_enter Tryz.func109, Tryz.ntmps109
    go_wp2_with fail
    go_ret
    exact ⟨congrArg (fun q => Ending.returned (.bool q)) F.out.symm, Below.refl _ _⟩
theorem srt_eq_iff {xs ys : List Int} : srt xs = srt ys ↔ xs.Perm ys := by
  constructor
  · intro h
    have h1 : (srt xs).Perm xs := List.mergeSort_perm xs _
    have h2 : (srt ys).Perm ys := List.mergeSort_perm ys _
    rw [h] at h1
    exact h1.symm.trans h2
  · intro h
    exact mergeSort_of_perm_i h
set_option maxRecDepth 100000 in
set_option maxHeartbeats 16000000 in
theorem impl_OrdersValid_c {A Ao : Option Addr} {n c no co : Nat} {ts : List Tx} {os : Ls} {w : World} (hr : RTs w A n ts) (hh : histB ts = true) (ho : RL w Ao no os) (hno : no ≤ co) :
    Calls Tryz.prog 55 #[.slice A n c, .slice Ao no co] w fun e w' => e = .returned (.bool (ordersB ts os)) ∧ Below w.heap.size w w' := by
  obtain ⟨h6, hv, hnd⟩ := histB_parts hh
  have hl := hide hr.1
  have hol := hide ho.1
  have HH := hide hh
  have hn6 : n ≤ 6 := by rw [← hl.out]; exact h6
  have hsm : SmallT ts := fun t ht => by have h : t.2.1.length ≤ 6 := txnB_lenH (hv t ht); omega
  clear hv hnd h6 hh
  go_enter Tryz.func55, Tryz.ntmps55
  go_wp2_with fail
  refine (impl_HistoryValid_c hr (by omega) hsm).mono ?_
  rintro e w2 ⟨rfl, b2⟩
  rw [HH.out]
  by_cases h3 : no = 3
  · subst h3
    go_wp2_with fail
    go_loopw [19] (fun i W => ∃ k : Nat, i = .int .i64 k ∧ k ≤ 3 ∧ (∀ q : Nat, q < k → (os.getD q []).Perm (inst ts (q : Int))) ∧ Below w.heap.size w W) (fun i _ => 3 - (intOf i).toNat)
    case atStart => exact ⟨0, rfl, Nat.zero_le _, fun q hq => by omega, b2⟩
    case round =>
      clear b2
      rename World => wr
      obtain ⟨k, rfl, hk, hp, bw⟩ := hrel
      have HP := hide hp; clear hp
      by_cases hlt : k < 3
      · obtain ⟨b, off, xs, B, kk, d, rfl, hbb, hx, q0, hkd, hkm, hri⟩ := ho.at_ hlt
        have e0 := (bw.cell (p := ⟨b, off + k, none⟩) hbb).trans q0
        have hgx : os.getD k [] = xs := by simp [List.getD, hx]
        have HGX := hide hgx
        have k0 : (0 : Int) ≤ k := by omega
        have k1 : (k : Int) < 3 := by omega
        have hriw := hri.below bw
        have b3 := bw.alloc bw.size (.cells #[.slice B kk d] 24)
        have B3 := hide b3
        have hri3 := hriw.below ((Below.refl wr.heap.size wr).alloc (Nat.le_refl _) (.cells #[.slice B kk d] 24))
        have c3 : (wr.alloc (.cells #[.slice B kk d] 24)).cell? ⟨wr.heap.size, 0, none⟩ = some (.slice B kk d) := (Blk.new wr _ _).cell 0
        clear hx q0 hgx hriw b3
        go_wp2_with fail
        refine (Values_c ⟨B, kk, d, rfl⟩).mono ?_
        rintro e w3 ⟨rfl, rfl⟩
        go_wp2_with fail
        refine (Sorted_c (by simp) c3 hri3 hkm).mono ?_
        rintro e w4 ⟨v4, rfl, o4, b4⟩
        have B4 := hide (below_step B3.out b4)
        have o4 := hide (o4.mono (B' := w.heap.size) B3.out.size)
        clear c3 hri3 b4 e0
        go_wp2_with fail
        refine (impl_Installed_c (hr.below B4.out) HH.out hlt).mono ?_
        rintro e w5 ⟨v5, k5, rfl, o5, b5⟩
        have B5 := hide (below_step B4.out b5)
        have o45 := hide (o4.out.below b5)
        obtain ⟨A5, c5, hv5, _, hm5, hri5⟩ := o5.si
        subst hv5
        have hri6 := hri5.below ((Below.refl w5.heap.size w5).alloc (Nat.le_refl _) (.cells #[.slice A5 k5 c5] 24))
        have c6 : (w5.alloc (.cells #[.slice A5 k5 c5] 24)).cell? ⟨w5.heap.size, 0, none⟩ = some (.slice A5 k5 c5) := (Blk.new w5 _ _).cell 0
        have B6 := hide (B5.out.alloc B5.out.size (.cells #[.slice A5 k5 c5] 24))
        have o46 := hide (o45.out.alloc (.cells #[.slice A5 k5 c5] 24))
        clear o5 b5 hri5
        go_wp2_with fail
        refine (Values_c ⟨A5, k5, c5, rfl⟩).mono ?_
        rintro e w6 ⟨rfl, rfl⟩
        go_wp2_with fail
        refine (Sorted_c (by simp) c6 hri6 hm5).mono ?_
        rintro e w7 ⟨v7, rfl, o7, b7⟩
        have B7 := hide (below_step B6.out b7)
        have s47 := hide (o46.out.below b7).si
        have s7 := hide o7.si
        clear c6 hri6 b7 o7
        obtain ⟨A4, c4, rfl⟩ := s47.out.shape
        obtain ⟨A7, c7, rfl⟩ := s7.out.shape
        go_wp2_with fail
        refine (EqualInt_c s47.out s7.out).mono ?_
        rintro e w8 ⟨rfl, b8⟩
        have B8 := hide (below_step B7.out b8)
        clear b8
        by_cases hpm : xs.Perm (inst ts (k : Int))
        · rw [decide_eq_true (srt_eq_iff.2 hpm)]
          have HP2 := hide (show ∀ q : Nat, q < k + 1 → (os.getD q []).Perm (inst ts (q : Int)) from fun q hq => by
            by_cases e : q = k
            · subst e; rw [HGX.out]; exact hpm
            · exact HP.out q (by omega))
          clear hpm
          go_wp2_with fail
          go_roundw
          case rel => exact ⟨k + 1, by go_num, by omega, HP2.out, B8.out⟩
          case measure => simp [intOf]; omega
        · rw [decide_eq_false (fun h => hpm (srt_eq_iff.1 h))]
          have hf : ordersB ts os = false := ordersB_no hlt (by rw [HGX.out]; exact hpm)
          have F := hide hf
          clear hf hpm
          go_wp2_with fail
          go_ret
          exact ⟨congrArg (fun q => Ending.returned (.bool q)) F.out.symm, B8.out⟩
      · obtain rfl : k = 3 := by omega
        have hf : ordersB ts os = true := ordersB_mk HH.out hol.out HP.out
        have F := hide hf
        clear hf
        go_wp2_with fail
        go_ret
        exact ⟨congrArg (fun q => Ending.returned (.bool q)) F.out.symm, bw⟩
  · have hf : ordersB ts os = false := by
      unfold ordersB
      have : ¬ os.length = 3 := by rw [hol.out]; exact h3
      simp [this]
    have hne : ((no : Int) != 3) = true := by simp; omega
    have F := hide hf
    clear hf h3
    go_wp2_with fail
    go_ret
    exact ⟨congrArg (fun q => Ending.returned (.bool q)) F.out.symm, b2⟩
end Go.Proofs.YtcfkemchekmjbaaGreatDoor

namespace Go.Proofs.YtcfkemchekmjbaaGreatDoor
open Go.RowKit
def idxV (xs : List Int) (x : Int) : Int := match xs.idxOf? x with | some i => (i : Int) | none => -1
set_option maxHeartbeats 2000000 in
theorem IndexInt_c {u : Value} {n : Nat} {xs : List Int} {x : Int} {w : World} (hu : SI w u n xs) :
    Calls Tryz.prog 114 #[u, .int .i64 x] w fun e w' => e = .returned (.int .i64 (idxV xs x)) ∧ w = w' := by
  obtain ⟨A, c, rfl, _, hn, ha⟩ := hu
  have hl := hide ha.len
  go_enter Tryz.func114, Tryz.ntmps114
  go_wp2_with fail
  go_loopw [8] (fun i wr => ∃ k : Nat, k ≤ n ∧ i = .int .i64 k ∧ x ∉ xs.take k ∧ w = wr) (fun i _ => n - (intOf i).toNat)
  case atStart => exact ⟨0, Nat.zero_le _, rfl, by simp, rfl⟩
  case round =>
    obtain ⟨k, hk, rfl, hno, rfl⟩ := hrel
    have HNO := hide hno; clear hno
    by_cases hlt : k < n
    · obtain ⟨b2, o2, x', rfl, hb2, hx', q0⟩ := ha.at_ hlt
      have k0 : (0 : Int) ≤ k := by omega
      have k1 : (k : Int) < n := by omega
      have HX := hide hx'
      clear hx'
      by_cases he : x = x'
      · have hb : (x == x') = true := by simpa using he
        have hf : xs.idxOf? x = some k := by
          obtain ⟨h1, h2⟩ := List.getElem?_eq_some_iff.1 HX.out
          unfold List.idxOf?
          rw [List.findIdx?_eq_some_iff_getElem]
          refine ⟨h1, by simp [h2, he], fun j hj => ?_⟩
          have : x ≠ xs[j]'(by omega) := fun e => HNO.out (by rw [List.mem_take_iff_getElem]; exact ⟨j, by omega, e.symm⟩)
          simpa using fun e => this e.symm
        have hv : idxV xs x = (k : Int) := by unfold idxV; rw [hf]
        have F := hide hv
        clear hf he hv
        go_wp2_with fail
        go_ret
        exact ⟨congrArg (fun q => Ending.returned (.int .i64 q)) F.out.symm, rfl⟩
      · have hb : (x == x') = false := by simpa using he
        have hno2 : x ∉ xs.take (k + 1) := by
          rw [List.take_add_one, HX.out]
          intro hm
          rcases List.mem_append.1 hm with hm | hm
          · exact HNO.out hm
          · simp at hm; exact he hm
        have HN2 := hide hno2
        clear hno2 he
        go_wp2_with fail
        go_roundw
        case rel => exact ⟨k + 1, by omega, by go_num, HN2.out, trivial⟩
        case measure => simp [intOf]; omega
    · obtain rfl : k = n := by omega
      have hf : xs.idxOf? x = none := by
        unfold List.idxOf?
        rw [List.findIdx?_eq_none_iff]
        intro y hy
        have := HNO.out
        rw [← hl.out, List.take_length] at this
        simpa using fun e => this (by rw [← e]; exact hy)
      have hv : idxV xs x = -1 := by unfold idxV; rw [hf]
      have F := hide hv; clear hf hv
      go_wp2_with fail
      go_ret
      exact ⟨congrArg (fun q => Ending.returned (.int .i64 q)) F.out.symm, rfl⟩
theorem idxOf_mem {xs : List Int} {x : Int} : (xs.idxOf? x).isSome = decide (x ∈ xs) := by
  unfold List.idxOf?
  rw [Bool.eq_iff_iff, List.findIdx?_isSome, List.any_eq_true, decide_eq_true_eq]
  constructor
  · rintro ⟨y, hy, e⟩
    have : y = x := by simpa using e
    rw [← this]; exact hy
  · intro h; exact ⟨x, h, by simp⟩
set_option maxHeartbeats 2000000 in
theorem ContainsInt_c {u : Value} {n : Nat} {xs : List Int} {x : Int} {w : World} (hu : SI w u n xs) :
    Calls Tryz.prog 60 #[u, .int .i64 x] w fun e w' => e = .returned (.bool (decide (x ∈ xs))) ∧ w = w' := by
  obtain ⟨A, c, rfl⟩ := hu.shape
  go_enter Tryz.func60, Tryz.ntmps60
  go_wp2_with fail
  refine (IndexInt_c hu).mono ?_
  rintro e w2 ⟨rfl, rfl⟩
  cases hi : xs.idxOf? x with
  | none =>
    have hf : decide (x ∈ xs) = false := by rw [← idxOf_mem, hi]; rfl
    have hv : idxV xs x = -1 := by unfold idxV; rw [hi]
    rw [hv]
    have F := hide hf; clear hf hi hv
    go_wp2_with fail
    go_ret
    exact ⟨congrArg (fun q => Ending.returned (.bool q)) F.out.symm, rfl⟩
  | some i =>
    have hf : decide (x ∈ xs) = true := by rw [← idxOf_mem, hi]; rfl
    have hv : idxV xs x = (i : Int) := by unfold idxV; rw [hi]
    rw [hv]
    have F := hide hf; clear hf hi hv
    have i0 : (0 : Int) ≤ i := by omega
    go_wp2_with fail
    go_ret
    exact ⟨congrArg (fun q => Ending.returned (.bool q)) F.out.symm, rfl⟩
set_option maxRecDepth 100000 in
set_option maxHeartbeats 8000000 in
theorem reach_c {a b c d e f : Nat} {R : Nat → Nat → Prop} {w : World} (hm : MatOf [a, b, c, d, e, f] R) :
    Calls Tryz.prog 159 #[.agg #[.int .u64 a, .int .u64 b, .int .u64 c, .int .u64 d, .int .u64 e, .int .u64 f]] w fun en w' => ∃ a' b' c' d' e' f' : Nat, en = .returned (.agg #[.int .u64 a', .int .u64 b', .int .u64 c', .int .u64 d', .int .u64 e', .int .u64 f']) ∧ MatOf [a', b', c', d', e', f'] (WK R 6) ∧ Below w.heap.size w w' := by
  obtain ⟨W, hW⟩ : ∃ q, (w.alloc (.cells #[.int .u64 a, .int .u64 b, .int .u64 c, .int .u64 d, .int .u64 e, .int .u64 f] 184)).alloc (.cells #[.int .u64 0, .int .u64 0, .int .u64 0, .int .u64 0, .int .u64 0, .int .u64 0] 184) = q := ⟨_, rfl⟩
  have k1 : Blk W w.heap.size 184 (matV [a, b, c, d, e, f]) := by rw [← hW]; exact (Blk.new w _ _).alloc _
  have k2 : Blk W (w.heap.size + 1) 184 #[.int .u64 0, .int .u64 0, .int .u64 0, .int .u64 0, .int .u64 0, .int .u64 0] := by
    rw [← hW]; have := Blk.new (w.alloc (.cells #[.int .u64 a, .int .u64 b, .int .u64 c, .int .u64 d, .int .u64 e, .int .u64 f] 184)) 184 #[.int .u64 0, .int .u64 0, .int .u64 0, .int .u64 0, .int .u64 0, .int .u64 0]
    rw [World.size_alloc] at this; exact this
  have bW : Below w.heap.size w W := by rw [← hW]; exact ((Below.refl _ _).alloc (Nat.le_refl _) _).alloc (by simp) _
  have K1 := hide k1; have K2 := hide k2; have BW := hide bW; have HM := hide hm; have HW := hide hW
  clear k1 k2 bW hm hW
  go_enter Tryz.func159, Tryz.ntmps159
  go_wp2_with fail
  rw [HW.out]
  go_loopw [5] (fun i wr => ∃ (k : Nat) (ms : List Nat), k ≤ 6 ∧ i = .int .i64 k ∧ Blk wr w.heap.size 184 (matV ms) ∧ MatOf ms (WK R k) ∧ Blk wr (w.heap.size + 1) 184 #[.int .u64 0, .int .u64 0, .int .u64 0, .int .u64 0, .int .u64 0, .int .u64 0] ∧ Below w.heap.size w wr) (fun i _ => 6 - (intOf i).toNat)
  case atStart => exact ⟨0, _, Nat.zero_le _, rfl, K1.out, HM.out, K2.out, BW.out⟩
  case round =>
    clear K1 K2 BW HM
    obtain ⟨k, ms, hk, rfl, k1, hm, k2, bw⟩ := hrel
    have K1 := hide k1; have K2 := hide k2; have BW := hide bw; have HM := hide hm
    by_cases hlt : k < 6
    · have kk0 : (0 : Int) ≤ k := by omega
      have kk1 : (k : Int) < 6 := by omega
      have kk2 : (k : Int) < 64 := by omega
      clear k1 k2 bw hm
      go_wp2_with fail
      go_loopw [8] (fun i wr => ∃ (j : Nat) (ms : List Nat), j ≤ 6 ∧ i = .int .i64 j ∧ Blk wr w.heap.size 184 (matV ms) ∧ MatOf ms (WM R k j) ∧ Blk wr (w.heap.size + 1) 184 #[.int .u64 0, .int .u64 0, .int .u64 0, .int .u64 0, .int .u64 0, .int .u64 0] ∧ Below w.heap.size w wr) (fun i _ => 6 - (intOf i).toNat)
      case atStart => exact ⟨0, ms, Nat.zero_le _, rfl, K1.out, HM.out.start, K2.out, BW.out⟩
      case round =>
        clear K1 K2 BW HM
        rename World => wr2
        obtain ⟨j, ms, hj, rfl, k1, hm, k2, bw⟩ := hrel
        have K1 := hide k1; have K2 := hide k2; have BW := hide bw; have HM := hide hm
        by_cases hlt2 : j < 6
        · have j0 : (0 : Int) ≤ j := by omega
          have j1 : (j : Int) < 6 := by omega
          obtain ⟨gj, hgj⟩ : ∃ g, ms.getD j 0 = g := ⟨_, rfl⟩
          obtain ⟨gk, hgk⟩ : ∃ g, ms.getD k 0 = g := ⟨_, rfl⟩
          have cj : wr2.cell? ⟨w.heap.size, j, none⟩ = some (.int .u64 (gj : Int)) := by rw [← hgj]; exact (k1.cell j).trans (matV_get (hm.get hlt2))
          have ck : wr2.cell? ⟨w.heap.size, k, none⟩ = some (.int .u64 (gk : Int)) := by rw [← hgk]; exact (k1.cell k).trans (matV_get (hm.get hlt))
          have fj := k1.frozen j
          have lj : gj < 64 := by rw [← hgj]; exact hm.lt j
          have lk : gk < 64 := by rw [← hgk]; exact hm.lt k
          have hbit := bit_and (m := k) lj
          have hor := bit_or lj lk
          have HGJ := hide hgj; have HGK := hide hgk
          clear k1 k2 bw hm hgj hgk
          cases ht : gj.testBit k
          · rw [ht] at hbit
            have HM2 := hide (HM.out.miss hlt hlt2 (by rw [HGJ.out]; exact ht))
            clear ht hor
            go_wp2_with fail
            go_roundw
            case rel => exact ⟨j + 1, ms, by omega, by go_num, K1.out, HM2.out, K2.out, BW.out⟩
            case measure => simp [intOf]; omega
          · rw [ht] at hbit
            have hm2 := HM.out.hit hlt hlt2 (by rw [HGJ.out]; exact ht)
            rw [HGJ.out, HGK.out] at hm2
            have HM2 := hide hm2
            have kz := K1.out.set_ j (.int .u64 ((gj ||| gk : Nat) : Int))
            rw [matV_set] at kz
            have KZ := hide kz
            have K2Z := hide (K2.out.far (p := ⟨w.heap.size, j, none⟩) (by show w.heap.size + 1 ≠ w.heap.size; omega) (.int .u64 ((gj ||| gk : Nat) : Int)))
            have BZ := hide (BW.out.setCell (p := ⟨w.heap.size, j, none⟩) (Nat.le_refl _) (.int .u64 ((gj ||| gk : Nat) : Int)))
            clear ht hm2 kz
            go_wp2_with fail
            go_region
            go_wp2_with fail
            go_roundw
            case rel => exact ⟨j + 1, _, by omega, by go_num, KZ.out.drew, HM2.out, K2Z.out.drew, BZ.out.drew⟩
            case measure => simp [intOf]; omega
        · obtain rfl : j = 6 := by omega
          have HM2 := hide HM.out.end_
          clear k1 k2 bw hm
          go_wp2_with fail
          go_roundw
          case rel => exact ⟨k + 1, ms, by omega, by go_num, K1.out, HM2.out, K2.out, BW.out⟩
          case measure => simp [intOf]; omega
    · obtain rfl : k = 6 := by omega
      obtain ⟨a', b', c', d', e', f', rfl⟩ := six_of hm.1
      have c0 := k1.cell 0; have c1 := k1.cell 1; have c2 := k1.cell 2; have c3 := k1.cell 3; have c4 := k1.cell 4; have c5 := k1.cell 5
      have d0 := k2.cell 0; have d1 := k2.cell 1; have d2 := k2.cell 2; have d3 := k2.cell 3; have d4 := k2.cell 4; have d5 := k2.cell 5
      have f0 := k2.frozen 0; have f1 := k2.frozen 1; have f2 := k2.frozen 2; have f3 := k2.frozen 3; have f4 := k2.frozen 4; have f5 := k2.frozen 5
      simp only [matV, List.map_cons, List.map_nil, List.getElem?_toArray, List.getElem?_cons_zero, List.getElem?_cons_succ] at c0 c1 c2 c3 c4 c5
      clear k1 k2 bw hm
      go_wp2_with fail
      obtain ⟨W6, hW6⟩ : ∃ q, ((((((wr.setCell ⟨w.heap.size + 1, 0, none⟩ (.int .u64 (a' : Int))).setCell ⟨w.heap.size + 1, 1, none⟩ (.int .u64 (b' : Int))).setCell ⟨w.heap.size + 1, 2, none⟩ (.int .u64 (c' : Int))).setCell ⟨w.heap.size + 1, 3, none⟩ (.int .u64 (d' : Int))).setCell ⟨w.heap.size + 1, 4, none⟩ (.int .u64 (e' : Int))).setCell ⟨w.heap.size + 1, 5, none⟩ (.int .u64 (f' : Int))) = q := ⟨_, rfl⟩
      rw [hW6]
      have kk : Blk W6 (w.heap.size + 1) 184 #[.int .u64 (a' : Int), .int .u64 (b' : Int), .int .u64 (c' : Int), .int .u64 (d' : Int), .int .u64 (e' : Int), .int .u64 (f' : Int)] := by
        rw [← hW6]; exact (((((K2.out.set_ 0 _).set_ 1 _).set_ 2 _).set_ 3 _).set_ 4 _).set_ 5 _
      have B6 : Below w.heap.size w W6 := by
        rw [← hW6]
        have hz : w.heap.size ≤ w.heap.size + 1 := by omega
        exact (((((BW.out.setCell (p := ⟨w.heap.size + 1, 0, none⟩) hz _).setCell (p := ⟨w.heap.size + 1, 1, none⟩) hz _).setCell (p := ⟨w.heap.size + 1, 2, none⟩) hz _).setCell (p := ⟨w.heap.size + 1, 3, none⟩) hz _).setCell (p := ⟨w.heap.size + 1, 4, none⟩) hz _).setCell (p := ⟨w.heap.size + 1, 5, none⟩) hz _
      have g0 := kk.cell 0; have g1 := kk.cell 1; have g2 := kk.cell 2; have g3 := kk.cell 3; have g4 := kk.cell 4; have g5 := kk.cell 5
      clear c0 c1 c2 c3 c4 c5 d0 d1 d2 d3 d4 d5 f0 f1 f2 f3 f4 f5 hW6
      refine bodyPost_ret (v := .agg #[.int .u64 (a' : Int), .int .u64 (b' : Int), .int .u64 (c' : Int), .int .u64 (d' : Int), .int .u64 (e' : Int), .int .u64 (f' : Int)]) (by simp [results, Tryz.results159, go_sem]; go_simp) rfl ?_
      exact ⟨a', b', c', d', e', f', rfl, HM.out, B6⟩
end Go.Proofs.YtcfkemchekmjbaaGreatDoor
