/- Merged (what the law reaches): Srt, Draw, Draw2, Draw3, DrawB, DrawH1, First. -/
import Derived.Test.YtcfkemchekmjbaaGreatDoorVy
import Derived.Laws.BitsAllLaws
import Derived.Laws.Bits64
import Derived.BigQuiet
import Derived.Deep.RegionHeld3
import Derived.Deep.DeepCutAuto
import Derived.Laws.Concat
namespace Go.Proofs.YtcfkemchekmjbaaGreatDoor
open Go.RowKit Go.Shelf Go.Sort Go.Maps
def srt (xs : List Int) : List Int := xs.mergeSort fun x y => decide (x ≤ y)
section
variable {bx : Nat} {A : Option Addr} {m c : Nat} {xs : List Int} {w : World}
theorem AppendSeq_c (hbx : bx < w.heap.size) (hx : w.cell? ⟨bx, 0, none⟩ = some (.slice A m c)) (hr : RI w A m xs) (hm : m ≤ 1048576) :
    Calls Tryz.prog 186 #[.slice none 0 0, .func (.func 155) #[] #[.pointer (some ⟨bx, 0, none⟩)]] w fun e w' => ∃ v, e = .returned v ∧ w'.ownsRow w.heap.size 3 1 v xs.length (xs.map (Value.int .i64)) ∧ (v = .slice none 0 0 ↔ xs = []) ∧ Below w.heap.size w w' :=
  callsIn_wide.1 (appendSeq1 5 (by omega) bx hbx hx hr hm)
set_option maxHeartbeats 1000000 in
theorem Collect_c (hbx : bx < w.heap.size) (hx : w.cell? ⟨bx, 0, none⟩ = some (.slice A m c)) (hr : RI w A m xs) (hm : m ≤ 1048576) :
    Calls Tryz.prog 153 #[.func (.func 155) #[] #[.pointer (some ⟨bx, 0, none⟩)]] w fun e w' => ∃ v, e = .returned v ∧ w'.ownsRow w.heap.size 3 1 v xs.length (xs.map (Value.int .i64)) ∧ (v = .slice none 0 0 ↔ xs = []) ∧ Below w.heap.size w w' := by
  go_enter Tryz.func153, Tryz.ntmps153
  go_wp2_with fail
  refine (AppendSeq_c hbx hx hr hm).mono ?_
  rintro e w2 ⟨v, rfl, h1, h2, h3⟩
  go_wp2_with fail
  go_ret
  exact ⟨v, rfl, h1, h2, h3⟩
set_option maxRecDepth 100000 in
set_option maxHeartbeats 2000000 in
theorem Sorted_c (hbx : bx < w.heap.size) (hx : w.cell? ⟨bx, 0, none⟩ = some (.slice A m c)) (hr : RI w A m xs) (hm : m ≤ 1048576) :
    Calls Tryz.prog 106 #[.func (.func 155) #[] #[.pointer (some ⟨bx, 0, none⟩)]] w fun e w' => ∃ v, e = .returned v ∧ OI w' w.heap.size v xs.length (srt xs) ∧ Below w.heap.size w w' := by
  have hl := hide hr.len
  have hcl := Collect_c hbx hx hr hm
  clear hx hr
  go_enter Tryz.func106, Tryz.ntmps106
  go_wp2_with fail
  refine hcl.mono ?_
  rintro e W ⟨v, rfl, hrow, hnil, hb⟩
  rcases hrow.2 with ⟨rfl, hz⟩ | ⟨gb, cap, cur, rfl, hbase, hgb, r1, r2, r3, r4⟩
  · have hxs : xs = [] := List.eq_nil_of_length_eq_zero hz
    subst hxs
    go_wp2_with fail
    refine (slices_Sort_int_none none 0 W).mono ?_
    rintro e w' ⟨rfl, rfl⟩
    go_wp2_with fail
    go_ret
    exact ⟨.slice none 0 0, rfl, by rw [show srt [] = [] by simp [srt]]; exact OI.nil, hb⟩
  · have hH : Holds (Value.int .i64) W gb 0 xs.toArray := holds_of_block_i hgb (by simpa using r4)
    have hgl : gb < W.heap.size := (Array.getElem?_eq_some_iff.1 hgb).1
    have hsz : xs.length < 4611686018427387904 := by have := hl.out; omega
    have cS := slices_Sort_int gb 0 cap xs W hH hgl hsz
    have hlen : (srt xs).length = xs.length := by unfold srt; rw [List.length_mergeSort]
    have HN := hide hnil; have HROW := hide hrow
    clear hnil hrow hH hcl r4
    go_wp2_with fail
    refine cS.mono ?_
    rintro e w' ⟨rfl, nn, os, rfl⟩
    go_wp2_with fail
    go_ret
    refine ⟨.slice (some ⟨gb, 0, none⟩) xs.length cap, rfl, ⟨?_, by have := hl.out; omega⟩, hb.grown (grownBy_sorted_i _) hb.size (fun j hj => by cases hj; exact hbase)⟩
    exact ownsRow_sorted_i (by simp) hbase hgb r1 r2 r3
end
set_option maxHeartbeats 1000000 in
theorem Values_c {u : Value} {w : World} (hu : ∃ A n c, u = .slice A n c) : Calls Tryz.prog 107 #[u] w fun e w' => e = .returned (.func (.func 155) #[] #[.pointer (some ⟨w.heap.size, 0, none⟩)]) ∧ w' = w.alloc (.cells #[u] 24) := by
  obtain ⟨A, n, c, rfl⟩ := hu
  go_enter Tryz.func107, Tryz.ntmps107
  go_wp2_with fail
  go_ret
  exact ⟨rfl, rfl⟩
set_option maxHeartbeats 2000000 in
theorem EqualInt_c {u v : Value} {n m : Nat} {xs ys : List Int} {w : World} (hu : SI w u n xs) (hv : SI w v m ys) :
    Calls Tryz.prog 109 #[u, v] w fun e w' => e = .returned (.bool (decide (xs = ys))) ∧ Below w.heap.size w w' := by
  obtain ⟨A, c, rfl, _, hn, ha⟩ := hu
  obtain ⟨B, d, rfl, _, hm, hb⟩ := hv
  have hla := hide ha.len
  have hlb := hide hb.len
  by_cases hnm : n = m
  · subst hnm
    go_enter Tryz.func109, Tryz.ntmps109
    go_wp2_with fail
    go_loopw [13] (fun i wr => ∃ k : Nat, k ≤ n ∧ i = .int .i64 k ∧ xs.take k = ys.take k ∧ Below w.heap.size w wr) (fun i _ => n - (intOf i).toNat)
    case atStart => exact ⟨0, Nat.zero_le _, rfl, rfl, Below.refl _ _⟩
    case round =>
      obtain ⟨k, hk, rfl, heq, hbel⟩ := hrel
      have HE := hide heq; clear heq
      by_cases hlt : k < n
      · obtain ⟨b1, o1, x, rfl, hb1, hx, hc1⟩ := ha.at_ hlt
        obtain ⟨b2, o2, y, rfl, hb2, hy, hc2⟩ := hb.at_ hlt
        have c1 := (hbel.cell (p := ⟨b1, o1 + k, none⟩) hb1).trans hc1
        have c2 := (hbel.cell (p := ⟨b2, o2 + k, none⟩) hb2).trans hc2
        have HX := hide hx; have HY := hide hy
        have k0 : (0 : Int) ≤ k := by omega
        have k1 : (k : Int) < n := by omega
        clear hx hy hc1 hc2
        by_cases hxy : x = y
        · have hne : (x != y) = false := by simpa using hxy
          have hs := hide (take_snoc_eq xs ys k x HE.out HX.out (by rw [HY.out, hxy]))
          clear hxy
          go_wp2_with fail
          go_region
          go_wp2_with fail
          go_roundw
          case rel => exact ⟨k + 1, by omega, by go_num, hs.out, hbel.drew⟩
          case measure => simp [intOf]; omega
        · have hne : (x != y) = true := by simpa using hxy
          have hf : decide (xs = ys) = false := decide_eq_false (by
            rintro rfl
            have := HX.out.symm.trans HY.out
            injection this with this; exact hxy this)
          have F := hide hf
          clear hf hxy
          go_wp2_with fail
          go_region
          go_wp2_with fail
          go_ret
          exact ⟨congrArg (fun q => Ending.returned (.bool q)) F.out.symm, hbel.drew⟩
      · obtain rfl : k = n := by omega
        have hf : decide (xs = ys) = true := decide_eq_true (by
          have := HE.out
          rwa [List.take_of_length_le (by rw [hla.out]; exact Nat.le_refl _), List.take_of_length_le (by rw [hlb.out]; exact Nat.le_refl _)] at this)
        have F := hide hf
        clear hf
        go_wp2_with fail
        go_ret
        exact ⟨congrArg (fun q => Ending.returned (.bool q)) F.out.symm, hbel⟩
  · have hne : ((n : Int) != (m : Int)) = true := by simp; omega
    have hf : decide (xs = ys) = false := decide_eq_false (by rintro rfl; exact hnm (hla.out.symm.trans hlb.out))
    have F := hide hf
    clear hf
    go_enter Tryz.func109, Tryz.ntmps109
    go_wp2_with fail
    go_ret
    exact ⟨congrArg (fun q => Ending.returned (.bool q)) F.out.symm, Below.refl _ _⟩
theorem srt_eq_iff {xs ys : List Int} : srt xs = srt ys ↔ xs.Perm ys := by
  constructor
  · intro h
    have h1 : (srt xs).Perm xs := List.mergeSort_perm xs _
    have h2 : (srt ys).Perm ys := List.mergeSort_perm ys _
    rw [h] at h1
    exact h1.symm.trans h2
  · intro h
    exact mergeSort_of_perm_i h
set_option maxRecDepth 100000 in
set_option maxHeartbeats 16000000 in
theorem impl_OrdersValid_c {A Ao : Option Addr} {n c no co : Nat} {ts : List Tx} {os : Ls} {w : World} (hr : RTs w A n ts) (hh : histB ts = true) (ho : RL w Ao no os) (hno : no ≤ co) :
    Calls Tryz.prog 55 #[.slice A n c, .slice Ao no co] w fun e w' => e = .returned (.bool (ordersB ts os)) ∧ Below w.heap.size w w' := by
  obtain ⟨h6, hv, hnd⟩ := histB_parts hh
  have hl := hide hr.1
  have hol := hide ho.1
  have HH := hide hh
  have hn6 : n ≤ 6 := by rw [← hl.out]; exact h6
  have hsm : SmallT ts := fun t ht => by have h : t.2.1.length ≤ 6 := txnB_lenH (hv t ht); omega
  clear hv hnd h6 hh
  go_enter Tryz.func55, Tryz.ntmps55
  go_wp2_with fail
  refine (impl_HistoryValid_c hr (by omega) hsm).mono ?_
  rintro e w2 ⟨rfl, b2⟩
  rw [HH.out]
  by_cases h3 : no = 3
  · subst h3
    go_wp2_with fail
    go_loopw [19] (fun i W => ∃ k : Nat, i = .int .i64 k ∧ k ≤ 3 ∧ (∀ q : Nat, q < k → (os.getD q []).Perm (inst ts (q : Int))) ∧ Below w.heap.size w W) (fun i _ => 3 - (intOf i).toNat)
    case atStart => exact ⟨0, rfl, Nat.zero_le _, fun q hq => by omega, b2⟩
    case round =>
      clear b2
      rename World => wr
      obtain ⟨k, rfl, hk, hp, bw⟩ := hrel
      have HP := hide hp; clear hp
      by_cases hlt : k < 3
      · obtain ⟨b, off, xs, B, kk, d, rfl, hbb, hx, q0, hkd, hkm, hri⟩ := ho.at_ hlt
        have e0 := (bw.cell (p := ⟨b, off + k, none⟩) hbb).trans q0
        have hgx : os.getD k [] = xs := by simp [List.getD, hx]
        have HGX := hide hgx
        have k0 : (0 : Int) ≤ k := by omega
        have k1 : (k : Int) < 3 := by omega
        have hriw := hri.below bw
        have b3 := bw.alloc bw.size (.cells #[.slice B kk d] 24)
        have B3 := hide b3
        have hri3 := hriw.below ((Below.refl wr.heap.size wr).alloc (Nat.le_refl _) (.cells #[.slice B kk d] 24))
        have c3 : (wr.alloc (.cells #[.slice B kk d] 24)).cell? ⟨wr.heap.size, 0, none⟩ = some (.slice B kk d) := (Blk.new wr _ _).cell 0
        clear hx q0 hgx hriw b3
        go_wp2_with fail
        refine (Values_c ⟨B, kk, d, rfl⟩).mono ?_
        rintro e w3 ⟨rfl, rfl⟩
        go_wp2_with fail
        refine (Sorted_c (by simp) c3 hri3 hkm).mono ?_
        rintro e w4 ⟨v4, rfl, o4, b4⟩
        have B4 := hide (below_step B3.out b4)
        have o4 := hide (o4.mono (B' := w.heap.size) B3.out.size)
        clear c3 hri3 b4 e0
        go_wp2_with fail
        refine (impl_Installed_c (hr.below B4.out) HH.out hlt).mono ?_
        rintro e w5 ⟨v5, k5, rfl, o5, b5⟩
        have B5 := hide (below_step B4.out b5)
        have o45 := hide (o4.out.below b5)
        obtain ⟨A5, c5, hv5, _, hm5, hri5⟩ := o5.si
        subst hv5
        have hri6 := hri5.below ((Below.refl w5.heap.size w5).alloc (Nat.le_refl _) (.cells #[.slice A5 k5 c5] 24))
        have c6 : (w5.alloc (.cells #[.slice A5 k5 c5] 24)).cell? ⟨w5.heap.size, 0, none⟩ = some (.slice A5 k5 c5) := (Blk.new w5 _ _).cell 0
        have B6 := hide (B5.out.alloc B5.out.size (.cells #[.slice A5 k5 c5] 24))
        have o46 := hide (o45.out.alloc (.cells #[.slice A5 k5 c5] 24))
        clear o5 b5 hri5
        go_wp2_with fail
        refine (Values_c ⟨A5, k5, c5, rfl⟩).mono ?_
        rintro e w6 ⟨rfl, rfl⟩
        go_wp2_with fail
        refine (Sorted_c (by simp) c6 hri6 hm5).mono ?_
        rintro e w7 ⟨v7, rfl, o7, b7⟩
        have B7 := hide (below_step B6.out b7)
        have s47 := hide (o46.out.below b7).si
        have s7 := hide o7.si
        clear c6 hri6 b7 o7
        obtain ⟨A4, c4, rfl⟩ := s47.out.shape
        obtain ⟨A7, c7, rfl⟩ := s7.out.shape
        go_wp2_with fail
        refine (EqualInt_c s47.out s7.out).mono ?_
        rintro e w8 ⟨rfl, b8⟩
        have B8 := hide (below_step B7.out b8)
        clear b8
        by_cases hpm : xs.Perm (inst ts (k : Int))
        · rw [decide_eq_true (srt_eq_iff.2 hpm)]
          have HP2 := hide (show ∀ q : Nat, q < k + 1 → (os.getD q []).Perm (inst ts (q : Int)) from fun q hq => by
            by_cases e : q = k
            · subst e; rw [HGX.out]; exact hpm
            · exact HP.out q (by omega))
          clear hpm
          go_wp2_with fail
          go_roundw
          case rel => exact ⟨k + 1, by go_num, by omega, HP2.out, B8.out⟩
          case measure => simp [intOf]; omega
        · rw [decide_eq_false (fun h => hpm (srt_eq_iff.1 h))]
          have hf : ordersB ts os = false := ordersB_no hlt (by rw [HGX.out]; exact hpm)
          have F := hide hf
          clear hf hpm
          go_wp2_with fail
          go_ret
          exact ⟨congrArg (fun q => Ending.returned (.bool q)) F.out.symm, B8.out⟩
      · obtain rfl : k = 3 := by omega
        have hf : ordersB ts os = true := ordersB_mk HH.out hol.out HP.out
        have F := hide hf
        clear hf
        go_wp2_with fail
        go_ret
        exact ⟨congrArg (fun q => Ending.returned (.bool q)) F.out.symm, bw⟩
  · have hf : ordersB ts os = false := by
      unfold ordersB
      have : ¬ os.length = 3 := by rw [hol.out]; exact h3
      simp [this]
    have hne : ((no : Int) != 3) = true := by simp; omega
    have F := hide hf
    clear hf h3
    go_wp2_with fail
    go_ret
    exact ⟨congrArg (fun q => Ending.returned (.bool q)) F.out.symm, b2⟩
end Go.Proofs.YtcfkemchekmjbaaGreatDoor

namespace Go.Proofs.YtcfkemchekmjbaaGreatDoor
open Go.RowKit
theorem beB0 (w : World) (o : Obj) : Below w.heap.size w (w.alloc o) := (Below.refl _ _).alloc (Nat.le_refl _) o
theorem Blk.three' {w : World} {g : Nat} {t : TypeId} {a b c : Value} (h : Blk w g t #[a, b, c]) :
    w.cell? ⟨g, 0, none⟩ = some a ∧ w.cell? ⟨g, 1, none⟩ = some b ∧ w.cell? ⟨g, 2, none⟩ = some c := ⟨h.cell 0, h.cell 1, h.cell 2⟩
end Go.Proofs.YtcfkemchekmjbaaGreatDoor

namespace Go.Proofs.YtcfkemchekmjbaaGreatDoor
open Go.RowKit
/-- The bytes of a code: n of them at A, below block g. -/
def BY (w : World) (g : Nat) (A : Option Addr) (n : Nat) : Prop :=
  ∀ k, k < n → ∃ (b off : Nat) (x : Int), A = some ⟨b, off, none⟩ ∧ b < g ∧ w.cell? ⟨b, off + k, none⟩ = some (.int .u8 x) ∧ 0 ≤ x ∧ x ≤ 255
theorem BY.kept {w w' : World} {g : Nat} {A : Option Addr} {n : Nat} (h : BY w g A n) (hk : ∀ b, b < g → w'.heap[b]? = w.heap[b]?) : BY w' g A n := fun k hk' => by
  obtain ⟨b, off, x, e, hb, hc, h0, h1⟩ := h k hk'
  exact ⟨b, off, x, e, hb, (World.cell?_of_block (hk b hb)).trans hc, h0, h1⟩
/-- The reader lies in block g; it was asked at most P times. -/
def RD (w : World) (g P : Nat) : Prop := ∃ (A : Option Addr) (n c p : Nat), Blk w g 174 #[.slice A n c, .int .i64 p] ∧ p ≤ P ∧ n ≤ 2000 ∧ n ≤ c ∧ BY w g A n
theorem RD.lt {w : World} {g P : Nat} (h : RD w g P) : g < w.heap.size := by obtain ⟨A, n, c, p, hb, _⟩ := h; exact hb.lt
theorem RD.mono {w : World} {g P Q : Nat} (h : RD w g P) (hq : P ≤ Q) : RD w g Q := by obtain ⟨A, n, c, p, h1, h2, h3⟩ := h; exact ⟨A, n, c, p, h1, by omega, h3⟩
theorem RD.below {w w' : World} {g P : Nat} (h : RD w g P) (hb : Below w.heap.size w w') : RD w' g P := by
  have hlt := h.lt
  obtain ⟨A, n, c, p, h1, h2, h3, h4, h5⟩ := h
  exact ⟨A, n, c, p, h1.belowAll hb, h2, h3, h4, h5.kept fun b hbg => hb.block b (by omega)⟩
theorem RD.grown {w w' : World} {g P : Nat} {row : Option Nat} (h : RD w g P) (hg : w.grownBy w' row) (hr : ∀ k, row = some k → g < k) : RD w' g P := by
  have hlt := h.lt
  obtain ⟨A, n, c, p, h1, h2, h3, h4, h5⟩ := h
  have hne : ∀ b, b ≤ g → w'.heap[b]? = w.heap[b]? := fun b hb => hg.block b (by omega) (fun e => by have := hr b e.symm; omega)
  exact ⟨A, n, c, p, (hne g (Nat.le_refl _)).trans h1, h2, h3, h4, h5.kept fun b hb => hne b (by omega)⟩
theorem RD.alloc {w : World} {g P : Nat} (h : RD w g P) (o : Obj) : RD (w.alloc o) g P := h.below (beB0 _ _)
end Go.Proofs.YtcfkemchekmjbaaGreatDoor

namespace Go.Proofs.YtcfkemchekmjbaaGreatDoor
open Go.RowKit
theorem RD.own {b c : World} {g P B : Nat} {v : Value} {n : Nat} {xs : List Int} (r : RD b g P) (o : OI b B v n xs) (hB : g < B) (k : b.grownBy c v.ownBlock) : RD c g P :=
  r.grown k fun i hi => by have := (World.ownsRow.lt o.1 i hi).1; omega
end Go.Proofs.YtcfkemchekmjbaaGreatDoor

namespace Go.Proofs.YtcfkemchekmjbaaGreatDoor
open Go.RowKit
theorem belowG {w a b : World} {g : Nat} (h : Below w.heap.size w a) (k : a.grownBy b (some g)) (hg : w.heap.size ≤ g) : Below w.heap.size w b :=
  h.grown k h.size (fun i hi => by injection hi with hi; omega)
theorem RD.drew {w : World} {g P : Nat} (h : RD w g P) : RD w.drew g P := h.below (Below.refl _ _).drew
end Go.Proofs.YtcfkemchekmjbaaGreatDoor

namespace Go.Proofs.YtcfkemchekmjbaaGreatDoor
open Go.RowKit
theorem infoTh : (Tryz.prog.info? 66).map (fun i => (i.zero, i.size, i.bytes)) = some (some (.agg #[.int .i64 0, .slice none 0 0, .bool false]), 3, 40) := by kernel_rfl
theorem infoOh : (Tryz.prog.info? 61).map (fun i => (i.zero, i.size, i.bytes)) = some (some (.agg #[.int .i64 0, .int .i64 0, .int .i64 0]), 3, 24) := by kernel_rfl
/-- The operations of a transaction: a row of the call's own, at most 100. -/
def EO (w : World) (lo : Nat) (u : Value) : Prop := ∃ (m : Nat) (ys : List T3), O3 61 w lo u m ys ∧ m ≤ 100
def MT (w : World) (lo : Nat) (cs : List Value) (n : Nat) : Prop := cs.length = n * 3 ∧ ∀ j, j < n → ∃ f u d, cs[j * 3]? = some (.int .i64 f) ∧ cs[j * 3 + 1]? = some u ∧ cs[j * 3 + 2]? = some (.bool d) ∧ EO w lo u
/-- n transactions in a row of the call's own. -/
def TO (w : World) (lo : Nat) (v : Value) (n : Nat) : Prop := ∃ cs, w.ownsRow lo 66 3 v n cs ∧ MT w lo cs n
section
variable {w w' : World} {g lo n : Nat} {v : Value}
theorem own_ne {t t' : TypeId} {s s' B B' k : Nat} {q : Value} {xs ys : List Value} (h : w.ownsRow B t s q k xs) (hv : w.ownsRow B' t' s' v n ys) (ht : t ≠ t') : q.ownBlock = none ∨ q.ownBlock ≠ v.ownBlock := by
  rcases h.2 with ⟨rfl, _⟩ | ⟨g1, cap, cur, rfl, _, hh, _⟩
  · left; rfl
  · right
    rcases hv.2 with ⟨rfl, _⟩ | ⟨g2, cap2, cur2, rfl, _, hh2, _⟩
    · simp [Value.ownBlock]
    · intro he
      have e : g1 = g2 := by have h : some g1 = some g2 := he; injection h
      subst e
      rw [hh] at hh2; injection hh2 with hh2; injection hh2 with _ h2; exact absurd h2 ht
theorem own_neB {t t' : TypeId} {s B k b : Nat} {q : Value} {xs : List Value} {cs : Array Value} (h : w.ownsRow B t s q k xs) (hb : Blk w b t' cs) (ht : t ≠ t') : q.ownBlock = none ∨ q.ownBlock ≠ some b := by
  rcases h.2 with ⟨rfl, _⟩ | ⟨g1, cap, cur, rfl, _, hh, _⟩
  · left; rfl
  · right
    intro he
    have e : g1 = b := by have h : some g1 = some b := he; injection h
    subst e
    unfold Blk at hb; rw [hh] at hb; injection hb with hb; injection hb with _ h2; exact absurd h2 ht
theorem own_bne {t : TypeId} {s B k : Nat} {q : Value} {xs : List Value} (h : w.ownsRow B t s q k xs) (hg : g < B) : q.ownBlock = none ∨ q.ownBlock ≠ some g := by
  cases hv : q.ownBlock with
  | none => exact .inl rfl
  | some k => right; intro e; injection e with e; have := (World.ownsRow.lt h k hv).1; omega
theorem own_bel {t : TypeId} {s B k : Nat} {q : Value} {xs : List Value} (h : w.ownsRow B t s q k xs) (hb : Below w.heap.size w w') : w'.ownsRow B t s q k xs :=
  h.kept (row := none) ⟨hb.os, hb.tape, hb.output, hb.size, fun k hk _ => hb.block k hk⟩ (by cases hv : q.ownBlock <;> simp)
theorem own_low {t : TypeId} {s B B' k : Nat} {q : Value} {xs : List Value} (h : w.ownsRow B t s q k xs) (hB : B' ≤ B) : w.ownsRow B' t s q k xs := by
  refine ⟨h.1, ?_⟩
  rcases h.2 with h2 | ⟨g, cap, cur, hv, hb, r⟩
  · exact .inl h2
  · exact .inr ⟨g, cap, cur, hv, by omega, r⟩
theorem EO.map {u : Value} {lo' : Nat} (h : EO w lo u) (f : ∀ m ys, O3 61 w lo u m ys → O3 61 w' lo' u m ys) : EO w' lo' u := by
  obtain ⟨m, ys, o, hm⟩ := h; exact ⟨m, ys, f m ys o, hm⟩
theorem MT.map {cs : List Value} {lo' : Nat} (h : MT w lo cs n) (f : ∀ u, EO w lo u → EO w' lo' u) : MT w' lo' cs n :=
  ⟨h.1, fun j hj => by obtain ⟨a, u, d, h1, h2, h3, h4⟩ := h.2 j hj; exact ⟨a, u, d, h1, h2, h3, f u h4⟩⟩
theorem EO.kp {u : Value} (h : EO w lo u) (hg : w.grownBy w' (some g)) (hl : g < lo) : EO w' lo u := h.map (fun _ _ o => ⟨o.1.kept hg (own_bne o.1 hl), o.2⟩)
theorem TO.kp (h : TO w lo v n) (hg : w.grownBy w' (some g)) (hl : g < lo) : TO w' lo v n := by
  obtain ⟨cs, h1, h2⟩ := h
  exact ⟨cs, h1.kept hg (own_bne h1 hl), h2.map (fun _ h => h.kp hg hl)⟩
theorem TO.below (h : TO w lo v n) (hb : Below w.heap.size w w') : TO w' lo v n := by
  obtain ⟨cs, h1, h2⟩ := h
  exact ⟨cs, own_bel h1 hb, h2.map (fun _ h => h.map (fun _ _ o => o.below hb))⟩
theorem TO.alloc (h : TO w lo v n) (o : Obj) : TO (w.alloc o) lo v n := h.below (beB0 _ _)
theorem TO.mono {lo' : Nat} (h : TO w lo v n) (hl : lo' ≤ lo) : TO w lo' v n := by
  obtain ⟨cs, h1, h2⟩ := h
  exact ⟨cs, own_low h1 hl, h2.map (fun _ h => h.map (fun _ _ o => o.mono hl))⟩
theorem TO.empty (w : World) : TO (w.alloc (.cells #[] 66)) w.heap.size (.slice (some ⟨w.heap.size, 0, none⟩) 0 0) 0 :=
  ⟨[], ⟨rfl, .inr ⟨w.heap.size, 0, #[], rfl, Nat.le_refl _, Blk.new w _ _, Nat.le_refl _, by simp [maxLen], rfl, rfl⟩⟩, rfl, fun j hj => absurd hj (by omega)⟩
theorem TO.grows {a : World} {row : Option Nat} (h : a.grownBy w row) (o : TO w lo v n) (hB : a.heap.size ≤ lo) (k : w.grownBy w' v.ownBlock) : a.grownBy w' row := by
  obtain ⟨cs, o, _⟩ := o
  exact ⟨k.os.trans h.os, k.tape.trans h.tape, k.output.trans h.output, Nat.le_trans h.size k.size, fun i hi hn => (k.block i (Nat.lt_of_lt_of_le hi h.size) (fun e => by have := (World.ownsRow.lt o i e.symm).1; omega)).trans (h.block i hi hn)⟩
theorem TO.rd {P : Nat} (o : TO w lo v n) (r : RD w g P) (hB : g < lo) (k : w.grownBy w' v.ownBlock) : RD w' g P := by
  obtain ⟨cs, o, _⟩ := o
  exact r.grown k fun i hi => by have := (World.ownsRow.lt o i hi).1; omega
theorem TO.int {q : Value} {k B : Nat} {xs : List Int} (o : TO w lo v n) (h : OI w B q k xs) (hk : w.grownBy w' v.ownBlock) : OI w' B q k xs := by
  obtain ⟨cs, o, _⟩ := o
  exact ⟨h.1.kept hk (own_ne h.1 o (by decide)), h.2⟩
theorem Rd.three' {b : Nat} {t : TypeId} {x y z : Value} (h : Blk w b t #[x, y, z]) : Rd w 3 (some ⟨b, 0, none⟩) 1 [x, y, z] :=
  ⟨rfl, fun _ => ⟨b, 0, rfl, h.lt, fun k u hu => by
    rw [Nat.zero_add, h.cell]
    match k, hu with
    | 0, hu => simpa using hu
    | 1, hu => simpa using hu
    | 2, hu => simpa using hu⟩⟩
theorem MT.snoc {cs : List Value} {f : Int} {u : Value} {d : Bool} (h : MT w lo cs n) (hu : EO w lo u) : MT w lo (cs ++ [.int .i64 f, u, .bool d]) (n + 1) := by
  have hl := h.1
  refine ⟨by simp [hl]; omega, fun j hj => ?_⟩
  by_cases e : j < n
  · obtain ⟨a, x, dd, h1, h2, h3, h4⟩ := h.2 j e
    exact ⟨a, x, dd, by rw [List.getElem?_append_left (by omega)]; exact h1, by rw [List.getElem?_append_left (by omega)]; exact h2, by rw [List.getElem?_append_left (by omega)]; exact h3, h4⟩
  · obtain rfl : j = n := by omega
    exact ⟨f, u, d, by rw [List.getElem?_append_right (by omega), show j * 3 - cs.length = 0 by omega]; rfl, by rw [List.getElem?_append_right (by omega), show j * 3 + 1 - cs.length = 1 by omega]; rfl, by rw [List.getElem?_append_right (by omega), show j * 3 + 2 - cs.length = 2 by omega]; rfl, hu⟩
theorem txs_of : ∀ (n : Nat) (cs : List Value), MT w lo cs n → ∃ ts : List Tx, ts.length = n ∧ (∀ t ∈ ts, t.2.1.length ≤ 100) ∧ ∀ (k : Nat) (t : Tx), ts[k]? = some t → ∃ u, cs[k * 3]? = some (.int .i64 t.1) ∧ cs[k * 3 + 1]? = some u ∧ cs[k * 3 + 2]? = some (.bool t.2.2) ∧ O3 61 w lo u t.2.1.length t.2.1
  | 0, cs, h => ⟨[], rfl, fun t h => by simp at h, fun k t h => by simp at h⟩
  | n + 1, cs, h => by
    have hl := h.1
    obtain ⟨ts, h1, h2, h3⟩ := txs_of n (cs.take (n * 3)) ⟨by rw [List.length_take]; omega, fun j hj => by
      obtain ⟨a, x, dd, e1, e2, e3, e4⟩ := h.2 j (by omega)
      exact ⟨a, x, dd, by rw [List.getElem?_take_of_lt (by omega)]; exact e1, by rw [List.getElem?_take_of_lt (by omega)]; exact e2, by rw [List.getElem?_take_of_lt (by omega)]; exact e3, e4⟩⟩
    obtain ⟨f, u, d, e1, e2, e3, m, ys, o, hm⟩ := h.2 n (by omega)
    have hyl := o.len
    refine ⟨ts ++ [(f, ys, d)], by simp [h1], fun t ht => ?_, fun i t hi => ?_⟩
    · rcases List.mem_append.1 ht with ht | ht
      · exact h2 t ht
      · simp at ht; subst ht; show ys.length ≤ 100; omega
    · by_cases hin : i < n
      · rw [List.getElem?_append_left (by omega)] at hi
        obtain ⟨q', a1, a2, a3, a4⟩ := h3 i t hi
        rw [List.getElem?_take_of_lt (by omega)] at a1 a2 a3
        exact ⟨q', a1, a2, a3, a4⟩
      · have : i = n := by have := (List.getElem?_eq_some_iff.1 hi).1; simp at this; omega
        subst this
        rw [← h1] at hi
        simp at hi; subst hi
        refine ⟨u, e1, e2, e3, ?_⟩
        show O3 61 w lo u ys.length ys
        rw [hyl]; exact o
theorem TO.rts (h : TO w lo v n) : ∃ A c ts, v = .slice A n c ∧ n ≤ c ∧ RTs w A n ts ∧ (∀ t ∈ ts, t.2.1.length ≤ 100) := by
  obtain ⟨cs, h1, h2⟩ := h
  obtain ⟨ts, h3, h4, h5⟩ := txs_of n cs h2
  have hcl := h2.1
  rcases h1.2 with ⟨rfl, h0⟩ | ⟨g, cap, cur, rfl, hB, hg, hc, hcm, hs, ht⟩
  · subst h0
    exact ⟨none, 0, ts, rfl, Nat.le_refl _, ⟨h3, fun h => by omega⟩, h4⟩
  · refine ⟨some ⟨g, 0, none⟩, cap, ts, rfl, hc, ⟨h3, fun hn => ⟨g, 0, rfl, Blk.lt (t := 66) (cs := cur) hg, fun k t hk => ?_⟩⟩, h4⟩
    obtain ⟨u, e1, e2, e3, o⟩ := h5 k t hk
    obtain ⟨B, d, rfl, hmd, hm1, hri⟩ := o.s3
    have hk' : k < n := by have := (List.getElem?_eq_some_iff.1 hk).1; omega
    obtain ⟨_, hdm⟩ : t.2.1.length ≤ d ∧ d ≤ maxLen := by
      rcases o.1.2 with ⟨e, _⟩ | ⟨g', cap', cur', e, _, _, q1, q2, _⟩
      · injection e with _ _ e; subst e; exact ⟨hmd, by simp [maxLen]⟩
      · injection e with _ _ e; subst e; exact ⟨q1, q2⟩
    refine ⟨B, t.2.1.length, d, ?_, ?_, ?_, hmd, hdm, hri⟩
    · rw [Nat.zero_add, World.ownsRow.cellAt h1 (k * 3) (by omega)]; exact e1
    · rw [Nat.zero_add, World.ownsRow.cellAt h1 (k * 3 + 1) (by omega)]; exact e2
    · rw [Nat.zero_add, World.ownsRow.cellAt h1 (k * 3 + 2) (by omega)]; exact e3
end
end Go.Proofs.YtcfkemchekmjbaaGreatDoor

namespace Go.Proofs.YtcfkemchekmjbaaGreatDoor
open Go.RowKit Go.Maps
theorem lawIntF : Keyed Tryz.prog 3 := int_keyed Tryz.underlying3
def kF (x : Int) : Lit := .int .i64 x
theorem keyF {x : Int} (h0 : 0 ≤ x) (h1 : x ≤ 1000) : keyOf Tryz.prog 3 (.int .i64 x) = some (kF x) := keyOf_int_mk Tryz.underlying3 (WalkArith.wf_i64 (by omega))
set_option maxRecDepth 100000 in
theorem zeroBo (w : World) : (zeroValue 4).run Tryz.prog w = .ok (.bool false) w := by kernel_rfl
set_option maxRecDepth 100000 in
theorem plainB {H : Type} (x : Bool) : (plainElem Tryz.prog 4 (.bool x) : Option (DataW H × List MemPlace)) = some (.lit (.bool x), []) := by
  unfold plainElem; rw [Tryz.underlying4]
set_option maxRecDepth 100000 in
theorem plainB_inv {H : Type} {v : Value} {z : DataW H × List MemPlace} (h : plainElem Tryz.prog 4 v = some z) : ∃ x, v = .bool x := by
  unfold plainElem at h
  rw [Tryz.underlying4] at h
  cases v <;> simp at h
  exact ⟨_, rfl⟩
/-- A map of bools of the call's own. -/
def TM (w : World) (b n : Nat) : Prop := ∃ D : DataW Unit, w.ownsMap Tryz.prog 3 (plainElem Tryz.prog 4) b n D
theorem TM.zero (w : World) : TM (w.alloc (.map #[] 0)) w.heap.size 0 := ⟨_, World.ownsMap_made w _ _ _⟩
theorem TM.lt {w : World} {b n : Nat} (h : TM w b n) : b < w.heap.size := by obtain ⟨D, ho⟩ := h; exact ho.lt
theorem TM.below {w w' : World} {b n : Nat} (h : TM w b n) (hb : Below w.heap.size w w') : TM w' b n := by
  obtain ⟨D, ho⟩ := h
  have hlt := ho.lt
  obtain ⟨es, cl, h3, h4⟩ := ho
  exact ⟨D, es, cl, (hb.block b hlt).trans h3, h4⟩
theorem TM.grown {w w' : World} {b n : Nat} {row : Option Nat} (h : TM w b n) (hg : w.grownBy w' row) (hne : some b ≠ row) : TM w' b n := by
  obtain ⟨D, ho⟩ := h
  have hlt := ho.lt
  obtain ⟨es, cl, h3, h4⟩ := ho
  exact ⟨D, es, cl, (hg.block b hlt hne).trans h3, h4⟩
theorem TM.alloc {w : World} {b n : Nat} (h : TM w b n) (o : Obj) : TM (w.alloc o) b n := h.below ((Below.refl _ _).alloc (Nat.le_refl _) _)
theorem TM.mono {w : World} {b n m : Nat} (h : TM w b n) (hm : n ≤ m) : TM w b m := by obtain ⟨D, h⟩ := h; exact ⟨D, h.mono hm⟩
/-- A row is no map. -/
theorem TM.ne {w : World} {b n k s B : Nat} {t : TypeId} {q : Value} {xs : List Value} (h : TM w b n) (ho : w.ownsRow B t s q k xs) : some b ≠ q.ownBlock := fun e => by
  obtain ⟨D, es, cl, h3, _⟩ := h
  rcases ho.2 with ⟨rfl, _⟩ | ⟨g, cap, cur, rfl, _, hh, _⟩
  · simp [Value.ownBlock] at e
  · have e1 : b = g := by have h : some b = some g := e; injection h
    subst e1
    rw [hh] at h3; injection h3 with h3; cases h3
set_option maxRecDepth 100000 in
theorem TM.look {w : World} {b n : Nat} {y : Int} (h : TM w b n) (h0 : 0 ≤ y) (h1 : y ≤ 1000) : ∃ c, (Instr.lookup 179 (.map (some b)) (.int .i64 y) false).run Tryz.prog w = .ok (.bool c) w := by
  obtain ⟨D, hown⟩ := h
  obtain ⟨v, ps, hrun, hv⟩ := hown.lookup lawIntF Tryz.underlying179 (zeroBo w) (plainB false) (keyF h0 h1)
  obtain ⟨c, rfl⟩ := plainB_inv hv
  exact ⟨c, by simpa using hrun⟩
theorem O3.fresh {te : TypeId} {w : World} {B : Nat} {v : Value} {n : Nat} {ts : List T3} (h : O3 te w B v n ts) : some w.heap.size ≠ v.ownBlock := fun e => by have := (World.ownsRow.lt h.1 _ e.symm).2; omega
set_option maxRecDepth 100000 in
theorem made3 (w : World) : (Instr.makeSlice 64 (.int .i64 0) (.int .i64 3)).run Tryz.prog w = .ok (.slice (some ⟨w.heap.size, 0, none⟩) 0 3) (w.alloc (.cells (madeCells #[.int .i64 0, .int .i64 0, .int .i64 0] 9) 61)) := by
  obtain ⟨i, hi, hz, hs, hb⟩ := info_parts infoOh
  have := run_make_rowN 64 61 i (.agg #[.int .i64 0, .int .i64 0, .int .i64 0]) Tryz.underlying64 hi hz .i64 .i64 0 3 (Nat.zero_le _) (by rw [hb]; omega) (by omega) w
  rw [hs] at this
  exact this
theorem made3_o (w : World) : O3 61 (w.alloc (.cells (madeCells #[.int .i64 0, .int .i64 0, .int .i64 0] 9) 61)) w.heap.size (.slice (some ⟨w.heap.size, 0, none⟩) 0 3) 0 [] :=
  ⟨⟨rfl, .inr ⟨w.heap.size, 3, _, rfl, Nat.le_refl _, Blk.new w _ _, Nat.zero_le _, by simp [maxLen], by simp [size_madeCells], by simp [flat3]⟩⟩, by omega⟩
/-- A slice of operations in a row of operations. -/
def SO (w : World) (v : Value) (n : Nat) (zs : List T3) : Prop := ∃ A, v = .slice A n n ∧ n ≤ 1048576 ∧ zs.length = n ∧ (0 < n → ∃ b cur, A = some ⟨b, 0, none⟩ ∧ Blk w b 61 cur ∧ ∀ (k : Nat) (x : Int), (flat3 zs)[k]? = some x → cur[k]? = some (.int .i64 x))
theorem SO.below {w w' : World} {v : Value} {n : Nat} {zs : List T3} (h : SO w v n zs) (hb : Below w.heap.size w w') : SO w' v n zs := by
  obtain ⟨A, h1, h2, h3, h4⟩ := h
  exact ⟨A, h1, h2, h3, fun hn => by obtain ⟨b, cur, e, hB, hc⟩ := h4 hn; exact ⟨b, cur, e, hB.belowAll hb, hc⟩⟩
theorem SO.row {w w' : World} {v q : Value} {n m s B : Nat} {t : TypeId} {xs : List Value} {zs : List T3} (h : SO w v n zs) (ho : w.ownsRow B t s q m xs) (ht : t ≠ 61) (hg : w.grownBy w' q.ownBlock) : SO w' v n zs := by
  obtain ⟨A, h1, h2, h3, h4⟩ := h
  exact ⟨A, h1, h2, h3, fun hn => by
    obtain ⟨b, cur, e, hB, hc⟩ := h4 hn
    exact ⟨b, cur, e, hB.grown hg (fun e => by
      rcases own_neB ho hB ht with q | q
      · rw [q] at e; cases e
      · exact q e.symm), hc⟩⟩
theorem SO.s3 {w : World} {v : Value} {n : Nat} {zs : List T3} (h : SO w v n zs) : ∃ A, v = .slice A n n ∧ n ≤ 1048576 ∧ R3 w A n zs := by
  obtain ⟨A, h1, h2, h3, h4⟩ := h
  refine ⟨A, h1, h2, h3, fun hn => ?_⟩
  obtain ⟨b, cur, e, hB, hc⟩ := h4 hn
  exact ⟨b, 0, e, hB.lt, fun k x hk => by
    rw [Nat.zero_add]
    exact (hB.cell _).trans (hc k x hk)⟩
theorem slice3 {A : Option Addr} {n c B : Nat} {ys : List T3} {w : World} (h : O3 61 w B (.slice A n c) n ys) :
    ∃ A', (∀ w', (Instr.slice 64 (.slice A n c) none (some (.int .i64 (n : Int))) (some (.int .i64 (n : Int)))).run Tryz.prog w' = .ok (.slice A' n n) w') ∧ SO w (.slice A' n n) n ys := by
  have hl := h.len
  obtain ⟨A0, c0, e, hnc, hn, hr⟩ := h.s3
  injection e with e1 e2 e3
  subst e1; subst e3
  obtain ⟨i, hi, hz, hsz, hb⟩ := info_parts infoOh
  refine ⟨if n = 0 then A else A.map (·.add (0 * i.size)), fun w' => ?_, _, rfl, hn, hl, fun hk0 => ?_⟩
  · simp [Instr.slice, Instr.sliceBounds, Instr.sliceBound, run_underlying Tryz.underlying64, sizeOf, typeInfo, hi, asIntOf, hnc]
  · rcases h.1.2 with ⟨_, h0⟩ | ⟨g, cap, cur, e, hB, hg, hc, hcm, hs, ht⟩
    · omega
    · injection e with e _ _
      subst e
      refine ⟨g, cur, ?_, hg, fun k x hk => ?_⟩
      · rw [if_neg (by omega), Nat.zero_mul]; simp [addr_add]
      · have hkl : k < n * 3 := by have := (List.getElem?_eq_some_iff.1 hk).1; rw [flat3_len, hl] at this; exact this
        have : (cur.toList.take (n * 3))[k]? = some (.int .i64 x) := by rw [ht]; simp [hk]
        rw [List.getElem?_take_of_lt hkl] at this
        simpa using this
end Go.Proofs.YtcfkemchekmjbaaGreatDoor
