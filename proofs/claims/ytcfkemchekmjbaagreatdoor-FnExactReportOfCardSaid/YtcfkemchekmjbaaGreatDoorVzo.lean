/- Merged (what the law reaches): Txs, TxO, Open, OpenR. -/
import Derived.Test.YtcfkemchekmjbaaGreatDoorVzn
import Derived.Deep.RegionHeld3
import Derived.ProofKit
import Derived.OpenShut
import Derived.ShutString
import Derived.ChangeOld
import Derived.Lib.SmallJoins
import Derived.Deep.Slices
import Derived.Deep.Fields
namespace Go.Proofs.YtcfkemchekmjbaaGreatDoor
open Go.RowKit
theorem beTx (w : World) (o : Obj) : Below w.heap.size w (w.alloc o) := (Below.refl _ _).alloc (Nat.le_refl _) o
def szTL : Int → List Tx → Int
  | l, [] => l
  | l, m :: ms => if szN l m.2.1.length < 0 then -1 else szTL (szN l m.2.1.length) ms
def szTS (left : Int) (ms : List Tx) : Int := if left < ms.length then -1 else szTL (left - ms.length) ms
theorem szTL_cons (l : Int) (m : Tx) (ms : List Tx) : szTL l (m :: ms) = if szN l m.2.1.length < 0 then -1 else szTL (szN l m.2.1.length) ms := rfl
theorem szTL_ok : ∀ (ms : List Tx) (l : Int), 0 ≤ l → 0 ≤ szTL l ms → (∀ m ∈ ms, (m.2.1.length : Int) ≤ l) ∧ szTL l ms ≤ l := by
  intro ms
  induction ms with
  | nil => intro l _ _; exact ⟨fun m h => absurd h (by simp), Int.le_refl _⟩
  | cons m ms ih =>
    intro l hl h
    rw [szTL_cons] at h ⊢
    by_cases hn : szN l m.2.1.length < 0
    · rw [if_pos hn] at h; omega
    · rw [if_neg hn] at h ⊢
      have e : szN l m.2.1.length = l - m.2.1.length ∧ (m.2.1.length : Int) ≤ l := by
        unfold szN at hn ⊢
        by_cases hh : (m.2.1.length : Int) ≤ l
        · rw [if_pos hh]; exact ⟨rfl, hh⟩
        · rw [if_neg hh] at hn; omega
      obtain ⟨h1, h2⟩ := ih _ (by omega) h
      refine ⟨fun x hx => ?_, by omega⟩
      rcases List.mem_cons.1 hx with rfl | hx
      · exact e.2
      · have := h1 x hx; omega
theorem szTL_sum : ∀ (ms : List Tx) (l : Int), 0 ≤ l → ¬ szTL l ms < 0 → (((ms.map (·.2.1.length)).sum : Nat) : Int) ≤ l := by
  intro ms
  induction ms with
  | nil => intro l h _; simpa using h
  | cons m ms ih =>
    intro l hl h
    rw [szTL_cons] at h
    by_cases hn : szN l m.2.1.length < 0
    · rw [if_pos hn] at h; omega
    · rw [if_neg hn] at h
      have e : szN l m.2.1.length = l - m.2.1.length ∧ (m.2.1.length : Int) ≤ l := by
        unfold szN at hn ⊢
        by_cases hh : (m.2.1.length : Int) ≤ l
        · rw [if_pos hh]; exact ⟨rfl, hh⟩
        · rw [if_neg hh] at hn; omega
      have := ih _ (by omega) h
      simp only [List.map_cons, List.sum_cons]
      omega
theorem szTS_ok {ms : List Tx} {n : Nat} (hl : ms.length = n) (h : ¬ szTS 1048576 ms < 0) : n ≤ 1048576 ∧ SmallT ms ∧ (ms.map (·.2.1.length)).sum + n ≤ 1048576 := by
  unfold szTS at h
  split at h
  · omega
  · have := szTL_ok ms (1048576 - ms.length) (by omega) (by omega)
    have h2 := szTL_sum ms (1048576 - ms.length) (by omega) h
    exact ⟨by omega, fun m hm => by have := this.1 m hm; omega, by omega⟩
set_option maxHeartbeats 400000 in
theorem szTxn_c {A : Option Addr} {n c : Nat} {f left : Int} {dn : Bool} {w : World} (h0 : -1 ≤ left) (h1 : left ≤ 1048576) (hn : n ≤ maxLen) :
    Calls Tryz.prog 62 #[.agg #[.int .i64 f, .slice A n c, .bool dn], .int .i64 left] w fun e w' => e = .returned (.int .i64 (szN left n)) ∧ Below w.heap.size w w' := by
  have b1 : Below w.heap.size w (w.alloc (.cells #[.int .i64 f, .slice A n c, .bool dn] 104)) := (Below.refl _ _).alloc (Nat.le_refl _) _
  by_cases h : (n : Int) ≤ left
  · have hf : szN left n = left - n := by simp [szN, h]
    have F := hide hf; clear hf
    go_enter Tryz.func62, Tryz.ntmps62
    go_wp2_with fail
    refine (szOpS_c h0 h1 hn).mono ?_
    rintro e w' ⟨rfl, rfl⟩
    rw [F.out]
    go_wp2_with fail
    go_ret
    exact ⟨by rw [F.out]; rfl, b1⟩
  · have hf : szN left n = -1 := by simp [szN, h]
    have F := hide hf; clear hf
    go_enter Tryz.func62, Tryz.ntmps62
    go_wp2_with fail
    refine (szOpS_c h0 h1 hn).mono ?_
    rintro e w' ⟨rfl, rfl⟩
    rw [F.out]
    go_wp2_with fail
    go_ret
    exact ⟨by rw [F.out]; rfl, b1⟩
set_option maxHeartbeats 4000000 in
theorem szTxnS_c {A : Option Addr} {n c : Nat} {ms : List Tx} {left : Int} {w : World} (hr : RTs w A n ms) (h0 : 0 ≤ left) (h1 : left ≤ 1048576) (hn : n ≤ maxLen) :
    Calls Tryz.prog 17 #[.slice A n c, .int .i64 left] w fun e w' => e = .returned (.int .i64 (szTS left ms)) ∧ Below w.heap.size w w' := by
  have hl := hide hr.1
  unfold maxLen at hn
  by_cases hlt : left < (n : Int)
  · have hf : szTS left ms = -1 := by unfold szTS; rw [hl.out, if_pos hlt]
    have F := hide hf; clear hf
    go_enter Tryz.func17, Tryz.ntmps17
    go_wp2_with fail
    go_ret
    exact ⟨by rw [F.out]; rfl, Below.refl _ _⟩
  · have hf : szTS left ms = szTL (left - n) ms := by unfold szTS; rw [hl.out, if_neg hlt]
    have F := hide hf; clear hf
    have hge : (n : Int) ≤ left := by omega
    go_enter Tryz.func17, Tryz.ntmps17
    go_wp2_with fail
    go_loopw [1, 5] (fun l i wr => ∃ (k : Nat) (lv : Int), k ≤ n ∧ i = .int .i64 k ∧ l = .int .i64 lv ∧ 0 ≤ lv ∧ lv ≤ 1048576 ∧ szTL lv (ms.drop k) = szTL (left - n) ms ∧ Below w.heap.size w wr) (fun _ i _ => n - (intOf i).toNat)
    case atStart => exact ⟨0, left - n, Nat.zero_le _, rfl, rfl, by omega, by omega, rfl, Below.refl _ _⟩
    case round =>
      obtain ⟨k, lv, hk, rfl, rfl, l0, l1, he, bw⟩ := hrel
      have HE := hide he; clear he
      by_cases hkn : k < n
      · obtain ⟨b, off, f, ys, dn, B, kk, d, rfl, hbb, hx, q0, q1, q3, hkd, hdm, hri⟩ := hr.at_ hkn
        have e0 := (bw.cell (p := ⟨b, off + k * 3, none⟩) hbb).trans q0
        have e1 := (bw.cell (p := ⟨b, off + k * 3 + 1, none⟩) hbb).trans q1
        have e3 := (bw.cell (p := ⟨b, off + k * 3 + 2, none⟩) hbb).trans q3
        have hyl := hri.len
        have hkl : k < ms.length := by have := hl.out; omega
        have hd : ms.drop k = (f, ys, dn) :: ms.drop (k + 1) := by
          rw [List.drop_eq_getElem_cons hkl]
          rw [List.getElem?_eq_getElem hkl] at hx
          injection hx with hx
          rw [hx]
        have hst : szTL lv (ms.drop k) = if szN lv kk < 0 then -1 else szTL (szN lv kk) (ms.drop (k + 1)) := by rw [hd, szTL_cons, show (f, ys, dn).2.1.length = kk from hyl]
        rw [HE.out] at hst
        have HS := hide hst
        clear q0 q1 q3 hx hd hst hri hyl
        have k0 : (0 : Int) ≤ k := by omega
        have k2 : (k : Int) < n := by omega
        go_wp2_with fail
        refine (szTxn_c (by omega) l1 (by omega)).mono ?_
        rintro e w2 ⟨rfl, b2⟩
        have B2 := below_step bw b2
        have hb := show szN lv kk ≤ 1048576 by unfold szN; split <;> omega
        have hb2 := show -1 ≤ szN lv kk by unfold szN; split <;> omega
        obtain ⟨z, hz⟩ : ∃ z, szN lv kk = z := ⟨_, rfl⟩
        have hs2 := HS.out
        rw [hz] at hb hb2 hs2
        rw [hz]
        by_cases hz0 : z < 0
        · rw [if_pos hz0] at hs2
          have HH := hide hs2
          clear hs2
          go_wp2_with fail
          go_ret
          exact ⟨by rw [F.out, HH.out]; rfl, B2⟩
        · rw [if_neg hz0] at hs2
          have HH := hide hs2
          clear hs2
          go_wp2_with fail
          go_roundw
          case rel => exact ⟨k + 1, z, by omega, by go_num, rfl, by omega, hb, HH.out.symm, B2⟩
          case measure => simp [intOf]; omega
      · obtain rfl : k = n := by omega
        have hfin : szTL (left - k) ms = lv := by rw [← HE.out, List.drop_eq_nil_of_le (by have := hl.out; omega)]; rfl
        have HH := hide hfin
        clear hfin
        go_wp2_with fail
        go_ret
        exact ⟨by rw [F.out, HH.out]; rfl, bw⟩
/-- The post of a function that returns a new transaction. -/
def RetX (w : World) (f : Int) (dn : Bool) (xs : List T3) (e : Ending) (w' : World) : Prop :=
  ∃ A n c, e = .returned (.agg #[.int .i64 f, .slice A n c, .bool dn]) ∧ O3 61 w' w.heap.size (.slice A n c) n xs ∧ Below w.heap.size w w'
theorem O3.set_lowX {t : TypeId} {w : World} {B n : Nat} {v : Value} {xs : List T3} (h : O3 t w B v n xs) {p : Addr} (hp : p.block < B) (u : Value) : O3 t (w.setCell p u) B v n xs := ⟨ownsRow_setCell_below h.1 hp u, h.2⟩
theorem O3.formX {t : TypeId} {w : World} {B n : Nat} {v : Value} {xs : List T3} (h : O3 t w B v n xs) : ∃ A c, v = .slice A n c ∧ n ≤ c ∧ c ≤ maxLen ∧ R3 w A n xs := by
  obtain ⟨A', c', h4, h6, h7, h5⟩ := h.s3
  rcases h.1.2 with ⟨h1, h2⟩ | ⟨g, cap, cur, h1, _, _, h2, h3, _⟩
  · rw [h1] at h4; injection h4 with e4 e5 e6; subst e4; subst e6
    exact ⟨none, 0, by rw [h1, h2], by omega, by simp [maxLen], h5⟩
  · rw [h1] at h4; injection h4 with e4 _ e6; subst e4; subst e6
    exact ⟨_, cap, h1, h2, h3, h5⟩
set_option maxHeartbeats 2000000 in
theorem toTxn_c {v : Value} {m : Nat} {ys : List T3} {f : Int} {dn : Bool} {w : World} (hv : S3 w v m ys) :
    Calls Tryz.prog 71 #[.agg #[.int .i64 f, v, .bool dn]] w (RetX w f dn ys) := by
  have sv := hv
  obtain ⟨B, d, rfl, _, _, _⟩ := hv
  have B0 : Below w.heap.size w (((w.alloc (.cells #[.int .i64 f, .slice B m d, .bool dn] 104)).alloc (.cells #[.int .i64 0, .slice none 0 0, .bool false] 66)).alloc (.cells #[.int .i64 f, .slice none 0 0, .bool false] 66)) := (((Below.refl _ _).alloc (Nat.le_refl _) _).alloc (by simp) _).alloc (by simp; omega) _
  have K0 := ((Blk.new w 104 #[.int .i64 f, .slice B m d, .bool dn]).alloc (.cells #[.int .i64 0, .slice none 0 0, .bool false] 66)).alloc (.cells #[.int .i64 f, .slice none 0 0, .bool false] 66)
  have K2 := Blk.new ((w.alloc (.cells #[.int .i64 f, .slice B m d, .bool dn] 104)).alloc (.cells #[.int .i64 0, .slice none 0 0, .bool false] 66)) 66 #[.int .i64 f, .slice none 0 0, .bool false]
  have K1 := (Blk.new (w.alloc (.cells #[.int .i64 f, .slice B m d, .bool dn] 104)) 66 #[.int .i64 0, .slice none 0 0, .bool false]).alloc (.cells #[.int .i64 f, .slice none 0 0, .bool false] 66)
  simp only [World.size_alloc] at K1 K2
  go_enter Tryz.func71, Tryz.ntmps71
  go_wp2_with fail
  refine (toOpS_c (sv.below B0)).mono ?_
  rintro e w2 ⟨v2, rfl, o2, b2⟩
  obtain ⟨A2, c2, rfl⟩ := o2.shape
  have B2 := below_step B0 b2
  have hz2 := b2.size
  replace K0 := K0.belowAll b2
  replace K1 := K1.belowAll b2
  replace K2 := K2.belowAll b2
  simp only [World.size_alloc] at o2 hz2
  have K0s := K0.far (p := ⟨w.heap.size + 1 + 1, 1, none⟩) (by show w.heap.size ≠ w.heap.size + 1 + 1; omega) (.slice A2 m c2)
  have K1s := (K1.far (p := ⟨w.heap.size + 1 + 1, 1, none⟩) (by simp) (.slice A2 m c2)).far (p := ⟨w.heap.size + 1 + 1, 2, none⟩) (by simp) (.bool dn)
  obtain ⟨_, _, a2⟩ := K0s.three
  obtain ⟨p0, p1, p2⟩ := K2.three
  have pf0 := K2.frozen 0; have pf1 := K2.frozen 1; have pf2 := K2.frozen 2
  obtain ⟨r0, r1, r2⟩ := K1s.three
  have rf0 := K1s.frozen 0; have rf1 := K1s.frozen 1; have rf2 := K1s.frozen 2
  go_wp2_with fail
  obtain ⟨t0, t1, t2⟩ := (((K1s.set_ 0 (.int .i64 f)).set_ 1 (.slice A2 m c2)).set_ 2 (.bool dn)).three
  refine bodyPost_ret (v := .agg #[.int .i64 f, .slice A2 m c2, .bool dn]) (by simp [results, Tryz.results71, go_sem, t0, t1, t2]) rfl ⟨A2, m, c2, rfl, ?_, ?_⟩
  · exact (((((o2.set_lowX (p := ⟨w.heap.size + 1 + 1, 1, none⟩) (by simp) _).set_lowX (p := ⟨w.heap.size + 1 + 1, 2, none⟩) (by simp) _).set_lowX (p := ⟨w.heap.size + 1, 0, none⟩) (by simp) _).set_lowX (p := ⟨w.heap.size + 1, 1, none⟩) (by simp) _).set_lowX (p := ⟨w.heap.size + 1, 2, none⟩) (by simp) _).mono (by omega)
  · exact ((((B2.setCell (p := ⟨w.heap.size + 1 + 1, 1, none⟩) (by simp; omega) _).setCell (p := ⟨w.heap.size + 1 + 1, 2, none⟩) (by simp; omega) _).setCell (p := ⟨w.heap.size + 1, 0, none⟩) (by simp) _).setCell (p := ⟨w.heap.size + 1, 1, none⟩) (by simp) _).setCell (p := ⟨w.heap.size + 1, 2, none⟩) (by simp) _
theorem infoTs : (Tryz.prog.info? 66).map (fun i => (i.zero, i.size, i.bytes)) = some (some (.agg #[.int .i64 0, .slice none 0 0, .bool false]), 3, 40) := by kernel_rfl
theorem run_make_Ts (n : Nat) (hn : n ≤ 1048576) (w : World) :
    (Instr.makeSlice 27 (.int .i64 (n : Int)) (.int .i64 (n : Int))).run Tryz.prog w = .ok (.slice (some ⟨w.heap.size, 0, none⟩) n n) (w.alloc (.cells (madeCells #[.int .i64 0, .slice none 0 0, .bool false] (n * 3)) 66)) := by
  obtain ⟨i, hi, hz, hs, hb⟩ := info_parts infoTs
  rw [run_make_rowN 27 66 i (.agg #[.int .i64 0, .slice none 0 0, .bool false]) Tryz.underlying27 hi hz .i64 .i64 n n (Nat.le_refl _) (by rw [hb]; omega) (by omega) w, hs]
  rfl
def MadeT (w : World) (g n k : Nat) (ms : List Tx) (cs : List Value) : Prop := cs.length = n * 3 ∧ Blk w g 66 cs.toArray ∧
  ∀ (j : Nat) (m : Tx), j < k → ms[j]? = some m → ∃ (B : Option Addr) (kk d : Nat), cs[j * 3]? = some (.int .i64 m.1) ∧ cs[j * 3 + 1]? = some (.slice B kk d) ∧ cs[j * 3 + 2]? = some (.bool m.2.2) ∧ O3 61 w (g + 1) (.slice B kk d) kk m.2.1
theorem MadeT.step {w w2 : World} {g n k : Nat} {ms : List Tx} {cs : List Value} {f : Int} {ys : List T3} {dn : Bool} {B : Option Addr} {kk d B0 : Nat} (h : MadeT w g n k ms cs) (hk : k < n) (hx : ms[k]? = some (f, ys, dn)) (b : Below w.heap.size w w2) (o : O3 61 w2 B0 (.slice B kk d) kk ys) (hB : g + 1 ≤ B0) :
    MadeT (((w2.setCell ⟨g, k * 3, none⟩ (.int .i64 f)).setCell ⟨g, k * 3 + 1, none⟩ (.slice B kk d)).setCell ⟨g, k * 3 + 2, none⟩ (.bool dn)) g n (k + 1) ms (((cs.set (k * 3) (.int .i64 f)).set (k * 3 + 1) (.slice B kk d)).set (k * 3 + 2) (.bool dn)) := by
  obtain ⟨h1, h2, h3⟩ := h
  refine ⟨by simp [h1], ?_, fun j m hj hm => ?_⟩
  · have := (((h2.belowAll b).set_ (k * 3) (.int .i64 f)).set_ (k * 3 + 1) (.slice B kk d)).set_ (k * 3 + 2) (.bool dn)
    simpa using this
  · by_cases hjk : j = k
    · subst hjk
      rw [hx] at hm
      injection hm with hm
      subst hm
      refine ⟨B, kk, d, ?_, ?_, ?_, (((o.mono hB).set_lowX (p := ⟨g, j * 3, none⟩) (by show g < g + 1; omega) _).set_lowX (p := ⟨g, j * 3 + 1, none⟩) (by show g < g + 1; omega) _).set_lowX (p := ⟨g, j * 3 + 2, none⟩) (by show g < g + 1; omega) _⟩
      · rw [List.getElem?_set_ne (by omega), List.getElem?_set_ne (by omega), List.getElem?_set_self (by omega)]
      · rw [List.getElem?_set_ne (by omega), List.getElem?_set_self (by simp; omega)]
      · rw [List.getElem?_set_self (by simp; omega)]
    · obtain ⟨B', kk', d', e1, e2, e3, o'⟩ := h3 j m (by omega) hm
      refine ⟨B', kk', d', ?_, ?_, ?_, (((o'.below b).set_lowX (p := ⟨g, k * 3, none⟩) (by show g < g + 1; omega) _).set_lowX (p := ⟨g, k * 3 + 1, none⟩) (by show g < g + 1; omega) _).set_lowX (p := ⟨g, k * 3 + 2, none⟩) (by show g < g + 1; omega) _⟩
      · rw [List.getElem?_set_ne (by omega), List.getElem?_set_ne (by omega), List.getElem?_set_ne (by omega)]; exact e1
      · rw [List.getElem?_set_ne (by omega), List.getElem?_set_ne (by omega), List.getElem?_set_ne (by omega)]; exact e2
      · rw [List.getElem?_set_ne (by omega), List.getElem?_set_ne (by omega), List.getElem?_set_ne (by omega)]; exact e3
theorem MadeT.rm {w : World} {g n : Nat} {ms : List Tx} {cs : List Value} (h : MadeT w g n n ms cs) (hl : ms.length = n) : RTs w (some ⟨g, 0, none⟩) n ms := by
  obtain ⟨h1, h2, h3⟩ := h
  refine ⟨hl, fun _ => ⟨g, 0, rfl, h2.lt, fun k m hm => ?_⟩⟩
  have hk : k < ms.length := by
    rcases Nat.lt_or_ge k ms.length with h | h
    · exact h
    · rw [List.getElem?_eq_none h] at hm; cases hm
  obtain ⟨B, kk, d, e1, e2, e4, o⟩ := h3 k m (by omega) hm
  obtain ⟨B', d', e3, hd, hm', hri⟩ := o.formX
  injection e3 with e3a _ e3c; subst e3a; subst e3c
  refine ⟨B, kk, d, ?_, ?_, ?_, hd, hm', hri⟩
  · rw [Nat.zero_add, h2.cell]; simpa using e1
  · rw [Nat.zero_add, h2.cell]; simpa using e2
  · rw [Nat.zero_add, h2.cell]; simpa using e4
set_option maxHeartbeats 8000000 in
theorem toTxnS_c {A : Option Addr} {n c : Nat} {ms : List Tx} {w : World} (hr : RTs w A n ms) (hn : n ≤ 1048576) (hsm : SmallT ms) :
    Calls Tryz.prog 19 #[.slice A n c] w fun e w' => e = .returned (.slice (some ⟨w.heap.size, 0, none⟩) n n) ∧ RTs w' (some ⟨w.heap.size, 0, none⟩) n ms ∧ Below w.heap.size w w' := by
  have hl := hide hr.1
  have hmk := run_make_Ts n hn
  have K0 := Blk.new w 66 (madeCells #[.int .i64 0, .slice none 0 0, .bool false] (n * 3))
  have M0 : MadeT (w.alloc (.cells (madeCells #[.int .i64 0, .slice none 0 0, .bool false] (n * 3)) 66)) w.heap.size n 0 ms (madeCells #[.int .i64 0, .slice none 0 0, .bool false] (n * 3)).toList :=
    ⟨by simp [madeCells], by simpa using K0, fun j m h => absurd h (by omega)⟩
  have B0 := beTx w (.cells (madeCells #[.int .i64 0, .slice none 0 0, .bool false] (n * 3)) 66)
  go_enter Tryz.func19, Tryz.ntmps19
  go_wp2_with fail
  go_loopw [4] (fun i wr => ∃ (k : Nat) (cs : List Value), k ≤ n ∧ i = .int .i64 k ∧ MadeT wr w.heap.size n k ms cs ∧ Below w.heap.size w wr) (fun i _ => n - (intOf i).toNat)
  case atStart => exact ⟨0, _, Nat.zero_le _, rfl, M0, B0⟩
  case round =>
    clear M0 B0 K0
    obtain ⟨k, cs, hk, rfl, M, bw⟩ := hrel
    by_cases hkn : k < n
    · obtain ⟨b, off, f, ys, dn, B, kk, d, rfl, hbb, hx, q0, q1, q3, hkd, hdm, hri⟩ := hr.at_ hkn
      have e0 := (bw.cell (p := ⟨b, off + k * 3, none⟩) hbb).trans q0
      have e1 := (bw.cell (p := ⟨b, off + k * 3 + 1, none⟩) hbb).trans q1
      have e3 := (bw.cell (p := ⟨b, off + k * 3 + 2, none⟩) hbb).trans q3
      have hsz := hsm _ (List.mem_of_getElem? hx)
      have hk1 : kk ≤ 1048576 := by have := hri.len; dsimp only at hsz; omega
      have s1 : S3 w (.slice B kk d) kk ys := S3.of_args hkd hk1 hri
      have Hx := hide hx
      clear hx q0 q1 q3 hsz hri
      have k0 : (0 : Int) ≤ k := by omega
      have k2 : (k : Int) < n := by omega
      go_wp2_with fail
      refine (toTxn_c (s1.below bw)).mono ?_
      rintro e w2 ⟨A2, n2, c2, rfl, o2, b2⟩
      have B2 := below_step bw b2
      have K2 := M.2.1.belowAll b2
      have hlt := M.2.1.lt
      have hcl := M.1
      have f0 : ∃ u, w2.cell? ⟨w.heap.size, k * 3, none⟩ = some u := ⟨cs[k * 3]'(by omega), by rw [K2.cell]; simp [show k * 3 < cs.length by omega]⟩
      have f1 : ∃ u, w2.cell? ⟨w.heap.size, k * 3 + 1, none⟩ = some u := ⟨cs[k * 3 + 1]'(by omega), by rw [K2.cell]; simp [show k * 3 + 1 < cs.length by omega]⟩
      have f2 : ∃ u, w2.cell? ⟨w.heap.size, k * 3 + 2, none⟩ = some u := ⟨cs[k * 3 + 2]'(by omega), by rw [K2.cell]; simp [show k * 3 + 2 < cs.length by omega]⟩
      obtain ⟨u0, f0⟩ := f0
      obtain ⟨u1, f1⟩ := f1
      obtain ⟨u2, f2⟩ := f2
      have g0 := K2.frozen (k * 3)
      have g1 := K2.frozen (k * 3 + 1)
      have g2 := K2.frozen (k * 3 + 2)
      go_wp2_with fail
      go_roundw
      case rel => exact ⟨k + 1, _, by omega, by go_num, M.step hkn Hx.out b2 o2 (by omega), ((B2.setCell (p := ⟨w.heap.size, k * 3, none⟩) (Nat.le_refl _) _).setCell (p := ⟨w.heap.size, k * 3 + 1, none⟩) (Nat.le_refl _) _).setCell (p := ⟨w.heap.size, k * 3 + 2, none⟩) (Nat.le_refl _) _⟩
      case measure => simp [intOf]; omega
    · obtain rfl : k = n := by omega
      go_wp2_with fail
      go_ret
      exact ⟨rfl, M.rm hl.out, bw⟩
end Go.Proofs.YtcfkemchekmjbaaGreatDoor

namespace Go.Proofs.YtcfkemchekmjbaaGreatDoor
open Go.RowKit
def z0 : El := (0, (.slice none 0 0, 0, []), false)
theorem made_cells : ∀ n : Nat, (madeCells #[.int .i64 0, .slice none 0 0, .bool false] (n * 3)).toList = cellsT (List.replicate n z0)
  | 0 => by simp [madeCells, cellsT]
  | n + 1 => by
    have ih := made_cells n
    have m0 : n * 3 % 3 = 0 := by omega
    have m1 : (n * 3 + 1) % 3 = 1 := by omega
    have m2 : (n * 3 + 1 + 1) % 3 = 2 := by omega
    rw [List.replicate_succ', cellsT_append, ← ih, show (n + 1) * 3 = n * 3 + 1 + 1 + 1 by omega]
    unfold madeCells
    simp [Array.toList_map, List.range_succ, m0, m1, m2, z0, cellsT]
theorem OF.none (w : World) (lo : Nat) : OF 61 3 w lo (.slice none 0 0) 0 [] := ⟨⟨rfl, .inl ⟨rfl, rfl⟩⟩, by omega⟩
theorem OT.made (w : World) (n : Nat) (hn : n ≤ 1048576) : OT (w.alloc (.cells (madeCells #[.int .i64 0, .slice none 0 0, .bool false] (n * 3)) 66)) w.heap.size (.slice (some ⟨w.heap.size, 0, none⟩) n n) n (List.replicate n z0) := by
  have hz : ∀ (j : Nat) (e : El), (List.replicate n z0)[j]? = some e → e = z0 := fun j e h => List.eq_of_mem_replicate (List.mem_of_getElem? h)
  refine ⟨⟨by rw [cellsT_len]; simp, .inr ⟨w.heap.size, n, _, rfl, Nat.le_refl _, Blk.new w _ _, Nat.le_refl _, by unfold maxLen; omega, by rw [size_madeCells], ?_⟩⟩, fun j e hj => ?_, fun i j p q _ hp _ => ?_, hn⟩
  · rw [made_cells, List.take_of_length_le (by rw [cellsT_len]; simp)]
  · rw [hz j e hj]; exact OF.none _ _
  · rw [hz i p hp]; exact .inl rfl
/-- A fresh row is put into an element. -/
theorem OT.put {w : World} {lo n g c : Nat} {es : List El} (h : OT w lo (.slice (some ⟨g, 0, none⟩) n c) n es) {j : Nat} {e : El} (hj : es[j]? = some e) {q : In} (ho : OF 61 3 w lo q.1 q.2.1 q.2.2)
    (hq : ∀ k, q.1.ownBlock = some k → ¬ OT.S (.slice (some ⟨g, 0, none⟩) n c) es k) : OT (w.setCell ⟨g, j * 3 + 1, none⟩ q.1) lo (.slice (some ⟨g, 0, none⟩) n c) n (es.set j (e.1, q, e.2.2)) := by
  have hjl := (List.getElem?_eq_some_iff.1 hj).1
  have hset : ∀ {m : Nat} {u : Value} {xs : List Int}, OF 61 3 w lo u m xs → (∀ k, u.ownBlock = some k → k ≠ g) → OF 61 3 (w.setCell ⟨g, j * 3 + 1, none⟩ q.1) lo u m xs := fun {m u xs} hu hne =>
    hu.chg (Chg.setCell (S := fun k => k = g) (p := ⟨g, j * 3 + 1, none⟩) rfl _) (fun k hk e1 => hne k hk e1)
  have hap : ∀ (i : Nat) (p : El), es[i]? = some p → Apart p.2.1.1 q.1 := fun i p hi => by
    unfold Apart
    cases hp : p.2.1.1.ownBlock with
    | none => exact .inl rfl
    | some k => right; intro e1; exact hq k e1.symm (.inr ⟨i, p, hi, hp⟩)
  refine ⟨?_, fun i p hi => ?_, fun i k p r hik hi hk => ?_, h.small⟩
  · rw [← cellsT_set1 es j e q hj]; exact (World.ownsRow.stored h.row (j * 3 + 1) q.1).1
  · by_cases e1 : j = i
    · subst e1
      rw [List.getElem?_set_self hjl] at hi
      injection hi with hi; subst hi
      exact hset ho (fun k hk e2 => hq k hk (.inl (by rw [e2]; rfl)))
    · rw [List.getElem?_set_ne e1] at hi
      exact hset (h.own i p hi) (fun k hk e2 => h.ne hi (k := g) rfl (by rw [hk, e2]))
  · by_cases e1 : j = i
    · subst e1
      rw [List.getElem?_set_self hjl] at hi
      rw [List.getElem?_set_ne hik] at hk
      injection hi with hi; subst hi
      exact (hap k r hk).symm
    · rw [List.getElem?_set_ne e1] at hi
      by_cases e2 : j = k
      · subst e2
        rw [List.getElem?_set_self hjl] at hk
        injection hk with hk; subst hk
        exact hap i p hi
      · rw [List.getElem?_set_ne e2] at hk
        exact h.apart i k p r hik hi hk
/-- The next element of the copy. -/
theorem OT.next {w w2 : World} {lo n g k m : Nat} {es : List El} (h : OT w lo (.slice (some ⟨g, 0, none⟩) n n) n (es ++ List.replicate (n - k) z0)) (he : es.length = k) (hk : k < n) (hb : Below w.heap.size w w2) {f : Int} {u : Value} {xs : List Int} {d : Bool}
    (ho : OF 61 3 w2 w.heap.size u m xs) (hlo : lo ≤ w.heap.size) :
    OT (((w2.setCell ⟨g, k * 3, none⟩ (.int .i64 f)).setCell ⟨g, k * 3 + 1, none⟩ u).setCell ⟨g, k * 3 + 2, none⟩ (.bool d)) lo (.slice (some ⟨g, 0, none⟩) n n) n ((es ++ [(f, (u, m, xs), d)]) ++ List.replicate (n - (k + 1)) z0) := by
  have hrep : List.replicate (n - k) z0 = z0 :: List.replicate (n - (k + 1)) z0 := by rw [show n - k = (n - (k + 1)) + 1 by omega, List.replicate_succ]
  have hz : (es ++ List.replicate (n - k) z0)[k]? = some z0 := by rw [List.getElem?_append_right (by omega), he, Nat.sub_self, hrep]; rfl
  have hset : ∀ x : El, (es ++ List.replicate (n - k) z0).set k x = (es ++ [x]) ++ List.replicate (n - (k + 1)) z0 := fun x => by
    rw [List.set_append_right _ _ (by omega), he, Nat.sub_self, hrep, List.set_cons_zero]; simp
  have hrng := h.range
  have h2 := (h.below hb).set0 hz f
  rw [hset] at h2
  have hz2 : ∀ x : El, ((es ++ [x]) ++ List.replicate (n - (k + 1)) z0)[k]? = some x := fun x => by
    rw [List.getElem?_append_left (by simp; omega), List.getElem?_append_right (by omega), he, Nat.sub_self]; rfl
  have hs2 : ∀ x y : El, ((es ++ [x]) ++ List.replicate (n - (k + 1)) z0).set k y = (es ++ [y]) ++ List.replicate (n - (k + 1)) z0 := fun x y => by
    rw [List.set_append_left _ _ (by simp; omega), List.set_append_right _ _ (by omega), he, Nat.sub_self, List.set_cons_zero]
  have hfar : ∀ q, u.ownBlock = some q → w.heap.size ≤ q := fun q hq => (ho.lt q hq).1
  have hS : ∀ q, OT.S (.slice (some ⟨g, 0, none⟩) n n) ((es ++ [((f, z0.2) : El)]) ++ List.replicate (n - (k + 1)) z0) q → q < w.heap.size := fun q hq => by
    rcases hq with hq | ⟨j, e, hj, hq⟩
    · exact (hrng q (.inl hq)).2
    · by_cases e1 : j = k
      · subst e1
        rw [hz2] at hj
        injection hj with hj; subst hj; cases hq
      · refine (hrng q (.inr ⟨j, e, ?_, hq⟩)).2
        rw [← hset, List.getElem?_set_ne (Ne.symm e1)] at hj
        exact hj
  have hg : g < w.heap.size := (hrng g (.inl rfl)).2
  have ho2 : OF 61 3 (w2.setCell ⟨g, k * 3, none⟩ (.int .i64 f)) lo u m xs := (ho.chg (Chg.setCell (S := fun q => q = g) (p := ⟨g, k * 3, none⟩) rfl _) (fun q hq e1 => by have := hfar q hq; omega)).mono hlo
  have h3 := h2.put (hz2 _) (q := (u, m, xs)) ho2 (fun q hq hs => by have := hfar q hq; have := hS q hs; omega)
  rw [hs2] at h3
  have h4 := h3.set2 (hz2 _) d
  rw [hs2] at h4
  exact h4
set_option maxHeartbeats 8000000 in
theorem toTxnS_o {A : Option Addr} {n c : Nat} {ms : List Tx} {w : World} (hr : RTs w A n ms) (hn : n ≤ 1048576) (hsm : SmallT ms) :
    Calls Tryz.prog 19 #[.slice A n c] w fun e w' => ∃ es, e = .returned (.slice (some ⟨w.heap.size, 0, none⟩) n n) ∧ OT w' w.heap.size (.slice (some ⟨w.heap.size, 0, none⟩) n n) n es ∧ SaysT es ms ∧ Below w.heap.size w w' := by
  have hl := hide hr.1
  have hmk := run_make_Ts n hn
  have M0 := hide (OT.made w n hn)
  have B0 := beTx w (.cells (madeCells #[.int .i64 0, .slice none 0 0, .bool false] (n * 3)) 66)
  go_enter Tryz.func19, Tryz.ntmps19
  go_wp2_with fail
  go_loopw [4] (fun i wr => ∃ (k : Nat) (es : List El), k ≤ n ∧ i = .int .i64 k ∧ OT wr w.heap.size (.slice (some ⟨w.heap.size, 0, none⟩) n n) n (es ++ List.replicate (n - k) z0) ∧ es.length = k ∧ SaysT es (ms.take k) ∧ Below w.heap.size w wr) (fun i _ => n - (intOf i).toNat)
  case atStart => exact ⟨0, [], Nat.zero_le _, rfl, M0.out, rfl, rfl, B0⟩
  case round =>
    clear M0 B0
    obtain ⟨k, es, hk, rfl, M, hel, hsy, bw⟩ := hrel
    have HEL := hide hel; have HSY := hide hsy
    clear hel hsy
    by_cases hkn : k < n
    · obtain ⟨b, off, f, ys, dn, B, kk, d, rfl, hbb, hx, q0, q1, q3, hkd, hdm, hri⟩ := hr.at_ hkn
      have e0 := (bw.cell (p := ⟨b, off + k * 3, none⟩) hbb).trans q0
      have e1 := (bw.cell (p := ⟨b, off + k * 3 + 1, none⟩) hbb).trans q1
      have e3 := (bw.cell (p := ⟨b, off + k * 3 + 2, none⟩) hbb).trans q3
      have hsz := hsm _ (List.mem_of_getElem? hx)
      have hk1 : kk ≤ 1048576 := by have := hri.len; dsimp only at hsz; omega
      have s1 : S3 w (.slice B kk d) kk ys := S3.of_args hkd hk1 hri
      have Hx := hide hx
      clear hx q0 q1 q3 hsz hri
      have k0 : (0 : Int) ≤ k := by omega
      have k2 : (k : Int) < n := by omega
      go_wp2_with fail
      refine (toTxn_c (s1.below bw)).mono ?_
      rintro e w2 ⟨A2, n2, c2, rfl, o2, b2⟩
      have B2 := below_step bw b2
      have hz : (es ++ List.replicate (n - k) z0)[k]? = some z0 := by rw [List.getElem?_append_right (by rw [HEL.out]; exact Nat.le_refl _), HEL.out, Nat.sub_self, show n - k = (n - (k + 1)) + 1 by omega, List.replicate_succ]; rfl
      obtain ⟨f0, f1, f2⟩ := (M.below b2).cells hz
      have g0 := (M.below b2).free (k * 3)
      have g1 := (M.below b2).free (k * 3 + 1)
      have g2 := (M.below b2).free (k * 3 + 2)
      have MN := hide (M.next HEL.out hkn b2 (f := f) (d := dn) o2.of bw.size)
      have HS2 : Hid (SaysT (es ++ [((f, (.slice A2 n2 c2, n2, flat3 ys), dn) : El)]) (ms.take (k + 1))) := hide (by
        unfold SaysT
        rw [List.take_add_one, Hx.out, List.map_append, List.map_append, HSY.out]; rfl)
      clear M hz
      go_wp2_with fail
      go_roundw
      case rel => exact ⟨k + 1, _, by omega, by go_num, MN.out, by simp [HEL.out], HS2.out, ((B2.setCell (p := ⟨w.heap.size, k * 3, none⟩) (Nat.le_refl _) _).setCell (p := ⟨w.heap.size, k * 3 + 1, none⟩) (Nat.le_refl _) _).setCell (p := ⟨w.heap.size, k * 3 + 2, none⟩) (Nat.le_refl _) _⟩
      case measure => simp [intOf]; omega
    · obtain rfl : k = n := by omega
      have hfin : ms.take k = ms := List.take_of_length_le (by rw [hl.out]; exact Nat.le_refl _)
      have HF := hide hfin
      clear hfin
      rw [Nat.sub_self, List.replicate_zero, List.append_nil] at M
      have HM := hide M
      clear M
      go_wp2_with fail
      go_ret
      exact ⟨es, rfl, HM.out, by rw [← HF.out]; exact HSY.out, bw⟩
end Go.Proofs.YtcfkemchekmjbaaGreatDoor

namespace Go.Proofs.YtcfkemchekmjbaaGreatDoor
open Go.ChangeShapes Go.WideShapes Go.ChangeAt Go.RowKit
theorem own : ownKnob Tryz.prog.godebug = none := by kernel_rfl
theorem laidOut : laidOutB Tryz.prog = true := by kernel_rfl
section
variable {H : Type} {enc : TypeId × Value → H} {W : World} {base : Nat} {sp : Nat → Bool} {hd : Bool} {fuel : Nat} {b0 : Nat}
end
end Go.Proofs.YtcfkemchekmjbaaGreatDoor

namespace Go.Proofs.YtcfkemchekmjbaaGreatDoor
open Go.ChangeShapes Go.WideShapes Go.ChangeAt Go.RowKit Go.Deep
section
variable {H : Type} {enc : TypeId × Value → H} {P : Program} {W : World} {base : Nat} {sp : Nat → Bool} {hd : Bool} {b0 : Nat}
/-- A slice of structs of one-cell fields: nil, or every field of every element lies in its cell, and reads by itself. -/
theorem row_open {t e : TypeId} {fs : Array Field} {fuel : Nat} {u : Value} {x : DataW H × List MemPlace} (ht : P.underlying t = some (.slice e)) (he : P.underlying e = some (.struct fs))
    (hone : oneCellFields P fs = true) (hC : P.cellsOf e = fs.size) (h : DataW.trod enc P W b0 sp hd fuel t [u] = some x) :
    u = .slice none 0 0 ∨ ∃ (a : Addr) (n c : Nat), u = .slice (some a) n c ∧ n ≤ c ∧ c ≤ maxLen ∧ ∀ i, i < n → ∃ q : Nat, ∀ (j : Nat) (f : Field), fs[j]? = some f →
      ∃ (v : Value) (y : DataW H × List MemPlace), W.cell? (a.add (i * fs.size + j)) = some v ∧ DataW.trod enc P W b0 sp hd q f.type [v] = some y := by
  rcases Go.Deep.open_slice ht h with ⟨h0, _⟩ | ⟨a, n, c, m, q, D, Pl, hcs, _, hl, hm, hmm, _, hi⟩
  · left; injection h0
  right
  refine ⟨a, n, c, by injection hcs, hl, hm, fun i hin => ?_⟩
  have him : i < m := by rw [hmm]; split <;> omega
  obtain ⟨cs, hc, ht'⟩ := hi i him
  obtain ⟨ys, q', _, _, hlen, hyl, hf⟩ := DataW.trod_struct he ht'
  obtain ⟨_, hcl, hat⟩ := World.cells?_some hc
  rw [hC] at hat hcl
  refine ⟨q', fun j f hj => ?_⟩
  obtain ⟨ho, hk⟩ := Go.Deep.hone_of hone j f hj
  have hjl : j < fs.size := (Array.getElem?_eq_some_iff.1 hj).1
  have h1 := hf j f hj
  rw [ho, hk, List.drop_eq_getElem_cons (show j < cs.length by omega)] at h1
  have h2 := hat j hjl
  rw [Go.Deep.add_add, List.getElem?_eq_getElem (show j < cs.length by omega)] at h2
  exact ⟨cs[j]'(by omega), ys[j]'(by omega), h2, by rw [List.getElem?_eq_getElem (show j < ys.length by omega)] at h1; exact h1⟩
theorem plain_addr {a : Addr} {v : Value} (h : W.cell? (a.add 0) = some v) : ∃ b off, a = ⟨b, off, none⟩ := by
  obtain ⟨b, off, s⟩ := a
  cases s with
  | none => exact ⟨b, off, rfl⟩
  | some s =>
    exfalso
    simp only [Addr.add, World.cell?] at h
    split at h
    · simp at h
    · cases h
theorem add_plain (b off k : Nat) : (⟨b, off, none⟩ : Addr).add k = ⟨b, off + k, none⟩ := by unfold Addr.add; split <;> simp_all
end
end Go.Proofs.YtcfkemchekmjbaaGreatDoor
