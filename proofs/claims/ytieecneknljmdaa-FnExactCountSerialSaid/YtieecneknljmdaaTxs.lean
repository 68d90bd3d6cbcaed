/- Contracts of the laws' own helpers on transactions: size, copy. Printed by mk_txs.py (from XDrf, XDrs, XDrs2). -/
import Derived.Test.YtieecneknljmdaaTx2
import Derived.Deep.RegionHeld3
namespace Go.Proofs.Ytieecneknljmdaa
open Go.RowKit

theorem beTx (w : World) (o : Obj) : Below w.heap.size w (w.alloc o) := (Below.refl _ _).alloc (Nat.le_refl _) o
def szTL : Int → List Tx → Int
  | l, [] => l
  | l, m :: ms => if szN l m.2.1.length < 0 then -1 else szTL (szN l m.2.1.length) ms
def szTS (left : Int) (ms : List Tx) : Int := if left < ms.length then -1 else szTL (left - ms.length) ms
theorem szTL_cons (l : Int) (m : Tx) (ms : List Tx) : szTL l (m :: ms) = if szN l m.2.1.length < 0 then -1 else szTL (szN l m.2.1.length) ms := rfl
theorem szTL_ok : ∀ (ms : List Tx) (l : Int), 0 ≤ l → 0 ≤ szTL l ms → (∀ m ∈ ms, (m.2.1.length : Int) ≤ l) ∧ szTL l ms ≤ l := by
  intro ms
  induction ms with
  | nil => intro l _ _; exact ⟨fun m h => absurd h (by simp), Int.le_refl _⟩
  | cons m ms ih =>
    intro l hl h
    rw [szTL_cons] at h ⊢
    by_cases hn : szN l m.2.1.length < 0
    · rw [if_pos hn] at h; omega
    · rw [if_neg hn] at h ⊢
      have e : szN l m.2.1.length = l - m.2.1.length ∧ (m.2.1.length : Int) ≤ l := by
        unfold szN at hn ⊢
        by_cases hh : (m.2.1.length : Int) ≤ l
        · rw [if_pos hh]; exact ⟨rfl, hh⟩
        · rw [if_neg hh] at hn; omega
      obtain ⟨h1, h2⟩ := ih _ (by omega) h
      refine ⟨fun x hx => ?_, by omega⟩
      rcases List.mem_cons.1 hx with rfl | hx
      · exact e.2
      · have := h1 x hx; omega

theorem szTL_sum : ∀ (ms : List Tx) (l : Int), 0 ≤ l → ¬ szTL l ms < 0 → (((ms.map (·.2.1.length)).sum : Nat) : Int) ≤ l := by
  intro ms
  induction ms with
  | nil => intro l h _; simpa using h
  | cons m ms ih =>
    intro l hl h
    rw [szTL_cons] at h
    by_cases hn : szN l m.2.1.length < 0
    · rw [if_pos hn] at h; omega
    · rw [if_neg hn] at h
      have e : szN l m.2.1.length = l - m.2.1.length ∧ (m.2.1.length : Int) ≤ l := by
        unfold szN at hn ⊢
        by_cases hh : (m.2.1.length : Int) ≤ l
        · rw [if_pos hh]; exact ⟨rfl, hh⟩
        · rw [if_neg hh] at hn; omega
      have := ih _ (by omega) h
      simp only [List.map_cons, List.sum_cons]
      omega
theorem szTS_ok {ms : List Tx} {n : Nat} (hl : ms.length = n) (h : ¬ szTS 1048576 ms < 0) : n ≤ 1048576 ∧ SmallT ms ∧ (ms.map (·.2.1.length)).sum + n ≤ 1048576 := by
  unfold szTS at h
  split at h
  · omega
  · have := szTL_ok ms (1048576 - ms.length) (by omega) (by omega)
    have h2 := szTL_sum ms (1048576 - ms.length) (by omega) h
    exact ⟨by omega, fun m hm => by have := this.1 m hm; omega, by omega⟩
set_option maxHeartbeats 400000 in
theorem szTxn_c {A : Option Addr} {n c : Nat} {f left : Int} {dn : Bool} {w : World} (h0 : -1 ≤ left) (h1 : left ≤ 1048576) (hn : n ≤ maxLen) :
    Calls Try.prog 9 #[.agg #[.int .i64 f, .slice A n c, .bool dn], .int .i64 left] w fun e w' => e = .returned (.int .i64 (szN left n)) ∧ Below w.heap.size w w' := by
  have b1 : Below w.heap.size w (w.alloc (.cells #[.int .i64 f, .slice A n c, .bool dn] 32)) := (Below.refl _ _).alloc (Nat.le_refl _) _
  by_cases h : (n : Int) ≤ left
  · have hf : szN left n = left - n := by simp [szN, h]
    have F := hide hf; clear hf
    go_enter Try.func9, Try.ntmps9
    go_wp2_with fail
    refine (szOpS_c h0 h1 hn).mono ?_
    rintro e w' ⟨rfl, rfl⟩
    rw [F.out]
    go_wp2_with fail
    go_ret
    exact ⟨by rw [F.out]; rfl, b1⟩
  · have hf : szN left n = -1 := by simp [szN, h]
    have F := hide hf; clear hf
    go_enter Try.func9, Try.ntmps9
    go_wp2_with fail
    refine (szOpS_c h0 h1 hn).mono ?_
    rintro e w' ⟨rfl, rfl⟩
    rw [F.out]
    go_wp2_with fail
    go_ret
    exact ⟨by rw [F.out]; rfl, b1⟩

set_option maxHeartbeats 4000000 in
theorem szTxnS_c {A : Option Addr} {n c : Nat} {ms : List Tx} {left : Int} {w : World} (hr : RTs w A n ms) (h0 : 0 ≤ left) (h1 : left ≤ 1048576) (hn : n ≤ maxLen) :
    Calls Try.prog 4 #[.slice A n c, .int .i64 left] w fun e w' => e = .returned (.int .i64 (szTS left ms)) ∧ Below w.heap.size w w' := by
  have hl := hide hr.1
  unfold maxLen at hn
  by_cases hlt : left < (n : Int)
  · have hf : szTS left ms = -1 := by unfold szTS; rw [hl.out, if_pos hlt]
    have F := hide hf; clear hf
    go_enter Try.func4, Try.ntmps4
    go_wp2_with fail
    go_ret
    exact ⟨by rw [F.out]; rfl, Below.refl _ _⟩
  · have hf : szTS left ms = szTL (left - n) ms := by unfold szTS; rw [hl.out, if_neg hlt]
    have F := hide hf; clear hf
    have hge : (n : Int) ≤ left := by omega
    go_enter Try.func4, Try.ntmps4
    go_wp2_with fail
    go_loopw [1, 5] (fun l i wr => ∃ (k : Nat) (lv : Int), k ≤ n ∧ i = .int .i64 k ∧ l = .int .i64 lv ∧ 0 ≤ lv ∧ lv ≤ 1048576 ∧ szTL lv (ms.drop k) = szTL (left - n) ms ∧ Below w.heap.size w wr) (fun _ i _ => n - (intOf i).toNat)
    case atStart => exact ⟨0, left - n, Nat.zero_le _, rfl, rfl, by omega, by omega, rfl, Below.refl _ _⟩
    case round =>
      obtain ⟨k, lv, hk, rfl, rfl, l0, l1, he, bw⟩ := hrel
      have HE := hide he; clear he
      by_cases hkn : k < n
      · obtain ⟨b, off, f, ys, dn, B, kk, d, rfl, hbb, hx, q0, q1, q3, hkd, hdm, hri⟩ := hr.at_ hkn
        have e0 := (bw.cell (p := ⟨b, off + k * 3, none⟩) hbb).trans q0
        have e1 := (bw.cell (p := ⟨b, off + k * 3 + 1, none⟩) hbb).trans q1
        have e3 := (bw.cell (p := ⟨b, off + k * 3 + 2, none⟩) hbb).trans q3
        have hyl := hri.len
        have hkl : k < ms.length := by have := hl.out; omega
        have hd : ms.drop k = (f, ys, dn) :: ms.drop (k + 1) := by
          rw [List.drop_eq_getElem_cons hkl]
          rw [List.getElem?_eq_getElem hkl] at hx
          injection hx with hx
          rw [hx]
        have hst : szTL lv (ms.drop k) = if szN lv kk < 0 then -1 else szTL (szN lv kk) (ms.drop (k + 1)) := by rw [hd, szTL_cons, show (f, ys, dn).2.1.length = kk from hyl]
        rw [HE.out] at hst
        have HS := hide hst
        clear q0 q1 q3 hx hd hst hri hyl
        have k0 : (0 : Int) ≤ k := by omega
        have k2 : (k : Int) < n := by omega
        go_wp2_with fail
        refine (szTxn_c (by omega) l1 (by omega)).mono ?_
        rintro e w2 ⟨rfl, b2⟩
        have B2 := below_step bw b2
        have hb := show szN lv kk ≤ 1048576 by unfold szN; split <;> omega
        have hb2 := show -1 ≤ szN lv kk by unfold szN; split <;> omega
        obtain ⟨z, hz⟩ : ∃ z, szN lv kk = z := ⟨_, rfl⟩
        have hs2 := HS.out
        rw [hz] at hb hb2 hs2
        rw [hz]
        by_cases hz0 : z < 0
        · rw [if_pos hz0] at hs2
          have HH := hide hs2
          clear hs2
          go_wp2_with fail
          go_ret
          exact ⟨by rw [F.out, HH.out]; rfl, B2⟩
        · rw [if_neg hz0] at hs2
          have HH := hide hs2
          clear hs2
          go_wp2_with fail
          go_roundw
          case rel => exact ⟨k + 1, z, by omega, by go_num, rfl, by omega, hb, HH.out.symm, B2⟩
          case measure => simp [intOf]; omega
      · obtain rfl : k = n := by omega
        have hfin : szTL (left - k) ms = lv := by rw [← HE.out, List.drop_eq_nil_of_le (by have := hl.out; omega)]; rfl
        have HH := hide hfin
        clear hfin
        go_wp2_with fail
        go_ret
        exact ⟨by rw [F.out, HH.out]; rfl, bw⟩

/-- The post of a function that returns a new transaction. -/
def RetX (w : World) (f : Int) (dn : Bool) (xs : List T3) (e : Ending) (w' : World) : Prop :=
  ∃ A n c, e = .returned (.agg #[.int .i64 f, .slice A n c, .bool dn]) ∧ O3 50 w' w.heap.size (.slice A n c) n xs ∧ Below w.heap.size w w'
theorem O3.set_lowX {t : TypeId} {w : World} {B n : Nat} {v : Value} {xs : List T3} (h : O3 t w B v n xs) {p : Addr} (hp : p.block < B) (u : Value) : O3 t (w.setCell p u) B v n xs := ⟨ownsRow_setCell_below h.1 hp u, h.2⟩
theorem O3.formX {t : TypeId} {w : World} {B n : Nat} {v : Value} {xs : List T3} (h : O3 t w B v n xs) : ∃ A c, v = .slice A n c ∧ n ≤ c ∧ c ≤ maxLen ∧ R3 w A n xs := by
  obtain ⟨A', c', h4, h6, h7, h5⟩ := h.s3
  rcases h.1.2 with ⟨h1, h2⟩ | ⟨g, cap, cur, h1, _, _, h2, h3, _⟩
  · rw [h1] at h4; injection h4 with e4 e5 e6; subst e4; subst e6
    exact ⟨none, 0, by rw [h1, h2], by omega, by simp [maxLen], h5⟩
  · rw [h1] at h4; injection h4 with e4 _ e6; subst e4; subst e6
    exact ⟨_, cap, h1, h2, h3, h5⟩
set_option maxHeartbeats 2000000 in
theorem toTxn_c {v : Value} {m : Nat} {ys : List T3} {f : Int} {dn : Bool} {w : World} (hv : S3 w v m ys) :
    Calls Try.prog 14 #[.agg #[.int .i64 f, v, .bool dn]] w (RetX w f dn ys) := by
  have sv := hv
  obtain ⟨B, d, rfl, _, _, _⟩ := hv
  have B0 : Below w.heap.size w (((w.alloc (.cells #[.int .i64 f, .slice B m d, .bool dn] 32)).alloc (.cells #[.int .i64 0, .slice none 0 0, .bool false] 41)).alloc (.cells #[.int .i64 f, .slice none 0 0, .bool false] 41)) := (((Below.refl _ _).alloc (Nat.le_refl _) _).alloc (by simp) _).alloc (by simp; omega) _
  have K0 := ((Blk.new w 32 #[.int .i64 f, .slice B m d, .bool dn]).alloc (.cells #[.int .i64 0, .slice none 0 0, .bool false] 41)).alloc (.cells #[.int .i64 f, .slice none 0 0, .bool false] 41)
  have K2 := Blk.new ((w.alloc (.cells #[.int .i64 f, .slice B m d, .bool dn] 32)).alloc (.cells #[.int .i64 0, .slice none 0 0, .bool false] 41)) 41 #[.int .i64 f, .slice none 0 0, .bool false]
  have K1 := (Blk.new (w.alloc (.cells #[.int .i64 f, .slice B m d, .bool dn] 32)) 41 #[.int .i64 0, .slice none 0 0, .bool false]).alloc (.cells #[.int .i64 f, .slice none 0 0, .bool false] 41)
  simp only [World.size_alloc] at K1 K2
  go_enter Try.func14, Try.ntmps14
  go_wp2_with fail
  refine (toOpS_c (sv.below B0)).mono ?_
  rintro e w2 ⟨v2, rfl, o2, b2⟩
  obtain ⟨A2, c2, rfl⟩ := o2.shape
  have B2 := below_step B0 b2
  have hz2 := b2.size
  replace K0 := K0.belowAll b2
  replace K1 := K1.belowAll b2
  replace K2 := K2.belowAll b2
  simp only [World.size_alloc] at o2 hz2
  have K0s := K0.far (p := ⟨w.heap.size + 1 + 1, 1, none⟩) (by show w.heap.size ≠ w.heap.size + 1 + 1; omega) (.slice A2 m c2)
  have K1s := (K1.far (p := ⟨w.heap.size + 1 + 1, 1, none⟩) (by simp) (.slice A2 m c2)).far (p := ⟨w.heap.size + 1 + 1, 2, none⟩) (by simp) (.bool dn)
  obtain ⟨_, _, a2⟩ := K0s.three
  obtain ⟨p0, p1, p2⟩ := K2.three
  have pf0 := K2.frozen 0; have pf1 := K2.frozen 1; have pf2 := K2.frozen 2
  obtain ⟨r0, r1, r2⟩ := K1s.three
  have rf0 := K1s.frozen 0; have rf1 := K1s.frozen 1; have rf2 := K1s.frozen 2
  go_wp2_with fail
  obtain ⟨t0, t1, t2⟩ := (((K1s.set_ 0 (.int .i64 f)).set_ 1 (.slice A2 m c2)).set_ 2 (.bool dn)).three
  refine bodyPost_ret (v := .agg #[.int .i64 f, .slice A2 m c2, .bool dn]) (by simp [results, Try.results14, go_sem, t0, t1, t2]) rfl ⟨A2, m, c2, rfl, ?_, ?_⟩
  · exact (((((o2.set_lowX (p := ⟨w.heap.size + 1 + 1, 1, none⟩) (by simp) _).set_lowX (p := ⟨w.heap.size + 1 + 1, 2, none⟩) (by simp) _).set_lowX (p := ⟨w.heap.size + 1, 0, none⟩) (by simp) _).set_lowX (p := ⟨w.heap.size + 1, 1, none⟩) (by simp) _).set_lowX (p := ⟨w.heap.size + 1, 2, none⟩) (by simp) _).mono (by omega)
  · exact ((((B2.setCell (p := ⟨w.heap.size + 1 + 1, 1, none⟩) (by simp; omega) _).setCell (p := ⟨w.heap.size + 1 + 1, 2, none⟩) (by simp; omega) _).setCell (p := ⟨w.heap.size + 1, 0, none⟩) (by simp) _).setCell (p := ⟨w.heap.size + 1, 1, none⟩) (by simp) _).setCell (p := ⟨w.heap.size + 1, 2, none⟩) (by simp) _

theorem infoTs : (Try.prog.info? 41).map (fun i => (i.zero, i.size, i.bytes)) = some (some (.agg #[.int .i64 0, .slice none 0 0, .bool false]), 3, 40) := by kernel_rfl
theorem run_make_Ts (n : Nat) (hn : n ≤ 1048576) (w : World) :
    (Instr.makeSlice 25 (.int .i64 (n : Int)) (.int .i64 (n : Int))).run Try.prog w = .ok (.slice (some ⟨w.heap.size, 0, none⟩) n n) (w.alloc (.cells (madeCells #[.int .i64 0, .slice none 0 0, .bool false] (n * 3)) 41)) := by
  obtain ⟨i, hi, hz, hs, hb⟩ := info_parts infoTs
  rw [run_make_rowN 25 41 i (.agg #[.int .i64 0, .slice none 0 0, .bool false]) Try.underlying25 hi hz .i64 .i64 n n (Nat.le_refl _) (by rw [hb]; omega) (by omega) w, hs]
  rfl
def MadeT (w : World) (g n k : Nat) (ms : List Tx) (cs : List Value) : Prop := cs.length = n * 3 ∧ Blk w g 41 cs.toArray ∧
  ∀ (j : Nat) (m : Tx), j < k → ms[j]? = some m → ∃ (B : Option Addr) (kk d : Nat), cs[j * 3]? = some (.int .i64 m.1) ∧ cs[j * 3 + 1]? = some (.slice B kk d) ∧ cs[j * 3 + 2]? = some (.bool m.2.2) ∧ O3 50 w (g + 1) (.slice B kk d) kk m.2.1
theorem MadeT.step {w w2 : World} {g n k : Nat} {ms : List Tx} {cs : List Value} {f : Int} {ys : List T3} {dn : Bool} {B : Option Addr} {kk d B0 : Nat} (h : MadeT w g n k ms cs) (hk : k < n) (hx : ms[k]? = some (f, ys, dn)) (b : Below w.heap.size w w2) (o : O3 50 w2 B0 (.slice B kk d) kk ys) (hB : g + 1 ≤ B0) :
    MadeT (((w2.setCell ⟨g, k * 3, none⟩ (.int .i64 f)).setCell ⟨g, k * 3 + 1, none⟩ (.slice B kk d)).setCell ⟨g, k * 3 + 2, none⟩ (.bool dn)) g n (k + 1) ms (((cs.set (k * 3) (.int .i64 f)).set (k * 3 + 1) (.slice B kk d)).set (k * 3 + 2) (.bool dn)) := by
  obtain ⟨h1, h2, h3⟩ := h
  refine ⟨by simp [h1], ?_, fun j m hj hm => ?_⟩
  · have := (((h2.belowAll b).set_ (k * 3) (.int .i64 f)).set_ (k * 3 + 1) (.slice B kk d)).set_ (k * 3 + 2) (.bool dn)
    simpa using this
  · by_cases hjk : j = k
    · subst hjk
      rw [hx] at hm
      injection hm with hm
      subst hm
      refine ⟨B, kk, d, ?_, ?_, ?_, (((o.mono hB).set_lowX (p := ⟨g, j * 3, none⟩) (by show g < g + 1; omega) _).set_lowX (p := ⟨g, j * 3 + 1, none⟩) (by show g < g + 1; omega) _).set_lowX (p := ⟨g, j * 3 + 2, none⟩) (by show g < g + 1; omega) _⟩
      · rw [List.getElem?_set_ne (by omega), List.getElem?_set_ne (by omega), List.getElem?_set_self (by omega)]
      · rw [List.getElem?_set_ne (by omega), List.getElem?_set_self (by simp; omega)]
      · rw [List.getElem?_set_self (by simp; omega)]
    · obtain ⟨B', kk', d', e1, e2, e3, o'⟩ := h3 j m (by omega) hm
      refine ⟨B', kk', d', ?_, ?_, ?_, (((o'.below b).set_lowX (p := ⟨g, k * 3, none⟩) (by show g < g + 1; omega) _).set_lowX (p := ⟨g, k * 3 + 1, none⟩) (by show g < g + 1; omega) _).set_lowX (p := ⟨g, k * 3 + 2, none⟩) (by show g < g + 1; omega) _⟩
      · rw [List.getElem?_set_ne (by omega), List.getElem?_set_ne (by omega), List.getElem?_set_ne (by omega)]; exact e1
      · rw [List.getElem?_set_ne (by omega), List.getElem?_set_ne (by omega), List.getElem?_set_ne (by omega)]; exact e2
      · rw [List.getElem?_set_ne (by omega), List.getElem?_set_ne (by omega), List.getElem?_set_ne (by omega)]; exact e3
theorem MadeT.rm {w : World} {g n : Nat} {ms : List Tx} {cs : List Value} (h : MadeT w g n n ms cs) (hl : ms.length = n) : RTs w (some ⟨g, 0, none⟩) n ms := by
  obtain ⟨h1, h2, h3⟩ := h
  refine ⟨hl, fun _ => ⟨g, 0, rfl, h2.lt, fun k m hm => ?_⟩⟩
  have hk : k < ms.length := by
    rcases Nat.lt_or_ge k ms.length with h | h
    · exact h
    · rw [List.getElem?_eq_none h] at hm; cases hm
  obtain ⟨B, kk, d, e1, e2, e4, o⟩ := h3 k m (by omega) hm
  obtain ⟨B', d', e3, hd, hm', hri⟩ := o.formX
  injection e3 with e3a _ e3c; subst e3a; subst e3c
  refine ⟨B, kk, d, ?_, ?_, ?_, hd, hm', hri⟩
  · rw [Nat.zero_add, h2.cell]; simpa using e1
  · rw [Nat.zero_add, h2.cell]; simpa using e2
  · rw [Nat.zero_add, h2.cell]; simpa using e4

set_option maxHeartbeats 8000000 in
theorem toTxnS_c {A : Option Addr} {n c : Nat} {ms : List Tx} {w : World} (hr : RTs w A n ms) (hn : n ≤ 1048576) (hsm : SmallT ms) :
    Calls Try.prog 6 #[.slice A n c] w fun e w' => e = .returned (.slice (some ⟨w.heap.size, 0, none⟩) n n) ∧ RTs w' (some ⟨w.heap.size, 0, none⟩) n ms ∧ Below w.heap.size w w' := by
  have hl := hide hr.1
  have hmk := run_make_Ts n hn
  have K0 := Blk.new w 41 (madeCells #[.int .i64 0, .slice none 0 0, .bool false] (n * 3))
  have M0 : MadeT (w.alloc (.cells (madeCells #[.int .i64 0, .slice none 0 0, .bool false] (n * 3)) 41)) w.heap.size n 0 ms (madeCells #[.int .i64 0, .slice none 0 0, .bool false] (n * 3)).toList :=
    ⟨by simp [madeCells], by simpa using K0, fun j m h => absurd h (by omega)⟩
  have B0 := beTx w (.cells (madeCells #[.int .i64 0, .slice none 0 0, .bool false] (n * 3)) 41)
  go_enter Try.func6, Try.ntmps6
  go_wp2_with fail
  go_loopw [4] (fun i wr => ∃ (k : Nat) (cs : List Value), k ≤ n ∧ i = .int .i64 k ∧ MadeT wr w.heap.size n k ms cs ∧ Below w.heap.size w wr) (fun i _ => n - (intOf i).toNat)
  case atStart => exact ⟨0, _, Nat.zero_le _, rfl, M0, B0⟩
  case round =>
    clear M0 B0 K0
    obtain ⟨k, cs, hk, rfl, M, bw⟩ := hrel
    by_cases hkn : k < n
    · obtain ⟨b, off, f, ys, dn, B, kk, d, rfl, hbb, hx, q0, q1, q3, hkd, hdm, hri⟩ := hr.at_ hkn
      have e0 := (bw.cell (p := ⟨b, off + k * 3, none⟩) hbb).trans q0
      have e1 := (bw.cell (p := ⟨b, off + k * 3 + 1, none⟩) hbb).trans q1
      have e3 := (bw.cell (p := ⟨b, off + k * 3 + 2, none⟩) hbb).trans q3
      have hsz := hsm _ (List.mem_of_getElem? hx)
      have hk1 : kk ≤ 1048576 := by have := hri.len; dsimp only at hsz; omega
      have s1 : S3 w (.slice B kk d) kk ys := S3.of_args hkd hk1 hri
      have Hx := hide hx
      clear hx q0 q1 q3 hsz hri
      have k0 : (0 : Int) ≤ k := by omega
      have k2 : (k : Int) < n := by omega
      go_wp2_with fail
      refine (toTxn_c (s1.below bw)).mono ?_
      rintro e w2 ⟨A2, n2, c2, rfl, o2, b2⟩
      have B2 := below_step bw b2
      have K2 := M.2.1.belowAll b2
      have hlt := M.2.1.lt
      have hcl := M.1
      have f0 : ∃ u, w2.cell? ⟨w.heap.size, k * 3, none⟩ = some u := ⟨cs[k * 3]'(by omega), by rw [K2.cell]; simp [show k * 3 < cs.length by omega]⟩
      have f1 : ∃ u, w2.cell? ⟨w.heap.size, k * 3 + 1, none⟩ = some u := ⟨cs[k * 3 + 1]'(by omega), by rw [K2.cell]; simp [show k * 3 + 1 < cs.length by omega]⟩
      have f2 : ∃ u, w2.cell? ⟨w.heap.size, k * 3 + 2, none⟩ = some u := ⟨cs[k * 3 + 2]'(by omega), by rw [K2.cell]; simp [show k * 3 + 2 < cs.length by omega]⟩
      obtain ⟨u0, f0⟩ := f0
      obtain ⟨u1, f1⟩ := f1
      obtain ⟨u2, f2⟩ := f2
      have g0 := K2.frozen (k * 3)
      have g1 := K2.frozen (k * 3 + 1)
      have g2 := K2.frozen (k * 3 + 2)
      go_wp2_with fail
      go_roundw
      case rel => exact ⟨k + 1, _, by omega, by go_num, M.step hkn Hx.out b2 o2 (by omega), ((B2.setCell (p := ⟨w.heap.size, k * 3, none⟩) (Nat.le_refl _) _).setCell (p := ⟨w.heap.size, k * 3 + 1, none⟩) (Nat.le_refl _) _).setCell (p := ⟨w.heap.size, k * 3 + 2, none⟩) (Nat.le_refl _) _⟩
      case measure => simp [intOf]; omega
    · obtain rfl : k = n := by omega
      go_wp2_with fail
      go_ret
      exact ⟨rfl, M.rm hl.out, bw⟩

end Go.Proofs.Ytieecneknljmdaa
