/- The scanner's session and step. -/
import Derived.Test.YtefopnkicllpeaaDoorSpD
namespace Go.Proofs.YtefopnkicllpeaaDoor
open Go.RowKit

/-- What Atoi answers: some number, an error or none; a digit is read right. -/
def AtR (l : List UInt8) (w : World) (e : Ending) (w' : World) : Prop := ∃ (n : Int) (ev : Value) (ok : Bool), e = .returned (.tuple #[.int .i64 n, ev]) ∧ Below w.heap.size w w' ∧ ((ok = true ∧ ev = .nilIface) ∨ (ok = false ∧ ∃ t v, ev = .iface t v)) ∧ (∀ d : UInt8, l = [d] → 48 ≤ d.toNat → d.toNat ≤ 57 → n = (d.toNat : Int) - 48 ∧ ok = true)
def SesR (w : World) (b : Nat) (ls : List (List UInt8)) (bad : Bool) (e : Ending) (w' : World) : Prop :=
  ∃ (n : Int) (ok : Bool), e = .returned (.int .i64 n) ∧ Scan w' b ls.tail (bad || ls.isEmpty || !hasS (ls.headD []) || !ok) ∧ w.grownBy w' (some b) ∧
    (∀ d : UInt8, ls.headD [] = [115, d] → 48 ≤ d.toNat → d.toNat ≤ 57 → n = (d.toNat : Int) - 48 ∧ ok = true)
set_option maxRecDepth 100000 in
set_option maxHeartbeats 400000 in
theorem session_c {w : World} {b : Nat} {ls : List (List UInt8)} {bad : Bool} (h : Scan w b ls bad) (hA : ∀ w', w.grownBy w' (some b) → Calls Tryd.prog 43 #[.string (str (cutS (ls.headD [])))] w' (AtR (cutS (ls.headD [])) w')) :
    Calls Tryd.prog 21 #[.pointer (some ⟨b, 0, none⟩)] w (SesR w b ls bad) := by
  have hnx := next_c h
  unfold NextR at hnx
  obtain ⟨x, hx⟩ : ∃ x, ls.headD [] = x := ⟨_, rfl⟩
  rw [hx] at hnx hA
  unfold SesR
  rw [hx]
  have HN := hide hnx
  clear hnx hx h
  go_enter Tryd.func21, Tryd.ntmps21
  go_wp2_with fail
  refine HN.out.mono ?_
  rintro e w2 ⟨rfl, s2, g2⟩
  go_wp2_with fail
  refine (CutPrefix_c).mono ?_
  rintro e w3 ⟨rfl, rfl⟩
  go_wp2_with fail
  refine (hA _ g2).mono ?_
  rintro e w4 ⟨n, ev, ok, rfl, b4, hev, hd⟩
  have s4 := s2.below b4
  obtain ⟨A, q, c, hK, hnc, hn, hr, hne⟩ := s4
  obtain ⟨k0, k1, f0, f1⟩ := hK.two
  have g4 : w.grownBy w4 (some b) := ⟨b4.os.trans g2.os, b4.tape.trans g2.tape, b4.output.trans g2.output, Nat.le_trans g2.size b4.size, fun i hi hn => (b4.block i (Nat.lt_of_lt_of_le hi g2.size)).trans (g2.block i hi hn)⟩
  have HK := hide hK; have HR := hide hr; have HNE := hide hne; have HD := hide hd; have G4 := hide g4
  clear hK hr hne hd s2 g2 b4 g4
  obtain ⟨B1, hB1⟩ : ∃ q, (bad || ls.isEmpty) = q := ⟨_, rfl⟩
  obtain ⟨B2, hB2⟩ : ∃ q, hasS x = q := ⟨_, rfl⟩
  rw [hB1] at k1 HK
  rw [hB2]
  have HB1 := hide hB1; have HB2 := hide hB2
  clear hB1 hB2
  have fin : ∀ z : Bool, z = (B1 || !B2 || !ok) → ∃ (n' : Int) (ok' : Bool), Ending.returned (.int .i64 n) = .returned (.int .i64 n') ∧ Scan (w4.setCell ⟨b, 1, none⟩ (.bool z)) b ls.tail (bad || ls.isEmpty || !hasS x || !ok') ∧ w.grownBy (w4.setCell ⟨b, 1, none⟩ (.bool z)) (some b) ∧
      (∀ d : UInt8, x = [115, d] → 48 ≤ d.toNat → d.toNat ≤ 57 → n' = (d.toNat : Int) - 48 ∧ ok' = true) := fun z hz => by
    refine ⟨n, ok, rfl, ⟨A, q, c, ?_, hnc, hn, HR.out.far (p := ⟨b, 1, none⟩) HNE.out.1 _, HNE.out.1, HNE.out.2.set _ _ _⟩, grown_setCell (p := ⟨b, 1, none⟩) G4.out (.inl rfl) _, fun d hd h1 h2 => HD.out d (by rw [hd]; rfl) h1 h2⟩
    rw [HB1.out, HB2.out, ← hz]
    have := HK.out.set_ 1 (.bool z)
    simpa using this
  have FIN := hide fin
  clear fin
  rcases hev with ⟨rfl, rfl⟩ | ⟨rfl, tt, vv, rfl⟩
  · cases B1
    · cases B2
      · go_wp2_with fail
        go_ret
        exact FIN.out true rfl
      · go_wp2_with fail
        go_ret
        exact FIN.out false rfl
    · cases B2
      · go_wp2_with fail
        go_ret
        exact FIN.out true rfl
      · go_wp2_with fail
        go_ret
        exact FIN.out true rfl
  · cases B1
    · cases B2
      · go_wp2_with fail
        go_ret
        exact FIN.out true rfl
      · go_wp2_with fail
        go_ret
        exact FIN.out true rfl
    · cases B2
      · go_wp2_with fail
        go_ret
        exact FIN.out true rfl
      · go_wp2_with fail
        go_ret
        exact FIN.out true rfl
/-- What a word says as a step. -/
def stepOf (x : List UInt8) : Option T3 := match x with
  | [a, c] => some (if a = 119 then 2 else 1, (c.toNat : Int) - 48, 0)
  | _ => none
def StepR (w : World) (b : Nat) (ls : List (List UInt8)) (bad : Bool) (e : Ending) (w' : World) : Prop :=
  e = .returned (.agg #[.int .i64 ((stepOf (ls.headD [])).getD (0, 0, 0)).1, .int .i64 ((stepOf (ls.headD [])).getD (0, 0, 0)).2.1, .int .i64 ((stepOf (ls.headD [])).getD (0, 0, 0)).2.2]) ∧
  Scan w' b ls.tail (bad || (stepOf (ls.headD [])).isNone) ∧ w.grownBy w' (some b)
theorem RT.farI {w : World} {A : Option Addr} {n : Nat} {ls : List (List UInt8)} (h : RT w A n ls) {p : Addr} {k : IntKind} {i : Int} (hp : w.cell? p = some (.int k i)) (v : Value) : RT (w.setCell p v) A n ls :=
  ⟨h.1, fun hn => by
    obtain ⟨b, off, rfl, hlt, hc⟩ := h.2 hn
    refine ⟨b, off, rfl, by rw [size_setCell]; exact hlt, fun k' y hk => (World.cell?_setCell_other w p ⟨b, off + k', none⟩ v (fun e => ?_)).trans (hc k' y hk)⟩
    have := hc k' y hk
    rw [← e, hp] at this
    cases this⟩
/-- A scanner stays while a box of three ints of another block is written. -/
theorem Scan.put3 {w : World} {b g : Nat} {t : TypeId} {ls : List (List UInt8)} {bad : Bool} {x y z : Int} (h : Scan w b ls bad) (hK : Blk w g t #[.int .i64 x, .int .i64 y, .int .i64 z]) (hne : b ≠ g) (x' y' z' : Int) :
    Scan (((w.setCell ⟨g, 0, none⟩ (.int .i64 x')).setCell ⟨g, 1, none⟩ (.int .i64 y')).setCell ⟨g, 2, none⟩ (.int .i64 z')) b ls bad ∧
    Blk (((w.setCell ⟨g, 0, none⟩ (.int .i64 x')).setCell ⟨g, 1, none⟩ (.int .i64 y')).setCell ⟨g, 2, none⟩ (.int .i64 z')) g t #[.int .i64 x', .int .i64 y', .int .i64 z'] := by
  obtain ⟨A, n, q, k, hnc, hn, hr, hx⟩ := h
  have K1 : Blk _ _ _ #[.int .i64 x', .int .i64 y, .int .i64 z] := hK.set_ 0 (.int .i64 x')
  have K2 : Blk _ _ _ #[.int .i64 x', .int .i64 y', .int .i64 z] := K1.set_ 1 (.int .i64 y')
  have K3 : Blk _ _ _ #[.int .i64 x', .int .i64 y', .int .i64 z'] := K2.set_ 2 (.int .i64 z')
  exact ⟨⟨A, n, q, ((k.far hne _).far hne _).far hne _, hnc, hn, ((hr.farI (hK.cell 0) _).farI (K1.cell 1) _).farI (K2.cell 2) _, hx.1, ((hx.2.set _ _ _).set _ _ _).set _ _ _⟩, K3⟩
theorem grown_put3 {a w : World} {b g : Nat} (h : a.grownBy w (some b)) (hg : a.heap.size ≤ g) (u v x : Value) : a.grownBy (((w.setCell ⟨g, 0, none⟩ u).setCell ⟨g, 1, none⟩ v).setCell ⟨g, 2, none⟩ x) (some b) :=
  grown_setCell (p := ⟨g, 2, none⟩) (grown_setCell (p := ⟨g, 1, none⟩) (grown_setCell (p := ⟨g, 0, none⟩) h (.inr hg) u) (.inr hg) v) (.inr hg) x
theorem grown_allocS {a w : World} {b : Nat} (h : a.grownBy w (some b)) (o : Obj) : a.grownBy (w.alloc o) (some b) :=
  have b1 : Below w.heap.size w (w.alloc o) := (Below.refl _ _).alloc (Nat.le_refl _) _
  ⟨b1.os.trans h.os, b1.tape.trans h.tape, b1.output.trans h.output, Nat.le_trans h.size b1.size, fun i hi hn => (b1.block i (Nat.lt_of_lt_of_le hi h.size)).trans (h.block i hi hn)⟩
theorem stepOf_nil : stepOf [] = none := rfl
set_option maxRecDepth 100000 in
set_option maxHeartbeats 400000 in
theorem step_c {w : World} {b : Nat} {ls : List (List UInt8)} {bad : Bool} (h : Scan w b ls bad) : Calls Tryd.prog 22 #[.pointer (some ⟨b, 0, none⟩)] w (StepR w b ls bad) := by
  have b0 : Below w.heap.size w (w.alloc (.cells #[.int .i64 0, .int .i64 0, .int .i64 0] 42)) := (Below.refl _ _).alloc (Nat.le_refl _) _
  have hnx := next_c (h.below b0)
  unfold NextR at hnx
  obtain ⟨x, hx⟩ : ∃ x, ls.headD [] = x := ⟨_, rfl⟩
  have hemp : ls.isEmpty = true → x = [] := fun he => by
    rw [← hx]
    cases ls with
    | nil => rfl
    | cons a r => cases he
  rw [hx] at hnx
  unfold StepR
  rw [hx]
  have HN := hide hnx; have HE := hide hemp; have B0 := hide b0
  have KO := Blk.new w 42 #[.int .i64 0, .int .i64 0, .int .i64 0]
  have hbl : b < w.heap.size := by obtain ⟨A, n, c, hK, _⟩ := h; exact hK.lt
  have HKO := hide KO
  clear hnx hx hemp h b0 KO
  have hsz := str_size x
  go_enter Tryd.func22, Tryd.ntmps22
  go_wp2_with fail
  refine HN.out.mono ?_
  rintro e w2 ⟨rfl, s2, g2⟩
  have g2' : w.grownBy w2 (some b) := ⟨g2.os.trans B0.out.os, g2.tape.trans B0.out.tape, g2.output.trans B0.out.output, Nat.le_trans B0.out.size g2.size, fun i hi hn => (g2.block i (Nat.lt_of_lt_of_le hi B0.out.size) hn).trans (B0.out.block i hi)⟩
  have ko2 : Blk w2 w.heap.size 42 #[.int .i64 0, .int .i64 0, .int .i64 0] := HKO.out.grown g2 (fun e => by injection e with e; omega)
  have G2 := hide g2'
  have S2 := hide s2
  have hlt : w.heap.size < w2.heap.size := ko2.lt
  have e0 := ko2.cell 0; have e1 := ko2.cell 1; have e2 := ko2.cell 2; have r0 := ko2.frozen 0; have r1 := ko2.frozen 1; have r2 := ko2.frozen 2
  simp only [List.getElem?_toArray, List.getElem?_cons_zero, List.getElem?_cons_succ] at e0 e1 e2
  have KO2 := hide ko2
  clear ko2
  have hne0 : b ≠ w.heap.size := by omega
  have hne1 : w.heap.size ≠ b := by omega
  clear g2 g2' s2 HN HKO B0
  by_cases h2 : ∃ a c, x = [a, c]
  · obtain ⟨a, c, rfl⟩ := h2
    clear hsz
    have hstr : str [a, c] = ⟨#[a, c]⟩ := rfl
    have hi0 : (ByteArray.mk #[a, c])[0]'(by show 0 < 2; omega) = a := rfl
    have hi1 : (ByteArray.mk #[a, c])[1]'(by show 1 < 2; omega) = c := rfl
    have hsz : ((ByteArray.mk #[a, c]).size : Int) = 2 := rfl
    have hc : c.toNat < 256 := c.toNat_lt
    have hw1 : wrap64 (c.toNat : Int) = c.toNat := IntWalk.wrap64_in _ (by omega)
    have hw2 : wrap64 ((c.toNat : Int) - 48) = c.toNat - 48 := IntWalk.wrap64_in _ (by omega)
    have ha : ((a.toNat : Int) == 119) = (a == 119) := by
      rw [Bool.eq_iff_iff, beq_iff_eq, beq_iff_eq]
      constructor
      · intro h; apply UInt8.toNat_inj.mp; exact_mod_cast h
      · rintro rfl; rfl
    have hst : stepOf [a, c] = some (if a = 119 then 2 else 1, (c.toNat : Int) - 48, 0) := rfl
    have HST := hide hst
    clear hst
    rw [hstr]
    by_cases h : a = 119
    · subst h
      clear ha
      go_wp2_with fail
      obtain ⟨s3, k3⟩ := S2.out.put3 KO2.out hne0 2 (↑c.toNat - 48) 0
      have s4 := s3.below ((Below.refl _ _).alloc (Nat.le_refl _) (.cells #[.int .i64 2, .int .i64 (↑c.toNat - 48), .int .i64 0] 42))
      have k4 := k3.alloc (.cells #[.int .i64 2, .int .i64 (↑c.toNat - 48), .int .i64 0] 42)
      have g4 := grown_allocS (grown_put3 G2.out (g := w.heap.size) (Nat.le_refl _) (.int .i64 2) (.int .i64 (↑c.toNat - 48)) (.int .i64 0))  (.cells #[.int .i64 2, .int .i64 (↑c.toNat - 48), .int .i64 0] 42)
      have t0 := k4.cell 0; have t1 := k4.cell 1; have t2 := k4.cell 2
      simp only [List.getElem?_toArray, List.getElem?_cons_zero, List.getElem?_cons_succ] at t0 t1 t2
      have he : ls.isEmpty = false := by
        cases hq : ls.isEmpty
        · rfl
        · exact absurd (HE.out hq) (by simp)
      refine bodyPost_ret (v := .agg #[.int .i64 2, .int .i64 (↑c.toNat - 48), .int .i64 0]) (by simp [results, Tryd.results22, go_sem, t0, t1, t2]) rfl ?_
      refine ⟨by rw [HST.out]; simp , ?_, g4⟩
      rw [HST.out]
      rw [he] at s4
      exact s4
    · have h' : ((a.toNat : Int) == 119) = false := by rw [ha]; simpa using h
      clear ha
      go_wp2_with fail
      obtain ⟨s3, k3⟩ := S2.out.put3 KO2.out hne0 1 (↑c.toNat - 48) 0
      have s4 := s3.below ((Below.refl _ _).alloc (Nat.le_refl _) (.cells #[.int .i64 1, .int .i64 (↑c.toNat - 48), .int .i64 0] 42))
      have k4 := k3.alloc (.cells #[.int .i64 1, .int .i64 (↑c.toNat - 48), .int .i64 0] 42)
      have g4 := grown_allocS (grown_put3 G2.out (g := w.heap.size) (Nat.le_refl _) (.int .i64 1) (.int .i64 (↑c.toNat - 48)) (.int .i64 0))  (.cells #[.int .i64 1, .int .i64 (↑c.toNat - 48), .int .i64 0] 42)
      have t0 := k4.cell 0; have t1 := k4.cell 1; have t2 := k4.cell 2
      simp only [List.getElem?_toArray, List.getElem?_cons_zero, List.getElem?_cons_succ] at t0 t1 t2
      have he : ls.isEmpty = false := by
        cases hq : ls.isEmpty
        · rfl
        · exact absurd (HE.out hq) (by simp)
      refine bodyPost_ret (v := .agg #[.int .i64 1, .int .i64 (↑c.toNat - 48), .int .i64 0]) (by simp [results, Tryd.results22, go_sem, t0, t1, t2]) rfl ?_
      refine ⟨by rw [HST.out]; simp [h], ?_, g4⟩
      rw [HST.out]
      rw [he] at s4
      exact s4
  · have h3 : Hid (stepOf x = none) := by
      apply hide
      unfold stepOf
      split
      · rename_i a c; exact absurd ⟨_, _, rfl⟩ h2
      · rfl
    have hlen : (x.length == 2) = false := by
      rw [beq_eq_false_iff_ne]
      intro hl
      match x, hl with
      | [a, c], _ => exact h2 ⟨a, c, rfl⟩
    obtain ⟨A, n, q, hK, hnc, hn, hr, hne⟩ := S2.out
    obtain ⟨k0, k1, f0, f1⟩ := hK.two
    have HK := hide hK; have HR := hide hr; have HNE := hide hne
    clear hK hr hne
    go_wp2_with fail
    have s2' : Scan (w2.setCell ⟨b, 1, none⟩ (.bool true)) b ls.tail true := ⟨A, n, q, by have := HK.out.set_ 1 (.bool true); simpa using this, hnc, hn, HR.out.far (p := ⟨b, 1, none⟩) HNE.out.1 _, HNE.out.1, HNE.out.2.set _ _ _⟩
    obtain ⟨s3, k3⟩ := s2'.put3 (KO2.out.far (p := ⟨b, 1, none⟩) hne1 _) hne0 0 0 0
    have g4 := grown_put3 (grown_setCell (p := ⟨b, 1, none⟩) G2.out (.inl rfl) (.bool true)) (g := w.heap.size) (Nat.le_refl _) (.int .i64 0) (.int .i64 0) (.int .i64 0)
    have t0 := k3.cell 0; have t1 := k3.cell 1; have t2 := k3.cell 2
    simp only [List.getElem?_toArray, List.getElem?_cons_zero, List.getElem?_cons_succ] at t0 t1 t2
    refine bodyPost_ret (v := .agg #[.int .i64 0, .int .i64 0, .int .i64 0]) (by simp [results, Tryd.results22, go_sem, t0, t1, t2]) rfl ?_
    refine ⟨by rw [h3.out]; rfl, ?_, g4⟩
    rw [h3.out]
    simpa using s3

end Go.Proofs.YtefopnkicllpeaaDoor
