/- Merged (what the law reaches): DrawH1. -/
import Derived.Test.YtcfkemchekmjbaaGreatDoorQc
namespace Go.Proofs.YtcfkemchekmjbaaGreatDoor
open Go.RowKit
theorem infoTh : (Tryz.prog.info? 66).map (fun i => (i.zero, i.size, i.bytes)) = some (some (.agg #[.int .i64 0, .slice none 0 0, .bool false]), 3, 40) := by kernel_rfl
theorem infoOh : (Tryz.prog.info? 61).map (fun i => (i.zero, i.size, i.bytes)) = some (some (.agg #[.int .i64 0, .int .i64 0, .int .i64 0]), 3, 24) := by kernel_rfl
/-- The operations of a transaction: a row of the call's own, at most 100. -/
def EO (w : World) (lo : Nat) (u : Value) : Prop := ∃ (m : Nat) (ys : List T3), O3 61 w lo u m ys ∧ m ≤ 100
def MT (w : World) (lo : Nat) (cs : List Value) (n : Nat) : Prop := cs.length = n * 3 ∧ ∀ j, j < n → ∃ f u d, cs[j * 3]? = some (.int .i64 f) ∧ cs[j * 3 + 1]? = some u ∧ cs[j * 3 + 2]? = some (.bool d) ∧ EO w lo u
/-- n transactions in a row of the call's own. -/
def TO (w : World) (lo : Nat) (v : Value) (n : Nat) : Prop := ∃ cs, w.ownsRow lo 66 3 v n cs ∧ MT w lo cs n
section
variable {w w' : World} {g lo n : Nat} {v : Value}
theorem own_ne {t t' : TypeId} {s s' B B' k : Nat} {q : Value} {xs ys : List Value} (h : w.ownsRow B t s q k xs) (hv : w.ownsRow B' t' s' v n ys) (ht : t ≠ t') : q.ownBlock = none ∨ q.ownBlock ≠ v.ownBlock := by
  rcases h.2 with ⟨rfl, _⟩ | ⟨g1, cap, cur, rfl, _, hh, _⟩
  · left; rfl
  · right
    rcases hv.2 with ⟨rfl, _⟩ | ⟨g2, cap2, cur2, rfl, _, hh2, _⟩
    · simp [Value.ownBlock]
    · intro he
      have e : g1 = g2 := by have h : some g1 = some g2 := he; injection h
      subst e
      rw [hh] at hh2; injection hh2 with hh2; injection hh2 with _ h2; exact absurd h2 ht
theorem own_neB {t t' : TypeId} {s B k b : Nat} {q : Value} {xs : List Value} {cs : Array Value} (h : w.ownsRow B t s q k xs) (hb : Blk w b t' cs) (ht : t ≠ t') : q.ownBlock = none ∨ q.ownBlock ≠ some b := by
  rcases h.2 with ⟨rfl, _⟩ | ⟨g1, cap, cur, rfl, _, hh, _⟩
  · left; rfl
  · right
    intro he
    have e : g1 = b := by have h : some g1 = some b := he; injection h
    subst e
    unfold Blk at hb; rw [hh] at hb; injection hb with hb; injection hb with _ h2; exact absurd h2 ht
theorem own_bne {t : TypeId} {s B k : Nat} {q : Value} {xs : List Value} (h : w.ownsRow B t s q k xs) (hg : g < B) : q.ownBlock = none ∨ q.ownBlock ≠ some g := by
  cases hv : q.ownBlock with
  | none => exact .inl rfl
  | some k => right; intro e; injection e with e; have := (World.ownsRow.lt h k hv).1; omega
theorem own_bel {t : TypeId} {s B k : Nat} {q : Value} {xs : List Value} (h : w.ownsRow B t s q k xs) (hb : Below w.heap.size w w') : w'.ownsRow B t s q k xs :=
  h.kept (row := none) ⟨hb.os, hb.tape, hb.output, hb.size, fun k hk _ => hb.block k hk⟩ (by cases hv : q.ownBlock <;> simp)
theorem own_low {t : TypeId} {s B B' k : Nat} {q : Value} {xs : List Value} (h : w.ownsRow B t s q k xs) (hB : B' ≤ B) : w.ownsRow B' t s q k xs := by
  refine ⟨h.1, ?_⟩
  rcases h.2 with h2 | ⟨g, cap, cur, hv, hb, r⟩
  · exact .inl h2
  · exact .inr ⟨g, cap, cur, hv, by omega, r⟩
theorem EO.map {u : Value} {lo' : Nat} (h : EO w lo u) (f : ∀ m ys, O3 61 w lo u m ys → O3 61 w' lo' u m ys) : EO w' lo' u := by
  obtain ⟨m, ys, o, hm⟩ := h; exact ⟨m, ys, f m ys o, hm⟩
theorem MT.map {cs : List Value} {lo' : Nat} (h : MT w lo cs n) (f : ∀ u, EO w lo u → EO w' lo' u) : MT w' lo' cs n :=
  ⟨h.1, fun j hj => by obtain ⟨a, u, d, h1, h2, h3, h4⟩ := h.2 j hj; exact ⟨a, u, d, h1, h2, h3, f u h4⟩⟩
theorem EO.kp {u : Value} (h : EO w lo u) (hg : w.grownBy w' (some g)) (hl : g < lo) : EO w' lo u := h.map (fun _ _ o => ⟨o.1.kept hg (own_bne o.1 hl), o.2⟩)
theorem TO.kp (h : TO w lo v n) (hg : w.grownBy w' (some g)) (hl : g < lo) : TO w' lo v n := by
  obtain ⟨cs, h1, h2⟩ := h
  exact ⟨cs, h1.kept hg (own_bne h1 hl), h2.map (fun _ h => h.kp hg hl)⟩
theorem TO.below (h : TO w lo v n) (hb : Below w.heap.size w w') : TO w' lo v n := by
  obtain ⟨cs, h1, h2⟩ := h
  exact ⟨cs, own_bel h1 hb, h2.map (fun _ h => h.map (fun _ _ o => o.below hb))⟩
theorem TO.alloc (h : TO w lo v n) (o : Obj) : TO (w.alloc o) lo v n := h.below (beB0 _ _)
theorem TO.mono {lo' : Nat} (h : TO w lo v n) (hl : lo' ≤ lo) : TO w lo' v n := by
  obtain ⟨cs, h1, h2⟩ := h
  exact ⟨cs, own_low h1 hl, h2.map (fun _ h => h.map (fun _ _ o => o.mono hl))⟩
theorem TO.empty (w : World) : TO (w.alloc (.cells #[] 66)) w.heap.size (.slice (some ⟨w.heap.size, 0, none⟩) 0 0) 0 :=
  ⟨[], ⟨rfl, .inr ⟨w.heap.size, 0, #[], rfl, Nat.le_refl _, Blk.new w _ _, Nat.le_refl _, by simp [maxLen], rfl, rfl⟩⟩, rfl, fun j hj => absurd hj (by omega)⟩
theorem TO.grows {a : World} {row : Option Nat} (h : a.grownBy w row) (o : TO w lo v n) (hB : a.heap.size ≤ lo) (k : w.grownBy w' v.ownBlock) : a.grownBy w' row := by
  obtain ⟨cs, o, _⟩ := o
  exact ⟨k.os.trans h.os, k.tape.trans h.tape, k.output.trans h.output, Nat.le_trans h.size k.size, fun i hi hn => (k.block i (Nat.lt_of_lt_of_le hi h.size) (fun e => by have := (World.ownsRow.lt o i e.symm).1; omega)).trans (h.block i hi hn)⟩
theorem TO.rd {P : Nat} (o : TO w lo v n) (r : RD w g P) (hB : g < lo) (k : w.grownBy w' v.ownBlock) : RD w' g P := by
  obtain ⟨cs, o, _⟩ := o
  exact r.grown k fun i hi => by have := (World.ownsRow.lt o i hi).1; omega
theorem TO.int {q : Value} {k B : Nat} {xs : List Int} (o : TO w lo v n) (h : OI w B q k xs) (hk : w.grownBy w' v.ownBlock) : OI w' B q k xs := by
  obtain ⟨cs, o, _⟩ := o
  exact ⟨h.1.kept hk (own_ne h.1 o (by decide)), h.2⟩
theorem Rd.three' {b : Nat} {t : TypeId} {x y z : Value} (h : Blk w b t #[x, y, z]) : Rd w 3 (some ⟨b, 0, none⟩) 1 [x, y, z] :=
  ⟨rfl, fun _ => ⟨b, 0, rfl, h.lt, fun k u hu => by
    rw [Nat.zero_add, h.cell]
    match k, hu with
    | 0, hu => simpa using hu
    | 1, hu => simpa using hu
    | 2, hu => simpa using hu⟩⟩
theorem MT.snoc {cs : List Value} {f : Int} {u : Value} {d : Bool} (h : MT w lo cs n) (hu : EO w lo u) : MT w lo (cs ++ [.int .i64 f, u, .bool d]) (n + 1) := by
  have hl := h.1
  refine ⟨by simp [hl]; omega, fun j hj => ?_⟩
  by_cases e : j < n
  · obtain ⟨a, x, dd, h1, h2, h3, h4⟩ := h.2 j e
    exact ⟨a, x, dd, by rw [List.getElem?_append_left (by omega)]; exact h1, by rw [List.getElem?_append_left (by omega)]; exact h2, by rw [List.getElem?_append_left (by omega)]; exact h3, h4⟩
  · obtain rfl : j = n := by omega
    exact ⟨f, u, d, by rw [List.getElem?_append_right (by omega), show j * 3 - cs.length = 0 by omega]; rfl, by rw [List.getElem?_append_right (by omega), show j * 3 + 1 - cs.length = 1 by omega]; rfl, by rw [List.getElem?_append_right (by omega), show j * 3 + 2 - cs.length = 2 by omega]; rfl, hu⟩
theorem txs_of : ∀ (n : Nat) (cs : List Value), MT w lo cs n → ∃ ts : List Tx, ts.length = n ∧ (∀ t ∈ ts, t.2.1.length ≤ 100) ∧ ∀ (k : Nat) (t : Tx), ts[k]? = some t → ∃ u, cs[k * 3]? = some (.int .i64 t.1) ∧ cs[k * 3 + 1]? = some u ∧ cs[k * 3 + 2]? = some (.bool t.2.2) ∧ O3 61 w lo u t.2.1.length t.2.1
  | 0, cs, h => ⟨[], rfl, fun t h => by simp at h, fun k t h => by simp at h⟩
  | n + 1, cs, h => by
    have hl := h.1
    obtain ⟨ts, h1, h2, h3⟩ := txs_of n (cs.take (n * 3)) ⟨by rw [List.length_take]; omega, fun j hj => by
      obtain ⟨a, x, dd, e1, e2, e3, e4⟩ := h.2 j (by omega)
      exact ⟨a, x, dd, by rw [List.getElem?_take_of_lt (by omega)]; exact e1, by rw [List.getElem?_take_of_lt (by omega)]; exact e2, by rw [List.getElem?_take_of_lt (by omega)]; exact e3, e4⟩⟩
    obtain ⟨f, u, d, e1, e2, e3, m, ys, o, hm⟩ := h.2 n (by omega)
    have hyl := o.len
    refine ⟨ts ++ [(f, ys, d)], by simp [h1], fun t ht => ?_, fun i t hi => ?_⟩
    · rcases List.mem_append.1 ht with ht | ht
      · exact h2 t ht
      · simp at ht; subst ht; show ys.length ≤ 100; omega
    · by_cases hin : i < n
      · rw [List.getElem?_append_left (by omega)] at hi
        obtain ⟨q', a1, a2, a3, a4⟩ := h3 i t hi
        rw [List.getElem?_take_of_lt (by omega)] at a1 a2 a3
        exact ⟨q', a1, a2, a3, a4⟩
      · have : i = n := by have := (List.getElem?_eq_some_iff.1 hi).1; simp at this; omega
        subst this
        rw [← h1] at hi
        simp at hi; subst hi
        refine ⟨u, e1, e2, e3, ?_⟩
        show O3 61 w lo u ys.length ys
        rw [hyl]; exact o
theorem TO.rts (h : TO w lo v n) : ∃ A c ts, v = .slice A n c ∧ n ≤ c ∧ RTs w A n ts ∧ (∀ t ∈ ts, t.2.1.length ≤ 100) := by
  obtain ⟨cs, h1, h2⟩ := h
  obtain ⟨ts, h3, h4, h5⟩ := txs_of n cs h2
  have hcl := h2.1
  rcases h1.2 with ⟨rfl, h0⟩ | ⟨g, cap, cur, rfl, hB, hg, hc, hcm, hs, ht⟩
  · subst h0
    exact ⟨none, 0, ts, rfl, Nat.le_refl _, ⟨h3, fun h => by omega⟩, h4⟩
  · refine ⟨some ⟨g, 0, none⟩, cap, ts, rfl, hc, ⟨h3, fun hn => ⟨g, 0, rfl, Blk.lt (t := 66) (cs := cur) hg, fun k t hk => ?_⟩⟩, h4⟩
    obtain ⟨u, e1, e2, e3, o⟩ := h5 k t hk
    obtain ⟨B, d, rfl, hmd, hm1, hri⟩ := o.s3
    have hk' : k < n := by have := (List.getElem?_eq_some_iff.1 hk).1; omega
    obtain ⟨_, hdm⟩ : t.2.1.length ≤ d ∧ d ≤ maxLen := by
      rcases o.1.2 with ⟨e, _⟩ | ⟨g', cap', cur', e, _, _, q1, q2, _⟩
      · injection e with _ _ e; subst e; exact ⟨hmd, by simp [maxLen]⟩
      · injection e with _ _ e; subst e; exact ⟨q1, q2⟩
    refine ⟨B, t.2.1.length, d, ?_, ?_, ?_, hmd, hdm, hri⟩
    · rw [Nat.zero_add, World.ownsRow.cellAt h1 (k * 3) (by omega)]; exact e1
    · rw [Nat.zero_add, World.ownsRow.cellAt h1 (k * 3 + 1) (by omega)]; exact e2
    · rw [Nat.zero_add, World.ownsRow.cellAt h1 (k * 3 + 2) (by omega)]; exact e3
end
/-- 'append(out, t)' on []Txn. -/
theorem TO.app {w : World} {o : Oper} {a : Act} {Q : Exit → Act → World → Prop} {ops : Array Oper} {rest : List Oper} (hgd : o.guard = none) (s x : Operand)
    (ho : o.op = .call { callee := .builtin .append, args := #[s, x], argTypes := #[27, 27] })
    {lo : Nat} {v : Value} {n : Nat} (hs : a.eval s = v) (h : TO w lo v n) {b : Nat} {f : Int} {u : Value} {d : Bool} (hx : a.eval x = .slice (some ⟨b, 0, none⟩) 1 1) (hK : Blk w b 66 #[.int .i64 f, u, .bool d]) (hu : EO w lo u) (hn : n ≤ 1000) (hlo : lo ≤ w.heap.size)
    (hh : ∀ v' w', TO w' lo v' (n + 1) → w.grownBy w' v.ownBlock → wpList Tryz.prog ops Q rest (a.put o.dst v') w') : wpList Tryz.prog ops Q (o :: rest) a w := by
  obtain ⟨i, hi, hz, hsz, hby⟩ := info_parts infoTh
  obtain ⟨cs, h1, h2⟩ := h
  have hc1 : ∀ x ∈ [Value.int .i64 f, u, .bool d], x.oneCell' = true := fun x hx => by
    obtain ⟨m, ys, ou, _⟩ := hu
    obtain ⟨A, c, rfl⟩ := ou.shape
    simp at hx; rcases hx with rfl | rfl | rfl <;> rfl
  refine wpList_app hgd s x _ ho lo 66 i (.agg #[.int .i64 0, .slice none 0 0, .bool false]) 3 40 Tryz.underlying27 hi hz hsz hby rfl (by omega) v n cs hs h1 _ 1 1 _ hx (Rd.three' hK) hc1 (by simp only [maxLen]; omega) (by omega) hlo ?_
  intro v' w' hown hg hat
  have f : ∀ y, EO w lo y → EO w' lo y := fun y hy => hy.map (fun _ _ o => ⟨o.1.kept hg (own_ne o.1 h1 (by decide)), o.2⟩)
  exact hh v' w' ⟨_, hown, (h2.map f).snoc (f u hu)⟩ hg
def opTab : Array Value := #[.int .i64 0, .int .i64 0, .int .i64 0, .int .i64 3, .int .i64 0, .int .i64 1, .int .i64 1, .int .i64 3, .int .i64 0, .int .i64 1, .int .i64 (-1), .int .i64 0, .int .i64 1, .int .i64 0, .int .i64 100, .int .i64 2, .int .i64 0, .int .i64 0, .int .i64 1, .int .i64 0, .int .i64 (-1)]
theorem opTab_at {w : World} {b i : Nat} (h : Blk w b 61 #[.int .i64 0, .int .i64 0, .int .i64 0, .int .i64 3, .int .i64 0, .int .i64 1, .int .i64 1, .int .i64 3, .int .i64 0, .int .i64 1, .int .i64 (-1), .int .i64 0, .int .i64 1, .int .i64 0, .int .i64 100, .int .i64 2, .int .i64 0, .int .i64 0, .int .i64 1, .int .i64 0, .int .i64 (-1)]) (hi : i < 7) : ∃ x y z : Int, w.cell? ⟨b, i * 3, none⟩ = some (.int .i64 x) ∧ w.cell? ⟨b, i * 3 + 1, none⟩ = some (.int .i64 y) ∧ w.cell? ⟨b, i * 3 + 2, none⟩ = some (.int .i64 z) := by
  have hi' : i = 0 ∨ i = 1 ∨ i = 2 ∨ i = 3 ∨ i = 4 ∨ i = 5 ∨ i = 6 := by omega
  rcases hi' with rfl | rfl | rfl | rfl | rfl | rfl | rfl <;> exact ⟨_, _, _, h.cell _, h.cell _, h.cell _⟩
theorem set3_cells {w : World} {b : Nat} {t : TypeId} {a0 b0 c0 : Value} (h : Blk w b t #[a0, b0, c0]) (x y z : Value) : (((w.setCell ⟨b, 0, none⟩ x).setCell ⟨b, 1, none⟩ y).setCell ⟨b, 2, none⟩ z).cell? ⟨b, 0, none⟩ = some x ∧ (((w.setCell ⟨b, 0, none⟩ x).setCell ⟨b, 1, none⟩ y).setCell ⟨b, 2, none⟩ z).cell? ⟨b, 1, none⟩ = some y ∧ (((w.setCell ⟨b, 0, none⟩ x).setCell ⟨b, 1, none⟩ y).setCell ⟨b, 2, none⟩ z).cell? ⟨b, 2, none⟩ = some z := by
  have K := ((h.set_ 0 x).set_ 1 y).set_ 2 z
  exact ⟨K.cell 0, K.cell 1, K.cell 2⟩
theorem grown_set3 {a w : World} {g : Nat} (h : a.grownBy w (some g)) (b : Nat) (hb : a.heap.size ≤ b) (x y z : Value) : a.grownBy (((w.setCell ⟨b, 0, none⟩ x).setCell ⟨b, 1, none⟩ y).setCell ⟨b, 2, none⟩ z) (some g) :=
  grown_setCell (p := ⟨b, 2, none⟩) (grown_setCell (p := ⟨b, 1, none⟩) (grown_setCell (p := ⟨b, 0, none⟩) h (.inr hb) x) (.inr hb) y) (.inr hb) z
def OpR (w : World) (g P : Nat) (e : Ending) (w' : World) : Prop := ∃ x y z : Int, e = .returned (.agg #[.int .i64 x, .int .i64 y, .int .i64 z]) ∧ RD w' g P ∧ w.grownBy w' (some g)
set_option maxRecDepth 100000 in
set_option maxHeartbeats 8000000 in
theorem l20Op_c {w : World} {g P : Nat} {q : Int} (hr : RD w g P) (hP : P ≤ 50000) (hq1 : 0 ≤ q) (hq2 : q ≤ 100000) :
    Calls Tryz.prog 142 #[.pointer (some ⟨g, 0, none⟩), .int .i64 q] w (OpR w g (P + 10)) := by
  have hg := hr.lt
  have K0 := Blk.new w 61 #[.int .i64 0, .int .i64 0, .int .i64 0]
  have r0 := hr.alloc (.cells #[.int .i64 0, .int .i64 0, .int .i64 0] 61)
  have G0 := grown_alloc (World.grownBy.refl w (some g)) (.cells #[.int .i64 0, .int .i64 0, .int .i64 0] 61)
  go_enter Tryz.func142, Tryz.ntmps142
  go_wp2_with fail
  generalize w.alloc (.cells #[.int .i64 0, .int .i64 0, .int .i64 0] 61) = w0 at *
  refine (pick_c r0 (by omega) (by omega) (by omega)).mono ?_
  rintro e w1 ⟨x, rfl, x0, x1, r1, g1⟩
  have G1 := grown_trans' G0 g1
  go_wp2_with fail
  refine (pick_c r1 (by omega) (by omega) (by omega)).mono ?_
  rintro e w2 ⟨y, rfl, y0, y1, r2, g2⟩
  have G2 := grown_trans' G1 g2
  go_wp2_with fail
  refine (pick_c r2 (by omega) (by omega) (by omega)).mono ?_
  rintro e w3 ⟨z1, rfl, z10, z11, r3, g3⟩
  have G3 := grown_trans' G2 g3
  go_wp2_with fail
  refine (pick_c r3 (by omega) (by omega) (by omega)).mono ?_
  rintro e w4 ⟨z2, rfl, z20, z21, r4, g4⟩
  have G4 := grown_trans' G3 g4
  have KZ := Blk.new w4 3 #[.int .i64 (1 + z1), .int .i64 (1 + z2), .int .i64 0]
  have r4' := r4.alloc (.cells #[.int .i64 (1 + z1), .int .i64 (1 + z2), .int .i64 0] 3)
  have G4' := grown_alloc G4 (.cells #[.int .i64 (1 + z1), .int .i64 (1 + z2), .int .i64 0] 3)
  have hs4 := G4.size
  have D4 := grown_alloc (grown_trans' g1 (grown_trans' g2 (grown_trans' g3 g4))) (.cells #[.int .i64 (1 + z1), .int .i64 (1 + z2), .int .i64 0] 3)
  clear G1 G2 G3 g1 g2 g3 r1 r2 r3
  go_wp2_with fail
  generalize w4.alloc (.cells #[.int .i64 (1 + z1), .int .i64 (1 + z2), .int .i64 0] 3) = w4a at *
  refine (pick_c r4' (by omega) (by omega) (by omega)).mono ?_
  rintro e w5 ⟨j, rfl, j0, j1, r5, g5⟩
  obtain ⟨j, rfl⟩ : ∃ q : Nat, j = q := ⟨j.toNat, by omega⟩
  have G5 := grown_trans' G4' g5
  have hs5 := G5.size
  have KZ5 := KZ.grown g5 (fun e => by injection e with e; omega)
  have K05 := K0.grown (grown_trans' D4 g5) (fun e => by injection e with e; omega)
  obtain ⟨zz, cz⟩ : ∃ zz : Int, w5.cell? ⟨w4.heap.size, j, none⟩ = some (.int .i64 zz) := by
    have : j = 0 ∨ j = 1 ∨ j = 2 := by omega
    rcases this with rfl | rfl | rfl
    · exact ⟨_, KZ5.cell 0⟩
    · exact ⟨_, KZ5.cell 1⟩
    · exact ⟨_, KZ5.cell 2⟩
  have K5 := Blk.new w5 61 #[.int .i64 (1 + x), .int .i64 y, .int .i64 zz]
  have r6 := r5.alloc (.cells #[.int .i64 (1 + x), .int .i64 y, .int .i64 zz] 61)
  have G6 := grown_alloc G5 (.cells #[.int .i64 (1 + x), .int .i64 y, .int .i64 zz] 61)
  have K06 := K05.alloc (.cells #[.int .i64 (1 + x), .int .i64 y, .int .i64 zz] 61)
  have h5 := K05.lt
  have K06b := K05.alloc (.cells #[.int .i64 2, .int .i64 y, .int .i64 99] 61)
  have K5b := Blk.new w5 61 #[.int .i64 2, .int .i64 y, .int .i64 99]
  have r6b := r5.alloc (.cells #[.int .i64 2, .int .i64 y, .int .i64 99] 61)
  have G6b := grown_alloc G5 (.cells #[.int .i64 2, .int .i64 y, .int .i64 99] 61)
  clear KZ KZ5 K0 K05 G4' D4 g5 r4' r5 G5
  obtain ⟨e0, e1, e2⟩ := K5.three'
  by_cases hx : x = 1
  · subst hx
    by_cases hz : zz = 0
    · subst hz
      have f2 := K5.frozen 2
      go_wp2_with fail
      refine (odd_c r6b (by omega) hq1 hq2).mono ?_
      rintro e w7 ⟨b, rfl, r7, g7⟩
      have G7 := grown_trans' G6b g7
      have K7 := K5b.grown g7 (fun e => by injection e with e; omega)
      have K47 := K06b.grown g7 (fun e => by injection e with e; omega)
      obtain ⟨k70, k71, k72⟩ := K7.three'
      have lt7 := r7.lt
      cases b
      · obtain ⟨q0, q1, q2⟩ := K47.three'
        have f0 := K47.frozen 0
        have f1 := K47.frozen 1
        have f2 := K47.frozen 2
        go_wp2_with fail
        obtain ⟨t0, t1, t2⟩ := set3_cells K47 (.int .i64 2) (.int .i64 y) (.int .i64 99)
        exact bodyPost_ret (v := .agg #[.int .i64 2, .int .i64 y, .int .i64 99]) (by simp [results, Tryz.results142, go_sem, t0, t1, t2]) rfl ⟨_, _, _, rfl, (((r7.mono (by omega)).setC (p := ⟨w.heap.size, 0, none⟩) hg _).setC (p := ⟨w.heap.size, 1, none⟩) hg _).setC (p := ⟨w.heap.size, 2, none⟩) hg _, grown_set3 G7 w.heap.size (Nat.le_refl _) _ _ _⟩
      · have KT := Blk.new w7 61 opTab
        have r8 := r7.alloc (.cells opTab 61)
        have G8 := grown_alloc G7 (.cells opTab 61)
        have K48 := K47.alloc (.cells opTab 61)
        unfold opTab at KT r8 G8 K48
        go_wp2_with fail
        generalize w7.alloc (.cells #[.int .i64 0, .int .i64 0, .int .i64 0, .int .i64 3, .int .i64 0, .int .i64 1, .int .i64 1, .int .i64 3, .int .i64 0, .int .i64 1, .int .i64 (-1), .int .i64 0, .int .i64 1, .int .i64 0, .int .i64 100, .int .i64 2, .int .i64 0, .int .i64 0, .int .i64 1, .int .i64 0, .int .i64 (-1)] 61) = w8 at *
        refine (pick_c r8 (by omega) (by omega) (by omega)).mono ?_
        rintro e w9 ⟨i, rfl, i0, i1, r9, g9⟩
        obtain ⟨i, rfl⟩ : ∃ q : Nat, i = q := ⟨i.toNat, by omega⟩
        have G9 := grown_trans' G8 g9
        have K9 := KT.grown g9 (fun e => by injection e with e; omega)
        have K49 := K48.grown g9 (fun e => by injection e with e; omega)
        obtain ⟨a, b, c, c0, c1, c2⟩ := opTab_at (i := i) K9 (by omega)
        obtain ⟨q0, q1, q2⟩ := K49.three'
        have f0 := K49.frozen 0
        have f1 := K49.frozen 1
        have f2 := K49.frozen 2
        go_wp2_with fail
        obtain ⟨t0, t1, t2⟩ := set3_cells K49 (.int .i64 a) (.int .i64 b) (.int .i64 c)
        exact bodyPost_ret (v := .agg #[.int .i64 a, .int .i64 b, .int .i64 c]) (by simp [results, Tryz.results142, go_sem, t0, t1, t2]) rfl ⟨_, _, _, rfl, (((r9.mono (by omega)).setC (p := ⟨w.heap.size, 0, none⟩) hg _).setC (p := ⟨w.heap.size, 1, none⟩) hg _).setC (p := ⟨w.heap.size, 2, none⟩) hg _, grown_set3 G9 w.heap.size (Nat.le_refl _) _ _ _⟩
    · have hz1 : (zz == 0) = false := by simpa using hz
      go_wp2_with fail
      refine (odd_c r6 (by omega) hq1 hq2).mono ?_
      rintro e w7 ⟨b, rfl, r7, g7⟩
      have G7 := grown_trans' G6 g7
      have K7 := K5.grown g7 (fun e => by injection e with e; omega)
      have K47 := K06.grown g7 (fun e => by injection e with e; omega)
      obtain ⟨k70, k71, k72⟩ := K7.three'
      have lt7 := r7.lt
      cases b
      · obtain ⟨q0, q1, q2⟩ := K47.three'
        have f0 := K47.frozen 0
        have f1 := K47.frozen 1
        have f2 := K47.frozen 2
        go_wp2_with fail
        obtain ⟨t0, t1, t2⟩ := set3_cells K47 (.int .i64 2) (.int .i64 y) (.int .i64 zz)
        exact bodyPost_ret (v := .agg #[.int .i64 2, .int .i64 y, .int .i64 zz]) (by simp [results, Tryz.results142, go_sem, t0, t1, t2]) rfl ⟨_, _, _, rfl, (((r7.mono (by omega)).setC (p := ⟨w.heap.size, 0, none⟩) hg _).setC (p := ⟨w.heap.size, 1, none⟩) hg _).setC (p := ⟨w.heap.size, 2, none⟩) hg _, grown_set3 G7 w.heap.size (Nat.le_refl _) _ _ _⟩
      · have KT := Blk.new w7 61 opTab
        have r8 := r7.alloc (.cells opTab 61)
        have G8 := grown_alloc G7 (.cells opTab 61)
        have K48 := K47.alloc (.cells opTab 61)
        unfold opTab at KT r8 G8 K48
        go_wp2_with fail
        generalize w7.alloc (.cells #[.int .i64 0, .int .i64 0, .int .i64 0, .int .i64 3, .int .i64 0, .int .i64 1, .int .i64 1, .int .i64 3, .int .i64 0, .int .i64 1, .int .i64 (-1), .int .i64 0, .int .i64 1, .int .i64 0, .int .i64 100, .int .i64 2, .int .i64 0, .int .i64 0, .int .i64 1, .int .i64 0, .int .i64 (-1)] 61) = w8 at *
        refine (pick_c r8 (by omega) (by omega) (by omega)).mono ?_
        rintro e w9 ⟨i, rfl, i0, i1, r9, g9⟩
        obtain ⟨i, rfl⟩ : ∃ q : Nat, i = q := ⟨i.toNat, by omega⟩
        have G9 := grown_trans' G8 g9
        have K9 := KT.grown g9 (fun e => by injection e with e; omega)
        have K49 := K48.grown g9 (fun e => by injection e with e; omega)
        obtain ⟨a, b, c, c0, c1, c2⟩ := opTab_at (i := i) K9 (by omega)
        obtain ⟨q0, q1, q2⟩ := K49.three'
        have f0 := K49.frozen 0
        have f1 := K49.frozen 1
        have f2 := K49.frozen 2
        go_wp2_with fail
        obtain ⟨t0, t1, t2⟩ := set3_cells K49 (.int .i64 a) (.int .i64 b) (.int .i64 c)
        exact bodyPost_ret (v := .agg #[.int .i64 a, .int .i64 b, .int .i64 c]) (by simp [results, Tryz.results142, go_sem, t0, t1, t2]) rfl ⟨_, _, _, rfl, (((r9.mono (by omega)).setC (p := ⟨w.heap.size, 0, none⟩) hg _).setC (p := ⟨w.heap.size, 1, none⟩) hg _).setC (p := ⟨w.heap.size, 2, none⟩) hg _, grown_set3 G9 w.heap.size (Nat.le_refl _) _ _ _⟩
  · obtain rfl : x = 0 := by omega
    go_wp2_with fail
    refine (odd_c r6 (by omega) hq1 hq2).mono ?_
    rintro e w7 ⟨b, rfl, r7, g7⟩
    have G7 := grown_trans' G6 g7
    have K7 := K5.grown g7 (fun e => by injection e with e; omega)
    have K47 := K06.grown g7 (fun e => by injection e with e; omega)
    obtain ⟨k70, k71, k72⟩ := K7.three'
    have lt7 := r7.lt
    cases b
    · obtain ⟨q0, q1, q2⟩ := K47.three'
      have f0 := K47.frozen 0
      have f1 := K47.frozen 1
      have f2 := K47.frozen 2
      go_wp2_with fail
      obtain ⟨t0, t1, t2⟩ := set3_cells K47 (.int .i64 1) (.int .i64 y) (.int .i64 zz)
      exact bodyPost_ret (v := .agg #[.int .i64 1, .int .i64 y, .int .i64 zz]) (by simp [results, Tryz.results142, go_sem, t0, t1, t2]) rfl ⟨_, _, _, rfl, (((r7.mono (by omega)).setC (p := ⟨w.heap.size, 0, none⟩) hg _).setC (p := ⟨w.heap.size, 1, none⟩) hg _).setC (p := ⟨w.heap.size, 2, none⟩) hg _, grown_set3 G7 w.heap.size (Nat.le_refl _) _ _ _⟩
    · have KT := Blk.new w7 61 opTab
      have r8 := r7.alloc (.cells opTab 61)
      have G8 := grown_alloc G7 (.cells opTab 61)
      have K48 := K47.alloc (.cells opTab 61)
      unfold opTab at KT r8 G8 K48
      go_wp2_with fail
      generalize w7.alloc (.cells #[.int .i64 0, .int .i64 0, .int .i64 0, .int .i64 3, .int .i64 0, .int .i64 1, .int .i64 1, .int .i64 3, .int .i64 0, .int .i64 1, .int .i64 (-1), .int .i64 0, .int .i64 1, .int .i64 0, .int .i64 100, .int .i64 2, .int .i64 0, .int .i64 0, .int .i64 1, .int .i64 0, .int .i64 (-1)] 61) = w8 at *
      refine (pick_c r8 (by omega) (by omega) (by omega)).mono ?_
      rintro e w9 ⟨i, rfl, i0, i1, r9, g9⟩
      obtain ⟨i, rfl⟩ : ∃ q : Nat, i = q := ⟨i.toNat, by omega⟩
      have G9 := grown_trans' G8 g9
      have K9 := KT.grown g9 (fun e => by injection e with e; omega)
      have K49 := K48.grown g9 (fun e => by injection e with e; omega)
      obtain ⟨a, b, c, c0, c1, c2⟩ := opTab_at (i := i) K9 (by omega)
      obtain ⟨q0, q1, q2⟩ := K49.three'
      have f0 := K49.frozen 0
      have f1 := K49.frozen 1
      have f2 := K49.frozen 2
      go_wp2_with fail
      obtain ⟨t0, t1, t2⟩ := set3_cells K49 (.int .i64 a) (.int .i64 b) (.int .i64 c)
      exact bodyPost_ret (v := .agg #[.int .i64 a, .int .i64 b, .int .i64 c]) (by simp [results, Tryz.results142, go_sem, t0, t1, t2]) rfl ⟨_, _, _, rfl, (((r9.mono (by omega)).setC (p := ⟨w.heap.size, 0, none⟩) hg _).setC (p := ⟨w.heap.size, 1, none⟩) hg _).setC (p := ⟨w.heap.size, 2, none⟩) hg _, grown_set3 G9 w.heap.size (Nat.le_refl _) _ _ _⟩
end Go.Proofs.YtcfkemchekmjbaaGreatDoor
