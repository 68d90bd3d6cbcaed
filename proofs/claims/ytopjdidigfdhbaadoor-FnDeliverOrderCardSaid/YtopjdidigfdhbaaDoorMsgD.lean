/- Words for the drawing of messages: a slice of messages wherever it begins in its row, appended to; four clocks in a row. -/
import Derived.Test.YtopjdidigfdhbaaDoorMsgs2
import Derived.Test.YtopjdidigfdhbaaDoorApp
import Derived.Test.YtopjdidigfdhbaaDoorDraw4
import Derived.Test.YtopjdidigfdhbaaDoorDrawB
import Derived.Test.YtopjdidigfdhbaaDoorRegW
import Derived.Test.YtopjdidigfdhbaaDoorClockJ2
import Derived.Deep.AppendSrc
namespace Go.Proofs.YtopjdidigfdhbaaDoor
open Go.RowKit

/-- A message as two cells; its clock is the call's own. -/
def MC (w : World) (lo : Nat) (u q : Value) : Prop := ∃ (f : Int) (k : Nat) (xs : List Int), u = .int .i64 f ∧ OI w lo q k xs ∧ k ≤ 5
def MCs (w : World) (lo : Nat) (cs : List Value) (n : Nat) : Prop := cs.length = n * 2 ∧ ∀ j, j < n → ∃ u q, cs[j * 2]? = some u ∧ cs[j * 2 + 1]? = some q ∧ MC w lo u q
section
variable {w w' : World} {g lo : Nat}
theorem OI.ne_row {q : Value} {k b : Nat} {xs : List Int} {t : TypeId} {cs : Array Value} (h : OI w lo q k xs) (hb : Blk w b t cs) (ht : t ≠ 3) : q.ownBlock = none ∨ q.ownBlock ≠ some b := by
  rcases h.1.2 with ⟨rfl, _⟩ | ⟨g', cap, cur, rfl, _, hh, _⟩
  · left; rfl
  · right; intro he
    have e : g' = b := by have h : some g' = some b := he; injection h
    subst e
    unfold Blk at hb; rw [hh] at hb; injection hb with hb; injection hb with _ h2; exact ht h2.symm
theorem MC.below {u q : Value} (h : MC w lo u q) (hb : Below w.heap.size w w') : MC w' lo u q := by
  obtain ⟨f, k, xs, e, ho, hk⟩ := h; exact ⟨f, k, xs, e, ho.below hb, hk⟩
theorem MC.grown {u q : Value} {b : Nat} {t : TypeId} {cs : Array Value} (h : MC w lo u q) (hB : Blk w b t cs) (ht : t ≠ 3) (hg : w.grownBy w' (some b)) : MC w' lo u q := by
  obtain ⟨f, k, xs, e, ho, hk⟩ := h; exact ⟨f, k, xs, e, ho.grown hg (ho.ne_row hB ht), hk⟩
theorem MC.kp {u q : Value} (h : MC w lo u q) (hg : w.grownBy w' (some g)) (hl : g < lo) : MC w' lo u q := by
  obtain ⟨f, k, xs, e, ho, hk⟩ := h; exact ⟨f, k, xs, e, ho.grown hg (ho.block_ne hl), hk⟩
theorem MC.mono {u q : Value} {lo' : Nat} (h : MC w lo u q) (hl : lo' ≤ lo) : MC w lo' u q := by
  obtain ⟨f, k, xs, e, ho, hk⟩ := h; exact ⟨f, k, xs, e, ho.mono hl, hk⟩
theorem MCs.map {cs : List Value} {n : Nat} {lo' : Nat} (h : MCs w lo cs n) (f : ∀ u q, MC w lo u q → MC w' lo' u q) : MCs w' lo' cs n :=
  ⟨h.1, fun j hj => by obtain ⟨u, q, h1, h2, h3⟩ := h.2 j hj; exact ⟨u, q, h1, h2, f u q h3⟩⟩
theorem MCs.append {cs ds : List Value} {n m : Nat} (h : MCs w lo cs n) (k : MCs w lo ds m) : MCs w lo (cs ++ ds) (n + m) := by
  refine ⟨by rw [List.length_append, h.1, k.1, Nat.add_mul], fun j hj => ?_⟩
  have hl := h.1
  by_cases e : j < n
  · obtain ⟨u, q, h1, h2, h3⟩ := h.2 j e
    exact ⟨u, q, by rw [List.getElem?_append_left (by omega)]; exact h1, by rw [List.getElem?_append_left (by omega)]; exact h2, h3⟩
  · obtain ⟨u, q, h1, h2, h3⟩ := k.2 (j - n) (by omega)
    exact ⟨u, q, by rw [List.getElem?_append_right (by omega), show j * 2 - cs.length = (j - n) * 2 by omega]; exact h1, by rw [List.getElem?_append_right (by omega), show j * 2 + 1 - cs.length = (j - n) * 2 + 1 by omega]; exact h2, h3⟩
theorem MCs.take {cs : List Value} {n k : Nat} (h : MCs w lo cs n) (hk : k ≤ n) : MCs w lo (cs.take (k * 2)) k := by
  have hl := h.1
  refine ⟨by rw [List.length_take]; omega, fun j hj => ?_⟩
  obtain ⟨u, q, h1, h2, h3⟩ := h.2 j (by omega)
  exact ⟨u, q, by rw [List.getElem?_take_of_lt (by omega)]; exact h1, by rw [List.getElem?_take_of_lt (by omega)]; exact h2, h3⟩
theorem MCs.drop {cs : List Value} {n k : Nat} (h : MCs w lo cs n) (hk : k ≤ n) : MCs w lo (cs.drop (k * 2)) (n - k) := by
  have hl := h.1
  refine ⟨by rw [List.length_drop]; omega, fun j hj => ?_⟩
  obtain ⟨u, q, h1, h2, h3⟩ := h.2 (k + j) (by omega)
  exact ⟨u, q, by rw [List.getElem?_drop, show k * 2 + j * 2 = (k + j) * 2 by omega]; exact h1, by rw [List.getElem?_drop, show k * 2 + (j * 2 + 1) = (k + j) * 2 + 1 by omega]; exact h2, h3⟩
theorem MCs.nil : MCs w lo [] 0 := ⟨rfl, fun j hj => absurd hj (by omega)⟩
theorem MCs.one {u q : Value} (h : MC w lo u q) : MCs w lo [u, q] 1 := ⟨rfl, fun j hj => by
  obtain rfl : j = 0 := by omega
  exact ⟨u, q, rfl, rfl, h⟩⟩
theorem MCs.two {u q u' q' : Value} (h : MC w lo u q) (h' : MC w lo u' q') : MCs w lo [u, q, u', q'] 2 := (MCs.one h).append (MCs.one h')
theorem MCs.cell1 {cs : List Value} {n : Nat} (h : MCs w lo cs n) : ∀ u ∈ cs, u.oneCell' = true := fun u hu => by
  obtain ⟨i, hi, he⟩ := List.mem_iff_getElem.1 hu
  have hl := h.1
  obtain ⟨x, q, h1, h2, f, k, xs, e, ho, _⟩ := h.2 (i / 2) (by omega)
  obtain ⟨A, c, rfl⟩ := ho.shape
  have hg : cs[i]? = some u := by rw [← he]; exact List.getElem?_eq_getElem hi
  rcases (show i = i / 2 * 2 ∨ i = i / 2 * 2 + 1 by omega) with e1 | e1
  · rw [e1, h1] at hg; injection hg with hg; subst hg; subst e; rfl
  · rw [e1, h2] at hg; injection hg with hg; subst hg; rfl
/-- The value v is a slice of n messages, in a row of the call's own. -/
def MV (w : World) (lo : Nat) (v : Value) (n : Nat) : Prop :=
  ∃ (b off c : Nat) (cur : Array Value), v = .slice (some ⟨b, off, none⟩) n c ∧ lo ≤ b ∧ Blk w b 55 cur ∧ off + c * 2 ≤ cur.size ∧ n ≤ c ∧ c ≤ maxLen ∧
    ∃ cs, (∀ (k : Nat) (u : Value), cs[k]? = some u → cur[off + k]? = some u) ∧ MCs w lo cs n
theorem MV.rd {v : Value} {n : Nat} (h : MV w lo v n) : ∃ A c cs, v = .slice A n c ∧ n ≤ c ∧ c ≤ maxLen ∧ Rd w 2 A n cs ∧ MCs w lo cs n := by
  obtain ⟨b, off, c, cur, rfl, hl, hB, hs, hnc, hcm, cs, hc, hm⟩ := h
  exact ⟨_, c, cs, rfl, hnc, hcm, ⟨hm.1, fun _ => ⟨b, off, rfl, hB.lt, fun k u hu => (hB.cell _).trans (hc k u hu)⟩⟩, hm⟩
theorem MV.kp {v : Value} {n : Nat} (h : MV w lo v n) (hg : w.grownBy w' (some g)) (hl : g < lo) : MV w' lo v n := by
  obtain ⟨b, off, c, cur, e, h1, h2, h3, h4, h5, cs, h6, h7⟩ := h
  exact ⟨b, off, c, cur, e, h1, h2.grown hg (fun e => by injection e with e; omega), h3, h4, h5, cs, h6, h7.map (fun u q h => h.kp hg hl)⟩
theorem MV.below {v : Value} {n : Nat} (h : MV w lo v n) (hb : Below w.heap.size w w') : MV w' lo v n := by
  obtain ⟨b, off, c, cur, e, h1, h2, h3, h4, h5, cs, h6, h7⟩ := h
  exact ⟨b, off, c, cur, e, h1, h2.belowAll hb, h3, h4, h5, cs, h6, h7.map (fun u q h => h.below hb)⟩
theorem MV.alloc {v : Value} {n : Nat} (h : MV w lo v n) (o : Obj) : MV (w.alloc o) lo v n := h.below ((Below.refl _ _).alloc (Nat.le_refl _) _)
/-- Another row, of another type, is written. -/
theorem MV.far {v : Value} {n b : Nat} {t : TypeId} {cs : Array Value} (h : MV w lo v n) (hB : Blk w b t cs) (h1 : t ≠ 55) (h2 : t ≠ 3) (i : Nat) (u : Value) : MV (w.setCell ⟨b, i, none⟩ u) lo v n := by
  obtain ⟨b', off, c, cur, e, h3, h4, h5, h6, h7, cs', h8, h9⟩ := h
  have hne : b' ≠ b := fun e => by
    subst e
    unfold Blk at hB h4; rw [h4] at hB; injection hB with hB; injection hB with _ h; exact h1 h.symm
  have hg : w.grownBy (w.setCell ⟨b, i, none⟩ u) (some b) := grown_setCell (World.grownBy.refl w _) (.inl rfl) u
  exact ⟨b', off, c, cur, e, h3, h4.far hne u, h5, h6, h7, cs', h8, h9.map (fun u q h => h.grown hB h2 hg)⟩
theorem MV.of_own {v : Value} {n : Nat} {cs : List Value} (h : w.ownsRow lo 55 2 v n cs) (hm : MCs w lo cs n) (hn : 0 < n) : MV w lo v n := by
  rcases h.2 with ⟨_, h0⟩ | ⟨g, cap, cur, rfl, hB, hg, hc, hcm, hs, ht⟩
  · omega
  · refine ⟨g, 0, cap, cur, rfl, hB, hg, by omega, hc, hcm, cs, fun k u hu => ?_, hm⟩
    rw [Nat.zero_add]
    have hk : k < cs.length := (List.getElem?_eq_some_iff.1 hu).1
    rw [← ht, List.getElem?_take_of_lt (by rw [hm.1] at hk; exact hk)] at hu
    simpa using hu
theorem MV.new (w : World) (hl : lo ≤ w.heap.size) : MV (w.alloc (.cells #[] 55)) lo (.slice (some ⟨w.heap.size, 0, none⟩) 0 0) 0 :=
  ⟨w.heap.size, 0, 0, #[], rfl, hl, Blk.new w _ _, by simp, by omega, by simp [maxLen], [], fun k u h => by simp at h, MCs.nil⟩
/-- out[1:]. -/
theorem MV.tail {b off n c : Nat} (h : MV w lo (.slice (some ⟨b, off, none⟩) (n + 1) (c + 1)) (n + 1)) : MV w lo (.slice (some ⟨b, off + 2, none⟩) n c) n := by
  obtain ⟨b', off', c', cur, e, h1, h2, h3, h4, h5, cs, h6, h7⟩ := h
  obtain ⟨⟨rfl, rfl⟩, rfl⟩ : (b = b' ∧ off = off') ∧ c + 1 = c' := by simpa using e
  refine ⟨b, off + 2, c, cur, rfl, h1, h2, by omega, by omega, by omega, cs.drop 2, fun k u hu => ?_, ?_⟩
  · rw [List.getElem?_drop] at hu
    rw [show off + 2 + k = off + (2 + k) by omega]; exact h6 _ u hu
  · have := h7.drop (k := 1) (by omega)
    simpa using this
theorem MV.tail' {b off n c : Nat} (h : MV w lo (.slice (some ⟨b, off, none⟩) (n + 1) (c + 1)) (n + 1)) : MV w lo (.slice (some ⟨b, off + (if c = 0 then 0 else 2), none⟩) n c) n := by
  by_cases h0 : c = 0
  · subst h0
    have h2 := h.tail
    obtain ⟨b', off', c', cur, e, h1, h3, h4, h5, h6, cs, h7, h8⟩ := h2
    obtain ⟨⟨rfl, rfl⟩, rfl⟩ : (b = b' ∧ off + 2 = off') ∧ 0 = c' := by simpa using e
    obtain rfl : n = 0 := by omega
    refine ⟨b, off, 0, cur, by simp, h1, h3, by omega, by omega, h6, [], fun k u hu => by simp at hu, MCs.nil⟩
  · rw [if_neg h0]; exact h.tail
theorem MV.shape {v : Value} {n : Nat} (h : MV w lo v n) : ∃ b off c, v = .slice (some ⟨b, off, none⟩) n c ∧ n ≤ c ∧ c ≤ maxLen ∧ lo ≤ b ∧ b < w.heap.size := by
  obtain ⟨b, off, c, cur, e, h1, h2, h3, h4, h5, _⟩ := h; exact ⟨b, off, c, e, h4, h5, h1, h2.lt⟩
/-- As messages that are read. -/
theorem MCs.list : ∀ (n : Nat) (cs : List Value), MCs w lo cs n → ∃ ms : Ms, ms.length = n ∧ (∀ m ∈ ms, m.2.length ≤ 5) ∧ ∀ (k : Nat) (m : Int × List Int), ms[k]? = some m → ∃ q, cs[k * 2]? = some (.int .i64 m.1) ∧ cs[k * 2 + 1]? = some q ∧ OI w lo q m.2.length m.2
  | 0, cs, h => ⟨[], rfl, fun m h => by simp at h, fun k m h => by simp at h⟩
  | n + 1, cs, h => by
    obtain ⟨ms, h1, h2, h3⟩ := MCs.list n (cs.take (n * 2)) (h.take (by omega))
    obtain ⟨u, q, e1, e2, f, k, xs, rfl, ho, hk⟩ := h.2 n (by omega)
    have hkl := ho.len
    refine ⟨ms ++ [(f, xs)], by simp [h1], fun m hm => ?_, fun i m hi => ?_⟩
    · rcases List.mem_append.1 hm with hm | hm
      · exact h2 m hm
      · simp at hm; subst hm; show xs.length ≤ 5; omega
    · by_cases hin : i < n
      · rw [List.getElem?_append_left (by omega)] at hi
        obtain ⟨q', a1, a2, a3⟩ := h3 i m hi
        rw [List.getElem?_take_of_lt (by omega)] at a1 a2
        exact ⟨q', a1, a2, a3⟩
      · have : i = n := by have := (List.getElem?_eq_some_iff.1 hi).1; simp at this; omega
        subst this
        rw [← h1] at hi
        simp at hi; subst hi
        refine ⟨q, e1, e2, ?_⟩
        show OI w lo q xs.length xs
        rw [hkl]; exact ho
theorem RM.of_rd {A : Option Addr} {n : Nat} {cs : List Value} (hr : Rd w 2 A n cs) (hm : MCs w lo cs n) : ∃ ms, RM w A n ms ∧ Small ms := by
  obtain ⟨ms, h1, h2, h3⟩ := MCs.list n cs hm
  refine ⟨ms, ⟨h1, fun hn => ?_⟩, fun m hm => by have := h2 m hm; omega⟩
  obtain ⟨b, off, e, hb, hc⟩ := hr.2 hn
  refine ⟨b, off, e, hb, fun k m hk => ?_⟩
  obtain ⟨q, a1, a2, a3⟩ := h3 k m hk
  obtain ⟨B, d, rfl, hnc, hcm, hri, _⟩ := a3.form
  exact ⟨B, m.2.length, d, hc _ _ a1, by rw [Nat.add_assoc]; exact hc _ _ a2, hnc, hcm, hri⟩
end
/-- Many cells are written in a row that is known whole. -/
theorem Blk.setCells {b : Nat} {t : TypeId} : ∀ (vs : List Value) (o : Nat) (w : World) (cur : Array Value), Blk w b t cur → o + vs.length ≤ cur.size →
    ∃ cur', Blk (w.setCells b o vs) b t cur' ∧ cur'.size = cur.size ∧ (∀ k, k < o → cur'[k]? = cur[k]?) ∧ (∀ k u, vs[k]? = some u → cur'[o + k]? = some u) ∧ w.grownBy (w.setCells b o vs) (some b)
  | [], o, w, cur, h, _ => ⟨cur, h, rfl, fun _ _ => rfl, fun k u h => by simp at h, World.grownBy.refl w _⟩
  | v :: vs, o, w, cur, h, hs => by
    simp only [List.length_cons] at hs
    obtain ⟨cur', h1, h2, h3, h4, h5⟩ := Blk.setCells vs (o + 1) (w.setCell ⟨b, o, none⟩ v) (cur.setIfInBounds o v) (h.set_ o v) (by simp; omega)
    refine ⟨cur', h1, by rw [h2]; simp, fun k hk => ?_, fun k u hu => ?_, ?_⟩
    · rw [h3 k (by omega), Array.getElem?_setIfInBounds_ne (by omega)]
    · cases k with
      | zero =>
        simp at hu; subst hu
        rw [Nat.add_zero, h3 o (by omega), Array.getElem?_setIfInBounds_self_of_lt (by omega)]
      | succ k =>
        rw [show o + (k + 1) = o + 1 + k by omega]
        exact h4 k u (by simpa using hu)
    · exact grown_trans' (grown_setCell (World.grownBy.refl w _) (.inl rfl) v) h5
/-- 'append(v, u...)' on messages, v wherever it begins in its row. -/
theorem app_mv {w : World} {lo n : Nat} {v : Value} (h : MV w lo v n) (ty : TypeId) {A2 : Option Addr} {m c2 : Nat} {news : List Value} (hr : Rd w 2 A2 m news) (hm : MCs w lo news m) (hm0 : 0 < m) (hnm : n + m ≤ 1000) (hlo : lo ≤ w.heap.size) :
    ∃ v' w', (Builtin.append_ #[51, 51] ty #[v, .slice A2 m c2]).run Tryd.prog w = .ok v' w' ∧ MV w' lo v' (n + m) ∧ w.grownBy w' v.ownBlock := by
  obtain ⟨i, hi, hz, hsz, hby⟩ := info_parts infoMs
  obtain ⟨b, off, c, cur, rfl, hl, hB, hs, hnc, hcm, cs, hc, hmc⟩ := h
  obtain ⟨b2, off2, rfl, hb2, hc2⟩ := hr.2 hm0
  have hnl := hr.1
  have hcl := hmc.1
  have hcells : ∀ j u, news[j]? = some u → w.cell? ((⟨b2, off2, none⟩ : Addr).add j) = some u := fun j u hu => by rw [addr_add]; exact hc2 j u hu
  by_cases hroom : n + m ≤ c
  · have hsrc : Src Tryd.prog i.size 51 (.slice (some ⟨b2, off2, none⟩) m c2) m news w := Src.ofSlice w Tryd.underlying51 _ m c2 news (by rw [hsz]; exact hnl) hcells hm.cell1
    have hrun := run_append_room_src (P := Tryd.prog) (w := w) 51 51 ty 55 i Tryd.underlying51 hi b off n c _ m news hsrc hroom
      (fun j hj => by rw [hB.cell, Array.getElem?_eq_getElem (by rw [hsz]; omega)]; rfl) (fun j hj => hB.frozen _)
    rw [hsz] at hrun
    obtain ⟨cur', k1, k2, k3, k4, k5⟩ := Blk.setCells news (off + n * 2) w cur hB (by omega)
    refine ⟨_, _, hrun, ⟨b, off, c, cur', rfl, hl, k1, by omega, hroom, hcm, cs ++ news, fun k u hu => ?_, ?_⟩, k5⟩
    · by_cases hk : k < cs.length
      · rw [List.getElem?_append_left hk] at hu
        rw [k3 _ (by omega)]; exact hc k u hu
      · rw [List.getElem?_append_right (by omega)] at hu
        have := k4 _ u hu
        rw [show off + n * 2 + (k - cs.length) = off + k by omega] at this
        exact this
    · exact (hmc.map (fun u q h => h.grown hB (by decide) k5)).append (hm.map (fun u q h => h.grown hB (by decide) k5))
  · have holds : ∀ j u, cs[j]? = some u → w.cell? ((⟨b, off, none⟩ : Addr).add j) = some u := fun j u hu => by rw [addr_add, hB.cell]; exact hc j u hu
    have hrun := run_append_grow (P := Tryd.prog) w 51 ty 55 i _ Tryd.underlying51 hi hz ⟨b, off, none⟩ n c cs (by rw [hsz]; exact hcl) holds ⟨b2, off2, none⟩ m c2 news (by rw [hsz]; exact hnl) hcells (by omega) (by omega) (growslice_fits (by omega) (by rw [hby]; omega))
    have hge := grownCap_ge w (n + m) c 55
    have hcm2 : grownCap w (n + m) c 55 ≤ maxLen := grownCap_le_maxLen w (n + m) c _ (by simp only [maxLen]; omega)
    have hB2 : Below w.heap.size w (w.drew.alloc (.cells (cs.toArray ++ news.toArray ++ Builtin.zeroCells (Value.agg #[.int .i64 0, .slice none 0 0]).cells (grownCap w (n + m) c 55 - (n + m))) 55)) := ((Below.refl _ _).drew).alloc (Nat.le_refl _) _
    refine ⟨_, _, hrun, ⟨w.heap.size, 0, _, _, rfl, hlo, Blk.new w.drew _ _, ?_, hge, hcm2, cs ++ news, fun k u hu => ?_, ?_⟩, grown_of_below hB2 _⟩
    · simp only [Array.size_append, List.size_toArray, size_zeroCells, hcl, hnl]
      have : (Value.agg #[.int .i64 0, .slice none 0 0]).cells.size = 2 := rfl
      rw [this]; omega
    · rw [Nat.zero_add, Array.getElem?_append_left (by have := (List.getElem?_eq_some_iff.1 hu).1; simp at this ⊢; omega)]
      simpa using hu
    · exact (hmc.map (fun u q h => h.below hB2)).append (hm.map (fun u q h => h.below hB2))
theorem wpList_appMV {w : World} {o : Oper} {a : Act} {Q : Exit → Act → World → Prop} {ops : Array Oper} {rest : List Oper} (hgd : o.guard = none) (s x : Operand)
    (ho : o.op = .call { callee := .builtin .append, args := #[s, x], argTypes := #[51, 51] })
    {lo : Nat} {v : Value} {n : Nat} (hs : a.eval s = v) (h : MV w lo v n) {A2 : Option Addr} {m c2 : Nat} {news : List Value} (hx : a.eval x = .slice A2 m c2) (hr : Rd w 2 A2 m news) (hm : MCs w lo news m) (hm0 : 0 < m) (hnm : n + m ≤ 1000) (hlo : lo ≤ w.heap.size)
    (hK : ∀ v' w', MV w' lo v' (n + m) → w.grownBy w' v.ownBlock → wpList Tryd.prog ops Q rest (a.put o.dst v') w') : wpList Tryd.prog ops Q (o :: rest) a w :=
  wpList_plain hgd fun K hK' => by
    obtain ⟨v', w', hrun, h2, h3⟩ := app_mv h o.type (c2 := c2) hr hm hm0 hnm hlo
    unfold Oper.wp execOp
    simp only [ho, resolve, invoke, builtin, Sem.run_bind, Sem.run_pure, Result.andThen_ok, List.map_toArray, List.map_cons, List.map_nil, hs, hx, hrun]
    exact hK' _ _ (hK v' w' h2 h3)
theorem step_appMV {w : World} {o : Oper} {a : Act} {K : Act → World → Prop} {Q : Exit → Act → World → Prop} {ops : Array Oper} {E : Prop} (hgd : o.guard = none) (s x : Operand)
    (ho : o.op = .call { callee := .builtin .append, args := #[s, x], argTypes := #[51, 51] })
    {lo : Nat} {v : Value} {n : Nat} (hs : a.eval s = v) (h : MV w lo v n) {A2 : Option Addr} {m c2 : Nat} {news : List Value} (hx : a.eval x = .slice A2 m c2) (hr : Rd w 2 A2 m news) (hm : MCs w lo news m) (hm0 : 0 < m) (hnm : n + m ≤ 1000) (hlo : lo ≤ w.heap.size)
    (hK : ∀ v' w', MV w' lo v' (n + m) → w.grownBy w' v.ownBlock → K (a.put o.dst v') w') :
    if Region.wanted o (yielded ops a.tmps) = true then Oper.wp Tryd.prog o a w K Q else E := by
  have hw : Region.wanted o (yielded ops a.tmps) = true := by simp [Region.wanted, hgd]
  rw [if_pos hw]
  obtain ⟨v', w', hrun, h2, h3⟩ := app_mv h o.type (c2 := c2) hr hm hm0 hnm hlo
  unfold Oper.wp execOp
  simp only [ho, resolve, invoke, builtin, Sem.run_bind, Sem.run_pure, Result.andThen_ok, List.map_toArray, List.map_cons, List.map_nil, hs, hx, hrun]
  exact hK v' w' h2 h3
/-- 'append' of messages onto a fresh row, as cells, inside a region that draws. -/
theorem step_appM {w : World} {o : Oper} {a : Act} {K : Act → World → Prop} {Q : Exit → Act → World → Prop} {ops : Array Oper} {E : Prop} (hgd : o.guard = none) (s x : Operand)
    (ho : o.op = .call { callee := .builtin .append, args := #[s, x], argTypes := #[51, 51] })
    {B : Nat} {v : Value} {n : Nat} {cs : List Value} (hs : a.eval s = v) (hown : w.ownsRow B 55 2 v n cs)
    {A2 : Option Addr} {m c2 : Nat} {news : List Value} (hx : a.eval x = .slice A2 m c2) (hr : Rd w 2 A2 m news) (h1 : ∀ u ∈ news, u.oneCell' = true) (hnm : n + m ≤ 1000) (hbase : B ≤ w.heap.size)
    (h : ∀ v' w', w'.ownsRow B 55 2 v' (n + m) (cs ++ news) → w.grownBy w' v.ownBlock → (v'.ownBlock = v.ownBlock ∨ v'.ownBlock = some w.heap.size) → K (a.put o.dst v') w') :
    if Region.wanted o (yielded ops a.tmps) = true then Oper.wp Tryd.prog o a w K Q else E := by
  have hw : Region.wanted o (yielded ops a.tmps) = true := by simp [Region.wanted, hgd]
  rw [if_pos hw]
  obtain ⟨i, hi, hz, hsz, hby⟩ := info_parts infoMs
  obtain ⟨v', w', hrun, h2, h3, h4⟩ := app_rd (P := Tryd.prog) B 51 o.type 55 i _ 2 32 Tryd.underlying51 hi hz hsz hby rfl (by omega) v n _ hown A2 m c2 _ hr h1 (by simp only [maxLen]; omega) (by omega) hbase
  unfold Oper.wp execOp
  simp only [ho, resolve, invoke, builtin, Sem.run_bind, Sem.run_pure, Result.andThen_ok, List.map_toArray, List.map_cons, List.map_nil, hs, hx, hrun]
  exact h v' w' h2 h3 h4
/-- out[:k] and out[k:]. -/
theorem sliceM_hi {A : Option Addr} {n c k : Nat} {cs : List Value} {w : World} (hnc : n ≤ c) (hr : Rd w 2 A n cs) (hk : k ≤ n) :
    ∃ A', (∀ w', (Instr.slice 51 (.slice A n c) none (some (.int .i64 (k : Int))) none).run Tryd.prog w' = .ok (.slice A' k c) w') ∧ Rd w 2 A' k (cs.take (k * 2)) := by
  obtain ⟨i, hi, hz, hsz, hb⟩ := info_parts infoMs
  have hl := hr.1
  refine ⟨if c = 0 then A else A.map (·.add (0 * i.size)), fun w' => ?_, by rw [List.length_take]; omega, fun hk0 => ?_⟩
  · have h2 : k ≤ c := by omega
    simp [Instr.slice, Instr.sliceBounds, Instr.sliceBound, run_underlying Tryd.underlying51, sizeOf, typeInfo, hi, asIntOf, h2]
  · obtain ⟨b, off, rfl, hb', hc⟩ := hr.2 (by omega)
    refine ⟨b, off, ?_, hb', fun j x hj => ?_⟩
    · rw [if_neg (by omega), Nat.zero_mul]; simp [addr_add]
    · rw [List.getElem?_take] at hj
      split at hj
      · exact hc j x hj
      · cases hj
theorem sliceM_lo {A : Option Addr} {n c k : Nat} {cs : List Value} {w : World} (hnc : n ≤ c) (hr : Rd w 2 A n cs) (hk : k ≤ n) :
    ∃ A', (∀ w', (Instr.slice 51 (.slice A n c) (some (.int .i64 (k : Int))) none none).run Tryd.prog w' = .ok (.slice A' (n - k) (c - k)) w') ∧ Rd w 2 A' (n - k) (cs.drop (k * 2)) := by
  obtain ⟨i, hi, hz, hsz, hb⟩ := info_parts infoMs
  have hl := hr.1
  refine ⟨if c = k then A else A.map (·.add (k * i.size)), fun w' => ?_, by rw [List.length_drop]; omega, fun hk0 => ?_⟩
  · have h2 : k ≤ n := by omega
    simp [Instr.slice, Instr.sliceBounds, Instr.sliceBound, run_underlying Tryd.underlying51, sizeOf, typeInfo, hi, asIntOf, h2]
  · obtain ⟨b, off, rfl, hb', hc⟩ := hr.2 (by omega)
    refine ⟨b, off + k * 2, ?_, hb', fun j x hj => ?_⟩
    · rw [if_neg (by omega), hsz]; simp [addr_add]
    · rw [List.getElem?_drop] at hj
      rw [Nat.add_assoc]; exact hc _ x hj
/-- out[1:] of a slice in its row. -/
theorem sliceM_one {b off n c : Nat} (hnc : n ≤ c) : ∀ w', (Instr.slice 51 (.slice (some ⟨b, off, none⟩) (n + 1) (c + 1)) (some (.int .i64 1)) none none).run Tryd.prog w' = .ok (.slice (some ⟨b, off + (if c = 0 then 0 else 2), none⟩) n c) w' := by
  obtain ⟨i, hi, hz, hsz, hb⟩ := info_parts infoMs
  intro w'
  have hn1 : ¬ ((n : Int) + 1 < 1) := by omega
  by_cases h0 : c = 0
  · subst h0
    simp [Instr.slice, Instr.sliceBounds, Instr.sliceBound, run_underlying Tryd.underlying51, sizeOf, typeInfo, hi, asIntOf, hn1]
  · simp [Instr.slice, Instr.sliceBounds, Instr.sliceBound, run_underlying Tryd.underlying51, sizeOf, typeInfo, hi, asIntOf, h0, hsz, addr_add, hn1]
/-- Four clocks in a row. -/
def SV4 (w : World) (lo bd sb : Nat) : Prop := lo ≤ sb ∧ ∃ qs : Array Value, Blk w sb 38 qs ∧ qs.size = 4 ∧ ∀ i, i < 4 → ∃ q xs, qs[i]? = some q ∧ OI w lo q 4 xs ∧ ∀ x ∈ xs, 0 ≤ x ∧ x ≤ (bd : Int)
section
variable {w w' : World} {g lo bd sb : Nat}
theorem SV4.below (h : SV4 w lo bd sb) (hb : Below w.heap.size w w') : SV4 w' lo bd sb := by
  obtain ⟨h0, qs, h1, h2, h3⟩ := h
  exact ⟨h0, qs, h1.belowAll hb, h2, fun i hi => by obtain ⟨q, xs, a, b, c⟩ := h3 i hi; exact ⟨q, xs, a, b.below hb, c⟩⟩
theorem SV4.kp (h : SV4 w lo bd sb) (hg : w.grownBy w' (some g)) (hl : g < lo) : SV4 w' lo bd sb := by
  obtain ⟨h0, qs, h1, h2, h3⟩ := h
  exact ⟨h0, qs, h1.grown hg (fun e => by injection e with e; omega), h2, fun i hi => by obtain ⟨q, xs, a, b, c⟩ := h3 i hi; exact ⟨q, xs, a, b.grown hg (b.block_ne hl), c⟩⟩
theorem SV4.at_ (h : SV4 w lo bd sb) {i : Nat} (hi : i < 4) : ∃ q xs, w.cell? ⟨sb, i, none⟩ = some q ∧ OI w lo q 4 xs ∧ ∀ x ∈ xs, 0 ≤ x ∧ x ≤ (bd : Int) := by
  obtain ⟨h0, qs, h1, h2, h3⟩ := h
  obtain ⟨q, xs, a, b, c⟩ := h3 i hi
  exact ⟨q, xs, (h1.cell i).trans a, b, c⟩
theorem SV4.free (h : SV4 w lo bd sb) (i : Nat) : w.frozen? ⟨sb, i, none⟩ = false := by obtain ⟨h0, qs, h1, h2, h3⟩ := h; exact h1.frozen i
theorem SV4.blk (h : SV4 w lo bd sb) : ∃ qs, Blk w sb 38 qs := by obtain ⟨h0, qs, h1, h2, h3⟩ := h; exact ⟨qs, h1⟩
theorem SV4.set_ (h : SV4 w lo bd sb) (i : Nat) {q : Value} {xs : List Int} (hq : OI w lo q 4 xs) (hx : ∀ x ∈ xs, 0 ≤ x ∧ x ≤ ((bd + 1 : Nat) : Int)) : SV4 (w.setCell ⟨sb, i, none⟩ q) lo (bd + 1) sb := by
  obtain ⟨h0, qs, h1, h2, h3⟩ := h
  have hg : w.grownBy (w.setCell ⟨sb, i, none⟩ q) (some sb) := grown_setCell (World.grownBy.refl w _) (.inl rfl) q
  refine ⟨h0, _, h1.set_ i q, by simp [h2], fun j hj => ?_⟩
  by_cases e : i = j
  · subst e
    exact ⟨q, xs, by rw [Array.getElem?_setIfInBounds_self_of_lt (by omega)], hq.grown hg (hq.ne_row h1 (by decide)), hx⟩
  · obtain ⟨q', xs', a, b, c⟩ := h3 j hj
    exact ⟨q', xs', by rw [Array.getElem?_setIfInBounds_ne e]; exact a, b.grown hg (b.ne_row h1 (by decide)), fun x hx => by have := c x hx; omega⟩
end
theorem maxL_mem : ∀ (xs ys : List Int) (x : Int), x ∈ maxL xs ys → x ∈ xs ∨ x ∈ ys
  | [], _, x, h => by simp [maxL] at h
  | _ :: _, [], x, h => by simp [maxL] at h
  | a :: xs, b :: ys, x, h => by
    simp only [maxL, List.mem_cons] at h
    rcases h with h | h
    · split at h <;> simp [h]
    · rcases maxL_mem xs ys x h with h | h <;> simp [h]
theorem joinL_ok {xs ys : List Int} {bd : Nat} (hb : bd ≤ 1000) (hx : xs.length = 4) (hy : ys.length = 4) (bx : ∀ x ∈ xs, 0 ≤ x ∧ x ≤ (bd : Int)) (by_ : ∀ x ∈ ys, 0 ≤ x ∧ x ≤ (bd : Int)) : (joinL xs ys).length = 4 ∧ ∀ x ∈ joinL xs ys, 0 ≤ x ∧ x ≤ (bd : Int) := by
  have cx : clockB xs = true := (clockB_iff _).2 ⟨hx, fun x h => (inB_iff _ _ _).2 (by have := bx x h; omega)⟩
  have cy : clockB ys = true := (clockB_iff _).2 ⟨hy, fun x h => (inB_iff _ _ _).2 (by have := by_ x h; omega)⟩
  unfold joinL
  rw [cx, cy]
  refine ⟨by show (maxL xs ys).length = 4; rw [maxL_len, hx, hy]; rfl, fun x h => ?_⟩
  rcases maxL_mem xs ys x h with h | h
  · exact bx x h
  · exact by_ x h
theorem Rd.twoM {w : World} {g : Nat} {t : TypeId} {a b : Value} (h : Blk w g t #[a, b]) : Rd w 2 (some ⟨g, 0, none⟩) 1 [a, b] :=
  ⟨rfl, fun _ => ⟨g, 0, rfl, h.lt, fun k u hu => by
    rw [Nat.zero_add, h.cell]
    match k, hu with
    | 0, hu => simpa using hu
    | 1, hu => simpa using hu⟩⟩
theorem Rd.fourM {w : World} {g : Nat} {t : TypeId} {a b c d : Value} (h : Blk w g t #[a, b, c, d]) : Rd w 2 (some ⟨g, 0, none⟩) 2 [a, b, c, d] :=
  ⟨rfl, fun _ => ⟨g, 0, rfl, h.lt, fun k u hu => by
    rw [Nat.zero_add, h.cell]
    match k, hu with
    | 0, hu => simpa using hu
    | 1, hu => simpa using hu
    | 2, hu => simpa using hu
    | 3, hu => simpa using hu⟩⟩
/-- A fresh row of messages. -/
theorem ownE (w : World) : (w.alloc (.cells #[] 55)).ownsRow w.heap.size 55 2 (.slice (some ⟨w.heap.size, 0, none⟩) 0 0) 0 [] :=
  ⟨rfl, .inr ⟨w.heap.size, 0, #[], rfl, Nat.le_refl _, Blk.new w _ _, Nat.le_refl _, by simp [maxLen], rfl, rfl⟩⟩
theorem own_below {w w' : World} {B n s : Nat} {t : TypeId} {v : Value} {cs : List Value} (h : w.ownsRow B t s v n cs) (hb : Below w.heap.size w w') : w'.ownsRow B t s v n cs :=
  h.kept (row := none) ⟨hb.os, hb.tape, hb.output, hb.size, fun k hk _ => hb.block k hk⟩ (by cases hv : v.ownBlock <;> simp)
theorem own_alloc {w : World} {B n s : Nat} {t : TypeId} {v : Value} {cs : List Value} (h : w.ownsRow B t s v n cs) (o : Obj) : (w.alloc o).ownsRow B t s v n cs := own_below h ((Below.refl _ _).alloc (Nat.le_refl _) _)
theorem own_mono {w : World} {B B' n s : Nat} {t : TypeId} {v : Value} {cs : List Value} (h : w.ownsRow B t s v n cs) (hB : B' ≤ B) : w.ownsRow B' t s v n cs := by
  refine ⟨h.1, ?_⟩
  rcases h.2 with h2 | ⟨g, cap, cur, hv, hb, r⟩
  · exact .inl h2
  · exact .inr ⟨g, cap, cur, hv, by omega, r⟩
theorem below_appM {a w w' : World} {B n : Nat} {t : TypeId} {v : Value} {cs : List Value} (h : Below a.heap.size a w) (ho : w.ownsRow B t 2 v n cs) (hB : a.heap.size ≤ B) (hg : w.grownBy w' v.ownBlock) : Below a.heap.size a w' :=
  h.grown hg h.size (fun k hk => by have := (World.ownsRow.lt ho k hk).1; omega)
/-- What a drawn message is made of. -/
def CVm (w : World) (lo : Nat) (u : Value) : Prop := ∃ (k : Nat) (xs : List Int), OI w lo u k xs ∧ k ≤ 5
def T2 (w : World) (lo : Nat) (u : Value) : Prop := ∃ b, u = .slice (some ⟨b, 0, none⟩) 2 2 ∧ lo ≤ b ∧ b < w.heap.size ∧ ∀ i, i < 2 → ∃ y : Int, w.cell? ⟨b, i, none⟩ = some (.int .i64 y)
def BM (w : World) (lo : Nat) (u : Value) : Prop := ∃ (f : Int) (q : Value), u = .agg #[.int .i64 f, q] ∧ CVm w lo q
def RMs (w : World) (lo : Nat) (u : Value) : Prop := ∃ b f q, u = .slice (some ⟨b, 0, none⟩) 1 1 ∧ lo ≤ b ∧ Blk w b 55 #[.int .i64 f, q] ∧ CVm w lo q
section
variable {w w' : World} {g lo : Nat}
theorem CVm.kp {u : Value} (h : CVm w lo u) (hg : w.grownBy w' (some g)) (hl : g < lo) : CVm w' lo u := by
  obtain ⟨k, xs, ho, hk⟩ := h; exact ⟨k, xs, ho.grown hg (ho.block_ne hl), hk⟩
theorem T2.kp {u : Value} (h : T2 w lo u) (hg : w.grownBy w' (some g)) (hl : g < lo) : T2 w' lo u := by
  obtain ⟨b, e, hb, hs, hc⟩ := h; exact ⟨b, e, hb, Nat.lt_of_lt_of_le hs hg.size, fun i hi => by obtain ⟨y, hy⟩ := hc i hi; exact ⟨y, (cell_kpW hb hs hg hl).trans hy⟩⟩
theorem BM.kp {u : Value} (h : BM w lo u) (hg : w.grownBy w' (some g)) (hl : g < lo) : BM w' lo u := by
  obtain ⟨f, q, e, hq⟩ := h; exact ⟨f, q, e, hq.kp hg hl⟩
theorem RMs.kp {u : Value} (h : RMs w lo u) (hg : w.grownBy w' (some g)) (hl : g < lo) : RMs w' lo u := by
  obtain ⟨b, f, q, e, hb, hK, hq⟩ := h; exact ⟨b, f, q, e, hb, hK.grown hg (fun e => by injection e with e; omega), hq.kp hg hl⟩
theorem T2.new (hl : lo ≤ w.heap.size) (a b : Int) : T2 (w.alloc (.cells #[.int .i64 a, .int .i64 b] 3)) lo (.slice (some ⟨w.heap.size, 0, none⟩) 2 2) := by
  have K := Blk.new w 3 #[.int .i64 a, .int .i64 b]
  refine ⟨_, rfl, hl, by simp, fun i hi => ?_⟩
  match i, hi with
  | 0, _ => exact ⟨a, K.cell 0⟩
  | 1, _ => exact ⟨b, K.cell 1⟩
end

end Go.Proofs.YtopjdidigfdhbaaDoor
