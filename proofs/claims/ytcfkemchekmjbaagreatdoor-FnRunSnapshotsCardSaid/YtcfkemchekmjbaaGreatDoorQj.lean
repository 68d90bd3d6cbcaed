/- Merged (what the law reaches): Tw, RunI4. -/
import Derived.Test.YtcfkemchekmjbaaGreatDoorQi
import Derived.BigRegion
namespace Go.Proofs.YtcfkemchekmjbaaGreatDoor
open Go.RowKit
structure OV (w : World) (lo : Nat) (v : Value) (n : Nat) (es : List El) : Prop where
  row : w.ownsRow lo 66 3 v n (cellsT es)
  own : ∀ (j : Nat) (e : El), es[j]? = some e → OW 61 3 w lo e.2.1.1 e.2.1.2.1 e.2.1.2.2
  apart : ∀ (i j : Nat) (p q : El), i ≠ j → es[i]? = some p → es[j]? = some q → Apart p.2.1.1 q.2.1.1
  small : n ≤ 1048576
section
variable {w w' : World} {lo n : Nat} {v : Value} {es : List El}
theorem OV.len (h : OV w lo v n es) : es.length = n := by have := h.row.1; rw [cellsT_len] at this; omega
theorem OV.shape (h : OV w lo v n es) : v = .slice none 0 0 ∧ n = 0 ∨ ∃ g c, v = .slice (some ⟨g, 0, none⟩) n c ∧ lo ≤ g ∧ g < w.heap.size ∧ n ≤ c ∧ c ≤ maxLen ∧ ∃ cs, Blk w g 66 cs := by
  rcases h.row.2 with ⟨h1, h2⟩ | ⟨g, cap, cur, h1, hB, hg, hc, hm, hs, ht⟩
  · exact .inl ⟨h1, h2⟩
  · exact .inr ⟨g, cap, h1, hB, Blk.lt hg, hc, hm, cur, hg⟩
theorem OV.ne (h : OV w lo v n es) {j : Nat} {e : El} (hj : es[j]? = some e) {k : Nat} (hk : v.ownBlock = some k) : e.2.1.1.ownBlock ≠ some k := by
  rcases h.shape with ⟨rfl, _⟩ | ⟨g, c, rfl, _, _, _, _, cs, hb⟩
  · simp [Value.ownBlock] at hk
  · have e1 : g = k := by have h : some g = some k := hk; injection h
    subst e1
    exact (h.own j e hj).ne_blk hb (by decide)
/-- The blocks in which it lies. -/
def OV.S (v : Value) (es : List El) (k : Nat) : Prop := v.ownBlock = some k ∨ ∃ (j : Nat) (e : El), es[j]? = some e ∧ e.2.1.1.ownBlock = some k
theorem OV.range (h : OV w lo v n es) : ∀ k, OV.S v es k → lo ≤ k ∧ k < w.heap.size := fun k hk => by
  rcases hk with hk | ⟨j, e, hj, hk⟩
  · exact World.ownsRow.lt h.row k hk
  · exact (h.own j e hj).lt k hk
theorem OV.chg {S : Nat → Prop} (h : OV w lo v n es) (hc : Chg S w w') (hS : ∀ k, OV.S v es k → ¬ S k) : OV w' lo v n es :=
  ⟨own_chg h.row hc (fun k hk => hS k (.inl hk)), fun j e hj => (h.own j e hj).chg hc (fun k hk => hS k (.inr ⟨j, e, hj, hk⟩)), h.apart, h.small⟩
theorem OV.below (h : OV w lo v n es) (hb : Below w.heap.size w w') : OV w' lo v n es := h.chg (S := fun _ => False) (Chg.of_below hb) (fun _ _ => id)
theorem OV.mono {lo' : Nat} (h : OV w lo v n es) (hl : lo' ≤ lo) : OV w lo' v n es := by
  refine ⟨⟨h.row.1, ?_⟩, fun j e hj => (h.own j e hj).mono hl, h.apart, h.small⟩
  rcases h.row.2 with h2 | ⟨g, cap, cur, hv, hb, r⟩
  · exact .inl h2
  · exact .inr ⟨g, cap, cur, hv, by omega, r⟩
theorem OV.alloc (h : OV w lo v n es) (o : Obj) : OV (w.alloc o) lo v n es := h.below ((Below.refl _ _).alloc (Nat.le_refl _) _)
theorem OV.drew (h : OV w lo v n es) : OV w.drew lo v n es := h.below (Below.refl _ _).drew
theorem OV.grown {row : Option Nat} (h : OV w lo v n es) (hg : w.grownBy w' row) (hne : ∀ k, row = some k → ¬ OV.S v es k) : OV w' lo v n es :=
  h.chg (S := fun k => row = some k) (Chg.of_grown hg (fun _ e => e)) (fun k hk hr => hne k hr hk)
theorem OV.cells {g c : Nat} (h : OV w lo (.slice (some ⟨g, 0, none⟩) n c) n es) {j : Nat} {e : El} (hj : es[j]? = some e) :
    w.cell? ⟨g, j * 3, none⟩ = some (.int .i64 e.1) ∧ w.cell? ⟨g, j * 3 + 1, none⟩ = some e.2.1.1 ∧ w.cell? ⟨g, j * 3 + 2, none⟩ = some (.bool e.2.2) := by
  have hjn : j < n := by rw [← h.len]; exact (List.getElem?_eq_some_iff.1 hj).1
  have hl := cellsT_len es
  rw [h.len] at hl
  obtain ⟨h0, h1, h2⟩ := cellsT_get es j e hj
  refine ⟨(World.ownsRow.cellAt h.row (j * 3) (by omega)).trans ?_, (World.ownsRow.cellAt h.row (j * 3 + 1) (by omega)).trans ?_, (World.ownsRow.cellAt h.row (j * 3 + 2) (by omega)).trans ?_⟩
  · rw [← h0, List.getElem?_eq_getElem (by omega)]
  · rw [← h1, List.getElem?_eq_getElem (by omega)]
  · rw [← h2, List.getElem?_eq_getElem (by omega)]
theorem OV.free {g c : Nat} (h : OV w lo (.slice (some ⟨g, 0, none⟩) n c) n es) (i : Nat) : w.frozen? ⟨g, i, none⟩ = false := World.ownsRow.frozenAt h.row i
theorem OV.base {g c : Nat} (h : OV w lo (.slice (some ⟨g, 0, none⟩) n c) n es) : lo ≤ g ∧ g < w.heap.size := World.ownsRow.lt h.row g rfl
/-- Of a turned list of elements: who has the same slices. -/
theorem OV.turn {es' : List El} (h : OV w lo v n es) (hr : w'.ownsRow lo 66 3 v n (cellsT es')) (hs : ∀ (j : Nat) (e' : El), es'[j]? = some e' → ∃ e, es[j]? = some e ∧ e'.2.1.1 = e.2.1.1 ∧ OW 61 3 w' lo e'.2.1.1 e'.2.1.2.1 e'.2.1.2.2) : OV w' lo v n es' :=
  ⟨hr, fun j e hj => by obtain ⟨_, _, _, h3⟩ := hs j e hj; exact h3, fun i j p q hij hp hq => by
    obtain ⟨p', h1, h2, _⟩ := hs i p hp
    obtain ⟨q', h3, h4, _⟩ := hs j q hq
    rw [h2, h4]; exact h.apart i j p' q' hij h1 h3, h.small⟩
theorem OW.set_row {g c : Nat} (h : OV w lo (.slice (some ⟨g, 0, none⟩) n c) n es) {j : Nat} {e : El} (hj : es[j]? = some e) (i : Nat) (u : Value) : OW 61 3 (w.setCell ⟨g, i, none⟩ u) lo e.2.1.1 e.2.1.2.1 e.2.1.2.2 :=
  (h.own j e hj).chg (Chg.setCell (S := fun k => k = g) (p := ⟨g, i, none⟩) rfl u) (fun k hk e1 => h.ne hj (k := g) rfl (by rw [hk, e1]))
theorem OV.set2 {g c : Nat} (h : OV w lo (.slice (some ⟨g, 0, none⟩) n c) n es) {j : Nat} {e : El} (hj : es[j]? = some e) (x : Bool) :
    OV (w.setCell ⟨g, j * 3 + 2, none⟩ (.bool x)) lo (.slice (some ⟨g, 0, none⟩) n c) n (es.set j (e.1, e.2.1, x)) := by
  refine h.turn ?_ (fun i e' hi => ?_)
  · rw [← cellsT_set2 es j e x hj]; exact (World.ownsRow.stored h.row (j * 3 + 2) (.bool x)).1
  · by_cases e1 : j = i
    · subst e1
      rw [List.getElem?_set_self (List.getElem?_eq_some_iff.1 hj).1] at hi
      injection hi with hi; subst hi
      exact ⟨e, hj, rfl, OW.set_row h hj _ _⟩
    · rw [List.getElem?_set_ne e1] at hi
      exact ⟨e', hi, rfl, OW.set_row h hi _ _⟩
/-- One element's slice was appended to, and stored back. -/
theorem OV.append {g c : Nat} (h : OV w lo (.slice (some ⟨g, 0, none⟩) n c) n es) {j : Nat} {e : El} (hj : es[j]? = some e) (hg : w.grownBy w' e.2.1.1.ownBlock) {q : In} (ho : OW 61 3 w' lo q.1 q.2.1 q.2.2)
    (hq : q.1.ownBlock = e.2.1.1.ownBlock ∨ ∀ k, q.1.ownBlock = some k → w.heap.size ≤ k) : OV (w'.setCell ⟨g, j * 3 + 1, none⟩ q.1) lo (.slice (some ⟨g, 0, none⟩) n c) n (es.set j (e.1, q, e.2.2)) := by
  have hjl := (List.getElem?_eq_some_iff.1 hj).1
  have hrow : w'.ownsRow lo 66 3 (.slice (some ⟨g, 0, none⟩) n c) n (cellsT es) := own_chg h.row (S := fun k => e.2.1.1.ownBlock = some k) (Chg.of_grown hg (fun _ e => e)) (fun k hk hr => h.ne hj hk hr)
  have hblk : ∃ cs, Blk w' g 66 cs := by
    rcases hrow.2 with ⟨h1, _⟩ | ⟨g', cap, cur, h1, _, hb, _⟩
    · cases h1
    · injection h1 with h1; injection h1 with h1; injection h1 with h1; subst h1; exact ⟨cur, hb⟩
  obtain ⟨cs, hblk⟩ := hblk
  have hset : ∀ {m : Nat} {u : Value} {xs : List Int}, OW 61 3 w' lo u m xs → OW 61 3 (w'.setCell ⟨g, j * 3 + 1, none⟩ q.1) lo u m xs := fun {m u xs} hu =>
    hu.chg (Chg.setCell (S := fun k => k = g) (p := ⟨g, j * 3 + 1, none⟩) rfl _) (fun k hk e1 => hu.ne_blk hblk (by decide) (by rw [hk, e1]))
  have hap : ∀ (i : Nat) (p : El), i ≠ j → es[i]? = some p → Apart p.2.1.1 q.1 := fun i p hij hi => by
    rcases hq with hq | hq
    · have := h.apart i j p e hij hi hj
      unfold Apart at *
      rw [hq]; exact this
    · unfold Apart
      cases hp : p.2.1.1.ownBlock with
      | none => exact .inl rfl
      | some k =>
        right; intro e1
        have h1 := (h.own i p hi).lt k hp
        have h2 := hq k e1.symm
        omega
  refine ⟨?_, fun i p hi => ?_, fun i k p r hik hi hk => ?_, h.small⟩
  · rw [← cellsT_set1 es j e q hj]; exact (World.ownsRow.stored hrow (j * 3 + 1) q.1).1
  · by_cases e1 : j = i
    · subst e1
      rw [List.getElem?_set_self hjl] at hi
      injection hi with hi; subst hi
      exact hset ho
    · rw [List.getElem?_set_ne e1] at hi
      exact hset ((h.own i p hi).grown hg (h.apart i j p e (Ne.symm e1) hi hj))
  · by_cases e1 : j = i
    · subst e1
      rw [List.getElem?_set_self hjl] at hi
      rw [List.getElem?_set_ne hik] at hk
      injection hi with hi; subst hi
      exact (hap k r (Ne.symm hik) hk).symm
    · rw [List.getElem?_set_ne e1] at hi
      by_cases e2 : j = k
      · subst e2
        rw [List.getElem?_set_self hjl] at hk
        injection hk with hk; subst hk
        exact hap i p (Ne.symm e1) hi
      · rw [List.getElem?_set_ne e2] at hk
        exact h.apart i k p r hik hi hk
/-- A further element behind all. -/
theorem OV.push {v' : Value} (h : OV w lo v n es) {e : El} (hr : w'.ownsRow lo 66 3 v' (n + 1) (cellsT (es ++ [e]))) (hg : w.grownBy w' v.ownBlock) (ho : OW 61 3 w' lo e.2.1.1 e.2.1.2.1 e.2.1.2.2)
    (ha : ∀ (j : Nat) (p : El), es[j]? = some p → Apart p.2.1.1 e.2.1.1) (hn : n + 1 ≤ 1048576) : OV w' lo v' (n + 1) (es ++ [e]) := by
  have key : ∀ (i : Nat) (p : El), (es ++ [e])[i]? = some p → (i < es.length ∧ es[i]? = some p) ∨ (i = es.length ∧ p = e) := fun i p hi => by
    by_cases e1 : i < es.length
    · rw [List.getElem?_append_left e1] at hi; exact .inl ⟨e1, hi⟩
    · have : i = es.length := by have := (List.getElem?_eq_some_iff.1 hi).1; simp at this; omega
      subst this
      simp at hi
      exact .inr ⟨rfl, hi.symm⟩
  refine ⟨hr, fun i p hi => ?_, fun i k p r hik hi hk => ?_, hn⟩
  · rcases key i p hi with ⟨_, hi2⟩ | ⟨_, rfl⟩
    · refine (h.own i p hi2).grown hg ?_
      cases hv : p.2.1.1.ownBlock with
      | none => exact .inl rfl
      | some k => right; intro e2; exact h.ne hi2 e2.symm hv
    · exact ho
  · rcases key i p hi with ⟨_, hi2⟩ | ⟨e1, ei⟩
    · rcases key k r hk with ⟨_, hk2⟩ | ⟨_, ek⟩
      · exact h.apart i k p r hik hi2 hk2
      · exact ek ▸ ha i p hi2
    · rcases key k r hk with ⟨_, hk2⟩ | ⟨e2, _⟩
      · exact ei ▸ (ha k r hk2).symm
      · omega
end
theorem OV.sts {w : World} {lo n : Nat} {v : Value} {es : List El} {ts : List Tx} (h : OV w lo v n es) (hs : SaysT es ts) : STs w v n ts := by
  have hl := h.len
  have hl2 := hs.len
  rcases h.shape with ⟨rfl, rfl⟩ | ⟨g, c, rfl, _, hgs, hnc, hcm, _⟩
  · have : ts = [] := List.eq_nil_of_length_eq_zero (by omega)
    subst this
    exact ⟨none, 0, rfl, Nat.le_refl _, by omega, RTs.nil⟩
  · refine ⟨_, c, rfl, hnc, h.small, by omega, fun _ => ⟨g, 0, rfl, hgs, fun k t hk => ?_⟩⟩
    obtain ⟨e, he, e1, e2, e3⟩ := hs.at_ hk
    obtain ⟨c0, c1, c2⟩ := h.cells he
    have ho := h.own k e he
    rw [e2] at ho
    obtain ⟨A, c', h1, h2, h3, _⟩ := OW.form ho
    obtain ⟨A', c'', h4, _, _, h5⟩ := ho.s3
    rw [h1] at h4; injection h4 with e4 _ e5; subst e4; subst e5
    rw [h1] at c1
    refine ⟨A, e.2.1.2.1, c', ?_, ?_, ?_, h2, h3, h5⟩
    · rw [Nat.zero_add, ← e1]; exact c0
    · rw [Nat.zero_add]; exact c1
    · rw [Nat.zero_add, ← e3]; exact c2
end Go.Proofs.YtcfkemchekmjbaaGreatDoor

namespace Go.Proofs.YtcfkemchekmjbaaGreatDoor
open Go.RowKit
set_option maxHeartbeats 1000000 in
theorem Clone_Op_c {v : Value} {n : Nat} {ts : List T3} {w : World} (hs : S3 w v n ts) :
    Calls Tryz.prog 185 #[v] w fun e w' => ∃ v, e = .returned v ∧ O3 61 w' w.heap.size v n ts ∧ Below w.heap.size w w' := by
  have ss := hs
  obtain ⟨A, c, rfl, hnc, hn, hr⟩ := hs
  have qT : ∀ (w : World) (a : Option Addr) (n c n' c' : Nat), (binOp .eql 64 (.slice a n c) (.slice none n' c')).run Tryz.prog w = .ok (.bool a.isNone) w := fun w a n c n' c' => Lib.run_eql_slice_nil w _ _ a n c n' c' Tryz.underlying64
  cases A with
  | none =>
    have h0 : n = 0 := by
      rcases Nat.eq_zero_or_pos n with h | h
      · exact h
      · obtain ⟨b, off, h1, _⟩ := hr.2 h; cases h1
    subst h0
    have h1 : ts = [] := List.eq_nil_of_length_eq_zero hr.len
    subst h1
    go_enter Tryz.func185, Tryz.ntmps185
    go_wp2_with fail
    go_ret
    exact ⟨_, rfl, ⟨World.ownsRow_nil _ _ _ _, by omega⟩, Below.refl _ _⟩
  | some a =>
    go_enter Tryz.func185, Tryz.ntmps185
    go_wp2_with (at_builtin; refine wpList_app3 rfl _ _ rfl Tryz.underlying64 infoOpz rfl (O3.empty 61 w) rfl (ss.alloc _) (by omega) (by simp) ?_; intro v1 w1 ho hg hat)
    go_ret
    refine ⟨_, rfl, by simpa using ho, ?_⟩
    exact ((Below.refl _ _).alloc (Nat.le_refl _) _).grown hg (by simp) (fun k hk => by have h : some w.heap.size = some k := hk; injection h; omega)
theorem run_clip (A : Option Addr) (n c : Nat) (hnc : n ≤ c) (hA : ∀ a, A = some a → ∃ g, a = ⟨g, 0, none⟩) (w : World) :
    (Instr.slice 64 (.slice A n c) none (some (.int .i64 (n : Int))) (some (.int .i64 (n : Int)))).run Tryz.prog w = .ok (.slice A n n) w := by
  obtain ⟨i, hi, hz, hsz, hb⟩ := info_parts infoOpz
  have h1 : (if n = 0 then A else A.map (·.add (0 * i.size))) = A := by
    split
    · rfl
    · cases A with
      | none => rfl
      | some a => obtain ⟨g, rfl⟩ := hA a rfl; rw [Nat.zero_mul]; simp [addr_add]
  simp [Instr.slice, Instr.sliceBounds, Instr.sliceBound, run_underlying Tryz.underlying64, sizeOf, typeInfo, hi, asIntOf, hnc]
  simpa using h1
set_option maxHeartbeats 1000000 in
theorem Clip_Op_c {v : Value} {B n : Nat} {xs : List Int} {w : World} (h : OW 61 3 w B v n xs) :
    Calls Tryz.prog 184 #[v] w fun e w' => ∃ v', e = .returned v' ∧ OW 61 3 w B v' n xs ∧ w = w' := by
  obtain ⟨A, c, rfl, hnc, hcm, h1, h2⟩ := h.form
  have hcl := fun w => run_clip A n c hnc (fun a ha => by obtain ⟨g, h3, _⟩ := h2 a ha; exact ⟨g, h3⟩) w
  have ho : OW 61 3 w B (.slice A n n) n xs := by
    refine ⟨h.1, h.2.1, ?_⟩
    rcases h.2.2 with ⟨e, hn⟩ | ⟨g, c', cur, e, hB, hg, hc, hm, r⟩
    · injection e with e1 _ e3; subst hn; subst e1; exact .inl ⟨rfl, rfl⟩
    · injection e with e1 _ e3; subst e1; exact .inr ⟨g, n, cur, rfl, hB, hg, Nat.le_refl _, by omega, r⟩
  have HO := hide ho
  have hn := h.1
  clear ho h h1 h2
  go_enter Tryz.func184, Tryz.ntmps184
  go_wp2_with fail
  go_ret
  exact ⟨_, rfl, HO.out, rfl⟩
set_option maxHeartbeats 2000000 in
theorem copyTxn_c {v : Value} {m : Nat} {ys : List T3} {f : Int} {dn : Bool} {w : World} (hv : S3 w v m ys) :
    Calls Tryz.prog 148 #[.agg #[.int .i64 f, v, .bool dn]] w fun e w' => ∃ A c, e = .returned (.agg #[.int .i64 f, .slice A m c, .bool dn]) ∧ OW 61 3 w' w.heap.size (.slice A m c) m (flat3 ys) ∧ Below w.heap.size w w' := by
  have sv := hv
  obtain ⟨B, d, rfl⟩ := hv.shape
  have B0 : Below w.heap.size w ((w.alloc (.cells #[.int .i64 f, .slice B m d, .bool dn] 66)).alloc (.cells #[.int .i64 0, .slice none 0 0, .bool false] 66)) := ((Below.refl _ _).alloc (Nat.le_refl _) _).alloc (by simp) _
  have K1 := (Blk.new w 66 #[.int .i64 f, .slice B m d, .bool dn]).alloc (.cells #[.int .i64 0, .slice none 0 0, .bool false] 66)
  have K2 := Blk.new (w.alloc (.cells #[.int .i64 f, .slice B m d, .bool dn] 66)) 66 #[.int .i64 0, .slice none 0 0, .bool false]
  simp only [World.size_alloc] at K2
  go_enter Tryz.func148, Tryz.ntmps148
  go_wp2_with fail
  refine (Clone_Op_c (sv.below B0)).mono ?_
  rintro e w2 ⟨v2, rfl, o2, b2⟩
  have B2 := below_step B0 b2
  go_wp2_with fail
  refine (Clip_Op_c o2.of.ow).mono ?_
  rintro e w' ⟨v3, rfl, o3, rfl⟩
  obtain ⟨A3, c3, rfl, _⟩ := o3.form
  replace K1 := K1.belowAll b2
  replace K2 := K2.belowAll b2
  obtain ⟨k0, k1, k2⟩ := K1.three
  obtain ⟨l0, l1, l2⟩ := K2.three
  have f1 := K1.frozen 1
  have g0 := K2.frozen 0; have g1 := K2.frozen 1; have g2 := K2.frozen 2
  go_wp2_with fail
  obtain ⟨t0, t1, t2⟩ := ((((K2.far (p := ⟨w.heap.size, 1, none⟩) (by simp) (.slice A3 m c3)).set_ 0 (.int .i64 f)).set_ 1 (.slice A3 m c3)).set_ 2 (.bool dn)).three
  simp only [World.size_alloc] at o3
  refine bodyPost_ret (v := .agg #[.int .i64 f, .slice A3 m c3, .bool dn]) (by simp [results, Tryz.results148, go_sem, t0, t1, t2]) rfl ⟨A3, c3, rfl, ?_, ?_⟩
  · refine OW.mono (B := w.heap.size + 1 + 1) ?_ (by omega)
    have q : ∀ {W : World} {p : Addr} {u : Value}, OW 61 3 W (w.heap.size + 1 + 1) (.slice A3 m c3) m (flat3 ys) → p.block < w.heap.size + 1 + 1 → OW 61 3 (W.setCell p u) (w.heap.size + 1 + 1) (.slice A3 m c3) m (flat3 ys) := fun {W p u} h hp =>
      h.chg (Chg.setCell (S := fun k => k = p.block) rfl u) (fun k hk e => by have := (h.lt k hk).1; omega)
    exact q (q (q (q o3 (by show w.heap.size < _; omega)) (by show w.heap.size + 1 < _; omega)) (by show w.heap.size + 1 < _; omega)) (by show w.heap.size + 1 < _; omega)
  · exact (((B2.setCell (p := ⟨w.heap.size, 1, none⟩) (Nat.le_refl _) _).setCell (p := ⟨w.heap.size + 1, 0, none⟩) (by simp) _).setCell (p := ⟨w.heap.size + 1, 1, none⟩) (by simp) _).setCell (p := ⟨w.heap.size + 1, 2, none⟩) (by simp) _
theorem run_make_Txc (k : Nat) (hk : k ≤ 1048576) (w : World) :
    (Instr.makeSlice 27 (.int .i64 0) (.int .i64 (k : Int))).run Tryz.prog w = .ok (.slice (some ⟨w.heap.size, 0, none⟩) 0 k) (w.alloc (.cells (madeCells #[.int .i64 0, .slice none 0 0, .bool false] (k * 3)) 66)) := by
  obtain ⟨i, hi, hz, hs, hb⟩ := info_parts infoTx
  have := run_make_rowN 27 66 i (.agg #[.int .i64 0, .slice none 0 0, .bool false]) Tryz.underlying27 hi hz .i64 .i64 0 k (Nat.zero_le _) (by rw [hb]; omega) (by omega) w
  rw [hs] at this
  exact this
theorem OV.made {w : World} (k : Nat) (hk : k ≤ 1048576) : OV (w.alloc (.cells (madeCells #[.int .i64 0, .slice none 0 0, .bool false] (k * 3)) 66)) w.heap.size (.slice (some ⟨w.heap.size, 0, none⟩) 0 k) 0 [] :=
  ⟨⟨rfl, .inr ⟨w.heap.size, k, _, rfl, Nat.le_refl _, Blk.new w _ _, Nat.zero_le _, by simp [maxLen]; omega, by simp [size_madeCells], by simp [cellsT]⟩⟩, fun j e h => by simp at h, fun i j p q _ h => by simp at h, by omega⟩
theorem SaysT.pushT {es : List El} {ts : List Tx} {k : Nat} {t : Tx} {v : Value} {m : Nat} (h : SaysT es (ts.take k)) (hx : ts[k]? = some t) : SaysT (es ++ [(t.1, (v, m, flat3 t.2.1), t.2.2)]) (ts.take (k + 1)) := by
  unfold SaysT at *
  rw [List.map_append, h, List.take_add_one, hx, List.map_append]; rfl
set_option maxRecDepth 100000 in
set_option maxHeartbeats 4000000 in
theorem copyHistory_c {v : Value} {n : Nat} {ts : List Tx} {w : World} (hs : STs w v n ts) (hn1 : n ≤ 1048575) (hsm : SmallT ts) :
    Calls Tryz.prog 95 #[v] w fun e w' => ∃ v' es, e = .returned v' ∧ OV w' w.heap.size v' n es ∧ SaysT es ts ∧ Below w.heap.size w w' := by
  obtain ⟨A, c, rfl, hnc, hn, hr⟩ := hs
  have hl := hide hr.1
  have hmk := run_make_Txc n hn
  have D0 := OV.made (w := w) n hn
  have B0 : Below w.heap.size w (w.alloc (.cells (madeCells #[.int .i64 0, .slice none 0 0, .bool false] (n * 3)) 66)) := (Below.refl _ _).alloc (Nat.le_refl _) _
  go_enter Tryz.func95, Tryz.ntmps95
  go_wp2_with fail
  go_loopw [3, 11] (fun s i wr => ∃ (k : Nat) (es : List El), k ≤ n ∧ i = .int .i64 k ∧ OV wr w.heap.size s k es ∧ SaysT es (ts.take k) ∧ Below w.heap.size w wr) (fun _ i _ => n - (intOf i).toNat)
  case atStart => exact ⟨0, [], Nat.zero_le _, rfl, D0, by simp [SaysT], B0⟩
  case round =>
    clear D0 B0
    obtain ⟨k, es, hk, rfl, D, hsay, bw⟩ := hrel
    have Hs := hide hsay; clear hsay
    by_cases hkn : k < n
    · obtain ⟨b, off, f, ys, dn, B, kk, d, rfl, hbb, hx, q0, q1, q2, hkd, hdm, hri⟩ := hr.at_ hkn
      have e0 := (bw.cell (p := ⟨b, off + k * 3, none⟩) hbb).trans q0
      have e1 := (bw.cell (p := ⟨b, off + k * 3 + 1, none⟩) hbb).trans q1
      have e2 := (bw.cell (p := ⟨b, off + k * 3 + 2, none⟩) hbb).trans q2
      have hsz := hsm _ (List.mem_of_getElem? hx)
      have hyl := hri.len
      have hk1 : kk ≤ 1048576 := by dsimp only at hsz; omega
      have s1 : S3 wr (.slice B kk d) kk ys := S3.of_args hkd hk1 (hri.below bw)
      have b1 : Below wr.heap.size wr (wr.alloc (.cells #[.int .i64 f, .slice B kk d, .bool dn] 66)) := (Below.refl _ _).alloc (Nat.le_refl _) _
      have B1 := below_step bw b1
      have Hx := hide hx
      clear hx q0 q1 q2 hsz hyl
      have k0 : (0 : Int) ≤ k := by omega
      have k2 : (k : Int) < n := by omega
      go_wp2_with fail
      refine (copyTxn_c (s1.below b1)).mono ?_
      rintro e w2 ⟨A2, c2, rfl, o2, b2⟩
      have B2 := below_step B1 b2
      have KT := Blk.new w2 66 #[.int .i64 f, .slice A2 kk c2, .bool dn]
      have D2 := (((D.below b1).below b2).alloc (.cells #[.int .i64 f, .slice A2 kk c2, .bool dn] 66))
      have fr : ∀ (j : Nat) (p : El), es[j]? = some p → Apart p.2.1.1 (.slice A2 kk c2) := fun j p hj => by
        unfold Apart
        cases hp : p.2.1.1.ownBlock with
        | none => exact .inl rfl
        | some q =>
          right; intro e3
          have h1 := ((D.below b1).own j p hj).lt q hp
          have h2 := o2.lt q e3.symm
          omega
      have o3 := (o2.mono B1.size).below ((Below.refl _ _).alloc (Nat.le_refl _) (.cells #[.int .i64 f, .slice A2 kk c2, .bool dn] 66))
      have B3 : Below w.heap.size w (w2.alloc (.cells #[.int .i64 f, .slice A2 kk c2, .bool dn] 66)) := B2.alloc B2.size _
      have hk11 : k + 1 ≤ 1048576 := by omega
      have hsp := SaysT.pushT (v := .slice A2 kk c2) (m := kk) Hs.out Hx.out
      dsimp only at hsp
      have Hsp := hide hsp; have Fr := hide fr
      clear hsp fr
      go_wp2_with (at_builtin; refine wpList_appT rfl _ _ rfl rfl D2.row rfl KT rfl hk11 B3.size ?_; intro v1 w4 h4 hg4 hat; have D4 := D2.push (e := (f, (.slice A2 kk c2, kk, flat3 ys), dn)) (by rw [cellsT_append]; exact h4) hg4 (OW.grown o3 hg4 (by
        cases hv : (Value.slice A2 kk c2).ownBlock with
        | none => exact .inl rfl
        | some q =>
          right; intro e2
          rcases D2.row.2 with ⟨h1, _⟩ | ⟨g, cap, cur, h1, _, hb, _⟩
          · rw [h1] at e2; cases e2
          · rw [h1] at e2; have e3 : q = g := by injection e2
            subst e3; exact OW.ne_blk o3 hb (by decide) hv)) Fr.out hk11; have B5 := B3.grown hg4 B3.size (own_grown_le D2.row (Nat.le_refl _)))
      go_roundw
      case rel => exact ⟨k + 1, _, by omega, by go_num, D4, Hsp.out, B5⟩
      case measure => simp [intOf]; omega
    · obtain rfl : k = n := by omega
      have hfin : ts.take k = ts := List.take_of_length_le (by rw [hl.out]; omega)
      have h2 := Hs.out
      rw [hfin] at h2
      have H2 := hide h2
      clear h2 hfin
      go_wp2_with fail
      go_ret
      exact ⟨_, es, rfl, D, H2.out, bw⟩
end Go.Proofs.YtcfkemchekmjbaaGreatDoor
