/- Where a run with snapshots stands in memory. -/
import Derived.Test.YtfcfhgophpoibaaLockM
import Derived.Test.YtfcfhgophpoibaaSnapK2
namespace Go.Proofs.Ytfcfhgophpoibaa
open Go.RowKit

theorem flat_get : ∀ (L : List (List Int)) (_ : ∀ r ∈ L, r.length = 3) (n i : Nat) (r : List Int) (x : Int), L[n]? = some r → r[i]? = some x → L.flatten[n * 3 + i]? = some x
  | [], _, n, i, r, x, h, _ => by simp at h
  | q :: L, hL, 0, i, r, x, h, hx => by
    have : q = r := by simpa using h
    subst this
    have hi := (List.getElem?_eq_some_iff.1 hx).1
    rw [List.flatten_cons, Nat.zero_mul, Nat.zero_add, List.getElem?_append_left hi]; exact hx
  | q :: L, hL, n + 1, i, r, x, h, hx => by
    have hq := hL q (List.mem_cons_self ..)
    rw [List.flatten_cons, List.getElem?_append_right (by omega), show (n + 1) * 3 + i - q.length = n * 3 + i by omega]
    exact flat_get L (fun r hr => hL r (List.mem_cons_of_mem _ hr)) n i r x (by simpa using h) hx
theorem flat_set : ∀ (L : List (List Int)) (_ : ∀ r ∈ L, r.length = 3) (n : Nat) (a b c : Int), n < L.length → (L.set n [a, b, c]).flatten = ((L.flatten.set (n * 3) a).set (n * 3 + 1) b).set (n * 3 + 2) c
  | [], _, n, a, b, c, h => by simp at h
  | q :: L, hL, 0, a, b, c, _ => by
    have hq := hL q (List.mem_cons_self ..)
    match q, hq with
    | [x, y, z], _ => simp
  | q :: L, hL, n + 1, a, b, c, h => by
    have hq := hL q (List.mem_cons_self ..)
    have h1 := flat_set L (fun r hr => hL r (List.mem_cons_of_mem _ hr)) n a b c (by simpa using h)
    rw [List.set_cons_succ, List.flatten_cons, h1, List.flatten_cons, List.set_append_right _ _ (by omega), List.set_append_right _ _ (by omega), List.set_append_right _ _ (by omega)]
    rw [show (n + 1) * 3 - q.length = n * 3 by omega, show (n + 1) * 3 + 1 - q.length = n * 3 + 1 by omega, show (n + 1) * 3 + 2 - q.length = n * 3 + 2 by omega]
/-- Three numbers stored into a block. -/
theorem Blk.put3 {w : World} {g : Nat} {t : TypeId} {L : List Int} (h : Blk w g t (storeC L)) (i : Nat) (a b c : Int) :
    Blk (((w.setCell ⟨g, i, none⟩ (.int .i64 a)).setCell ⟨g, i + 1, none⟩ (.int .i64 b)).setCell ⟨g, i + 2, none⟩ (.int .i64 c)) g t (storeC (((L.set i a).set (i + 1) b).set (i + 2) c)) := by
  have h1 := h.set_ i (.int .i64 a)
  rw [storeC_set] at h1
  have h2 := h1.set_ (i + 1) (.int .i64 b)
  rw [storeC_set] at h2
  have h3 := h2.set_ (i + 2) (.int .i64 c)
  rwa [storeC_set] at h3
theorem Blk.far3 {w : World} {g k : Nat} {t : TypeId} {cs : Array Value} (h : Blk w g t cs) (hne : g ≠ k) (i j l : Nat) (a b c : Value) : Blk (((w.setCell ⟨k, i, none⟩ a).setCell ⟨k, j, none⟩ b).setCell ⟨k, l, none⟩ c) g t cs :=
  ((h.far (p := ⟨k, i, none⟩) hne a).far (p := ⟨k, j, none⟩) hne b).far (p := ⟨k, l, none⟩) hne c
/-- The machine, the store, the versions, what drafts remember. -/
structure Nk (w0 : World) (sb : Nat) (A : Option Addr) (n c : Nat) (v : Value) (S : Sn) (es : List El) (wr : World) : Prop where
  mach : Mach wr (w0.heap.size + 1) w0.heap.size A n c v S.ts es
  store : Blk wr sb 59 (storeC S.st)
  vers : Blk wr (sb + 1) 59 (storeC S.ver)
  kept : Blk wr (sb + 1 + 1) 75 (storeC S.kept.flatten)
  began : Blk wr (sb + 1 + 1 + 1) 75 (storeC S.began.flatten)
  bel : Below w0.heap.size w0 wr
  le : w0.heap.size < sb
section
variable {w0 wr w' : World} {sb n c : Nat} {A : Option Addr} {v : Value} {S : Sn} {es : List El}
theorem Nk.ne (h : Nk w0 sb A n c v S es wr) : ¬ OT.S v es sb ∧ ¬ OT.S v es (sb + 1) ∧ ¬ OT.S v es (sb + 1 + 1) ∧ ¬ OT.S v es (sb + 1 + 1 + 1) :=
  ⟨h.mach.own.notS h.store (by decide) (by decide), h.mach.own.notS h.vers (by decide) (by decide), h.mach.own.notS h.kept (by decide) (by decide), h.mach.own.notS h.began (by decide) (by decide)⟩
theorem Nk.chg {T : Nat → Prop} (h : Nk w0 sb A n c v S es wr) (hc : Chg T wr w') (h0 : ∀ k, T k → w0.heap.size < k) (h1 : ¬ T sb) (h2 : ¬ T (sb + 1)) (h4 : ¬ T (sb + 1 + 1)) (h5 : ¬ T (sb + 1 + 1 + 1)) (h3 : ∀ k, OT.S v es k → ¬ T k) : Nk w0 sb A n c v S es w' :=
  ⟨h.mach.chg hc (fun hs => by have := h0 _ hs; omega) h3, h.store.chg hc h1, h.vers.chg hc h2, h.kept.chg hc h4, h.began.chg hc h5, Chg.below h.bel hc (fun k hk => Nat.le_of_lt (h0 k hk)), h.le⟩
theorem Nk.below (h : Nk w0 sb A n c v S es wr) (hb : Below wr.heap.size wr w') : Nk w0 sb A n c v S es w' :=
  h.chg (T := fun _ => False) (Chg.of_below hb) (fun _ e => e.elim) id id id id (fun _ _ => id)
theorem Nk.alloc (h : Nk w0 sb A n c v S es wr) (o : Obj) : Nk w0 sb A n c v S es (wr.alloc o) := h.below ((Below.refl _ _).alloc (Nat.le_refl _) _)
theorem Nk.drew (h : Nk w0 sb A n c v S es wr) : Nk w0 sb A n c v S es wr.drew := h.below (Below.refl _ _).drew
/-- A store into a cell of another block. -/
theorem Nk.other {x : Nat} (h : Nk w0 sb A n c v S es wr) (hx : sb + 1 + 1 + 1 < x) (ho : ∀ k, OT.S v es k → k < x) (i : Nat) (u : Value) : Nk w0 sb A n c v S es (wr.setCell ⟨x, i, none⟩ u) := by
  have hle := h.le
  exact h.chg (Chg.setCell (S := fun k => k = x) (p := ⟨x, i, none⟩) rfl u) (fun k hk => by omega) (by omega) (by omega) (by omega) (by omega) (fun k hk e => by have := ho k hk; omega)
/-- Behind 'did'. -/
theorem Nk.did {ts' : List Tx} {es' : List El} (h : Nk w0 sb A n c v S es wr) (M : Mach w' (w0.heap.size + 1) w0.heap.size A n c v ts' es') (hc : Chg (OT.S v es) wr w') : Nk w0 sb A n c v ⟨ts', S.st, S.ver, S.kept, S.began⟩ es' w' := by
  obtain ⟨n1, n2, n3, n4⟩ := h.ne
  exact ⟨M, h.store.chg hc n1, h.vers.chg hc n2, h.kept.chg hc n3, h.began.chg hc n4, Chg.below h.bel hc (fun k hk => by have := (h.mach.own.range k hk).1; omega), h.le⟩
theorem Nk.putS (h : Nk w0 sb A n c v S es wr) (i : Nat) (x : Int) : Nk w0 sb A n c v ⟨S.ts, S.st.set i x, S.ver, S.kept, S.began⟩ es (wr.setCell ⟨sb, i, none⟩ (.int .i64 x)) := by
  have hle := h.le
  have hc := Chg.setCell (w := wr) (S := fun k => k = sb) (p := ⟨sb, i, none⟩) rfl (.int .i64 x)
  have K := h.store.set_ i (.int .i64 x)
  rw [storeC_set] at K
  exact ⟨h.mach.chg hc (by omega) (fun k hk e => h.ne.1 (e ▸ hk)), K, h.vers.chg hc (by omega), h.kept.chg hc (by omega), h.began.chg hc (by omega), Chg.below h.bel hc (fun k hk => by omega), h.le⟩
theorem Nk.putV (h : Nk w0 sb A n c v S es wr) (i : Nat) (x : Int) : Nk w0 sb A n c v ⟨S.ts, S.st, S.ver.set i x, S.kept, S.began⟩ es (wr.setCell ⟨sb + 1, i, none⟩ (.int .i64 x)) := by
  have hle := h.le
  have hc := Chg.setCell (w := wr) (S := fun k => k = sb + 1) (p := ⟨sb + 1, i, none⟩) rfl (.int .i64 x)
  have K := h.vers.set_ i (.int .i64 x)
  rw [storeC_set] at K
  exact ⟨h.mach.chg hc (by omega) (fun k hk e => h.ne.2.1 (e ▸ hk)), h.store.chg hc (by omega), K, h.kept.chg hc (by omega), h.began.chg hc (by omega), Chg.below h.bel hc (fun k hk => by omega), h.le⟩
theorem chg3 {T : Nat → Prop} {w w1 : World} {g : Nat} (h : Chg T w w1) (hg : T g) (i j k : Nat) (a b c : Value) : Chg T w (((w1.setCell ⟨g, i, none⟩ a).setCell ⟨g, j, none⟩ b).setCell ⟨g, k, none⟩ c) :=
  ((h.trans (Chg.setCell (p := ⟨g, i, none⟩) hg a)).trans (Chg.setCell (p := ⟨g, j, none⟩) hg b)).trans (Chg.setCell (p := ⟨g, k, none⟩) hg c)
/-- With its first step a draft remembers. -/
theorem Nk.begin {x y z p q r : Int} {n0 : Nat} (h : Nk w0 sb A n c v S es wr) (h1 : S.st = [x, y, z]) (h2 : S.ver = [p, q, r]) (hk : ∀ l ∈ S.kept, l.length = 3) (hb : ∀ l ∈ S.began, l.length = 3) (hn1 : n0 < S.kept.length) (hn2 : n0 < S.began.length) :
    Nk w0 sb A n c v ⟨S.ts, S.st, S.ver, S.kept.set n0 S.st, S.began.set n0 S.ver⟩ es ((((((wr.setCell ⟨sb + 1 + 1, n0 * 3, none⟩ (.int .i64 x)).setCell ⟨sb + 1 + 1, n0 * 3 + 1, none⟩ (.int .i64 y)).setCell ⟨sb + 1 + 1, n0 * 3 + 2, none⟩ (.int .i64 z)).setCell ⟨sb + 1 + 1 + 1, n0 * 3, none⟩ (.int .i64 p)).setCell ⟨sb + 1 + 1 + 1, n0 * 3 + 1, none⟩ (.int .i64 q)).setCell ⟨sb + 1 + 1 + 1, n0 * 3 + 2, none⟩ (.int .i64 r)) := by
  have hle := h.le
  obtain ⟨n1, n2, n3, n4⟩ := h.ne
  have hc := chg3 (chg3 (Chg.refl (S := fun k => k = sb + 1 + 1 ∨ k = sb + 1 + 1 + 1) wr) (.inl rfl) (n0 * 3) (n0 * 3 + 1) (n0 * 3 + 2) (.int .i64 x) (.int .i64 y) (.int .i64 z)) (.inr rfl) (n0 * 3) (n0 * 3 + 1) (n0 * 3 + 2) (.int .i64 p) (.int .i64 q) (.int .i64 r)
  have K := ((((h.kept.put3 (n0 * 3) x y z).far (p := ⟨sb + 1 + 1 + 1, n0 * 3, none⟩) (by show sb + 1 + 1 ≠ sb + 1 + 1 + 1; omega) (.int .i64 p)).far (p := ⟨sb + 1 + 1 + 1, n0 * 3 + 1, none⟩) (by show sb + 1 + 1 ≠ sb + 1 + 1 + 1; omega) (.int .i64 q)).far (p := ⟨sb + 1 + 1 + 1, n0 * 3 + 2, none⟩) (by show sb + 1 + 1 ≠ sb + 1 + 1 + 1; omega) (.int .i64 r))
  have B := (((h.began.far (p := ⟨sb + 1 + 1, n0 * 3, none⟩) (by show sb + 1 + 1 + 1 ≠ sb + 1 + 1; omega) (.int .i64 x)).far (p := ⟨sb + 1 + 1, n0 * 3 + 1, none⟩) (by show sb + 1 + 1 + 1 ≠ sb + 1 + 1; omega) (.int .i64 y)).far (p := ⟨sb + 1 + 1, n0 * 3 + 2, none⟩) (by show sb + 1 + 1 + 1 ≠ sb + 1 + 1; omega) (.int .i64 z)).put3 (n0 * 3) p q r
  rw [← flat_set _ hk _ _ _ _ hn1, ← h1] at K
  rw [← flat_set _ hb _ _ _ _ hn2, ← h2] at B
  exact ⟨h.mach.chg hc (by omega) (fun k hk e => by rcases e with rfl | rfl; exact n3 hk; exact n4 hk), h.store.chg hc (by omega), h.vers.chg hc (by omega), K, B, Chg.below h.bel hc (fun k hk => by omega), h.le⟩
/-- A transaction's mark set. -/
theorem Nk.done {g cg : Nat} (h : Nk w0 sb A n c (.slice (some ⟨g, 0, none⟩) n cg) S es wr) {n0 : Nat} {t : Tx} (hn : n0 < n) (ht : S.ts[n0]? = some t) :
    ∃ es', Nk w0 sb A n c (.slice (some ⟨g, 0, none⟩) n cg) ⟨S.ts.set n0 (t.1, t.2.1, true), S.st, S.ver, S.kept, S.began⟩ es' (wr.setCell ⟨g, n0 * 3 + 2, none⟩ (.bool true)) := by
  obtain ⟨g', cg', Au, cu, hv, hnc, hlg, hgs, he, huc, c1, c2, ho⟩ := h.mach.look hn ht
  obtain ⟨rfl, rfl⟩ : g = g' ∧ cg = cg' := by simpa using hv
  have hle := h.le
  obtain ⟨n1, n2, n3, n4⟩ := h.ne
  have D12 := h.mach.own.set2 he true
  have hgm : w0.heap.size ≠ g := by omega
  have hsy := h.mach.says.set_ n0 (t.1, t.2.1, true) (.slice Au t.2.1.length cu) t.2.1.length
  exact ⟨_, ⟨h.mach.box.far (p := ⟨g, n0 * 3 + 2, none⟩) hgm (.bool true), D12, hsy, by omega⟩, h.store.far (p := ⟨g, n0 * 3 + 2, none⟩) (fun e => n1 (.inl (by rw [e]; rfl))) (.bool true), h.vers.far (p := ⟨g, n0 * 3 + 2, none⟩) (fun e => n2 (.inl (by rw [e]; rfl))) (.bool true),
    h.kept.far (p := ⟨g, n0 * 3 + 2, none⟩) (fun e => n3 (.inl (by rw [e]; rfl))) (.bool true), h.began.far (p := ⟨g, n0 * 3 + 2, none⟩) (fun e => n4 (.inl (by rw [e]; rfl))) (.bool true), h.bel.setCell (p := ⟨g, n0 * 3 + 2, none⟩) (by show w0.heap.size ≤ g; omega) (.bool true), h.le⟩
end

end Go.Proofs.Ytfcfhgophpoibaa
