/- A range over strings.SplitSeq(s, "; "): the statement's law, at a caller's invariant on cells other than the iterator's own variable. -/
import Derived.Test.YtefopnkicllpeaaDoorSpI
namespace Go.Proofs.YtefopnkicllpeaaDoor
open Go.RowKit Go.Shelf

/-- From W to W' cells stay, but for those of block bS; below B0 all stays, but for bS. -/
structure Kq (B0 bS : Nat) (W W' : World) : Prop where
  os : W'.os = W.os
  tape : W'.tape = W.tape
  output : W'.output = W.output
  size : W.heap.size ≤ W'.heap.size
  low : ∀ i, i < W.heap.size → i < B0 → i ≠ bS → W'.heap[i]? = W.heap[i]?
  cells : ∀ (i : Nat) (o : Obj), W.heap[i]? = some o → o.isCells = true → i ≠ bS → W'.heap[i]? = some o
theorem Kq.refl {B0 bS : Nat} (W : World) : Kq B0 bS W W := ⟨rfl, rfl, rfl, Nat.le_refl _, fun _ _ _ _ => rfl, fun _ _ h _ _ => h⟩
theorem Kq.setS {B0 bS : Nat} (W : World) (v : Value) : Kq B0 bS W (W.setCell ⟨bS, 0, none⟩ v) :=
  ⟨rfl, rfl, rfl, by simp [World.setCell], fun i _ _ h => Below.heap_setCell W ⟨bS, 0, none⟩ v i h, fun i o h _ hn => (Below.heap_setCell W ⟨bS, 0, none⟩ v i hn).trans h⟩
theorem Kq.put {B0 bS : Nat} {W : World} {l : Nat} {o : Obj} (o' : Obj) (hl : B0 ≤ l) (h : W.heap[l]? = some o) (ho : o.isCells = false) : Kq B0 bS W (W.putObj l o') :=
  ⟨rfl, rfl, rfl, by simp, fun i _ h1 _ => World.putObj_heap_other (by omega), fun i q hq hc _ => (World.putObj_heap_other (by
    rintro rfl
    rw [h] at hq; injection hq with hq; subst hq; rw [ho] at hc; cases hc)).trans hq⟩
theorem Kq.new {B0 bS : Nat} (W : World) (o : Obj) : Kq B0 bS W (W.alloc o) :=
  ⟨rfl, rfl, rfl, by simp, fun i h _ _ => Below.heap_alloc W o i h, fun i q hq _ _ => (Below.heap_alloc W o i (Array.getElem?_eq_some_iff.1 hq).1).trans hq⟩
/-- How a round's body may be left. -/
def postS (bS : Nat) (I : List (List UInt8) → World → Prop) (Ix : Code → List (List UInt8) → World → Prop) (xs : List (List UInt8)) (W : World) : Exit → Act → World → Prop
  | .normal, _, W' => KeepsOthers W W' ∧ W'.heap[bS]? = W.heap[bS]? ∧ I xs W'
  | .ret, _, W' => KeepsOthers W W' ∧ Ix .ret xs W'
  | .exit id, _, W' => KeepsOthers W W' ∧ Ix (.exit id) xs W'
  | .goto t, _, W' => KeepsOthers W W' ∧ Ix (.goto t) xs W'
  | .panic _, _, _ => False
  | .outgrown, _, _ => False
theorem Sc.of_block {bS : Nat} {rest : List UInt8} {W W' : World} (h : Sc bS rest W) (hb : W'.heap[bS]? = W.heap[bS]?) : Sc bS rest W' :=
  ⟨(World.cell?_of_block hb).trans h.1, (World.frozen?_of_block hb).trans h.2⟩
set_option maxHeartbeats 4000000 in
theorem rangeSplit {n : Nat} {g : Operand} {ps : Array Tmp} {assign body : Code} {Q : Exit → Act → World → Prop} {a : Act} {w : World} {bT bS bV : Nat} {m : Int} {s : List UInt8}
    (hg : a.eval g = .func (.func 54) #[] #[.pointer (some ⟨bT, 0, none⟩), .pointer (some ⟨bS, 0, none⟩), .pointer (some ⟨bV, 0, none⟩)]) (hps : ps.size = 1) (hsz : s.length < 4294967281) (hbS : bS < w.heap.size)
    (I : List (List UInt8) → World → Prop) (Ix : Code → List (List UInt8) → World → Prop)
    (hI : ∀ p W W', I p W → Kq w.heap.size bS W W' → I p W') (hIx : ∀ c p W W', Ix c p W → Kq w.heap.size bS W W' → Ix c p W')
    (hC : ∀ p W, I p W → W.cell? ⟨bT, 0, none⟩ = some (.string (str [59, 32])) ∧ W.cell? ⟨bV, 0, none⟩ = some (.int .i64 0) ∧ W.cell? ⟨2, 0, none⟩ = some (.int .i64 m))
    (h0 : I [] w) (hs0 : Sc bS s w) (a₁ : List UInt8 → Act)
    (hassign : ∀ (l : Nat) (x : List UInt8) (W : World) (K : Act → World → Prop), K (a₁ x) W →
      assign.wpIn (Fence.wide.inRound l) (n - 1 - 1) Tryd.prog (Exit.then K (fun _ _ _ => False)) { tmps := (ps.zip #[.string (str x)]).foldl (fun t (p, v) => t.setIfInBounds p v) a.tmps, defers := [] } W)
    (hbody : ∀ (l : Nat) (pre : List (List UInt8)) (x : List UInt8) (W : World), (∃ r, partsL [59, 32] s = pre ++ x :: r) → I pre W → body.wpIn (Fence.wide.inRound l) (n - 1 - 1) Tryd.prog (postS bS I Ix (pre ++ [x]) W) (a₁ x) W)
    (hdone : ∀ (D : Nat) (W : World), w.heap.size ≤ D → I (partsL [59, 32] s) W → W.heap[D]? = some (.deferred (some [])) → Q .normal { a with defers := { target := .collected D, args := #[] } :: a.defers } W)
    (hstop : ∀ (D : Nat) (c : Code) (pre : List (List UInt8)) (W : World), w.heap.size ≤ D → pre <+: partsL [59, 32] s → Ix c pre W → W.heap[D]? = some (.deferred (some [])) → c.wpIn Fence.wide n Tryd.prog Q { a with defers := { target := .collected D, args := #[] } :: a.defers } W) :
    (Code.rangeFunc g ps assign body).wpIn Fence.wide n Tryd.prog Q a w := by
  refine wpIn_rangeFunc fun fn hfn => ?_
  generalize hB : w.heap.size = B at *
  let rec_ : LoopState → Option Code → Loop := fun st pe => { state := st, pending := pe, fn, tmps := a.tmps, params := ps, assign, body, defers := B }
  obtain ⟨W1, hW1⟩ : ∃ W1, (w.alloc (.deferred (some []))).alloc (.loop (rec_ .ready none)) = W1 := ⟨_, rfl⟩
  have hL1 : W1.heap[B + 1]? = some (.loop (rec_ .ready none)) := by
    rw [← hW1, ← hB]; have := World.alloc_heap_new (w.alloc (.deferred (some []))) (.loop (rec_ .ready none)); rwa [World.size_alloc] at this
  have hK1 : W1.heap[B]? = some (.deferred (some [])) := by
    rw [← hW1, ← hB]; exact (Below.heap_alloc _ _ _ (by simp)).trans (World.alloc_heap_new w _)
  have hI1 : I [] W1 := by rw [← hW1]; exact hI _ _ _ (hI _ _ _ h0 (Kq.new _ _)) (Kq.new _ _)
  have hS1 : Sc bS s W1 := hs0.of_block (by rw [← hW1]; exact (Below.heap_alloc _ _ _ (by simp; omega)).trans (Below.heap_alloc _ _ _ (by omega)))
  refine ⟨B + 1, [{ target := .collected B, args := #[] }], W1, { target := .fn (.func 54) #[.pointer (some ⟨bT, 0, none⟩), .pointer (some ⟨bS, 0, none⟩), .pointer (some ⟨bV, 0, none⟩)], args := #[.func (.yield (B + 1)) #[] #[]] }, W1, 54,
    #[.func (.yield (B + 1)) #[] #[], .pointer (some ⟨bT, 0, none⟩), .pointer (some ⟨bS, 0, none⟩), .pointer (some ⟨bV, 0, none⟩)], W1, ?_, ?_, fun _ _ => trivial, ?_, fun h => (by cases h), ?_⟩
  · rw [← hW1]
    subst hB
    exact run_enterLoop_outer (P := Tryd.prog) (w := w) fn a.tmps ps assign body
  · simp only [resolve, hg]
    simp [go_sem]
  · have eg := enters_of (P := Tryd.prog) Tryd.func54 (by kernel_rfl) rfl
    simp [invoke, go_sem]
  · refine (splitIt (n - 1) (B + 1) bT bS bV m s (fun pre W => I pre W ∧ W.heap[B + 1]? = some (.loop (rec_ .ready none)) ∧ W.heap[B]? = some (.deferred (some [])))
      (fun pre W => ∃ c, Ix c pre W ∧ W.heap[B + 1]? = some (.loop (rec_ .done (some c))) ∧ W.heap[B]? = some (.deferred (some []))) hsz
      (fun p W v h => ⟨hI _ _ _ h.1 (Kq.setS W v), (Below.heap_setCell W ⟨bS, 0, none⟩ v (B + 1) (by show B + 1 ≠ bS; omega)).trans h.2.1, (Below.heap_setCell W ⟨bS, 0, none⟩ v B (by show B ≠ bS; omega)).trans h.2.2⟩)
      (fun p W h => hC p W h.1) ?_ W1 ⟨hI1, hL1, hK1⟩ hS1).mono ?_
    · -- one round
      rintro pre x rest W hpre ⟨hi, hl, hk⟩ hsc
      have hlt : B + 1 < W.heap.size := (Array.getElem?_eq_some_iff.1 hl).1
      have hy := run_yield (P := Tryd.prog) (args := #[Value.string (str x)]) hl (by simp [rec_, hps])
      refine ⟨fn, _, assign, body, hy, roundIn_of_wpIn hfn (hassign _ x W _ ⟨_, run_beginRound hl rfl, ?_⟩)⟩
      obtain ⟨Wb, hWb⟩ : ∃ q, W.putObj (B + 1) (.loop { rec_ .ready none with state := .busy }) = q := ⟨_, rfl⟩
      have hl2 : Wb.heap[B + 1]? = some (.loop { rec_ .ready none with state := .busy }) := by rw [← hWb]; exact World.putObj_heap_same hlt
      have hk2 : Wb.heap[B]? = some (.deferred (some [])) := by rw [← hWb]; exact (World.putObj_heap_other (by omega)).trans hk
      have hs2 : Sc bS rest Wb := hsc.of_block (by rw [← hWb]; exact World.putObj_heap_other (by omega))
      have hi2 : I pre Wb := by rw [← hWb]; exact hI _ _ _ hi (Kq.put _ (by omega) hl rfl)
      have hbd := hbody (B + 1) pre x Wb hpre hi2
      rw [hWb]
      refine wpIn_mono hbd ?_
      have fin : ∀ (jump : Option Code) (W3 : World), KeepsOthers Wb W3 → ∃ W4, (Instr.endRound (B + 1) jump).run Tryd.prog W3 = .ok (.bool jump.isNone) W4 ∧ Kq B bS W3 W4 ∧ W4.heap[bS]? = W3.heap[bS]? ∧
          W4.heap[B + 1]? = some (.loop (rec_ (if jump.isNone then .ready else .done) jump)) ∧ W4.heap[B]? = some (.deferred (some [])) := fun jump W3 hk3 => by
        have hl3 := hk3.same _ _ hl2 rfl
        have hr := run_endRound (P := Tryd.prog) jump hl3
        refine ⟨_, hr, Kq.put _ (by omega) hl3 rfl, World.putObj_heap_other (by omega), World.putObj_heap_same (Array.getElem?_eq_some_iff.1 hl3).1, (World.putObj_heap_other (by omega)).trans (hk3.same _ _ hk2 rfl)⟩
      rintro e a3 W3 hp
      cases e with
      | normal =>
        obtain ⟨hk3, hb3, hi3⟩ := hp
        obtain ⟨W4, hr, hq, hb4, hl4, hk4⟩ := fin none W3 hk3
        exact ⟨_, _, hr, .inl ⟨rfl, ⟨hI _ _ _ hi3 hq, hl4, hk4⟩, hs2.of_block (hb4.trans hb3)⟩⟩
      | ret =>
        obtain ⟨hk3, hi3⟩ := hp
        obtain ⟨W4, hr, hq, hb4, hl4, hk4⟩ := fin (some .ret) W3 hk3
        exact ⟨_, _, hr, .inr ⟨rfl, .ret, hIx _ _ _ _ hi3 hq, hl4, hk4⟩⟩
      | exit id =>
        obtain ⟨hk3, hi3⟩ := hp
        obtain ⟨W4, hr, hq, hb4, hl4, hk4⟩ := fin (some (.exit id)) W3 hk3
        exact ⟨_, _, hr, .inr ⟨rfl, .exit id, hIx _ _ _ _ hi3 hq, hl4, hk4⟩⟩
      | goto t =>
        obtain ⟨hk3, hi3⟩ := hp
        obtain ⟨W4, hr, hq, hb4, hl4, hk4⟩ := fin (some (.goto t)) W3 hk3
        exact ⟨_, _, hr, .inr ⟨rfl, .goto t, hIx _ _ _ _ hi3 hq, hl4, hk4⟩⟩
      | panic ch => exact hp.elim
      | outgrown => exact hp.elim
    · -- behind the iterator
      rintro e W2 ⟨⟨v, rfl⟩, (⟨hi, hl, hk⟩ | ⟨pre, hpre, c, hi, hl, hk⟩)⟩
      · exact ⟨none, _, run_endLoop (P := Tryd.prog) hl (by simp [rec_]), hdone B _ (by omega) (hI _ _ _ hi (Kq.put _ (by omega) hl rfl)) ((World.putObj_heap_other (by omega)).trans hk)⟩
      · exact ⟨some c, _, run_endLoop (P := Tryd.prog) hl (by simp [rec_]), hstop B c pre _ (by omega) hpre (hIx c _ _ _ hi (Kq.put _ (by omega) hl rfl)) ((World.putObj_heap_other (by omega)).trans hk)⟩

end Go.Proofs.YtefopnkicllpeaaDoor
