/- impl.ReadPlan: where it stands in memory; a lemma a step. -/
import Derived.Test.YtefopnkicllpeaaDoorSpO
import Derived.Test.YtefopnkicllpeaaDoorSpE
import Derived.Test.YtefopnkicllpeaaDoorSpP
import Derived.Test.YtefopnkicllpeaaDoorPlI
namespace Go.Proofs.YtefopnkicllpeaaDoor
open Go.RowKit Go.Shelf
attribute [local go_sem] Oper.semAt_some

def seqV (b : Nat) : Value := .func (.func 54) #[] #[.pointer (some ⟨b + 1, 0, none⟩), .pointer (some ⟨b, 0, none⟩), .pointer (some ⟨b + 2, 0, none⟩)]
def seqW (w : World) (s : List UInt8) : World := ((w.alloc (.cells #[.string (str s)] 9)).alloc (.cells #[.string ⟨#[59, 32]⟩] 9)).alloc (.cells #[.int .i64 0] 3)
theorem splitSeq_c {s : List UInt8} {w : World} : Calls Tryd.prog 39 #[.string (str s), .string ⟨#[59, 32]⟩, .int .i64 0] w fun e w' => e = .returned (seqV w.heap.size) ∧ w' = seqW w s := by
  go_enter Tryd.func39, Tryd.ntmps39
  go_wp2_with fail
  go_ret
  exact ⟨rfl, rfl⟩
theorem SplitSeq_c {s : List UInt8} {w : World} : Calls Tryd.prog 19 #[.string (str s), .string ⟨#[59, 32]⟩] w fun e w' => e = .returned (seqV w.heap.size) ∧ w' = seqW w s := by
  go_enter Tryd.func19, Tryd.ntmps19
  go_wp2_with fail
  refine (splitSeq_c).mono ?_
  rintro e w2 ⟨rfl, rfl⟩
  go_wp2_with fail
  go_ret
  exact ⟨rfl, rfl⟩


/-- The plan as far as it has been read. -/
structure PlanW (w0 : Nat) (W : World) (bP bS : Nat) (pre : List (List UInt8)) (v : Value) (es : List (Int × In)) (ds : Ds) : Prop where
  box : Blk W bP 22 #[v]
  own : OW2 W w0 v es.length es
  says : SaysD es ds
  n : es.length = pre.length
  off : ∀ k, OW2.S v es k → k ≠ bS
  parts : ∀ (j : Nat) (x : List UInt8) (d : Int × List T3), pre[j]? = some x → ds[j]? = some d → PartD x d
structure RdI (w : World) (bP bS bT bV : Nat) (pre : List (List UInt8)) (W : World) : Prop where
  b0 : Below w.heap.size w W
  res : Blk W w.heap.size 22 #[.slice none 0 0]
  ok : Blk W (w.heap.size + 1) 4 #[.bool false]
  sep : Blk W bT 9 #[.string (str [59, 32])]
  zero : Blk W bV 3 #[.int .i64 0]
  plan : ∃ v es ds, PlanW w.heap.size W bP bS pre v es ds
structure RdX (w : World) (pre : List (List UInt8)) (W : World) : Prop where
  b0 : Below w.heap.size w W
  res : Blk W w.heap.size 22 #[.slice none 0 0]
  ok : Blk W (w.heap.size + 1) 4 #[.bool false]
  bad : ∃ x ∈ pre, ¬ GoodPart x
theorem Blk.kq {B0 bS : Nat} {W W' : World} {g : Nat} {t : TypeId} {cs : Array Value} (h : Blk W g t cs) (hk : Kq B0 bS W W') (hg : g ≠ bS) : Blk W' g t cs := hk.cells g _ h rfl hg
theorem below_kq {B0 bS : Nat} {w W W' : World} (h : Below w.heap.size w W) (hk : Kq B0 bS W W') (h1 : w.heap.size ≤ B0) (h2 : w.heap.size ≤ bS) : Below w.heap.size w W' :=
  ⟨hk.os.trans h.os, hk.tape.trans h.tape, hk.output.trans h.output, Nat.le_trans h.size hk.size, fun i hi => (hk.low i (Nat.lt_of_lt_of_le hi h.size) (by omega) (by omega)).trans (h.block i hi)⟩
theorem RdI.kq {B0 bS bP bT bV : Nat} {w W W' : World} {pre : List (List UInt8)} (h : RdI w bP bS bT bV pre W) (hk : Kq B0 bS W W') (h1 : w.heap.size ≤ B0) (h2 : w.heap.size + 1 < bS) (hP : bP ≠ bS) (hT : bT ≠ bS) (hV : bV ≠ bS) : RdI w bP bS bT bV pre W' := by
  obtain ⟨b0, r0, r1, r2, r3, v, es, ds, P⟩ := h
  exact ⟨below_kq b0 hk h1 (by omega), r0.kq hk (by omega), r1.kq hk (by omega), r2.kq hk hT, r3.kq hk hV, v, es, ds, P.box.kq hk hP, P.own.keep (fun g cs t hS _ hb => hb.kq hk (P.off g hS)), P.says, P.n, P.off, P.parts⟩
theorem RdX.kq {B0 bS : Nat} {w W W' : World} {pre : List (List UInt8)} (h : RdX w pre W) (hk : Kq B0 bS W W') (h1 : w.heap.size ≤ B0) (h2 : w.heap.size + 1 < bS) : RdX w pre W' :=
  ⟨below_kq h.b0 hk h1 (by omega), h.res.kq hk (by omega), h.ok.kq hk (by omega), h.bad⟩
theorem OW2.smallD {w : World} {lo n : Nat} {v : Value} {es : List (Int × In)} {ds : Ds} (h : OW2 w lo v n es) (hs : SaysD es ds) : SmallD ds := fun d hd => by
  obtain ⟨k, hk⟩ := List.mem_iff_getElem?.1 hd
  have h1 := congrArg (fun l => l[k]?) hs
  simp only [List.getElem?_map, hk, Option.map_some] at h1
  cases he : es[k]? with
  | none => rw [he] at h1; cases h1
  | some e =>
    rw [he] at h1
    simp only [Option.map_some, Option.some.injEq, Prod.mk.injEq] at h1
    have ho := h.own k e he
    have h2 := ho.len
    rw [h1.2, flat3_len] at h2
    have := ho.small
    omega
theorem partsF_len {sep : List UInt8} : ∀ (f : Nat) (s x : List UInt8), x ∈ partsF sep f s → x.length ≤ s.length
  | 0, s, x, h => by simp [partsF] at h; subst h; exact Nat.le_refl _
  | f + 1, s, x, h => by
    simp only [partsF] at h
    split at h
    · simp at h; subst h; exact Nat.le_refl _
    · simp only [List.mem_cons] at h
      rcases h with rfl | h
      · rw [List.length_take]; exact Nat.min_le_right _ _
      · have := partsF_len f _ x h
        rw [List.length_drop] at this; omega
theorem partsF_count {sep : List UInt8} (h0 : sep.length = 2) : ∀ (f : Nat) (s : List UInt8), (partsF sep f s).length * 2 ≤ s.length + 2
  | 0, s => by simp [partsF]
  | f + 1, s => by
    simp only [partsF]
    split
    · simp
    · rename_i hn
      have hr := Lib.index_room s sep (by omega)
      have := partsF_count h0 f (s.drop ((Lib.index s sep).toNat + sep.length))
      rw [List.length_drop] at this
      rw [List.length_cons]
      omega
theorem words_len (x : List UInt8) : (wordsOf x).length = Lib.countB (str x) ⟨#[32]⟩ + 1 ∧ Lib.countB (str x) ⟨#[32]⟩ ≤ x.length := by
  constructor
  · unfold wordsOf
    rw [List.length_map]
    exact Lib.splitB_all ⟨#[32]⟩ (by decide) 0 _ (str x) rfl
  · have := Lib.countB_le ⟨#[32]⟩ (by decide) _ (str x) (Nat.le_refl _)
    rw [str_size] at this; exact this
theorem words_cells (x : List UInt8) : (Lib.splitB ⟨#[32]⟩ 0 (Lib.countB (str x) ⟨#[32]⟩) (str x)).map Value.string = (wordsOf x).map fun q => .string (str q) := by
  unfold wordsOf
  rw [List.map_map]
  apply List.map_congr_left
  intro b _
  simp [str]
theorem scan_new {W : World} {x : List UInt8} (hx : x.length ≤ 1048576) : Scan ((W.alloc (.cells ((Lib.splitB ⟨#[32]⟩ 0 (Lib.countB (str x) ⟨#[32]⟩) (str x)).map Value.string).toArray 9)).alloc (.cells #[.slice (some ⟨W.heap.size, 0, none⟩) (Lib.countB (str x) ⟨#[32]⟩ + 1) (Lib.countB (str x) ⟨#[32]⟩ + 1), .bool false] 49)) (W.heap.size + 1) (wordsOf x) false := by
  obtain ⟨h1, h2⟩ := words_len x
  rw [words_cells]
  have k1 := (Blk.new W 9 ((wordsOf x).map fun q => Value.string (str q)).toArray).alloc (.cells #[.slice (some ⟨W.heap.size, 0, none⟩) (Lib.countB (str x) ⟨#[32]⟩ + 1) (Lib.countB (str x) ⟨#[32]⟩ + 1), .bool false] 49)
  have k2 := Blk.new (W.alloc (.cells ((wordsOf x).map fun q => Value.string (str q)).toArray 9)) 49 #[.slice (some ⟨W.heap.size, 0, none⟩) (Lib.countB (str x) ⟨#[32]⟩ + 1) (Lib.countB (str x) ⟨#[32]⟩ + 1), .bool false]
  rw [World.size_alloc] at k2
  refine ⟨_, _, _, k2, Nat.le_refl _, by omega, ⟨h1, fun _ => ⟨_, 0, rfl, k1.lt, fun k q hq => ?_⟩⟩, fun a ha => by injection ha with ha; subst ha; show W.heap.size ≠ W.heap.size + 1; omega, fun a ha => by injection ha with ha; subst ha; exact ⟨_, k1⟩⟩
  rw [Nat.zero_add, k1.cell]
  simp [hq]
def leftW (b : Nat) (W : World) : Nat := match W.cell? ⟨b, 0, none⟩ with
  | some (.slice _ n _) => n
  | _ => 0
theorem Scan.left {w : World} {b : Nat} {ls : List (List UInt8)} {bad : Bool} (h : Scan w b ls bad) : leftW b w = ls.length := by
  obtain ⟨A, n, c, hK, _, _, hr, _⟩ := h
  have := hK.cell 0
  simp only [List.getElem?_toArray, List.getElem?_cons_zero] at this
  unfold leftW
  rw [this]
  exact hr.1.symm
/-- The draft as far as it has been read. -/
structure DrI (W : World) (x : List UInt8) (b dB : Nat) (n : Int) (wr : World) (ls : List (List UInt8)) (bad : Bool) (ts : List T3) (u : Value) (done : List (List UInt8)) : Prop where
  sc : Scan wr b ls bad
  box : Blk wr dB 37 #[.int .i64 n, u]
  own : O3 42 wr W.heap.size u ts.length ts
  low : Below W.heap.size W wr
  bads : bad = true → ¬ GoodPart x
  words : (wordsOf x).tail = done ++ ls
  vals : ts = done.map fun q => (stepOf q).getD (0, 0, 0)
def ReadR (s : List UInt8) (w : World) (e : Ending) (w' : World) : Prop :=
  Below w.heap.size w w' ∧ ((∃ (p : Ds) (A : Option Addr) (n c : Nat) (es : List (Int × In)), planB p = true ∧ planT p = s ∧ e = .returned (.tuple #[.slice A n n, .bool true]) ∧ n ≤ c ∧ OW2 w' w.heap.size (.slice A n c) n es ∧ SaysD es p) ∨
    ((∀ p, planB p = true → planT p ≠ s) ∧ e = .returned (.tuple #[.slice none 0 0, .bool false])))
theorem retR0 {w W : World} {fn : Func} (hres : fn.results = #[.cell 2 22, .cell 3 4]) {tm : Array Value} {A : Option Addr} {n c : Nat} {b : Bool} (r0 : Blk W w.heap.size 22 #[.slice A n c]) (r1 : Blk W (w.heap.size + 1) 4 #[.bool b])
    (h2 : tm[2]? = some (.pointer (some ⟨w.heap.size, 0, none⟩))) (h3 : tm[3]? = some (.pointer (some ⟨w.heap.size + 1, 0, none⟩))) : (results fn tm).run Tryd.prog W = .ok (.tuple #[.slice A n c, .bool b]) W := by
  have t0 := r0.cell 0; have t1 := r1.cell 0
  simp only [List.getElem?_toArray, List.getElem?_cons_zero] at t0 t1
  simp [results, hres, go_sem, h2, h3, t0, t1]
/-- At a return behind the range: the results lie in their boxes. -/
theorem retR {w W : World} {D : Nat} {fn : Func} (hres : fn.results = #[.cell 2 22, .cell 3 4]) {tm : Array Value} {A : Option Addr} {n c : Nat} {b : Bool} {R : Ending → World → Prop} (r0 : Blk W w.heap.size 22 #[.slice A n c]) (r1 : Blk W (w.heap.size + 1) 4 #[.bool b]) (hD : W.heap[D]? = some (.deferred (some [])))
    (h2 : tm[2]? = some (.pointer (some ⟨w.heap.size, 0, none⟩))) (h3 : tm[3]? = some (.pointer (some ⟨w.heap.size + 1, 0, none⟩)))
    (h : R (.returned (.tuple #[.slice A n c, .bool b])) (W.putObj D (.deferred none))) : bodyPostM Fence.wide 3 Tryd.prog fn R .ret { tmps := tm, defers := [{ target := .collected D, args := #[] }] } W := by
  have hd : ∀ (g : Nat) (t : TypeId) (cs : Array Value), Blk W g t cs → Blk (W.putObj D (.deferred none)) g t cs := fun g t cs hb => (World.putObj_heap_other (by
    rintro rfl
    unfold Blk at hb; rw [hD] at hb; injection hb with hb; cases hb)).trans hb
  refine ⟨by simp, .inl ⟨_, _, rfl, run_takeDeferred hD, ?_⟩⟩
  exact ⟨_, retR0 hres (hd _ _ _ r0) (hd _ _ _ r1) h2 h3, h⟩
/-- At a return without it. -/
theorem retN {w W : World} {fn : Func} (hres : fn.results = #[.cell 2 22, .cell 3 4]) {tm : Array Value} {A : Option Addr} {n c : Nat} {b : Bool} {R : Ending → World → Prop} (r0 : Blk W w.heap.size 22 #[.slice A n c]) (r1 : Blk W (w.heap.size + 1) 4 #[.bool b])
    (h2 : tm[2]? = some (.pointer (some ⟨w.heap.size, 0, none⟩))) (h3 : tm[3]? = some (.pointer (some ⟨w.heap.size + 1, 0, none⟩)))
    (h : R (.returned (.tuple #[.slice A n c, .bool b])) W) : bodyPostM Fence.wide 3 Tryd.prog fn R .ret { tmps := tm, defers := [] } W :=
  ⟨_, retR0 hres r0 r1 h2 h3, h⟩
/-- Both results are stored. -/
theorem blk_res {w W : World} {u u' : Value} {b b' : Bool} (r0 : Blk W w.heap.size 22 #[u]) (r1 : Blk W (w.heap.size + 1) 4 #[.bool b]) :
    Blk ((W.setCell ⟨w.heap.size, 0, none⟩ u').setCell ⟨w.heap.size + 1, 0, none⟩ (.bool b')) w.heap.size 22 #[u'] ∧ Blk ((W.setCell ⟨w.heap.size, 0, none⟩ u').setCell ⟨w.heap.size + 1, 0, none⟩ (.bool b')) (w.heap.size + 1) 4 #[.bool b'] :=
  ⟨(r0.set_ 0 u').far (by show w.heap.size ≠ w.heap.size + 1; omega) _, (r1.far (p := ⟨w.heap.size, 0, none⟩) (by show w.heap.size + 1 ≠ w.heap.size; omega) u').set_ 0 (.bool b')⟩
theorem below_fin {w W : World} {D : Nat} (h : Below w.heap.size w W) (hD : w.heap.size ≤ D) (u v : Value) (o : Obj) : Below w.heap.size w (((W.setCell ⟨w.heap.size, 0, none⟩ u).setCell ⟨w.heap.size + 1, 0, none⟩ v).putObj D o) :=
  have h1 := (h.setCell (p := ⟨w.heap.size, 0, none⟩) (Nat.le_refl _) u).setCell (p := ⟨w.heap.size + 1, 0, none⟩) (by show w.heap.size ≤ w.heap.size + 1; omega) v
  ⟨h1.os, h1.tape, h1.output, by simpa using h1.size, fun i hi => (World.putObj_heap_other (by omega)).trans (h1.block i hi)⟩
theorem below_put {w W : World} {D : Nat} (h1 : Below w.heap.size w W) (hD : w.heap.size ≤ D) (o : Obj) : Below w.heap.size w (W.putObj D o) :=
  ⟨h1.os, h1.tape, h1.output, by simpa using h1.size, fun i hi => (World.putObj_heap_other (by omega)).trans (h1.block i hi)⟩
theorem blk_set2 {w W : World} {u u' : Value} {b b' : Bool} (r0 : Blk W w.heap.size 22 #[u]) (r1 : Blk W (w.heap.size + 1) 4 #[.bool b]) {g : Nat} {t : TypeId} {cs : Array Value} (ht : t = 37 ∨ t = 42) (h : Blk W g t cs) :
    Blk ((W.setCell ⟨w.heap.size, 0, none⟩ u').setCell ⟨w.heap.size + 1, 0, none⟩ (.bool b')) g t cs := by
  refine (h.far (p := ⟨w.heap.size, 0, none⟩) ?_ u').far (p := ⟨w.heap.size + 1, 0, none⟩) ?_ _
  · rintro rfl
    unfold Blk at h r0; rw [r0] at h; injection h with h; injection h with _ h
    rcases ht with rfl | rfl <;> exact absurd h (by decide)
  · rintro rfl
    unfold Blk at h r1; rw [r1] at h; injection h with h; injection h with _ h
    rcases ht with rfl | rfl <;> exact absurd h (by decide)
theorem blk_put {W : World} {D g : Nat} {t : TypeId} {cs : Array Value} {o' : Obj} (hD : W.heap[D]? = some (.deferred (some []))) (hb : Blk W g t cs) : Blk (W.putObj D o') g t cs := (World.putObj_heap_other (by
    rintro rfl
    unfold Blk at hb; rw [hD] at hb; injection hb with hb; cases hb)).trans hb
theorem def_fin {w W W' : World} {D : Nat} (hK : W.heap[D]? = some (.deferred (some []))) (hb : Below W.heap.size W W') (hD : w.heap.size + 2 ≤ D) (u v : Value) : ((W'.setCell ⟨w.heap.size, 0, none⟩ u).setCell ⟨w.heap.size + 1, 0, none⟩ v).heap[D]? = some (.deferred (some [])) :=
  (Below.heap_setCell _ _ _ D (by show D ≠ w.heap.size + 1; omega)).trans ((Below.heap_setCell _ _ _ D (by show D ≠ w.heap.size; omega)).trans ((hb.block D (Array.getElem?_eq_some_iff.1 hK).1).trans hK))

theorem keeps_below {W W' : World} (h : Below W.heap.size W W') : KeepsOthers W W' := ⟨h.size, fun k _ hk _ => (h.block k (Array.getElem?_eq_some_iff.1 hk).1).trans hk⟩
theorem row_ne {w : World} {lo s n g : Nat} {t t' : TypeId} {v : Value} {cs : List Value} {ds : Array Value} (h : w.ownsRow lo t s v n cs) (hb : Blk w g t' ds) (ht : t' ≠ t) : some g ≠ v.ownBlock := by
  rcases h.2 with ⟨rfl, _⟩ | ⟨g', cap, cur, rfl, _, hh, _⟩
  · simp [Value.ownBlock]
  · intro he
    have e : g = g' := by have h : some g = some g' := he; injection h
    subst e
    unfold Blk at hb; rw [hh] at hb; injection hb with hb; injection hb with _ h2; exact ht h2.symm
theorem row_shape {w : World} {lo s n : Nat} {t : TypeId} {v : Value} {cs : List Value} (h : w.ownsRow lo t s v n cs) : ∃ A c, v = .slice A n c := by
  rcases h.2 with ⟨rfl, rfl⟩ | ⟨g', cap, cur, rfl, _⟩
  · exact ⟨_, _, rfl⟩
  · exact ⟨_, _, rfl⟩

end Go.Proofs.YtefopnkicllpeaaDoor
