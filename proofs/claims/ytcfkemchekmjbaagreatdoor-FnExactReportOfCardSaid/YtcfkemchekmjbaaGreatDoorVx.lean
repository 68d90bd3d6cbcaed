/- Merged (what the law reaches): CmpE, SrtE, Cpt. -/
import Derived.Test.YtcfkemchekmjbaaGreatDoorVw
import Derived.Deep.RegionHeld3
import Derived.BigQuiet
import Derived.Deep.DeepCutAuto
import Derived.Laws.StructEq
namespace Go.Proofs.YtcfkemchekmjbaaGreatDoor
open Go.RowKit Go.Shelf Go.Sort Go.Lib
def orV (a b c : Int) : Int := if a ≠ 0 then a else if b ≠ 0 then b else c
set_option maxHeartbeats 2000000 in
theorem Or_c {g : Nat} {a b c : Int} {w : World} (h0 : w.cell? ⟨g, 0, none⟩ = some (.int .i64 a)) (h1 : w.cell? ⟨g, 1, none⟩ = some (.int .i64 b)) (h2 : w.cell? ⟨g, 2, none⟩ = some (.int .i64 c)) :
    Calls Tryz.prog 192 #[.slice (some ⟨g, 0, none⟩) 3 3] w fun e w' => e = .returned (.int .i64 (orV a b c)) ∧ w' = w := by
  by_cases ha : a = 0
  · have ha' : (a != 0) = false := by simpa using ha
    by_cases hb : b = 0
    · have hb' : (b != 0) = false := by simpa using hb
      have hf : orV a b c = c := by unfold orV; simp [ha, hb]
      by_cases hc : c = 0
      · have hc' : (c != 0) = false := by simpa using hc
        have F := hide (hf.trans hc)
        clear hf ha hb hc
        go_enter Tryz.func192, Tryz.ntmps192
        go_wp2_with fail
        refine wp_loop_rounds 4 ?_
        iterate 4 (rw [rounds_succ]; go_wp2_with fail)
        go_ret
        exact ⟨congrArg (fun q => Ending.returned (.int .i64 q)) F.out.symm, rfl⟩
      · have hc' : (c != 0) = true := by simpa using hc
        have F := hide hf
        clear hf ha hb hc
        go_enter Tryz.func192, Tryz.ntmps192
        go_wp2_with fail
        refine wp_loop_rounds 4 ?_
        iterate 3 (rw [rounds_succ]; go_wp2_with fail)
        go_ret
        exact ⟨congrArg (fun q => Ending.returned (.int .i64 q)) F.out.symm, rfl⟩
    · have hb' : (b != 0) = true := by simpa using hb
      have F := hide (show orV a b c = b by unfold orV; simp [ha, hb])
      clear ha hb
      go_enter Tryz.func192, Tryz.ntmps192
      go_wp2_with fail
      refine wp_loop_rounds 3 ?_
      iterate 2 (rw [rounds_succ]; go_wp2_with fail)
      go_ret
      exact ⟨congrArg (fun q => Ending.returned (.int .i64 q)) F.out.symm, rfl⟩
  · have ha' : (a != 0) = true := by simpa using ha
    have F := hide (show orV a b c = a by unfold orV; simp [ha])
    clear ha
    go_enter Tryz.func192, Tryz.ntmps192
    go_wp2_with fail
    refine wp_loop_rounds 2 ?_
    iterate 1 (rw [rounds_succ]; go_wp2_with fail)
    go_ret
    exact ⟨congrArg (fun q => Ending.returned (.int .i64 q)) F.out.symm, rfl⟩
def cmpE (a b : T3) : Int := orV (Lib.compareInt a.1 b.1) (Lib.compareInt a.2.1 b.2.1) (Lib.compareInt a.2.2 b.2.2)
def encE (e : T3) : List Value := [.int .i64 e.1, .int .i64 e.2.1, .int .i64 e.2.2]
set_option maxRecDepth 100000 in
set_option maxHeartbeats 8000000 in
theorem compare_c (a b : T3) (W : World) : Calls Tryz.prog 163 #[.agg (encE a).toArray, .agg (encE b).toArray] W fun e w' => e = .returned (.int .i64 (cmpE a b)) ∧ ∃ q os', w' = grow (W.drewN q) os' := by
  obtain ⟨x, y, z⟩ := a
  obtain ⟨x', y', z'⟩ := b
  show Calls Tryz.prog 163 #[.agg #[.int .i64 x, .int .i64 y, .int .i64 z], .agg #[.int .i64 x', .int .i64 y', .int .i64 z']] W _
  obtain ⟨W2, hW2⟩ : ∃ q, (W.alloc (.cells #[.int .i64 x, .int .i64 y, .int .i64 z] 146)).alloc (.cells #[.int .i64 x', .int .i64 y', .int .i64 z'] 146) = q := ⟨_, rfl⟩
  have hg : W2 = grow W #[.cells #[.int .i64 x, .int .i64 y, .int .i64 z] 146, .cells #[.int .i64 x', .int .i64 y', .int .i64 z'] 146] := by
    rw [← hW2, alloc_eq_grow, alloc_eq_grow, grow_grow]; rfl
  have K1 : Blk W2 W.heap.size 146 #[.int .i64 x, .int .i64 y, .int .i64 z] := by rw [← hW2]; exact (Blk.new W _ _).alloc _
  have K2 : Blk W2 (W.heap.size + 1) 146 #[.int .i64 x', .int .i64 y', .int .i64 z'] := by
    rw [← hW2]; have := Blk.new (W.alloc (.cells #[.int .i64 x, .int .i64 y, .int .i64 z] 146)) 146 #[.int .i64 x', .int .i64 y', .int .i64 z']
    rw [World.size_alloc] at this; exact this
  have l1 := K1.lt; have l2 := K2.lt
  obtain ⟨k0, k1, k2⟩ := K1.three
  obtain ⟨m0, m1, m2⟩ := K2.three
  have HG := hide hg; have HW := hide hW2
  clear hg hW2 K1 K2
  go_enter Tryz.func163, Tryz.ntmps163
  go_wp2_with fail
  rw [HW.out]
  have hcl : ∀ V : World, (∀ i, i < W2.heap.size → V.heap[i]? = W2.heap[i]?) → (V.cell? ⟨W.heap.size, 0, none⟩ = some (.int .i64 x) ∧ V.cell? ⟨W.heap.size, 1, none⟩ = some (.int .i64 y) ∧ V.cell? ⟨W.heap.size, 2, none⟩ = some (.int .i64 z) ∧ V.cell? ⟨W.heap.size + 1, 0, none⟩ = some (.int .i64 x') ∧ V.cell? ⟨W.heap.size + 1, 1, none⟩ = some (.int .i64 y') ∧ V.cell? ⟨W.heap.size + 1, 2, none⟩ = some (.int .i64 z')) := fun V h =>
    ⟨(World.cell?_of_block (h _ l1)).trans k0, (World.cell?_of_block (h _ l1)).trans k1, (World.cell?_of_block (h _ l1)).trans k2, (World.cell?_of_block (h _ l2)).trans m0, (World.cell?_of_block (h _ l2)).trans m1, (World.cell?_of_block (h _ l2)).trans m2⟩
  have HC := hide hcl
  clear hcl
  go_region_held3 (fun V => V.cell? ⟨W.heap.size, 0, none⟩ = some (.int .i64 x) ∧ V.cell? ⟨W.heap.size, 1, none⟩ = some (.int .i64 y) ∧ V.cell? ⟨W.heap.size, 2, none⟩ = some (.int .i64 z) ∧ V.cell? ⟨W.heap.size + 1, 0, none⟩ = some (.int .i64 x') ∧ V.cell? ⟨W.heap.size + 1, 1, none⟩ = some (.int .i64 y') ∧ V.cell? ⟨W.heap.size + 1, 2, none⟩ = some (.int .i64 z')) (first | exact HC.out _ (fun _ _ => rfl) | exact HC.out _ (fun i hi => Below.heap_alloc _ _ i hi)) (first | (go_at_call 193; refine (cmp_Compare_int _ _ _).mono ?_; rintro e w' ⟨rfl, rfl⟩) | (go_at_call 192; refine (Or_c ((Blk.new W2 _ _).cell 0) ((Blk.new W2 _ _).cell 1) ((Blk.new W2 _ _).cell 2)).mono ?_; rintro e w' ⟨rfl, rfl⟩))
  go_wp2_with fail
  go_ret
  have e9 : ∀ o, W2.alloc o = grow W (#[.cells #[.int .i64 x, .int .i64 y, .int .i64 z] 146, .cells #[.int .i64 x', .int .i64 y', .int .i64 z'] 146] ++ #[o]) := fun o => by rw [alloc_eq_grow, HG.out, grow_grow]
  refine ⟨rfl, 1, #[.cells #[.int .i64 x, .int .i64 y, .int .i64 z] 146, .cells #[.int .i64 x', .int .i64 y', .int .i64 z'] 146] ++ #[.cells #[.int .i64 (Lib.compareInt x x'), .int .i64 (Lib.compareInt y y'), .int .i64 (Lib.compareInt z z')] 3], ?_⟩
  rw [e9]
  rfl
theorem compareInt_lt {x y : Int} : Lib.compareInt x y < 0 ↔ x < y := by unfold Lib.compareInt; split <;> (try split) <;> omega
theorem compareInt_zero {x y : Int} : Lib.compareInt x y = 0 ↔ x = y := by unfold Lib.compareInt; split <;> (try split) <;> omega
theorem cmpE_lt {a b : T3} : cmpE a b < 0 ↔ ltE a b := by
  unfold cmpE orV ltE
  have h1 := @compareInt_lt a.1 b.1; have h2 := @compareInt_lt a.2.1 b.2.1; have h3 := @compareInt_lt a.2.2 b.2.2
  have g1 := @compareInt_zero a.1 b.1; have g2 := @compareInt_zero a.2.1 b.2.1
  by_cases e1 : a.1 = b.1
  · rw [if_neg (by simp [g1.2 e1])]
    by_cases e2 : a.2.1 = b.2.1
    · rw [if_neg (by simp [g2.2 e2]), h3]; omega
    · rw [if_pos (fun h => e2 (g2.1 h)), h2]; omega
  · rw [if_pos (fun h => e1 (g1.1 h)), h1]; omega
theorem ltOfE (a b : T3) : ltOf cmpE a b = decide (ltE a b) := by
  unfold ltOf
  rw [decide_eq_decide]; exact cmpE_lt
theorem swoE : SWO (ltOf cmpE) where
  irrefl x := by rw [ltOfE]; simpa using ltE.irrefl
  trans x y z h1 h2 := by rw [ltOfE] at *; simp at *; exact h1.trans h2
  ntrans x y z h1 h2 := by rw [ltOfE] at *; simp at *; unfold ltE at *; omega
theorem totE (x y : T3) (h1 : ltOf cmpE x y = false) (h2 : ltOf cmpE y x = false) : x = y := by
  rw [ltOfE] at *
  simp at h1 h2
  obtain ⟨a, b, c⟩ := x; obtain ⟨a', b', c'⟩ := y
  unfold ltE at h1 h2
  dsimp only at h1 h2
  have : a = a' := by omega
  have : b = b' := by omega
  have : c = c' := by omega
  simp_all
end Go.Proofs.YtcfkemchekmjbaaGreatDoor

namespace Go.Proofs.YtcfkemchekmjbaaGreatDoor
open Go.RowKit Go.Shelf Go.Sort Go.Lib
theorem flatE_get {d : List T3} {t : Nat} (h : t < d.length * 3) : (flatK encE 3 d.toArray)[t]? = ((flat3 d).map (Value.int .i64))[t]? := by
  have h3 : t / 3 < d.length := by omega
  obtain ⟨⟨x, y, z⟩, he⟩ : ∃ q, d[t / 3]? = some q := ⟨_, List.getElem?_eq_getElem h3⟩
  obtain ⟨f0, f1, f2⟩ := flat3_get d (t / 3) x y z he
  have hl : (flatK encE 3 d.toArray).size = d.length * 3 := by simp
  rw [Array.getElem?_eq_getElem (by omega)]
  have hg := get_flatK encE 3 d.toArray t (by simpa using h)
  rw [getElem!_pos _ t (by omega)] at hg
  rw [hg]
  have hd : d.toArray[t / 3]! = (x, y, z) := by
    rw [getElem!_pos _ _ (by simpa using h3)]
    have := (List.getElem?_eq_some_iff.1 he).2
    simpa using this
  rw [hd]
  rcases (show t % 3 = 0 ∨ t % 3 = 1 ∨ t % 3 = 2 by omega) with h | h | h
  · rw [h, List.getElem?_map, show t = t / 3 * 3 by omega, f0]; rfl
  · rw [h, List.getElem?_map, show t = t / 3 * 3 + 1 by omega, f1]; rfl
  · rw [h, List.getElem?_map, show t = t / 3 * 3 + 2 by omega, f2]; rfl
theorem holdsE {w : World} {g n cap : Nat} {cur : Array Value} {xs : List T3} (hg : w.heap[g]? = some (.cells cur 146 (0, 0))) (hl : xs.length = n) (_hs : cur.size = cap * 3) (_hn : n ≤ cap) (ht : cur.toList.take (n * 3) = (flat3 xs).map (Value.int .i64)) :
    HoldsK encE 3 w g 0 xs.toArray := by
  intro j hj
  have hj' : j < xs.length * 3 := by simpa using hj
  refine ⟨?_, by simp [World.frozen?, hg]⟩
  rw [Nat.zero_add, Blk.cell (t := 146) (cs := cur) hg, getElem!_pos _ j hj]
  have h1 : (cur.toList.take (n * 3))[j]? = ((flat3 xs).map (Value.int .i64))[j]? := by rw [ht]
  rw [List.getElem?_take_of_lt (by omega), ← flatE_get hj'] at h1
  rw [← Array.getElem?_toList, h1, Array.getElem?_eq_getElem hj]
  rfl
theorem heap_sortedE {w : World} {g n : Nat} {os : Array Obj} {cur : Array Value} {e : TypeId} {fr : Nat × Nat} (d : Array T3) (hb : w.heap[g]? = some (.cells cur e fr)) :
    (sortWorldK encE 3 w g 0 n d os).heap[g]? = some (.cells (putCells id 0 (flatK encE 3 d) cur) e fr) := by
  have hg : g < w.heap.size := (Array.getElem?_eq_some_iff.1 hb).1
  unfold sortWorldK putRowK
  rw [heap_grow_old _ _ (by simpa using hg)]
  simp [putRow, mapBlock, Sort.ahead, Array.getElem?_modify, hb, onCells]
theorem grownBy_sortedE {w : World} {g n : Nat} {os : Array Obj} (d : Array T3) : w.grownBy (sortWorldK encE 3 w g 0 n d os) (some g) := by
  unfold sortWorldK putRowK
  refine ⟨rfl, rfl, rfl, by simp, fun k hk hne => ?_⟩
  rw [heap_grow_old _ _ (by simpa using hk)]
  have : g ≠ k := fun e => hne (by rw [e])
  simp [putRow, mapBlock, Sort.ahead, Array.getElem?_modify, this]
theorem take_putCellsE (cur : Array Value) (ts : List T3) (h : ts.length * 3 ≤ cur.size) : (putCells id 0 (flatK encE 3 ts.toArray) cur).toList.take (ts.length * 3) = (flat3 ts).map (Value.int .i64) := by
  apply List.ext_getElem?
  intro j
  by_cases hj : j < ts.length * 3
  · rw [List.getElem?_take_of_lt hj, Array.getElem?_toList, ← flatE_get hj]
    have hsz : (flatK encE 3 ts.toArray).size = ts.length * 3 := by simp
    simp only [putCells, Array.getElem?_mapIdx]
    rw [Array.getElem?_eq_getElem (by omega), Array.getElem?_eq_getElem (by omega)]
    simp only [Option.map_some, Nat.zero_add, Nat.sub_zero, Nat.zero_le, true_and, id]
    rw [if_pos (by omega), getElem!_pos _ j (by omega)]
  · rw [List.getElem?_take_eq_none (by omega), List.getElem?_eq_none (by simp [flat3_len]; omega)]
def srtE (xs : List T3) : List T3 := xs.mergeSort fun x y => !(ltOf cmpE y x)
set_option maxHeartbeats 2000000 in
theorem SortFunc_c {g n c B : Nat} {xs : List T3} {w : World} (ho : O3 146 w B (.slice (some ⟨g, 0, none⟩) n c) n xs) :
    Calls Tryz.prog 162 #[.slice (some ⟨g, 0, none⟩) n c, .func (.func 163) #[] #[]] w fun e w' => e = .returned (.tuple #[]) ∧ O3 146 w' B (.slice (some ⟨g, 0, none⟩) n c) n (srtE xs) ∧ w.grownBy w' (some g) := by
  have hl := ho.len
  have hn := ho.2
  rcases ho.1.2 with ⟨e, _⟩ | ⟨g', cap, cur, e, hB, hg, hc, hcm, hs, ht⟩
  · cases e
  · obtain ⟨rfl, rfl⟩ : g = g' ∧ c = cap := by injection e with e1 _ e3; injection e1 with e1; injection e1 with e1; exact ⟨e1, e3⟩
    have eg : ∀ args w, (callFunc 163 args).run Tryz.prog w = .ok (.enter 163 args) w := enters_of Tryz.func163 (by kernel_rfl) rfl
    have hcon := AnyQ.slices_SortFunc_total sortEd 3 Tryz.isAgg146 Tryz.sizeOf146 encE (fun _ => rfl) (fun x v hv => by simp [encE] at hv; rcases hv with rfl | rfl | rfl <;> rfl) cmpE swoE 163 #[] g 0 c xs.toArray w eg (fun _ _ _ _ x y => compare_c x y _) (holdsE hg hl hs hc ht) (Blk.lt hg) (by simp; omega) totE
    change Calls Tryz.prog 162 _ _ _ at hcon
    have hlen : (srtE xs).length = xs.length := by unfold srtE; rw [List.length_mergeSort]
    have hsz : xs.toArray.size = n := by simpa using hl
    rw [hsz] at hcon
    refine hcon.mono ?_
    rintro e w' ⟨rfl, q, os, rfl⟩
    refine ⟨rfl, ⟨⟨by simp [flat3_len, hlen, hl], .inr ⟨g, c, _, rfl, hB, heap_sortedE _ hg, hc, hcm, by simp [putCells, hs], ?_⟩⟩, hn⟩, grownBy_sortedE _⟩
    have := take_putCellsE cur (srtE xs) (by rw [hlen, hl, hs]; omega)
    rw [hlen, hl] at this
    exact this
end Go.Proofs.YtcfkemchekmjbaaGreatDoor

namespace Go.Proofs.YtcfkemchekmjbaaGreatDoor
open Go.RowKit
theorem fieldsEd : Tryz.prog.underlying 146 = some (.struct (Tryz.prog.fieldsOf 146)) := by kernel_rfl
theorem heldEd : Tryz.prog.stoodInHeld 146 = false := by kernel_rfl
theorem equalInEd (w : World) (a b c a' b' c' : Int) : (Op.equalIn 10000 146 (.agg #[.int .i64 a, .int .i64 b, .int .i64 c]) (.agg #[.int .i64 a', .int .i64 b', .int .i64 c'])).run Tryz.prog w = .ok (a == a' && (b == b' && c == c')) w := by
  have z3 := Tryz.sizeOf3
  have a3 := Tryz.isAgg3
  have u3 := Tryz.underlying3
  rw [show (10000 : Nat) = 9999 + 1 from rfl, run_equalIn_agg w 9999 146 _ _ fieldsEd heldEd]
  simp only [Program.fieldsOf, Tryz.underlying146]
  go_simp
  by_cases h1 : a = a' <;> by_cases h2 : b = b' <;> by_cases h3 : c = c' <;> simp [h1, h2, h3]
theorem eqEdL (w : World) (a b c a' b' c' : Int) : (binOp .eql 146 (.agg #[.int .i64 a, .int .i64 b, .int .i64 c]) (.agg #[.int .i64 a', .int .i64 b', .int .i64 c'])).run Tryz.prog w = .ok (.bool (a == a' && (b == b' && c == c'))) w := by
  rw [run_eql_struct, equalInEd]; rfl
theorem neqEdL (w : World) (a b c a' b' c' : Int) : (binOp .neq 146 (.agg #[.int .i64 a, .int .i64 b, .int .i64 c]) (.agg #[.int .i64 a', .int .i64 b', .int .i64 c'])).run Tryz.prog w = .ok (.bool (!(a == a' && (b == b' && c == c')))) w := by
  rw [run_neq_struct, equalInEd]; rfl
theorem infoEd : (Tryz.prog.info? 146).map (fun i => (i.zero, i.size, i.bytes)) = some (some (.agg #[.int .i64 0, .int .i64 0, .int .i64 0]), 3, 24) := by kernel_rfl
theorem run_clearE (w : World) (g o n c : Nat) (hn : 0 < n) (hc : ∀ j, j < n * 3 → (w.cell? ⟨g, o + j, none⟩).isSome = true) (hf : ∀ j, j < n * 3 → w.frozen? ⟨g, o + j, none⟩ = false) :
    ∃ zs : List Value, zs.length = n * 3 ∧ ∀ ty, (Builtin.clear_ #[97] ty #[.slice (some ⟨g, o, none⟩) n c]).run Tryz.prog w = .ok (.tuple #[]) (w.setCells g o zs) := by
  have hl : (Builtin.zeroCells (Value.agg #[.int .i64 0, .int .i64 0, .int .i64 0]).cells n).toList.length = n * 3 := by simp [Builtin.zeroCells]; rfl
  have h1 : ∀ v ∈ (Builtin.zeroCells (Value.agg #[.int .i64 0, .int .i64 0, .int .i64 0]).cells n).toList, v.oneCell' = true := fun v hv => by
    simp only [Builtin.zeroCells, Array.toList_map, List.mem_map] at hv
    obtain ⟨i, _, rfl⟩ := hv
    have h3 : i % 3 < 3 := Nat.mod_lt _ (by omega)
    show ((#[Value.int .i64 0, .int .i64 0, .int .i64 0] : Array Value)[i % 3]!).oneCell' = true
    rcases (show i % 3 = 0 ∨ i % 3 = 1 ∨ i % 3 = 2 by omega) with h | h | h <;> rw [h] <;> rfl
  have hst := run_storeCells_cells (P := Tryz.prog) g o (Builtin.zeroCells (Value.agg #[.int .i64 0, .int .i64 0, .int .i64 0]).cells n).toList 0 w (by rw [hl]; simpa using hc) (by rw [hl]; simpa using hf) h1
  simp only [Nat.add_zero] at hst
  refine ⟨_, hl, fun ty => ?_⟩
  obtain ⟨m, rfl⟩ : ∃ m, n = m + 1 := ⟨n - 1, by omega⟩
  simp [Builtin.clear_, run_underlying Tryz.underlying97, hst]
theorem flat3_set : ∀ (ts : List T3) (k : Nat) (x y z : Int), k < ts.length → flat3 (ts.set k (x, y, z)) = (((flat3 ts).set (k * 3) x).set (k * 3 + 1) y).set (k * 3 + 2) z
  | [], k, _, _, _, h => by simp at h
  | (a, b, c) :: ts, 0, x, y, z, _ => by simp [flat3]
  | (a, b, c) :: ts, k + 1, x, y, z, h => by
    simp only [List.length_cons] at h
    simp only [List.set_cons_succ, flat3, show (k + 1) * 3 = k * 3 + 1 + 1 + 1 by omega, flat3_set ts k x y z (by omega)]
theorem O3.put {te : TypeId} {w : World} {B g n c : Nat} {ts : List T3} (h : O3 te w B (.slice (some ⟨g, 0, none⟩) n c) n ts) {k : Nat} (hk : k < n) (x y z : Int) :
    O3 te (((w.setCell ⟨g, k * 3, none⟩ (.int .i64 x)).setCell ⟨g, k * 3 + 1, none⟩ (.int .i64 y)).setCell ⟨g, k * 3 + 2, none⟩ (.int .i64 z)) B (.slice (some ⟨g, 0, none⟩) n c) n (ts.set k (x, y, z)) := by
  have h1 := ((h.of.store (k * 3) x).store (k * 3 + 1) y).store (k * 3 + 2) z
  have hl := h.len
  unfold O3
  rw [flat3_set _ _ _ _ _ (by omega)]
  exact h1
theorem O3.cells {te : TypeId} {w : World} {B g n c : Nat} {ts : List T3} (h : O3 te w B (.slice (some ⟨g, 0, none⟩) n c) n ts) {k : Nat} {x y z : Int} (hk : ts[k]? = some (x, y, z)) :
    w.cell? ⟨g, k * 3, none⟩ = some (.int .i64 x) ∧ w.cell? ⟨g, k * 3 + 1, none⟩ = some (.int .i64 y) ∧ w.cell? ⟨g, k * 3 + 2, none⟩ = some (.int .i64 z) := by
  obtain ⟨A, c', e, _, _, hr⟩ := h.s3
  injection e with e1 _ _
  have hkn : k < n := by have := (List.getElem?_eq_some_iff.1 hk).1; have := h.len; omega
  obtain ⟨b, off, x', y', z', e2, _, hx, c0, c1, c2⟩ := hr.at_ hkn
  rw [← e1] at e2
  injection e2 with e2
  injection e2 with e3 e4
  rw [hk] at hx; injection hx with hx; injection hx with hx1 hx; injection hx with hx2 hx3
  subst e3; subst hx1; subst hx2; subst hx3
  have e4 : off = 0 := e4.symm
  subst e4
  simp only [Nat.zero_add] at c0 c1 c2
  exact ⟨c0, c1, c2⟩
theorem strict_snoc {D : List T3} {p x : T3} (hD : D.Pairwise ltE) (hl : D.getLast? = some p) (hx : ltE p x) : (D ++ [x]).Pairwise ltE := by
  rw [List.pairwise_append]
  refine ⟨hD, by simp, fun a ha b hb => ?_⟩
  simp at hb; subst hb
  rcases List.eq_nil_or_concat D with e | ⟨D', q, e⟩
  · subst e; simp at ha
  · rw [List.concat_eq_append] at e
    subst e
    rw [List.getLast?_append] at hl
    simp at hl; subst hl
    rcases List.mem_append.1 ha with ha | ha
    · exact ((List.pairwise_append.1 hD).2.2 a ha q (by simp)).trans hx
    · simp at ha; subst ha; exact hx
theorem lt_of_not {a b : T3} (h : ¬ ltE b a) (hne : a ≠ b) : ltE a b := by
  obtain ⟨x, y, z⟩ := a; obtain ⟨x', y', z'⟩ := b
  unfold ltE at *
  dsimp only at *
  have : ¬ (x = x' ∧ y = y' ∧ z = z') := fun h => hne (by rw [h.1, h.2.1, h.2.2])
  omega
/-- What the inner loop keeps: the first kk elements are the different ones of the first p. -/
structure CptI (xs ys : List T3) (p kk : Nat) : Prop where
  len : ys.length = xs.length
  high : ∀ t, kk ≤ t → ys[t]? = xs[t]?
  srt : (ys.take kk).Pairwise ltE
  mem : ∀ e, e ∈ ys.take kk ↔ e ∈ xs.take p
  last : (ys.take kk).getLast? = xs[p - 1]?
  kp : kk + 1 ≤ p
  pn : p ≤ xs.length
theorem CptI.skip {xs ys : List T3} {p kk : Nat} (h : CptI xs ys p kk) {x : T3} (h1 : xs[p]? = some x) (h2 : xs[p - 1]? = some x) : CptI xs ys (p + 1) kk :=
  ⟨h.len, h.high, h.srt, fun e => by
    rw [h.mem, List.take_add_one, h1]
    constructor
    · intro he; exact List.mem_append_left _ he
    · intro he
      rcases List.mem_append.1 he with he | he
      · exact he
      · simp at he; subst he
        have hp := h.kp
        exact List.mem_take_iff_getElem.2 ⟨p - 1, by have := h.pn; omega, (List.getElem?_eq_some_iff.1 h2).2⟩, by rw [h.last, h2, show p + 1 - 1 = p by omega, h1], by have := h.kp; omega, (List.getElem?_eq_some_iff.1 h1).1⟩
theorem CptI.keep {xs ys : List T3} {p kk : Nat} (h : CptI xs ys p kk) (hs : xs.Pairwise (fun a b => ¬ ltE b a)) {x q : T3} (h1 : xs[p]? = some x) (h2 : xs[p - 1]? = some q) (hne : x ≠ q) : CptI xs (ys.set kk x) (p + 1) (kk + 1) := by
  have hkl : kk < ys.length := by have := h.kp; have := h.pn; rw [h.len]; omega
  have ht : (ys.set kk x).take (kk + 1) = ys.take kk ++ [x] := by
    rw [List.take_add_one, List.getElem?_set_self hkl, List.take_set_of_le (Nat.le_refl _)]; rfl
  have hlt : ltE q x := by
    obtain ⟨a1, b1⟩ := List.getElem?_eq_some_iff.1 h1
    obtain ⟨a2, b2⟩ := List.getElem?_eq_some_iff.1 h2
    have := List.pairwise_iff_getElem.1 hs (p - 1) p a2 a1 (by have := h.kp; omega)
    rw [b1, b2] at this
    exact lt_of_not this (fun e => hne e.symm)
  refine ⟨by rw [List.length_set]; exact h.len, fun t htk => ?_, ?_, fun e => ?_, ?_, by have := h.kp; omega, (List.getElem?_eq_some_iff.1 h1).1⟩
  · rw [List.getElem?_set_ne (by omega)]; exact h.high t (by omega)
  · rw [ht]; exact strict_snoc h.srt (h.last.trans h2) hlt
  · rw [ht, List.take_add_one, h1, List.mem_append, List.mem_append, h.mem]; rfl
  · rw [ht, show p + 1 - 1 = p by omega, h1]; simp
theorem CptI.start {xs : List T3} {j : Nat} {x : T3} (h1 : (xs.take (j + 1)).Pairwise ltE) (h2 : xs[j]? = some x) (h3 : xs[j + 1]? = some x) : CptI xs xs (j + 2) (j + 1) :=
  ⟨rfl, fun _ _ => rfl, h1, fun e => by
    rw [List.take_add_one (i := j + 1), h3]
    constructor
    · intro he; exact List.mem_append_left _ he
    · intro he
      rcases List.mem_append.1 he with he | he
      · exact he
      · simp at he; subst he
        exact List.mem_take_iff_getElem.2 ⟨j, by have := (List.getElem?_eq_some_iff.1 h3).1; omega, (List.getElem?_eq_some_iff.1 h2).2⟩,
   by rw [show j + 2 - 1 = j + 1 by omega, h3, List.take_add_one, h2]; simp, by omega, (List.getElem?_eq_some_iff.1 h3).1⟩
end Go.Proofs.YtcfkemchekmjbaaGreatDoor
