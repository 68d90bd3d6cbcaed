/- Merged (what the law reaches): RunI1. -/
import Derived.Test.YtcfkemchekmjbaaGreatDoorQd
import Derived.Deep.RegionHeld3
namespace Go.Proofs.YtcfkemchekmjbaaGreatDoor
open Go.RowKit
set_option maxHeartbeats 400000 in
theorem writes_c {x y z : Int} {w : World} : Calls Tryz.prog 94 #[.agg #[.int .i64 x, .int .i64 y, .int .i64 z]] w fun e w' => e = .returned (.bool (x == 2)) ∧ Below w.heap.size w w' := by
  go_enter Tryz.func94, Tryz.ntmps94
  go_wp2_with fail
  go_ret
  exact ⟨rfl, (Below.refl _ _).alloc (Nat.le_refl _) _⟩
/-- The machine at block gm: the plan, the history. -/
structure Mach (w : World) (lo gm : Nat) (A : Option Addr) (n c : Nat) (v : Value) (ts : List Tx) (es : List El) : Prop where
  box : Blk w gm 68 #[.slice A n c, v]
  own : OT w lo v n es
  says : SaysT es ts
  lt : gm < lo
theorem OT.notS {w : World} {lo n g : Nat} {v : Value} {es : List El} {t : TypeId} {cs : Array Value} (h : OT w lo v n es) (hb : Blk w g t cs) (h1 : t ≠ 66) (h2 : t ≠ 61) : ¬ OT.S v es g := fun hk => by
  rcases hk with hk | ⟨j, e, hj, hk⟩
  · rcases h.shape with ⟨rfl, _⟩ | ⟨g', c, rfl, _, _, _, _, cs', hb'⟩
    · simp [Value.ownBlock] at hk
    · have e1 : g' = g := by have h : some g' = some g := hk; injection h
      subst e1
      unfold Blk at hb hb'; rw [hb] at hb'; injection hb' with hb'; injection hb' with _ h3; exact h1 h3
  · exact (h.own j e hj).ne_blk hb h2 hk
theorem Mach.below {w w' : World} {lo gm n c : Nat} {A : Option Addr} {v : Value} {ts : List Tx} {es : List El} (h : Mach w lo gm A n c v ts es) (hb : Below w.heap.size w w') : Mach w' lo gm A n c v ts es :=
  ⟨h.box.belowAll hb, h.own.below hb, h.says, h.lt⟩
theorem O3.made {w : World} (k : Nat) (hk : k ≤ 1048576) : O3 61 (w.alloc (.cells ((List.replicate (k * 3) (Value.int .i64 0)).toArray) 61)) w.heap.size (.slice (some ⟨w.heap.size, 0, none⟩) 0 k) 0 [] :=
  ⟨⟨rfl, .inr ⟨w.heap.size, k, _, rfl, Nat.le_refl _, Blk.new w _ _, Nat.zero_le _, by simp [maxLen]; omega, by simp, by simp [flat3]⟩⟩, by omega⟩
theorem run_make_Opc (k : Nat) (hk : k ≤ 1048576) (w : World) :
    (Instr.makeSlice 64 (.int .i64 0) (.int .i64 (k : Int))).run Tryz.prog w = .ok (.slice (some ⟨w.heap.size, 0, none⟩) 0 k) (w.alloc (.cells ((List.replicate (k * 3) (Value.int .i64 0)).toArray) 61)) := by
  obtain ⟨i, hi, hz, hs, hb⟩ := info_parts infoOpz
  have := run_make_rowN 64 61 i (.agg #[.int .i64 0, .int .i64 0, .int .i64 0]) Tryz.underlying64 hi hz .i64 .i64 0 k (Nat.zero_le _) (by rw [hb]; omega) (by omega) w
  have e1 : madeCells (Value.agg #[.int .i64 0, .int .i64 0, .int .i64 0]).cells (k * i.size) = (List.replicate (k * 3) (Value.int .i64 0)).toArray := by
    rw [hs, ← Array.toArray_toList (xs := madeCells _ _)]
    rw [show (Value.agg #[.int .i64 0, .int .i64 0, .int .i64 0]).cells = #[Value.int .i64 0, Value.int .i64 0, Value.int .i64 0] from rfl, toList_madeCells3']
  rw [e1] at this
  exact this
theorem own_succ {W : World} {base : Nat} {e : TypeId} {size : Nat} {v : Value} {k : Nat} {xs : List Value} (h : W.ownsRow base e size v (k + 1) xs) : ∃ g cap, v = .slice (some ⟨g, 0, none⟩) (k + 1) cap := by
  rcases h.2 with ⟨_, h0⟩ | ⟨g, cap, _, rfl, _⟩
  · omega
  · exact ⟨g, cap, rfl⟩
/-- 'append(v, x)' on []Txn, inside a region that draws its order. -/
theorem step_appT {w : World} {o : Oper} {a : Act} {K : Act → World → Prop} {Q : Exit → Act → World → Prop} {ops : Array Oper} {E : Prop} (hgd : o.guard = none) (s x : Operand)
    (ho : o.op = .call { callee := .builtin .append, args := #[s, x], argTypes := #[27, 27] })
    {B : Nat} {v : Value} {n : Nat} {cs : List Value} (hs : a.eval s = v) (hown : w.ownsRow B 66 3 v n cs)
    {g c : Nat} {f : Int} {u : Value} {d : Bool} (hx : a.eval x = .slice (some ⟨g, 0, none⟩) 1 c) (KB : Blk w g 66 #[.int .i64 f, u, .bool d]) (hu : u.oneCell' = true) (hnm : n + 1 ≤ 1048576) (hbase : B ≤ w.heap.size)
    (h : ∀ v' w', w'.ownsRow B 66 3 v' (n + 1) (cs ++ [.int .i64 f, u, .bool d]) → w.grownBy w' v.ownBlock → (v'.ownBlock = v.ownBlock ∨ v'.ownBlock = some w.heap.size) → K (a.put o.dst v') w') :
    if Region.wanted o (yielded ops a.tmps) = true then Oper.wp Tryz.prog o a w K Q else E := by
  have hw : Region.wanted o (yielded ops a.tmps) = true := by simp [Region.wanted, hgd]
  rw [if_pos hw]
  obtain ⟨i, hi, hz, hsz, hby⟩ := info_parts infoTx
  obtain ⟨v', w', hrun, h2, h3, h4⟩ := app_rd (P := Tryz.prog) B 27 o.type 66 i (.agg #[.int .i64 0, .slice none 0 0, .bool false]) 3 40 Tryz.underlying27 hi hz hsz hby rfl (by omega) v n _ hown _ 1 c _ (Rd.three KB) (fun q hq => by
    simp at hq
    rcases hq with rfl | rfl | rfl
    · rfl
    · exact hu
    · rfl) (by simp only [maxLen]; omega) (by omega) hbase
  unfold Oper.wp execOp
  simp only [ho, resolve, invoke, builtin, Sem.run_bind, Sem.run_pure, Result.andThen_ok, List.map_toArray, List.map_cons, List.map_nil, hs, hx, hrun]
  exact h v' w' h2 h3 h4
set_option maxRecDepth 100000 in
set_option maxHeartbeats 8000000 in
theorem machineOf_c {A : Option Addr} {n c : Nat} {ms : Ds} {w : World} (hr : RDs w A n ms) (hn : n ≤ 1048575) (hsm : SmallD ms) :
    Calls Tryz.prog 33 #[.slice A n c] w fun e w' => ∃ v es, e = .returned (.pointer (some ⟨w.heap.size, 0, none⟩)) ∧ Mach w' (w.heap.size + 1) w.heap.size A n c v (emptyT ms) es ∧ Below w.heap.size w w' := by
  have hl := hide hr.1
  have B0 : Below w.heap.size w (w.alloc (.cells #[.slice A n c, .slice none 0 0] 68)) := (Below.refl _ _).alloc (Nat.le_refl _) _
  have K0 := Blk.new w 68 #[.slice A n c, .slice none 0 0]
  go_enter Tryz.func33, Tryz.ntmps33
  go_wp2_with fail
  go_loopw [11] (fun i wr => ∃ (k : Nat) (v : Value) (es : List El), k ≤ n ∧ i = .int .i64 k ∧ Blk wr w.heap.size 68 #[.slice A n c, v] ∧ OT wr (w.heap.size + 1) v k es ∧ SaysT es (emptyT (ms.take k)) ∧ Below w.heap.size w wr) (fun i _ => n - (intOf i).toNat)
  case atStart => exact ⟨0, _, [], Nat.zero_le _, rfl, K0, OT.none_, by simp [SaysT, emptyT], B0⟩
  case round =>
    clear K0 B0
    obtain ⟨k, v, es, hk, rfl, KB, D, hsay, bw⟩ := hrel
    have Hs := hide hsay; clear hsay
    by_cases hkn : k < n
    · obtain ⟨b, off, f, ys, B, kk, d, rfl, hbb, hx, q0, q1, hkd, hdm, hri⟩ := hr.at_ hkn
      have e0 := (bw.cell (p := ⟨b, off + k * 2, none⟩) hbb).trans q0
      have e1 := (bw.cell (p := ⟨b, off + k * 2 + 1, none⟩) hbb).trans q1
      have hsz := hsm _ (List.mem_of_getElem? hx)
      have hyl := hri.len
      have hk1 : kk ≤ 1048576 := by dsimp only at hsz; omega
      have hmk := run_make_Opc kk hk1
      have hsp := SaysT.push (v := .slice (some ⟨wr.heap.size + 1, 0, none⟩) 0 kk) Hs.out hx
      have Hsp := hide hsp
      clear hx q0 q1 hsz hyl hsp
      have k0 : (0 : Int) ≤ k := by omega
      have k2 : (k : Int) < n := by omega
      have kk1 : (kk : Int) ≤ 1048576 := by omega
      have hgm := KB.lt
      obtain ⟨W, hW⟩ : ∃ W : World, W = wr.alloc (.cells #[.int .i64 f, .slice B kk d] 77) := ⟨_, rfl⟩
      have KW : Blk W w.heap.size 68 #[.slice (some ⟨b, off, none⟩) n c, v] := by rw [hW]; exact KB.alloc _
      have KX : Blk W wr.heap.size 77 #[.int .i64 f, .slice B kk d] := by rw [hW]; exact Blk.new wr _ _
      have DW : OT W (w.heap.size + 1) v k es := by rw [hW]; exact D.alloc _
      have BW : Below w.heap.size w W := by rw [hW]; exact bw.alloc bw.size _
      have hWz : W.heap.size = wr.heap.size + 1 := by rw [hW]; simp
      have hxlt : wr.heap.size < W.heap.size := by omega
      have hmlt : w.heap.size < W.heap.size := by omega
      have hlo1 : w.heap.size + 1 ≤ W.heap.size := by omega
      have hvx : v.ownBlock ≠ some wr.heap.size := fun e => by have := D.range _ (.inl e); omega
      have hmx : w.heap.size ≠ wr.heap.size := by omega
      go_wp2_with fail
      rw [← hW]
      clear hW KB D
      obtain ⟨x0, x1, _, _⟩ := KX.two
      obtain ⟨m0, m1, mf0, mf1⟩ := KW.two
      have hc : ∀ W' : World, W'.heap[wr.heap.size]? = W.heap[wr.heap.size]? → W'.cell? ⟨wr.heap.size, 0, none⟩ = some (.int .i64 f) ∧ W'.cell? ⟨wr.heap.size, 1, none⟩ = some (.slice B kk d) := fun W' h1 => ⟨(World.cell?_of_block h1).trans x0, (World.cell?_of_block h1).trans x1⟩
      have HC := hide hc
      have OM : O3 61 (W.drew.alloc (.cells ((List.replicate (kk * 3) (Value.int .i64 0)).toArray) 61)) W.heap.size (.slice (some ⟨W.heap.size, 0, none⟩) 0 kk) 0 [] := O3.made kk hk1
      have KT := Blk.new (W.drew.alloc (.cells ((List.replicate (kk * 3) (Value.int .i64 0)).toArray) 61)) 66 #[.int .i64 f, .slice (some ⟨W.heap.size, 0, none⟩) 0 kk, .bool false]
      have hT1 : (W.drew.alloc (.cells ((List.replicate (kk * 3) (Value.int .i64 0)).toArray) 61)).heap.size = W.heap.size + 1 := by simp
      rw [hT1] at KT
      have D2 := ((DW.drew.alloc (.cells ((List.replicate (kk * 3) (Value.int .i64 0)).toArray) 61)).alloc (.cells #[.int .i64 f, .slice (some ⟨W.heap.size, 0, none⟩) 0 kk, .bool false] 66))
      have K2 := ((KW.drew.alloc (.cells ((List.replicate (kk * 3) (Value.int .i64 0)).toArray) 61)).alloc (.cells #[.int .i64 f, .slice (some ⟨W.heap.size, 0, none⟩) 0 kk, .bool false] 66))
      have OM2 := ((OM.alloc (.cells #[.int .i64 f, .slice (some ⟨W.heap.size, 0, none⟩) 0 kk, .bool false] 66)).mono hlo1)
      have fr : ∀ (j : Nat) (p : El), es[j]? = some p → Apart p.2.1.1 (.slice (some ⟨W.heap.size, 0, none⟩) 0 kk) := fun j p hj => own_apart (DW.own j p hj).1 OM.1
      have Fr := hide fr
      have B2 : Below w.heap.size w ((W.drew.alloc (.cells ((List.replicate (kk * 3) (Value.int .i64 0)).toArray) 61)).alloc (.cells #[.int .i64 f, .slice (some ⟨W.heap.size, 0, none⟩) 0 kk, .bool false] 66)) := (BW.drew.alloc (by have := BW.size; simpa using this) _).alloc (by have := BW.size; simp; omega) _
      have hbase : w.heap.size + 1 ≤ ((W.drew.alloc (.cells ((List.replicate (kk * 3) (Value.int .i64 0)).toArray) 61)).alloc (.cells #[.int .i64 f, .slice (some ⟨W.heap.size, 0, none⟩) 0 kk, .bool false] 66)).heap.size := by simp; omega
      have hk11 : k + 1 ≤ 1048576 := by omega
      have HT1 := hide hT1; have HWz := hide hWz
      clear hc x0 x1 fr hT1 hWz OM
      have HD2 := hide D2; have HOM2 := hide OM2
      refine wp_region_held_drew (S := (fun W' => W'.cell? ⟨wr.heap.size, 0, none⟩ = some (.int .i64 f) ∧ W'.cell? ⟨wr.heap.size, 1, none⟩ = some (.slice B kk d))) (by kernel_rfl) ?_ (fun hHeld => ?_)
      · exact HC.out _ rfl
      refine wpAnyH_take (i := 0) (v := ?vvm1) (by rw [List.getElem?_toArray]; exact rfl) (by kernel_rfl) (by kernel_rfl) (by kernel_rfl) (by intro _ _ _ h; exact h) (Or.inl ⟨by rfl, ?hym1⟩) hHeld ?restm1
      case' hym1 => (intro w hSw; (try dsimp only at hSw); go_simp; try (with_reducible rfl))
      (try simp only [Act.put, List.setIfInBounds_toArray, List.set_cons_zero, List.set_cons_succ])
      refine wpAnyH_take (i := 1) (v := ?vvm2) (by rw [List.getElem?_toArray]; exact rfl) (by kernel_rfl) (by kernel_rfl) (by kernel_rfl) (by intro _ _ _ h; exact h) (Or.inl ⟨by rfl, ?hym2⟩) hHeld ?restm2
      case' hym2 => (intro w hSw; (try dsimp only at hSw); go_simp; try (with_reducible rfl))
      (try simp only [Act.put, List.setIfInBounds_toArray, List.set_cons_zero, List.set_cons_succ])
      refine wpAnyH_take (i := 2) (v := ?vvm3) (by rw [List.getElem?_toArray]; exact rfl) (by kernel_rfl) (by kernel_rfl) (by kernel_rfl) (by intro _ _ _ h; exact h) (Or.inl ⟨by rfl, ?hym3⟩) hHeld ?restm3
      case' hym3 => (intro w hSw; (try dsimp only at hSw); go_simp; try (with_reducible rfl))
      (try simp only [Act.put, List.setIfInBounds_toArray, List.set_cons_zero, List.set_cons_succ])
      refine wpAnyH_take (i := 3) (v := ?vvm4) (by rw [List.getElem?_toArray]; exact rfl) (by kernel_rfl) (by kernel_rfl) (by kernel_rfl) (by intro _ _ _ h; exact h) (Or.inl ⟨by rfl, ?hym4⟩) hHeld ?restm4
      case' hym4 => (intro w hSw; (try dsimp only at hSw); go_simp; try (with_reducible rfl))
      (try simp only [Act.put, List.setIfInBounds_toArray, List.set_cons_zero, List.set_cons_succ])
      refine wpAnyH_take (i := 5) (v := ?vvm5) (by rw [List.getElem?_toArray]; exact rfl) (by kernel_rfl) (by kernel_rfl) (by kernel_rfl) (by intro _ _ _ h; exact h) (Or.inl ⟨by rfl, ?hym5⟩) hHeld ?restm5
      case' hym5 => (intro w hSw; (try dsimp only at hSw); go_simp; try (with_reducible rfl))
      (try simp only [Act.put, List.setIfInBounds_toArray, List.set_cons_zero, List.set_cons_succ])
      refine wpAnyH_take (i := 6) (v := ?vvm6) (by rw [List.getElem?_toArray]; exact rfl) (by kernel_rfl) (by kernel_rfl) (by kernel_rfl) (by intro _ _ _ h; exact h) (Or.inl ⟨by rfl, ?hym6⟩) hHeld ?restm6
      case' hym6 => (intro w hSw; (try dsimp only at hSw); go_simp; try (with_reducible rfl))
      (try simp only [Act.put, List.setIfInBounds_toArray, List.set_cons_zero, List.set_cons_succ])
      refine wpAnyH_take (i := 7) (v := ?vvm7) (by rw [List.getElem?_toArray]; exact rfl) (by kernel_rfl) (by kernel_rfl) (by kernel_rfl) (by intro _ _ _ h; exact h) (Or.inl ⟨by rfl, ?hym7⟩) hHeld ?restm7
      case' hym7 => (intro w hSw; (try dsimp only at hSw); go_simp; try (with_reducible rfl))
      (try simp only [Act.put, List.setIfInBounds_toArray, List.set_cons_zero, List.set_cons_succ])
      refine wpAnyH_take (i := 8) (v := ?vvm8) (by rw [List.getElem?_toArray]; exact rfl) (by kernel_rfl) (by kernel_rfl) (by kernel_rfl) (by intro _ _ _ h; exact h) (Or.inl ⟨by rfl, ?hym8⟩) hHeld ?restm8
      case' hym8 => (intro w hSw; (try dsimp only at hSw); go_simp; try (with_reducible rfl))
      (try simp only [Act.put, List.setIfInBounds_toArray, List.set_cons_zero, List.set_cons_succ])
      refine wpAnyH_take (i := 9) (v := ?vvm9) (by rw [List.getElem?_toArray]; exact rfl) (by kernel_rfl) (by kernel_rfl) (by kernel_rfl) (by intro _ _ _ h; exact h) (Or.inl ⟨by rfl, ?hym9⟩) hHeld ?restm9
      case' hym9 => (intro w hSw; (try dsimp only at hSw); go_simp; try (with_reducible rfl))
      (try simp only [Act.put, List.setIfInBounds_toArray, List.set_cons_zero, List.set_cons_succ])
      refine wpAnyH_ready (rs := [4, 10]) (by kernel_rfl) (by simp) ?_
      refine AllReadyH.cons (by rw [List.getElem?_toArray]; exact rfl) (fun K hK => ?_) ?_
      · skip
        go_simp
        refine hK.out _ _ ?_ (fun hHeld => ?_)
        · first | exact HC.out _ rfl | exact HC.out _ (Below.heap_alloc W.drew (.cells ((List.replicate (kk * 3) (Value.int .i64 0)).toArray) 61) _ hxlt) | exact HC.out _ ((Below.heap_alloc (W.drew.alloc (.cells ((List.replicate (kk * 3) (Value.int .i64 0)).toArray) 61)) (.cells #[.int .i64 f, .slice (some ⟨W.heap.size, 0, none⟩) 0 kk, .bool false] 66) _ (by rw [HT1.out]; omega)).trans (Below.heap_alloc W.drew (.cells ((List.replicate (kk * 3) (Value.int .i64 0)).toArray) 61) _ hxlt))
        clear hK K
        (try simp only [Act.put, List.setIfInBounds_toArray, List.set_cons_zero, List.set_cons_succ])
        refine wpAnyH_ready (rs := [10]) (by kernel_rfl) (by simp) ?_
        refine AllReadyH.cons (by rw [List.getElem?_toArray]; exact rfl) (fun K hK => ?_) AllReadyH.nil
        go_simp
        refine hK.out _ _ ?_ (fun hHeld => ?_)
        · exact HC.out _ (Below.heap_alloc W.drew (.cells ((List.replicate (kk * 3) (Value.int .i64 0)).toArray) 61) _ hxlt)
        clear hK K
        (try simp only [Act.put, List.setIfInBounds_toArray, List.set_cons_zero, List.set_cons_succ])
        refine wpAnyH_take (i := 11) (v := ?vvm10) (by rw [List.getElem?_toArray]; exact rfl) (by kernel_rfl) (by kernel_rfl) (by kernel_rfl) (by intro _ _ _ h; exact h) (Or.inl ⟨by rfl, ?hym10⟩) hHeld ?restm10
        case' hym10 => (intro w hSw; (try dsimp only at hSw); go_simp; try (with_reducible rfl))
        (try simp only [Act.put, List.setIfInBounds_toArray, List.set_cons_zero, List.set_cons_succ])
        refine wpAnyH_ready (rs := [12]) (by kernel_rfl) (by simp) ?_
        refine AllReadyH.cons (by rw [List.getElem?_toArray]; exact rfl) (fun K hK => ?_) AllReadyH.nil
        go_simp
        refine hK.out _ _ ?_ (fun hHeld => ?_)
        · exact HC.out _ ((Below.heap_alloc (W.drew.alloc (.cells ((List.replicate (kk * 3) (Value.int .i64 0)).toArray) 61)) (.cells #[.int .i64 f, .slice (some ⟨W.heap.size, 0, none⟩) 0 kk, .bool false] 66) _ (by rw [HT1.out]; omega)).trans (Below.heap_alloc W.drew (.cells ((List.replicate (kk * 3) (Value.int .i64 0)).toArray) 61) _ hxlt))
        clear hK K
        (try simp only [Act.put, List.setIfInBounds_toArray, List.set_cons_zero, List.set_cons_succ])
        refine wpAnyH_ready (rs := [13]) (by kernel_rfl) (by simp) ?_
        refine AllReadyH.cons (by rw [List.getElem?_toArray]; exact rfl) (fun K hK => ?_) AllReadyH.nil
        refine step_appT (by rfl) (.tmp 19) (.tmp 27) (by rfl) (by rfl) D2.row (by rfl) KT rfl hk11 hbase ?_
        intro v1 w4 h4 hg4 hat
        obtain ⟨g1, c1, rfl⟩ := own_succ h4
        have K4 := K2.grown hg4 (fun e => by have := D2.range _ (.inl e.symm); omega)
        obtain ⟨z0, z1, z2, z3⟩ := K4.two
        refine hK.out _ _ ?_ (fun hHeld => ?_)
        · exact HC.out _ ((hg4.block _ (by simp; omega) (fun e => hvx e.symm)).trans ((Below.heap_alloc (W.drew.alloc (.cells ((List.replicate (kk * 3) (Value.int .i64 0)).toArray) 61)) (.cells #[.int .i64 f, .slice (some ⟨W.heap.size, 0, none⟩) 0 kk, .bool false] 66) _ (by rw [HT1.out]; omega)).trans (Below.heap_alloc W.drew (.cells ((List.replicate (kk * 3) (Value.int .i64 0)).toArray) 61) _ hxlt)))
        clear hK K
        (try simp only [Act.put, List.setIfInBounds_toArray, List.set_cons_zero, List.set_cons_succ])
        refine wpAnyH_take (i := 14) (v := ?vvm11) (by rw [List.getElem?_toArray]; exact rfl) (by kernel_rfl) (by kernel_rfl) (by kernel_rfl) (by intro _ _ _ h; exact h) (Or.inl ⟨by rfl, ?hym11⟩) hHeld ?restm11
        case' hym11 => (intro w hSw; (try dsimp only at hSw); go_simp; try (with_reducible rfl))
        (try simp only [Act.put, List.setIfInBounds_toArray, List.set_cons_zero, List.set_cons_succ])
        refine wpAnyH_take (i := 15) (v := ?vvm12) (by rw [List.getElem?_toArray]; exact rfl) (by kernel_rfl) (by kernel_rfl) (by kernel_rfl) (by intro _ _ _ h; exact h) (Or.inl ⟨by rfl, ?hym12⟩) hHeld ?restm12
        case' hym12 => (intro w hSw; (try dsimp only at hSw); go_simp; try (with_reducible rfl))
        (try simp only [Act.put, List.setIfInBounds_toArray, List.set_cons_zero, List.set_cons_succ])
        refine wpAnyH_ready (rs := [16]) (by kernel_rfl) (by simp) ?_
        refine AllReadyH.cons (by rw [List.getElem?_toArray]; exact rfl) (fun K hK => ?_) AllReadyH.nil
        go_simp
        refine hK.out _ _ ?_ (fun hHeld => ?_)
        · exact HC.out _ ((Below.heap_setCell _ ⟨w.heap.size, 1, none⟩ _ _ hmx.symm).trans ((hg4.block _ (by simp; omega) (fun e => hvx e.symm)).trans ((Below.heap_alloc (W.drew.alloc (.cells ((List.replicate (kk * 3) (Value.int .i64 0)).toArray) 61)) (.cells #[.int .i64 f, .slice (some ⟨W.heap.size, 0, none⟩) 0 kk, .bool false] 66) _ (by rw [HT1.out]; omega)).trans (Below.heap_alloc W.drew (.cells ((List.replicate (kk * 3) (Value.int .i64 0)).toArray) 61) _ hxlt))))
        clear hK K
        (try simp only [Act.put, List.setIfInBounds_toArray, List.set_cons_zero, List.set_cons_succ])
        refine wpAnyH_done (by kernel_rfl) ?_ _
        have D4 := HD2.out.push (e := (f, (.slice (some ⟨W.heap.size, 0, none⟩) 0 kk, 0, []), false)) (by rw [cellsT_append]; exact h4) hg4 (OF.grown HOM2.out.of hg4 (by
          right; intro e2
          rcases HD2.out.row.2 with ⟨h1, _⟩ | ⟨g, cap, cur, h1, _, hb, _⟩
          · rw [h1] at e2; cases e2
          · rw [h1] at e2; have e3 : W.heap.size = g := by injection e2
            subst e3; exact OF.ne_blk HOM2.out.of hb (by decide) rfl)) Fr.out hk11
        have K5 := K4.set_ 1 (.slice (some ⟨g1, 0, none⟩) (k + 1) c1)
        have D5 := D4.chg (Chg.setCell (S := fun q => q = w.heap.size) (p := ⟨w.heap.size, 1, none⟩) rfl (.slice (some ⟨g1, 0, none⟩) (k + 1) c1)) (fun q hq e => by have := D4.range q hq; omega)
        have B4 := (B2.grown hg4 B2.size (fun q hq => by have := HD2.out.range q (.inl hq); omega)).setCell (p := ⟨w.heap.size, 1, none⟩) (Nat.le_refl _) (.slice (some ⟨g1, 0, none⟩) (k + 1) c1)
        have Hsp2 := Hsp.out
        rw [← HWz.out] at Hsp2
        have HSP := hide Hsp2
        have HD5 := hide D5; have HK5 := hide K5
        clear D4 D5 D2 h4 z0 z1 z2 z3 m0 m1 mf0 mf1 Hsp2 K4 K5 K2 KT DW KW KX OM2
        go_wp2_with fail
        go_roundw
        case rel => exact ⟨k + 1, (.slice (some ⟨g1, 0, none⟩) (k + 1) c1), _, by omega, by go_num, HK5.out, HD5.out, HSP.out, B4⟩
        case measure => simp [intOf]; omega
      refine AllReadyH.cons (by rw [List.getElem?_toArray]; exact rfl) (fun K hK => ?_) AllReadyH.nil
      go_simp
      refine hK.out _ _ ?_ (fun hHeld => ?_)
      · exact HC.out _ (Below.heap_alloc W.drew (.cells ((List.replicate (kk * 3) (Value.int .i64 0)).toArray) 61) _ hxlt)
      clear hK K
      (try simp only [Act.put, List.setIfInBounds_toArray, List.set_cons_zero, List.set_cons_succ])
      refine wpAnyH_take (i := 11) (v := ?vvm13) (by rw [List.getElem?_toArray]; exact rfl) (by kernel_rfl) (by kernel_rfl) (by kernel_rfl) (by intro _ _ _ h; exact h) (Or.inl ⟨by rfl, ?hym13⟩) hHeld ?restm13
      case' hym13 => (intro w hSw; (try dsimp only at hSw); go_simp; try (with_reducible rfl))
      (try simp only [Act.put, List.setIfInBounds_toArray, List.set_cons_zero, List.set_cons_succ])
      refine wpAnyH_ready (rs := [4, 12]) (by kernel_rfl) (by simp) ?_
      refine AllReadyH.cons (by rw [List.getElem?_toArray]; exact rfl) (fun K hK => ?_) ?_
      · skip
        go_simp
        refine hK.out _ _ ?_ (fun hHeld => ?_)
        · first | exact HC.out _ rfl | exact HC.out _ (Below.heap_alloc W.drew (.cells ((List.replicate (kk * 3) (Value.int .i64 0)).toArray) 61) _ hxlt) | exact HC.out _ ((Below.heap_alloc (W.drew.alloc (.cells ((List.replicate (kk * 3) (Value.int .i64 0)).toArray) 61)) (.cells #[.int .i64 f, .slice (some ⟨W.heap.size, 0, none⟩) 0 kk, .bool false] 66) _ (by rw [HT1.out]; omega)).trans (Below.heap_alloc W.drew (.cells ((List.replicate (kk * 3) (Value.int .i64 0)).toArray) 61) _ hxlt))
        clear hK K
        (try simp only [Act.put, List.setIfInBounds_toArray, List.set_cons_zero, List.set_cons_succ])
        refine wpAnyH_ready (rs := [12]) (by kernel_rfl) (by simp) ?_
        refine AllReadyH.cons (by rw [List.getElem?_toArray]; exact rfl) (fun K hK => ?_) AllReadyH.nil
        go_simp
        refine hK.out _ _ ?_ (fun hHeld => ?_)
        · exact HC.out _ ((Below.heap_alloc (W.drew.alloc (.cells ((List.replicate (kk * 3) (Value.int .i64 0)).toArray) 61)) (.cells #[.int .i64 f, .slice (some ⟨W.heap.size, 0, none⟩) 0 kk, .bool false] 66) _ (by rw [HT1.out]; omega)).trans (Below.heap_alloc W.drew (.cells ((List.replicate (kk * 3) (Value.int .i64 0)).toArray) 61) _ hxlt))
        clear hK K
        (try simp only [Act.put, List.setIfInBounds_toArray, List.set_cons_zero, List.set_cons_succ])
        refine wpAnyH_ready (rs := [13]) (by kernel_rfl) (by simp) ?_
        refine AllReadyH.cons (by rw [List.getElem?_toArray]; exact rfl) (fun K hK => ?_) AllReadyH.nil
        refine step_appT (by rfl) (.tmp 19) (.tmp 27) (by rfl) (by rfl) D2.row (by rfl) KT rfl hk11 hbase ?_
        intro v1 w4 h4 hg4 hat
        obtain ⟨g1, c1, rfl⟩ := own_succ h4
        have K4 := K2.grown hg4 (fun e => by have := D2.range _ (.inl e.symm); omega)
        obtain ⟨z0, z1, z2, z3⟩ := K4.two
        refine hK.out _ _ ?_ (fun hHeld => ?_)
        · exact HC.out _ ((hg4.block _ (by simp; omega) (fun e => hvx e.symm)).trans ((Below.heap_alloc (W.drew.alloc (.cells ((List.replicate (kk * 3) (Value.int .i64 0)).toArray) 61)) (.cells #[.int .i64 f, .slice (some ⟨W.heap.size, 0, none⟩) 0 kk, .bool false] 66) _ (by rw [HT1.out]; omega)).trans (Below.heap_alloc W.drew (.cells ((List.replicate (kk * 3) (Value.int .i64 0)).toArray) 61) _ hxlt)))
        clear hK K
        (try simp only [Act.put, List.setIfInBounds_toArray, List.set_cons_zero, List.set_cons_succ])
        refine wpAnyH_take (i := 14) (v := ?vvm14) (by rw [List.getElem?_toArray]; exact rfl) (by kernel_rfl) (by kernel_rfl) (by kernel_rfl) (by intro _ _ _ h; exact h) (Or.inl ⟨by rfl, ?hym14⟩) hHeld ?restm14
        case' hym14 => (intro w hSw; (try dsimp only at hSw); go_simp; try (with_reducible rfl))
        (try simp only [Act.put, List.setIfInBounds_toArray, List.set_cons_zero, List.set_cons_succ])
        refine wpAnyH_take (i := 15) (v := ?vvm15) (by rw [List.getElem?_toArray]; exact rfl) (by kernel_rfl) (by kernel_rfl) (by kernel_rfl) (by intro _ _ _ h; exact h) (Or.inl ⟨by rfl, ?hym15⟩) hHeld ?restm15
        case' hym15 => (intro w hSw; (try dsimp only at hSw); go_simp; try (with_reducible rfl))
        (try simp only [Act.put, List.setIfInBounds_toArray, List.set_cons_zero, List.set_cons_succ])
        refine wpAnyH_ready (rs := [16]) (by kernel_rfl) (by simp) ?_
        refine AllReadyH.cons (by rw [List.getElem?_toArray]; exact rfl) (fun K hK => ?_) AllReadyH.nil
        go_simp
        refine hK.out _ _ ?_ (fun hHeld => ?_)
        · exact HC.out _ ((Below.heap_setCell _ ⟨w.heap.size, 1, none⟩ _ _ hmx.symm).trans ((hg4.block _ (by simp; omega) (fun e => hvx e.symm)).trans ((Below.heap_alloc (W.drew.alloc (.cells ((List.replicate (kk * 3) (Value.int .i64 0)).toArray) 61)) (.cells #[.int .i64 f, .slice (some ⟨W.heap.size, 0, none⟩) 0 kk, .bool false] 66) _ (by rw [HT1.out]; omega)).trans (Below.heap_alloc W.drew (.cells ((List.replicate (kk * 3) (Value.int .i64 0)).toArray) 61) _ hxlt))))
        clear hK K
        (try simp only [Act.put, List.setIfInBounds_toArray, List.set_cons_zero, List.set_cons_succ])
        refine wpAnyH_done (by kernel_rfl) ?_ _
        have D4 := HD2.out.push (e := (f, (.slice (some ⟨W.heap.size, 0, none⟩) 0 kk, 0, []), false)) (by rw [cellsT_append]; exact h4) hg4 (OF.grown HOM2.out.of hg4 (by
          right; intro e2
          rcases HD2.out.row.2 with ⟨h1, _⟩ | ⟨g, cap, cur, h1, _, hb, _⟩
          · rw [h1] at e2; cases e2
          · rw [h1] at e2; have e3 : W.heap.size = g := by injection e2
            subst e3; exact OF.ne_blk HOM2.out.of hb (by decide) rfl)) Fr.out hk11
        have K5 := K4.set_ 1 (.slice (some ⟨g1, 0, none⟩) (k + 1) c1)
        have D5 := D4.chg (Chg.setCell (S := fun q => q = w.heap.size) (p := ⟨w.heap.size, 1, none⟩) rfl (.slice (some ⟨g1, 0, none⟩) (k + 1) c1)) (fun q hq e => by have := D4.range q hq; omega)
        have B4 := (B2.grown hg4 B2.size (fun q hq => by have := HD2.out.range q (.inl hq); omega)).setCell (p := ⟨w.heap.size, 1, none⟩) (Nat.le_refl _) (.slice (some ⟨g1, 0, none⟩) (k + 1) c1)
        have Hsp2 := Hsp.out
        rw [← HWz.out] at Hsp2
        have HSP := hide Hsp2
        have HD5 := hide D5; have HK5 := hide K5
        clear D4 D5 D2 h4 z0 z1 z2 z3 m0 m1 mf0 mf1 Hsp2 K4 K5 K2 KT DW KW KX OM2
        go_wp2_with fail
        go_roundw
        case rel => exact ⟨k + 1, (.slice (some ⟨g1, 0, none⟩) (k + 1) c1), _, by omega, by go_num, HK5.out, HD5.out, HSP.out, B4⟩
        case measure => simp [intOf]; omega
      refine AllReadyH.cons (by rw [List.getElem?_toArray]; exact rfl) (fun K hK => ?_) AllReadyH.nil
      go_simp
      refine hK.out _ _ ?_ (fun hHeld => ?_)
      · exact HC.out _ ((Below.heap_alloc (W.drew.alloc (.cells ((List.replicate (kk * 3) (Value.int .i64 0)).toArray) 61)) (.cells #[.int .i64 f, .slice (some ⟨W.heap.size, 0, none⟩) 0 kk, .bool false] 66) _ (by rw [HT1.out]; omega)).trans (Below.heap_alloc W.drew (.cells ((List.replicate (kk * 3) (Value.int .i64 0)).toArray) 61) _ hxlt))
      clear hK K
      (try simp only [Act.put, List.setIfInBounds_toArray, List.set_cons_zero, List.set_cons_succ])
      refine wpAnyH_ready (rs := [4]) (by kernel_rfl) (by simp) ?_
      refine AllReadyH.cons (by rw [List.getElem?_toArray]; exact rfl) (fun K hK => ?_) AllReadyH.nil
      go_simp
      refine hK.out _ _ ?_ (fun hHeld => ?_)
      · first | exact HC.out _ rfl | exact HC.out _ (Below.heap_alloc W.drew (.cells ((List.replicate (kk * 3) (Value.int .i64 0)).toArray) 61) _ hxlt) | exact HC.out _ ((Below.heap_alloc (W.drew.alloc (.cells ((List.replicate (kk * 3) (Value.int .i64 0)).toArray) 61)) (.cells #[.int .i64 f, .slice (some ⟨W.heap.size, 0, none⟩) 0 kk, .bool false] 66) _ (by rw [HT1.out]; omega)).trans (Below.heap_alloc W.drew (.cells ((List.replicate (kk * 3) (Value.int .i64 0)).toArray) 61) _ hxlt))
      clear hK K
      (try simp only [Act.put, List.setIfInBounds_toArray, List.set_cons_zero, List.set_cons_succ])
      refine wpAnyH_ready (rs := [13]) (by kernel_rfl) (by simp) ?_
      refine AllReadyH.cons (by rw [List.getElem?_toArray]; exact rfl) (fun K hK => ?_) AllReadyH.nil
      refine step_appT (by rfl) (.tmp 19) (.tmp 27) (by rfl) (by rfl) D2.row (by rfl) KT rfl hk11 hbase ?_
      intro v1 w4 h4 hg4 hat
      obtain ⟨g1, c1, rfl⟩ := own_succ h4
      have K4 := K2.grown hg4 (fun e => by have := D2.range _ (.inl e.symm); omega)
      obtain ⟨z0, z1, z2, z3⟩ := K4.two
      refine hK.out _ _ ?_ (fun hHeld => ?_)
      · exact HC.out _ ((hg4.block _ (by simp; omega) (fun e => hvx e.symm)).trans ((Below.heap_alloc (W.drew.alloc (.cells ((List.replicate (kk * 3) (Value.int .i64 0)).toArray) 61)) (.cells #[.int .i64 f, .slice (some ⟨W.heap.size, 0, none⟩) 0 kk, .bool false] 66) _ (by rw [HT1.out]; omega)).trans (Below.heap_alloc W.drew (.cells ((List.replicate (kk * 3) (Value.int .i64 0)).toArray) 61) _ hxlt)))
      clear hK K
      (try simp only [Act.put, List.setIfInBounds_toArray, List.set_cons_zero, List.set_cons_succ])
      refine wpAnyH_take (i := 14) (v := ?vvm16) (by rw [List.getElem?_toArray]; exact rfl) (by kernel_rfl) (by kernel_rfl) (by kernel_rfl) (by intro _ _ _ h; exact h) (Or.inl ⟨by rfl, ?hym16⟩) hHeld ?restm16
      case' hym16 => (intro w hSw; (try dsimp only at hSw); go_simp; try (with_reducible rfl))
      (try simp only [Act.put, List.setIfInBounds_toArray, List.set_cons_zero, List.set_cons_succ])
      refine wpAnyH_take (i := 15) (v := ?vvm17) (by rw [List.getElem?_toArray]; exact rfl) (by kernel_rfl) (by kernel_rfl) (by kernel_rfl) (by intro _ _ _ h; exact h) (Or.inl ⟨by rfl, ?hym17⟩) hHeld ?restm17
      case' hym17 => (intro w hSw; (try dsimp only at hSw); go_simp; try (with_reducible rfl))
      (try simp only [Act.put, List.setIfInBounds_toArray, List.set_cons_zero, List.set_cons_succ])
      refine wpAnyH_ready (rs := [16]) (by kernel_rfl) (by simp) ?_
      refine AllReadyH.cons (by rw [List.getElem?_toArray]; exact rfl) (fun K hK => ?_) AllReadyH.nil
      go_simp
      refine hK.out _ _ ?_ (fun hHeld => ?_)
      · exact HC.out _ ((Below.heap_setCell _ ⟨w.heap.size, 1, none⟩ _ _ hmx.symm).trans ((hg4.block _ (by simp; omega) (fun e => hvx e.symm)).trans ((Below.heap_alloc (W.drew.alloc (.cells ((List.replicate (kk * 3) (Value.int .i64 0)).toArray) 61)) (.cells #[.int .i64 f, .slice (some ⟨W.heap.size, 0, none⟩) 0 kk, .bool false] 66) _ (by rw [HT1.out]; omega)).trans (Below.heap_alloc W.drew (.cells ((List.replicate (kk * 3) (Value.int .i64 0)).toArray) 61) _ hxlt))))
      clear hK K
      (try simp only [Act.put, List.setIfInBounds_toArray, List.set_cons_zero, List.set_cons_succ])
      refine wpAnyH_done (by kernel_rfl) ?_ _
      have D4 := HD2.out.push (e := (f, (.slice (some ⟨W.heap.size, 0, none⟩) 0 kk, 0, []), false)) (by rw [cellsT_append]; exact h4) hg4 (OF.grown HOM2.out.of hg4 (by
        right; intro e2
        rcases HD2.out.row.2 with ⟨h1, _⟩ | ⟨g, cap, cur, h1, _, hb, _⟩
        · rw [h1] at e2; cases e2
        · rw [h1] at e2; have e3 : W.heap.size = g := by injection e2
          subst e3; exact OF.ne_blk HOM2.out.of hb (by decide) rfl)) Fr.out hk11
      have K5 := K4.set_ 1 (.slice (some ⟨g1, 0, none⟩) (k + 1) c1)
      have D5 := D4.chg (Chg.setCell (S := fun q => q = w.heap.size) (p := ⟨w.heap.size, 1, none⟩) rfl (.slice (some ⟨g1, 0, none⟩) (k + 1) c1)) (fun q hq e => by have := D4.range q hq; omega)
      have B4 := (B2.grown hg4 B2.size (fun q hq => by have := HD2.out.range q (.inl hq); omega)).setCell (p := ⟨w.heap.size, 1, none⟩) (Nat.le_refl _) (.slice (some ⟨g1, 0, none⟩) (k + 1) c1)
      have Hsp2 := Hsp.out
      rw [← HWz.out] at Hsp2
      have HSP := hide Hsp2
      have HD5 := hide D5; have HK5 := hide K5
      clear D4 D5 D2 h4 z0 z1 z2 z3 m0 m1 mf0 mf1 Hsp2 K4 K5 K2 KT DW KW KX OM2
      go_wp2_with fail
      go_roundw
      case rel => exact ⟨k + 1, (.slice (some ⟨g1, 0, none⟩) (k + 1) c1), _, by omega, by go_num, HK5.out, HD5.out, HSP.out, B4⟩
      case measure => simp [intOf]; omega
    · obtain rfl : k = n := by omega
      have hfin : ms.take k = ms := List.take_of_length_le (by rw [hl.out]; omega)
      have hs2 := Hs.out
      rw [hfin] at hs2
      have HS2 := hide hs2
      clear hs2 hfin
      go_wp2_with fail
      go_ret
      exact ⟨v, es, rfl, ⟨KB, D, HS2.out, by omega⟩, bw⟩
end Go.Proofs.YtcfkemchekmjbaaGreatDoor
