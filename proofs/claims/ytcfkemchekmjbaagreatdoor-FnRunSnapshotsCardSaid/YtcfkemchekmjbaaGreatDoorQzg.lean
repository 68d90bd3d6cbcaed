/- Merged (what the law reaches): Srg, InsP, SerD, SerK, Ins. -/
import Derived.Test.YtcfkemchekmjbaaGreatDoorQzf
import Derived.Shelf.Abstract
import Derived.BigQuiet
import Derived.Deep.RegionHeld3
import Derived.Deep.DeepCutAuto
import Derived.BigRegion
namespace Go.Proofs.YtcfkemchekmjbaaGreatDoor
open Go.RowKit
theorem runS_part {ts : List Tx} {l : List Int} (h : (runS ts ss0 l).isSome = true) {j : Nat} {x : Int} (hx : l[j]? = some x) {S : SS} (hS : runS ts ss0 (l.take j) = some S) :
    0 ≤ x ∧ x < ts.length ∧ ∃ S', nxt ts S x.toNat = some S' ∧ runS ts ss0 (l.take (j + 1)) = some S' := by
  have hj := (List.getElem?_eq_some_iff.1 hx).1
  have e1 : l = l.take j ++ x :: l.drop (j + 1) := by
    have h := (List.take_append_drop j l).symm
    rw [List.drop_eq_getElem_cons hj, (List.getElem?_eq_some_iff.1 hx).2] at h
    exact h
  rw [e1, runS_append, hS] at h
  have h' : (if (0 : Int) ≤ x ∧ x < ts.length then (nxt ts S x.toNat).bind fun S' => runS ts S' (l.drop (j + 1)) else none).isSome = true := h
  split at h'
  · rename_i hr
    cases hn : nxt ts S x.toNat with
    | none => rw [hn] at h'; cases h'
    | some S' =>
      refine ⟨hr.1, hr.2, S', rfl, ?_⟩
      rw [List.take_add_one, hx, runS_append, hS]
      show (if (0 : Int) ≤ x ∧ x < ts.length then (nxt ts S x.toNat).bind fun S' => runS ts S' [] else none) = some S'
      rw [if_pos hr, hn]; rfl
  · cases h'
set_option maxRecDepth 100000 in
set_option maxHeartbeats 4000000 in
theorem SnapshotRight_c {A : Option Addr} {n c k : Nat} {u : Value} {ts : List Tx} {l : List Int} {w : World} (hr : RTs w A n ts) (hs : SI w u k l) (hR : rightS ts l = true) :
    Calls Tryz.prog 59 #[.slice A n c, u] w fun e w' => e = .returned (.bool true) ∧ Below w.heap.size w w' := by
  have hR' := hR
  unfold rightS at hR'
  simp only [Bool.and_eq_true, decide_eq_true_eq] at hR'
  obtain ⟨hh, h4, hlen, hrun⟩ := hR'
  obtain ⟨h6, hv, hnd⟩ := histB_parts hh
  have hl := hide hr.1
  have HH := hide hh
  have hn6 : n ≤ 6 := by rw [← hl.out]; exact h6
  have hsm : SmallT ts := fun t ht => by have h : t.2.1.length ≤ 6 := txnB_lenH (hv t ht); omega
  have hd0 : decide (badN ts 4 = 0) = true := decide_eq_true h4
  obtain ⟨Au, cu, rfl, hkc, hk1, hri⟩ := hs
  have hlk := hide hri.len
  have hdl : (doneL ts).length ≤ 6 := by unfold doneL; exact Nat.le_trans (doneTo_len ts ts.length) h6
  have HRUN := hide hrun; have HV := hide hv; have HL := hide hlen; have H4 := hide h4
  clear hh hR hnd h4 hrun hv hlen h6
  go_enter Tryz.func59, Tryz.ntmps59
  go_wp2_with fail
  refine (impl_HistoryValid_c hr (by omega) hsm).mono ?_
  rintro e w2 ⟨rfl, b2⟩
  rw [HH.out]
  have hr2 := hr.below b2
  have B2 := hide b2
  clear b2
  go_wp2_with fail
  refine (ownFine_c hr2 HH.out).mono ?_
  rintro e w3 ⟨rfl, b3⟩
  rw [hd0]
  have B3 := hide (below_step B2.out b3)
  have hr3 := hr.below B3.out
  clear b3 hr2 B2
  go_wp2_with fail
  refine (impl_done_c hr3 (by omega)).mono ?_
  rintro e w4 ⟨dv, dk, rfl, od, b4⟩
  have B4 := hide (below_step B3.out b4)
  obtain ⟨Ad, cd, rfl⟩ := od.shape
  have hdk : dk = (doneL ts).length := od.len.symm
  have hk2 : k = 2 * dk := by rw [hdk, ← HL.out]; exact hlk.out.symm
  have hw2 : IntKind.i64.wrap (2 * (dk : Int)) = 2 * (dk : Int) := by rw [IntKind.wrap_i64]; omega
  have hne : ((k : Int) != 2 * (dk : Int)) = false := by simp; omega
  have hwr : IntKind.i64.wrap ((n : Int) - 1) = (n : Int) - 1 := by rw [IntKind.wrap_i64]; omega
  have b5 := B4.out.alloc B4.out.size (.cells #[.int .i64 0, .int .i64 0, .int .i64 0, .int .i64 0, .int .i64 0, .int .i64 0, .int .i64 0, .int .i64 0, .int .i64 0, .int .i64 0, .int .i64 0, .int .i64 0, .int .i64 0, .int .i64 0, .int .i64 0, .int .i64 0, .int .i64 0, .int .i64 0, .int .i64 0, .int .i64 0, .int .i64 0, .int .i64 0, .int .i64 0, .int .i64 0, .int .u64 0, .int .u64 0] 88)
  have k5 := Blk.new w4 88 (ssC (flS ss0) 0 0)
  rw [ss0_cells] at k5
  have hB5 : SsB (w4.alloc (.cells #[.int .i64 0, .int .i64 0, .int .i64 0, .int .i64 0, .int .i64 0, .int .i64 0, .int .i64 0, .int .i64 0, .int .i64 0, .int .i64 0, .int .i64 0, .int .i64 0, .int .i64 0, .int .i64 0, .int .i64 0, .int .i64 0, .int .i64 0, .int .i64 0, .int .i64 0, .int .i64 0, .int .i64 0, .int .i64 0, .int .i64 0, .int .i64 0, .int .u64 0, .int .u64 0] 88)) w4.heap.size ss0 := ⟨0, 0, k5, MaskN.zero, MaskN.zero⟩
  have HB5 := hide b5; have HS5 := hide hB5
  have ge4 := B4.out.size
  clear hr3 b4 b5 hB5 k5 od B3
  go_wp2_with fail
  go_loopw [29] (fun i W => ∃ (j : Nat) (S : SS), i = .int .i64 j ∧ j ≤ k ∧ Below w.heap.size w W ∧ SsB W w4.heap.size S ∧ runS ts ss0 (l.take j) = some S) (fun i _ => k - (intOf i).toNat)
  case atStart => exact ⟨0, ss0, rfl, Nat.zero_le _, HB5.out, HS5.out, rfl⟩
  case round =>
    clear HB5 HS5
    rename World => wr
    obtain ⟨j, S, rfl, hj, bw, hB, hrunj⟩ := hrel
    have HBW := hide bw; have HBB := hide hB; have HRJ := hide hrunj
    clear hB hrunj
    by_cases hjk : j < k
    · obtain ⟨b0, o0, x, rfl, hb0, hx, hc⟩ := hri.at_ hjk
      obtain ⟨hx0, hx1, S', hn, hS'⟩ := runS_part HRUN.out hx HRJ.out
      obtain ⟨m, rfl⟩ : ∃ m : Nat, x = m := ⟨x.toNat, by omega⟩
      rw [Int.toNat_natCast] at hn
      have hmn : m < n := by have := hl.out; omega
      have e0 := (bw.cell (p := ⟨b0, o0 + j, none⟩) hb0).trans hc
      have hin : inB (m : Int) 0 ((n : Int) - 1) = true := (inB_iff _ _ _).2 (by omega)
      obtain ⟨hO, hvb⟩ : SsO S ∧ ∀ key : Nat, 0 ≤ S.ver.getD key 0 ∧ S.ver.getD key 0 ≤ 1000 := by
        obtain ⟨⟨b9, h9⟩, _⟩ := SsI.run (by rw [hl.out]; exact hn6) HV.out (l.take j) ss0 S (fun _ => 0) (SsI.zero ts _) HRJ.out
        exact h9.shape (by rw [hl.out]; exact hn6)
      have HN := hide hn; have HS' := hide hS'
      have j0 : (0 : Int) ≤ j := by omega
      have j2 : (j : Int) < k := by omega
      clear hx hn hS' hc
      go_wp2_with fail
      refine (within_c).mono ?_
      rintro e w6 ⟨rfl, rfl⟩
      rw [hin]
      go_wp2_with fail
      refine (next_c hr hn6 HV.out hmn hO hvb HBW.out ge4 HBB.out).mono ?_
      rintro e w7 ⟨b7, _, hcase⟩
      rcases hcase with ⟨hno, _⟩ | ⟨S2, hy, rfl, hB2⟩
      · rw [HN.out] at hno; cases hno
      · rw [HN.out] at hy; injection hy with hy; subst hy
        have B7 := hide b7; have HB2 := hide hB2
        clear b7 hB2 e0 HBB bw HBW
        go_wp2_with fail
        go_roundw
        case rel => exact ⟨j + 1, S', by go_num, by omega, B7.out, HB2.out, HS'.out⟩
        case measure => simp [intOf]; omega
    · obtain rfl : j = k := by omega
      clear hri bw
      go_wp2_with fail
      go_ret
      exact ⟨rfl, HBW.out⟩
end Go.Proofs.YtcfkemchekmjbaaGreatDoor

namespace Go.Proofs.YtcfkemchekmjbaaGreatDoor
open Go.RowKit
def pushTo (os : Ls) (ws : List T3) (j : Nat) : Ls := (ws.take j).foldl (fun o e => o.set e.2.1.toNat (o.getD e.2.1.toNat [] ++ [e.2.2])) os
theorem pushTo_succ {os : Ls} {ws : List T3} {j : Nat} {o : T3} (h : ws[j]? = some o) : pushTo os ws (j + 1) = (pushTo os ws j).set o.2.1.toNat ((pushTo os ws j).getD o.2.1.toNat [] ++ [o.2.2]) := foldl_snoc _ _ h
theorem push_all {a b c : List Int} {ys : List T3} : pushTo [a, b, c] (lastW ys) (lastW ys).length = [a ++ ((lastK ys 0).map (·.2.2)).toList, b ++ ((lastK ys 1).map (·.2.2)).toList, c ++ ((lastK ys 2).map (·.2.2)).toList] := by
  have h0 : ∀ o, lastK ys 0 = some o → o.2.1 = 0 := fun o h => (lastK_some h).2.2
  have h1 : ∀ o, lastK ys 1 = some o → o.2.1 = 1 := fun o h => (lastK_some h).2.2
  have h2 : ∀ o, lastK ys 2 = some o → o.2.1 = 2 := fun o h => (lastK_some h).2.2
  unfold pushTo lastW
  rw [List.take_length]
  cases g0 : lastK ys 0 <;> cases g1 : lastK ys 1 <;> cases g2 : lastK ys 2 <;> simp_all
/-- Behind the first i commits. -/
theorem ordL_push (ts : List Tx) (co : List Nat) (n : Nat) : pushTo (ordL ts co) (lastW (txAt ts n).2.1) (lastW (txAt ts n).2.1).length = ordL ts (co ++ [n]) := by
  unfold ordL
  rw [push_all]
  have e : ∀ key : Nat, ordK ts (co ++ [n]) key = ordK ts co key ++ ((lastK (txAt ts n).2.1 (key : Int)).map (·.2.2)).toList := fun key => by
    unfold ordK
    rw [List.filterMap_append]
    have e1 : [n].filterMap (fun n => wV ts n key) = ((lastK (txAt ts n).2.1 (key : Int)).map (·.2.2)).toList := by
      unfold wV
      cases h : lastK (txAt ts n).2.1 (key : Int) <;> simp [h]
    rw [e1]
  rw [e 0, e 1, e 2]
  rfl
/-- The commits are the second times. -/
theorem run_seen {ts : List Tx} : ∀ (j : Nat) (l : List Int) (S : SS), j ≤ l.length → runS ts ss0 (l.take j) = some S → (∀ m : Nat, (m : Int) ∈ l.take j ↔ m ∈ S.bg) := by
  intro j
  induction j with
  | zero => intro l S _ h m; rw [List.take_zero] at h; injection h with h; subst h; simp [ss0]
  | succ j ih =>
    intro l S hj h m
    obtain ⟨x, hx⟩ : ∃ x, l[j]? = some x := ⟨_, List.getElem?_eq_getElem (by omega)⟩
    rw [List.take_add_one, hx] at h
    have h' := h
    rw [runS_append] at h'
    cases hS : runS ts ss0 (l.take j) with
    | none => rw [hS] at h'; cases h'
    | some S0 =>
      rw [hS] at h'
      have h2 : (if (0 : Int) ≤ x ∧ x < ts.length then (nxt ts S0 x.toNat).bind fun S' => runS ts S' [] else none) = some S := h'
      split at h2
      · rename_i hr
        cases hn : nxt ts S0 x.toNat with
        | none => rw [hn] at h2; cases h2
        | some S' =>
          rw [hn] at h2
          injection h2 with h2; subst h2
          have hi := ih l S0 (by omega) hS m
          rw [List.take_add_one, hx, List.mem_append, hi]
          unfold nxt at hn
          split at hn
          · split at hn
            · split at hn
              · injection hn with hn; subst hn
                dsimp only
                rw [List.mem_append]
                simp only [Option.toList, List.mem_singleton]
                constructor
                · rintro (h | h)
                  · exact .inl h
                  · right; omega
                · rintro (h | h)
                  · exact .inl h
                  · right; omega
              · cases hn
            · rename_i hb
              have hb := Classical.not_not.1 hb
              split at hn
              · injection hn with hn; subst hn
                simp only [Option.toList, List.mem_singleton]
                constructor
                · rintro (h | h)
                  · exact h
                  · have : m = x.toNat := by omega
                    rw [this]; exact hb
                · exact .inl
              · cases hn
          · cases hn
      · cases h2
def intL (co : List Nat) : List Int := co.map fun (n : Nat) => (n : Int)
theorem nxt_co {ts : List Tx} {S S' : SS} {m : Nat} (h : nxt ts S m = some S') : S'.co = if m ∈ S.bg then S.co ++ [m] else S.co := by
  unfold nxt at h
  split at h
  · split at h
    · rename_i hb
      split at h
      · injection h with h; subst h; rw [if_neg hb]
      · cases h
    · rename_i hb
      split at h
      · injection h with h; subst h; rw [if_pos (Classical.not_not.1 hb)]
      · cases h
  · cases h
theorem commitL_eq {ts : List Tx} {l : List Int} {S : SS} (h : runS ts ss0 l = some S) : commitL ts l = ordL ts S.co := by unfold commitL; rw [h]
end Go.Proofs.YtcfkemchekmjbaaGreatDoor

namespace Go.Proofs.YtcfkemchekmjbaaGreatDoor
theorem doneTo_lt (ts : List Tx) : ∀ (k : Nat) (x : Int), x ∈ doneTo ts k → ∃ j : Nat, x = j ∧ j < k
  | 0, x, h => by simp [doneTo] at h
  | k + 1, x, h => by
    simp only [doneTo, List.mem_append] at h
    rcases h with h | h
    · obtain ⟨j, e, hj⟩ := doneTo_lt ts k x h; exact ⟨j, e, by omega⟩
    · split at h
      · simp at h; exact ⟨k, h, by omega⟩
      · simp at h
theorem doneTo_nodup (ts : List Tx) : ∀ k, (doneTo ts k).Nodup
  | 0 => by simp [doneTo]
  | k + 1 => by
    simp only [doneTo]
    split
    · exact nodup_snoc (doneTo_nodup ts k) (fun h => by obtain ⟨j, e, hj⟩ := doneTo_lt ts k _ h; omega)
    · simpa using doneTo_nodup ts k
theorem doneL_nodup (ts : List Tx) : (doneL ts).Nodup := doneTo_nodup ts ts.length
end Go.Proofs.YtcfkemchekmjbaaGreatDoor

namespace Go.Proofs.YtcfkemchekmjbaaGreatDoor
open Go.RowKit
theorem run_clipL (A : Option Addr) (n c : Nat) (hnc : n ≤ c) (hA : ∀ a, A = some a → ∃ g, a = ⟨g, 0, none⟩) (w : World) :
    (Instr.slice 24 (.slice A n c) none (some (.int .i64 (n : Int))) (some (.int .i64 (n : Int)))).run Tryz.prog w = .ok (.slice A n n) w := by
  obtain ⟨i, hi, hz, hsz, hb⟩ := info_parts intInfo
  have h1 : (if n = 0 then A else A.map (·.add (0 * i.size))) = A := by
    split
    · rfl
    · cases A with
      | none => rfl
      | some a => obtain ⟨g, rfl⟩ := hA a rfl; rw [Nat.zero_mul]; simp [addr_add]
  simp [Instr.slice, Instr.sliceBounds, Instr.sliceBound, run_underlying Tryz.underlying24, sizeOf, typeInfo, hi, asIntOf, hnc]
  simpa using h1
theorem OI.clip {A : Option Addr} {n c B : Nat} {xs : List Int} {w : World} (hs : OI w B (.slice A n c) n xs) : SI w (.slice A n n) n xs := by
  obtain ⟨A', c', e, _, _, hr, _⟩ := hs.form
  injection e with e1 e2 e3; subst e1
  exact ⟨A, n, rfl, Nat.le_refl _, hs.2, hr⟩
/-- What was found, in the boxes bF and bK. -/
def FI (lo bF bK : Nat) (a : Option (List Int)) (w : World) : Prop := ∃ v k, Blk w bF 24 #[v] ∧ Blk w bK 4 #[.bool a.isSome] ∧ OI w lo v k (a.getD []) ∧ (a = none → v = .slice none 0 0 ∧ k = 0)
theorem FI.below {lo bF bK : Nat} {a : Option (List Int)} {w w' : World} (h : FI lo bF bK a w) (hb : Below w.heap.size w w') : FI lo bF bK a w' := by
  obtain ⟨v, k, h1, h2, h3, h4⟩ := h
  exact ⟨v, k, h1.belowAll hb, h2.belowAll hb, h3.below hb, h4⟩
end Go.Proofs.YtcfkemchekmjbaaGreatDoor

namespace Go.Proofs.YtcfkemchekmjbaaGreatDoor
open Go.RowKit
/-- Rows of the call's own, their slices in a block of three. -/
structure Ins (lo : Nat) (w : World) (bR : Nat) (vs : List Value) (os : Ls) : Prop where
  blk : Blk w bR 24 vs.toArray
  ln : vs.length = 3
  lo3 : os.length = 3
  ge : lo ≤ bR
  rows : ∀ (i : Nat) (v : Value), vs[i]? = some v → ∃ k, OI w lo v k (os.getD i [])
  apart : ∀ (i j : Nat) (v u : Value), i ≠ j → vs[i]? = some v → vs[j]? = some u → v.ownBlock = none ∨ v.ownBlock ≠ u.ownBlock
theorem Ins.below {lo : Nat} {w w' : World} {bR : Nat} {vs : List Value} {os : Ls} (h : Ins lo w bR vs os) (hb : Below w.heap.size w w') : Ins lo w' bR vs os :=
  ⟨h.blk.belowAll hb, h.ln, h.lo3, h.ge, fun i v hv => by obtain ⟨k, ho⟩ := h.rows i v hv; exact ⟨k, ho.below hb⟩, h.apart⟩
/-- A grown row, its slice put into its cell. -/
theorem Ins.put {lo : Nat} {w w' : World} {bR key k : Nat} {vs : List Value} {os : Ls} {v v' : Value} {xs : List Int} (h : Ins lo w bR vs os) (hv : vs[key]? = some v) (hg : w.grownBy w' v.ownBlock) (ho : OI w' lo v' k xs)
    (hat : v'.ownBlock = v.ownBlock ∨ v'.ownBlock = some w.heap.size) : Ins lo (w'.setCell ⟨bR, key, none⟩ v') bR (vs.set key v') (os.set key xs) := by
  have hkl := (List.getElem?_eq_some_iff.1 hv).1
  obtain ⟨k0, ho0⟩ := h.rows key v hv
  have hnb : v.ownBlock ≠ some bR := ho0.ne_blk h.blk (by decide)
  have hb' : Blk w' bR 24 vs.toArray := h.blk.grown hg (fun e => hnb e.symm)
  have far : ∀ {q : Value} {m : Nat} {ys : List Int}, OI w' lo q m ys → OI (w'.setCell ⟨bR, key, none⟩ v') lo q m ys := fun {q m ys} hq => by
    have hne := hq.ne_blk hb' (by decide)
    exact hq.grown (row := some bR) (grown_setCell (World.grownBy.refl w' (some bR)) (.inl rfl) v') (.inr hne)
  refine ⟨?_, by simp [h.ln], by simp [h.lo3], h.ge, fun i u hu => ?_, fun i j u t hij hu ht => ?_⟩
  · have := hb'.set_ key v'
    rwa [List.setIfInBounds_toArray] at this
  · by_cases e : key = i
    · subst e
      rw [List.getElem?_set_self hkl] at hu; injection hu with hu; subst hu
      refine ⟨k, ?_⟩
      have e2 : (os.set key xs).getD key [] = xs := by
        rw [List.getD_eq_getElem?_getD, List.getElem?_set_self (by rw [h.lo3, ← h.ln]; exact hkl)]; rfl
      rw [e2]; exact far ho
    · rw [List.getElem?_set_ne e] at hu
      obtain ⟨k1, h1⟩ := h.rows i u hu
      refine ⟨k1, ?_⟩
      have e2 : (os.set key xs).getD i [] = os.getD i [] := by rw [List.getD_eq_getElem?_getD, List.getElem?_set_ne e, ← List.getD_eq_getElem?_getD]
      rw [e2]
      exact far (h1.grown hg (h.apart i key u v (fun e' => e e'.symm) hu hv))
  · have new : ∀ (q : Value) (i : Nat), i ≠ key → vs[i]? = some q → q.ownBlock = none ∨ q.ownBlock ≠ v'.ownBlock := fun q i hi hq => by
      rcases hat with e | e
      · rw [e]; exact h.apart i key q v hi hq hv
      · obtain ⟨k1, h1⟩ := h.rows i q hq
        cases hb : q.ownBlock with
        | none => exact .inl rfl
        | some g =>
          right; rw [e]; intro e2; injection e2 with e2
          have := (World.ownsRow.lt h1.1 g hb).2
          omega
    by_cases e : key = i
    · subst e
      rw [List.getElem?_set_self hkl] at hu; injection hu with hu; subst hu
      rw [List.getElem?_set_ne hij] at ht
      rcases new t j (fun e => hij e.symm) ht with h1 | h1
      · cases hb : v'.ownBlock with
        | none => exact .inl rfl
        | some g => right; rw [h1]; simp
      · right; exact fun e => h1 e.symm
    · rw [List.getElem?_set_ne e] at hu
      by_cases e2 : key = j
      · subst e2
        rw [List.getElem?_set_self hkl] at ht; injection ht with ht; subst ht
        exact new u i (fun e' => e e'.symm) hu
      · rw [List.getElem?_set_ne e2] at ht
        exact h.apart i j u t hij hu ht
end Go.Proofs.YtcfkemchekmjbaaGreatDoor
