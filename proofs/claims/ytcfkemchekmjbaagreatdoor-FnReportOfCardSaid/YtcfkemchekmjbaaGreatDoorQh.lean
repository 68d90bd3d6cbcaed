/- Merged (what the law reaches): FndP, SameO, LwS, HistS. -/
import Derived.Test.YtcfkemchekmjbaaGreatDoorQg
import Derived.BigQuiet
import Derived.Laws.StructEq
import Derived.Deep.RegionHeld3
namespace Go.Proofs.YtcfkemchekmjbaaGreatDoor
open Go.RowKit
/-- The store behind an order. -/
def stF (ts : List Tx) : List Int → List Int → Option (List Int)
  | s, [] => some s
  | s, n :: r => match followL s (opsOf ts n.toNat) with
    | none => none
    | some s' => stF ts s' r
theorem runsF_st (ts : List Tx) : ∀ (l s : List Int), runsF ts s l = (stF ts s l).isSome
  | [], s => rfl
  | n :: l, s => by
    simp only [runsF, stF]
    cases followL s (opsOf ts n.toNat) with
    | none => rfl
    | some s' => exact runsF_st ts l s'
theorem stF_snoc (ts : List Tx) (n : Int) : ∀ (l s : List Int), stF ts s (l ++ [n]) = (stF ts s l).bind fun s' => followL s' (opsOf ts n.toNat)
  | [], s => by
    simp only [List.nil_append, stF, Option.bind_some]
    cases followL s (opsOf ts n.toNat) <;> rfl
  | m :: l, s => by
    simp only [List.cons_append, stF]
    cases followL s (opsOf ts m.toNat) with
    | none => rfl
    | some s' => exact stF_snoc ts n l s'
def findF (ts : List Tx) : Nat → List Int → List Int → Option (List Int)
  | 0, b, _ => if runsF ts [0, 0, 0] b then some b else none
  | f + 1, b, r => if runsF ts [0, 0, 0] b then (if r = [] then some b else (List.range r.length).findSome? fun k => findF ts f (b ++ [r.getD k 0]) (r.eraseIdx k)) else none
theorem findF_no {ts : List Tx} {b : List Int} (h : runsF ts [0, 0, 0] b = false) : ∀ (f : Nat) (r : List Int), findF ts f b r = none
  | 0, r => by unfold findF; rw [h]; rfl
  | f + 1, r => by unfold findF; rw [h]; rfl
theorem findF_end {ts : List Tx} {b : List Int} (h : runsF ts [0, 0, 0] b = true) : ∀ (f : Nat), findF ts f b [] = some b
  | 0 => by unfold findF; rw [if_pos h]
  | f + 1 => by unfold findF; rw [if_pos h, if_pos rfl]
theorem find_index {F : Int → List Int → Option (List Int)} {l : List Int} (hl : l.Nodup) : ((List.range l.length).findSome? fun k => F (l.getD k 0) (l.eraseIdx k)) = l.findSome? fun n => F n (l.erase n) := by
  have key : ∀ k, k ∈ List.range l.length → F (l.getD k 0) (l.eraseIdx k) = (fun n => F n (l.erase n)) (l.getD k 0) := fun k hk => by
    have hk' := List.mem_range.1 hk
    have e : l.getD k 0 = l[k] := by rw [List.getD_eq_getElem?_getD, List.getElem?_eq_getElem hk']; rfl
    rw [erase_at hl k hk', e]
  have h2 : (List.range l.length).map (fun k => l.getD k 0) = l := by
    refine List.ext_getElem (by simp) (fun i h1 h2 => ?_)
    simp only [List.getElem_map, List.getElem_range]
    rw [List.getD_eq_getElem?_getD, List.getElem?_eq_getElem h2]; rfl
  have h3 : ∀ (ks : List Nat), (∀ k ∈ ks, k ∈ List.range l.length) → (ks.findSome? fun k => F (l.getD k 0) (l.eraseIdx k)) = (ks.map fun k => l.getD k 0).findSome? fun n => F n (l.erase n) := fun ks => by
    induction ks with
    | nil => intro _; rfl
    | cons k ks ih =>
      intro hs
      rw [List.map_cons, List.findSome?_cons, List.findSome?_cons, ih (fun q hq => hs q (by simp [hq])), key k (hs k (by simp))]
  rw [h3 _ (fun k hk => hk), h2]
theorem findF_step {ts : List Tx} {all used s : List Int} (hn : all.Nodup) {f : Nat} (hl : (restOf all used).length = f + 1) (hs : stF ts [0, 0, 0] used = some s) :
    findF ts (f + 1) used (restOf all used) = (restOf all used).findSome? fun n => findF ts f (used ++ [n]) (restOf all (used ++ [n])) := by
  have hr : runsF ts [0, 0, 0] used = true := by rw [runsF_st, hs]; rfl
  have hne : restOf all used ≠ [] := fun e => by rw [e] at hl; simp at hl
  have hnd : (restOf all used).Nodup := hn.sublist List.filter_sublist
  have e : findF ts (f + 1) used (restOf all used) = (List.range (restOf all used).length).findSome? fun k => findF ts f (used ++ [(restOf all used).getD k 0]) ((restOf all used).eraseIdx k) := by
    conv => lhs; unfold findF
    rw [if_pos hr, if_neg hne]
  rw [e, find_index (F := fun n r => findF ts f (used ++ [n]) r) hnd]
  congr 1
  funext n
  rw [restOf_snoc hn]
theorem srch_find (ts : List Tx) {all : List Int} (hn : all.Nodup) : ∀ (f : Nat) (s used : List Int), (restOf all used).length = f → stF ts [0, 0, 0] used = some s →
    srch goFst ts all f s used none = (findF ts f used (restOf all used), (findF ts f used (restOf all used)).isNone)
  | 0, s, used, hl, hs => by
    have hr : runsF ts [0, 0, 0] used = true := by rw [runsF_st, hs]; rfl
    rw [List.eq_nil_of_length_eq_zero hl, findF_end hr]
    rfl
  | f + 1, s, used, hl, hs => by
    rw [findF_step hn hl hs]
    show srchL ts (fun n s' a => srch goFst ts all f s' (used ++ [n]) a) used s all none = _
    have hin : ∀ n ∈ all, used.contains n = false → (restOf all (used ++ [n])).length = f := fun n hm hu => by
      rw [restOf_snoc hn, List.length_erase_of_mem (l := restOf all used) (show n ∈ restOf all used from List.mem_filter.2 ⟨hm, by rw [hu]; rfl⟩), hl]; rfl
    have go : ∀ l : List Int, (∀ n ∈ l, n ∈ all) → srchL ts (fun n s' a => srch goFst ts all f s' (used ++ [n]) a) used s l none =
        ((l.filter fun n => !used.contains n).findSome? (fun n => findF ts f (used ++ [n]) (restOf all (used ++ [n]))), ((l.filter fun n => !used.contains n).findSome? (fun n => findF ts f (used ++ [n]) (restOf all (used ++ [n])))).isNone) := fun l => by
      induction l with
      | nil => intro _; rfl
      | cons n l ih =>
        intro hsub
        have ih' := ih (fun q hq => hsub q (by simp [hq]))
        cases hu : used.contains n with
        | true => rw [srchL_used _ hu, ih', List.filter_cons_of_neg (by rw [hu]; decide)]
        | false =>
          rw [List.filter_cons_of_pos (by rw [hu]; decide), List.findSome?_cons]
          have hsn := stF_snoc ts n used [0, 0, 0]
          rw [hs, Option.bind_some] at hsn
          cases hf : followL s (opsOf ts n.toNat) with
          | none =>
            rw [hf] at hsn
            have hno : runsF ts [0, 0, 0] (used ++ [n]) = false := by rw [runsF_st, hsn]; rfl
            rw [srchL_none _ hu hf, ih', findF_no hno]
          | some s' =>
            rw [hf] at hsn
            have hrec := srch_find ts hn f s' (used ++ [n]) (hin n (hsub n (by simp)) hu) hsn
            cases hq : findF ts f (used ++ [n]) (restOf all (used ++ [n])) with
            | none =>
              rw [hq] at hrec
              rw [srchL_on _ hu hf (by rw [hrec]; rfl), hrec]
              exact ih'
            | some u =>
              rw [hq] at hrec
              rw [srchL_stop _ hu hf (by rw [hrec]; rfl), hrec]
              rfl
    exact go all (fun n h => h)
theorem srch_fstF (ts : List Tx) {all : List Int} (hn : all.Nodup) : (srch goFst ts all all.length [0, 0, 0] [] none).1 = findF ts all.length [] all := by
  have hr : restOf all [] = all := by unfold restOf; rw [List.filter_eq_self]; intro a _; rfl
  have := srch_find ts hn all.length [0, 0, 0] [] (by rw [hr]) rfl
  rw [this, hr]
end Go.Proofs.YtcfkemchekmjbaaGreatDoor

namespace Go.Proofs.YtcfkemchekmjbaaGreatDoor
open Go.RowKit
theorem fieldsOp : Tryz.prog.underlying 61 = some (.struct (Tryz.prog.fieldsOf 61)) := by kernel_rfl
theorem heldOp : Tryz.prog.stoodInHeld 61 = false := by kernel_rfl
theorem equalInOp (w : World) (a b c a' b' c' : Int) : (Op.equalIn 10000 61 (.agg #[.int .i64 a, .int .i64 b, .int .i64 c]) (.agg #[.int .i64 a', .int .i64 b', .int .i64 c'])).run Tryz.prog w = .ok (a == a' && (b == b' && c == c')) w := by
  have z3 := Tryz.sizeOf3
  have a3 := Tryz.isAgg3
  have u3 := Tryz.underlying3
  rw [show (10000 : Nat) = 9999 + 1 from rfl, run_equalIn_agg w 9999 61 _ _ fieldsOp heldOp]
  simp only [Program.fieldsOf, Tryz.underlying61]
  go_simp
  by_cases h1 : a = a' <;> by_cases h2 : b = b' <;> by_cases h3 : c = c' <;> simp [h1, h2, h3]
theorem eqOpL (w : World) (a b c a' b' c' : Int) : (binOp .eql 61 (.agg #[.int .i64 a, .int .i64 b, .int .i64 c]) (.agg #[.int .i64 a', .int .i64 b', .int .i64 c'])).run Tryz.prog w = .ok (.bool (a == a' && (b == b' && c == c'))) w := by
  rw [run_eql_struct, equalInOp]; rfl
end Go.Proofs.YtcfkemchekmjbaaGreatDoor

namespace Go.Proofs.YtcfkemchekmjbaaGreatDoor
open Go.RowKit
theorem op_cases (x y z : Int) : (inB x 1 2 = false ∧ opB (x, y, z) = false) ∨ (inB x 1 2 = true ∧ inB y 0 2 = false ∧ opB (x, y, z) = false) ∨
    (inB x 1 2 = true ∧ inB y 0 2 = true ∧ inB z 0 99 = false ∧ opB (x, y, z) = false) ∨ (inB x 1 2 = true ∧ inB y 0 2 = true ∧ inB z 0 99 = true ∧ (x == 1) = true ∧ opB (x, y, z) = true) ∨
    (inB x 1 2 = true ∧ inB y 0 2 = true ∧ inB z 0 99 = true ∧ (x == 1) = false ∧ opB (x, y, z) = decide (0 < z)) := by
  unfold opB
  cases inB x 1 2 <;> cases inB y 0 2 <;> cases inB z 0 99 <;> cases (x == 1) <;> simp
set_option maxHeartbeats 2000000 in
theorem spec_OpValid_c {x y z : Int} {w : World} :
    Calls Tryz.prog 149 #[.agg #[.int .i64 x, .int .i64 y, .int .i64 z]] w fun e w' => e = .returned (.bool (opB (x, y, z))) ∧ Below w.heap.size w w' := by
  have B0 : ∀ o, Below w.heap.size w (w.alloc o) := fun o => (Below.refl _ _).alloc (Nat.le_refl _) o
  rcases op_cases x y z with ⟨h1, hf⟩ | ⟨h1, h2, hf⟩ | ⟨h1, h2, h3, hf⟩ | ⟨h1, h2, h3, h4, hf⟩ | ⟨h1, h2, h3, h4, hf⟩
  · have F := hide hf; have H1 := hide h1; clear hf h1
    go_enter Tryz.func149, Tryz.ntmps149
    go_wp2_with (go_at_call 45; refine (l1In_c).mono ?_; rintro e w' ⟨rfl, rfl⟩; first | rw [H1.out])
    go_ret
    exact ⟨by rw [F.out]; rfl, B0 _⟩
  · have F := hide hf; have H1 := hide h1; have H2 := hide h2; clear hf h1 h2
    go_enter Tryz.func149, Tryz.ntmps149
    go_wp2_with (go_at_call 45; refine (l1In_c).mono ?_; rintro e w' ⟨rfl, rfl⟩; first | rw [H1.out] | rw [H2.out])
    go_ret
    exact ⟨by rw [F.out]; rfl, B0 _⟩
  · have F := hide hf; have H1 := hide h1; have H2 := hide h2; have H3 := hide h3; clear hf h1 h2 h3
    go_enter Tryz.func149, Tryz.ntmps149
    go_wp2_with (go_at_call 45; refine (l1In_c).mono ?_; rintro e w' ⟨rfl, rfl⟩; first | rw [H1.out] | rw [H2.out] | rw [H3.out])
    go_ret
    exact ⟨by rw [F.out]; rfl, B0 _⟩
  · have F := hide hf; have H1 := hide h1; have H2 := hide h2; have H3 := hide h3; clear hf h1 h2 h3
    go_enter Tryz.func149, Tryz.ntmps149
    go_wp2_with (go_at_call 45; refine (l1In_c).mono ?_; rintro e w' ⟨rfl, rfl⟩; first | rw [H1.out] | rw [H2.out] | rw [H3.out])
    go_ret
    exact ⟨by rw [F.out]; rfl, B0 _⟩
  · have F := hide hf; have H1 := hide h1; have H2 := hide h2; have H3 := hide h3; clear hf h1 h2 h3
    go_enter Tryz.func149, Tryz.ntmps149
    go_wp2_with (go_at_call 45; refine (l1In_c).mono ?_; rintro e w' ⟨rfl, rfl⟩; first | rw [H1.out] | rw [H2.out] | rw [H3.out])
    go_ret
    exact ⟨by rw [F.out]; simp [go_sem], B0 _⟩
theorem txnB_bad {t : Tx} {k : Nat} {o : T3} (hk : t.2.1[k]? = some o) (h : opB o = false) : txnB t = false := by simp [txnB, all_badA hk h]
set_option maxHeartbeats 4000000 in
theorem spec_TxnValid_c {v : Value} {m : Nat} {ys : List T3} {f : Int} {dn : Bool} {w : World} (hv : S3 w v m ys) :
    Calls Tryz.prog 98 #[.agg #[.int .i64 f, v, .bool dn]] w fun e w' => e = .returned (.bool (txnB (f, ys, dn))) ∧ Below w.heap.size w w' := by
  have sv := hv
  obtain ⟨A, c, rfl, hnc, hm, hr⟩ := hv
  have hl := hide hr.len
  have b1 : Below w.heap.size w (w.alloc (.cells #[.int .i64 f, .slice A m c, .bool dn] 66)) := (Below.refl _ _).alloc (Nat.le_refl _) _
  have K0 := Blk.new w 66 #[.int .i64 f, .slice A m c, .bool dn]
  go_enter Tryz.func98, Tryz.ntmps98
  go_wp2_with fail
  go_loopw [3] (fun i wr => ∃ k : Nat, k ≤ m ∧ i = .int .i64 k ∧ (ys.take k).all opB = true ∧ Blk wr w.heap.size 66 #[.int .i64 f, .slice A m c, .bool dn] ∧ Below w.heap.size w wr) (fun i _ => m - (intOf i).toNat)
  case atStart => exact ⟨0, Nat.zero_le _, rfl, by simp, K0, b1⟩
  case round =>
    clear K0 b1
    obtain ⟨k, hk, rfl, hall, KR, bw⟩ := hrel
    have Hall := hide hall; have HKR := hide KR; clear hall
    obtain ⟨g0, g1, g2⟩ := KR.three
    clear KR
    by_cases hkm : k < m
    · obtain ⟨b, off, x, y, z, rfl, hbb, hx, p0, p1, p2⟩ := hr.at_ hkm
      have a0 := (bw.cell (p := ⟨b, off + k * 3, none⟩) hbb).trans p0
      have a1 := (bw.cell (p := ⟨b, off + k * 3 + 1, none⟩) hbb).trans p1
      have a2 := (bw.cell (p := ⟨b, off + k * 3 + 2, none⟩) hbb).trans p2
      have Hx := hide hx
      clear hx p0 p1 p2
      have k0 : (0 : Int) ≤ k := by omega
      have k2 : (k : Int) < m := by omega
      cases hv : opB (x, y, z)
      · have hf := txnB_bad (t := (f, ys, dn)) Hx.out hv
        have F := hide hf; have V := hide hv; clear hf hv
        go_wp2_with fail
        refine (spec_OpValid_c).mono ?_
        rintro e w2 ⟨rfl, b2⟩
        rw [V.out]
        have B2 := below_step bw b2
        go_wp2_with fail
        go_ret
        exact ⟨by rw [F.out]; rfl, B2⟩
      · have hq := all_snocA Hall.out Hx.out hv
        have F := hide hq; have V := hide hv; clear hq hv
        go_wp2_with fail
        refine (spec_OpValid_c).mono ?_
        rintro e w2 ⟨rfl, b2⟩
        rw [V.out]
        have B2 := below_step bw b2
        have K2 := HKR.out.belowAll b2
        go_wp2_with fail
        go_roundw
        case rel => exact ⟨k + 1, by omega, by go_num, F.out, K2, B2⟩
        case measure => simp [intOf]; omega
    · obtain rfl : k = m := by omega
      have h1 := Hall.out
      rw [List.take_of_length_le (by rw [hl.out]; omega)] at h1
      cases hS : inB f 0 3
      · have hf : txnB (f, ys, dn) = false := by simp [txnB, hS]
        have F := hide hf; have Z := hide hS; clear hf hS h1
        go_wp2_with (go_at_call 45; refine (l1In_c).mono ?_; rintro e w' ⟨rfl, rfl⟩; rw [Z.out])
        go_ret
        exact ⟨by rw [F.out]; rfl, bw⟩
      · have hf : txnB (f, ys, dn) = decide (k ≤ 6) := by unfold txnB; dsimp only; rw [h1, hS, hl.out]; simp
        have F := hide hf; have Z := hide hS; clear hf hS h1
        go_wp2_with (go_at_call 45; refine (l1In_c).mono ?_; rintro e w' ⟨rfl, rfl⟩; rw [Z.out])
        go_ret
        exact ⟨by rw [F.out]; simp [go_sem]; omega, bw⟩
/-- Where a search from behind stands: nothing found from place j on. -/
def NoneK (ys : List T3) (key : Int) (j : Nat) : Prop := ∀ (i : Nat) p, j ≤ i → ys[i]? = some p → ¬ (p.1 = 2 ∧ p.2.1 = key)
def NoneO (ys : List T3) (key : Int) (j : Nat) : Prop := ∀ (i : Nat) p, j ≤ i → ys[i]? = some p → ¬ p.2.1 = key
theorem NoneK.start {ys : List T3} {key : Int} : NoneK ys key ys.length := fun i p hi hp => by have := (List.getElem?_eq_some_iff.1 hp).1; omega
theorem NoneK.step {ys : List T3} {key : Int} {j : Nat} {o : T3} (h : NoneK ys key (j + 1)) (hj : ys[j]? = some o) (ho : ¬ (o.1 = 2 ∧ o.2.1 = key)) : NoneK ys key j := fun i p hi hp => by
  by_cases e : i = j
  · subst e; rw [hj] at hp; injection hp with hp; subst hp; exact ho
  · exact h i p (by omega) hp
theorem NoneK.found {ys : List T3} {key : Int} {j : Nat} {o : T3} (h : NoneK ys key (j + 1)) (hj : ys[j]? = some o) (ho : o.1 = 2 ∧ o.2.1 = key) : lastK ys key = some o := lastK_at hj ho (fun i p hi hp => h i p hi hp)
theorem NoneK.none_ {ys : List T3} {key : Int} (h : NoneK ys key 0) : lastK ys key = none := lastK_none (fun i p hp => h i p (Nat.zero_le _) hp)
theorem NoneO.start {ys : List T3} {key : Int} : NoneO ys key ys.length := fun i p hi hp => by have := (List.getElem?_eq_some_iff.1 hp).1; omega
theorem NoneO.step {ys : List T3} {key : Int} {j : Nat} {o : T3} (h : NoneO ys key (j + 1)) (hj : ys[j]? = some o) (ho : ¬ o.2.1 = key) : NoneO ys key j := fun i p hi hp => by
  by_cases e : i = j
  · subst e; rw [hj] at hp; injection hp with hp; subst hp; exact ho
  · exact h i p (by omega) hp
theorem NoneO.found {ys : List T3} {key : Int} {j : Nat} {o : T3} (h : NoneO ys key (j + 1)) (hj : ys[j]? = some o) (ho : o.2.1 = key) : lastO ys key = some o := lastO_at hj ho (fun i p hi hp => h i p hi hp)
theorem NoneO.none_ {ys : List T3} {key : Int} (h : NoneO ys key 0) : lastO ys key = none := lastO_none (fun i p hp => h i p (Nat.zero_le _) hp)
end Go.Proofs.YtcfkemchekmjbaaGreatDoor

namespace Go.Proofs.YtcfkemchekmjbaaGreatDoor
open Go.RowKit
theorem wl_len (os : List T3) : (wl os).length ≤ os.length := List.length_filterMap_le _ _
theorem cnt_le {ts : List Tx} {k : Nat} {t : Tx} (ht : ts[k]? = some t) (j : Nat) (q : Int × Int) : (wl (opsTo ts k j)).count q ≤ (allOps ts).length := by
  obtain ⟨r, hr⟩ := opsTo_split ht j
  have h1 := List.count_le_length (a := q) (l := wl (opsTo ts k j))
  have h2 := wl_len (opsTo ts k j)
  have h3 : (allOps ts).length = (opsTo ts k j).length + r.length := by rw [hr, List.length_append]
  omega
theorem cnt_yes {ts : List Tx} {k j : Nat} {t : Tx} {x y z key val : Int} (ht : ts[k]? = some t) (ho : t.2.1[j]? = some (x, y, z)) (hb : (x == 2 && (y == key && z == val)) = true) :
    (wl (opsTo ts k (j + 1))).count (key, val) = (wl (opsTo ts k j)).count (key, val) + 1 := by
  simp only [Bool.and_eq_true, beq_iff_eq] at hb
  obtain ⟨h1, h2, h3⟩ := hb
  rw [wl_step_w ht ho h1, List.count_append]
  subst h2; subst h3
  simp
theorem cnt_no {ts : List Tx} {k j : Nat} {t : Tx} {x y z key val : Int} (ht : ts[k]? = some t) (ho : t.2.1[j]? = some (x, y, z)) (hb : (x == 2 && (y == key && z == val)) = false) :
    (wl (opsTo ts k (j + 1))).count (key, val) = (wl (opsTo ts k j)).count (key, val) := by
  by_cases h1 : x = 2
  · rw [wl_step_w ht ho h1, List.count_append]
    have : ¬ ((y, z) = (key, val)) := by
      intro e
      simp only [Prod.mk.injEq] at e
      rw [h1, e.1, e.2] at hb; simp at hb
    simp [this]
  · rw [wl_step_r ht ho h1]
set_option maxRecDepth 100000 in
set_option maxHeartbeats 8000000 in
theorem l2Writes_c {A : Option Addr} {n c : Nat} {ts : List Tx} {key val : Int} {w : World} (hr : RTs w A n ts) (hn : n ≤ 1048576) (hsum : (allOps ts).length ≤ 1048576) (hsm : SmallT ts) :
    Calls Tryz.prog 167 #[.slice A n c, .int .i64 key, .int .i64 val] w fun e w' => e = .returned (.int .i64 ((wl (allOps ts)).count (key, val) : Nat)) ∧ Below w.heap.size w w' := by
  have hl := hide hr.1
  go_enter Tryz.func167, Tryz.ntmps167
  go_wp2_with fail
  go_loopw [7, 8] (fun v i wr => ∃ k : Nat, i = .int .i64 k ∧ k ≤ n ∧ v = .int .i64 ((wl (opsTo ts k 0)).count (key, val) : Nat) ∧ Below w.heap.size w wr) (fun _ i _ => n - (intOf i).toNat)
  case atStart => exact ⟨0, rfl, Nat.zero_le _, by rw [opsTo_zero]; rfl, Below.refl _ _⟩
  case round =>
    obtain ⟨k, rfl, hk, rfl, bw⟩ := hrel
    have BW := hide bw; clear bw
    by_cases hkn : k < n
    · obtain ⟨b, off, f, ys, dn, B, kk, d, rfl, hbb, hx, q0, q1, q2, hkd, hdm, hri⟩ := hr.at_ hkn
      have hyl := hide hri.len
      have HX := hide hx; have Q1 := hide q1
      have k0 : (0 : Int) ≤ k := by omega
      have k2 : (k : Int) < n := by omega
      have h6 : kk ≤ 1048576 := by have := hsm _ (List.mem_of_getElem? hx); dsimp only at this; rw [hyl.out] at this; exact this
      clear q0 q1 q2 hx
      go_wp2_with fail
      go_loopw [7, 9] (fun v i wr2 => ∃ j : Nat, i = .int .i64 j ∧ j ≤ kk ∧ v = .int .i64 ((wl (opsTo ts k j)).count (key, val) : Nat) ∧ Below w.heap.size w wr2) (fun _ i _ => kk - (intOf i).toNat)
      case atStart => exact ⟨0, rfl, Nat.zero_le _, rfl, BW.out⟩
      case round =>
        clear BW
        obtain ⟨j, rfl, hj, rfl, bw⟩ := hrel
        rename World => wr2
        have BW := hide bw; clear bw
        have e1 := (BW.out.cell (p := ⟨b, off + k * 3 + 1, none⟩) hbb).trans Q1.out
        by_cases hjk : j < kk
        · obtain ⟨b2, off2, x, y, z, rfl, hbb2, hx2, p0, p1, p2⟩ := hri.at_ hjk
          have a0 := (BW.out.cell (p := ⟨b2, off2 + j * 3, none⟩) hbb2).trans p0
          have a1 := (BW.out.cell (p := ⟨b2, off2 + j * 3 + 1, none⟩) hbb2).trans p1
          have a2 := (BW.out.cell (p := ⟨b2, off2 + j * 3 + 2, none⟩) hbb2).trans p2
          have hcl := cnt_le HX.out j (key, val)
          have HX2 := hide hx2
          have j0 : (0 : Int) ≤ j := by omega
          have j2 : (j : Int) < kk := by omega
          clear hx2 p0 p1 p2
          cases hb : (x == 2 && (y == key && z == val))
          · have hq : ∀ w', (binOp .eql 61 (.agg #[.int .i64 x, .int .i64 y, .int .i64 z]) (.agg #[.int .i64 2, .int .i64 key, .int .i64 val])).run Tryz.prog w' = .ok (.bool false) w' := fun w' => by rw [eqOpL, hb]
            have hno := cnt_no HX.out HX2.out hb
            have HN := hide hno
            clear hb hno
            go_wp2_with fail
            go_roundw
            case rel => exact ⟨j + 1, by go_num, by omega, by rw [HN.out], BW.out⟩
            case measure => simp [intOf]; omega
          · have hq : ∀ w', (binOp .eql 61 (.agg #[.int .i64 x, .int .i64 y, .int .i64 z]) (.agg #[.int .i64 2, .int .i64 key, .int .i64 val])).run Tryz.prog w' = .ok (.bool true) w' := fun w' => by rw [eqOpL, hb]
            have hno := cnt_yes HX.out HX2.out hb
            have HN := hide hno
            obtain ⟨q, hq2⟩ : ∃ q, (wl (opsTo ts k j)).count (key, val) = q := ⟨_, rfl⟩
            rw [hq2] at hcl HN ⊢
            clear hb hno hq2
            go_wp2_with fail
            go_roundw
            case rel => exact ⟨j + 1, by go_num, by omega, by rw [HN.out]; go_num, BW.out⟩
            case measure => simp [intOf]; omega
        · obtain rfl : j = kk := by omega
          have hnx := opsTo_next HX.out (show ys.length ≤ j by rw [hyl.out]; omega)
          have HNX := hide hnx; clear hnx
          go_wp2_with fail
          go_roundw
          case rel => exact ⟨k + 1, by go_num, by omega, by rw [HNX.out], BW.out⟩
          case measure => simp [intOf]; omega
    · obtain rfl : k = n := by omega
      have hall := opsTo_all (show ts.length ≤ k by rw [hl.out]; omega)
      have HA := hide hall; clear hall
      go_wp2_with fail
      go_ret
      exact ⟨by rw [← HA.out]; rfl, BW.out⟩
/-- No value of the first ones is written twice in the whole. -/
def OnceTo (ts : List Tx) (k j : Nat) : Prop := ∀ q ∈ wl (opsTo ts k j), (wl (allOps ts)).count q ≤ 1
theorem OnceTo.r {ts : List Tx} {k j : Nat} {t : Tx} {o : T3} (h : OnceTo ts k j) (ht : ts[k]? = some t) (ho : t.2.1[j]? = some o) (hw : o.1 ≠ 2) : OnceTo ts k (j + 1) := by
  unfold OnceTo; rw [wl_step_r ht ho hw]; exact h
theorem OnceTo.w {ts : List Tx} {k j : Nat} {t : Tx} {o : T3} (h : OnceTo ts k j) (ht : ts[k]? = some t) (ho : t.2.1[j]? = some o) (hw : o.1 = 2) (hc : (wl (allOps ts)).count (o.2.1, o.2.2) ≤ 1) : OnceTo ts k (j + 1) := by
  unfold OnceTo; rw [wl_step_w ht ho hw]
  intro q hq
  rcases List.mem_append.1 hq with hq | hq
  · exact h q hq
  · simp at hq; subst hq; exact hc
theorem once_nodup {ts : List Tx} {k : Nat} (h : OnceTo ts k 0) (hk : ts.length ≤ k) : (wl (allOps ts)).Nodup := by
  unfold OnceTo at h
  rw [opsTo_all hk] at h
  rw [List.nodup_iff_count]
  intro a
  by_cases ha : a ∈ wl (allOps ts)
  · exact h a ha
  · rw [List.count_eq_zero_of_not_mem ha]; omega
theorem histB_dup {ts : List Tx} {q : Int × Int} (h : 1 < (wl (allOps ts)).count q) : histB ts = false := by
  have : ¬ (wl (allOps ts)).Nodup := fun hn => by have := List.nodup_iff_count.1 hn q; omega
  simp [histB, this]
set_option maxRecDepth 100000 in
set_option maxHeartbeats 8000000 in
theorem spec_HistoryValid_c {A : Option Addr} {n c : Nat} {ts : List Tx} {w : World} (hr : RTs w A n ts) (hn : n ≤ 1048576) (hsum : (allOps ts).length ≤ 1048576) (hsm : SmallT ts) :
    Calls Tryz.prog 118 #[.slice A n c] w fun e w' => e = .returned (.bool (histB ts)) ∧ Below w.heap.size w w' := by
  have hl := hide hr.1
  go_enter Tryz.func118, Tryz.ntmps118
  go_wp2_with fail
  go_loopw [3] (fun i wr => ∃ k : Nat, i = .int .i64 k ∧ k ≤ n ∧ (ts.take k).all txnB = true ∧ OnceTo ts k 0 ∧ Below w.heap.size w wr) (fun i _ => n - (intOf i).toNat)
  case atStart => exact ⟨0, rfl, Nat.zero_le _, by simp, (fun q hq => by rw [opsTo_zero] at hq; simp [wl] at hq), Below.refl _ _⟩
  case round =>
    obtain ⟨k, rfl, hk, hall, hon, bw⟩ := hrel
    have HALL := hide hall; have HON := hide hon; have BW := hide bw; clear hall hon bw
    by_cases hkn : k < n
    · obtain ⟨b, off, f, ys, dn, B, kk, d, rfl, hbb, hx, q0, q1, q2, hkd, hdm, hri⟩ := hr.at_ hkn
      have e0 := (BW.out.cell (p := ⟨b, off + k * 3, none⟩) hbb).trans q0
      have e1 := (BW.out.cell (p := ⟨b, off + k * 3 + 1, none⟩) hbb).trans q1
      have e2 := (BW.out.cell (p := ⟨b, off + k * 3 + 2, none⟩) hbb).trans q2
      have hyl := hide hri.len
      have HX := hide hx; have Q1 := hide q1
      have k0 : (0 : Int) ≤ k := by omega
      have k2 : (k : Int) < n := by omega
      have h6 : kk ≤ 1048576 := by have := hsm _ (List.mem_of_getElem? hx); dsimp only at this; rw [hyl.out] at this; exact this
      have s1 : S3 w (.slice B kk d) kk ys := S3.of_args hkd h6 hri
      have hb1 := hbb
      clear q0 q1 q2 hx
      cases hv : txnB (f, ys, dn)
      · have hf := histB_bad HX.out hv
        have F := hide hf; have V := hide hv; clear hf hv
        go_wp2_with fail
        refine (spec_TxnValid_c (s1.below BW.out)).mono ?_
        rintro e w2 ⟨rfl, b2⟩
        rw [V.out]
        go_wp2_with fail
        go_ret
        exact ⟨by rw [F.out]; rfl, below_step BW.out b2⟩
      · have hal := all_snocA HALL.out HX.out hv
        have HAL := hide hal; have V := hide hv; clear hal hv
        go_wp2_with fail
        refine (spec_TxnValid_c (s1.below BW.out)).mono ?_
        rintro e w2 ⟨rfl, b2⟩
        rw [V.out]
        have B2 := hide (below_step BW.out b2)
        clear e0 e1 e2 b2
        go_wp2_with fail
        go_loopw [4] (fun i wr2 => ∃ j : Nat, i = .int .i64 j ∧ j ≤ kk ∧ OnceTo ts k j ∧ Below w.heap.size w wr2) (fun i _ => kk - (intOf i).toNat)
        case atStart => exact ⟨0, rfl, Nat.zero_le _, HON.out, B2.out⟩
        case round =>
          clear B2
          obtain ⟨j, rfl, hj, hon, bw⟩ := hrel
          rename World => wr2
          have HON2 := hide hon; have BW2 := hide bw; clear hon bw
          have e1 := (BW2.out.cell (p := ⟨b, off + k * 3 + 1, none⟩) hb1).trans Q1.out
          by_cases hjk : j < kk
          · obtain ⟨b2, off2, x, y, z, rfl, hbb2, hx2, p0, p1, p2⟩ := hri.at_ hjk
            have a0 := (BW2.out.cell (p := ⟨b2, off2 + j * 3, none⟩) hbb2).trans p0
            have a1 := (BW2.out.cell (p := ⟨b2, off2 + j * 3 + 1, none⟩) hbb2).trans p1
            have a2 := (BW2.out.cell (p := ⟨b2, off2 + j * 3 + 2, none⟩) hbb2).trans p2
            have HX2 := hide hx2
            have j0 : (0 : Int) ≤ j := by omega
            have j2 : (j : Int) < kk := by omega
            have b8 : Below w.heap.size w (wr2.alloc (.cells #[.int .i64 x, .int .i64 y, .int .i64 z] 61)) := BW2.out.alloc BW2.out.size _
            have K8 := Blk.new wr2 61 #[.int .i64 x, .int .i64 y, .int .i64 z]
            obtain ⟨f0, f1, f2⟩ := K8.three
            clear hx2 p0 p1 p2 K8
            by_cases hx : x = 2
            · subst hx
              have hct : (wl (allOps ts)).count (y, z) ≤ (allOps ts).length := by
                have h1 := List.count_le_length (a := (y, z)) (l := wl (allOps ts))
                have h2 := wl_len (allOps ts)
                omega
              by_cases hc1 : (wl (allOps ts)).count (y, z) ≤ 1
              · have hon2 := OnceTo.w HON2.out HX.out HX2.out rfl hc1
                have HO := hide hon2
                obtain ⟨C, hC⟩ : ∃ C, (wl (allOps ts)).count (y, z) = C := ⟨_, rfl⟩
                have HC := hide hC
                rw [hC] at hc1 hct
                have hc2 : ¬ ((1 : Int) < (C : Int)) := by omega
                clear hon2 hC
                go_wp2_with fail
                refine (l2Writes_c (hr.below b8) hn hsum hsm).mono ?_
                rintro e w3 ⟨rfl, b3⟩
                rw [HC.out]
                have B3 := below_step b8 b3
                go_wp2_with fail
                go_roundw
                case rel => exact ⟨j + 1, by go_num, by omega, HO.out, B3⟩
                case measure => simp [intOf]; omega
              · have hf := histB_dup (show 1 < (wl (allOps ts)).count (y, z) by omega)
                have F := hide hf
                obtain ⟨C, hC⟩ : ∃ C, (wl (allOps ts)).count (y, z) = C := ⟨_, rfl⟩
                have HC := hide hC
                rw [hC] at hc1 hct
                have hc2 : (1 : Int) < (C : Int) := by omega
                clear hf hC
                go_wp2_with fail
                refine (l2Writes_c (hr.below b8) hn hsum hsm).mono ?_
                rintro e w3 ⟨rfl, b3⟩
                rw [HC.out]
                have B3 := below_step b8 b3
                go_wp2_with fail
                go_ret
                exact ⟨by rw [F.out]; rfl, B3⟩
            · have hon2 := OnceTo.r HON2.out HX.out HX2.out hx
              have HO := hide hon2
              have hxb : (x == 2) = false := by simpa using hx
              clear hon2 hx
              go_wp2_with fail
              go_roundw
              case rel => exact ⟨j + 1, by go_num, by omega, HO.out, b8⟩
              case measure => simp [intOf]; omega
          · obtain rfl : j = kk := by omega
            have hnx := opsTo_next HX.out (show ys.length ≤ j by rw [hyl.out]; omega)
            have hon2 : OnceTo ts (k + 1) 0 := by unfold OnceTo; rw [hnx]; exact HON2.out
            have HO := hide hon2; clear hnx hon2
            go_wp2_with fail
            go_roundw
            case rel => exact ⟨k + 1, by go_num, by omega, HAL.out, HO.out, BW2.out⟩
            case measure => simp [intOf]; omega
    · obtain rfl : k = n := by omega
      have h1 := HALL.out
      rw [List.take_of_length_le (by rw [hl.out]; omega)] at h1
      have hf : histB ts = decide (k ≤ 6) := by
        unfold histB; rw [h1, decide_eq_true (once_nodup HON.out (by rw [hl.out]; omega)), hl.out]; simp
      have F := hide hf; clear hf h1
      go_wp2_with fail
      go_ret
      exact ⟨by rw [F.out]; simp [go_sem]; omega, BW.out⟩
end Go.Proofs.YtcfkemchekmjbaaGreatDoor
