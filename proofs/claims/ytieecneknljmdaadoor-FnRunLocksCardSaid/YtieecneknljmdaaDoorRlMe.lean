/- Merged: LwM, LwI, Seen, HoldM, LockM. -/
import Derived.Test.YtieecneknljmdaaDoorRlMb
import Derived.Maps.OwnSet
import Derived.Maps.OwnOps
import Derived.ProofKit
import Derived.Test.YtieecneknljmdaaDoorRunI5
namespace Go.Proofs.YtieecneknljmdaaDoor
open Go.RowKit Go.Maps

def opV (o : T3) : Value := .agg #[.int .i64 o.1, .int .i64 o.2.1, .int .i64 o.2.2]
def RV : Value → Option (DataW Value × List MemPlace) := fun v => some (.held v, [])
theorem lawInt : Keyed Tryd.prog 3 := int_keyed Tryd.underlying3
def kI (x : Int) : Lit := .int .i64 x
def wfI (x : Int) : Prop := (Lit.int .i64 x).wf = true
theorem kI_inj {x y : Int} (h : kI x = kI y) : x = y := by unfold kI at h; injection h
theorem keyInt {x : Int} (h : wfI x) : keyOf Tryd.prog 3 (.int .i64 x) = some (kI x) := keyOf_int_mk Tryd.underlying3 h
theorem wfI_small {x : Int} (h0 : 0 ≤ x) (h1 : x ≤ 1000) : wfI x := WalkArith.wf_i64 (by omega)
theorem zeroOp (w : World) : (zeroValue 51).run Tryd.prog w = .ok (opV (0, 0, 0)) w := by kernel_rfl
/-- The map at block b: the last writes among ops. -/
def Last (w : World) (b n : Nat) (os : List T3) : Prop :=
  ∃ D : DataW Value, w.ownsMap Tryd.prog 3 RV b n D ∧ ∀ q, Maps.has D (kI q) = (lastK os q).isSome ∧ D.atKey (kI q) (.held (opV (0, 0, 0))) = .held (opV ((lastK os q).getD (0, 0, 0)))
theorem Last.zero (w : World) : Last (w.alloc (.map #[] 0)) w.heap.size 0 [] :=
  ⟨_, World.ownsMap_made w _ _ _, fun _ => ⟨rfl, rfl⟩⟩
theorem Last.lt {w : World} {b n : Nat} {os : List T3} (h : Last w b n os) : b < w.heap.size := by obtain ⟨D, ho, _⟩ := h; exact ho.lt
theorem Last.below {w w' : World} {b n : Nat} {os : List T3} (h : Last w b n os) (hb : Below w.heap.size w w') : Last w' b n os := by
  obtain ⟨D, ho, h2⟩ := h
  have hlt := ho.lt
  obtain ⟨es, cl, h3, h4⟩ := ho
  exact ⟨D, ⟨es, cl, (hb.block b hlt).trans h3, h4⟩, h2⟩
theorem Last.alloc {w : World} {b n : Nat} {os : List T3} (h : Last w b n os) (o : Obj) : Last (w.alloc o) b n os := h.below ((Below.refl _ _).alloc (Nat.le_refl _) _)
theorem Last.kept {w w' : World} {row : Option Nat} {b n : Nat} {os : List T3} (h : Last w b n os) (hg : w.grownBy w' row) (hne : some b ≠ row) : Last w' b n os := by
  obtain ⟨D, ho, h2⟩ := h
  exact ⟨D, ho.kept hg hne, h2⟩
theorem Last.skip {w : World} {b n k : Nat} {os : List T3} {o : T3} (h : Last w b n (os.take k)) (hk : os[k]? = some o) (ho : o.1 ≠ 2) : Last w b n (os.take (k + 1)) := by
  obtain ⟨D, h1, h2⟩ := h
  refine ⟨D, h1, fun q => ?_⟩
  rw [List.take_add_one, hk]
  simp only [Option.toList_some]
  rw [lastK_snoc, if_neg (fun h => ho h.1)]
  exact h2 q
theorem Last.step {w' : World} {b n k : Nat} {os : List T3} {o : T3} {D : DataW Value} (hm : IsMap D)
    (h2 : ∀ q, Maps.has D (kI q) = (lastK (os.take k) q).isSome ∧ D.atKey (kI q) (.held (opV (0, 0, 0))) = .held (opV ((lastK (os.take k) q).getD (0, 0, 0))))
    (hk : os[k]? = some o) (ho : o.1 = 2) (h : w'.ownsMap Tryd.prog 3 RV b n (D.put (kI o.2.1) (.held (opV o)))) : Last w' b n (os.take (k + 1)) := by
  refine ⟨_, h, fun q => ?_⟩
  rw [List.take_add_one, hk]
  simp only [Option.toList_some]
  rw [lastK_snoc]
  by_cases e : o.2.1 = q
  · subst e
    rw [if_pos ⟨ho, rfl⟩, has_put_same hm (show Go.WideAt.IsKeyLit (kI _) from trivial), atKey_put_same hm (show Go.WideAt.IsKeyLit (kI _) from trivial)]
    exact ⟨rfl, rfl⟩
  · rw [if_neg (fun h => e h.2), has_put_other (fun h => e (kI_inj h).symm), atKey_put_other (fun h => e (kI_inj h).symm)]
    exact h2 q
theorem txnB_op {f : Int} {dn : Bool} {ys : List T3} (h : txnB (f, ys, dn) = true) {k : Nat} {o : T3} (hk : ys[k]? = some o) : opB o = true := by
  unfold txnB at h
  simp only [Bool.and_eq_true] at h
  exact List.all_eq_true.1 h.1 o (List.mem_of_getElem? hk)
theorem txnB_len {f : Int} {dn : Bool} {ys : List T3} (h : txnB (f, ys, dn) = true) : ys.length ≤ 6 := by
  unfold txnB at h; simp at h; exact h.2.2
theorem opB_key {x y z : Int} (h : opB (x, y, z) = true) : 0 ≤ y ∧ y ≤ 2 := by
  unfold opB at h; simp only [Bool.and_eq_true] at h; exact (inB_iff _ _ _).1 h.2.1

end Go.Proofs.YtieecneknljmdaaDoor

namespace Go.Proofs.YtieecneknljmdaaDoor
open Go.RowKit Go.Maps

set_option maxRecDepth 100000 in
set_option maxHeartbeats 8000000 in
theorem impl_lastWrites_c {v : Value} {m : Nat} {ys : List T3} {f : Int} {dn : Bool} {w : World} (hv : S3 w v m ys) (hok : txnB (f, ys, dn) = true) :
    Calls Tryd.prog 68 #[.agg #[.int .i64 f, v, .bool dn]] w (RetO w (lastW ys)) := by
  obtain ⟨A, c, rfl, hnc, hm, hr⟩ := hv
  have hl := hide hr.len
  have Hok := hide hok; clear hok
  have hm6 : m ≤ 6 := by have := txnB_len Hok.out; rw [hl.out] at this; exact this
  have hmk := fun (v : World) => run_makeMap (P := Tryd.prog) 108 v
  have B0 : Below w.heap.size w ((w.alloc (.cells #[.int .i64 f, .slice A m c, .bool dn] 58)).alloc (.map #[] 0)) := ((Below.refl _ _).alloc (Nat.le_refl _) _).alloc (by simp) _
  have M0 := Last.zero (w.alloc (.cells #[.int .i64 f, .slice A m c, .bool dn] 58))
  have K0 := (Blk.new w 58 #[.int .i64 f, .slice A m c, .bool dn]).alloc (.map #[] 0)
  obtain ⟨g0, g1, g2⟩ := K0.three
  simp only [World.size_alloc] at M0
  clear K0
  go_enter Tryd.func68, Tryd.ntmps68
  go_wp2_with fail
  clear g0 g1 g2
  go_loopw [14] (fun i wr => ∃ k : Nat, k ≤ m ∧ i = .int .i64 k ∧ Last wr (w.heap.size + 1) k (ys.take k) ∧ Below w.heap.size w wr) (fun i _ => m - (intOf i).toNat)
  case atStart => exact ⟨0, Nat.zero_le _, rfl, M0, B0⟩
  case round =>
    clear B0 M0
    obtain ⟨k, hk, rfl, hla, bw⟩ := hrel
    have HLA := hide hla; clear hla
    have hz1 : w.heap.size + 2 ≤ wr.heap.size := HLA.out.lt
    by_cases hkm : k < m
    · obtain ⟨b, off, x, y, z, rfl, hbb, hx, p0, p1, p2⟩ := hr.at_ hkm
      have a0 := (bw.cell (p := ⟨b, off + k * 3, none⟩) hbb).trans p0
      have a1 := (bw.cell (p := ⟨b, off + k * 3 + 1, none⟩) hbb).trans p1
      have a2 := (bw.cell (p := ⟨b, off + k * 3 + 2, none⟩) hbb).trans p2
      have hkey := opB_key (txnB_op Hok.out hx)
      have hwf := wfI_small hkey.1 (by omega)
      have hko := keyInt hwf
      have Hx := hide hx; have HKO := hide hko
      clear hx p0 p1 p2 hko
      have k0 : (0 : Int) ≤ k := by omega
      have k2 : (k : Int) < m := by omega
      have b1 : Below w.heap.size w (wr.alloc (.cells #[.int .i64 x, .int .i64 y, .int .i64 z] 51)) := bw.alloc bw.size _
      have K1 := Blk.new wr 51 #[.int .i64 x, .int .i64 y, .int .i64 z]
      go_wp2_with fail
      refine (writes_c).mono ?_
      rintro e w2 ⟨rfl, b2⟩
      have B2 := below_step b1 b2
      have K2 := K1.belowAll b2
      have HL2 := hide ((HLA.out.alloc (.cells #[.int .i64 x, .int .i64 y, .int .i64 z] 51)).below b2)
      obtain ⟨f0, f1, f2⟩ := K2.three
      clear K1 K2
      by_cases hx2 : x = 2
      · subst hx2
        obtain ⟨D, hown, hD⟩ := HL2.out
        have HM := hide hown.isMap
        have HD := hide hD; clear hD
        have hown2 := hown
        go_wp2_with (at_mapUpdate; refine wpList_mapUpdate_own _ rfl _ _ _ 108 rfl 3 51 lawInt Tryd.underlying108 RV (w.heap.size + 1) k D rfl hown2 (by unfold maxLen; omega) _ _ _ rfl rfl HKO.out _ [] rfl ?_; intro w3 hown3 hgrow3)
        go_roundw
        case rel => exact ⟨k + 1, by omega, by go_num, Last.step HM.out HD.out Hx.out rfl hown3, B2.grown hgrow3 B2.size (fun j e => by cases e; omega)⟩
        case measure => simp [intOf]; omega
      · have hxb : (x == 2) = false := by simpa using hx2
        have HS := hide (HL2.out.skip Hx.out hx2)
        go_wp2_with fail
        go_roundw
        case rel => exact ⟨k + 1, by omega, by go_num, by obtain ⟨D, h1, h2⟩ := HS.out; exact ⟨D, h1.mono (by omega), h2⟩, B2⟩
        case measure => simp [intOf]; omega
    · obtain rfl : k = m := by omega
      have HT := hide (show ys.take k = ys from by rw [← hl.out]; exact List.take_length)
      obtain ⟨D, hown, hD⟩ := HLA.out
      rw [HT.out] at hD
      have HD := hide hD; clear hD
      have hsz : Maps.size D ≤ k := hown.size_le
      have hownk := hown
      have hmk2 := run_make_Opc (Maps.size D) (by omega)
      have B3 : Below w.heap.size w (wr.alloc (.cells ((List.replicate (Maps.size D * 3) (Value.int .i64 0)).toArray) 51)) := bw.alloc bw.size _
      have O0 := (O3.made (w := wr) (Maps.size D) (by omega)).mono (show w.heap.size + 2 ≤ wr.heap.size by omega)
      have L0 : Last (wr.alloc (.cells ((List.replicate (Maps.size D * 3) (Value.int .i64 0)).toArray) 51)) (w.heap.size + 1) k ys := ⟨D, hownk.alloc _, HD.out⟩
      have HB3 := hide B3; have HO0 := hide O0; have HL0 := hide L0
      clear B3 O0 L0
      go_wp2_with (at_len; refine wpList_len_own _ rfl _ 108 rfl 3 51 Tryd.underlying108 RV (w.heap.size + 1) k D rfl hown ?_)
      go_loopw [6, 28] (fun s i wr' => ∃ q : Nat, i = .int .i64 q ∧ q ≤ 3 ∧ O3 51 wr' (w.heap.size + 2) s (lastTo ys q).length (lastTo ys q) ∧ Last wr' (w.heap.size + 1) k ys ∧ Below w.heap.size w wr') (fun _ i _ => 3 - (intOf i).toNat)
      case atStart => exact ⟨0, rfl, by omega, HO0.out, HL0.out, HB3.out⟩
      case round =>
        clear HB3 HO0 HL0 hownk hown hmk2 HD hsz
        obtain ⟨q, rfl, hq, ho, hla, bw3⟩ := hrel
        have hlen := lastTo_len ys q
        obtain ⟨Ao, co, rfl⟩ := ho.shape
        have HO := hide ho; clear ho
        by_cases hq3 : q < 3
        · have hq0 : (0 : Int) ≤ q := by omega
          have hq2 : (q : Int) ≤ 2 := by omega
          have HKO := hide (keyInt (wfI_small hq0 (by omega)))
          obtain ⟨E, hownE, hE⟩ := hla
          have HE := hide hE; clear hE
          have hlt := hownE.lt
          cases hK : lastK ys (q : Int) with
          | none =>
            have hf : lastTo ys (q + 1) = lastTo ys q := by rw [lastTo_succ, hK]; simp
            have F := hide hf; have HK := hide hK
            clear hf hK
            have HHas := hide (show Maps.has E (kI q) = false from by rw [(HE.out _).1, HK.out]; rfl)
            go_wp2_with (at_lookup; refine wpList_lookup_own_ok _ rfl _ _ 108 rfl 3 51 lawInt Tryd.underlying108 RV (zeroOp _) (.held (opV (0, 0, 0))) [] rfl (w.heap.size + 1) k E rfl hownE _ _ rfl HKO.out ?_; intro vv pp hvv; obtain rfl : vv = opV (0, 0, 0) := (by rw [(HE.out _).2, HK.out] at hvv; have := congrArg (fun x => x.map Prod.fst) hvv; simpa [RV] using this); rw [HHas.out]; dsimp only [opV])
            go_roundw
            case rel => exact ⟨q + 1, by go_num, by omega, by rw [F.out]; exact HO.out.alloc _, ⟨E, hownE.alloc _, HE.out⟩, bw3.alloc bw3.size _⟩
            case measure => simp [intOf]; omega
          | some o =>
            obtain ⟨x, y, z⟩ := o
            have hf : lastTo ys (q + 1) = lastTo ys q ++ [(x, y, z)] := by rw [lastTo_succ, hK]; rfl
            have F := hide hf; have HK := hide hK
            clear hf hK
            have HHas := hide (show Maps.has E (kI q) = true from by rw [(HE.out _).1, HK.out]; rfl)
            obtain ⟨W, hW⟩ : ∃ W, wr.alloc (.cells #[.int .i64 x, .int .i64 y, .int .i64 z] 51) = W := ⟨_, rfl⟩
            have KX : Blk W wr.heap.size 51 #[.int .i64 x, .int .i64 y, .int .i64 z] := by rw [← hW]; exact Blk.new wr _ _
            have bW : Below w.heap.size w W := by rw [← hW]; exact bw3.alloc bw3.size _
            have oW : O3 51 W (w.heap.size + 2) (.slice Ao (lastTo ys q).length co) (lastTo ys q).length (lastTo ys q) := by rw [← hW]; exact HO.out.alloc _
            have lW : Last W (w.heap.size + 1) k ys := by rw [← hW]; exact ⟨E, hownE.alloc _, HE.out⟩
            have zW : wr.heap.size + 1 = W.heap.size := by rw [← hW]; simp
            have KN := Blk.new W 51 #[.int .i64 x, .int .i64 y, .int .i64 z]
            have o4 := oW.alloc (.cells #[.int .i64 x, .int .i64 y, .int .i64 z] 51)
            have B4 : Below w.heap.size w (W.alloc (.cells #[.int .i64 x, .int .i64 y, .int .i64 z] 51)) := bW.alloc bW.size _
            have l4 := lW.alloc (.cells #[.int .i64 x, .int .i64 y, .int .i64 z] 51)
            have hz4 : w.heap.size + 2 ≤ (W.alloc (.cells #[.int .i64 x, .int .i64 y, .int .i64 z] 51)).heap.size := by simp; omega
            have hln : (lastTo ys q).length + 1 ≤ 1048576 := by omega
            obtain ⟨f0, f1, f2⟩ := KX.three
            go_wp2_with (first | (at_lookup; refine wpList_lookup_own_ok _ rfl _ _ 108 rfl 3 51 lawInt Tryd.underlying108 RV (zeroOp _) (.held (opV (0, 0, 0))) [] rfl (w.heap.size + 1) k E rfl hownE _ _ rfl HKO.out ?_; intro vv pp hvv; obtain rfl : vv = opV (x, y, z) := (by rw [(HE.out _).2, HK.out] at hvv; have := congrArg (fun x => x.map Prod.fst) hvv; simpa [RV] using this); rw [HHas.out]; dsimp only [opV]) | (at_builtin; refine wpList_app3 rfl _ _ rfl Tryd.underlying56 infoOpz rfl o4 rfl (S3.one KN (Nat.le_refl _)) hln hz4 ?_; intro v1 w4 h4 hg4 hat; have L5 := l4.kept hg4 (o4.far (by omega)); have B5 := below_app3 B4 o4 (by omega) hg4))
            go_roundw
            case rel => exact ⟨q + 1, by go_num, by omega, by rw [F.out, List.length_append]; exact h4, L5, B5⟩
            case measure => simp [intOf]; omega
        · obtain rfl : q = 3 := by omega
          have ho := HO.out
          go_wp2_with fail
          go_ret
          refine ⟨_, (lastTo ys 3).length, rfl, ?_, bw3⟩
          rw [← lastTo_three]
          exact ho.mono (by omega)

end Go.Proofs.YtieecneknljmdaaDoor

namespace Go.Proofs.YtieecneknljmdaaDoor
open Go.RowKit Go.Maps

/-- Nothing among the first k last writes has the key. -/
theorem lastW_find (os : List T3) (key : Int) {j : Nat} {o : T3} (hj : (lastW os)[j]? = some o) (ho : o.2.1 = key) : lastK os key = some o := by
  have hm := List.mem_of_getElem? hj
  unfold lastW at hm
  simp only [List.mem_append, Option.mem_toList] at hm
  rcases hm with h | h | h
  · have e := (lastK_some h).2.2; rw [← ho, e]; exact h
  · have e := (lastK_some h).2.2; rw [← ho, e]; exact h
  · have e := (lastK_some h).2.2; rw [← ho, e]; exact h
theorem lastW_miss (os : List T3) (key : Int) (h0 : 0 ≤ key) (h2 : key ≤ 2) (h : ∀ o ∈ lastW os, o.2.1 ≠ key) : lastK os key = none := by
  cases e : lastK os key with
  | none => rfl
  | some o =>
    exfalso
    refine h o ?_ (lastK_some e).2.2
    unfold lastW
    simp only [List.mem_append, Option.mem_toList]
    have : key = 0 ∨ key = 1 ∨ key = 2 := by omega
    rcases this with rfl | rfl | rfl
    · exact .inl e
    · exact .inr (.inl e)
    · exact .inr (.inr e)
set_option maxRecDepth 100000 in
set_option maxHeartbeats 8000000 in
theorem impl_seen_c {v : Value} {m : Nat} {ys : List T3} {f : Int} {dn : Bool} {s0 s1 s2 : Int} {key : Nat} {w : World} (hv : S3 w v m ys) (hok : txnB (f, ys, dn) = true) (hkey : key ≤ 2) :
    Calls Tryd.prog 66 #[.agg #[.int .i64 f, v, .bool dn], .agg #[.int .i64 s0, .int .i64 s1, .int .i64 s2], .int .i64 key] w fun e w' => e = .returned (.int .i64 (seesV ys [s0, s1, s2] key)) ∧ Below w.heap.size w w' := by
  have b1 : Below w.heap.size w ((w.alloc (.cells #[.int .i64 f, v, .bool dn] 58)).alloc (.cells #[.int .i64 s0, .int .i64 s1, .int .i64 s2] 80)) := ((Below.refl _ _).alloc (Nat.le_refl _) _).alloc (by simp) _
  have K1 := Blk.new (w.alloc (.cells #[.int .i64 f, v, .bool dn] 58)) 80 #[.int .i64 s0, .int .i64 s1, .int .i64 s2]
  have K0 := (Blk.new w 58 #[.int .i64 f, v, .bool dn]).alloc (.cells #[.int .i64 s0, .int .i64 s1, .int .i64 s2] 80)
  have sv := hv.below b1
  simp only [World.size_alloc] at K1
  obtain ⟨g0, g1, g2⟩ := K0.three
  obtain ⟨A, c, rfl⟩ := hv.shape
  go_enter Tryd.func66, Tryd.ntmps66
  go_wp2_with fail
  refine (impl_lastWrites_c sv hok).mono ?_
  rintro e w2 ⟨r, kk, rfl, hret, b2⟩
  have B2 := below_step b1 b2
  have K2 := K1.belowAll b2
  have s2' := hret.s3
  obtain ⟨A2, c2, rfl, hnc2, hm2, hr2⟩ := s2'
  have hl2 := hide hr2.len
  have k0 : (0 : Int) ≤ key := by omega
  have k2 : (key : Int) ≤ 2 := by omega
  clear g0 g1 g2 K0 K1 hret
  go_wp2_with fail
  go_loopw [12] (fun i wr => ∃ k : Nat, k ≤ kk ∧ i = .int .i64 k ∧ (∀ j o, j < k → (lastW ys)[j]? = some o → o.2.1 ≠ (key : Int)) ∧ Below w2.heap.size w2 wr) (fun i _ => kk - (intOf i).toNat)
  case atStart => exact ⟨0, Nat.zero_le _, rfl, fun j o h => by omega, Below.refl _ _⟩
  case round =>
    obtain ⟨k, hk, rfl, hno, bw⟩ := hrel
    have Hno := hide hno; clear hno
    have BW := below_step B2 bw
    by_cases hkm : k < kk
    · obtain ⟨b, off, x, y, z, rfl, hbb, hx, p0, p1, p2⟩ := hr2.at_ hkm
      have a0 := (bw.cell (p := ⟨b, off + k * 3, none⟩) hbb).trans p0
      have a1 := (bw.cell (p := ⟨b, off + k * 3 + 1, none⟩) hbb).trans p1
      have a2 := (bw.cell (p := ⟨b, off + k * 3 + 2, none⟩) hbb).trans p2
      have Hx := hide hx
      clear hx p0 p1 p2
      have j0 : (0 : Int) ≤ k := by omega
      have j2 : (k : Int) < kk := by omega
      by_cases hy : y = key
      · have hf : seesV ys [s0, s1, s2] key = z := by unfold seesV; rw [lastW_find ys key Hx.out hy]
        have F := hide hf; clear hf
        subst hy
        go_wp2_with fail
        go_ret
        exact ⟨by rw [F.out]; rfl, BW.alloc BW.size _⟩
      · have hyb : (y == (key : Int)) = false := by simpa using hy
        have HS : Hid (∀ j o, j < k + 1 → (lastW ys)[j]? = some o → o.2.1 ≠ (key : Int)) := hide (fun j o hj he => by
          by_cases e : j = k
          · subst e; have := Hx.out.symm.trans he; injection this with this; subst this; exact hy
          · exact Hno.out j o (by omega) he)
        clear hy
        go_wp2_with fail
        go_roundw
        case rel => exact ⟨k + 1, by omega, by go_num, HS.out, bw.alloc bw.size _⟩
        case measure => simp [intOf]; omega
    · obtain rfl : k = kk := by omega
      have hmiss : lastK ys (key : Int) = none := lastW_miss ys key k0 k2 (fun o ho => by
        obtain ⟨j, hj, he⟩ := List.mem_iff_getElem.1 ho
        exact Hno.out j o (by rw [← hl2.out]; exact hj) (by rw [← he]; exact List.getElem?_eq_getElem hj))
      have hf : seesV ys [s0, s1, s2] key = [s0, s1, s2].getD key 0 := by unfold seesV; rw [hmiss]
      have F := hide hf; clear hf hmiss
      obtain ⟨f0, f1, f2⟩ := (K2.belowAll bw).three
      obtain ⟨u, hu⟩ : ∃ u, [s0, s1, s2].getD key 0 = u := ⟨_, rfl⟩
      have hcell : wr.cell? ⟨w.heap.size + 1, key, none⟩ = some (.int .i64 u) := by
        have : key = 0 ∨ key = 1 ∨ key = 2 := by omega
        rcases this with rfl | rfl | rfl
        · rw [← hu]; exact f0
        · rw [← hu]; exact f1
        · rw [← hu]; exact f2
      clear f0 f1 f2
      have k3 : (key : Int) < 3 := by omega
      rw [hu] at F
      clear hu
      go_wp2_with fail
      go_ret
      exact ⟨by rw [F.out]; rfl, BW⟩

end Go.Proofs.YtieecneknljmdaaDoor

namespace Go.Proofs.YtieecneknljmdaaDoor
open Go.RowKit Go.Maps

def holdB (ow : List Int) (q : Nat) : Bool := !decide (ow.getD q 0 = 0)
def holdV (ow : List Int) (q : Nat) : Int := if ow.getD q 0 = 0 then 0 else ow.getD q 0 - 1
def HoldD (D : DataW Unit) (ow : List Int) : Prop := ∀ q : Nat, q ≤ 2 → Maps.has D (kI q) = holdB ow q ∧ D.atKey (kI q) (.lit (.int .i64 0)) = .lit (.int .i64 (holdV ow q))
def HoldM (w : World) (b n : Nat) (ow : List Int) : Prop := ∃ D : DataW Unit, w.ownsMap Tryd.prog 3 (plainElem Tryd.prog 3) b n D ∧ HoldD D ow
theorem HoldM.zero (w : World) : HoldM (w.alloc (.map #[] 0)) w.heap.size 0 [0, 0, 0] :=
  ⟨_, World.ownsMap_made w _ _ _, fun q hq => by match q, hq with | 0, _ => exact ⟨rfl, rfl⟩ | 1, _ => exact ⟨rfl, rfl⟩ | 2, _ => exact ⟨rfl, rfl⟩⟩
theorem HoldM.lt {w : World} {b n : Nat} {ow : List Int} (h : HoldM w b n ow) : b < w.heap.size := by obtain ⟨D, ho, _⟩ := h; exact ho.lt
theorem HoldM.chg {S : Nat → Prop} {w w' : World} {b n : Nat} {ow : List Int} (h : HoldM w b n ow) (hc : Chg S w w') (hS : ¬ S b) : HoldM w' b n ow := by
  obtain ⟨D, ho, h2⟩ := h
  have hlt := ho.lt
  obtain ⟨es, cl, h3, h4⟩ := ho
  exact ⟨D, ⟨es, cl, (hc.block b hlt hS).trans h3, h4⟩, h2⟩
theorem HoldM.below {w w' : World} {b n : Nat} {ow : List Int} (h : HoldM w b n ow) (hb : Below w.heap.size w w') : HoldM w' b n ow := h.chg (S := fun _ => False) (Chg.of_below hb) id
theorem HoldM.alloc {w : World} {b n : Nat} {ow : List Int} (h : HoldM w b n ow) (o : Obj) : HoldM (w.alloc o) b n ow := h.below ((Below.refl _ _).alloc (Nat.le_refl _) _)
theorem HoldM.mono {w : World} {b n n' : Nat} {ow : List Int} (h : HoldM w b n ow) (hn : n ≤ n') : HoldM w b n' ow := by obtain ⟨D, ho, h2⟩ := h; exact ⟨D, ho.mono hn, h2⟩
theorem HoldM.notT {w : World} {lo n nh b : Nat} {v : Value} {es : List El} {ow : List Int} (h : OT w lo v n es) (hm : HoldM w b nh ow) : ¬ OT.S v es b := fun hk => by
  obtain ⟨D, ⟨es', cl, h3, _⟩, _⟩ := hm
  rcases hk with hk | ⟨j, e, hj, hk⟩
  · rcases h.row.2 with ⟨h1, _⟩ | ⟨g, cap, cur, h1, _, hb, _⟩
    · rw [h1] at hk; simp [Value.ownBlock] at hk
    · rw [h1] at hk
      have e1 : g = b := by have h : some g = some b := hk; injection h
      subst e1
      rw [h3] at hb; injection hb with hb; cases hb
  · rcases (h.own j e hj).1.2 with ⟨h1, _⟩ | ⟨g, cap, cur, h1, _, hb, _⟩
    · rw [h1] at hk; simp [Value.ownBlock] at hk
    · rw [h1] at hk
      have e1 : g = b := by have h : some g = some b := hk; injection h
      subst e1
      rw [h3] at hb; injection hb with hb; cases hb
theorem kI_nat {q q' : Nat} (h : kI q = kI q') : q = q' := by have := kI_inj h; omega
theorem HoldD.put {D : DataW Unit} {ow : List Int} (h : HoldD D ow) (hm : IsMap D) (hl : ow.length = 3) {q : Nat} (hq : q ≤ 2) (x : Nat) : HoldD (D.put (kI q) (.lit (.int .i64 x))) (ow.set q ((x : Int) + 1)) := fun q' hq' => by
  unfold holdB holdV
  rw [getD_set _ _ _ _ (by omega)]
  by_cases e : q = q'
  · subst e
    rw [if_pos rfl, has_put_same hm (show Go.WideAt.IsKeyLit (kI _) from trivial), atKey_put_same hm (show Go.WideAt.IsKeyLit (kI _) from trivial)]
    have h1 : ((x : Int) + 1 = 0) = False := by simp; omega
    simp only [h1]
    refine ⟨by simp, ?_⟩
    rw [if_neg id]
    congr 2; omega
  · rw [if_neg e, has_put_other (fun h => e (kI_nat h).symm), atKey_put_other (fun h => e (kI_nat h).symm)]
    exact h q' hq'
theorem HoldD.del {D : DataW Unit} {ow : List Int} (h : HoldD D ow) (hl : ow.length = 3) {q : Nat} (hq : q ≤ 2) : HoldD (D.del (kI q)) (ow.set q 0) := fun q' hq' => by
  unfold holdB holdV
  rw [getD_set _ _ _ _ (by omega)]
  by_cases e : q = q'
  · subst e
    rw [if_pos rfl, has_del_same, atKey_del_same]
    exact ⟨by simp, by simp⟩
  · rw [if_neg e, has_del_other (fun h => e (kI_nat h).symm), atKey_del_other (fun h => e (kI_nat h).symm)]
    exact h q' hq'
theorem zeroInt (w : World) : (zeroValue 3).run Tryd.prog w = .ok (.int .i64 0) w := by kernel_rfl

end Go.Proofs.YtieecneknljmdaaDoor

namespace Go.Proofs.YtieecneknljmdaaDoor
open Go.RowKit Go.Maps

/-- The machine, the store, the locks. -/
structure Lk (w0 : World) (sb : Nat) (A : Option Addr) (n c : Nat) (v : Value) (ts : List Tx) (st ow : List Int) (q : Nat) (es : List El) (wr : World) : Prop where
  mach : Mach wr (w0.heap.size + 1) w0.heap.size A n c v ts es
  store : Blk wr sb 80 (storeC st)
  hold : HoldM wr (sb + 1) q ow
  bel : Below w0.heap.size w0 wr
  le : w0.heap.size < sb
section
variable {w0 wr w' : World} {sb n c q : Nat} {A : Option Addr} {v : Value} {ts : List Tx} {st ow : List Int} {es : List El}
theorem Lk.ne_store (h : Lk w0 sb A n c v ts st ow q es wr) : ¬ OT.S v es sb := h.mach.own.notS h.store (by decide) (by decide)
theorem Lk.ne_hold (h : Lk w0 sb A n c v ts st ow q es wr) : ¬ OT.S v es (sb + 1) := HoldM.notT h.mach.own h.hold
theorem Lk.chg {S : Nat → Prop} (h : Lk w0 sb A n c v ts st ow q es wr) (hc : Chg S wr w') (h0 : ∀ k, S k → w0.heap.size < k) (h1 : ¬ S sb) (h2 : ¬ S (sb + 1)) (h3 : ∀ k, OT.S v es k → ¬ S k) : Lk w0 sb A n c v ts st ow q es w' :=
  ⟨h.mach.chg hc (fun hs => by have := h0 _ hs; omega) h3, h.store.chg hc h1, h.hold.chg hc h2, Chg.below h.bel hc (fun k hk => Nat.le_of_lt (h0 k hk)), h.le⟩
theorem Lk.below (h : Lk w0 sb A n c v ts st ow q es wr) (hb : Below wr.heap.size wr w') : Lk w0 sb A n c v ts st ow q es w' :=
  h.chg (S := fun _ => False) (Chg.of_below hb) (fun _ e => e.elim) id id (fun _ _ => id)
theorem Lk.alloc (h : Lk w0 sb A n c v ts st ow q es wr) (o : Obj) : Lk w0 sb A n c v ts st ow q es (wr.alloc o) := h.below ((Below.refl _ _).alloc (Nat.le_refl _) _)
theorem Lk.mono {q' : Nat} (h : Lk w0 sb A n c v ts st ow q es wr) (hq : q ≤ q') : Lk w0 sb A n c v ts st ow q' es wr := ⟨h.mach, h.store, h.hold.mono hq, h.bel, h.le⟩
/-- A store into a cell of another block. -/
theorem Lk.other {x : Nat} (h : Lk w0 sb A n c v ts st ow q es wr) (hx : sb + 1 < x) (ho : ∀ k, OT.S v es k → k < x) (i : Nat) (u : Value) : Lk w0 sb A n c v ts st ow q es (wr.setCell ⟨x, i, none⟩ u) := by
  have hle := h.le
  exact h.chg (Chg.setCell (S := fun k => k = x) (p := ⟨x, i, none⟩) rfl u) (fun k hk => by omega) (by omega) (by omega) (fun k hk e => by have := ho k hk; omega)
/-- Behind 'did'. -/
theorem Lk.did {ts' : List Tx} {es' : List El} (h : Lk w0 sb A n c v ts st ow q es wr) (M : Mach w' (w0.heap.size + 1) w0.heap.size A n c v ts' es') (hc : Chg (OT.S v es) wr w') : Lk w0 sb A n c v ts' st ow q es' w' :=
  ⟨M, h.store.chg hc h.ne_store, h.hold.chg hc h.ne_hold, Chg.below h.bel hc (fun k hk => by have := (h.mach.own.range k hk).1; omega), h.le⟩
/-- A number stored into the store. -/
theorem Lk.put (h : Lk w0 sb A n c v ts st ow q es wr) (i : Nat) (x : Int) : Lk w0 sb A n c v ts (st.set i x) ow q es (wr.setCell ⟨sb, i, none⟩ (.int .i64 x)) := by
  have hle := h.le
  have hc := Chg.setCell (w := wr) (S := fun k => k = sb) (p := ⟨sb, i, none⟩) rfl (.int .i64 x)
  have K := h.store.set_ i (.int .i64 x)
  rw [storeC_set] at K
  exact ⟨h.mach.chg hc (by omega) (fun k hk e => h.ne_store (e ▸ hk)), K, h.hold.chg hc (by omega), Chg.below h.bel hc (fun k hk => by omega), h.le⟩
/-- The map of the locks turned. -/
theorem Lk.turn {ow' : List Int} {q' : Nat} (h : Lk w0 sb A n c v ts st ow q es wr) (hg : wr.grownBy w' (some (sb + 1))) (hm : HoldM w' (sb + 1) q' ow') : Lk w0 sb A n c v ts st ow' q' es w' := by
  have hle := h.le
  have hc := Chg.of_grown (S := fun k => k = sb + 1) hg (fun k e => by injection e with e; exact e.symm)
  exact ⟨h.mach.chg hc (by omega) (fun k hk e => h.ne_hold (e ▸ hk)), h.store.chg hc (by omega), hm, Chg.below h.bel hc (fun k hk => by omega), h.le⟩
/-- A transaction's mark set. -/
theorem Lk.done {g cg : Nat} (h : Lk w0 sb A n c (.slice (some ⟨g, 0, none⟩) n cg) ts st ow q es wr) {n0 : Nat} {t : Tx} (hn : n0 < n) (ht : ts[n0]? = some t) :
    ∃ es', Lk w0 sb A n c (.slice (some ⟨g, 0, none⟩) n cg) (ts.set n0 (t.1, t.2.1, true)) st ow q es' (wr.setCell ⟨g, n0 * 3 + 2, none⟩ (.bool true)) := by
  obtain ⟨g', cg', Au, cu, hv, hnc, hlg, hgs, he, huc, c1, c2, ho⟩ := h.mach.look hn ht
  obtain ⟨rfl, rfl⟩ : g = g' ∧ cg = cg' := by simpa using hv
  have hle := h.le
  have D12 := h.mach.own.set2 he true
  have hgm : w0.heap.size ≠ g := by omega
  have hgs12 : sb ≠ g := fun e => h.ne_store (.inl (by rw [e]; rfl))
  have hgh12 : sb + 1 ≠ g := fun e => h.ne_hold (.inl (by rw [e]; rfl))
  have hsy := h.mach.says.set_ n0 (t.1, t.2.1, true) (.slice Au t.2.1.length cu) t.2.1.length
  exact ⟨_, ⟨h.mach.box.far (p := ⟨g, n0 * 3 + 2, none⟩) hgm (.bool true), D12, hsy, by omega⟩, h.store.far (p := ⟨g, n0 * 3 + 2, none⟩) hgs12 (.bool true),
    h.hold.chg (Chg.setCell (S := fun k => k = g) (p := ⟨g, n0 * 3 + 2, none⟩) rfl (.bool true)) hgh12, h.bel.setCell (p := ⟨g, n0 * 3 + 2, none⟩) (by show w0.heap.size ≤ g; omega) (.bool true), h.le⟩
end
theorem freeTo_len (n : Nat) (ow : List Int) (j : Nat) : (freeTo n ow j).length = ow.length := by unfold freeTo freeO; simp; omega
theorem commitTo_len (os : List T3) (st : List Int) (j : Nat) : (commitTo os st j).length = st.length := by
  unfold commitTo
  generalize (lastW os).take j = l
  induction l generalizing st with
  | nil => rfl
  | cons a l ih => rw [List.foldl_cons, ih]; simp
/-- What the map of locks says at a key, while they are given back. -/
theorem freeTo_hold {n : Nat} {ow : List Int} {j : Nat} {x : Int} (h : ow[j]? = some x) : holdB (freeTo n ow j) j = !decide (x = 0) ∧ holdV (freeTo n ow j) j = if x = 0 then 0 else x - 1 := by
  unfold holdB holdV
  have : (freeTo n ow j).getD j 0 = x := by rw [List.getD_eq_getElem?_getD, freeTo_at n h]; rfl
  rw [this]; exact ⟨rfl, rfl⟩
/-- A lock that may be taken: free, or one's own. -/
theorem lock_free {ow : List Int} {sy n0 : Nat} (h : ¬ (ow.getD sy 0 ≠ 0 ∧ ow.getD sy 0 ≠ (n0 : Int) + 1)) : (holdB ow sy = false ∧ holdV ow sy = 0) ∨ (holdB ow sy = true ∧ holdV ow sy = (n0 : Int)) := by
  unfold holdB holdV
  by_cases h0 : ow.getD sy 0 = 0
  · left; rw [h0]; exact ⟨by simp, by simp⟩
  · right
    have h1 : ow.getD sy 0 = (n0 : Int) + 1 := by omega
    rw [h1]; exact ⟨by simp; omega, by rw [if_neg (by omega)]; omega⟩

end Go.Proofs.YtieecneknljmdaaDoor
