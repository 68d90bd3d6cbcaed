/- Merged (what the law reaches): LwS2, LwM, LwI, Bad1. -/
import Derived.Test.YtcfkemchekmjbaaGreatDoorVm
import Derived.Maps.OwnSet
import Derived.Maps.OwnOps
import Derived.ProofKit
namespace Go.Proofs.YtcfkemchekmjbaaGreatDoor
open Go.RowKit
/-- A new slice of ops. -/
def RetO (w : World) (ts : List T3) (e : Ending) (w' : World) : Prop := ∃ r k, e = .returned r ∧ O3 61 w' w.heap.size r k ts ∧ Below w.heap.size w w'
set_option maxRecDepth 100000 in
set_option maxHeartbeats 8000000 in
theorem spec_LastWrites_c {v : Value} {m : Nat} {ys : List T3} {f : Int} {dn : Bool} {w : World} (hv : S3 w v m ys) (hok : txnB (f, ys, dn) = true) :
    Calls Tryz.prog 44 #[.agg #[.int .i64 f, v, .bool dn]] w (RetO w (lastW ys)) := by
  have sv := hv
  obtain ⟨A, c, rfl, hnc, hm, hr⟩ := hv
  have hl := hide hr.len
  have Hok := hide hok; clear hok
  have B0 : Below w.heap.size w ((w.alloc (.cells #[.int .i64 f, .slice A m c, .bool dn] 66)).alloc (.cells #[] 61)) := ((Below.refl _ _).alloc (Nat.le_refl _) _).alloc (by simp) _
  have K0 := (Blk.new w 66 #[.int .i64 f, .slice A m c, .bool dn]).alloc (.cells #[] 61)
  have o0 := (O3.empty 61 (w.alloc (.cells #[.int .i64 f, .slice A m c, .bool dn] 66)))
  simp only [World.size_alloc] at o0
  go_enter Tryz.func44, Tryz.ntmps44
  go_wp2_with fail
  go_loopw [3, 4] (fun s i wr => ∃ q : Nat, i = .int .i64 q ∧ q ≤ 3 ∧ O3 61 wr (w.heap.size + 1) s (lastTo ys q).length (lastTo ys q) ∧ Blk wr w.heap.size 66 #[.int .i64 f, .slice A m c, .bool dn] ∧ Below w.heap.size w wr) (fun _ i _ => 3 - (intOf i).toNat)
  case atStart => exact ⟨0, rfl, by omega, o0, K0, B0⟩
  case round =>
    clear B0 K0 o0
    obtain ⟨q, rfl, hq, ho, KR, bw⟩ := hrel
    have hlen := lastTo_len ys q
    obtain ⟨Ao, co, rfl⟩ := ho.shape
    by_cases hq3 : q < 3
    · have hq0 : (0 : Int) ≤ q := by omega
      have hq2 : (q : Int) ≤ 2 := by omega
      obtain ⟨g0, g1, g2⟩ := KR.three
      go_wp2_with fail
      refine (spec_TxnValid_c (sv.below bw)).mono ?_
      rintro e w2 ⟨rfl, b2⟩
      rw [Hok.out]
      have B2 := below_step bw b2
      replace ho := ho.below b2
      replace KR := KR.belowAll b2
      clear g0 g1 g2
      obtain ⟨g0, g1, g2⟩ := KR.three
      have hz2 : w.heap.size + 1 ≤ w2.heap.size := KR.lt
      have HKR := hide KR; have HO := hide ho
      clear KR ho
      go_wp2_with fail
      go_loopw [3, 5] (fun s i wr => s = .slice Ao (lastTo ys q).length co ∧ ∃ k : Nat, k ≤ m ∧ i = .int .i64 ((k : Int) - 1) ∧ NoneK ys q k ∧ wr = w2) (fun _ i _ => (intOf i + 1).toNat)
      case atStart => exact ⟨rfl, m, Nat.le_refl _, rfl, by have := NoneK.start (ys := ys) (key := q); rw [hl.out] at this; exact this, rfl⟩
      case round =>
        obtain ⟨rfl, k, hk, rfl, hno, rfl⟩ := hrel
        have Hno := hide hno; clear hno
        cases k with
        | zero =>
          have hf : lastTo ys (q + 1) = lastTo ys q := by rw [lastTo_succ, Hno.out.none_]; simp
          have F := hide hf; clear hf
          go_wp2_with fail
          go_roundw
          case rel => exact ⟨q + 1, by go_num, by omega, by rw [F.out]; exact HO.out, HKR.out, B2⟩
          case measure => simp [intOf]; omega
        | succ j =>
          obtain ⟨b, off, x, y, z, rfl, hbb, hx, p0, p1, p2⟩ := hr.at_ (show j < m by omega)
          have a0 := (B2.cell (p := ⟨b, off + j * 3, none⟩) hbb).trans p0
          have a1 := (B2.cell (p := ⟨b, off + j * 3 + 1, none⟩) hbb).trans p1
          have a2 := (B2.cell (p := ⟨b, off + j * 3 + 2, none⟩) hbb).trans p2
          have Hx := hide hx
          clear hx p0 p1 p2
          have j0 : (0 : Int) ≤ j := by omega
          have j2 : (j : Int) < m := by omega
          have hjj : ((j + 1 : Nat) : Int) - 1 = j := by omega
          rw [hjj]
          clear hjj
          by_cases hxy : x = 2 ∧ y = q
          · obtain ⟨rfl, rfl⟩ := hxy
            have hf : lastTo ys (q + 1) = lastTo ys q ++ [(2, (q : Int), z)] := by rw [lastTo_succ, Hno.out.found Hx.out ⟨rfl, rfl⟩]; rfl
            have F := hide hf; clear hf
            have KN := Blk.new wr 61 #[.int .i64 2, .int .i64 (q : Int), .int .i64 z]
            have o4 := HO.out.alloc (.cells #[.int .i64 2, .int .i64 (q : Int), .int .i64 z] 61)
            have B4 : Below w.heap.size w (wr.alloc (.cells #[.int .i64 2, .int .i64 (q : Int), .int .i64 z] 61)) := B2.alloc B2.size _
            have hz4 : w.heap.size + 1 ≤ (wr.alloc (.cells #[.int .i64 2, .int .i64 (q : Int), .int .i64 z] 61)).heap.size := by simp; omega
            have K4 := HKR.out.alloc (.cells #[.int .i64 2, .int .i64 (q : Int), .int .i64 z] 61)
            have hln : (lastTo ys q).length + 1 ≤ 1048576 := by omega
            go_wp2_with (at_builtin; refine wpList_app3 rfl _ _ rfl Tryz.underlying64 infoOpz rfl o4 rfl (S3.one KN (Nat.le_refl _)) hln hz4 ?_; intro v1 w4 h4 hg4 hat; have K5 := K4.grown hg4 (o4.far (by omega)); have B5 := below_app3 B4 o4 (by omega) hg4)
            go_roundw
            case rel => exact ⟨q + 1, by go_num, by omega, by rw [F.out, List.length_append]; exact h4, K5, B5⟩
            case measure => simp [intOf]; omega
          · have hq' := Hno.out.step Hx.out hxy
            have F := hide hq'
            clear hq'
            by_cases hx2 : x = 2
            · subst hx2
              have hyb : (y == (q : Int)) = false := by simpa using hxy
              clear hxy
              go_wp2_with fail
              go_roundw
              case rel => exact ⟨rfl, j, by omega, by go_num, F.out, trivial⟩
              case measure => simp [intOf]
            · have hxb : (x == 2) = false := by simpa using hx2
              clear hxy hx2
              go_wp2_with fail
              go_roundw
              case rel => exact ⟨rfl, j, by omega, by go_num, F.out, trivial⟩
              case measure => simp [intOf]
    · obtain rfl : q = 3 := by omega
      go_wp2_with fail
      go_ret
      refine ⟨_, (lastTo ys 3).length, rfl, ?_, bw⟩
      rw [← lastTo_three]
      exact ho.mono (by omega)
end Go.Proofs.YtcfkemchekmjbaaGreatDoor

namespace Go.Proofs.YtcfkemchekmjbaaGreatDoor
open Go.RowKit Go.Maps
def opV (o : T3) : Value := .agg #[.int .i64 o.1, .int .i64 o.2.1, .int .i64 o.2.2]
def RV : Value → Option (DataW Value × List MemPlace) := fun v => some (.held v, [])
theorem lawInt : Keyed Tryz.prog 3 := int_keyed Tryz.underlying3
def kI (x : Int) : Lit := .int .i64 x
def wfI (x : Int) : Prop := (Lit.int .i64 x).wf = true
theorem kI_inj {x y : Int} (h : kI x = kI y) : x = y := by unfold kI at h; injection h
theorem keyInt {x : Int} (h : wfI x) : keyOf Tryz.prog 3 (.int .i64 x) = some (kI x) := keyOf_int_mk Tryz.underlying3 h
theorem wfI_small {x : Int} (h0 : 0 ≤ x) (h1 : x ≤ 1000) : wfI x := WalkArith.wf_i64 (by omega)
theorem zeroOp (w : World) : (zeroValue 61).run Tryz.prog w = .ok (opV (0, 0, 0)) w := by kernel_rfl
/-- The map at block b: the last writes among ops. -/
def Last (w : World) (b n : Nat) (os : List T3) : Prop :=
  ∃ D : DataW Value, w.ownsMap Tryz.prog 3 RV b n D ∧ ∀ q, Maps.has D (kI q) = (lastK os q).isSome ∧ D.atKey (kI q) (.held (opV (0, 0, 0))) = .held (opV ((lastK os q).getD (0, 0, 0)))
theorem Last.zero (w : World) : Last (w.alloc (.map #[] 0)) w.heap.size 0 [] :=
  ⟨_, World.ownsMap_made w _ _ _, fun _ => ⟨rfl, rfl⟩⟩
theorem Last.lt {w : World} {b n : Nat} {os : List T3} (h : Last w b n os) : b < w.heap.size := by obtain ⟨D, ho, _⟩ := h; exact ho.lt
theorem Last.below {w w' : World} {b n : Nat} {os : List T3} (h : Last w b n os) (hb : Below w.heap.size w w') : Last w' b n os := by
  obtain ⟨D, ho, h2⟩ := h
  have hlt := ho.lt
  obtain ⟨es, cl, h3, h4⟩ := ho
  exact ⟨D, ⟨es, cl, (hb.block b hlt).trans h3, h4⟩, h2⟩
theorem Last.alloc {w : World} {b n : Nat} {os : List T3} (h : Last w b n os) (o : Obj) : Last (w.alloc o) b n os := h.below ((Below.refl _ _).alloc (Nat.le_refl _) _)
theorem Last.kept {w w' : World} {row : Option Nat} {b n : Nat} {os : List T3} (h : Last w b n os) (hg : w.grownBy w' row) (hne : some b ≠ row) : Last w' b n os := by
  obtain ⟨D, ho, h2⟩ := h
  exact ⟨D, ho.kept hg hne, h2⟩
theorem Last.skip {w : World} {b n k : Nat} {os : List T3} {o : T3} (h : Last w b n (os.take k)) (hk : os[k]? = some o) (ho : o.1 ≠ 2) : Last w b n (os.take (k + 1)) := by
  obtain ⟨D, h1, h2⟩ := h
  refine ⟨D, h1, fun q => ?_⟩
  rw [List.take_add_one, hk]
  simp only [Option.toList_some]
  rw [lastK_snoc, if_neg (fun h => ho h.1)]
  exact h2 q
theorem Last.step {w' : World} {b n k : Nat} {os : List T3} {o : T3} {D : DataW Value} (hm : IsMap D)
    (h2 : ∀ q, Maps.has D (kI q) = (lastK (os.take k) q).isSome ∧ D.atKey (kI q) (.held (opV (0, 0, 0))) = .held (opV ((lastK (os.take k) q).getD (0, 0, 0))))
    (hk : os[k]? = some o) (ho : o.1 = 2) (h : w'.ownsMap Tryz.prog 3 RV b n (D.put (kI o.2.1) (.held (opV o)))) : Last w' b n (os.take (k + 1)) := by
  refine ⟨_, h, fun q => ?_⟩
  rw [List.take_add_one, hk]
  simp only [Option.toList_some]
  rw [lastK_snoc]
  by_cases e : o.2.1 = q
  · subst e
    rw [if_pos ⟨ho, rfl⟩, has_put_same hm (show Go.WideAt.IsKeyLit (kI _) from trivial), atKey_put_same hm (show Go.WideAt.IsKeyLit (kI _) from trivial)]
    exact ⟨rfl, rfl⟩
  · rw [if_neg (fun h => e h.2), has_put_other (fun h => e (kI_inj h).symm), atKey_put_other (fun h => e (kI_inj h).symm)]
    exact h2 q
theorem txnB_op {f : Int} {dn : Bool} {ys : List T3} (h : txnB (f, ys, dn) = true) {k : Nat} {o : T3} (hk : ys[k]? = some o) : opB o = true := by
  unfold txnB at h
  simp only [Bool.and_eq_true] at h
  exact List.all_eq_true.1 h.1 o (List.mem_of_getElem? hk)
theorem txnB_len {f : Int} {dn : Bool} {ys : List T3} (h : txnB (f, ys, dn) = true) : ys.length ≤ 6 := by
  unfold txnB at h; simp at h; exact h.2.2
theorem opB_key {x y z : Int} (h : opB (x, y, z) = true) : 0 ≤ y ∧ y ≤ 2 := by
  unfold opB at h; simp only [Bool.and_eq_true] at h; exact (inB_iff _ _ _).1 h.2.1
end Go.Proofs.YtcfkemchekmjbaaGreatDoor

namespace Go.Proofs.YtcfkemchekmjbaaGreatDoor
open Go.RowKit Go.Maps
set_option maxRecDepth 100000 in
set_option maxHeartbeats 8000000 in
theorem impl_lastWrites_c {v : Value} {m : Nat} {ys : List T3} {f : Int} {dn : Bool} {w : World} (hv : S3 w v m ys) (hok : txnB (f, ys, dn) = true) :
    Calls Tryz.prog 38 #[.agg #[.int .i64 f, v, .bool dn]] w (RetO w (lastW ys)) := by
  obtain ⟨A, c, rfl, hnc, hm, hr⟩ := hv
  have hl := hide hr.len
  have Hok := hide hok; clear hok
  have hm6 : m ≤ 6 := by have := txnB_len Hok.out; rw [hl.out] at this; exact this
  have hmk := fun (v : World) => run_makeMap (P := Tryz.prog) 126 v
  have B0 : Below w.heap.size w ((w.alloc (.cells #[.int .i64 f, .slice A m c, .bool dn] 66)).alloc (.map #[] 0)) := ((Below.refl _ _).alloc (Nat.le_refl _) _).alloc (by simp) _
  have M0 := Last.zero (w.alloc (.cells #[.int .i64 f, .slice A m c, .bool dn] 66))
  have K0 := (Blk.new w 66 #[.int .i64 f, .slice A m c, .bool dn]).alloc (.map #[] 0)
  obtain ⟨g0, g1, g2⟩ := K0.three
  simp only [World.size_alloc] at M0
  clear K0
  go_enter Tryz.func38, Tryz.ntmps38
  go_wp2_with fail
  clear g0 g1 g2
  go_loopw [14] (fun i wr => ∃ k : Nat, k ≤ m ∧ i = .int .i64 k ∧ Last wr (w.heap.size + 1) k (ys.take k) ∧ Below w.heap.size w wr) (fun i _ => m - (intOf i).toNat)
  case atStart => exact ⟨0, Nat.zero_le _, rfl, M0, B0⟩
  case round =>
    clear B0 M0
    obtain ⟨k, hk, rfl, hla, bw⟩ := hrel
    have HLA := hide hla; clear hla
    have hz1 : w.heap.size + 2 ≤ wr.heap.size := HLA.out.lt
    by_cases hkm : k < m
    · obtain ⟨b, off, x, y, z, rfl, hbb, hx, p0, p1, p2⟩ := hr.at_ hkm
      have a0 := (bw.cell (p := ⟨b, off + k * 3, none⟩) hbb).trans p0
      have a1 := (bw.cell (p := ⟨b, off + k * 3 + 1, none⟩) hbb).trans p1
      have a2 := (bw.cell (p := ⟨b, off + k * 3 + 2, none⟩) hbb).trans p2
      have hkey := opB_key (txnB_op Hok.out hx)
      have hwf := wfI_small hkey.1 (by omega)
      have hko := keyInt hwf
      have Hx := hide hx; have HKO := hide hko
      clear hx p0 p1 p2 hko
      have k0 : (0 : Int) ≤ k := by omega
      have k2 : (k : Int) < m := by omega
      have b1 : Below w.heap.size w (wr.alloc (.cells #[.int .i64 x, .int .i64 y, .int .i64 z] 61)) := bw.alloc bw.size _
      have K1 := Blk.new wr 61 #[.int .i64 x, .int .i64 y, .int .i64 z]
      go_wp2_with fail
      refine (writes_c).mono ?_
      rintro e w2 ⟨rfl, b2⟩
      have B2 := below_step b1 b2
      have K2 := K1.belowAll b2
      have HL2 := hide ((HLA.out.alloc (.cells #[.int .i64 x, .int .i64 y, .int .i64 z] 61)).below b2)
      obtain ⟨f0, f1, f2⟩ := K2.three
      clear K1 K2
      by_cases hx2 : x = 2
      · subst hx2
        obtain ⟨D, hown, hD⟩ := HL2.out
        have HM := hide hown.isMap
        have HD := hide hD; clear hD
        have hown2 := hown
        go_wp2_with (at_mapUpdate; refine wpList_mapUpdate_own _ rfl _ _ _ 126 rfl 3 61 lawInt Tryz.underlying126 RV (w.heap.size + 1) k D rfl hown2 (by unfold maxLen; omega) _ _ _ rfl rfl HKO.out _ [] rfl ?_; intro w3 hown3 hgrow3)
        go_roundw
        case rel => exact ⟨k + 1, by omega, by go_num, Last.step HM.out HD.out Hx.out rfl hown3, B2.grown hgrow3 B2.size (fun j e => by cases e; omega)⟩
        case measure => simp [intOf]; omega
      · have hxb : (x == 2) = false := by simpa using hx2
        have HS := hide (HL2.out.skip Hx.out hx2)
        go_wp2_with fail
        go_roundw
        case rel => exact ⟨k + 1, by omega, by go_num, by obtain ⟨D, h1, h2⟩ := HS.out; exact ⟨D, h1.mono (by omega), h2⟩, B2⟩
        case measure => simp [intOf]; omega
    · obtain rfl : k = m := by omega
      have HT := hide (show ys.take k = ys from by rw [← hl.out]; exact List.take_length)
      obtain ⟨D, hown, hD⟩ := HLA.out
      rw [HT.out] at hD
      have HD := hide hD; clear hD
      have hsz : Maps.size D ≤ k := hown.size_le
      have hownk := hown
      have hmk2 := run_make_Opc (Maps.size D) (by omega)
      have B3 : Below w.heap.size w (wr.alloc (.cells ((List.replicate (Maps.size D * 3) (Value.int .i64 0)).toArray) 61)) := bw.alloc bw.size _
      have O0 := (O3.made (w := wr) (Maps.size D) (by omega)).mono (show w.heap.size + 2 ≤ wr.heap.size by omega)
      have L0 : Last (wr.alloc (.cells ((List.replicate (Maps.size D * 3) (Value.int .i64 0)).toArray) 61)) (w.heap.size + 1) k ys := ⟨D, hownk.alloc _, HD.out⟩
      have HB3 := hide B3; have HO0 := hide O0; have HL0 := hide L0
      clear B3 O0 L0
      go_wp2_with (at_len; refine wpList_len_own _ rfl _ 126 rfl 3 61 Tryz.underlying126 RV (w.heap.size + 1) k D rfl hown ?_)
      go_loopw [6, 28] (fun s i wr' => ∃ q : Nat, i = .int .i64 q ∧ q ≤ 3 ∧ O3 61 wr' (w.heap.size + 2) s (lastTo ys q).length (lastTo ys q) ∧ Last wr' (w.heap.size + 1) k ys ∧ Below w.heap.size w wr') (fun _ i _ => 3 - (intOf i).toNat)
      case atStart => exact ⟨0, rfl, by omega, HO0.out, HL0.out, HB3.out⟩
      case round =>
        clear HB3 HO0 HL0 hownk hown hmk2 HD hsz
        obtain ⟨q, rfl, hq, ho, hla, bw3⟩ := hrel
        have hlen := lastTo_len ys q
        obtain ⟨Ao, co, rfl⟩ := ho.shape
        have HO := hide ho; clear ho
        by_cases hq3 : q < 3
        · have hq0 : (0 : Int) ≤ q := by omega
          have hq2 : (q : Int) ≤ 2 := by omega
          have HKO := hide (keyInt (wfI_small hq0 (by omega)))
          obtain ⟨E, hownE, hE⟩ := hla
          have HE := hide hE; clear hE
          have hlt := hownE.lt
          cases hK : lastK ys (q : Int) with
          | none =>
            have hf : lastTo ys (q + 1) = lastTo ys q := by rw [lastTo_succ, hK]; simp
            have F := hide hf; have HK := hide hK
            clear hf hK
            have HHas := hide (show Maps.has E (kI q) = false from by rw [(HE.out _).1, HK.out]; rfl)
            go_wp2_with (at_lookup; refine wpList_lookup_own_ok _ rfl _ _ 126 rfl 3 61 lawInt Tryz.underlying126 RV (zeroOp _) (.held (opV (0, 0, 0))) [] rfl (w.heap.size + 1) k E rfl hownE _ _ rfl HKO.out ?_; intro vv pp hvv; obtain rfl : vv = opV (0, 0, 0) := (by rw [(HE.out _).2, HK.out] at hvv; have := congrArg (fun x => x.map Prod.fst) hvv; simpa [RV] using this); rw [HHas.out]; dsimp only [opV])
            go_roundw
            case rel => exact ⟨q + 1, by go_num, by omega, by rw [F.out]; exact HO.out.alloc _, ⟨E, hownE.alloc _, HE.out⟩, bw3.alloc bw3.size _⟩
            case measure => simp [intOf]; omega
          | some o =>
            obtain ⟨x, y, z⟩ := o
            have hf : lastTo ys (q + 1) = lastTo ys q ++ [(x, y, z)] := by rw [lastTo_succ, hK]; rfl
            have F := hide hf; have HK := hide hK
            clear hf hK
            have HHas := hide (show Maps.has E (kI q) = true from by rw [(HE.out _).1, HK.out]; rfl)
            obtain ⟨W, hW⟩ : ∃ W, wr.alloc (.cells #[.int .i64 x, .int .i64 y, .int .i64 z] 61) = W := ⟨_, rfl⟩
            have KX : Blk W wr.heap.size 61 #[.int .i64 x, .int .i64 y, .int .i64 z] := by rw [← hW]; exact Blk.new wr _ _
            have bW : Below w.heap.size w W := by rw [← hW]; exact bw3.alloc bw3.size _
            have oW : O3 61 W (w.heap.size + 2) (.slice Ao (lastTo ys q).length co) (lastTo ys q).length (lastTo ys q) := by rw [← hW]; exact HO.out.alloc _
            have lW : Last W (w.heap.size + 1) k ys := by rw [← hW]; exact ⟨E, hownE.alloc _, HE.out⟩
            have zW : wr.heap.size + 1 = W.heap.size := by rw [← hW]; simp
            have KN := Blk.new W 61 #[.int .i64 x, .int .i64 y, .int .i64 z]
            have o4 := oW.alloc (.cells #[.int .i64 x, .int .i64 y, .int .i64 z] 61)
            have B4 : Below w.heap.size w (W.alloc (.cells #[.int .i64 x, .int .i64 y, .int .i64 z] 61)) := bW.alloc bW.size _
            have l4 := lW.alloc (.cells #[.int .i64 x, .int .i64 y, .int .i64 z] 61)
            have hz4 : w.heap.size + 2 ≤ (W.alloc (.cells #[.int .i64 x, .int .i64 y, .int .i64 z] 61)).heap.size := by simp; omega
            have hln : (lastTo ys q).length + 1 ≤ 1048576 := by omega
            obtain ⟨f0, f1, f2⟩ := KX.three
            go_wp2_with (first | (at_lookup; refine wpList_lookup_own_ok _ rfl _ _ 126 rfl 3 61 lawInt Tryz.underlying126 RV (zeroOp _) (.held (opV (0, 0, 0))) [] rfl (w.heap.size + 1) k E rfl hownE _ _ rfl HKO.out ?_; intro vv pp hvv; obtain rfl : vv = opV (x, y, z) := (by rw [(HE.out _).2, HK.out] at hvv; have := congrArg (fun x => x.map Prod.fst) hvv; simpa [RV] using this); rw [HHas.out]; dsimp only [opV]) | (at_builtin; refine wpList_app3 rfl _ _ rfl Tryz.underlying64 infoOpz rfl o4 rfl (S3.one KN (Nat.le_refl _)) hln hz4 ?_; intro v1 w4 h4 hg4 hat; have L5 := l4.kept hg4 (o4.far (by omega)); have B5 := below_app3 B4 o4 (by omega) hg4))
            go_roundw
            case rel => exact ⟨q + 1, by go_num, by omega, by rw [F.out, List.length_append]; exact h4, L5, B5⟩
            case measure => simp [intOf]; omega
        · obtain rfl : q = 3 := by omega
          have ho := HO.out
          go_wp2_with fail
          go_ret
          refine ⟨_, (lastTo ys 3).length, rfl, ?_, bw3⟩
          rw [← lastTo_three]
          exact ho.mono (by omega)
end Go.Proofs.YtcfkemchekmjbaaGreatDoor

namespace Go.Proofs.YtcfkemchekmjbaaGreatDoor
open Go.RowKit
set_option maxHeartbeats 2000000 in
theorem IndexOp_c {u : Value} {n : Nat} {zs : List T3} {x y z : Int} {w : World} (hu : S3 w u n zs) :
    Calls Tryz.prog 233 #[u, .agg #[.int .i64 x, .int .i64 y, .int .i64 z]] w fun e w' => ∃ i : Int, e = .returned (.int .i64 i) ∧ (0 ≤ i ↔ (x, y, z) ∈ zs) ∧ Below w.heap.size w w' := by
  obtain ⟨A, c, rfl, _, hn, ha⟩ := hu
  have hl := hide ha.len
  have B0 := hide ((Below.refl w.heap.size w).alloc (Nat.le_refl _) (.cells #[.int .i64 x, .int .i64 y, .int .i64 z] 61))
  have KB := hide (Blk.new w 61 #[.int .i64 x, .int .i64 y, .int .i64 z])
  have hlt := KB.out.lt
  have hq := eqOpL
  go_enter Tryz.func233, Tryz.ntmps233
  go_wp2_with fail
  go_loopw [8] (fun i wr => ∃ k : Nat, k ≤ n ∧ i = .int .i64 k ∧ (x, y, z) ∉ zs.take k ∧ Blk wr w.heap.size 61 #[.int .i64 x, .int .i64 y, .int .i64 z] ∧ Below w.heap.size w wr) (fun i _ => n - (intOf i).toNat)
  case atStart => exact ⟨0, Nat.zero_le _, rfl, by simp, KB.out, B0.out⟩
  case round =>
    clear KB B0 hlt
    obtain ⟨k, hk, rfl, hno, hK, hbel⟩ := hrel
    have HNO := hide hno; clear hno
    by_cases hlt : k < n
    · obtain ⟨b2, o2, x', y', z', rfl, hb2, hx', q0, q1, q2⟩ := ha.at_ hlt
      have d0 := (hbel.cell (p := ⟨b2, o2 + k * 3, none⟩) hb2).trans q0
      have d1 := (hbel.cell (p := ⟨b2, o2 + k * 3 + 1, none⟩) hb2).trans q1
      have d2 := (hbel.cell (p := ⟨b2, o2 + k * 3 + 2, none⟩) hb2).trans q2
      obtain ⟨e0, e1, e2⟩ := hK.three
      have HK := hide hK
      have k0 : (0 : Int) ≤ k := by omega
      have k1 : (k : Int) < n := by omega
      have HX := hide hx'
      clear q0 q1 q2 hx' hK
      by_cases he : (x, y, z) = (x', y', z')
      · have hmem : (x, y, z) ∈ zs := by rw [he]; exact List.mem_of_getElem? HX.out
        have HM := hide hmem
        have hb : (x == x' && (y == y' && z == z')) = true := by simpa using he
        clear hmem he
        go_wp2_with fail
        go_region
        all_goals
          go_wp2_with fail
          go_ret
          exact ⟨k, rfl, ⟨fun _ => HM.out, fun _ => k0⟩, hbel.drew⟩
      · have hno2 : (x, y, z) ∉ zs.take (k + 1) := by
          rw [List.take_add_one, HX.out]
          intro hm
          rcases List.mem_append.1 hm with hm | hm
          · exact HNO.out hm
          · simp at hm; exact he (by rw [hm.1, hm.2.1, hm.2.2])
        have HN2 := hide hno2
        have hb : (x == x' && (y == y' && z == z')) = false := by simpa using he
        clear hno2 he
        go_wp2_with fail
        go_region
        all_goals
          go_wp2_with fail
          go_roundw
        case rel => exact ⟨k + 1, by omega, by go_num, HN2.out, HK.out.drew, hbel.drew⟩
        case measure => simp [intOf]; omega
    · obtain rfl : k = n := by omega
      have hnm : (x, y, z) ∉ zs := by have := HNO.out; rwa [← hl.out, List.take_length] at this
      have HNM := hide hnm; clear hnm
      go_wp2_with fail
      go_ret
      exact ⟨-1, rfl, ⟨fun h => by omega, fun h => absurd h HNM.out⟩, hbel⟩
set_option maxHeartbeats 2000000 in
theorem ContainsOp_c {u : Value} {n : Nat} {zs : List T3} {x y z : Int} {w : World} (hu : S3 w u n zs) :
    Calls Tryz.prog 198 #[u, .agg #[.int .i64 x, .int .i64 y, .int .i64 z]] w fun e w' => e = .returned (.bool (decide ((x, y, z) ∈ zs))) ∧ Below w.heap.size w w' := by
  have hb := (Below.refl w.heap.size w).alloc (Nat.le_refl _) (.cells #[.int .i64 x, .int .i64 y, .int .i64 z] 61)
  obtain ⟨e0, e1, e2⟩ := (Blk.new w 61 #[.int .i64 x, .int .i64 y, .int .i64 z]).three
  have hu2 := hu.below hb
  obtain ⟨A, c, rfl⟩ := hu.shape
  go_enter Tryz.func198, Tryz.ntmps198
  go_wp2_with fail
  refine (IndexOp_c hu2).mono ?_
  rintro e w2 ⟨i, rfl, hi, b2⟩
  have hd : decide (0 ≤ i) = decide ((x, y, z) ∈ zs) := by rw [decide_eq_decide]; exact hi
  have HD := hide hd
  clear hi hd e0 e1 e2
  go_wp2_with fail
  go_ret
  exact ⟨congrArg (fun b => Ending.returned (.bool b)) HD.out, hb.trans (b2.mono hb.size)⟩
theorem lastW_mem_iff {ys : List T3} {key val : Int} (h : txnB (0, ys, true) = true) : (2, key, val) ∈ lastW ys ↔ lastK ys key = some (2, key, val) := by
  unfold lastW
  simp only [List.mem_append, Option.mem_toList]
  constructor
  · rintro (h | h | h)
    · have := (lastK_some h).2.2; dsimp only at this; subst this; exact h
    · have := (lastK_some h).2.2; dsimp only at this; subst this; exact h
    · have := (lastK_some h).2.2; dsimp only at this; subst this; exact h
  · intro hl
    have hm := (lastK_some hl).1
    obtain ⟨j, hj⟩ := List.getElem?_of_mem hm
    have := txnB_opH h hj
    unfold opB at this
    simp only [Bool.and_eq_true, inB_iff] at this
    have hk := this.2.1
    have : key = 0 ∨ key = 1 ∨ key = 2 := by omega
    rcases this with rfl | rfl | rfl
    · exact .inl hl
    · exact .inr (.inl hl)
    · exact .inr (.inr hl)
theorem txnB_any {f : Int} {ys : List T3} {dn : Bool} (h : txnB (f, ys, dn) = true) : txnB (0, ys, true) = true := by
  unfold txnB at *
  simp only [Bool.and_eq_true, inB_iff] at *
  exact ⟨h.1, by omega, h.2.2⟩
set_option maxRecDepth 100000 in
set_option maxHeartbeats 4000000 in
theorem LastValue_c {A : Option Addr} {n c : Nat} {ts : List Tx} {key val : Int} {w : World} (hr : RTs w A n ts) (hh : histB ts = true) (hq : wfW (key, val)) :
    Calls Tryz.prog 173 #[.slice A n c, .int .i64 key, .int .i64 val] w fun e w' => e = .returned (.bool (lastB ts key val)) ∧ Below w.heap.size w w' := by
  obtain ⟨h6, hv, hnd⟩ := histB_parts hh
  have HH := hide hh; have HV := hide hv; have HL := hide hr.1
  clear hh hv hnd
  go_enter Tryz.func173, Tryz.ntmps173
  go_wp2_with fail
  refine (WriterOf_c hr HH.out hq).mono ?_
  rintro e w2 ⟨rfl, b2⟩
  have hr2 := hr.below b2
  clear hr
  cases hw : writerN ts key val with
  | none =>
    have hf : lastB ts key val = false := by unfold lastB; rw [hw]
    have hwv : writerV ts key val = -1 := by unfold writerV; rw [hw]
    have F := hide hf
    rw [hwv]
    clear hf hwv hw
    go_wp2_with fail
    go_ret
    exact ⟨congrArg (fun b => Ending.returned (.bool b)) F.out.symm, b2⟩
  | some m =>
    have hwv : writerV ts key val = (m : Int) := by unfold writerV; rw [hw]
    obtain ⟨t, ht, _⟩ := writerN_some hw
    have hmn : m < n := by have := (List.getElem?_eq_some_iff.1 ht).1; have := HL.out; omega
    obtain ⟨b, off, f, ys, dn, B, kk, d, rfl, hbb, hx, q0, q1, q2, hkd, hdm, hri⟩ := hr2.at_ hmn
    have htv := HV.out _ (List.mem_of_getElem? hx)
    have h6k : kk ≤ 6 := by have h1 := txnB_lenH htv; have h2 := hri.len; omega
    have hf : lastB ts key val = decide ((2, key, val) ∈ lastW ys) := by
      unfold lastB; rw [hw]
      show decide (lastK (txAt ts m).2.1 key = some (2, key, val)) = _
      rw [txAt_get hx, decide_eq_decide]
      exact (lastW_mem_iff (txnB_any htv)).symm
    have F := hide hf
    have HT := hide htv
    have s3 : S3 w2 (.slice B kk d) kk ys := S3.of_args hkd (by omega) hri
    have m0 : (0 : Int) ≤ m := by omega
    have m1 : (m : Int) < n := by omega
    rw [hwv]
    clear hf hwv hw ht hx htv hri
    go_wp2_with fail
    refine (impl_lastWrites_c s3 HT.out).mono ?_
    rintro e w3 ⟨v, k, rfl, o3, b3⟩
    obtain ⟨Av, cv, rfl⟩ := o3.shape
    go_wp2_with fail
    refine (ContainsOp_c o3.s3).mono ?_
    rintro e w4 ⟨rfl, b4⟩
    go_wp2_with fail
    go_ret
    exact ⟨congrArg (fun b => Ending.returned (.bool b)) F.out.symm, below_step (below_step b2 b3) b4⟩
end Go.Proofs.YtcfkemchekmjbaaGreatDoor
