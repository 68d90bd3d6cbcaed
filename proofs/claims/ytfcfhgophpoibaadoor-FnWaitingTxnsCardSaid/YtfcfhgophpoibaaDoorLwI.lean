/- impl.lastWrites. -/
import Derived.Test.YtfcfhgophpoibaaDoorLwM
namespace Go.Proofs.YtfcfhgophpoibaaDoor
open Go.RowKit Go.Maps

set_option maxRecDepth 100000 in
set_option maxHeartbeats 8000000 in
theorem impl_lastWrites_c {v : Value} {m : Nat} {ys : List T3} {f : Int} {dn : Bool} {w : World} (hv : S3 w v m ys) (hok : txnB (f, ys, dn) = true) :
    Calls Tryd.prog 48 #[.agg #[.int .i64 f, v, .bool dn]] w (RetO w (lastW ys)) := by
  obtain ⟨A, c, rfl, hnc, hm, hr⟩ := hv
  have hl := hide hr.len
  have Hok := hide hok; clear hok
  have hm6 : m ≤ 6 := by have := txnB_len Hok.out; rw [hl.out] at this; exact this
  have hmk := fun (v : World) => run_makeMap (P := Tryd.prog) 91 v
  have B0 : Below w.heap.size w ((w.alloc (.cells #[.int .i64 f, .slice A m c, .bool dn] 35)).alloc (.map #[] 0)) := ((Below.refl _ _).alloc (Nat.le_refl _) _).alloc (by simp) _
  have M0 := Last.zero (w.alloc (.cells #[.int .i64 f, .slice A m c, .bool dn] 35))
  have K0 := (Blk.new w 35 #[.int .i64 f, .slice A m c, .bool dn]).alloc (.map #[] 0)
  obtain ⟨g0, g1, g2⟩ := K0.three
  simp only [World.size_alloc] at M0
  clear K0
  go_enter Tryd.func48, Tryd.ntmps48
  go_wp2_with fail
  clear g0 g1 g2
  go_loopw [14] (fun i wr => ∃ k : Nat, k ≤ m ∧ i = .int .i64 k ∧ Last wr (w.heap.size + 1) k (ys.take k) ∧ Below w.heap.size w wr) (fun i _ => m - (intOf i).toNat)
  case atStart => exact ⟨0, Nat.zero_le _, rfl, M0, B0⟩
  case round =>
    clear B0 M0
    obtain ⟨k, hk, rfl, hla, bw⟩ := hrel
    have HLA := hide hla; clear hla
    have hz1 : w.heap.size + 2 ≤ wr.heap.size := HLA.out.lt
    by_cases hkm : k < m
    · obtain ⟨b, off, x, y, z, rfl, hbb, hx, p0, p1, p2⟩ := hr.at_ hkm
      have a0 := (bw.cell (p := ⟨b, off + k * 3, none⟩) hbb).trans p0
      have a1 := (bw.cell (p := ⟨b, off + k * 3 + 1, none⟩) hbb).trans p1
      have a2 := (bw.cell (p := ⟨b, off + k * 3 + 2, none⟩) hbb).trans p2
      have hkey := opB_key (txnB_op Hok.out hx)
      have hwf := wfI_small hkey.1 (by omega)
      have hko := keyInt hwf
      have Hx := hide hx; have HKO := hide hko
      clear hx p0 p1 p2 hko
      have k0 : (0 : Int) ≤ k := by omega
      have k2 : (k : Int) < m := by omega
      have b1 : Below w.heap.size w (wr.alloc (.cells #[.int .i64 x, .int .i64 y, .int .i64 z] 53)) := bw.alloc bw.size _
      have K1 := Blk.new wr 53 #[.int .i64 x, .int .i64 y, .int .i64 z]
      go_wp2_with fail
      refine (writes_c).mono ?_
      rintro e w2 ⟨rfl, b2⟩
      have B2 := below_step b1 b2
      have K2 := K1.belowAll b2
      have HL2 := hide ((HLA.out.alloc (.cells #[.int .i64 x, .int .i64 y, .int .i64 z] 53)).below b2)
      obtain ⟨f0, f1, f2⟩ := K2.three
      clear K1 K2
      by_cases hx2 : x = 2
      · subst hx2
        obtain ⟨D, hown, hD⟩ := HL2.out
        have HM := hide hown.isMap
        have HD := hide hD; clear hD
        have hown2 := hown
        go_wp2_with (at_mapUpdate; refine wpList_mapUpdate_own _ rfl _ _ _ 91 rfl 3 53 lawInt Tryd.underlying91 RV (w.heap.size + 1) k D rfl hown2 (by unfold maxLen; omega) _ _ _ rfl rfl HKO.out _ [] rfl ?_; intro w3 hown3 hgrow3)
        go_roundw
        case rel => exact ⟨k + 1, by omega, by go_num, Last.step HM.out HD.out Hx.out rfl hown3, B2.grown hgrow3 B2.size (fun j e => by cases e; omega)⟩
        case measure => simp [intOf]; omega
      · have hxb : (x == 2) = false := by simpa using hx2
        have HS := hide (HL2.out.skip Hx.out hx2)
        go_wp2_with fail
        go_roundw
        case rel => exact ⟨k + 1, by omega, by go_num, by obtain ⟨D, h1, h2⟩ := HS.out; exact ⟨D, h1.mono (by omega), h2⟩, B2⟩
        case measure => simp [intOf]; omega
    · obtain rfl : k = m := by omega
      have HT := hide (show ys.take k = ys from by rw [← hl.out]; exact List.take_length)
      obtain ⟨D, hown, hD⟩ := HLA.out
      rw [HT.out] at hD
      have HD := hide hD; clear hD
      have hsz : Maps.size D ≤ k := hown.size_le
      have hownk := hown
      have hmk2 := run_make_Opc (Maps.size D) (by omega)
      have B3 : Below w.heap.size w (wr.alloc (.cells ((List.replicate (Maps.size D * 3) (Value.int .i64 0)).toArray) 53)) := bw.alloc bw.size _
      have O0 := (O3.made (w := wr) (Maps.size D) (by omega)).mono (show w.heap.size + 2 ≤ wr.heap.size by omega)
      have L0 : Last (wr.alloc (.cells ((List.replicate (Maps.size D * 3) (Value.int .i64 0)).toArray) 53)) (w.heap.size + 1) k ys := ⟨D, hownk.alloc _, HD.out⟩
      have HB3 := hide B3; have HO0 := hide O0; have HL0 := hide L0
      clear B3 O0 L0
      go_wp2_with (at_len; refine wpList_len_own _ rfl _ 91 rfl 3 53 Tryd.underlying91 RV (w.heap.size + 1) k D rfl hown ?_)
      go_loopw [6, 28] (fun s i wr' => ∃ q : Nat, i = .int .i64 q ∧ q ≤ 3 ∧ O3 53 wr' (w.heap.size + 2) s (lastTo ys q).length (lastTo ys q) ∧ Last wr' (w.heap.size + 1) k ys ∧ Below w.heap.size w wr') (fun _ i _ => 3 - (intOf i).toNat)
      case atStart => exact ⟨0, rfl, by omega, HO0.out, HL0.out, HB3.out⟩
      case round =>
        clear HB3 HO0 HL0 hownk hown hmk2 HD hsz
        obtain ⟨q, rfl, hq, ho, hla, bw3⟩ := hrel
        have hlen := lastTo_len ys q
        obtain ⟨Ao, co, rfl⟩ := ho.shape
        have HO := hide ho; clear ho
        by_cases hq3 : q < 3
        · have hq0 : (0 : Int) ≤ q := by omega
          have hq2 : (q : Int) ≤ 2 := by omega
          have HKO := hide (keyInt (wfI_small hq0 (by omega)))
          obtain ⟨E, hownE, hE⟩ := hla
          have HE := hide hE; clear hE
          have hlt := hownE.lt
          cases hK : lastK ys (q : Int) with
          | none =>
            have hf : lastTo ys (q + 1) = lastTo ys q := by rw [lastTo_succ, hK]; simp
            have F := hide hf; have HK := hide hK
            clear hf hK
            have HHas := hide (show Maps.has E (kI q) = false from by rw [(HE.out _).1, HK.out]; rfl)
            go_wp2_with (at_lookup; refine wpList_lookup_own_ok _ rfl _ _ 91 rfl 3 53 lawInt Tryd.underlying91 RV (zeroOp _) (.held (opV (0, 0, 0))) [] rfl (w.heap.size + 1) k E rfl hownE _ _ rfl HKO.out ?_; intro vv pp hvv; obtain rfl : vv = opV (0, 0, 0) := (by rw [(HE.out _).2, HK.out] at hvv; have := congrArg (fun x => x.map Prod.fst) hvv; simpa [RV] using this); rw [HHas.out]; dsimp only [opV])
            go_roundw
            case rel => exact ⟨q + 1, by go_num, by omega, by rw [F.out]; exact HO.out.alloc _, ⟨E, hownE.alloc _, HE.out⟩, bw3.alloc bw3.size _⟩
            case measure => simp [intOf]; omega
          | some o =>
            obtain ⟨x, y, z⟩ := o
            have hf : lastTo ys (q + 1) = lastTo ys q ++ [(x, y, z)] := by rw [lastTo_succ, hK]; rfl
            have F := hide hf; have HK := hide hK
            clear hf hK
            have HHas := hide (show Maps.has E (kI q) = true from by rw [(HE.out _).1, HK.out]; rfl)
            obtain ⟨W, hW⟩ : ∃ W, wr.alloc (.cells #[.int .i64 x, .int .i64 y, .int .i64 z] 53) = W := ⟨_, rfl⟩
            have KX : Blk W wr.heap.size 53 #[.int .i64 x, .int .i64 y, .int .i64 z] := by rw [← hW]; exact Blk.new wr _ _
            have bW : Below w.heap.size w W := by rw [← hW]; exact bw3.alloc bw3.size _
            have oW : O3 53 W (w.heap.size + 2) (.slice Ao (lastTo ys q).length co) (lastTo ys q).length (lastTo ys q) := by rw [← hW]; exact HO.out.alloc _
            have lW : Last W (w.heap.size + 1) k ys := by rw [← hW]; exact ⟨E, hownE.alloc _, HE.out⟩
            have zW : wr.heap.size + 1 = W.heap.size := by rw [← hW]; simp
            have KN := Blk.new W 53 #[.int .i64 x, .int .i64 y, .int .i64 z]
            have o4 := oW.alloc (.cells #[.int .i64 x, .int .i64 y, .int .i64 z] 53)
            have B4 : Below w.heap.size w (W.alloc (.cells #[.int .i64 x, .int .i64 y, .int .i64 z] 53)) := bW.alloc bW.size _
            have l4 := lW.alloc (.cells #[.int .i64 x, .int .i64 y, .int .i64 z] 53)
            have hz4 : w.heap.size + 2 ≤ (W.alloc (.cells #[.int .i64 x, .int .i64 y, .int .i64 z] 53)).heap.size := by simp; omega
            have hln : (lastTo ys q).length + 1 ≤ 1048576 := by omega
            obtain ⟨f0, f1, f2⟩ := KX.three
            go_wp2_with (first | (at_lookup; refine wpList_lookup_own_ok _ rfl _ _ 91 rfl 3 53 lawInt Tryd.underlying91 RV (zeroOp _) (.held (opV (0, 0, 0))) [] rfl (w.heap.size + 1) k E rfl hownE _ _ rfl HKO.out ?_; intro vv pp hvv; obtain rfl : vv = opV (x, y, z) := (by rw [(HE.out _).2, HK.out] at hvv; have := congrArg (fun x => x.map Prod.fst) hvv; simpa [RV] using this); rw [HHas.out]; dsimp only [opV]) | (at_builtin; refine wpList_app3 rfl _ _ rfl Tryd.underlying33 infoOpz rfl o4 rfl (S3.one KN (Nat.le_refl _)) hln hz4 ?_; intro v1 w4 h4 hg4 hat; have L5 := l4.kept hg4 (o4.far (by omega)); have B5 := below_app3 B4 o4 (by omega) hg4))
            go_roundw
            case rel => exact ⟨q + 1, by go_num, by omega, by rw [F.out, List.length_append]; exact h4, L5, B5⟩
            case measure => simp [intOf]; omega
        · obtain rfl : q = 3 := by omega
          have ho := HO.out
          go_wp2_with fail
          go_ret
          refine ⟨_, (lastTo ys 3).length, rfl, ?_, bw3⟩
          rw [← lastTo_three]
          exact ho.mono (by omega)

end Go.Proofs.YtfcfhgophpoibaaDoor
