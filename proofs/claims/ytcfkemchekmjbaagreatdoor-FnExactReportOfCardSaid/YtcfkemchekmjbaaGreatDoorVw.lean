/- Merged (what the law reaches): Far1, Far2, Wv7, ShelfS. -/
import Derived.Test.YtcfkemchekmjbaaGreatDoorVv
import Derived.Laws.StructEq
import Derived.Shelf.Strings.Builder1
import Derived.Shelf.Small.Bits
import Derived.Shelf.Small.Wraps
import Derived.Shelf.Strconv.Itoa0
import Derived.Shelf.Strconv.Itoa1
import Derived.Shelf.LaysM
import Derived.Shelf.Strconv.Itoa2
import Derived.Shelf.Strconv.Itoa3
import Derived.Shelf.Strings.Prefix
import Derived.Shelf.Slices.Turned
import Derived.Shelf.Slices.Equal
import Derived.Shelf.Slices.Clone
import Derived.Shelf.Slices.SearchI
import Derived.Shelf.SlicesE.Clone
import Derived.Shelf.SortM.Plain
import Derived.Shelf.SortM.SortNone
import Derived.Shelf.SlSortCmp.NoneTotal
import Derived.Shelf.SlIterI.Sorted
import Derived.Test.YtcfkemchekmjbaaGreatDoorProg
import Derived.Below
namespace Go.Proofs.YtcfkemchekmjbaaGreatDoor
open Go.RowKit
theorem relax_yes {t : Int} {xs : List Int} {a b : Nat} {z fx : Int} (hb : xs[b]? = some t) (ha : xs[a]? = some fx) (hn : fx < 0) : relax t xs ((a : Int), (b : Int), z) = xs.set a (t + 1) := by
  unfold relax
  simp only [Int.toNat_natCast, List.getD_eq_getElem?_getD, hb, ha]
  simp [hn]
theorem relax_no {t : Int} {xs : List Int} {a b : Nat} {z fx fy : Int} (hb : xs[b]? = some fy) (ha : xs[a]? = some fx) (hn : ¬ (fy = t ∧ fx < 0)) : relax t xs ((a : Int), (b : Int), z) = xs := by
  unfold relax
  simp only [Int.toNat_natCast, List.getD_eq_getElem?_getD, hb, ha]
  rw [if_neg (by simpa using hn)]
set_option maxRecDepth 100000 in
set_option maxHeartbeats 8000000 in
theorem l9Far_c {many tgt n : Nat} {v : Value} {es : List T3} {w : World} (hs : S3 w v n es) (hm : many ≤ 6) (ht : tgt < many) (hR : InR many es) :
    Calls Tryz.prog 232 #[.int .i64 (many : Int), v, .int .i64 (tgt : Int)] w (RetI w (farL many es tgt)) := by
  obtain ⟨A, c, rfl, hnc, hn, hr⟩ := hs
  have hl := hide hr.len
  have hRR := hide hR
  have o0 := hide (OI.empty w)
  have b0 := hide ((Below.refl w.heap.size w).alloc (Nat.le_refl _) (.cells #[] 3))
  clear hR
  go_enter Tryz.func232, Tryz.ntmps232
  go_wp2_with fail
  go_loopw [7, 8] (fun q i W => ∃ k : Nat, i = .int .i64 k ∧ k ≤ many ∧ OI W w.heap.size q k (List.replicate k (-1)) ∧ Below w.heap.size w W) (fun _ i _ => many - (intOf i).toNat)
  case atStart => exact ⟨0, rfl, Nat.zero_le _, o0.out, b0.out⟩
  case round =>
    clear o0 b0
    obtain ⟨k, rfl, hk, ho, bw⟩ := hrel
    rename World => wr
    have HO := hide ho; have BW := hide bw
    by_cases hkm : k < many
    · have k2 : (k : Int) < many := by omega
      have sone : SI (wr.alloc (.cells #[.int .i64 (-1)] 3)) (.slice (some ⟨wr.heap.size, 0, none⟩) 1 1) 1 [-1] := SI.one _ _ _ (by omega)
      have oa := hide (ho.alloc (.cells #[.int .i64 (-1)] 3))
      have ba := hide (bw.alloc bw.size (.cells #[.int .i64 (-1)] 3))
      clear ho bw
      go_wp2_with (at_builtin; refine wpList_appI rfl _ _ rfl rfl oa.out rfl sone (by omega) (ba.out.size) ?_; intro v7 w7 o7 hg7 _)
      have B7 := Below.grown ba.out hg7 ba.out.size (fun q hq => (World.ownsRow.lt oa.out.1 q hq).1)
      go_roundw
      case rel => exact ⟨k + 1, by go_num, by omega, by rw [List.replicate_succ']; exact o7, B7⟩
      case measure => simp [intOf]; omega
    · obtain rfl : k = many := by omega
      obtain ⟨a1, k1, rfl, hk1, hm1, q1, _, hg1⟩ := ho.form
      obtain ⟨g, o2, x2, rfl, _, _, _⟩ := q1.at_ ht
      obtain ⟨g', hge, hBg, hgs⟩ := hg1 _ rfl
      injection hge with e1 e2; subst e1; subst e2
      obtain ⟨u, hu, hcell⟩ := ho.cell tgt ht
      have hfr := ho.free tgt
      have t2 : (tgt : Int) < k := by omega
      have os := hide (show OI (wr.setCell ⟨g, tgt, none⟩ (.int .i64 0)) w.heap.size (.slice (some ⟨g, 0, none⟩) k k1) k (farTo k es tgt 0) from ho.store tgt 0)
      have bs := hide (bw.setCell (p := ⟨g, tgt, none⟩) hBg (.int .i64 0))
      clear hu ho bw HO BW hg1 q1
      go_wp2_with fail
      go_loopw [9] (fun i W => ∃ t : Nat, i = .int .i64 t ∧ t ≤ k ∧ OI W w.heap.size (.slice (some ⟨g, 0, none⟩) k k1) k (farTo k es tgt t) ∧ Below w.heap.size w W ∧ g < W.heap.size) (fun i _ => k - (intOf i).toNat)
      case atStart => exact ⟨0, rfl, Nat.zero_le _, os.out, bs.out, by rw [size_setCell]; exact hgs⟩
      case round =>
        clear os bs hcell hfr
        obtain ⟨t, rfl, ht6, ho, bw, hgw⟩ := hrel
        rename World => w2
        have HO := hide ho; have BW := hide bw
        clear ho bw
        by_cases htk : t < k
        · have t3 : (t : Int) < k := by omega
          go_wp2_with fail
          go_loopw [10] (fun i W => ∃ j : Nat, i = .int .i64 j ∧ j ≤ n ∧ OI W w.heap.size (.slice (some ⟨g, 0, none⟩) k k1) k (roundF t (farTo k es tgt t) (es.take j)) ∧ Below w.heap.size w W ∧ g < W.heap.size) (fun i _ => n - (intOf i).toNat)
          case atStart => exact ⟨0, rfl, Nat.zero_le _, HO.out, BW.out, hgw⟩
          case round =>
            clear HO BW
            obtain ⟨j, rfl, hj, ho, bw, hgw3⟩ := hrel
            rename World => w3
            generalize hxs : roundF (t : Int) (farTo k es tgt t) (es.take j) = xs at ho
            have HXS := hide hxs; clear hxs
            by_cases hjn : j < n
            · obtain ⟨b, off, x, y, z, rfl, hbk, hx, p0, p1, p2⟩ := hr.at_ hjn
              have hin := hRR.out _ (List.mem_of_getElem? hx)
              dsimp only at hin
              obtain ⟨x, rfl⟩ : ∃ q : Nat, x = q := ⟨x.toNat, by omega⟩
              obtain ⟨y, rfl⟩ : ∃ q : Nat, y = q := ⟨y.toNat, by omega⟩
              have hxk : x < k := by omega
              have hyk : y < k := by omega
              have a0 := (bw.cell (p := ⟨b, off + j * 3, none⟩) hbk).trans p0
              have a1 := (bw.cell (p := ⟨b, off + j * 3 + 1, none⟩) hbk).trans p1
              have a2 := (bw.cell (p := ⟨b, off + j * 3 + 2, none⟩) hbk).trans p2
              obtain ⟨fx, hfx, cx⟩ := ho.cell x hxk
              obtain ⟨fy, hfy, cy⟩ := ho.cell y hyk
              have cx' : ∀ o, (w3.alloc o).cell? ⟨g, x, none⟩ = some (.int .i64 fx) := fun o => by obtain ⟨c2, h2, h3⟩ := (ho.alloc o).cell x hxk; rw [hfx] at h2; injection h2 with h2; rw [h2]; exact h3
              have cy' : ∀ o, (w3.alloc o).cell? ⟨g, y, none⟩ = some (.int .i64 fy) := fun o => by obtain ⟨c2, h2, h3⟩ := (ho.alloc o).cell y hyk; rw [hfy] at h2; injection h2 with h2; rw [h2]; exact h3
              have fr' : ∀ o, (w3.alloc o).frozen? ⟨g, x, none⟩ = false := fun o => (ho.alloc o).free x
              have bel := hide bw; have HO := hide ho
              have hsn : roundF (t : Int) (farTo k es tgt t) (es.take (j + 1)) = relax t xs ((x : Int), (y : Int), z) := by
                rw [List.take_add_one, hx]; show roundF _ _ (es.take j ++ [_]) = _; rw [roundF_snoc, HXS.out]
              have HSN := hide hsn; have HX := hide hx
              have j2 : (j : Int) < n := by omega
              have x2 : (x : Int) < k := by omega
              have y2 : (y : Int) < k := by omega
              clear p0 p1 p2 hx hin hsn ho bw cx cy
              by_cases h1 : fy = t
              · subst h1
                by_cases h2 : fx < 0
                · have hq := hide (relax_yes (z := z) hfy hfx h2)
                  clear hfy hfx
                  go_wp2_with fail
                  go_roundw
                  case rel =>
                    refine ⟨j + 1, by go_num, by omega, ?_, (bel.out.setCell (p := ⟨g, x, none⟩) hBg _).alloc (by rw [size_setCell]; exact bel.out.size) _, by rw [World.size_alloc, size_setCell]; omega⟩
                    rw [HSN.out, hq.out]
                    exact (HO.out.store x _).alloc _
                  case measure => simp [intOf]; omega
                · have hq := hide (relax_no (z := z) (t := (t : Int)) hfy hfx (fun e => h2 e.2))
                  clear hfy hfx
                  go_wp2_with fail
                  go_roundw
                  case rel => exact ⟨j + 1, by go_num, by omega, by rw [HSN.out, hq.out]; exact HO.out.alloc _, bel.out.alloc bel.out.size _, by rw [World.size_alloc]; omega⟩
                  case measure => simp [intOf]; omega
              · have hq := hide (relax_no (z := z) (t := (t : Int)) hfy hfx (fun e => h1 e.1))
                have h1b : (fy == (t : Int)) = false := by simpa using h1
                clear hfy hfx h1
                go_wp2_with fail
                go_roundw
                case rel => exact ⟨j + 1, by go_num, by omega, by rw [HSN.out, hq.out]; exact HO.out.alloc _, bel.out.alloc bel.out.size _, by rw [World.size_alloc]; omega⟩
                case measure => simp [intOf]; omega
            · obtain rfl : j = n := by omega
              have HO := hide ho; have BW := hide bw
              clear ho bw
              go_wp2_with fail
              go_roundw
              case rel => exact ⟨t + 1, by go_num, by omega, by
                  have := HO.out; rw [← HXS.out, List.take_of_length_le (by rw [hl.out]; omega)] at this; exact this, BW.out, hgw3⟩
              case measure => simp [intOf]; omega
        · obtain rfl : t = k := by omega
          go_wp2_with fail
          go_ret
          exact ⟨_, t, rfl, HO.out, BW.out⟩
end Go.Proofs.YtcfkemchekmjbaaGreatDoor

namespace Go.Proofs.YtcfkemchekmjbaaGreatDoor
open Go.RowKit
theorem infoEz : (Tryz.prog.info? 146).map (fun i => (i.zero, i.size, i.bytes)) = some (some (.agg #[.int .i64 0, .int .i64 0, .int .i64 0]), 3, 24) := by kernel_rfl
/-- A new slice of edges. -/
def RetE (w : World) (ts : List T3) (e : Ending) (w' : World) : Prop := ∃ r, e = .returned r ∧ O3 146 w' w.heap.size r ts.length ts ∧ Below w.heap.size w w'
theorem upto_snoc {es : List T3} {j : Nat} {k : Int} {e : T3} (h : es[j]? = some e) : upto (es.take (j + 1)) k = upto (es.take j) k ++ (if e.2.2 ≤ k then [e] else []) := by
  rw [List.take_add_one, h]
  unfold upto
  rw [List.filter_append]
  by_cases c : e.2.2 ≤ k
  · simp [c]
  · simp [c]
set_option maxRecDepth 100000 in
set_option maxHeartbeats 4000000 in
theorem l10Upto_c {n : Nat} {kind : Int} {v : Value} {es : List T3} {w : World} (hs : S3 w v n es) :
    Calls Tryz.prog 231 #[v, .int .i64 kind] w (RetE w (upto es kind)) := by
  obtain ⟨A, c, rfl, hnc, hn, hr⟩ := hs
  have hl := hide hr.len
  have o0 := hide (O3.empty 146 w)
  have b0 := hide ((Below.refl w.heap.size w).alloc (Nat.le_refl _) (.cells #[] 146))
  go_enter Tryz.func231, Tryz.ntmps231
  go_wp2_with fail
  go_loopw [5, 6] (fun q i W => ∃ k : Nat, i = .int .i64 k ∧ k ≤ n ∧ O3 146 W w.heap.size q (upto (es.take k) kind).length (upto (es.take k) kind) ∧ Below w.heap.size w W) (fun _ i _ => n - (intOf i).toNat)
  case atStart => exact ⟨0, rfl, Nat.zero_le _, o0.out, b0.out⟩
  case round =>
    clear o0 b0
    obtain ⟨k, rfl, hk, ho, bw⟩ := hrel
    rename World => wr
    have HO := hide ho; have BW := hide bw
    have hlen : (upto (es.take k) kind).length ≤ k := Nat.le_trans (List.length_filter_le _ _) (by rw [List.length_take]; omega)
    obtain ⟨Ao, co, rfl⟩ := ho.shape
    by_cases hkn : k < n
    · obtain ⟨b, off, x, y, z, rfl, hbk, hx, p0, p1, p2⟩ := hr.at_ hkn
      have a0 := (bw.cell (p := ⟨b, off + k * 3, none⟩) hbk).trans p0
      have a1 := (bw.cell (p := ⟨b, off + k * 3 + 1, none⟩) hbk).trans p1
      have a2 := (bw.cell (p := ⟨b, off + k * 3 + 2, none⟩) hbk).trans p2
      have hsn := hide (upto_snoc (k := kind) hx)
      have k2 : (k : Int) < n := by omega
      have hz1 := bw.size
      clear p0 p1 p2 hx ho bw
      by_cases hz : z ≤ kind
      · have KN := Blk.new wr 146 #[.int .i64 x, .int .i64 y, .int .i64 z]
        have o4 := HO.out.alloc (.cells #[.int .i64 x, .int .i64 y, .int .i64 z] 146)
        have B4 := BW.out.alloc BW.out.size (.cells #[.int .i64 x, .int .i64 y, .int .i64 z] 146)
        have hz4 : w.heap.size ≤ (wr.alloc (.cells #[.int .i64 x, .int .i64 y, .int .i64 z] 146)).heap.size := by rw [World.size_alloc]; omega
        have hln : (upto (es.take k) kind).length + 1 ≤ 1048576 := by omega
        go_wp2_with (at_builtin; refine wpList_app3 rfl _ _ rfl Tryz.underlying97 infoEz rfl o4 rfl (S3.one KN (Nat.le_refl _)) hln hz4 ?_; intro v1 w4 h4 hg4 hat; have B5 := below_app3 B4 o4 (Nat.le_refl _) hg4)
        go_roundw
        case rel => exact ⟨k + 1, by go_num, by omega, by rw [hsn.out, if_pos hz, List.length_append]; exact h4, B5⟩
        case measure => simp [intOf]; omega
      · go_wp2_with fail
        go_roundw
        case rel => exact ⟨k + 1, by go_num, by omega, by rw [hsn.out, if_neg hz, List.append_nil]; exact HO.out, BW.out⟩
        case measure => simp [intOf]; omega
    · obtain rfl : k = n := by omega
      have he : es.take k = es := List.take_of_length_le (by rw [hl.out]; omega)
      rw [he] at HO
      go_wp2_with fail
      go_ret
      refine ⟨_, rfl, ?_, BW.out⟩
      rw [he]; exact HO.out
theorem farTo_le {many tgt : Nat} {es : List T3} (hR : InR many es) (ht : tgt < many) (x : Nat) : (farL many es tgt).getD x (-1) ≤ many := by
  have h := farTo_inv hR ht many
  by_cases c : 0 ≤ (farL many es tgt).getD x (-1)
  · obtain ⟨n, hn, hv, _⟩ := h.1 x c
    have hv' : (farL many es tgt).getD x (-1) = n := hv
    omega
  · omega
/-- The edge leads out of s to where s is reached from. -/
def goodE (many : Nat) (es : List T3) (s : Nat) (e : T3) : Bool := decide (e.1 = (s : Int)) && decide (0 ≤ (farL many es s).getD e.2.1.toNat (-1))
theorem cycB_eq (many : Nat) (es : List T3) : cycB many es = (List.range many).any fun s => es.any (goodE many es s) := rfl
theorem cycB_hit {many s : Nat} {es : List T3} (hs : s < many) (h : es.any (goodE many es s) = true) : cycB many es = true := by
  rw [cycB_eq, List.any_eq_true]; exact ⟨s, List.mem_range.2 hs, h⟩
theorem any_take {es : List T3} {j : Nat} {e : T3} {p : T3 → Bool} (h : es[j]? = some e) : (es.take (j + 1)).any p = ((es.take j).any p || p e) := by
  rw [List.take_add_one, h]; simp
theorem goodE_at {many s y : Nat} {es : List T3} {x z f : Int} (h : (farL many es s)[y]? = some f) : goodE many es s (x, (y : Int), z) = (decide (x = (s : Int)) && decide (0 ≤ f)) := by
  unfold goodE
  simp only [Int.toNat_natCast, List.getD_eq_getElem?_getD, h, Option.getD_some]
end Go.Proofs.YtcfkemchekmjbaaGreatDoor

namespace Go.Proofs.YtcfkemchekmjbaaGreatDoor
open Go.RowKit
def nextI (xs : List Int) (v : Int) : Int := match nextV xs v with | some v' => v' | none => -1
theorem idxOf_at {xs : List Int} {v : Int} {k : Nat} (h : xs[k]? = some v) (hno : ∀ q : Nat, q < k → xs[q]? ≠ some v) : xs.idxOf? v = some k := by
  unfold List.idxOf?
  rw [List.findIdx?_eq_some_iff_getElem]
  obtain ⟨h1, h2⟩ := List.getElem?_eq_some_iff.1 h
  refine ⟨h1, by simp [h2], fun j hj => ?_⟩
  have := hno j hj
  rw [List.getElem?_eq_getElem (by omega)] at this
  simpa using this
theorem nextI_hit {xs : List Int} {v y : Int} {k : Nat} (h0 : v ≠ 0) (h : xs[k]? = some v) (hno : ∀ q : Nat, q < k → xs[q]? ≠ some v) (hy : xs[k + 1]? = some y) : nextI xs v = y := by
  unfold nextI nextV
  rw [if_neg h0, idxOf_at h hno]
  simp [hy]
theorem nextI_none {xs : List Int} {v : Int} (h0 : v ≠ 0 ∨ xs = []) (hno : ∀ q : Nat, q + 1 < xs.length → xs[q]? ≠ some v) : nextI xs v = -1 := by
  unfold nextI nextV
  by_cases hv : v = 0
  · rcases h0 with h0 | h0
    · exact absurd hv h0
    · rw [if_pos hv, h0]; rfl
  · rw [if_neg hv]
    cases hi : xs.idxOf? v with
    | none => rfl
    | some i =>
      have h1 : ¬ i + 1 < xs.length := fun hl => by
        unfold List.idxOf? at hi
        rw [List.findIdx?_eq_some_iff_getElem] at hi
        obtain ⟨h2, h3, _⟩ := hi
        have := hno i hl
        rw [List.getElem?_eq_getElem h2] at this
        apply this; simpa using h3
      rw [Option.bind_some, List.getElem?_eq_none (by omega)]
set_option maxRecDepth 100000 in
set_option maxHeartbeats 4000000 in
theorem l8Next_c {u : Value} {n : Nat} {xs : List Int} {v : Int} {w : World} (hu : SI w u n xs) :
    Calls Tryz.prog 227 #[u, .int .i64 v] w fun e w' => e = .returned (.int .i64 (nextI xs v)) ∧ Below w.heap.size w w' := by
  obtain ⟨A, c, rfl, _, hn, ha⟩ := hu
  have hla := hide ha.len
  by_cases hq : v = 0 ∧ 0 < n
  · obtain ⟨rfl, h0⟩ := hq
    obtain ⟨b, o, x, rfl, hb, hx, cx⟩ := ha.at_ h0
    have hf : nextI xs 0 = x := by unfold nextI nextV; rw [if_pos rfl, hx]
    have G := hide hf
    have h2 : (0 : Int) < n := by omega
    rw [Nat.add_zero] at cx
    clear hf hx
    go_enter Tryz.func227, Tryz.ntmps227
    go_wp2_with fail
    go_ret
    exact ⟨by rw [G.out]; rfl, Below.refl _ _⟩
  · have hvb : v ≠ 0 ∨ n = 0 := by omega
    have HVB := hide hvb
    have hB : (v == 0) = false ∨ ((v == 0) = true ∧ n = 0) := by
      cases hv : (v == 0)
      · exact .inl rfl
      · rcases hvb with h | h
        · exact absurd (by simpa using hv) h
        · exact .inr ⟨rfl, h⟩
    clear hq hvb
    go_enter Tryz.func227, Tryz.ntmps227
    rcases hB with hv0 | ⟨hv0, h0⟩
    · go_wp2_with fail
      go_loopw [5] (fun i W => ∃ k : Nat, i = .int .i64 k ∧ k ≤ n ∧ (∀ q : Nat, q < k → xs[q]? ≠ some v) ∧ W = w) (fun i _ => n - (intOf i).toNat)
      case atStart => exact ⟨0, rfl, Nat.zero_le _, fun q h => by omega, rfl⟩
      case round =>
        obtain ⟨k, rfl, hk, hno, rfl⟩ := hrel
        have HNO := hide hno; clear hno
        by_cases hkn : k + 1 < n
        · obtain ⟨b, o, x, rfl, hb, hx, cx⟩ := ha.at_ (show k < n by omega)
          obtain ⟨b', o', y, e', _, hy, cy⟩ := ha.at_ hkn
          injection e' with e'; injection e' with e1 e2; subst e1; subst e2
          have HX := hide hx; have HY := hide hy
          have k2 : (k : Int) + 1 < n := by omega
          have k3 : (k : Int) < n := by omega
          clear hx hy
          by_cases hxv : x = v
          · have hf : nextI xs v = y := nextI_hit (by rcases HVB.out with h | h; exact h; omega) (by rw [HX.out, hxv]) HNO.out HY.out
            have G := hide hf
            have hxb : (x == v) = true := by simpa using hxv
            clear hf hxv
            go_wp2_with fail
            go_ret
            exact ⟨by rw [G.out]; rfl, Below.refl _ _⟩
          · have hxb : (x == v) = false := by simpa using hxv
            have hs := hide (show ∀ q : Nat, q < k + 1 → xs[q]? ≠ some v from fun q hq e => by
              by_cases e2 : q = k
              · subst e2; rw [HX.out] at e; injection e with e; exact hxv e
              · exact HNO.out q (by omega) e)
            clear hxv
            go_wp2_with fail
            go_roundw
            case rel => exact ⟨k + 1, by go_num, by omega, hs.out, trivial⟩
            case measure => simp [intOf]; omega
        · have k2 : ¬ (k : Int) + 1 < n := by omega
          have hf : nextI xs v = -1 := nextI_none (by rcases HVB.out with h | h; exact .inl h; exact .inr (List.eq_nil_of_length_eq_zero (by rw [hla.out]; exact h))) (fun q hq => HNO.out q (by have := hla.out; omega))
          have G := hide hf; clear hf
          go_wp2_with fail
          go_ret
          exact ⟨by rw [G.out]; rfl, Below.refl _ _⟩
    · go_wp2_with fail
      go_loopw [5] (fun i W => ∃ k : Nat, i = .int .i64 k ∧ k ≤ n ∧ (∀ q : Nat, q < k → xs[q]? ≠ some v) ∧ W = w) (fun i _ => n - (intOf i).toNat)
      case atStart => exact ⟨0, rfl, Nat.zero_le _, fun q h => by omega, rfl⟩
      case round =>
        obtain ⟨k, rfl, hk, hno, rfl⟩ := hrel
        have HNO := hide hno; clear hno
        by_cases hkn : k + 1 < n
        · exact absurd hkn (by omega)
        · have k2 : ¬ (k : Int) + 1 < n := by omega
          have hf : nextI xs v = -1 := nextI_none (by rcases HVB.out with h | h; exact .inl h; exact .inr (List.eq_nil_of_length_eq_zero (by rw [hla.out]; exact h))) (fun q hq => HNO.out q (by have := hla.out; omega))
          have G := hide hf; clear hf
          go_wp2_with fail
          go_ret
          exact ⟨by rw [G.out]; rfl, Below.refl _ _⟩
theorem fieldsEz : Tryz.prog.underlying 146 = some (.struct (Tryz.prog.fieldsOf 146)) := by kernel_rfl
theorem heldEz : Tryz.prog.stoodInHeld 146 = false := by kernel_rfl
theorem equalInEz (w : World) (a b c a' b' c' : Int) : (Op.equalIn 10000 146 (.agg #[.int .i64 a, .int .i64 b, .int .i64 c]) (.agg #[.int .i64 a', .int .i64 b', .int .i64 c'])).run Tryz.prog w = .ok (a == a' && (b == b' && c == c')) w := by
  have z3 := Tryz.sizeOf3
  have a3 := Tryz.isAgg3
  have u3 := Tryz.underlying3
  rw [show (10000 : Nat) = 9999 + 1 from rfl, run_equalIn_agg w 9999 146 _ _ fieldsEz heldEz]
  simp only [Program.fieldsOf, Tryz.underlying146]
  go_simp
  by_cases h1 : a = a' <;> by_cases h2 : b = b' <;> by_cases h3 : c = c' <;> simp [h1, h2, h3]
theorem eqEz (w : World) (a b c a' b' c' : Int) : (binOp .eql 146 (.agg #[.int .i64 a, .int .i64 b, .int .i64 c]) (.agg #[.int .i64 a', .int .i64 b', .int .i64 c'])).run Tryz.prog w = .ok (.bool (a == a' && (b == b' && c == c'))) w := by
  rw [run_eql_struct, equalInEz]; rfl
set_option maxRecDepth 100000 in
set_option maxHeartbeats 4000000 in
theorem l8Has_c {u : Value} {n : Nat} {es : List T3} {x y z : Int} {w : World} (hu : S3 w u n es) :
    Calls Tryz.prog 246 #[u, .agg #[.int .i64 x, .int .i64 y, .int .i64 z]] w fun e w' => e = .returned (.bool (decide ((x, y, z) ∈ es))) ∧ Below w.heap.size w w' := by
  obtain ⟨A, c, rfl, _, hn, ha⟩ := hu
  have hla := hide ha.len
  have b1 : Below w.heap.size w (w.alloc (.cells #[.int .i64 x, .int .i64 y, .int .i64 z] 146)) := (Below.refl _ _).alloc (Nat.le_refl _) _
  have K1 := hide (Blk.new w 146 #[.int .i64 x, .int .i64 y, .int .i64 z])
  go_enter Tryz.func246, Tryz.ntmps246
  go_wp2_with fail
  go_loopw [5] (fun i W => ∃ k : Nat, i = .int .i64 k ∧ k ≤ n ∧ (x, y, z) ∉ es.take k ∧ Below (w.alloc (.cells #[.int .i64 x, .int .i64 y, .int .i64 z] 146)).heap.size (w.alloc (.cells #[.int .i64 x, .int .i64 y, .int .i64 z] 146)) W) (fun i _ => n - (intOf i).toNat)
  case atStart => exact ⟨0, rfl, Nat.zero_le _, by simp, Below.refl _ _⟩
  case round =>
    obtain ⟨k, rfl, hk, hno, bw⟩ := hrel
    rename World => wr
    have HNO := hide hno; have BW := hide bw; clear hno bw
    by_cases hkn : k < n
    · obtain ⟨b, off, p, q, r, rfl, hbb, hx, p0, p1, p2⟩ := ha.at_ hkn
      have B9 := hide (b1.trans (BW.out.mono b1.size))
      have a0 := (B9.out.cell (p := ⟨b, off + k * 3, none⟩) hbb).trans p0
      have a1 := (B9.out.cell (p := ⟨b, off + k * 3 + 1, none⟩) hbb).trans p1
      have a2 := (B9.out.cell (p := ⟨b, off + k * 3 + 2, none⟩) hbb).trans p2
      obtain ⟨f0, f1, f2⟩ := (K1.out.belowAll BW.out).three
      have HX := hide hx
      have k2 : (k : Int) < n := by omega
      clear hx p0 p1 p2
      cases hb : (p == x && (q == y && r == z))
      · have hq : ∀ w', (binOp .eql 146 (.agg #[.int .i64 p, .int .i64 q, .int .i64 r]) (.agg #[.int .i64 x, .int .i64 y, .int .i64 z])).run Tryz.prog w' = .ok (.bool false) w' := fun w' => by rw [eqEz, hb]
        have hs := hide (show (x, y, z) ∉ es.take (k + 1) from fun hm => by
          rw [List.take_add_one, HX.out] at hm
          rcases List.mem_append.1 hm with h | h
          · exact HNO.out h
          · simp at h; obtain ⟨rfl, rfl, rfl⟩ := h; simp at hb)
        clear hb
        go_wp2_with fail
        go_region
        go_wp2_with fail
        go_roundw
        case rel => exact ⟨k + 1, by go_num, by omega, hs.out, BW.out.drew⟩
        case measure => simp [intOf]; omega
      · have hq : ∀ w', (binOp .eql 146 (.agg #[.int .i64 p, .int .i64 q, .int .i64 r]) (.agg #[.int .i64 x, .int .i64 y, .int .i64 z])).run Tryz.prog w' = .ok (.bool true) w' := fun w' => by rw [eqEz, hb]
        have hf : decide ((x, y, z) ∈ es) = true := by
          simp only [Bool.and_eq_true, beq_iff_eq] at hb
          obtain ⟨rfl, rfl, rfl⟩ := hb
          exact decide_eq_true (List.mem_of_getElem? HX.out)
        have G := hide hf
        clear hb hf
        go_wp2_with fail
        go_region
        go_wp2_with fail
        go_ret
        exact ⟨by rw [G.out]; rfl, B9.out.drew⟩
    · obtain rfl : n = k := by omega
      have hf : decide ((x, y, z) ∈ es) = false := decide_eq_false (fun hm => HNO.out (by rw [List.take_of_length_le (by rw [hla.out]; exact Nat.le_refl _)]; exact hm))
      have G := hide hf; clear hf
      go_wp2_with fail
      go_ret
      exact ⟨by rw [G.out]; rfl, b1.trans (BW.out.mono b1.size)⟩
end Go.Proofs.YtcfkemchekmjbaaGreatDoor

namespace Go.Proofs.YtcfkemchekmjbaaGreatDoor
open Go.Shelf Go.RowKit Go.Sort Go.Lib
def lays122_ren : Go.Shelf.Ren := ⟨fun | 122 => 193 | 215 => 224 | n => n, fun | 3 => 3 | 4 => 4 | n => n, fun | n => n⟩
theorem lays122 : Go.Proofs.Lays.n122 Tryz.prog lays122_ren := {
  mixed := by kernel_rfl
  f122 := Tryz.func193.trans (congrArg some (by kernel_rfl))
  f215 := Tryz.func224.trans (congrArg some (by kernel_rfl))
  t3 := Tryz.underlying3
  a3 := Tryz.isAgg3
  z3 := Tryz.sizeOf3
  v3 := Tryz.zeroValue3
  t4 := Tryz.underlying4
  a4 := Tryz.isAgg4
  z4 := Tryz.sizeOf4
  v4 := Tryz.zeroValue4 }
theorem cmp_Compare_int (x y : Int) (w : World) :
    Calls Tryz.prog 193 #[.int .i64 x, .int .i64 y] w fun e w' => e = .returned (.int .i64 (Lib.compareInt x y)) ∧ w' = w := Any.cmp_Compare_int lays122 x y w
def laysSlM5_f154_ren : Go.Shelf.Ren := ⟨fun | 5 => 154 | 8 => 188 | 7 => 187 | 19 => 213 | 20 => 214 | 10 => 204 | 11 => 205 | 12 => 206 | 13 => 207 | 14 => 208 | 15 => 209 | 16 => 210 | 17 => 211 | 18 => 212 | 30 => 238 | 31 => 239 | 32 => 240 | 33 => 241 | 34 => 242 | 35 => 224 | 40 => 249 | n => n, fun | 23 => 24 | 25 => 3 | 3 => 3 | 32 => 86 | 22 => 24 | 0 => 0 | 44 => 229 | 46 => 216 | 4 => 4 | 36 => 223 | 35 => 222 | 41 => 137 | 5 => 5 | 9 => 9 | 53 => 243 | 57 => 247 | 63 => 252 | 64 => 253 | n => n, fun | n => n⟩
theorem laysSlM5_f154 : Go.Proofs.SlLaysM.n5 Tryz.prog laysSlM5_f154_ren := {
  mixed := by kernel_rfl
  f5 := ⟨Tryz.f154.name, by decide, Tryz.func154.trans (congrArg some (by kernel_rfl))⟩
  f7 := ⟨Tryz.f187.name, by decide, Tryz.func187.trans (congrArg some (by kernel_rfl))⟩
  f8 := Tryz.func188.trans (congrArg some (by kernel_rfl))
  f10 := ⟨Tryz.f204.name, by decide, Tryz.func204.trans (congrArg some (by kernel_rfl))⟩
  f11 := ⟨Tryz.f205.name, by decide, Tryz.func205.trans (congrArg some (by kernel_rfl))⟩
  f12 := ⟨Tryz.f206.name, by decide, Tryz.func206.trans (congrArg some (by kernel_rfl))⟩
  f13 := ⟨Tryz.f207.name, by decide, Tryz.func207.trans (congrArg some (by kernel_rfl))⟩
  f14 := ⟨Tryz.f208.name, by decide, Tryz.func208.trans (congrArg some (by kernel_rfl))⟩
  f15 := ⟨Tryz.f209.name, by decide, Tryz.func209.trans (congrArg some (by kernel_rfl))⟩
  f16 := ⟨Tryz.f210.name, by decide, Tryz.func210.trans (congrArg some (by kernel_rfl))⟩
  f17 := ⟨Tryz.f211.name, by decide, Tryz.func211.trans (congrArg some (by kernel_rfl))⟩
  f18 := ⟨Tryz.f212.name, by decide, Tryz.func212.trans (congrArg some (by kernel_rfl))⟩
  f19 := Tryz.func213.trans (congrArg some (by kernel_rfl))
  f20 := Tryz.func214.trans (congrArg some (by kernel_rfl))
  f30 := ⟨Tryz.f238.name, by decide, Tryz.func238.trans (congrArg some (by kernel_rfl))⟩
  f31 := Tryz.func239.trans (congrArg some (by kernel_rfl))
  f32 := Tryz.func240.trans (congrArg some (by kernel_rfl))
  f33 := ⟨Tryz.f241.name, by decide, Tryz.func241.trans (congrArg some (by kernel_rfl))⟩
  f34 := ⟨Tryz.f242.name, by decide, Tryz.func242.trans (congrArg some (by kernel_rfl))⟩
  f35 := ⟨Tryz.f224.name, by decide, Tryz.func224.trans (congrArg some (by kernel_rfl))⟩
  f40 := ⟨Tryz.f249.name, by decide, Tryz.func249.trans (congrArg some (by kernel_rfl))⟩
  t0 := Tryz.underlying0
  a0 := Tryz.isAgg0
  z0 := Tryz.sizeOf0
  v0 := Tryz.zeroValue0
  t3 := Tryz.underlying3
  a3 := Tryz.isAgg3
  z3 := Tryz.sizeOf3
  v3 := Tryz.zeroValue3
  t4 := Tryz.underlying4
  a4 := Tryz.isAgg4
  z4 := Tryz.sizeOf4
  v4 := Tryz.zeroValue4
  t5 := Tryz.underlying5
  a5 := Tryz.isAgg5
  z5 := Tryz.sizeOf5
  v5 := Tryz.zeroValue5
  t9 := Tryz.underlying9
  a9 := Tryz.isAgg9
  z9 := Tryz.sizeOf9
  v9 := Tryz.zeroValue9
  t22 := Tryz.underlying24
  a22 := Tryz.isAgg24
  z22 := Tryz.sizeOf24
  v22 := Tryz.zeroValue24
  t23 := Tryz.underlying24
  a23 := Tryz.isAgg24
  z23 := Tryz.sizeOf24
  v23 := Tryz.zeroValue24
  t25 := Tryz.underlying3
  a25 := Tryz.isAgg3
  z25 := Tryz.sizeOf3
  v25 := Tryz.zeroValue3
  t32 := Tryz.underlying86
  a32 := Tryz.isAgg86
  z32 := Tryz.sizeOf86
  v32 := Tryz.zeroValue86
  t35 := Tryz.underlying222
  a35 := Tryz.isAgg222
  z35 := Tryz.sizeOf222
  v35 := Tryz.zeroValue222
  t36 := Tryz.underlying223
  a36 := Tryz.isAgg223
  z36 := Tryz.sizeOf223
  v36 := Tryz.zeroValue223
  t41 := Tryz.underlying137
  a41 := Tryz.isAgg137
  z41 := Tryz.sizeOf137
  v41 := Tryz.zeroValue137
  t44 := Tryz.underlying229
  a44 := Tryz.isAgg229
  z44 := Tryz.sizeOf229
  v44 := Tryz.zeroValue229
  t46 := Tryz.underlying216
  a46 := Tryz.isAgg216
  z46 := Tryz.sizeOf216
  v46 := Tryz.zeroValue216
  t53 := Tryz.underlying243
  a53 := Tryz.isAgg243
  z53 := Tryz.sizeOf243
  v53 := Tryz.zeroValue243
  t57 := Tryz.underlying247
  a57 := Tryz.isAgg247
  z57 := Tryz.sizeOf247
  v57 := Tryz.zeroValue247
  t63 := Tryz.underlying252
  a63 := Tryz.isAgg252
  z63 := Tryz.sizeOf252
  v63 := Tryz.zeroValue252
  t64 := Tryz.underlying253
  a64 := Tryz.isAgg253
  z64 := Tryz.sizeOf253
  v64 := Tryz.zeroValue253 }
theorem slices_Sort_int (blk off cap : Nat) (zs : List Int) (w : World) (hH : Holds (Value.int .i64) w blk off zs.toArray) (hblk : blk < w.heap.size) (hsz : zs.length < 4611686018427387904) :
    Calls Tryz.prog 154 #[.slice (some ⟨blk, off, none⟩) zs.length cap] w fun e w' =>
      e = .returned (.tuple #[]) ∧ ∃ n os, w' = grow (putRow (Value.int .i64) (Sort.ahead w n) blk off (zs.mergeSort fun x y => decide (x ≤ y)).toArray) os := AnyM.slices_Sort_int laysSlM5_f154 blk off cap zs w hH hblk hsz
theorem slices_Sort_int_none (p : Option Addr) (cap : Nat) (w : World) :
    Calls Tryz.prog 154 #[.slice p 0 cap] w fun e w' => e = .returned (.tuple #[]) ∧ w' = w := AnyM.slices_Sort_int_none laysSlM5_f154 p cap w
def sortEd_ren : Go.Shelf.Ren := ⟨fun | 6 => 162 | 15 => 188 | 14 => 191 | 28 => 213 | 29 => 214 | 20 => 216 | 21 => 217 | 22 => 218 | 23 => 219 | 24 => 220 | 25 => 221 | 26 => 222 | 27 => 223 | 46 => 243 | 47 => 239 | 48 => 240 | 49 => 244 | 50 => 245 | 57 => 250 | n => n, fun | 22 => 97 | 24 => 146 | 25 => 189 | 3 => 3 | 39 => 86 | 0 => 0 | 53 => 229 | 55 => 216 | 4 => 4 | 46 => 223 | 45 => 222 | 50 => 137 | 5 => 5 | 9 => 9 | 66 => 243 | 70 => 247 | 76 => 252 | 77 => 253 | n => n, fun | n => n⟩
theorem sortEd : Go.Proofs.SlLaysF0.n6 Tryz.prog sortEd_ren := {
  mixed := by kernel_rfl
  f6 := ⟨Tryz.f162.name, by decide, Tryz.func162.trans (congrArg some (by kernel_rfl))⟩
  f14 := ⟨Tryz.f191.name, by decide, Tryz.func191.trans (congrArg some (by kernel_rfl))⟩
  f15 := Tryz.func188.trans (congrArg some (by kernel_rfl))
  f20 := ⟨Tryz.f216.name, by decide, Tryz.func216.trans (congrArg some (by kernel_rfl))⟩
  f21 := ⟨Tryz.f217.name, by decide, Tryz.func217.trans (congrArg some (by kernel_rfl))⟩
  f22 := ⟨Tryz.f218.name, by decide, Tryz.func218.trans (congrArg some (by kernel_rfl))⟩
  f23 := ⟨Tryz.f219.name, by decide, Tryz.func219.trans (congrArg some (by kernel_rfl))⟩
  f24 := ⟨Tryz.f220.name, by decide, Tryz.func220.trans (congrArg some (by kernel_rfl))⟩
  f25 := ⟨Tryz.f221.name, by decide, Tryz.func221.trans (congrArg some (by kernel_rfl))⟩
  f26 := ⟨Tryz.f222.name, by decide, Tryz.func222.trans (congrArg some (by kernel_rfl))⟩
  f27 := ⟨Tryz.f223.name, by decide, Tryz.func223.trans (congrArg some (by kernel_rfl))⟩
  f28 := Tryz.func213.trans (congrArg some (by kernel_rfl))
  f29 := Tryz.func214.trans (congrArg some (by kernel_rfl))
  f46 := ⟨Tryz.f243.name, by decide, Tryz.func243.trans (congrArg some (by kernel_rfl))⟩
  f47 := Tryz.func239.trans (congrArg some (by kernel_rfl))
  f48 := Tryz.func240.trans (congrArg some (by kernel_rfl))
  f49 := ⟨Tryz.f244.name, by decide, Tryz.func244.trans (congrArg some (by kernel_rfl))⟩
  f50 := ⟨Tryz.f245.name, by decide, Tryz.func245.trans (congrArg some (by kernel_rfl))⟩
  f57 := ⟨Tryz.f250.name, by decide, Tryz.func250.trans (congrArg some (by kernel_rfl))⟩
  t0 := Tryz.underlying0
  a0 := Tryz.isAgg0
  z0 := Tryz.sizeOf0
  v0 := Tryz.zeroValue0
  t3 := Tryz.underlying3
  a3 := Tryz.isAgg3
  z3 := Tryz.sizeOf3
  v3 := Tryz.zeroValue3
  t4 := Tryz.underlying4
  a4 := Tryz.isAgg4
  z4 := Tryz.sizeOf4
  v4 := Tryz.zeroValue4
  t5 := Tryz.underlying5
  a5 := Tryz.isAgg5
  z5 := Tryz.sizeOf5
  v5 := Tryz.zeroValue5
  t9 := Tryz.underlying9
  a9 := Tryz.isAgg9
  z9 := Tryz.sizeOf9
  v9 := Tryz.zeroValue9
  t22 := Tryz.underlying97
  a22 := Tryz.isAgg97
  z22 := Tryz.sizeOf97
  v22 := Tryz.zeroValue97
  t25 := Tryz.underlying189
  a25 := Tryz.isAgg189
  z25 := Tryz.sizeOf189
  v25 := Tryz.zeroValue189
  t39 := Tryz.underlying86
  a39 := Tryz.isAgg86
  z39 := Tryz.sizeOf86
  v39 := Tryz.zeroValue86
  t45 := Tryz.underlying222
  a45 := Tryz.isAgg222
  z45 := Tryz.sizeOf222
  v45 := Tryz.zeroValue222
  t46 := Tryz.underlying223
  a46 := Tryz.isAgg223
  z46 := Tryz.sizeOf223
  v46 := Tryz.zeroValue223
  t50 := Tryz.underlying137
  a50 := Tryz.isAgg137
  z50 := Tryz.sizeOf137
  v50 := Tryz.zeroValue137
  t53 := Tryz.underlying229
  a53 := Tryz.isAgg229
  z53 := Tryz.sizeOf229
  v53 := Tryz.zeroValue229
  t55 := Tryz.underlying216
  a55 := Tryz.isAgg216
  z55 := Tryz.sizeOf216
  v55 := Tryz.zeroValue216
  t66 := Tryz.underlying243
  a66 := Tryz.isAgg243
  z66 := Tryz.sizeOf243
  v66 := Tryz.zeroValue243
  t70 := Tryz.underlying247
  a70 := Tryz.isAgg247
  z70 := Tryz.sizeOf247
  v70 := Tryz.zeroValue247
  t76 := Tryz.underlying252
  a76 := Tryz.isAgg252
  z76 := Tryz.sizeOf252
  v76 := Tryz.zeroValue252
  t77 := Tryz.underlying253
  a77 := Tryz.isAgg253
  z77 := Tryz.sizeOf253
  v77 := Tryz.zeroValue253 }
def sortedA_ren : Go.Shelf.Ren := ⟨fun | 6 => 106 | 8 => 153 | 9 => 154 | 11 => 186 | 13 => 188 | 12 => 187 | 23 => 213 | 24 => 214 | 14 => 204 | 15 => 205 | 16 => 206 | 17 => 207 | 18 => 208 | 19 => 209 | 20 => 210 | 21 => 211 | 22 => 212 | 25 => 238 | 26 => 239 | 27 => 240 | 28 => 241 | 29 => 242 | 30 => 224 | 31 => 249 | n => n, fun | 26 => 3 | 28 => 140 | 24 => 24 | 0 => 0 | 3 => 3 | 37 => 86 | 48 => 229 | 50 => 216 | 4 => 4 | 40 => 223 | 39 => 222 | 45 => 137 | 5 => 5 | 9 => 9 | 51 => 243 | 55 => 247 | 57 => 252 | 58 => 253 | 33 => 133 | n => n, fun | n => n⟩
theorem sortedA : Go.Proofs.SlLaysZI.n6 Tryz.prog sortedA_ren := {
  mixed := by kernel_rfl
  f6 := ⟨Tryz.f106.name, by decide, Tryz.func106.trans (congrArg some (by kernel_rfl))⟩
  f8 := ⟨Tryz.f153.name, by decide, Tryz.func153.trans (congrArg some (by kernel_rfl))⟩
  f11 := ⟨Tryz.f186.name, by decide, Tryz.func186.trans (congrArg some (by kernel_rfl))⟩
  t0 := Tryz.underlying0
  a0 := Tryz.isAgg0
  z0 := Tryz.sizeOf0
  v0 := Tryz.zeroValue0
  t24 := Tryz.underlying24
  a24 := Tryz.isAgg24
  z24 := Tryz.sizeOf24
  v24 := Tryz.zeroValue24
  t26 := Tryz.underlying3
  a26 := Tryz.isAgg3
  z26 := Tryz.sizeOf3
  v26 := Tryz.zeroValue3
  t28 := Tryz.underlying140
  a28 := Tryz.isAgg140
  z28 := Tryz.sizeOf140
  v28 := Tryz.zeroValue140
  i26 := by kernel_rfl }
end Go.Proofs.YtcfkemchekmjbaaGreatDoor
