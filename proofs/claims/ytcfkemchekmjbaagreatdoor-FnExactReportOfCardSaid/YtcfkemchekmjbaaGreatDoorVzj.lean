/- Merged (what the law reaches): Bld, NumI, NumS, DonS. -/
import Derived.Test.YtcfkemchekmjbaaGreatDoorVzi
import Derived.Lib.Builder
import Derived.Lib.AppendStr
import Derived.Laws.Externs
import Derived.Lib.AppendIntMem
import Derived.LaidMore
import Derived.Deep.DeepCutAuto
import Derived.Laws.IdiomStrings
import Derived.Laws.Concat
namespace Go.Proofs.YtcfkemchekmjbaaGreatDoor
open Go.RowKit
theorem sizeB : (Tryz.prog.info? 165).map (·.size) = some 2 := by kernel_rfl
theorem liesB : liesAt Tryz.prog Tryz.prog.depth 165 (2 / Tryz.prog.cellsOf 165) 0 165 1 = true := by kernel_rfl
theorem infoU : (Tryz.prog.info? 5).map (fun i => (i.zero, i.size, i.bytes)) = some (some (.int .u8 0), 1, 1) := by kernel_rfl
/-- A builder of the call's own. -/
abbrev BldA (B b : Nat) (bs : List Value) (w : World) : Prop := Lib.BuilderAt 165 5 B b (.pointer (some ⟨b, 0, none⟩)) bs w
abbrev Bld (B b : Nat) (bs : List Value) (w : World) : Prop := Lib.IsBuilder 165 5 B b bs w
set_option maxRecDepth 100000 in
theorem copyCheck_used (b : Nat) (w : World) (h0 : w.cell? ⟨b, 0, none⟩ = some (.pointer (some ⟨b, 0, none⟩))) :
    Calls Tryz.prog 178 #[.pointer (some ⟨b, 0, none⟩)] w fun e w' => e = .returned (.tuple #[]) ∧ w' = w := by
  obtain ⟨j, hj, _⟩ := Option.map_eq_some_iff.1 sizeB
  go_enter Tryz.func178, Tryz.ntmps178
  go_wp2
  rw [Lib.run_neq_ptr_same w _ Tryz.underlying163 hj]
  go_wp2
  go_end0
  exact ⟨rfl, rfl⟩
set_option maxRecDepth 100000 in
theorem copyCheck_fresh (b : Nat) (w : World) (h0 : w.cell? ⟨b, 0, none⟩ = some (.pointer none)) (hsh : w.shape? b = some (165, 2)) (hfz : w.frozen? ⟨b, 0, none⟩ = false) :
    Calls Tryz.prog 178 #[.pointer (some ⟨b, 0, none⟩)] w fun e w' => e = .returned (.tuple #[]) ∧ w' = w.setCell ⟨b, 0, none⟩ (.pointer (some ⟨b, 0, none⟩)) := by
  obtain ⟨j, hj, hjs⟩ := Option.map_eq_some_iff.1 sizeB
  go_enter Tryz.func178, Tryz.ntmps178
  go_wp2
  rw [Lib.run_to_unsafe w ⟨b, 0, none⟩ Tryz.underlying163 Tryz.underlying213 hj (by rw [hjs]; decide) hsh (Nat.zero_lt_succ 1)]
  simp only [Result.andThen]
  rw [Oper.upon_value]
  go_wp2
  rw [run_callFunc_extern Tryz.func199 (by kernel_rfl) (by kernel_rfl) (by kernel_rfl) (e := Extern.AbiNoEscape.same) (by kernel_rfl)]
  rw [Lib.run_noEscape]
  simp only [Result.andThen]
  rw [Oper.upon_value]
  go_wp2
  rw [Lib.run_from_unsafe w ⟨b, 0, none⟩ Tryz.underlying213 Tryz.underlying163 hj hsh liesB]
  simp only [Result.andThen]
  rw [Oper.upon_value]
  go_wp2
  go_end0
  exact ⟨rfl, rfl⟩
theorem copyCheck_c (B b : Nat) (bs : List Value) (w : World) (h : Bld B b bs w) :
    Calls Tryz.prog 178 #[.pointer (some ⟨b, 0, none⟩)] w fun e w' => e = .returned (.tuple #[]) ∧ (BldA B b bs w' ∧ Below B w w') := by
  rcases h with h | h
  · refine (copyCheck_fresh b w h.cell0 h.shape h.frozen0).mono ?_
    rintro e w' ⟨rfl, rfl⟩
    exact ⟨rfl, h.used _, (Below.refl B w).setCell (p := ⟨b, 0, none⟩) h.1 _⟩
  · refine (copyCheck_used b w h.cell0).mono ?_
    rintro e w' ⟨rfl, rfl⟩
    exact ⟨rfl, h, Below.refl B _⟩
set_option maxHeartbeats 2000000 in
set_option maxRecDepth 100000 in
theorem WriteByte_c (B b : Nat) (bs : List Value) (c : Int) (w : World) (h : Bld B b bs w) (hlen : bs.length + 1 ≤ 140737488355328) (hBw : B ≤ w.heap.size) :
    Calls Tryz.prog 135 #[.pointer (some ⟨b, 0, none⟩), .int .u8 c] w fun e w' => e = .returned .nilIface ∧ (BldA B b (bs ++ [.int .u8 c]) w' ∧ Below B w w') := by
  obtain ⟨i0, hi, hz0, hz1, hz2⟩ := info_parts infoU
  go_enter Tryz.func135, Tryz.ntmps135
  go_wp2_with (go_at_call 178; refine (copyCheck_c B b bs _ h).mono ?_)
  rintro e w1 ⟨rfl, h1, hb1⟩
  obtain ⟨hB, v, hbk, hown, hne⟩ := h1
  have c0 : w1.cell? ⟨b, 0, none⟩ = some (.pointer (some ⟨b, 0, none⟩)) := by rw [Lib.cell_of_heap hbk]; rfl
  have c1 : w1.cell? ⟨b, 1, none⟩ = some v := by rw [Lib.cell_of_heap hbk]; rfl
  go_wp2_with (at_builtin; refine wpList_append_own _ rfl _ _ 22 rfl B 5 i0 (.int .u8 0) 1 1 Tryz.underlying22 hi hz0 hz1 hz2 rfl (by decide) _ _ _ rfl (hown.alloc _) ⟨w1.heap.size, 0, none⟩ 1 1 [.int .u8 c] rfl rfl ?c1 ?c2 ?c3 ?c4 ?c5 ?_)
  case c1 =>
    intro j u hj
    match j, hj with
    | 0, hj => simp at hj; subst hj; simp [Addr.add]
  case c2 => intro u hu; simp at hu; subst hu; rfl
  case c3 => unfold maxLen; omega
  case c4 => omega
  case c5 => have := hb1.size; simp; omega
  intro v' w2 hown' hgrow _
  have hlt : b < w1.heap.size := by
    rcases Nat.lt_or_ge b w1.heap.size with h' | h'
    · exact h'
    · simp [Array.getElem?_eq_none h'] at hbk
  have hb2 : w2.heap[b]? = some (.cells #[.pointer (some ⟨b, 0, none⟩), v] 165 (0, 0)) := by
    rw [hgrow.block b (by simp; omega) (fun e => hne e.symm), Lib.alloc_old w1 _ b hlt]
    exact hbk
  have d0 : w2.cell? ⟨b, 0, none⟩ = some (.pointer (some ⟨b, 0, none⟩)) := by rw [Lib.cell_of_heap hb2]; rfl
  have d1 : w2.cell? ⟨b, 1, none⟩ = some v := by rw [Lib.cell_of_heap hb2]; rfl
  have f1 : w2.frozen? ⟨b, 1, none⟩ = false := Lib.frozen_of_heap hb2 1
  obtain ⟨g, cap, rfl⟩ : ∃ g cap, v' = .slice (some ⟨g, 0, none⟩) (bs.length + 1) cap := by
    rcases hown'.2 with ⟨_, h0⟩ | ⟨g, cap, cur, hv, _⟩
    · omega
    · exact ⟨g, cap, hv⟩
  go_wp2
  go_ret
  refine ⟨rfl, ?_, ?_⟩
  · exact Lib.BuilderAt.put (T := 165) (e := 5) hB hb2 (bs' := bs ++ [.int .u8 c]) (by simpa using hown') (by decide)
  · exact ((hb1.alloc (by have := hb1.size; omega) _).grown hgrow (by have := hb1.size; simp; omega) (fun k hk => (hown.lt k hk).1)).setCell (p := ⟨b, 1, none⟩) hB _
set_option maxHeartbeats 2000000 in
set_option maxRecDepth 100000 in
theorem WriteString_c (B b : Nat) (bs : List Value) (s : ByteArray) (w : World) (h : Bld B b bs w) (hlen : bs.length + s.size ≤ 140737488355328) (hBw : B ≤ w.heap.size) :
    Calls Tryz.prog 136 #[.pointer (some ⟨b, 0, none⟩), .string s] w fun e w' => e = .returned (.tuple #[.int .i64 s.size, .nilIface]) ∧ (BldA B b (bs ++ Lib.strCells s) w' ∧ Below B w w') := by
  obtain ⟨i0, hi, hz0, hz1, hz2⟩ := info_parts infoU
  go_enter Tryz.func136, Tryz.ntmps136
  go_wp2_with (go_at_call 178; refine (copyCheck_c B b bs _ h).mono ?_)
  rintro e w1 ⟨rfl, h1, hb1⟩
  obtain ⟨hB, v, hbk, hown, hne⟩ := h1
  have c0 : w1.cell? ⟨b, 0, none⟩ = some (.pointer (some ⟨b, 0, none⟩)) := by rw [Lib.cell_of_heap hbk]; rfl
  have c1 : w1.cell? ⟨b, 1, none⟩ = some v := by rw [Lib.cell_of_heap hbk]; rfl
  go_wp2_with (at_builtin; refine Lib.wpList_append_own_string _ rfl _ _ 22 9 rfl B 5 i0 Tryz.underlying22 Tryz.underlying9 hi hz0 hz1 hz2 _ _ _ rfl hown s rfl ?c3 ?c4 ?c5 ?_)
  case c3 => unfold maxLen; omega
  case c4 => omega
  case c5 => have := hb1.size; omega
  intro v' w2 hown' hgrow _
  have hlt : b < w1.heap.size := by
    rcases Nat.lt_or_ge b w1.heap.size with h' | h'
    · exact h'
    · simp [Array.getElem?_eq_none h'] at hbk
  have hb2 : w2.heap[b]? = some (.cells #[.pointer (some ⟨b, 0, none⟩), v] 165 (0, 0)) := by
    rw [hgrow.block b hlt (fun e => hne e.symm)]
    exact hbk
  have d0 : w2.cell? ⟨b, 0, none⟩ = some (.pointer (some ⟨b, 0, none⟩)) := by rw [Lib.cell_of_heap hb2]; rfl
  have d1 : w2.cell? ⟨b, 1, none⟩ = some v := by rw [Lib.cell_of_heap hb2]; rfl
  have f1 : w2.frozen? ⟨b, 1, none⟩ = false := Lib.frozen_of_heap hb2 1
  obtain ⟨ao, n', cap, rfl⟩ : ∃ ao n' cap, v' = .slice ao n' cap := by
    rcases hown'.2 with ⟨hv, _⟩ | ⟨g, cap, cur, hv, _⟩
    · exact ⟨_, _, _, hv⟩
    · exact ⟨_, _, _, hv⟩
  go_wp2
  go_ret2
  refine ⟨rfl, ?_, ?_⟩
  · exact Lib.BuilderAt.put (T := 165) (e := 5) hB hb2 (bs' := bs ++ Lib.strCells s) (by simpa [Lib.strCells_length] using hown') (by decide)
  · exact (hb1.grown hgrow (by have := hb1.size; omega) (fun k hk => (hown.lt k hk).1)).setCell (p := ⟨b, 1, none⟩) hB _
end Go.Proofs.YtcfkemchekmjbaaGreatDoor

namespace Go.Proofs.YtcfkemchekmjbaaGreatDoor
open Go.RowKit
/-- The library's table of powers of ten. -/
abbrev Tab (w : World) : Prop := Lib.TabIs Tryz.prog w "internal/strconv.uint64pow10" .u64 Lib.pow10Tab
theorem tabG : Tryz.prog.globalNamed "internal/strconv.uint64pow10" = some 0 := by kernel_rfl
theorem Tab.below {w w' : World} (h : Tab w) (hb : Below w.heap.size w w') : Tab w' := by
  unfold Tab Lib.TabIs World.var? at h ⊢
  rw [tabG] at h ⊢
  have hlt : 0 < w.heap.size := by
    rcases Nat.lt_or_ge 0 w.heap.size with h1 | h1
    · exact h1
    · simp [Array.getElem?_eq_none h1] at h
  simp only [Option.bind_some] at h ⊢
  rw [hb.block _ hlt]; exact h
theorem Bld.below {B b : Nat} {bs : List Value} {w w' : World} (h : Bld B b bs w) (hb : Below w.heap.size w w') : Bld B b bs w' := by
  have f : ∀ p, Lib.BuilderAt 165 5 B b p bs w → Lib.BuilderAt 165 5 B b p bs w' := fun p h => by
    have hlt := h.lt
    obtain ⟨hB, v, hk, ho, hn⟩ := h
    exact ⟨hB, v, (hb.block _ hlt).trans hk, ho.kept (row := none) ⟨hb.os, hb.tape, hb.output, hb.size, fun k hk _ => hb.block k hk⟩ (by cases hv : v.ownBlock <;> simp), hn⟩
  exact h.imp (f _) (f _)
theorem timeOk_c {x : Int} {w : World} : Calls Tryz.prog 134 #[.int .i64 x] w fun e w' => e = .returned (.bool (inB x 0 1000)) ∧ w = w' := by
  go_enter Tryz.func134, Tryz.ntmps134
  go_wp2_with (go_at_call 56; refine (within_c).mono ?_; rintro e w' ⟨rfl, rfl⟩)
  go_ret
  exact ⟨rfl, rfl⟩
theorem NT1_c {x : Int} {w : World} : Calls Tryz.prog 133 #[.int .i64 x] w fun e w' => e = .returned (.bool (!inB x 0 1000)) ∧ w = w' := by
  go_enter Tryz.func133, Tryz.ntmps133
  go_wp2_with (go_at_call 134; refine (timeOk_c).mono ?_; rintro e w' ⟨rfl, rfl⟩)
  go_ret
  exact ⟨rfl, rfl⟩
def badNum (x : Int) : Bool := !inB x 0 1000
theorem any_snoc_n {p : Int → Bool} {xs : List Int} {k : Nat} {x : Int} (h : (xs.take k).any p = false) (hx : xs[k]? = some x) (hp : p x = false) : (xs.take (k + 1)).any p = false := by
  rw [List.take_add_one, hx, List.any_append, h]; simp [hp]
theorem any_of_n {p : Int → Bool} {xs : List Int} {k : Nat} {x : Int} (hx : xs[k]? = some x) (hp : p x = true) : xs.any p = true :=
  List.any_eq_true.2 ⟨x, List.mem_of_getElem? hx, hp⟩
set_option maxHeartbeats 400000 in
theorem IndexFunc_n_c {v : Value} {n : Nat} {xs : List Int} {w : World} (hs : SI w v n xs) :
    Calls Tryz.prog 177 #[v, .func (.func 133) #[] #[]] w fun e w' => ∃ i : Int, e = .returned (.int .i64 i) ∧ (decide (0 ≤ i)) = xs.any badNum ∧ w = w' := by
  obtain ⟨A, c, rfl, hnc, hn, hr⟩ := hs
  have hl := hide hr.len
  go_enter Tryz.func177, Tryz.ntmps177
  go_wp2
  go_loop [8] (fun i => ∃ k : Nat, k ≤ n ∧ i = .int .i64 k ∧ (xs.take k).any badNum = false) (fun i => n - (intOf i).toNat)
  case atStart => exact ⟨0, Nat.zero_le _, rfl, by simp⟩
  case round =>
    obtain ⟨k, hk, rfl, hall⟩ := hrel
    have Hall := hide hall; clear hall
    by_cases hlt : k < n
    · obtain ⟨b, off, x, rfl, hb, hx, hc⟩ := hr.at_ hlt
      have Hx := hide hx; clear hx
      cases hv : inB x 0 1000
      · go_wp2_with (go_at_call 133; refine (NT1_c).mono ?_; rintro e w' ⟨rfl, rfl⟩)
        go_ret
        exact ⟨_, rfl, by rw [any_of_n Hx.out (by simp [badNum, hv])]; simp, rfl⟩
      · go_wp2_with (go_at_call 133; refine (NT1_c).mono ?_; rintro e w' ⟨rfl, rfl⟩)
        go_round
        case rel => exact ⟨k + 1, by omega, by go_num, any_snoc_n Hall.out Hx.out (by simp [badNum, hv])⟩
        case measure => simp [intOf]; omega
    · go_wp2
      go_ret
      obtain rfl : k = n := by omega
      refine ⟨_, rfl, ?_, rfl⟩
      have h1 := Hall.out
      rw [List.take_of_length_le (by rw [hl.out]; omega)] at h1
      rw [h1]; rfl
set_option maxHeartbeats 400000 in
theorem ContainsFunc_n_c {v : Value} {n : Nat} {xs : List Int} {w : World} (hs : SI w v n xs) :
    Calls Tryz.prog 132 #[v, .func (.func 133) #[] #[]] w fun e w' => e = .returned (.bool (xs.any badNum)) ∧ w = w' := by
  obtain ⟨A, c, rfl, hnc, hn, hr⟩ := hs
  go_enter Tryz.func132, Tryz.ntmps132
  go_wp2_with (go_at_call 177; refine (IndexFunc_n_c ⟨A, c, rfl, hnc, hn, hr⟩).mono ?_; rintro e w' ⟨i, rfl, hi, rfl⟩; have Hi := hide hi; clear hi)
  go_ret
  exact ⟨by rw [← Hi.out]; rfl, rfl⟩
theorem numB_any (xs : List Int) : xs.any badNum = !numB xs := by
  unfold numB
  induction xs with
  | nil => rfl
  | cons a r ih => simp only [List.any_cons, List.all_cons, ih, Bool.not_and]; rfl
theorem Itoa_c {y : Nat} {w : World} (hy : y ≤ 1000) (hT : Tab w) :
    Calls Tryz.prog 78 #[.int .i64 (y : Int)] w fun e w' => e = .returned (.string (str (digs y))) ∧ Below w.heap.size w w' :=
  (strconv_Itoa (y : Int) (by omega) (by omega) w hT).mono (by
    rintro e w' ⟨rfl, k, os, rfl⟩
    refine ⟨?_, Lib.below_grow _ _ (Nat.le_refl _) _ _⟩
    have : Lib.itoa (y : Int) = digs y := by unfold Lib.itoa digs; rw [if_neg (by omega)]; simp
    rw [this]; rfl)
set_option maxRecDepth 100000 in
set_option maxHeartbeats 4000000 in
theorem impl_NumbersText_c {v : Value} {n : Nat} {xs : List Int} {w : World} (hs : SI w v n xs) (hT : Tab w) :
    Calls Tryz.prog 77 #[v] w fun e w' => e = .returned (.string (str (textL xs))) ∧ Below w.heap.size w w' := by
  obtain ⟨A, c, rfl, hnc, hn, hr⟩ := hs
  have hl := hide hr.len
  have HT := hide hT; clear hT
  cases hv : numB xs
  · have hf : textL xs = [] := by unfold textL; rw [hv]; rfl
    have F := hide hf; have HV := hide hv; clear hf hv
    go_enter Tryz.func77, Tryz.ntmps77
    go_wp2_with fail
    refine (ContainsFunc_n_c ⟨A, c, rfl, hnc, hn, hr⟩).mono ?_
    rintro e w2 ⟨rfl, rfl⟩
    rw [numB_any, HV.out]
    go_wp2_with fail
    go_ret
    exact ⟨by rw [F.out]; rfl, Below.refl _ _⟩
  · have hf : textL xs = textTo xs n := by unfold textL; rw [hv, ← hr.len]; rfl
    have F := hide hf; have HV := hide hv; clear hf hv
    have hI := hide (Lib.fresh_isBuilder 165 5 w)
    have B0 := hide ((Below.refl w.heap.size w).alloc (Nat.le_refl _) (.cells #[.pointer none, .slice none 0 0] 165))
    go_enter Tryz.func77, Tryz.ntmps77
    go_wp2_with fail
    refine (ContainsFunc_n_c ⟨A, c, rfl, hnc, hn, hr⟩).mono ?_
    rintro e w2 ⟨rfl, rfl⟩
    rw [numB_any, HV.out]
    go_wp2_with fail
    go_loopw [10] (fun i wr => ∃ k : Nat, i = .int .i64 k ∧ k ≤ n ∧ Bld w.heap.size w.heap.size (Lib.byteCells (textTo xs k)) wr ∧ Below w.heap.size w wr) (fun i _ => n - (intOf i).toNat)
    case atStart => exact ⟨0, rfl, Nat.zero_le _, hI.out, B0.out⟩
    case round =>
      clear hI B0
      obtain ⟨k, rfl, hk, hB, bw⟩ := hrel
      have HB := hide hB; have BW := hide bw; clear hB bw
      have hsz := BW.out.size
      by_cases hkn : k < n
      · obtain ⟨b, off, x, rfl, hbb, hx, hc⟩ := hr.at_ hkn
        have HX := hide hx
        have q0 := (BW.out.cell (p := ⟨b, off + k, none⟩) hbb).trans hc
        have k0 : (0 : Int) ≤ k := by omega
        have k2 : (k : Int) < n := by omega
        have hall : ∀ y ∈ xs, inB y 0 1000 = true := by
          have := HV.out; unfold numB at this; rwa [List.all_eq_true] at this
        have hi := (inB_iff _ _ _).1 (hall x (List.mem_of_getElem? hx))
        obtain ⟨y, rfl⟩ : ∃ y : Nat, x = y := ⟨x.toNat, by omega⟩
        have hy : y ≤ 1000 := by omega
        have hlen := textTo_len (xs := xs) k (List.all_eq_true.2 (fun y hy => hall y (List.mem_of_mem_take hy))) (by rw [hl.out]; omega)
        have hd := digs_len 3 y (by omega)
        have hst := textTo_succ HX.out
        have HST := hide hst
        clear hx hall hi hst
        by_cases hk0 : 0 < k
        · have hk0' : (0 : Int) < k := by omega
          go_wp2_with fail
          refine (WriteByte_c w.heap.size w.heap.size _ 32 wr HB.out (by rw [Lib.byteCells_length]; omega) hsz).mono ?_
          rintro e w3 ⟨rfl, h3, b3⟩
          have B3 := hide (BW.out.trans b3)
          have hs3 : w.heap.size ≤ w3.heap.size := B3.out.size
          have HT3 := HT.out.below B3.out
          clear b3
          go_wp2_with fail
          refine (Itoa_c hy HT3).mono ?_
          rintro e w4 ⟨rfl, b4⟩
          have h4 := Bld.below (Or.inr h3) b4
          have B4 := hide (below_step B3.out b4)
          have hs4 : w.heap.size ≤ w4.heap.size := B4.out.size
          clear b4 h3
          go_wp2_with fail
          refine (WriteString_c w.heap.size w.heap.size _ (str (digs y)) w4 h4 (by rw [List.length_append, Lib.byteCells_length, str_size]; simp; omega) hs4).mono ?_
          rintro e w5 ⟨rfl, h5, b5⟩
          have B5 := hide (B4.out.trans b5)
          have H5 := hide h5
          clear b5 h4 h5
          go_wp2_with fail
          go_roundw
          case rel => exact ⟨k + 1, by go_num, by omega, by
            rw [HST.out, if_pos hk0]
            have := H5.out
            simp only [Lib.byteCells, Lib.strCells, str, List.map_append, List.map_cons, List.map_nil, List.append_assoc] at this ⊢
            exact Or.inr this, B5.out⟩
          case measure => simp [intOf]; omega
        · have hk0' : ¬ (0 : Int) < k := by omega
          have HT3 := HT.out.below BW.out
          go_wp2_with fail
          refine (Itoa_c hy HT3).mono ?_
          rintro e w4 ⟨rfl, b4⟩
          have h4 := Bld.below HB.out b4
          have B4 := hide (below_step BW.out b4)
          have hs4 : w.heap.size ≤ w4.heap.size := B4.out.size
          clear b4
          go_wp2_with fail
          refine (WriteString_c w.heap.size w.heap.size _ (str (digs y)) w4 h4 (by rw [Lib.byteCells_length, str_size]; omega) hs4).mono ?_
          rintro e w5 ⟨rfl, h5, b5⟩
          have B5 := hide (B4.out.trans b5)
          have H5 := hide h5
          clear b5 h4 h5
          go_wp2_with fail
          go_roundw
          case rel => exact ⟨k + 1, by go_num, by omega, by
            rw [HST.out, if_neg hk0, List.nil_append]
            have := H5.out
            simp only [Lib.byteCells, Lib.strCells, str, List.map_append] at this ⊢
            exact Or.inr this, B5.out⟩
          case measure => simp [intOf]; omega
      · obtain rfl : k = n := by omega
        go_wp2_with fail
        refine (Builder_String_any w.heap.size w.heap.size _ wr HB.out hsz).mono ?_
        rintro e w3 ⟨rfl, b3⟩
        go_wp2_with fail
        go_ret
        exact ⟨by rw [F.out]; rfl, BW.out.trans b3⟩
end Go.Proofs.YtcfkemchekmjbaaGreatDoor

namespace Go.Proofs.YtcfkemchekmjbaaGreatDoor
open Go.RowKit
/-- 'string([]byte{c})'. -/
theorem conv_one (w : World) (c : UInt8) : (convert 22 9 (.slice (some ⟨w.heap.size, 0, none⟩) 1 1)).run Tryz.prog (w.alloc (.cells #[.int .u8 (c.toNat : Int)] 5)) = .ok (.string (str [c])) (w.alloc (.cells #[.int .u8 (c.toNat : Int)] 5)) :=
  run_convert_bytes_back (P := Tryz.prog) _ 22 9 5 ⟨w.heap.size, 0, none⟩ 1 [c] Tryz.underlying22 Tryz.underlying5 Tryz.underlying9 (fun j hj => by
    match j, hj with
    | 0, _ => exact (Blk.new w 5 #[.int .u8 (c.toNat : Int)]).cell 0)
def dg (n : Nat) : UInt8 := UInt8.ofNat (48 + n % 10)
theorem dg_val (n : Nat) : ((dg n).toNat : Int) = 48 + (n : Int) % 10 := by
  unfold dg
  have : (UInt8.ofNat (48 + n % 10)).toNat = 48 + n % 10 := by simp; omega
  rw [this]; omega
theorem conv_dg (w : World) (m : Nat) : (convert 22 9 (.slice (some ⟨w.heap.size, 0, none⟩) 1 1)).run Tryz.prog (w.alloc (.cells #[.int .u8 (48 + (m : Int) % 10)] 5)) = .ok (.string (str [dg m])) (w.alloc (.cells #[.int .u8 (48 + (m : Int) % 10)] 5)) := by
  have := conv_one w (dg m)
  rwa [dg_val] at this
set_option maxRecDepth 100000 in
set_option maxHeartbeats 4000000 in
theorem l1Number_c {n : Nat} {w : World} (hn : n ≤ 1000) :
    Calls Tryz.prog 67 #[.int .i64 (n : Int)] w fun e w' => e = .returned (.string (str (digs n))) ∧ Below w.heap.size w w' := by
  have k1 := conv_dg w n
  have B1 := hide ((Below.refl _ w).alloc (Nat.le_refl _) (.cells #[.int .u8 (48 + (n : Int) % 10)] 5))
  have T0 := hide (TailTo.zero n)
  go_enter Tryz.func67, Tryz.ntmps67
  go_wp2_with fail
  go_loopw [0, 3] (fun i v wr => ∃ (m : Nat) (s : List UInt8), i = .int .i64 (m : Int) ∧ v = .string (str s) ∧ m ≤ 1000 ∧ s.length + m ≤ 1001 ∧ TailTo n m s ∧ Below w.heap.size w wr) (fun i _ _ => (intOf i).toNat)
  case atStart => exact ⟨n, [dg n], rfl, rfl, hn, by simp; omega, T0.out, B1.out⟩
  case round =>
    clear k1 B1 T0
    obtain ⟨m, s, rfl, rfl, hm, hs, hT, bw⟩ := hrel
    have HT := hide hT; have BW := hide bw; clear hT bw
    by_cases h9 : 9 < m
    · have h9' : (9 : Int) < m := by omega
      have k1 := conv_dg wr (m / 10)
      simp only [Int.natCast_ediv, Int.cast_ofNat_Int] at k1
      have s1 := fun W : World => run_string_add_sum (P := Tryz.prog) (w := W) (str [dg (m / 10)]) (str s) (by rw [str_size, str_size]; simp; omega)
      have st := HT.out.step h9
      have ST := hide st
      have B2 := hide (below_step BW.out ((Below.refl _ wr).alloc (Nat.le_refl _) (.cells #[.int .u8 (48 + (m : Int) / 10 % 10)] 5)))
      clear st
      go_wp2_with fail
      go_roundw
      case rel => exact ⟨m / 10, _, by go_num, by rw [str_add]; rfl, by omega, by simp; omega, ST.out, B2.out⟩
      case measure => simp [intOf]; omega
    · have h9' : ¬ (9 : Int) < m := by omega
      have hd := HT.out.done h9
      have HD := hide hd; clear hd
      go_wp2_with fail
      go_ret
      exact ⟨by rw [HD.out]; rfl, BW.out⟩
set_option maxRecDepth 100000 in
set_option maxHeartbeats 4000000 in
theorem spec_NumbersText_c {v : Value} {n : Nat} {xs : List Int} {w : World} (hs : SI w v n xs) :
    Calls Tryz.prog 66 #[v] w fun e w' => e = .returned (.string (str (textL xs))) ∧ Below w.heap.size w w' := by
  obtain ⟨A, c, rfl, hnc, hn, hr⟩ := hs
  have hl := hide hr.len
  go_enter Tryz.func66, Tryz.ntmps66
  go_wp2_with fail
  go_loopw [3, 4] (fun v i wr => ∃ k : Nat, i = .int .i64 k ∧ k ≤ n ∧ v = .string (str (textTo xs k)) ∧ (xs.take k).all (fun x => inB x 0 1000) = true ∧ Below w.heap.size w wr) (fun _ i _ => n - (intOf i).toNat)
  case atStart => exact ⟨0, rfl, Nat.zero_le _, rfl, by simp, Below.refl _ _⟩
  case round =>
    obtain ⟨k, rfl, hk, rfl, hall, bw⟩ := hrel
    have HALL := hide hall; have BW := hide bw; clear hall bw
    by_cases hkn : k < n
    · obtain ⟨b, off, x, rfl, hbb, hx, hc⟩ := hr.at_ hkn
      have HX := hide hx
      have q0 := (BW.out.cell (p := ⟨b, off + k, none⟩) hbb).trans hc
      have k0 : (0 : Int) ≤ k := by omega
      have k2 : (k : Int) < n := by omega
      clear hx
      cases hv : inB x 0 1000
      · have hf := numB_no HX.out hv
        have F := hide hf; have HV := hide hv; clear hf hv
        go_wp2_with (go_at_call 45; refine (l1In_c).mono ?_; rintro e w' ⟨rfl, rfl⟩; rw [HV.out])
        go_ret
        exact ⟨by rw [F.out]; rfl, BW.out⟩
      · have hsn := all_snoc HALL.out HX.out hv
        have HSN := hide hsn; have HV := hide hv
        have hi := (inB_iff _ _ _).1 hv
        obtain ⟨y, rfl⟩ : ∃ y : Nat, x = y := ⟨x.toNat, by omega⟩
        have hy : y ≤ 1000 := by omega
        have hlen := textTo_len k HALL.out (by rw [hl.out]; omega)
        have hd := digs_len 3 y (by omega)
        have hst := textTo_succ HX.out
        have HST := hide hst
        clear hsn hv hi hst
        have s1 := fun W : World => run_string_add_sum (P := Tryz.prog) (w := W) (str (textTo xs k)) ⟨#[32]⟩ (by rw [str_size]; show _ + 1 ≤ _; omega)
        have s2 := fun W : World => run_string_add_sum (P := Tryz.prog) (w := W) (str (textTo xs k)) (str (digs y)) (by rw [str_size, str_size]; omega)
        have s3 := fun W : World => run_string_add_sum (P := Tryz.prog) (w := W) (str (textTo xs k) ++ ⟨#[32]⟩) (str (digs y)) (by rw [show (⟨#[32]⟩ : ByteArray) = str [32] from rfl, str_add, str_size, str_size]; simp; omega)
        by_cases hk0 : 0 < k
        · have hk0' : (0 : Int) < k := by omega
          go_wp2_with (go_at_call 45; refine (l1In_c).mono ?_; rintro e w' ⟨rfl, rfl⟩; rw [HV.out])
          refine (l1Number_c hy).mono ?_
          rintro e w2 ⟨rfl, b2⟩
          have B2 := hide (below_step BW.out b2); clear b2
          go_wp2_with fail
          go_roundw
          case rel => exact ⟨k + 1, by go_num, by omega, by rw [HST.out, if_pos hk0, show (⟨#[32]⟩ : ByteArray) = str [32] from rfl, str_add, str_add, List.append_assoc]; rfl, HSN.out, B2.out⟩
          case measure => simp [intOf]; omega
        · have hk0' : ¬ (0 : Int) < k := by omega
          go_wp2_with (go_at_call 45; refine (l1In_c).mono ?_; rintro e w' ⟨rfl, rfl⟩; rw [HV.out])
          refine (l1Number_c hy).mono ?_
          rintro e w2 ⟨rfl, b2⟩
          have B2 := hide (below_step BW.out b2); clear b2
          go_wp2_with fail
          go_roundw
          case rel => exact ⟨k + 1, by go_num, by omega, by rw [HST.out, if_neg hk0, str_add, List.nil_append]; rfl, HSN.out, B2.out⟩
          case measure => simp [intOf]; omega
    · obtain rfl : k = n := by omega
      have hf : textL xs = textTo xs k := by
        have := numB_yes (xs := xs) (by rw [hl.out]; exact HALL.out)
        rw [this, hl.out]
      have F := hide hf; clear hf
      go_wp2_with fail
      go_ret
      exact ⟨by rw [F.out]; rfl, BW.out⟩
end Go.Proofs.YtcfkemchekmjbaaGreatDoor

namespace Go.Proofs.YtcfkemchekmjbaaGreatDoor
open Go.RowKit
set_option maxRecDepth 100000 in
set_option maxHeartbeats 4000000 in
theorem spec_DoneTxns_c {A : Option Addr} {n c : Nat} {ts : List Tx} {w : World} (hr : RTs w A n ts) (hn : n ≤ 1048576) (hsum : (allOps ts).length ≤ 1048576) (hsm : SmallT ts) :
    Calls Tryz.prog 68 #[.slice A n c] w (RetI w (doneV ts)) := by
  have hl := hide hr.1
  have o0 := hide (OI.empty w)
  have B0 := hide ((Below.refl w.heap.size w).alloc (Nat.le_refl _) (.cells #[] 3))
  cases hv : histB ts
  · have hf : doneV ts = [] := by simp [doneV, hv]
    have F := hide hf; have V := hide hv; clear hf hv
    by_cases h0 : n = 0
    · subst h0
      go_enter Tryz.func68, Tryz.ntmps68
      go_wp2_with fail
      refine wp_loop_rounds 1 ?_
      rw [rounds_succ]
      go_wp2_with fail
      go_ret
      exact ⟨_, 0, rfl, by rw [F.out]; exact o0.out, B0.out⟩
    · have hr2 := hr.below ((Below.refl w.heap.size w).alloc (Nat.le_refl _) (.cells #[] 3))
      have n0 : (0 : Int) < n := by omega
      go_enter Tryz.func68, Tryz.ntmps68
      go_wp2_with fail
      refine wp_loop_rounds 1 ?_
      rw [rounds_succ]
      go_wp2_with (go_at_call 118; refine (spec_HistoryValid_c hr2 hn hsum hsm).mono ?_; rintro e w2 ⟨rfl, b2⟩; rw [V.out])
      go_ret
      exact ⟨_, 0, rfl, by rw [F.out]; exact o0.out.below b2, below_step B0.out b2⟩
  · have hf : doneV ts = doneL ts := by simp [doneV, hv]
    have h6 := (histB_parts hv).1
    have F := hide hf; have V := hide hv; clear hf hv
    go_enter Tryz.func68, Tryz.ntmps68
    go_wp2_with fail
    go_loopw [3, 4] (fun v i W => ∃ k : Nat, i = .int .i64 k ∧ k ≤ n ∧ OI W w.heap.size v (doneTo ts k).length (doneTo ts k) ∧ Below w.heap.size w W) (fun _ i _ => n - (intOf i).toNat)
    case atStart => exact ⟨0, rfl, Nat.zero_le _, o0.out, B0.out⟩
    case round =>
      clear o0 B0
      obtain ⟨k, rfl, hk, ho, bw⟩ := hrel
      by_cases hkn : k < n
      · obtain ⟨b, off, f, ys, dn, B, kk, d, rfl, hbb, hx, q0, q1, q2, hkd, hdm, hri⟩ := hr.at_ hkn
        have hr2 := hr.below bw
        have k0 : (0 : Int) ≤ k := by omega
        have k2 : (k : Int) < n := by omega
        have hln := hl.out
        obtain ⟨Ao, co, rfl⟩ := ho.shape
        have hlk := doneTo_len ts k
        have HO := hide ho; have BW := hide bw
        have Q2 := hide q2; have HX := hide hx
        clear ho q0 q1 q2 hx
        cases dn
        · have hst := doneTo_no HX.out rfl
          have HST := hide hst; clear hst
          go_wp2_with (go_at_call 118; refine (spec_HistoryValid_c hr2 hn hsum hsm).mono ?_; rintro e w2 ⟨rfl, b2⟩; rw [V.out]; have c2 := ((below_step BW.out b2).cell (p := ⟨b, off + k * 3 + 2, none⟩) hbb).trans Q2.out)
          go_roundw
          case rel => exact ⟨k + 1, by go_num, by omega, by rw [HST.out]; exact HO.out.below b2, below_step BW.out b2⟩
          case measure => simp [intOf]; omega
        · have hst := doneTo_yes HX.out rfl
          have HST := hide hst; clear hst
          go_upto_region 6 with (go_at_call 118; refine (spec_HistoryValid_c hr2 hn hsum hsm).mono ?_; rintro e w2 ⟨rfl, b2⟩; rw [V.out]; have c2 := ((below_step BW.out b2).cell (p := ⟨b, off + k * 3 + 2, none⟩) hbb).trans Q2.out)
          have B2 := below_step BW.out b2
          have HO2 := (HO.out.below b2).alloc (.cells #[.int .i64 (k : Int)] 3)
          go_wp2_with (at_builtin; refine wpList_appI rfl _ _ rfl rfl HO2 rfl (SI.one _ _ _ (by omega)) (by omega) (by have := B2.size; simp; omega) ?_; intro v4 w4 o4 hg4 hat)
          have B4 := below_of_grown (B2.alloc B2.size (.cells #[.int .i64 (k : Int)] 3)) hg4 (by have := B2.size; simp; omega) (HO2.grown_le (Nat.le_refl _))
          go_roundw
          case rel => exact ⟨k + 1, by go_num, by omega, by rw [HST.out, List.length_append, List.length_singleton]; exact o4, B4⟩
          case measure => simp [intOf]; omega
      · obtain rfl : k = n := by omega
        have hf : doneTo ts k = doneL ts := by unfold doneL; rw [hl.out]
        rw [hf] at ho
        have HO := hide ho; have BW := hide bw
        clear ho bw hf
        go_wp2_with fail
        go_ret
        exact ⟨_, _, rfl, by rw [F.out]; exact HO.out, BW.out⟩
end Go.Proofs.YtcfkemchekmjbaaGreatDoor
