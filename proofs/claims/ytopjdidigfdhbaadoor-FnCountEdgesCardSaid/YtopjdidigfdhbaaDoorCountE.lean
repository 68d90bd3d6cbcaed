/- CountEdges, both. -/
import Derived.Test.YtopjdidigfdhbaaDoorEdges
import Derived.Deep.RegionHeld3
import Derived.BigRegion
namespace Go.Proofs.YtopjdidigfdhbaaDoor
open Go.RowKit

def bump (cs : List Int) (j : Nat) : List Int := cs.set j ((cs[j]?).getD 0 + 1)
def countE (ts : List T3) : List Int := ts.foldl (fun cs e => bump cs (e.2.2 - 1).toNat) [0, 0, 0, 0]
theorem countE_snoc {ts : List T3} {k : Nat} {e : T3} (h : ts[k]? = some e) : countE (ts.take (k + 1)) = bump (countE (ts.take k)) (e.2.2 - 1).toNat := by
  unfold countE
  rw [List.take_add_one, h, List.foldl_append]; rfl
theorem foldE_bd : ∀ (ts : List T3) (cs : List Int) (m : Int), (∀ x ∈ cs, 0 ≤ x ∧ x ≤ m) → 0 ≤ m → ∀ x ∈ ts.foldl (fun cs e => bump cs (e.2.2 - 1).toNat) cs, 0 ≤ x ∧ x ≤ m + ts.length := by
  intro ts
  induction ts with
  | nil => intro cs m h hm x hx; have := h x hx; simp; omega
  | cons e ts ih =>
    intro cs m h hm x hx
    have := ih (bump cs (e.2.2 - 1).toNat) (m + 1) (fun y hy => by
      unfold bump at hy
      rcases List.mem_or_eq_of_mem_set hy with hy | hy
      · have := h y hy; omega
      · cases hg : cs[(e.2.2 - 1).toNat]? with
        | none => rw [hg] at hy; simp at hy; omega
        | some q => rw [hg] at hy; simp at hy; have := h q (List.mem_of_getElem? hg); omega) (by omega) x hx
    simp only [List.length_cons]; omega
theorem countE_bd (ts : List T3) : ∀ x ∈ countE ts, 0 ≤ x ∧ x ≤ ts.length := by
  intro x hx
  have := foldE_bd ts [0, 0, 0, 0] 0 (by simp) (by omega) x hx
  omega
def ceL (many : Int) (ts : List T3) : List Int := if edgesB many ts then countE ts else []
theorem edge_kind {many : Int} {ts : List T3} (h : edgesB many ts = true) {k : Nat} {x y z : Int} (hx : ts[k]? = some (x, y, z)) : ∃ j : Nat, z = j + 1 ∧ j < 4 := by
  unfold edgesB at h
  simp only [Bool.and_eq_true, List.all_eq_true] at h
  have := h.2.2 _ (List.mem_of_getElem? hx)
  unfold edgeB at this
  simp only [Bool.and_eq_true, inB_iff] at this
  exact ⟨(z - 1).toNat, by omega, by omega⟩
theorem make4 (w : World) : (Instr.makeSlice 38 (.int .i64 4) (.int .i64 4)).run Tryd.prog w = .ok (.slice (some ⟨w.heap.size, 0, none⟩) 4 4) (w.alloc (.cells #[.int .i64 0, .int .i64 0, .int .i64 0, .int .i64 0] 3)) := run_make_ints 4 (by omega) w
theorem own4 (w : World) : OI (w.alloc (.cells #[.int .i64 0, .int .i64 0, .int .i64 0, .int .i64 0] 3)) w.heap.size (.slice (some ⟨w.heap.size, 0, none⟩) 4 4) 4 [0, 0, 0, 0] := OI.of_blk (Blk.new w _ _) (Nat.le_refl _) rfl rfl (by omega)

set_option maxHeartbeats 8000000 in
theorem impl_CountEdges_c {many : Int} {v : Value} {n : Nat} {ts : List T3} {w : World} (hs : S3 w v n ts) :
    Calls Tryd.prog 18 #[.int .i64 many, v] w (RetI w (ceL many ts)) := by
  have ss := hs
  obtain ⟨A, c, rfl, hnc, hn, hr⟩ := hs
  have hl := hide hr.len
  have hmk := make4
  cases hv : edgesB many ts
  · have hf : ceL many ts = [] := by simp [ceL, hv]
    have F := hide hf; have V := hide hv; clear hf hv
    go_enter Tryd.func18, Tryd.ntmps18
    go_wp2_with fail
    refine (impl_EdgesValid_c ss).mono ?_
    rintro e w1 ⟨rfl, b1⟩
    rw [V.out]
    go_wp2_with fail
    go_ret
    exact ⟨_, _, rfl, by rw [F.out]; exact OI.nil, b1⟩
  · have hf : ceL many ts = countE ts := by simp [ceL, hv]
    have F := hide hf; have V := hide hv; clear hf hv
    go_enter Tryd.func18, Tryd.ntmps18
    go_wp2_with fail
    refine (impl_EdgesValid_c ss).mono ?_
    rintro e w1 ⟨rfl, b1⟩
    rw [V.out]
    go_wp2_with fail
    have hz1 := b1.size
    go_loopw [15] (fun i wr => ∃ k : Nat, k ≤ n ∧ i = .int .i64 k ∧ OI wr w.heap.size (.slice (some ⟨w1.heap.size, 0, none⟩) 4 4) 4 (countE (ts.take k)) ∧ Below w.heap.size w wr) (fun i _ => n - (intOf i).toNat)
    case atStart => exact ⟨0, Nat.zero_le _, rfl, (own4 w1).mono hz1, b1.alloc hz1 _⟩
    case round =>
      obtain ⟨k, hk, rfl, own, hbel⟩ := hrel
      by_cases hlt : k < n
      · obtain ⟨b, off, x, y, z, rfl, hbk, hx, p0, p1, p2⟩ := hr.at_ hlt
        obtain ⟨j, rfl, hj⟩ := edge_kind V.out hx
        have Hx := hide hx; clear hx
        have a0 := (hbel.cell (p := ⟨b, off + k * 3, none⟩) hbk).trans p0
        have a1 := (hbel.cell (p := ⟨b, off + k * 3 + 1, none⟩) hbk).trans p1
        have a2 := (hbel.cell (p := ⟨b, off + k * 3 + 2, none⟩) hbk).trans p2
        clear p0 p1 p2
        obtain ⟨cc, hcc, hcell⟩ := own.cell j hj
        have hfr := own.free j
        have hcell' : ∀ o, (wr.alloc o).cell? ⟨w1.heap.size, j, none⟩ = some (.int .i64 cc) := fun o => by obtain ⟨c2, h2, h3⟩ := (own.alloc o).cell j hj; rw [hcc] at h2; injection h2 with h2; rw [h2]; exact h3
        have hfr' : ∀ o, (wr.alloc o).frozen? ⟨w1.heap.size, j, none⟩ = false := fun o => (own.alloc o).free j
        have hbd := countE_bd (ts.take k) cc (List.mem_of_getElem? hcc)
        have hlk : ((ts.take k).length : Int) ≤ 1048576 := by simp [List.length_take]; omega
        have c0 : 0 ≤ cc := hbd.1
        have c1 : cc ≤ 1048576 := by omega
        have j4 : (j : Int) < 4 := by omega
        have Own := hide own; have Hcc := hide hcc
        clear own hcc hbd hlk
        go_wp2
        go_roundw
        case rel =>
          refine ⟨k + 1, by omega, by go_num, ?_, (hbel.alloc hbel.size _).setCell (p := ⟨w1.heap.size, j, none⟩) hz1 _⟩
          have h2 := OI.store (Own.out.alloc (.cells #[.int .i64 x, .int .i64 y, .int .i64 (j + 1)] 69)) j (cc + 1)
          rw [countE_snoc Hx.out]
          unfold bump
          rw [show ((x, y, (j : Int) + 1).2.2 - 1).toNat = j by simp, Hcc.out]
          exact h2
        case measure => simp [intOf]; omega
      · obtain rfl : k = n := by omega
        go_wp2
        go_ret
        refine ⟨_, 4, rfl, ?_, hbel⟩
        rw [F.out]
        rw [List.take_of_length_le (by rw [hl.out]; omega)] at own
        exact own

set_option maxHeartbeats 8000000 in
theorem spec_CountEdges_c {many : Int} {v : Value} {n : Nat} {ts : List T3} {w : World} (hs : S3 w v n ts) :
    Calls Tryd.prog 20 #[.int .i64 many, v] w (RetI w (ceL many ts)) := by
  have ss := hs
  obtain ⟨A, c, rfl, hnc, hn, hr⟩ := hs
  have hl := hide hr.len
  have hmk := make4
  cases hv : edgesB many ts
  · have hf : ceL many ts = [] := by simp [ceL, hv]
    have F := hide hf; have V := hide hv; clear hf hv
    go_enter Tryd.func20, Tryd.ntmps20
    go_wp2_with fail
    refine (spec_EdgesValid_c ss).mono ?_
    rintro e w1 ⟨rfl, b1⟩
    rw [V.out]
    go_wp2_with fail
    go_ret
    exact ⟨_, _, rfl, by rw [F.out]; exact (OI.empty w1).mono b1.size, b1.alloc b1.size _⟩
  · have hf : ceL many ts = countE ts := by simp [ceL, hv]
    have F := hide hf; have V := hide hv; clear hf hv
    go_enter Tryd.func20, Tryd.ntmps20
    go_wp2_with fail
    refine (spec_EdgesValid_c ss).mono ?_
    rintro e w1 ⟨rfl, b1⟩
    rw [V.out]
    go_wp2_with fail
    have hz1 := b1.size
    go_loopw [6] (fun i wr => ∃ k : Nat, k ≤ n ∧ i = .int .i64 k ∧ OI wr w.heap.size (.slice (some ⟨w1.heap.size, 0, none⟩) 4 4) 4 (countE (ts.take k)) ∧ Below w.heap.size w wr) (fun i _ => n - (intOf i).toNat)
    case atStart => exact ⟨0, Nat.zero_le _, rfl, (own4 w1).mono hz1, b1.alloc hz1 _⟩
    case round =>
      obtain ⟨k, hk, rfl, own, hbel⟩ := hrel
      by_cases hlt : k < n
      · obtain ⟨b, off, x, y, z, rfl, hbk, hx, p0, p1, p2⟩ := hr.at_ hlt
        obtain ⟨j, rfl, hj⟩ := edge_kind V.out hx
        have Hx := hide hx; clear hx
        have a2 : wr.cell? ⟨b, off + k * 3 + 2, none⟩ = some (.int .i64 (j + 1)) := (hbel.cell (p := ⟨b, off + k * 3 + 2, none⟩) hbk).trans p2
        clear p0 p1 p2
        obtain ⟨cc, hcc, hcell⟩ := own.cell j hj
        have hfr := own.free j
        have hbd := countE_bd (ts.take k) cc (List.mem_of_getElem? hcc)
        have hlk : ((ts.take k).length : Int) ≤ 1048576 := by simp [List.length_take]; omega
        have c0 : 0 ≤ cc := hbd.1
        have c1 : cc ≤ 1048576 := by omega
        have j4 : (j : Int) < 4 := by omega
        have k0 : (0 : Int) ≤ k := by omega
        have k1 : (k : Int) < n := by omega
        have Own := hide own; have Hcc := hide hcc
        clear own hcc hbd hlk
        have j0 : (0 : Int) ≤ j := by omega
        have w1e : IntKind.i64.wrap ((j : Int) + 1 - 1) = j := by rw [IntKind.wrap_i64]; omega
        have w0e : IntKind.i64.wrap (j : Int) = j := by rw [IntKind.wrap_i64]; omega
        have w2e : IntKind.i64.wrap (cc + 1) = cc + 1 := by rw [IntKind.wrap_i64]; omega
        go_wp2
        go_region
        go_wp2_with fail
        go_roundw
        case rel =>
          refine ⟨k + 1, by omega, by go_num, ?_, (below_drewN hbel 1).setCell (p := ⟨w1.heap.size, j, none⟩) hz1 _⟩
          have h2 := OI.store Own.out.drew j (cc + 1)
          rw [countE_snoc Hx.out]
          unfold bump
          rw [show ((x, y, (j : Int) + 1).2.2 - 1).toNat = j by simp, Hcc.out]
          exact h2
        case measure => simp [intOf]; omega
      · obtain rfl : k = n := by omega
        go_wp2
        go_ret
        refine ⟨_, 4, rfl, ?_, hbel⟩
        rw [F.out]
        rw [List.take_of_length_le (by rw [hl.out]; omega)] at own
        exact own

end Go.Proofs.YtopjdidigfdhbaaDoor
