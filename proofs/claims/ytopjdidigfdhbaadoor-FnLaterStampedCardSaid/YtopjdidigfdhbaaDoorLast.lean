/- LastStamped, both. -/
import Derived.Test.YtopjdidigfdhbaaDoorRow3b
import Derived.Test.YtopjdidigfdhbaaDoorStamp
import Derived.Test.YtopjdidigfdhbaaDoorLater2
import Derived.Deep.RegionWith
namespace Go.Proofs.YtopjdidigfdhbaaDoor
open Go.RowKit

theorem Blk.three {w : World} {g : Nat} {t : TypeId} {a b c : Value} (h : Blk w g t #[a, b, c]) :
    (w.cell? ⟨g, 0, none⟩ = some a ∧ w.cell? ⟨g, 1, none⟩ = some b ∧ w.cell? ⟨g, 2, none⟩ = some c) ∧ (w.frozen? ⟨g, 0, none⟩ = false ∧ w.frozen? ⟨g, 1, none⟩ = false ∧ w.frozen? ⟨g, 2, none⟩ = false) :=
  ⟨⟨h.cell 0, h.cell 1, h.cell 2⟩, h.frozen 0, h.frozen 1, h.frozen 2⟩
def st3 (e : T3) : Bool := stampB e.1 e.2.1 e.2.2
def later3 (a b : T3) : T3 := if laterB a.1 a.2.1 a.2.2 b.1 b.2.1 b.2.2 then b else a
def lastOk (ts : List T3) : Bool := ts.all st3 && inB ts.length 1 20
def lastT : List T3 → T3
  | [] => (0, 0, 0)
  | a :: ts => (a :: ts).foldl later3 a
def lastR (ts : List T3) : T3 := if lastOk ts then lastT ts else (0, 0, 0)
def vT3 (e : T3) : Value := .agg #[.int .i64 e.1, .int .i64 e.2.1, .int .i64 e.2.2]
theorem later3_self (a : T3) : later3 a a = a := by unfold later3; split <;> rfl
theorem later3_val (a b c x y z : Int) : pickV (laterB a b c x y z) a b c x y z = vT3 (later3 (a, b, c) (x, y, z)) := by
  unfold later3 pickV
  dsimp only
  split <;> rfl
theorem st_later {a b : T3} (ha : st3 a = true) (hb : st3 b = true) : st3 (later3 a b) = true := by unfold later3; split <;> assumption
theorem lastOk_bad {ts : List T3} {k : Nat} {e : T3} (hx : ts[k]? = some e) (h : st3 e = false) : lastOk ts = false := by
  have : ts.all st3 = false := by
    rw [← Bool.not_eq_true, List.all_eq_true]; intro hh; have := hh e (List.mem_of_getElem? hx); rw [h] at this; cases this
  simp [lastOk, this]
theorem fold_snoc {ts : List T3} {k : Nat} {a e : T3} (hx : ts[k]? = some e) : (ts.take (k + 1)).foldl later3 a = later3 ((ts.take k).foldl later3 a) e := by
  rw [List.take_add_one, hx, List.foldl_append]; rfl
theorem all_snocT {p : T3 → Bool} {xs : List T3} {k : Nat} {x : T3} (h : (xs.take k).all p = true) (hx : xs[k]? = some x) (hp : p x = true) : (xs.take (k + 1)).all p = true := by
  rw [List.take_add_one, hx, List.all_append, h]; simp [hp]
theorem lastT_eq {ts : List T3} {a : T3} (h : ts[0]? = some a) : lastT ts = ts.foldl later3 a := by
  cases ts with
  | nil => simp at h
  | cons b ts => simp at h; subst h; rfl

set_option maxHeartbeats 8000000 in
theorem impl_LastStamped_c {v : Value} {n : Nat} {ts : List T3} {w : World} (hs : S3 w v n ts) :
    Calls Tryd.prog 15 #[v] w fun e w' => e = .returned (.tuple #[vT3 (lastR ts), .bool (lastOk ts)]) ∧ Below w.heap.size w w' := by
  obtain ⟨A, c, rfl, hnc, hn, hr⟩ := hs
  have hl := hide hr.len
  have B0 : Below w.heap.size w (w.alloc (.cells #[.int .i64 0, .int .i64 0, .int .i64 0] 24)) := (Below.refl _ _).alloc (Nat.le_refl _) _
  have K0 := Blk.new w 24 #[.int .i64 0, .int .i64 0, .int .i64 0]
  cases h1 : inB n 1 20
  · have hf : lastOk ts = false := by unfold lastOk; rw [hl.out, h1]; simp
    have hf2 : lastR ts = (0, 0, 0) := by simp [lastR, hf]
    have F := hide hf; have F2 := hide hf2; have H1 := hide h1; clear hf hf2 h1
    go_enter Tryd.func15, Tryd.ntmps15
    go_wp2_with (go_at_call 45; refine (within_c).mono ?_; rintro e w' ⟨rfl, rfl⟩; rw [H1.out])
    exact bodyPost_ret (v := .tuple #[.agg #[.int .i64 0, .int .i64 0, .int .i64 0], .bool false]) (by simp [results, Tryd.results15, go_sem]) rfl ⟨by rw [F.out, F2.out]; rfl, B0⟩
  · have hh := (inB_iff _ _ _).1 h1
    have hn0 : 0 < n := by omega
    obtain ⟨b0, off0, x0, y0, z0, rfl, hb0, hx0, p0, p1, p2⟩ := hr.at_ hn0
    rw [Nat.zero_mul, Nat.add_zero] at p0 p1 p2
    have hl1 : inB ts.length 1 20 = true := by rw [hl.out]; exact h1
    have HL := hide hl1; have Hx0 := hide hx0; have H1 := hide h1; clear h1 hx0 hl1
    have hn20 : n ≤ 20 := by omega
    clear hh
    go_enter Tryd.func15, Tryd.ntmps15
    go_wp2_with (go_at_call 45; refine (within_c).mono ?_; rintro e w' ⟨rfl, rfl⟩; rw [H1.out])
    have K0' := K0.alloc (.cells #[.int .i64 x0, .int .i64 y0, .int .i64 z0] 24)
    have KL' := Blk.new (w.alloc (.cells #[.int .i64 0, .int .i64 0, .int .i64 0] 24)) 24 #[.int .i64 x0, .int .i64 y0, .int .i64 z0]
    have B1 := B0.alloc (B0.size) (.cells #[.int .i64 x0, .int .i64 y0, .int .i64 z0] 24)
    simp only [World.size_alloc] at KL'
    go_loopw [17] (fun i wr => ∃ (k : Nat) (l0 l1 l2 : Int), k ≤ n ∧ i = .int .i64 k ∧ (ts.take k).all st3 = true ∧ (ts.take k).foldl later3 (x0, y0, z0) = (l0, l1, l2) ∧ Blk wr w.heap.size 24 #[.int .i64 0, .int .i64 0, .int .i64 0] ∧ Blk wr (w.heap.size + 1) 24 #[.int .i64 l0, .int .i64 l1, .int .i64 l2] ∧ Below w.heap.size w wr) (fun i _ => n - (intOf i).toNat)
    case atStart => exact ⟨0, x0, y0, z0, Nat.zero_le _, rfl, by simp, by simp, K0', KL', B1⟩
    case round =>
      obtain ⟨k, l0, l1, l2, hk, rfl, hall, hacc, KR, KL, hbel⟩ := hrel
      have Hall := hide hall; have Hacc := hide hacc; clear hall hacc
      by_cases hlt : k < n
      · obtain ⟨b, off, x, y, z, e0, hbk, hx, q0, q1, q2⟩ := hr.at_ hlt
        injection e0 with e0; injection e0 with e1 e2 _; subst e1; subst e2
        have Hx := hide hx; clear hx
        have a0 := (hbel.cell (p := ⟨b0, off0 + k * 3, none⟩) hb0).trans q0
        have a1 := (hbel.cell (p := ⟨b0, off0 + k * 3 + 1, none⟩) hb0).trans q1
        have a2 := (hbel.cell (p := ⟨b0, off0 + k * 3 + 2, none⟩) hb0).trans q2
        clear q0 q1 q2
        go_wp2_with fail
        refine (impl_StampedValid_c).mono ?_
        rintro e w2 ⟨rfl, b2⟩
        have B2 := below_step (hbel.alloc hbel.size (.cells #[.int .i64 x, .int .i64 y, .int .i64 z] 24)) b2
        have KE := (Blk.new wr 24 #[.int .i64 x, .int .i64 y, .int .i64 z]).belowAll b2
        have KR2 := (KR.alloc (.cells #[.int .i64 x, .int .i64 y, .int .i64 z] 24)).belowAll b2
        have KL2 := (KL.alloc (.cells #[.int .i64 x, .int .i64 y, .int .i64 z] 24)).belowAll b2
        have lE := KR.lt; have lE2 := KL.lt
        clear a0 a1 a2
        obtain ⟨⟨ce0, ce1, ce2⟩, _⟩ := KE.three
        obtain ⟨⟨cr0, cr1, cr2⟩, fr0, fr1, fr2⟩ := KR2.three
        obtain ⟨⟨cl0, cl1, cl2⟩, fl0, fl1, fl2⟩ := KL2.three
        cases hv : stampB x y z
        · have hf := lastOk_bad Hx.out (show st3 (x, y, z) = false from hv)
          have hf2 : lastR ts = (0, 0, 0) := by simp [lastR, hf]
          have F := hide hf; have F2 := hide hf2; clear hf hf2 hv
          go_wp2_with fail
          have t0 := (((KR2.set_ 0 (.int .i64 0)).set_ 1 (.int .i64 0)).set_ 2 (.int .i64 0)).three
          obtain ⟨⟨t0, t1, t2⟩, _⟩ := t0
          exact bodyPost_ret (v := .tuple #[.agg #[.int .i64 0, .int .i64 0, .int .i64 0], .bool false]) (by simp [results, Tryd.results15, go_sem, t0, t1, t2]) rfl ⟨by rw [F.out, F2.out]; rfl, ((B2.setCell (p := ⟨w.heap.size, 0, none⟩) (Nat.le_refl _) _).setCell (p := ⟨w.heap.size, 1, none⟩) (Nat.le_refl _) _).setCell (p := ⟨w.heap.size, 2, none⟩) (Nat.le_refl _) _⟩
        · have Hv := hide hv; clear hv
          obtain ⟨m0, m1, m2, hm⟩ : ∃ m0 m1 m2, later3 (l0, l1, l2) (x, y, z) = (m0, m1, m2) := ⟨_, _, _, rfl⟩
          have hp := later3_val l0 l1 l2 x y z
          rw [hm] at hp
          have Hm := hide hm; have Hp := hide hp; clear hm hp
          go_wp2_with fail
          refine (later_c).mono ?_
          rintro e w3 ⟨rfl, b3⟩
          rw [Hp.out]
          unfold vT3
          have B3 := below_step B2 b3
          have KR3 := KR2.belowAll b3
          have KL3 := KL2.belowAll b3
          clear ce0 ce1 ce2 cr0 cr1 cr2 fr0 fr1 fr2 cl0 cl1 cl2 fl0 fl1 fl2
          obtain ⟨⟨cl0, cl1, cl2⟩, fl0, fl1, fl2⟩ := KL3.three
          go_wp2_with fail
          go_roundw
          case rel =>
            refine ⟨k + 1, m0, m1, m2, by omega, by go_num, all_snocT Hall.out Hx.out Hv.out, by rw [fold_snoc Hx.out, Hacc.out, Hm.out], ?_, ((KL3.set_ 0 _).set_ 1 _).set_ 2 _, ?_⟩
            · exact ((KR3.far (p := ⟨w.heap.size + 1, 0, none⟩) (by simp) _).far (p := ⟨w.heap.size + 1, 1, none⟩) (by simp) _).far (p := ⟨w.heap.size + 1, 2, none⟩) (by simp) _
            · exact ((B3.setCell (p := ⟨w.heap.size + 1, 0, none⟩) (by simp) _).setCell (p := ⟨w.heap.size + 1, 1, none⟩) (by simp) _).setCell (p := ⟨w.heap.size + 1, 2, none⟩) (by simp) _
          case measure => simp [intOf]; omega
      · obtain rfl : k = n := by omega
        obtain ⟨⟨cr0, cr1, cr2⟩, fr0, fr1, fr2⟩ := KR.three
        obtain ⟨⟨cl0, cl1, cl2⟩, _⟩ := KL.three
        have ht : ts.take k = ts := List.take_of_length_le (by rw [hl.out]; omega)
        have hf : lastOk ts = true := by have h2 := Hall.out; rw [ht] at h2; simp [lastOk, h2, HL.out]
        have hf2 : lastR ts = (l0, l1, l2) := by have h2 := Hacc.out; rw [ht] at h2; simp [lastR, hf, lastT_eq Hx0.out, h2]
        have F := hide hf; have F2 := hide hf2; clear hf hf2 ht
        go_wp2_with fail
        have t0 := (((KR.set_ 0 (.int .i64 l0)).set_ 1 (.int .i64 l1)).set_ 2 (.int .i64 l2)).three
        obtain ⟨⟨t0, t1, t2⟩, _⟩ := t0
        exact bodyPost_ret (v := .tuple #[.agg #[.int .i64 l0, .int .i64 l1, .int .i64 l2], .bool true]) (by simp [results, Tryd.results15, go_sem, t0, t1, t2]) rfl ⟨by rw [F.out, F2.out]; rfl, ((hbel.setCell (p := ⟨w.heap.size, 0, none⟩) (Nat.le_refl _) _).setCell (p := ⟨w.heap.size, 1, none⟩) (Nat.le_refl _) _).setCell (p := ⟨w.heap.size, 2, none⟩) (Nat.le_refl _) _⟩

end Go.Proofs.YtopjdidigfdhbaaDoor
