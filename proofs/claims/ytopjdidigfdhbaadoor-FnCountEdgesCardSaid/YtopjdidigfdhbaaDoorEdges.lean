/- EdgesValid, both. Printed by mk_edges.py. -/
import Derived.Test.YtopjdidigfdhbaaDoorRow3b
import Derived.Test.YtopjdidigfdhbaaDoorSmall
namespace Go.Proofs.YtopjdidigfdhbaaDoor
open Go.RowKit

/-- One edge is right; m1: the greatest number. -/
def edgeB (m1 : Int) (e : T3) : Bool := inB e.1 0 m1 && (inB e.2.1 0 m1 && ((!(e.1 == e.2.1)) && inB e.2.2 1 4))
def edgesB (many : Int) (ts : List T3) : Bool := inB many 0 6 && (decide (ts.length ≤ 144) && ts.all (edgeB (many - 1)))
theorem edge_cases (m1 x y z : Int) : (inB x 0 m1 = false ∧ edgeB m1 (x, y, z) = false) ∨ (inB x 0 m1 = true ∧ inB y 0 m1 = false ∧ edgeB m1 (x, y, z) = false) ∨
    (inB x 0 m1 = true ∧ inB y 0 m1 = true ∧ (x == y) = true ∧ edgeB m1 (x, y, z) = false) ∨ (inB x 0 m1 = true ∧ inB y 0 m1 = true ∧ (x == y) = false ∧ inB z 1 4 = false ∧ edgeB m1 (x, y, z) = false) ∨
    (inB x 0 m1 = true ∧ inB y 0 m1 = true ∧ (x == y) = false ∧ inB z 1 4 = true ∧ edgeB m1 (x, y, z) = true) := by
  unfold edgeB
  cases inB x 0 m1 <;> cases inB y 0 m1 <;> cases (x == y) <;> cases inB z 1 4 <;> simp
theorem all_snoc3 {α : Type} {p : α → Bool} {xs : List α} {k : Nat} {x : α} (h : (xs.take k).all p = true) (hx : xs[k]? = some x) (hp : p x = true) : (xs.take (k + 1)).all p = true := by
  rw [List.take_add_one, hx, List.all_append, h]; simp [hp]
theorem any_snoc3 {α : Type} {p : α → Bool} {xs : List α} {k : Nat} {x : α} (h : (xs.take k).any p = false) (hx : xs[k]? = some x) (hp : p x = false) : (xs.take (k + 1)).any p = false := by
  rw [List.take_add_one, hx, List.any_append, h]; simp [hp]
theorem any_of_at3 {α : Type} {p : α → Bool} {xs : List α} {k : Nat} {x : α} (hx : xs[k]? = some x) (hp : p x = true) : xs.any p = true :=
  List.any_eq_true.2 ⟨x, List.mem_of_getElem? hx, hp⟩
theorem all_bad {α : Type} {p : α → Bool} {xs : List α} {k : Nat} {x : α} (hx : xs[k]? = some x) (hp : p x = false) : xs.all p = false := by
  rw [← Bool.not_eq_true, List.all_eq_true]; intro h; have := h x (List.mem_of_getElem? hx); rw [hp] at this; cases this
theorem not_all {α : Type} (p : α → Bool) (xs : List α) : xs.all p = !xs.any (fun e => !p e) := by
  rw [Bool.eq_iff_iff]; simp

set_option maxHeartbeats 4000000 in
theorem EdgesValid_1_c {g : Nat} {many x y z : Int} {t : TypeId} {w : World} (hb : Blk w g t #[.int .i64 many]) (h0 : 0 ≤ many) (h6 : many ≤ 6) :
    Calls Tryd.prog 69 #[.agg #[.int .i64 x, .int .i64 y, .int .i64 z], .pointer (some ⟨g, 0, none⟩)] w fun e w' => e = .returned (.bool (!edgeB (many - 1) (x, y, z))) ∧ Below w.heap.size w w' := by
  have B0 : ∀ o, Below w.heap.size w (w.alloc o) := fun o => (Below.refl _ _).alloc (Nat.le_refl _) o
  have c0 : w.cell? ⟨g, 0, none⟩ = some (.int .i64 many) := hb.cell 0
  have d0 : ∀ o, (w.alloc o).cell? ⟨g, 0, none⟩ = some (.int .i64 many) := fun o => (hb.alloc o).cell 0
  clear hb
  rcases edge_cases (many - 1) x y z with ⟨h1, hf⟩ | ⟨h1, h2, hf⟩ | ⟨h1, h2, h3, hf⟩ | ⟨h1, h2, h3, h4, hf⟩ | ⟨h1, h2, h3, h4, hf⟩
  · have F := hide hf; have H1 := hide h1; clear hf h1
    go_enter Tryd.func69, Tryd.ntmps69
    go_wp2_with (go_at_call 45; refine (within_c).mono ?_; rintro e w' ⟨rfl, rfl⟩; first | rw [H1.out])
    go_ret
    exact ⟨by rw [F.out]; rfl, B0 _⟩
  · have F := hide hf; have H1 := hide h1; have H2 := hide h2; clear hf h1 h2
    go_enter Tryd.func69, Tryd.ntmps69
    go_wp2_with (go_at_call 45; refine (within_c).mono ?_; rintro e w' ⟨rfl, rfl⟩; first | rw [H1.out] | rw [H2.out])
    go_ret
    exact ⟨by rw [F.out]; rfl, B0 _⟩
  · have F := hide hf; have H1 := hide h1; have H2 := hide h2; clear hf h1 h2
    go_enter Tryd.func69, Tryd.ntmps69
    go_wp2_with (go_at_call 45; refine (within_c).mono ?_; rintro e w' ⟨rfl, rfl⟩; first | rw [H1.out] | rw [H2.out])
    go_ret
    exact ⟨by rw [F.out]; rfl, B0 _⟩
  · have F := hide hf; have H1 := hide h1; have H2 := hide h2; have H4 := hide h4; clear hf h1 h2 h4
    go_enter Tryd.func69, Tryd.ntmps69
    go_wp2_with (go_at_call 45; refine (within_c).mono ?_; rintro e w' ⟨rfl, rfl⟩; first | rw [H1.out] | rw [H2.out] | rw [H4.out])
    go_ret
    exact ⟨by rw [F.out]; rfl, B0 _⟩
  · have F := hide hf; have H1 := hide h1; have H2 := hide h2; have H4 := hide h4; clear hf h1 h2 h4
    go_enter Tryd.func69, Tryd.ntmps69
    go_wp2_with (go_at_call 45; refine (within_c).mono ?_; rintro e w' ⟨rfl, rfl⟩; first | rw [H1.out] | rw [H2.out] | rw [H4.out])
    go_ret
    exact ⟨by rw [F.out]; rfl, B0 _⟩

set_option maxHeartbeats 4000000 in
theorem IndexFunc_Edge_c {g : Nat} {many : Int} {t : TypeId} {v : Value} {n : Nat} {ts : List T3} {w : World} (hs : S3 w v n ts) (hb : Blk w g t #[.int .i64 many]) (h0 : 0 ≤ many) (h6 : many ≤ 6) :
    Calls Tryd.prog 80 #[v, .func (.func 69) #[] #[.pointer (some ⟨g, 0, none⟩)]] w fun e w' => ∃ i : Int, e = .returned (.int .i64 i) ∧ (decide (0 ≤ i)) = ts.any (fun e => !edgeB (many - 1) e) ∧ Below w.heap.size w w' := by
  obtain ⟨A, c, rfl, hnc, hn, hr⟩ := hs
  have hl := hide hr.len
  go_enter Tryd.func80, Tryd.ntmps80
  go_wp2
  go_loopw [8] (fun i wr => ∃ k : Nat, k ≤ n ∧ i = .int .i64 k ∧ (ts.take k).any (fun e => !edgeB (many - 1) e) = false ∧ Below w.heap.size w wr) (fun i _ => n - (intOf i).toNat)
  case atStart => exact ⟨0, Nat.zero_le _, rfl, by simp, Below.refl _ _⟩
  case round =>
    obtain ⟨k, hk, rfl, hall, hbel⟩ := hrel
    have Hall := hide hall; clear hall
    by_cases hlt : k < n
    · obtain ⟨b, off, x, y, z, rfl, hbk, hx, p0, p1, p2⟩ := hr.at_ hlt
      have Hx := hide hx; clear hx
      have a0 := (hbel.cell (p := ⟨b, off + k * 3, none⟩) hbk).trans p0
      have a1 := (hbel.cell (p := ⟨b, off + k * 3 + 1, none⟩) hbk).trans p1
      have a2 := (hbel.cell (p := ⟨b, off + k * 3 + 2, none⟩) hbk).trans p2
      clear p0 p1 p2
      cases hv : edgeB (many - 1) (x, y, z)
      · have Hv := hide hv; clear hv
        go_wp2_with fail
        refine (EdgesValid_1_c (hb.below hbel hb.lt) h0 h6).mono ?_
        rintro e w2 ⟨rfl, b2⟩
        have B2 := below_step hbel b2
        rw [Hv.out]
        go_wp2_with fail
        go_ret
        exact ⟨_, rfl, by rw [any_of_at3 Hx.out (by simp [Hv.out])]; simp, B2⟩
      · have Hv := hide hv; clear hv
        go_wp2_with fail
        refine (EdgesValid_1_c (hb.below hbel hb.lt) h0 h6).mono ?_
        rintro e w2 ⟨rfl, b2⟩
        have B2 := below_step hbel b2
        rw [Hv.out]
        go_wp2_with fail
        go_roundw
        case rel => exact ⟨k + 1, by omega, by go_num, any_snoc3 Hall.out Hx.out (by simp [Hv.out]), B2⟩
        case measure => simp [intOf]; omega
    · go_wp2
      go_ret
      obtain rfl : k = n := by omega
      refine ⟨_, rfl, ?_, hbel⟩
      have h1 := Hall.out
      rw [List.take_of_length_le (by rw [hl.out]; omega)] at h1
      rw [h1]; rfl

set_option maxHeartbeats 1000000 in
theorem ContainsFunc_Edge_c {g : Nat} {many : Int} {t : TypeId} {v : Value} {n : Nat} {ts : List T3} {w : World} (hs : S3 w v n ts) (hb : Blk w g t #[.int .i64 many]) (h0 : 0 ≤ many) (h6 : many ≤ 6) :
    Calls Tryd.prog 68 #[v, .func (.func 69) #[] #[.pointer (some ⟨g, 0, none⟩)]] w fun e w' => e = .returned (.bool (ts.any (fun e => !edgeB (many - 1) e))) ∧ Below w.heap.size w w' := by
  obtain ⟨A, c, rfl, hnc, hn, hr⟩ := hs
  go_enter Tryd.func68, Tryd.ntmps68
  go_wp2_with fail
  refine (IndexFunc_Edge_c ⟨A, c, rfl, hnc, hn, hr⟩ hb h0 h6).mono ?_
  rintro e w2 ⟨i, rfl, hi, b2⟩
  have Hi := hide hi; clear hi
  go_wp2_with fail
  go_ret
  exact ⟨by rw [← Hi.out]; rfl, b2⟩

set_option maxHeartbeats 4000000 in
theorem impl_EdgesValid_c {many : Int} {v : Value} {n : Nat} {ts : List T3} {w : World} (hs : S3 w v n ts) :
    Calls Tryd.prog 48 #[.int .i64 many, v] w fun e w' => e = .returned (.bool (edgesB many ts)) ∧ Below w.heap.size w w' := by
  have ss := hs
  obtain ⟨A, c, rfl, hnc, hn, hr⟩ := hs
  have hl := hide hr.len
  have B0 : ∀ o, Below w.heap.size w (w.alloc o) := fun o => (Below.refl _ _).alloc (Nat.le_refl _) o
  cases h1 : inB many 0 6
  · have hf : edgesB many ts = false := by simp [edgesB, h1]
    have F := hide hf; have H1 := hide h1; clear hf h1
    go_enter Tryd.func48, Tryd.ntmps48
    go_wp2_with (go_at_call 45; refine (within_c).mono ?_; rintro e w' ⟨rfl, rfl⟩; rw [H1.out])
    go_ret
    exact ⟨by rw [F.out]; rfl, B0 _⟩
  · have hh := (inB_iff _ _ _).1 h1
    have H1 := hide h1
    obtain ⟨m0, m6⟩ := hh
    by_cases h144 : n ≤ 144
    · have hf : edgesB many ts = !(ts.any (fun e => !edgeB (many - 1) e)) := by
        unfold edgesB
        rw [h1, hl.out, not_all]; simp [h144]
      have F := hide hf; clear hf h1
      have hd : ¬ ((144 : Int) < n) := by omega
      go_enter Tryd.func48, Tryd.ntmps48
      go_wp2_with (go_at_call 45; refine (within_c).mono ?_; rintro e w' ⟨rfl, rfl⟩; rw [H1.out])
      refine (ContainsFunc_Edge_c (ss.below (B0 _)) (Blk.new w _ _) m0 m6).mono ?_
      rintro e w2 ⟨rfl, b2⟩
      have B2 := below_step (B0 _) b2
      go_wp2_with fail
      go_ret
      exact ⟨by rw [F.out]; rfl, B2⟩
    · have hf : edgesB many ts = false := by simp [edgesB, hl.out, h144]
      have F := hide hf; clear hf h1
      have hd : (144 : Int) < n := by omega
      go_enter Tryd.func48, Tryd.ntmps48
      go_wp2_with (go_at_call 45; refine (within_c).mono ?_; rintro e w' ⟨rfl, rfl⟩; rw [H1.out])
      go_ret
      exact ⟨by rw [F.out]; rfl, B0 _⟩

set_option maxHeartbeats 8000000 in
theorem spec_EdgesValid_c {many : Int} {v : Value} {n : Nat} {ts : List T3} {w : World} (hs : S3 w v n ts) :
    Calls Tryd.prog 21 #[.int .i64 many, v] w fun e w' => e = .returned (.bool (edgesB many ts)) ∧ Below w.heap.size w w' := by
  obtain ⟨A, c, rfl, hnc, hn, hr⟩ := hs
  have hl := hide hr.len
  obtain ⟨ok, hok⟩ : ∃ ok, ok = inB many 0 6 := ⟨_, rfl⟩
  obtain ⟨m1, hm1⟩ : ∃ m1, m1 = IntKind.i64.wrap (many - 1) := ⟨_, rfl⟩
  have hmm : ok = true → m1 = many - 1 := fun h => by
    have := (inB_iff _ _ _).1 (hok ▸ h)
    rw [hm1, IntKind.wrap_i64]; omega
  have Hm := hide hmm; clear hmm
  have Hok := hide hok; clear hok
  have HM1 : Hid (IntKind.i64.wrap (many - 1) = m1) := hm1.symm
  have HM2 : Hid (wrap64 (many - 1) = m1) := by show wrap64 (many - 1) = m1; unfold wrap64; rw [hm1, IntKind.wrap_i64]
  clear hm1
  go_enter Tryd.func21, Tryd.ntmps21
  go_wp2
  go_loopw [5, 6] (fun i _ wr => ∃ k : Nat, k ≤ n ∧ i = .int .i64 k ∧ (ts.take k).all (edgeB m1) = true ∧ Below w.heap.size w wr) (fun i _ _ => n - (intOf i).toNat)
  case atStart => exact ⟨0, Nat.zero_le _, rfl, by simp, Below.refl _ _⟩
  case round =>
    obtain ⟨k, hk, rfl, hall, hbel⟩ := hrel
    have Hall := hide hall; clear hall
    by_cases hlt : k < n
    · obtain ⟨b, off, x, y, z, rfl, hbk, hx, p0, p1, p2⟩ := hr.at_ hlt
      have Hx := hide hx; clear hx
      have a0 := (hbel.cell (p := ⟨b, off + k * 3, none⟩) hbk).trans p0
      have a1 := (hbel.cell (p := ⟨b, off + k * 3 + 1, none⟩) hbk).trans p1
      have a2 := (hbel.cell (p := ⟨b, off + k * 3 + 2, none⟩) hbk).trans p2
      clear p0 p1 p2
      have hno : edgeB m1 (x, y, z) = false → edgesB many ts = false := fun h => by
        cases hk : ok with
        | false => simp [edgesB, ← Hok.out, hk]
        | true => have := all_bad Hx.out h; rw [Hm.out hk] at this; simp [edgesB, this]
      have Hno := hide hno; clear hno
      have e1 := HM1.out; have e2 := HM2.out
      rcases edge_cases m1 x y z with ⟨h1, hf⟩ | ⟨h1, h2, hf⟩ | ⟨h1, h2, h3, hf⟩ | ⟨h1, h2, h3, h4, hf⟩ | ⟨h1, h2, h3, h4, hf⟩
      · have F := hide hf; have H1 := hide h1; clear hf h1
        go_wp2_with (go_at_call 46; refine (l1In_c).mono ?_; rintro e w' ⟨rfl, rfl⟩; first | rw [H1.out])
        go_ret
        exact ⟨by rw [Hno.out F.out]; rfl, hbel.alloc hbel.size _⟩
      · have F := hide hf; have H1 := hide h1; have H2 := hide h2; clear hf h1 h2
        go_wp2_with (go_at_call 46; refine (l1In_c).mono ?_; rintro e w' ⟨rfl, rfl⟩; first | rw [H1.out] | rw [H2.out])
        go_ret
        exact ⟨by rw [Hno.out F.out]; rfl, hbel.alloc hbel.size _⟩
      · have F := hide hf; have H1 := hide h1; have H2 := hide h2; clear hf h1 h2
        go_wp2_with (go_at_call 46; refine (l1In_c).mono ?_; rintro e w' ⟨rfl, rfl⟩; first | rw [H1.out] | rw [H2.out])
        go_ret
        exact ⟨by rw [Hno.out F.out]; rfl, hbel.alloc hbel.size _⟩
      · have F := hide hf; have H1 := hide h1; have H2 := hide h2; have H4 := hide h4; clear hf h1 h2 h4
        go_wp2_with (go_at_call 46; refine (l1In_c).mono ?_; rintro e w' ⟨rfl, rfl⟩; first | rw [H1.out] | rw [H2.out] | rw [H4.out])
        go_ret
        exact ⟨by rw [Hno.out F.out]; rfl, hbel.alloc hbel.size _⟩
      · have F := hide hf; have H1 := hide h1; have H2 := hide h2; have H4 := hide h4; clear hf h1 h2 h4
        go_wp2_with (go_at_call 46; refine (l1In_c).mono ?_; rintro e w' ⟨rfl, rfl⟩; first | rw [H1.out] | rw [H2.out] | rw [H4.out])
        go_roundw
        case rel => exact ⟨k + 1, by omega, by go_num, all_snoc3 Hall.out Hx.out F.out, hbel.alloc hbel.size _⟩
        case measure => simp [intOf]; omega
    · obtain rfl : k = n := by omega
      have hf : edgesB many ts = (ok && decide (k ≤ 144)) := by
        have h1 := Hall.out
        rw [List.take_of_length_le (by rw [hl.out]; omega)] at h1
        unfold edgesB
        rw [← Hok.out, hl.out]
        cases hk : ok with
        | false => simp
        | true => rw [Hm.out hk] at h1; rw [h1]; simp
      have F := hide hf; clear hf
      cases hk : ok
      · have K := hide hk; clear hk
        go_wp2_with (go_at_call 46; refine (l1In_c).mono ?_; rintro e w' ⟨rfl, rfl⟩; rw [← Hok.out, K.out])
        go_ret
        exact ⟨by rw [F.out, K.out]; rfl, hbel⟩
      · have K := hide hk; clear hk
        have hd : decide ((k : Int) ≤ 144) = decide (k ≤ 144) := by rw [decide_eq_decide]; omega
        have D := hide hd; clear hd
        go_wp2_with (go_at_call 46; refine (l1In_c).mono ?_; rintro e w' ⟨rfl, rfl⟩; rw [← Hok.out, K.out])
        go_ret
        exact ⟨by rw [F.out, K.out, ← D.out]; rfl, hbel⟩

end Go.Proofs.YtopjdidigfdhbaaDoor
