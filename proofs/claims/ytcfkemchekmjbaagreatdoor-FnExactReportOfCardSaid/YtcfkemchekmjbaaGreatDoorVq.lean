/- Merged (what the law reaches): AllI, AllJ, Wv1. -/
import Derived.Test.YtcfkemchekmjbaaGreatDoorVp
namespace Go.Proofs.YtcfkemchekmjbaaGreatDoor
open Go.RowKit
theorem run_make_L3 (w : World) : (Instr.makeSlice 37 (.int .i64 0) (.int .i64 3)).run Tryz.prog w = .ok (.slice (some ⟨w.heap.size, 0, none⟩) 0 3) (w.alloc (.cells (madeCells #[.slice none 0 0] 3) 24)) := by
  obtain ⟨i, hi, hz, hs, hb⟩ := info_parts infoLi
  have := run_make_rowN 37 24 i (.slice none 0 0) Tryz.underlying37 hi hz .i64 .i64 0 3 (by omega) (by rw [hb]; omega) (by omega) w
  rw [hs, Nat.mul_one] at this
  exact this
theorem own_L3 (w : World) : LL (w.alloc (.cells (madeCells #[.slice none 0 0] 3) 24)) w.heap.size (.slice (some ⟨w.heap.size, 0, none⟩) 0 3) [] :=
  ⟨[], ⟨rfl, .inr ⟨w.heap.size, 3, _, rfl, Nat.le_refl _, Blk.new w _ _, Nat.zero_le _, by simp [maxLen], by simp [madeCells], by simp⟩⟩, fun k xs h => by simp at h⟩
def instS (ts : List Tx) (k : Nat) : Ls := (List.range k).map fun (i : Nat) => inst ts (i : Int)
theorem instS_succ (ts : List Tx) (k : Nat) : instS ts (k + 1) = instS ts k ++ [inst ts (k : Int)] := by unfold instS; rw [List.range_succ, List.map_append]; rfl
theorem instS_len (ts : List Tx) (k : Nat) : (instS ts k).length = k := by unfold instS; simp
theorem instS_at {ts : List Tx} {k n : Nat} {xs : List Int} (h : (instS ts n)[k]? = some xs) : xs = inst ts (k : Int) := by
  unfold instS at h
  rw [List.getElem?_map] at h
  cases hr : (List.range n)[k]? with
  | none => rw [hr] at h; cases h
  | some q =>
    rw [hr] at h
    obtain ⟨h1, h2⟩ := List.getElem?_eq_some_iff.1 hr
    rw [List.getElem_range] at h2
    subst h2
    injection h with h; exact h.symm
theorem LL.some_ {w : World} {lo : Nat} {v : Value} {ls : Ls} (h : LL w lo v ls) (h0 : 0 < ls.length) : ∃ g c, v = .slice (some ⟨g, 0, none⟩) ls.length c := by
  obtain ⟨cs, ⟨_, h2⟩, _⟩ := h
  rcases h2 with ⟨_, h3⟩ | ⟨g, cap, cur, e, _⟩
  · omega
  · exact ⟨g, cap, e⟩
set_option maxRecDepth 100000 in
set_option maxHeartbeats 4000000 in
theorem FirstOrders_c {A : Option Addr} {n c : Nat} {ts : List Tx} {w : World} (hr : RTs w A n ts) (hh : histB ts = true) :
    Calls Tryz.prog 84 #[.slice A n c] w fun e w' => ∃ g c', e = .returned (.slice (some ⟨g, 0, none⟩) 3 c') ∧ LL w' w.heap.size (.slice (some ⟨g, 0, none⟩) 3 c') (instS ts 3) ∧ Below w.heap.size w w' := by
  obtain ⟨h6, hv, hnd⟩ := histB_parts hh
  have hl := hide hr.1
  have HH := hide hh
  have hn6 : n ≤ 6 := by rw [← hl.out]; exact h6
  have hsm : SmallT ts := fun t ht => by have h : t.2.1.length ≤ 6 := txnB_lenH (hv t ht); omega
  have hmk := run_make_L3
  clear hh hv hnd h6
  go_enter Tryz.func84, Tryz.ntmps84
  go_wp2_with fail
  refine (impl_HistoryValid_c hr (by omega) hsm).mono ?_
  rintro e w2 ⟨rfl, b2⟩
  rw [HH.out]
  have L2 := hide ((own_L3 w2).mono (lo' := w.heap.size) b2.size)
  have B2 := hide (b2.alloc b2.size (.cells (madeCells #[.slice none 0 0] 3) 24))
  clear b2
  go_wp2_with fail
  go_loopw [3, 9] (fun q i W => ∃ k : Nat, i = .int .i64 k ∧ k ≤ 3 ∧ LL W w.heap.size q (instS ts k) ∧ Below w.heap.size w W) (fun _ i _ => 3 - (intOf i).toNat)
  case atStart => exact ⟨0, rfl, Nat.zero_le _, L2.out, B2.out⟩
  case round =>
    clear L2 B2 hmk
    obtain ⟨k, rfl, hk, hll, bw⟩ := hrel
    rename World => wr
    have HL := hide hll; have BW := hide bw
    have hlen := instS_len ts k
    obtain ⟨Aq, cq, hqe⟩ := hll.shape
    rw [hlen] at hqe
    subst hqe
    clear hll bw
    by_cases hk3 : k < 3
    · have k2 : (k : Int) < 3 := by omega
      go_wp2_with fail
      refine (impl_Installed_c (hr.below BW.out) HH.out hk3).mono ?_
      rintro e w3 ⟨r3, m3, rfl, o3, b3⟩
      obtain ⟨A3, c3, rfl⟩ := o3.shape
      have b4 : Below w3.heap.size w3 (w3.alloc (.cells #[.slice A3 m3 c3] 24)) := (Below.refl _ _).alloc (Nat.le_refl _) _
      have K4 := Blk.new w3 24 #[.slice A3 m3 c3]
      have B3 := below_step BW.out b3
      have o4 := (o3.mono (B' := w.heap.size) BW.out.size).below b4
      have L4 := (HL.out.below b3).below b4
      have B4 := hide (below_step B3 b4)
      clear HL o3 b3 b4 B3
      go_wp2_with (at_builtin; obtain ⟨v6, w6, hrun, L6, g6, hat⟩ := LL.run L4 37 K4 o4 (by rw [hlen]; omega) B4.out.size; refine Lib.wpList_append_run _ rfl _ _ _ _ rfl _ _ rfl rfl _ _ hrun ?_)
      have B6 := L4.grows B4.out (Nat.le_refl _) g6
      go_roundw
      case rel => exact ⟨k + 1, by go_num, by omega, by rw [instS_succ]; exact L6, B6⟩
      case measure => simp [intOf]; omega
    · have k2 : ¬ (k : Int) < 3 := by omega
      have H3 := hide (show k = 3 by omega)
      obtain ⟨g, c9, e9⟩ := HL.out.some_ (by rw [hlen]; omega)
      rw [hlen] at e9
      injection e9 with e1 _ e3
      subst e1; subst e3
      clear hk3 hk hlen
      go_wp2_with fail
      go_ret
      have hL := HL.out
      rw [H3.out] at hL
      exact ⟨g, cq, by rw [H3.out]; rfl, hL, BW.out⟩
set_option maxRecDepth 100000 in
set_option maxHeartbeats 4000000 in
theorem FirstOrders_no {A : Option Addr} {n c : Nat} {ts : List Tx} {w : World} (hr : RTs w A n ts) (hn : n ≤ 1048576) (hsm : SmallT ts) (hh : histB ts = false) :
    Calls Tryz.prog 84 #[.slice A n c] w fun e w' => e = .returned (.slice none 0 0) ∧ Below w.heap.size w w' := by
  have HH := hide hh
  clear hh
  go_enter Tryz.func84, Tryz.ntmps84
  go_wp2_with fail
  refine (impl_HistoryValid_c hr hn hsm).mono ?_
  rintro e w2 ⟨rfl, b2⟩
  rw [HH.out]
  go_wp2_with fail
  go_ret
  exact ⟨rfl, b2⟩
end Go.Proofs.YtcfkemchekmjbaaGreatDoor

namespace Go.Proofs.YtcfkemchekmjbaaGreatDoor
open Go.RowKit
def AllR (w : World) (lss : List Ls) (e : Ending) (w' : World) : Prop := ∃ A n c, e = .returned (.slice A n c) ∧ n ≤ c ∧ n ≤ 1000 ∧ RLL w' A n lss ∧ Below w.heap.size w w'
theorem outTo_rows {ts : List Tx} : ∀ (k : Nat) (b : Ls), b ∈ outTo ts k → b.length = k
  | 0, b, h => by simp [outTo] at h; rw [h]; rfl
  | k + 1, b, h => by
    have h' : b ∈ stepO (outTo ts k) (inst ts (k : Int)) := h
    unfold stepO at h'
    rw [List.mem_flatMap] at h'
    obtain ⟨a, ha, hb⟩ := h'
    rw [List.mem_map] at hb
    obtain ⟨o, _, rfl⟩ := hb
    rw [List.length_append, outTo_rows k a ha]; rfl
theorem LQ.at_ {w : World} {lo c n : Nat} {A : Option Addr} {ls : Ls} (h : LQ w lo (.slice A n c) ls) {k : Nat} (hk : k < ls.length) :
    ∃ b u m, A = some ⟨b, 0, none⟩ ∧ b < w.heap.size ∧ WI w lo u m (ls.getD k []) ∧ w.cell? ⟨b, k, none⟩ = some u := by
  obtain ⟨cs, h1, h2⟩ := h
  rcases h1.2 with ⟨_, h0⟩ | ⟨g, cap, cur, e, hB, hg, hc, hcm, hs, ht⟩
  · omega
  · injection e with e e2 e3
    subst e; subst e3; subst e2
    obtain ⟨u, m, hu, o⟩ := h2 k (ls.getD k []) (by rw [List.getD_eq_getElem?_getD, List.getElem?_eq_getElem hk]; rfl)
    exact ⟨g, u, m, rfl, Blk.lt (t := 24) (cs := cur) hg, o, by rw [World.ownsRow.cellAt h1 k (by omega)]; exact hu⟩
theorem LLQ.at_ {w : World} {lo c n : Nat} {A : Option Addr} {lss : List Ls} (h : LLQ w lo (.slice A n c) lss) {k : Nat} (hk : k < lss.length) :
    ∃ b u, A = some ⟨b, 0, none⟩ ∧ b < w.heap.size ∧ LQ w lo u (lss.getD k []) ∧ w.cell? ⟨b, k, none⟩ = some u := by
  obtain ⟨cs, h1, h2⟩ := h
  rcases h1.2 with ⟨_, h0⟩ | ⟨g, cap, cur, e, hB, hg, hc, hcm, hs, ht⟩
  · omega
  · injection e with e e2 e3
    subst e; subst e3; subst e2
    obtain ⟨u, hu, o⟩ := h2 k (lss.getD k []) (by rw [List.getD_eq_getElem?_getD, List.getElem?_eq_getElem hk]; rfl)
    exact ⟨g, u, rfl, Blk.lt (t := 37) (cs := cur) hg, o, by rw [World.ownsRow.cellAt h1 k (by omega)]; exact hu⟩
theorem OW.clip {A : Option Addr} {n c B : Nat} {xs : List Int} {w : World} (h : WI w B (.slice A n c) n xs) : WI w B (.slice A n n) n xs ∧ n ≤ c ∧ ∀ a, A = some a → ∃ g, a = ⟨g, 0, none⟩ := by
  rcases h.2.2 with ⟨h1, h2⟩ | ⟨g, cap, cur, h1, hB, hg, hc, hm, hsz, ht⟩
  · injection h1 with h1 _ h3
    subst h1; subst h2; subst h3
    exact ⟨⟨h.1, h.2.1, .inl ⟨rfl, rfl⟩⟩, Nat.le_refl _, fun a ha => by cases ha⟩
  · injection h1 with h1 _ h3
    subst h1; subst h3
    exact ⟨⟨h.1, h.2.1, .inr ⟨g, n, cur, rfl, hB, hg, Nat.le_refl _, Nat.le_trans hc hm, hsz, ht⟩⟩, hc, fun a ha => by injection ha with ha; exact ⟨g, ha.symm⟩⟩
set_option maxHeartbeats 1000000 in
theorem ClipW_c {A : Option Addr} {n c B : Nat} {xs : List Int} {w : World} (hs : WI w B (.slice A n c) n xs) :
    Calls Tryz.prog 87 #[.slice A n c] w fun e w' => e = .returned (.slice A n n) ∧ w = w' := by
  obtain ⟨_, hnc, hA⟩ := hs.clip
  have hcl := fun w => run_clipL A n c hnc hA w
  clear hs hA
  go_enter Tryz.func87, Tryz.ntmps87
  go_wp2_with fail
  go_ret
  exact ⟨rfl, rfl⟩
theorem run_clipLLL (A : Option Addr) (n c : Nat) (hnc : n ≤ c) (hA : ∀ a, A = some a → ∃ g, a = ⟨g, 0, none⟩) (w : World) :
    (Instr.slice 50 (.slice A n c) none (some (.int .i64 (n : Int))) (some (.int .i64 (n : Int)))).run Tryz.prog w = .ok (.slice A n n) w := by
  obtain ⟨i, hi, hz, hsz, hb⟩ := info_parts infoLl
  have h1 : (if n = 0 then A else A.map (·.add (0 * i.size))) = A := by
    split
    · rfl
    · cases A with
      | none => rfl
      | some a => obtain ⟨g, rfl⟩ := hA a rfl; rw [Nat.zero_mul]; simp [addr_add]
  simp [Instr.slice, Instr.sliceBounds, Instr.sliceBound, run_underlying Tryz.underlying50, sizeOf, typeInfo, hi, asIntOf, hnc]
  simpa using h1
set_option maxHeartbeats 1000000 in
theorem ClipLLL_c {A : Option Addr} {n c lo : Nat} {lss : List Ls} {w : World} (hs : LLQ w lo (.slice A n c) lss) :
    Calls Tryz.prog 88 #[.slice A n c] w fun e w' => e = .returned (.slice A n n) ∧ w = w' := by
  obtain ⟨hl0, hnc, hl1⟩ := hs.rll
  clear hl0 hl1
  have hA : ∀ a, A = some a → ∃ g, a = ⟨g, 0, none⟩ := fun a ha => by
    obtain ⟨cs, h1, _⟩ := hs
    rcases h1.2 with ⟨e, _⟩ | ⟨g, cap, cur, e, _⟩
    · injection e with e _ _; rw [e] at ha; cases ha
    · injection e with e _ _; rw [e] at ha; injection ha with ha; exact ⟨g, ha.symm⟩
  have hcl := fun w => run_clipLLL A n c hnc hA w
  clear hs hA
  go_enter Tryz.func88, Tryz.ntmps88
  go_wp2_with fail
  go_ret
  exact ⟨rfl, rfl⟩
/-- One empty slice of lists. -/
theorem LLQ.one (w : World) : LLQ ((w.alloc (.cells #[] 24)).alloc (.cells #[.slice (some ⟨w.heap.size, 0, none⟩) 0 0] 37)) w.heap.size (.slice (some ⟨w.heap.size + 1, 0, none⟩) 1 1) [[]] := by
  refine ⟨[.slice (some ⟨w.heap.size, 0, none⟩) 0 0], ⟨rfl, .inr ⟨w.heap.size + 1, 1, _, rfl, by omega, by have := Blk.new (w.alloc (.cells #[] 24)) 37 #[.slice (some ⟨w.heap.size, 0, none⟩) 0 0]; rw [World.size_alloc] at this; exact this, Nat.le_refl _, by simp [maxLen], rfl, rfl⟩⟩, fun k os hk => ?_⟩
  match k, hk with
  | 0, hk =>
    simp at hk; subst hk
    exact ⟨_, rfl, (LQ.empty w).below ((Below.refl _ _).alloc (Nat.le_refl _) _)⟩
set_option maxRecDepth 100000 in
set_option maxHeartbeats 4000000 in
theorem AllOrders_no {A : Option Addr} {n c : Nat} {ts : List Tx} {w : World} (hr : RTs w A n ts) (hn : n ≤ 1048576) (hsm : SmallT ts) (hh : histB ts = false) :
    Calls Tryz.prog 28 #[.slice A n c] w (AllR w (allV ts)) := by
  have hq : ∀ w, (binOp .eql 37 (.slice none 0 0) (.slice none 0 0)).run Tryz.prog w = .ok (.bool true) w := fun w => Lib.run_eql_slice_nil w _ _ none 0 0 0 0 Tryz.underlying37
  have hv : allV ts = [] := by unfold allV; rw [if_neg (by rw [hh]; simp)]
  have HV := hide hv
  clear hv
  go_enter Tryz.func28, Tryz.ntmps28
  go_wp2_with fail
  refine (FirstOrders_no hr hn hsm hh).mono ?_
  rintro e w2 ⟨rfl, b2⟩
  go_wp2_with fail
  go_ret
  exact ⟨none, 0, 0, rfl, Nat.le_refl _, by omega, by rw [HV.out]; exact ⟨rfl, fun h => absurd h (by omega)⟩, b2⟩
set_option maxRecDepth 100000 in
set_option maxHeartbeats 16000000 in
theorem AllOrders_c {A : Option Addr} {n c : Nat} {ts : List Tx} {w : World} (hr : RTs w A n ts) (hh : histB ts = true) :
    Calls Tryz.prog 28 #[.slice A n c] w (AllR w (allV ts)) := by
  have HH := hide hh
  clear hh
  go_enter Tryz.func28, Tryz.ntmps28
  go_wp2_with fail
  refine (FirstOrders_c hr HH.out).mono ?_
  rintro e w2 ⟨g, cg, rfl, l2, b2⟩
  have q1 : ∀ w, (binOp .eql 37 (.slice (some ⟨g, 0, none⟩) 3 cg) (.slice none 0 0)).run Tryz.prog w = .ok (.bool false) w := fun w => Lib.run_eql_slice_nil w _ _ (some ⟨g, 0, none⟩) 3 cg 0 0 Tryz.underlying37
  have hrl := (l2.lq.rl).2.2
  have B2 := hide b2
  have HRL := hide hrl
  have hat := hide (fun (k : Nat) (hk : k < 3) => hrl.at_ hk)
  clear l2 b2 hrl
  go_wp2_with fail
  go_loopw [4, 25] (fun q i W => ∃ k : Nat, q = .int .i64 (prodTo ts k : Nat) ∧ i = .int .i64 k ∧ k ≤ 3 ∧ W = w2) (fun _ i _ => 3 - (intOf i).toNat)
  case atStart => exact ⟨0, rfl, rfl, Nat.zero_le _, rfl⟩
  case round =>
    obtain ⟨k, rfl, rfl, hk, rfl⟩ := hrel
    by_cases hk3 : k < 3
    · obtain ⟨b, off, xs, B, kk, d, e1, hbb, hx, hc, hkd, hkm, hri⟩ := hat.out k hk3
      injection e1 with e1; injection e1 with e1 e2; subst e1; subst e2
      rw [Nat.zero_add] at hc
      have hxs := instS_at hx
      have hk6 : kk ≤ 6 := by rw [← hri.len, hxs]; exact inst_le6 HH.out _
      have HPK := hide (show prodTo ts k * facN kk = prodTo ts (k + 1) by rw [← hri.len, hxs]; rfl)
      have k2 : (k : Int) < 3 := by omega
      clear hx hri hxs
      go_wp2_with fail
      go_loopw [4, 31] (fun q i W => ∃ j : Nat, q = .int .i64 (prodTo ts k * facN j : Nat) ∧ i = .int .i64 j ∧ j ≤ kk ∧ W = wr) (fun _ i _ => kk - (intOf i).toNat)
      case atStart => exact ⟨0, by show _ = Value.int .i64 ((prodTo ts k * 1 : Nat) : Int); rw [Nat.mul_one], rfl, Nat.zero_le _, rfl⟩
      case round =>
        obtain ⟨j, rfl, rfl, hj, rfl⟩ := hrel
        by_cases hjk : j < kk
        · have j2 : (j : Int) < kk := by omega
          have hm : prodTo ts k * facN (j + 1) ≤ 373248000 := by
            have h1 := facN_le (show j + 1 ≤ 6 by omega)
            have h2 := prodTo_pw HH.out k
            have h3 : (720 : Nat) ^ k ≤ 720 ^ 2 := Nat.pow_le_pow_right (by decide) (by omega)
            have h4 := Nat.mul_le_mul (Nat.le_trans h2 h3) h1
            exact Nat.le_trans h4 (by decide)
          have hmm : prodTo ts k * facN (j + 1) = (prodTo ts k * facN j) * (j + 1) := by rw [facN_succ, Nat.mul_comm (j + 1), Nat.mul_assoc]
          generalize hM : prodTo ts k * facN j = M at hmm
          rw [hmm] at hm
          have hmi : ((M * (j + 1) : Nat) : Int) = (M : Int) * ((j : Int) + 1) := by push_cast; rfl
          have hw1 : wrap64 ((M : Int) * ((j : Int) + 1)) = ((M * (j + 1) : Nat) : Int) := by rw [hmi]; unfold wrap64; rw [← hmi]; omega
          have HW := hide hw1; have HMM := hide hmm
          clear hw1 hmm hmi hm hM
          go_wp2_with fail
          go_roundw
          case rel => exact ⟨j + 1, by rw [HMM.out, ← HW.out], by go_num, by omega, trivial⟩
          case measure => simp [intOf]; omega
        · obtain rfl : kk = j := by omega
          go_wp2_with fail
          go_roundw
          case rel => exact ⟨k + 1, by rw [HPK.out], by go_num, by omega, trivial⟩
          case measure => simp [intOf]; omega
    · have k2 : ¬ (k : Int) < 3 := by omega
      have HK := hide (show k = 3 by omega)
      by_cases hp : prodTo ts 3 ≤ 200
      · have hv : allV ts = outTo ts 3 := by unfold allV; rw [if_pos ⟨HH.out, hp⟩]
        have HV := hide hv; have HP := hide hp
        have p2 : ¬ (prodTo ts k : Int) > 200 := by rw [HK.out]; omega
        have L0 := hide (LLQ.one wr)
        have B0 := hide (((Below.refl wr.heap.size wr).alloc (Nat.le_refl _) (.cells #[] 24)).alloc (by simp) (.cells #[.slice (some ⟨wr.heap.size, 0, none⟩) 0 0] 37))
        generalize prodTo ts k = pk at p2
        clear hv hp hk3 hk
        go_wp2_with fail
        clear p2
        go_loopw [8, 46] (fun q i W => ∃ k : Nat, i = .int .i64 k ∧ k ≤ 3 ∧ LLQ W wr.heap.size q (outTo ts k) ∧ Below wr.heap.size wr W) (fun _ i _ => 3 - (intOf i).toNat)
        case atStart => exact ⟨0, rfl, Nat.zero_le _, L0.out, B0.out⟩
        case round =>
          clear L0 B0
          obtain ⟨key, rfl, hkey, hout, bw⟩ := hrel
          rename World => w3
          have HO := hide hout; have BW := hide bw
          obtain ⟨Aq, cq, rfl⟩ := hout.shape
          clear hout bw
          by_cases hk3 : key < 3
          · have k2 : (key : Int) < 3 := by omega
            obtain ⟨b, off, xs, B, kk, d, e1, hbb, hx, hc, hkd, hkm, hri⟩ := hat.out key hk3
            injection e1 with e1; injection e1 with e1 e2; subst e1; subst e2
            rw [Nat.zero_add] at hc
            have hxs := instS_at hx
            have hk6 : kk ≤ 6 := by rw [← hri.len, hxs]; exact inst_le6 HH.out _
            have c3 := (BW.out.cell (p := ⟨g, key, none⟩) hbb).trans hc
            have sx := hide (SI.of_args hkd hkm hri)
            have hlx := hide (show xs.length = kk from hri.len)
            have o200 := outTo_200 HH.out HP.out (Nat.le_of_lt hk3)
            have HXS := hide hxs
            have B4 := hide (BW.out.alloc BW.out.size (.cells #[] 37))
            have N4 := hide ((LLQ.empty w3).mono (lo' := wr.heap.size) BW.out.size)
            have O4 := hide (HO.out.below ((Below.refl _ _).alloc (Nat.le_refl _) (.cells #[] 37)))
            have AP4 := hide (show (Value.slice Aq (outTo ts key).length cq).ownBlock = none ∨ (Value.slice Aq (outTo ts key).length cq).ownBlock ≠ (Value.slice (some ⟨w3.heap.size, 0, none⟩) 0 0).ownBlock by
              obtain ⟨cs, o, _⟩ := HO.out
              cases hb : (Value.slice Aq (outTo ts key).length cq).ownBlock with
              | none => exact .inl rfl
              | some q => right; intro e; injection e with e; have e' : q = w3.heap.size := e; have := (World.ownsRow.lt o q hb).2; omega)
            have HNX := hide (show ∀ m j, m < (outTo ts key).length → (stepU (outTo ts key) xs m j).length ≤ 200 from fun m j hm => by rw [HXS.out]; exact stepU_200 HH.out HP.out hk3 hm)
            have hrows := hide (show ∀ b ∈ outTo ts key, b.length ≤ 3 from fun b hb => by rw [outTo_rows key b hb]; omega)
            have hstep := hide (show outTo ts (key + 1) = stepO (outTo ts key) xs by rw [HXS.out]; rfl)
            generalize hou : outTo ts key = ou at O4 AP4 HNX hrows hstep o200
            clear hx hri hxs hc HO BW hou
            go_wp2_with fail
            clear c3
            go_loopw [11, 53] (fun q i W => ∃ m : Nat, i = .int .i64 m ∧ m ≤ ou.length ∧ LLQ W wr.heap.size q (stepU ou xs m 0) ∧ LLQ W wr.heap.size (.slice Aq ou.length cq) ou ∧ ((Value.slice Aq ou.length cq).ownBlock = none ∨ (Value.slice Aq ou.length cq).ownBlock ≠ q.ownBlock) ∧ Below wr.heap.size wr W) (fun _ i _ => ou.length - (intOf i).toNat)
            case atStart => exact ⟨0, rfl, Nat.zero_le _, by rw [stepU_zero]; exact N4.out, O4.out, AP4.out, B4.out⟩
            case round =>
              clear B4 N4 O4 AP4
              obtain ⟨m, rfl, hm, hnx, hout, hap, bw⟩ := hrel
              rename World => w4
              have HN := hide hnx; have HO := hide hout; have BW := hide bw; have HAP := hide hap
              obtain ⟨An, cn, rfl⟩ := hnx.shape
              clear hnx bw hap
              by_cases hmo : m < ou.length
              · have hm2 : (m : Int) < ou.length := by omega
                obtain ⟨bo, ub, e1, hbo, hlb, hcb⟩ := hout.at_ hmo
                subst e1
                have hb : ou[m]? = some (ou.getD m []) := by rw [List.getD_eq_getElem?_getD, List.getElem?_eq_getElem hmo]; rfl
                generalize hbd : ou.getD m [] = b at hlb hb
                have HBD := hide hbd
                have hb3 : b.length ≤ 3 := hrows.out _ (List.mem_of_getElem? hb)
                have HB := hide hb
                clear hbd
                obtain ⟨A', c', hsh⟩ := hlb.shape
                subst hsh
                have HRB := hide hlb
                clear hb hlb hout
                go_wp2_with fail
                refine (permuted_c kk _ xs w4 hk6 (sx.out.below BW.out)).mono ?_
                rintro e w5 ⟨v5, rfl, l5, b5⟩
                obtain ⟨A5, c5, rfl⟩ := l5.shape
                have hpl : (prms xs).length ≤ 720 := Nat.le_trans (permsF_many _ _ (Nat.le_refl _) (by rw [hlx.out]; exact hk6)) (facN_le (by rw [hlx.out]; exact hk6))
                have B5 := hide (below_step BW.out b5)
                have N5 := hide (HN.out.below b5)
                have O5 := hide (HO.out.below b5)
                have M5 := hide (l5.lq.mono (lo' := wr.heap.size) BW.out.size)
                have R5 := hide (HRB.out.below b5)
                generalize hps : permsF xs.length xs = ps at M5 hpl
                have HPS := hide hps
                have hps720 : ps.length ≤ 720 := by rw [← hps]; exact hpl
                clear l5 b5 HN HO HRB BW hps hcb
                go_wp2_with fail
                go_loopw [11, 60] (fun q i W => ∃ j : Nat, i = .int .i64 j ∧ j ≤ ps.length ∧ LLQ W wr.heap.size q (stepU ou xs m j) ∧ LLQ W wr.heap.size (.slice (some ⟨bo, 0, none⟩) ou.length cq) ou ∧ ((Value.slice (some ⟨bo, 0, none⟩) ou.length cq).ownBlock = none ∨ (Value.slice (some ⟨bo, 0, none⟩) ou.length cq).ownBlock ≠ q.ownBlock) ∧ LQ W wr.heap.size (.slice A5 ps.length c5) ps ∧ LQ W wr.heap.size (.slice A' b.length c') b ∧ Below wr.heap.size wr W) (fun _ i _ => ps.length - (intOf i).toNat)
                case atStart => exact ⟨0, rfl, Nat.zero_le _, N5.out, O5.out, HAP.out, M5.out, R5.out, B5.out⟩
                case round =>
                  clear N5 O5 HAP M5 R5 B5
                  obtain ⟨j, rfl, hj, hnx, hout, hap, hmo5, hbg, bw⟩ := hrel
                  rename World => w6
                  have HN := hide hnx; have HO := hide hout; have HAP := hide hap; have HM5 := hide hmo5; have HBG := hide hbg; have BW := hide bw
                  obtain ⟨An, cn, rfl⟩ := hnx.shape
                  clear hnx hout hap hbg bw
                  by_cases hjp : j < ps.length
                  · have j2 : (j : Int) < ps.length := by omega
                    obtain ⟨b5, u5, mu, e5, hb5, wu, cu⟩ := hmo5.at_ hjp
                    subst e5
                    obtain ⟨A6, c6, rfl, _, _, _, _⟩ := wu.form
                    have hpj : (prms xs)[j]? = some (ps.getD j []) := by unfold prms; rw [HPS.out, List.getD_eq_getElem?_getD, List.getElem?_eq_getElem hjp]; rfl
                    have HST := hide (stepU_step (out := ou) (k := m) hpj)
                    have hmk := run_make_L3
                    have B7 := hide ((Below.refl w6.heap.size w6).alloc (Nat.le_refl _) (.cells (madeCells #[.slice none 0 0] 3) 24))
                    have Q7 := hide (own_L3 w6).lq
                    have WU := hide wu
                    clear hpj hmo5 wu
                    go_wp2_with fail
                    clear hmk cu
                    go_loopw [16, 67] (fun q i W => ∃ t : Nat, i = .int .i64 t ∧ t ≤ b.length ∧ LQ W w6.heap.size q (b.take t) ∧ Below w6.heap.size w6 W) (fun _ i _ => b.length - (intOf i).toNat)
                    case atStart => exact ⟨0, rfl, Nat.zero_le _, Q7.out, B7.out⟩
                    case round =>
                      clear B7 Q7
                      obtain ⟨t, rfl, ht, hq, bw⟩ := hrel
                      rename World => w7
                      have HQ := hide hq; have BW7 := hide bw
                      obtain ⟨Ao, co, hsh⟩ := hq.shape
                      have htl : (b.take t).length = t := by rw [List.length_take]; omega
                      rw [htl] at hsh
                      subst hsh
                      clear hq bw
                      by_cases htb : t < b.length
                      · have t2 : (t : Int) < b.length := by omega
                        obtain ⟨b8, u8, m8, e8, hb8, w8u, c8⟩ := (HBG.out.below BW7.out).at_ htb
                        subst e8
                        obtain ⟨A8, c88, hue, hmc, _, _, _⟩ := w8u.form
                        subst hue
                        have s8 : SI w7 (.slice A8 m8 c88) m8 (b.getD t []) := SI.of_args hmc w8u.small w8u.ri.1
                        have htk := hide (show b.take (t + 1) = b.take t ++ [b.getD t []] by rw [List.take_add_one, List.getD_eq_getElem?_getD, List.getElem?_eq_getElem htb]; rfl)
                        clear w8u
                        go_wp2_with fail
                        refine (CloneO_c s8).mono ?_
                        rintro e w8 ⟨v8, rfl, o8, b8'⟩
                        obtain ⟨A9, c9, rfl⟩ := o8.shape
                        have b9 : Below w8.heap.size w8 (w8.alloc (.cells #[.slice A9 m8 c9] 24)) := (Below.refl _ _).alloc (Nat.le_refl _) _
                        have K9 := Blk.new w8 24 #[.slice A9 m8 c9]
                        have o9 := ((o8.mono (B' := w6.heap.size) BW7.out.size).below b9).wi
                        have L9 := (HQ.out.below b8').below b9
                        have B9 := hide (below_step (below_step BW7.out b8') b9)
                        clear HQ o8 b8' b9 c8 s8
                        go_wp2_with (at_builtin; obtain ⟨v6, w9, hrun, L6, g6, hat6⟩ := LQ.run L9 37 K9 o9 (by rw [htl]; omega) B9.out.size; refine Lib.wpList_append_run _ rfl _ _ _ _ rfl _ _ rfl rfl _ _ hrun ?_)
                        have B6 := L9.grows B9.out (Nat.le_refl _) g6
                        go_roundw
                        case rel => exact ⟨t + 1, by go_num, by omega, by rw [htk.out]; exact L6, B6⟩
                        case measure => simp [intOf]; omega
                      · obtain rfl : t = b.length := by omega
                        rw [List.take_of_length_le (Nat.le_refl _)] at HQ
                        have W7 := hide (WU.out.below BW7.out)
                        clear htl
                        go_wp2_with fail
                        refine (ClipW_c W7.out).mono ?_
                        rintro e w7' ⟨rfl, rfl⟩
                        have WC := W7.out.clip.1
                        have b8 : Below w7.heap.size w7 (w7.alloc (.cells #[.slice A6 mu mu] 24)) := (Below.refl _ _).alloc (Nat.le_refl _) _
                        have K8 := Blk.new w7 24 #[.slice A6 mu mu]
                        have wc8 := WC.below b8
                        have L8 := HQ.out.below b8
                        have L8' := L8.mono (lo' := wr.heap.size) BW.out.size
                        have B8 := hide (below_step BW7.out b8)
                        have hn200 := HNX.out m j hmo
                        clear WC b8 W7
                        go_wp2_with (first | (at_builtin; obtain ⟨vA, wA, hrunA, LA, gA, hatA⟩ := LQ.run L8' 37 K8 wc8 (by omega) (Nat.le_trans BW.out.size B8.out.size); refine Lib.wpList_append_run _ rfl _ _ _ _ rfl _ _ rfl rfl _ _ hrunA ?_; have BA := L8.grows B8.out (Nat.le_refl _) gA; obtain ⟨AA, cA, hshA⟩ := LA.shape; rw [List.length_append, List.length_singleton] at hshA; subst hshA; have bB : Below wA.heap.size wA (wA.alloc (.cells #[.slice AA (b.length + 1) cA] 37)) := (Below.refl _ _).alloc (Nat.le_refl _) _; have KB := Blk.new wA 37 #[.slice AA (b.length + 1) cA]; have LB := LA.below bB; have BB := below_step BA bB; have NB := HN.out.below BB; clear LA gA hatA hrunA bB) | (at_builtin; obtain ⟨vC, wC, hrunC, LC, gC, hatC⟩ := LLQ.run NB 50 KB LB (by omega) (Nat.le_trans BW.out.size BB.size); refine Lib.wpList_append_run _ rfl _ _ _ _ rfl _ _ rfl rfl _ _ hrunC ?_))
                        have OB := HO.out.below BB
                        have MB := HM5.out.below BB
                        have GB := HBG.out.below BB
                        have BC := LLQ.grows NB (below_step BW.out BB) (Nat.le_refl _) gC
                        have APC : (Value.slice (some ⟨bo, 0, none⟩) ou.length cq).ownBlock = none ∨ (Value.slice (some ⟨bo, 0, none⟩) ou.length cq).ownBlock ≠ vC.ownBlock := by
                          rcases hatC with e | e
                          · rw [e]; exact HAP.out
                          · obtain ⟨csO, oO, _⟩ := OB
                            cases hb0 : (Value.slice (some ⟨bo, 0, none⟩) ou.length cq).ownBlock with
                            | none => exact .inl rfl
                            | some q0 => right; rw [e]; intro e2; injection e2 with e2; have := (World.ownsRow.lt oO q0 hb0).2; omega
                        obtain ⟨csN, oN, _⟩ := NB
                        have OC := OB.grown oN gC HAP.out
                        have MC := MB.grown oN gC (by decide) (by decide)
                        have GC := GB.grown oN gC (by decide) (by decide)
                        go_roundw
                        case rel => exact ⟨j + 1, by go_num, by omega, by rw [HST.out, HBD.out]; exact LC, OC, APC, MC, GC, BC⟩
                        case measure => simp [intOf]; omega
                  · obtain rfl : j = ps.length := by omega
                    have hnxt := hide (show stepU ou xs (m + 1) 0 = stepU ou xs m ps.length from stepU_next HB.out (by unfold prms; rw [HPS.out]; exact Nat.le_refl _))
                    clear hmo5
                    go_wp2_with fail
                    go_roundw
                    case rel => exact ⟨m + 1, by go_num, by omega, by rw [hnxt.out]; exact HN.out, HO.out, HAP.out, BW.out⟩
                    case measure => simp [intOf]; omega
              · obtain rfl : m = ou.length := by omega
                have hall := hide (show stepU ou xs ou.length 0 = outTo ts (key + 1) by rw [stepU_all (Nat.le_refl _), hstep.out])
                clear hout
                go_wp2_with fail
                go_roundw
                case rel => exact ⟨key + 1, by go_num, by omega, by rw [← hall.out]; exact HN.out, BW.out⟩
                case measure => simp [intOf]; omega
          · have k2 : ¬ (key : Int) < 3 := by omega
            have HK3 := hide (show key = 3 by omega)
            have h200 := outTo_200 HH.out HP.out hkey
            clear hk3 hkey
            go_wp2_with fail
            refine (ClipLLL_c HO.out).mono ?_
            rintro e w9 ⟨rfl, rfl⟩
            have hrl := HO.out.rll
            have HRLL := hide hrl
            clear hrl
            go_wp2_with fail
            go_ret
            refine ⟨Aq, _, _, rfl, Nat.le_refl _, by omega, ?_, B2.out.trans (BW.out.mono B2.out.size)⟩
            rw [HV.out, ← HK3.out]; exact HRLL.out.2.2
      · have hv : allV ts = [] := by unfold allV; rw [if_neg (fun h => hp h.2)]
        have HV := hide hv
        have p2 : (prodTo ts k : Int) > 200 := by rw [HK.out]; omega
        generalize prodTo ts k = pk at p2
        clear hv hp hk3 hk
        go_wp2_with fail
        go_ret
        exact ⟨none, 0, 0, rfl, Nat.le_refl _, by omega, by rw [HV.out]; exact ⟨rfl, fun h => absurd h (by omega)⟩, B2.out⟩
end Go.Proofs.YtcfkemchekmjbaaGreatDoor

namespace Go.Proofs.YtcfkemchekmjbaaGreatDoor
open Go.RowKit
/-- Nobody writes it before place (k, j). -/
def NoW (ts : List Tx) (key val : Int) (k j : Nat) : Prop := ∀ (i i' : Nat) (t : Tx) (o : T3), (i < k ∨ (i = k ∧ i' < j)) → ts[i]? = some t → t.2.1[i']? = some o → ¬ o = (2, key, val)
theorem NoW.zero (ts : List Tx) (key val : Int) : NoW ts key val 0 0 := fun i i' t o h _ _ => by omega
theorem NoW.step {ts : List Tx} {key val : Int} {k j : Nat} {t : Tx} {o : T3} (h : NoW ts key val k j) (ht : ts[k]? = some t) (ho : t.2.1[j]? = some o) (hn : ¬ o = (2, key, val)) : NoW ts key val k (j + 1) := fun i i' t' o' hb h1 h2 => by
  by_cases e : i = k ∧ i' = j
  · obtain ⟨rfl, rfl⟩ := e
    rw [ht] at h1; injection h1 with h1; subst h1
    rw [ho] at h2; injection h2 with h2; subst h2; exact hn
  · exact h i i' t' o' (by omega) h1 h2
theorem NoW.next {ts : List Tx} {key val : Int} {k j : Nat} {t : Tx} (h : NoW ts key val k j) (ht : ts[k]? = some t) (hj : t.2.1.length ≤ j) : NoW ts key val (k + 1) 0 := fun i i' t' o' hb h1 h2 => by
  by_cases e : i = k
  · subst e
    rw [ht] at h1; injection h1 with h1; subst h1
    have := (List.getElem?_eq_some_iff.1 h2).1
    exact h i i' t o' (by omega) ht h2
  · exact h i i' t' o' (by omega) h1 h2
theorem NoW.none_ {ts : List Tx} {key val : Int} {k : Nat} (h : NoW ts key val k 0) (hk : ts.length ≤ k) : writerV ts key val = -1 := by
  unfold writerV
  cases e : writerN ts key val with
  | none => rfl
  | some m =>
    obtain ⟨t, ht, hm⟩ := writerN_some e
    obtain ⟨j, hj⟩ := List.getElem?_of_mem hm
    have := (List.getElem?_eq_some_iff.1 ht).1
    exact absurd rfl (h m j t _ (by omega) ht hj)
set_option maxRecDepth 100000 in
set_option maxHeartbeats 8000000 in
theorem l5Writer_c {A : Option Addr} {n c : Nat} {ts : List Tx} {key val : Int} {w : World} (hr : RTs w A n ts) (hh : histB ts = true) :
    Calls Tryz.prog 168 #[.slice A n c, .int .i64 key, .int .i64 val] w fun e w' => e = .returned (.int .i64 (writerV ts key val)) ∧ Below w.heap.size w w' := by
  obtain ⟨h6, hv, hnd⟩ := histB_parts hh
  have hl := hide hr.1
  have hn6 : n ≤ 6 := by rw [← hl.out]; exact h6
  have HND := hide hnd; have HV := hide hv
  clear hnd hv hh h6
  go_enter Tryz.func168, Tryz.ntmps168
  go_wp2_with fail
  go_loopw [7] (fun i wr => ∃ k : Nat, i = .int .i64 k ∧ k ≤ n ∧ NoW ts key val k 0 ∧ Below w.heap.size w wr) (fun i _ => n - (intOf i).toNat)
  case atStart => exact ⟨0, rfl, Nat.zero_le _, NoW.zero _ _ _, Below.refl _ _⟩
  case round =>
    obtain ⟨k, rfl, hk, hno, bw⟩ := hrel
    have BW := hide bw; have HNO := hide hno; clear bw hno
    by_cases hkn : k < n
    · obtain ⟨b, off, f, ys, dn, B, kk, d, rfl, hbb, hx, q0, q1, q2, hkd, hdm, hri⟩ := hr.at_ hkn
      have hyl := hide hri.len
      have HX := hide hx; have Q1 := hide q1
      have k0 : (0 : Int) ≤ k := by omega
      have k2 : (k : Int) < n := by omega
      have hk6 : kk ≤ 6 := by rw [← hyl.out]; exact txnB_lenH (HV.out _ (List.mem_of_getElem? hx))
      clear q0 q1 q2 hx
      go_wp2_with fail
      go_loopw [8] (fun i wr2 => ∃ j : Nat, i = .int .i64 j ∧ j ≤ kk ∧ NoW ts key val k j ∧ Below w.heap.size w wr2) (fun i _ => kk - (intOf i).toNat)
      case atStart => exact ⟨0, rfl, Nat.zero_le _, HNO.out, BW.out⟩
      case round =>
        clear BW HNO
        obtain ⟨j, rfl, hj, hno, bw⟩ := hrel
        rename World => wr2
        have BW := hide bw; have HNO := hide hno; clear bw hno
        have e1 := (BW.out.cell (p := ⟨b, off + k * 3 + 1, none⟩) hbb).trans Q1.out
        by_cases hjk : j < kk
        · obtain ⟨b2, off2, x, y, z, rfl, hbb2, hx2, p0, p1, p2⟩ := hri.at_ hjk
          have a0 := (BW.out.cell (p := ⟨b2, off2 + j * 3, none⟩) hbb2).trans p0
          have a1 := (BW.out.cell (p := ⟨b2, off2 + j * 3 + 1, none⟩) hbb2).trans p1
          have a2 := (BW.out.cell (p := ⟨b2, off2 + j * 3 + 2, none⟩) hbb2).trans p2
          have HX2 := hide hx2
          have j0 : (0 : Int) ≤ j := by omega
          have j2 : (j : Int) < kk := by omega
          clear hx2 p0 p1 p2
          cases hb : (x == 2 && (y == key && z == val))
          · have hq : ∀ w', (binOp .eql 61 (.agg #[.int .i64 x, .int .i64 y, .int .i64 z]) (.agg #[.int .i64 2, .int .i64 key, .int .i64 val])).run Tryz.prog w' = .ok (.bool false) w' := fun w' => by rw [eqOpL, hb]
            have hne : ¬ ((x, y, z) : T3) = (2, key, val) := fun e => by
              simp only [Prod.mk.injEq] at e
              rw [e.1, e.2.1, e.2.2] at hb; simp at hb
            have hst := hide (HNO.out.step HX.out HX2.out hne)
            clear hb hne
            go_wp2_with fail
            go_roundw
            case rel => exact ⟨j + 1, by go_num, by omega, hst.out, BW.out⟩
            case measure => simp [intOf]; omega
          · have hq : ∀ w', (binOp .eql 61 (.agg #[.int .i64 x, .int .i64 y, .int .i64 z]) (.agg #[.int .i64 2, .int .i64 key, .int .i64 val])).run Tryz.prog w' = .ok (.bool true) w' := fun w' => by rw [eqOpL, hb]
            have he : writerV ts key val = k := by
              simp only [Bool.and_eq_true, beq_iff_eq] at hb
              obtain ⟨rfl, rfl, rfl⟩ := hb
              exact writerV_is HND.out ⟨_, HX.out, List.mem_of_getElem? HX2.out⟩
            have G := hide he
            clear hb he
            go_wp2_with fail
            go_ret
            exact ⟨by rw [G.out]; rfl, BW.out⟩
        · obtain rfl : kk = j := by omega
          have hnx := hide (HNO.out.next HX.out (show ys.length ≤ kk by rw [hyl.out]; omega))
          go_wp2_with fail
          go_roundw
          case rel => exact ⟨k + 1, by go_num, by omega, hnx.out, BW.out⟩
          case measure => simp [intOf]; omega
    · obtain rfl : n = k := by omega
      have G := hide (HNO.out.none_ (show ts.length ≤ n by rw [hl.out]; omega))
      go_wp2_with fail
      go_ret
      exact ⟨by rw [G.out]; rfl, BW.out⟩
end Go.Proofs.YtcfkemchekmjbaaGreatDoor
