/- impl.DeliverOrder. -/
import Derived.Test.YtopjdidigfdhbaaDoorDeliverQ
import Derived.Test.YtopjdidigfdhbaaDoorMsgsI
namespace Go.Proofs.YtopjdidigfdhbaaDoor
open Go.RowKit

def bitsN (os : List Nat) : Nat := os.foldl (fun a i => a ||| 2 ^ i) 0
theorem bitsN_snoc (os : List Nat) (k : Nat) : bitsN (os ++ [k]) = bitsN os ||| 2 ^ k := by simp [bitsN]
theorem bitsN_test (os : List Nat) (k : Nat) : (bitsN os).testBit k = os.contains k := by
  have h : ∀ (os : List Nat) (a : Nat), (os.foldl (fun a i => a ||| 2 ^ i) a).testBit k = (a.testBit k || os.contains k) := by
    intro os
    induction os with
    | nil => intro a; simp
    | cons i os ih =>
      intro a
      rw [List.foldl_cons, ih, Nat.testBit_or, Nat.testBit_two_pow]
      by_cases e : i = k
      · subst e; simp
      · simp [e, Ne.symm e]
  unfold bitsN
  rw [h]; simp
theorem bitsN_lt {os : List Nat} (h : ∀ i ∈ os, i < 12) : bitsN os < 4096 := by
  have h2 : ∀ (os : List Nat) (a : Nat), a < 2 ^ 12 → (∀ i ∈ os, i < 12) → os.foldl (fun a i => a ||| 2 ^ i) a < 2 ^ 12 := by
    intro os
    induction os with
    | nil => intro a ha _; exact ha
    | cons i os ih =>
      intro a ha hi
      rw [List.foldl_cons]
      exact ih _ (Nat.or_lt_two_pow ha (Nat.pow_lt_pow_of_lt (by omega) (hi i (List.mem_cons_self ..)))) (fun j hj => hi j (List.mem_cons_of_mem _ hj))
  exact h2 os 0 (by omega) h
theorem bit_out (q k : Nat) (hq : q < 4096) : (bits BinOp.and IntKind.u64 ((q : Int) / 2 ^ k) 1 = 0) ↔ q.testBit k = false := by
  have e : (q : Int) / 2 ^ k = ((q / 2 ^ k : Nat) : Int) := by simp
  have hle : q / 2 ^ k ≤ q := Nat.div_le_self _ _
  have h1 : bits BinOp.and IntKind.u64 ((q / 2 ^ k : Nat) : Int) 1 = ((q / 2 ^ k &&& 1 : Nat) : Int) := u64_and_nat (q / 2 ^ k) 1 (by omega) (by omega)
  rw [e, h1, Nat.and_one_is_mod, Nat.testBit_eq_decide_div_mod_eq]
  simp
  omega
theorem bit_in (q k : Nat) (hq : q < 4096) (hk : k < 12) : bits BinOp.or IntKind.u64 (q : Int) (IntKind.u64.wrap (2 ^ k)) = ((q ||| 2 ^ k : Nat) : Int) := by
  have h2 : 2 ^ k < 2 ^ 12 := Nat.pow_lt_pow_of_lt (by omega) hk
  have h3 : ((2 : Int) ^ k) = ((2 ^ k : Nat) : Int) := by simp
  rw [h3]
  generalize 2 ^ k = m at h2 ⊢
  have e : IntKind.u64.wrap (m : Int) = (m : Int) := by
    simp only [IntKind.wrap, IntKind.bits, IntKind.signed]
    simp
    omega
  rw [e, u64_or_nat _ _ (by omega) (by omega)]
def runm (v : Value) : Nat := match v with | .bool true => 1 | _ => 0

set_option maxRecDepth 100000 in
set_option maxHeartbeats 2000000 in
theorem impl_DeliverOrder_bad {A : Option Addr} {n c : Nat} {ms : Ms} {w : World} (hr : RM w A n ms) (hn : n ≤ 1048576) (hsm : Small ms) (hv : mvB ms = false) :
    Calls Tryd.prog 32 #[.slice A n c] w (RetI w (natsI (dlvL ms))) := by
  have hf : natsI (dlvL ms) = [] := by simp [dlvL, hv, natsI]
  have F := hide hf; have V := hide hv; clear hf hv
  go_enter Tryd.func32, Tryd.ntmps32
  go_wp2_with fail
  refine (impl_MessagesValid_c hr hn hsm).mono ?_
  rintro e w2 ⟨rfl, b2⟩
  rw [V.out]
  go_wp2_with fail
  go_ret
  exact ⟨_, 0, rfl, by rw [F.out]; exact OI.nil, b2⟩

theorem made0 (w : World) (n : Nat) (hn : n ≤ 1048576) : OI (w.alloc (.cells (madeCells #[.int .i64 0] n) 3)) w.heap.size (.slice (some ⟨w.heap.size, 0, none⟩) 0 n) 0 [] :=
  ⟨⟨rfl, .inr ⟨w.heap.size, n, _, rfl, Nat.le_refl _, Blk.new w _ _, Nat.zero_le _, by simp [maxLen]; omega, by simp [size_madeCells], by simp⟩⟩, by omega⟩
theorem run_make0 (n : Nat) (hn : n ≤ 1048576) (w : World) :
    (Instr.makeSlice 38 (.int .i64 0) (.int .i64 (n : Int))).run Tryd.prog w = .ok (.slice (some ⟨w.heap.size, 0, none⟩) 0 n) (w.alloc (.cells (madeCells #[.int .i64 0] n) 3)) := by
  obtain ⟨i, hi, hz, hs, hb⟩ := info_parts intInfo
  have := run_make_rowN 38 3 i (.int .i64 0) Tryd.underlying38 hi hz .i64 .i64 0 n (Nat.zero_le _) (by rw [hb]; omega) (by omega) w
  rw [hs, Nat.mul_one] at this
  exact this

set_option maxRecDepth 100000 in
set_option maxHeartbeats 2000000 in
theorem impl_DeliverOrder_good {A : Option Addr} {n c : Nat} {ms : Ms} {w : World} (hr : RM w A n ms) (hn : n ≤ 1048576) (hsm : Small ms) (hv : mvB ms = true) :
    Calls Tryd.prog 32 #[.slice A n c] w (RetI w (natsI (dlvL ms))) := by
  have hl := hide hr.1
  have hmk := make4'
  have hm0 := run_make0 n hn
  have hf : natsI (dlvL ms) = natsI (runD ms ms.length []) := by simp [dlvL, hv]
  have hmp : MvTo ms ms.length ∧ ms.length ≤ 12 := by simpa [mvB] using hv
  have hn12 : n ≤ 12 := by rw [← hl.out]; exact hmp.2
  have Hmp := hide hmp
  have F := hide hf; have V := hide hv; clear hf hv hmp
  go_enter Tryd.func32, Tryd.ntmps32
  go_wp2_with fail
  refine (impl_MessagesValid_c hr hn hsm).mono ?_
  rintro e w2 ⟨rfl, b2⟩
  rw [V.out]
  have hz2 := b2.size
  have o0 := (made0 w2 n hn).alloc (.cells #[.int .i64 0, .int .i64 0, .int .i64 0, .int .i64 0] 3)
  have s0 : OI ((w2.alloc (.cells (madeCells #[.int .i64 0] n) 3)).alloc (.cells #[.int .i64 0, .int .i64 0, .int .i64 0, .int .i64 0] 3)) w2.heap.size (.slice (some ⟨w2.heap.size + 1, 0, none⟩) 4 4) 4 (seenV ms []) := by
    have := (own4' (w2.alloc (.cells (madeCells #[.int .i64 0] n) 3))).mono (B' := w2.heap.size) (by simp)
    rw [seenV_nil]; simpa using this
  have b0 : Below w.heap.size w ((w2.alloc (.cells (madeCells #[.int .i64 0] n) 3)).alloc (.cells #[.int .i64 0, .int .i64 0, .int .i64 0, .int .i64 0] 3)) := (b2.alloc hz2 _).alloc (by simp; omega) _
  go_wp2_with fail
  go_loopw [3, 5, 6] (fun s g fd wr => ∃ (os : List Nat) (fb : Bool), fd = .bool fb ∧ g = .int .u64 (bitsN os : Nat) ∧ AtD ms os ∧ (fb = false → ∀ j, j < n → canB ms os j = false) ∧ OI wr w2.heap.size s os.length (natsI os) ∧ OI wr w2.heap.size (.slice (some ⟨w2.heap.size + 1, 0, none⟩) 4 4) 4 (seenV ms os) ∧ s.ownBlock ≠ some (w2.heap.size + 1) ∧ Below w.heap.size w wr) (fun s _ fd _ => (n - slen s) * 2 + runm fd)
  case atStart => exact ⟨[], true, rfl, rfl, AtD.zero ms, (fun h => by cases h), o0, s0, (by simp [Value.ownBlock]), b0⟩
  case round =>
    obtain ⟨os, fb, rfl, rfl, hat, hno, ho, hs, hap, hbel⟩ := hrel
    clear o0 s0 b0
    obtain ⟨Ao, co, rfl⟩ := ho.shape
    have Hat := hide hat; have Hno := hide hno; have hap2 := hide hap; clear hat hno hap
    have hg0 : (0 : Int) ≤ (bitsN os : Nat) := by omega
    have hg1 : ((bitsN os : Nat) : Int) < 4096 := by have := bitsN_lt (os := os) (fun i hi => by have := Hat.out.lt i hi; have := hl.out; omega); omega
    cases fb
    · have he := Hat.out.fin (fun j hj => Hno.out rfl j (by rw [hl.out] at hj; exact hj))
      have HE := hide he; clear he
      go_wp2_with fail
      go_ret
      exact ⟨_, os.length, rfl, by rw [F.out, ← HE.out]; exact ho.mono hz2, hbel⟩
    · clear Hno
      go_wp2_with fail
      obtain ⟨wo, hwo⟩ : ∃ wo : World, wo = wr := ⟨_, rfl⟩
      subst hwo
      go_loopw [3, 5, 6, 19] (fun s g fd i wr => s = .slice Ao os.length co ∧ g = .int .u64 (bitsN os : Nat) ∧ fd = .bool false ∧ ∃ k : Nat, i = .int .i64 k ∧ k ≤ n ∧ (∀ j, j < k → canB ms os j = false) ∧ OI wr w2.heap.size (.slice Ao os.length co) os.length (natsI os) ∧ OI wr w2.heap.size (.slice (some ⟨w2.heap.size + 1, 0, none⟩) 4 4) 4 (seenV ms os) ∧ Below w.heap.size w wr) (fun _ _ _ i _ => n - (intOf i).toNat)
      case atStart => exact ⟨rfl, rfl, rfl, 0, rfl, Nat.zero_le _, fun j h => absurd h (by omega), ho, hs, hbel⟩
      case round =>
        obtain ⟨rfl, rfl, rfl, k, rfl, hk, hno, ho, hs, hbel⟩ := hrel
        have Hno := hide hno; clear hno
        by_cases hkn : k < n
        · obtain ⟨b, off, f, ys, B, kk, d, rfl, hbb, hx, q0, q1, hkd, hdm, hri⟩ := hr.at_ hkn
          have hok := (Hmp.out.1 k (by rw [hl.out]; exact hkn)).1
          have hax := atM_get hx
          rw [hax] at hok
          unfold msgOk at hok
          simp only [Bool.and_eq_true] at hok
          obtain ⟨hF, hY, -⟩ := hok
          obtain ⟨f, rfl⟩ : ∃ g : Nat, f = g := ⟨f.toNat, by have := (inB_iff _ _ _).1 hF; omega⟩
          have hf4 : f < 4 := by have := (inB_iff _ _ _).1 hF; omega
          obtain rfl : kk = 4 := by rw [← hri.len]; exact ((clockB_iff _).1 hY).1
          have Hax := hide hax
          have Hx := hide hx; have Hri := hide hri
          clear hx hF hY hax hri
          have h0k : (0 : Int) ≤ k := by omega
          have h1k : (k : Int) < n := by omega
          have e0 := (hbel.cell (p := ⟨b, off + k * 2, none⟩) hbb).trans q0
          have e1 := (hbel.cell (p := ⟨b, off + k * 2 + 1, none⟩) hbb).trans q1
          clear q0 q1
          have hbq := bit_out (bitsN os) k (by omega)
          rw [bitsN_test] at hbq
          have Hbq := hide hbq; clear hbq
          cases hc : os.contains k
          · have hbit := Hbq.out.2 hc
            have hcan := canB_eq hc Hax.out
            have HC := hide hcan; have Hc := hide hc; clear hcan hc
            have K0 := Blk.new wr 55 #[.int .i64 (f : Int), .slice B 4 d]
            have b1 : Below w.heap.size w (wr.alloc (.cells #[.int .i64 (f : Int), .slice B 4 d] 55)) := hbel.alloc hbel.size _
            have s2 : SI (wr.alloc (.cells #[.int .i64 (f : Int), .slice B 4 d] 55)) (.slice B 4 d) 4 ys := SI.of_args hkd (by omega) (Hri.out.below b1)
            have hs1 := hs.alloc (.cells #[.int .i64 (f : Int), .slice B 4 d] 55)
            have ho1 := ho.alloc (.cells #[.int .i64 (f : Int), .slice B 4 d] 55)
            cases hm : mayB (seenV ms os) (f : Int) ys
            · have hcf : canB ms os k = false := by rw [HC.out, hm]
              have HM := hide hm; have Hcf := hide hcf; clear hm hcf
              go_wp2_with fail
              refine (impl_MayDeliver_c hs1.si s2).mono ?_
              rintro e w3 ⟨rfl, b3⟩
              rw [HM.out]
              go_wp2_with fail
              go_roundw
              case rel => exact ⟨rfl, rfl, rfl, k + 1, by go_num, by omega, less_step Hno.out Hcf.out rfl, ho1.below b3, hs1.below b3, below_step b1 b3⟩
              case measure => simp [intOf]; omega
            · have hcf : canB ms os k = true := by rw [HC.out, hm]
              have HM := hide hm; have Hcf := hide hcf; clear hm hcf
              have hat2 := Hat.out.step (show k < ms.length by rw [hl.out]; exact hkn) Hcf.out Hno.out
              have Hat2 := hide hat2; clear hat2
              go_wp2_with fail
              refine (impl_MayDeliver_c hs1.si s2).mono ?_
              rintro e w3 ⟨rfl, b3⟩
              rw [HM.out]
              have B3 := below_step b1 b3
              replace ho1 := ho1.below b3
              replace hs1 := hs1.below b3
              replace K0 := K0.belowAll b3
              have hlt3 := K0.lt
              have so4 := SI.one w3 (k : Int) 1 (Nat.le_refl _)
              have ho4 := ho1.alloc (.cells #[.int .i64 (k : Int)] 3)
              have hs4 := hs1.alloc (.cells #[.int .i64 (k : Int)] 3)
              have K4 := K0.alloc (.cells #[.int .i64 (k : Int)] 3)
              have B4 : Below w.heap.size w (w3.alloc (.cells #[.int .i64 (k : Int)] 3)) := B3.alloc B3.size _
              have hzz : w2.heap.size + 1 < w3.heap.size := by have h1 := b3.size; have h2 := (World.ownsRow.lt hs.1 (w2.heap.size + 1) rfl).2; simp at h1; omega
              have bz4 : w2.heap.size ≤ (w3.alloc (.cells #[.int .i64 (k : Int)] 3)).heap.size := by simp; omega
              have hlo := Hat.out.len
              have hol : os.length + 1 ≤ 1048576 := by have := hl.out; omega
              have Hol := hide hlo
              obtain ⟨sv, hsv, hsc⟩ := hs4.cell f hf4
              have hsb := seenV_bd ms os (List.mem_of_getElem? hsv)
              have y0 : 0 ≤ sv := hsb.1
              have y1 : sv ≤ 12 := by have := hl.out; omega
              have Hsv := hide hsv
              have f4 : (f : Int) < 4 := by omega
              have f0 : (0 : Int) ≤ f := by omega
              have Hs4 := hide hs4; have HK4 := hide K4
              clear hlo hsv hsb e0 e1 s2 ho1 hs1 K0 hs4 K4 hsc ho hs
              go_wp2_with (at_builtin; refine wpList_appI rfl _ _ rfl rfl ho4 rfl so4 hol bz4 ?_; intro v1 w4 h4 hg4 hat; obtain ⟨A1, c1, rfl⟩ := h4.shape; have hs5 := Hs4.out.grown hg4 (.inr (fun e => hap2.out e.symm)); have K5 := HK4.out.grown hg4 (fun e => ho4.ne_blk HK4.out (by decide) e.symm); obtain ⟨k50, k51, _, _⟩ := K5.two; obtain ⟨sv2, hsv2, hsc⟩ := hs5.cell f hf4; obtain rfl : sv = sv2 := (by have := Hsv.out.symm.trans hsv2; injection this); have hsf := hs5.free f; clear hsv2)
              go_roundw
              case rel =>
                refine ⟨os ++ [k], true, rfl, ?_, Hat2.out, (fun h => by cases h), ?_, ?_, ?_, ?_⟩
                · rw [bitsN_snoc, ← bit_in (bitsN os) k (by omega) (by omega)]
                · rw [natsI_snoc, List.length_append]; exact h4.set_ne (by rcases hat with h | h <;> rw [h] <;> first | exact hap2.out | (simp; omega)) _
                · rw [seenV_snoc (f := f) (by rw [Hax.out])]
                  have : (seenV ms os).getD f 0 = sv := by simp [List.getD, Hsv.out]
                  rw [this]
                  exact hs5.store f (sv + 1)
                · rcases hat with h | h
                  · rw [h]; exact hap2.out
                  · rw [h]; simp; omega
                · exact (below_app B4 ho4 hz2 hg4).setCell (p := ⟨w2.heap.size + 1, f, none⟩) (by show w.heap.size ≤ w2.heap.size + 1; omega) _
              case measure => simp only [slen, runm]; have := Hat2.out.len; have := hl.out; simp at *; omega
          · have hbit : ¬ bits BinOp.and IntKind.u64 (((bitsN os : Nat) : Int) / 2 ^ k) 1 = 0 := fun h => by have := Hbq.out.1 h; rw [hc] at this; cases this
            have hcf := canB_old (ms := ms) hc
            have Hcf := hide hcf; clear hc hcf
            go_wp2_with fail
            go_roundw
            case rel => exact ⟨rfl, rfl, rfl, k + 1, by go_num, by omega, less_step Hno.out Hcf.out rfl, ho.alloc _, hs.alloc _, hbel.alloc hbel.size _⟩
            case measure => simp [intOf]; omega
        · obtain rfl : k = n := by omega
          go_wp2_with fail
          go_roundw
          case rel => exact ⟨os, false, rfl, rfl, Hat.out, fun _ => Hno.out, ho, hs, hap2.out, hbel⟩
          case measure => simp [runm, slen]

theorem impl_DeliverOrder_c {A : Option Addr} {n c : Nat} {ms : Ms} {w : World} (hr : RM w A n ms) (hn : n ≤ 1048576) (hsm : Small ms) :
    Calls Tryd.prog 32 #[.slice A n c] w (RetI w (natsI (dlvL ms))) := by
  cases hv : mvB ms
  · exact impl_DeliverOrder_bad hr hn hsm hv
  · exact impl_DeliverOrder_good hr hn hsm hv

end Go.Proofs.YtopjdidigfdhbaaDoor
