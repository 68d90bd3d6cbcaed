/- impl.seen. -/
import Derived.Test.YtfcfhgophpoibaaDoorLwI
namespace Go.Proofs.YtfcfhgophpoibaaDoor
open Go.RowKit Go.Maps

/-- Nothing among the first k last writes has the key. -/
theorem lastW_find (os : List T3) (key : Int) {j : Nat} {o : T3} (hj : (lastW os)[j]? = some o) (ho : o.2.1 = key) : lastK os key = some o := by
  have hm := List.mem_of_getElem? hj
  unfold lastW at hm
  simp only [List.mem_append, Option.mem_toList] at hm
  rcases hm with h | h | h
  · have e := (lastK_some h).2.2; rw [← ho, e]; exact h
  · have e := (lastK_some h).2.2; rw [← ho, e]; exact h
  · have e := (lastK_some h).2.2; rw [← ho, e]; exact h
theorem lastW_miss (os : List T3) (key : Int) (h0 : 0 ≤ key) (h2 : key ≤ 2) (h : ∀ o ∈ lastW os, o.2.1 ≠ key) : lastK os key = none := by
  cases e : lastK os key with
  | none => rfl
  | some o =>
    exfalso
    refine h o ?_ (lastK_some e).2.2
    unfold lastW
    simp only [List.mem_append, Option.mem_toList]
    have : key = 0 ∨ key = 1 ∨ key = 2 := by omega
    rcases this with rfl | rfl | rfl
    · exact .inl e
    · exact .inr (.inl e)
    · exact .inr (.inr e)
set_option maxRecDepth 100000 in
set_option maxHeartbeats 8000000 in
theorem impl_seen_c {v : Value} {m : Nat} {ys : List T3} {f : Int} {dn : Bool} {s0 s1 s2 : Int} {key : Nat} {w : World} (hv : S3 w v m ys) (hok : txnB (f, ys, dn) = true) (hkey : key ≤ 2) :
    Calls Tryd.prog 47 #[.agg #[.int .i64 f, v, .bool dn], .agg #[.int .i64 s0, .int .i64 s1, .int .i64 s2], .int .i64 key] w fun e w' => e = .returned (.int .i64 (seesV ys [s0, s1, s2] key)) ∧ Below w.heap.size w w' := by
  have b1 : Below w.heap.size w ((w.alloc (.cells #[.int .i64 f, v, .bool dn] 35)).alloc (.cells #[.int .i64 s0, .int .i64 s1, .int .i64 s2] 51)) := ((Below.refl _ _).alloc (Nat.le_refl _) _).alloc (by simp) _
  have K1 := Blk.new (w.alloc (.cells #[.int .i64 f, v, .bool dn] 35)) 51 #[.int .i64 s0, .int .i64 s1, .int .i64 s2]
  have K0 := (Blk.new w 35 #[.int .i64 f, v, .bool dn]).alloc (.cells #[.int .i64 s0, .int .i64 s1, .int .i64 s2] 51)
  have sv := hv.below b1
  simp only [World.size_alloc] at K1
  obtain ⟨g0, g1, g2⟩ := K0.three
  obtain ⟨A, c, rfl⟩ := hv.shape
  go_enter Tryd.func47, Tryd.ntmps47
  go_wp2_with fail
  refine (impl_lastWrites_c sv hok).mono ?_
  rintro e w2 ⟨r, kk, rfl, hret, b2⟩
  have B2 := below_step b1 b2
  have K2 := K1.belowAll b2
  have s2' := hret.s3
  obtain ⟨A2, c2, rfl, hnc2, hm2, hr2⟩ := s2'
  have hl2 := hide hr2.len
  have k0 : (0 : Int) ≤ key := by omega
  have k2 : (key : Int) ≤ 2 := by omega
  clear g0 g1 g2 K0 K1 hret
  go_wp2_with fail
  go_loopw [12] (fun i wr => ∃ k : Nat, k ≤ kk ∧ i = .int .i64 k ∧ (∀ j o, j < k → (lastW ys)[j]? = some o → o.2.1 ≠ (key : Int)) ∧ Below w2.heap.size w2 wr) (fun i _ => kk - (intOf i).toNat)
  case atStart => exact ⟨0, Nat.zero_le _, rfl, fun j o h => by omega, Below.refl _ _⟩
  case round =>
    obtain ⟨k, hk, rfl, hno, bw⟩ := hrel
    have Hno := hide hno; clear hno
    have BW := below_step B2 bw
    by_cases hkm : k < kk
    · obtain ⟨b, off, x, y, z, rfl, hbb, hx, p0, p1, p2⟩ := hr2.at_ hkm
      have a0 := (bw.cell (p := ⟨b, off + k * 3, none⟩) hbb).trans p0
      have a1 := (bw.cell (p := ⟨b, off + k * 3 + 1, none⟩) hbb).trans p1
      have a2 := (bw.cell (p := ⟨b, off + k * 3 + 2, none⟩) hbb).trans p2
      have Hx := hide hx
      clear hx p0 p1 p2
      have j0 : (0 : Int) ≤ k := by omega
      have j2 : (k : Int) < kk := by omega
      by_cases hy : y = key
      · have hf : seesV ys [s0, s1, s2] key = z := by unfold seesV; rw [lastW_find ys key Hx.out hy]
        have F := hide hf; clear hf
        subst hy
        go_wp2_with fail
        go_ret
        exact ⟨by rw [F.out]; rfl, BW.alloc BW.size _⟩
      · have hyb : (y == (key : Int)) = false := by simpa using hy
        have HS : Hid (∀ j o, j < k + 1 → (lastW ys)[j]? = some o → o.2.1 ≠ (key : Int)) := hide (fun j o hj he => by
          by_cases e : j = k
          · subst e; have := Hx.out.symm.trans he; injection this with this; subst this; exact hy
          · exact Hno.out j o (by omega) he)
        clear hy
        go_wp2_with fail
        go_roundw
        case rel => exact ⟨k + 1, by omega, by go_num, HS.out, bw.alloc bw.size _⟩
        case measure => simp [intOf]; omega
    · obtain rfl : k = kk := by omega
      have hmiss : lastK ys (key : Int) = none := lastW_miss ys key k0 k2 (fun o ho => by
        obtain ⟨j, hj, he⟩ := List.mem_iff_getElem.1 ho
        exact Hno.out j o (by rw [← hl2.out]; exact hj) (by rw [← he]; exact List.getElem?_eq_getElem hj))
      have hf : seesV ys [s0, s1, s2] key = [s0, s1, s2].getD key 0 := by unfold seesV; rw [hmiss]
      have F := hide hf; clear hf hmiss
      obtain ⟨f0, f1, f2⟩ := (K2.belowAll bw).three
      obtain ⟨u, hu⟩ : ∃ u, [s0, s1, s2].getD key 0 = u := ⟨_, rfl⟩
      have hcell : wr.cell? ⟨w.heap.size + 1, key, none⟩ = some (.int .i64 u) := by
        have : key = 0 ∨ key = 1 ∨ key = 2 := by omega
        rcases this with rfl | rfl | rfl
        · rw [← hu]; exact f0
        · rw [← hu]; exact f1
        · rw [← hu]; exact f2
      clear f0 f1 f2
      have k3 : (key : Int) < 3 := by omega
      rw [hu] at F
      clear hu
      go_wp2_with fail
      go_ret
      exact ⟨by rw [F.out]; rfl, BW⟩

end Go.Proofs.YtfcfhgophpoibaaDoor
