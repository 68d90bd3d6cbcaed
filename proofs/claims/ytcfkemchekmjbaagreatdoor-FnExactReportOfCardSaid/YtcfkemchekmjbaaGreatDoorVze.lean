/- Merged (what the law reaches): Wv8. -/
import Derived.Test.YtcfkemchekmjbaaGreatDoorVzd
namespace Go.Proofs.YtcfkemchekmjbaaGreatDoor
open Go.RowKit
theorem tri_at0 : ((List.range 6).all fun a => (List.range 6).all fun b => (List.range 4).all fun k => tri[a * 24 + b * 4 + k]? == some ((a : Int), (b : Int), ((k + 1 : Nat) : Int))) = true := by decide +kernel
theorem tri_at (a : Nat) (ha : a < 6) (b : Nat) (hb : b < 6) (k : Nat) (hk : k < 4) : tri[a * 24 + b * 4 + k]? = some ((a : Int), (b : Int), ((k + 1 : Nat) : Int)) := by
  have h := tri_at0
  rw [List.all_eq_true] at h
  have h1 := h a (List.mem_range.2 ha)
  rw [List.all_eq_true] at h1
  have h2 := h1 b (List.mem_range.2 hb)
  rw [List.all_eq_true] at h2
  exact beq_iff_eq.1 (h2 k (List.mem_range.2 hk))
theorem tri_len : tri.length = 144 := by decide +kernel
def memTo (es : List T3) (m : Nat) : List T3 := (tri.take m).filter fun e => decide (e ∈ es)
theorem memTo_yes {es : List T3} {m : Nat} {e : T3} (h : tri[m]? = some e) (he : e ∈ es) : memTo es (m + 1) = memTo es m ++ [e] := by
  unfold memTo; rw [List.take_add_one, h, List.filter_append]; simp [he]
theorem memTo_no {es : List T3} {m : Nat} {e : T3} (h : tri[m]? = some e) (he : e ∉ es) : memTo es (m + 1) = memTo es m := by
  unfold memTo; rw [List.take_add_one, h, List.filter_append]; simp [he]
theorem memTo_len (es : List T3) (m : Nat) : (memTo es m).length ≤ 144 := by
  have h1 : (memTo es m).length ≤ (tri.take m).length := List.length_filter_le _ _
  have h2 : (tri.take m).length ≤ tri.length := by rw [List.length_take]; exact Nat.min_le_right _ _
  rw [tri_len] at h2; omega
theorem memTo_all (es : List T3) : memTo es 144 = canonL (fun e => e ∈ es) := by
  unfold memTo canonL
  rw [List.take_of_length_le (by rw [tri_len]; exact Nat.le_refl _)]
  refine List.filter_congr (fun e _ => ?_)
  rw [Bool.eq_iff_iff, cd_true, decide_eq_true_eq]
set_option maxRecDepth 100000 in
set_option maxHeartbeats 8000000 in
theorem l8Sorted_c {u : Value} {n : Nat} {es : List T3} {w : World} (hu : S3 w u n es) :
    Calls Tryz.prog 228 #[u] w (RetE w (canonL (fun e => e ∈ es))) := by
  have o0 := hide (O3.empty 146 w)
  have b0 := hide ((Below.refl w.heap.size w).alloc (Nat.le_refl _) (.cells #[] 146))
  obtain ⟨Au, cu, rfl⟩ := hu.shape
  go_enter Tryz.func228, Tryz.ntmps228
  go_wp2_with fail
  go_loopw [3, 4] (fun q i W => ∃ a : Nat, i = .int .i64 a ∧ a ≤ 6 ∧ O3 146 W w.heap.size q (memTo es (a * 24)).length (memTo es (a * 24)) ∧ Below w.heap.size w W) (fun _ i _ => 6 - (intOf i).toNat)
  case atStart => exact ⟨0, rfl, Nat.zero_le _, o0.out, b0.out⟩
  case round =>
    clear o0 b0
    obtain ⟨a, rfl, ha6, ho, bw⟩ := hrel
    rename World => wr
    have HO := hide ho; have BW := hide bw; clear bw
    obtain ⟨Ao, co, rfl⟩ := ho.shape
    clear ho
    by_cases ha : a < 6
    · have a2 : (a : Int) < 6 := by omega
      go_wp2_with fail
      go_loopw [3, 5] (fun q i W => ∃ b : Nat, i = .int .i64 b ∧ b ≤ 6 ∧ O3 146 W w.heap.size q (memTo es (a * 24 + b * 4)).length (memTo es (a * 24 + b * 4)) ∧ Below w.heap.size w W) (fun _ i _ => 6 - (intOf i).toNat)
      case atStart => exact ⟨0, rfl, Nat.zero_le _, HO.out, BW.out⟩
      case round =>
        clear HO BW
        obtain ⟨b, rfl, hb6, ho, bw⟩ := hrel
        rename World => w2
        have HO := hide ho; have BW := hide bw; clear bw
        obtain ⟨Ao, co, rfl⟩ := ho.shape
        clear ho
        by_cases hb : b < 6
        · have b2 : (b : Int) < 6 := by omega
          go_wp2_with fail
          go_loopw [3, 6] (fun q i W => ∃ k : Nat, i = .int .i64 ((k : Int) + 1) ∧ k ≤ 4 ∧ O3 146 W w.heap.size q (memTo es (a * 24 + b * 4 + k)).length (memTo es (a * 24 + b * 4 + k)) ∧ Below w.heap.size w W) (fun _ i _ => 5 - (intOf i).toNat)
          case atStart => exact ⟨0, rfl, Nat.zero_le _, HO.out, BW.out⟩
          case round =>
            clear HO BW
            obtain ⟨k, rfl, hk4, ho, bw⟩ := hrel
            rename World => w3
            have HO := hide ho; have BW := hide bw; clear bw
            have hlen := memTo_len es (a * 24 + b * 4 + k)
            obtain ⟨Ao, co, rfl⟩ := ho.shape
            clear ho
            by_cases hk : k < 4
            · have k2 : (k : Int) + 1 ≤ 4 := by omega
              have hat := tri_at a ha b hb k hk
              rw [show ((k + 1 : Nat) : Int) = (k : Int) + 1 by omega] at hat
              have HAT := hide hat; clear hat
              have ba := hide (BW.out.alloc BW.out.size (.cells #[.int .i64 (a : Int), .int .i64 (b : Int), .int .i64 ((k : Int) + 1)] 146))
              have oa := hide (HO.out.alloc (.cells #[.int .i64 (a : Int), .int .i64 (b : Int), .int .i64 ((k : Int) + 1)] 146))
              have K1 := hide (Blk.new w3 146 #[.int .i64 (a : Int), .int .i64 (b : Int), .int .i64 ((k : Int) + 1)])
              obtain ⟨f0, f1, f2⟩ := K1.out.three
              clear HO BW
              go_wp2_with fail
              refine (l8Has_c (hu.below ba.out)).mono ?_
              rintro e w5 ⟨rfl, b5⟩
              have B5 := hide (below_step ba.out b5)
              have O5 := hide (oa.out.below b5)
              have K5 := hide (K1.out.belowAll b5)
              clear f0 f1 f2
              obtain ⟨f0, f1, f2⟩ := K5.out.three
              clear ba oa K1 b5
              by_cases hm : ((a : Int), (b : Int), (k : Int) + 1) ∈ es
              · have hyes := hide (memTo_yes HAT.out hm)
                have hd := hide (decide_eq_true hm)
                rw [hd.out]
                have KN := Blk.new w5 146 #[.int .i64 (a : Int), .int .i64 (b : Int), .int .i64 ((k : Int) + 1)]
                have o4 := O5.out.alloc (.cells #[.int .i64 (a : Int), .int .i64 (b : Int), .int .i64 ((k : Int) + 1)] 146)
                have B4 := B5.out.alloc B5.out.size (.cells #[.int .i64 (a : Int), .int .i64 (b : Int), .int .i64 ((k : Int) + 1)] 146)
                have hz4 : w.heap.size ≤ (w5.alloc (.cells #[.int .i64 (a : Int), .int .i64 (b : Int), .int .i64 ((k : Int) + 1)] 146)).heap.size := by rw [World.size_alloc]; have := B5.out.size; omega
                have hln : (memTo es (a * 24 + b * 4 + k)).length + 1 ≤ 1048576 := by omega
                clear hm
                go_wp2_with (at_builtin; refine wpList_app3 rfl _ _ rfl Tryz.underlying97 infoEz rfl o4 rfl (S3.one KN (Nat.le_refl _)) hln hz4 ?_; intro v1 w4 h4 hg4 hat; have B9 := below_app3 B4 o4 (Nat.le_refl _) hg4)
                go_roundw
                case rel => exact ⟨k + 1, by go_num, by omega, by rw [show a * 24 + b * 4 + (k + 1) = a * 24 + b * 4 + k + 1 by omega, hyes.out, List.length_append]; exact h4, B9⟩
                case measure => simp [intOf]; omega
              · have hno := hide (memTo_no HAT.out hm)
                have hd := hide (decide_eq_false hm)
                rw [hd.out]
                clear hm
                go_wp2_with fail
                go_roundw
                case rel => exact ⟨k + 1, by go_num, by omega, by rw [show a * 24 + b * 4 + (k + 1) = a * 24 + b * 4 + k + 1 by omega, hno.out]; exact O5.out, B5.out⟩
                case measure => simp [intOf]; omega
            · have k2 : ¬ (k : Int) + 1 ≤ 4 := by omega
              have hq := hide (show a * 24 + b * 4 + k = a * 24 + (b + 1) * 4 by omega)
              go_wp2_with fail
              go_roundw
              case rel => exact ⟨b + 1, by go_num, by omega, by rw [← hq.out]; exact HO.out, BW.out⟩
              case measure => simp [intOf]; omega
        · have b2 : ¬ (b : Int) < 6 := by omega
          have hq := hide (show a * 24 + b * 4 = (a + 1) * 24 by omega)
          go_wp2_with fail
          go_roundw
          case rel => exact ⟨a + 1, by go_num, by omega, by rw [← hq.out]; exact HO.out, BW.out⟩
          case measure => simp [intOf]; omega
    · have a2 : ¬ (a : Int) < 6 := by omega
      have hq := hide (show a * 24 = 144 by omega)
      have HA := hide (memTo_all es)
      go_wp2_with fail
      go_ret
      refine ⟨_, rfl, ?_, BW.out⟩
      rw [← HA.out, ← hq.out]; exact HO.out
/-- What is written last for a key by a committed transaction. -/
theorem ordW {ts : List Tx} {os : Ls} (ho : ordersB ts os = true) {key : Nat} (hk : key < 3) {v : Int} (hv : v ∈ os.getD key []) : ∃ (m : Nat) (t : Tx), writerV ts key v = m ∧ ts[m]? = some t ∧ t.2.2 = true ∧ lastK t.2.1 key = some (2, (key : Int), v) := by
  obtain ⟨hh, _, hp⟩ := ordersB_parts ho
  obtain ⟨m, t, ht, hd, hl⟩ := mem_inst.1 ((hp key hk).mem_iff.1 hv)
  exact ⟨m, t, writerV_is (histB_parts hh).2.2 ⟨t, ht, (lastK_some hl).1⟩, ht, hd, hl⟩
theorem ord_nodup {ts : List Tx} {os : Ls} (ho : ordersB ts os = true) {key : Nat} (hk : key < 3) : (os.getD key []).Nodup := by
  obtain ⟨hh, _, hp⟩ := ordersB_parts ho
  exact (hp key hk).nodup_iff.2 (inst_nodup (histB_parts hh).2.2 key)
theorem putW {ts : List Tx} {os : Ls} (ho : ordersB ts os = true) {key : Nat} (hk : key < 3) {j : Nat} {v v' : Int} (h1 : (os.getD key [])[j]? = some v) (h2 : (os.getD key [])[j + 1]? = some v') : PutP ts (writerV ts key v) (writerV ts key v') := by
  obtain ⟨m, t, e1, g1, d1, l1⟩ := ordW ho hk (List.mem_of_getElem? h1)
  obtain ⟨m', t', e2, g2, d2, l2⟩ := ordW ho hk (List.mem_of_getElem? h2)
  refine ⟨m, m', t, t', e1, e2, fun e => ?_, g1, g2, d1, d2⟩
  subst e
  rw [g1] at g2; injection g2 with g2; subst g2
  rw [l1] at l2
  simp only [Option.some.injEq, Prod.mk.injEq, true_and] at l2
  subst l2
  obtain ⟨a1, b1⟩ := List.getElem?_eq_some_iff.1 h1
  obtain ⟨a2, b2⟩ := List.getElem?_eq_some_iff.1 h2
  have := (List.getElem_inj (ord_nodup ho hk)).1 (b1.trans b2.symm)
  omega
theorem nextV_mem {xs : List Int} {v v' : Int} (h : nextV xs v = some v') : v' ∈ xs := by
  unfold nextV at h
  split at h
  · exact List.mem_of_getElem? h
  · cases hi : xs.idxOf? v with
    | none => rw [hi] at h; cases h
    | some i => rw [hi] at h; exact List.mem_of_getElem? h
/-- Is there an edge of a read: of kind 2; of kind 3. -/
def putR (ts : List Tx) (n : Nat) (key : Nat) (z : Int) : Bool := decide (0 ≤ writerV ts key z) && ((txAt ts (writerV ts key z).toNat).2.2 && decide (writerV ts key z ≠ (n : Int)))
theorem putR_iff {ts : List Tx} {n key : Nat} {z : Int} {t : Tx} (ht : ts[n]? = some t) (hd : t.2.2 = true) : putR ts n key z = true ↔ PutP ts (writerV ts key z) n := by
  unfold putR
  simp only [Bool.and_eq_true, decide_eq_true_eq]
  constructor
  · rintro ⟨h0, h1, h2⟩
    have hlt := (writerV_lt ts key z).2
    refine ⟨(writerV ts key z).toNat, n, ts[(writerV ts key z).toNat]'(by omega), t, by omega, rfl, by omega, List.getElem?_eq_getElem _, ht, ?_, hd⟩
    rw [txAt_get (List.getElem?_eq_getElem (by omega))] at h1; exact h1
  · rintro ⟨a, b, p, q, e1, e2, hab, g1, g2, d1, d2⟩
    refine ⟨by omega, ?_, by omega⟩
    rw [e1, Int.toNat_natCast, txAt_get g1]; exact d1
theorem seeR_put {ts : List Tx} {_os : Ls} {n _j key : Nat} {x z : Int} {t : Tx} (ht : ts[n]? = some t) (hd : t.2.2 = true) (L : List T3) {Q : T3 → Prop} (h : ∀ e, e ∈ L ↔ Q e) :
    (putR ts n key z = true → ∀ e, e ∈ L ++ [(writerV ts key z, (n : Int), 2)] ↔ (Q e ∨ EdR ts n (x, (key : Int), z) e)) ∧ (putR ts n key z = false → ∀ e, e ∈ L ↔ (Q e ∨ EdR ts n (x, (key : Int), z) e)) := by
  have hi := putR_iff (key := key) (z := z) ht hd
  refine ⟨fun hp e => ?_, fun hp e => ?_⟩
  · rw [List.mem_append, h e, edR_iff]
    simp only [List.mem_singleton]
    exact or_congr Iff.rfl ⟨fun h1 => ⟨h1, hi.1 hp⟩, fun h1 => h1.1⟩
  · rw [h e, edR_iff]
    exact ⟨.inl, fun h1 => h1.elim id (fun h2 => absurd (hi.2 h2.2) (by rw [hp]; simp))⟩
theorem seeO_put {ts : List Tx} {os : Ls} (ho : ordersB ts os = true) {n key : Nat} (hk : key < 3) {x z v' : Int} {t : Tx} (ht : ts[n]? = some t) (hd : t.2.2 = true) (hv : nextV (os.getD key []) z = some v') (L : List T3) {Q : T3 → Prop} (h : ∀ e, e ∈ L ↔ Q e) :
    (writerV ts key v' ≠ (n : Int) → ∀ e, e ∈ L ++ [((n : Int), writerV ts key v', 3)] ↔ (Q e ∨ EdO ts os n (x, (key : Int), z) e)) ∧ (writerV ts key v' = (n : Int) → ∀ e, e ∈ L ↔ (Q e ∨ EdO ts os n (x, (key : Int), z) e)) := by
  obtain ⟨m, t', e1, g1, d1, _⟩ := ordW ho hk (nextV_mem hv)
  refine ⟨fun hp e => ?_, fun hp e => ?_⟩
  · rw [List.mem_append, h e, edO_some rfl hv]
    simp only [List.mem_singleton]
    exact or_congr Iff.rfl ⟨fun h1 => ⟨h1, n, m, t, t', rfl, e1, fun e2 => hp (by rw [e1, e2]), ht, g1, hd, d1⟩, fun h1 => h1.1⟩
  · rw [h e, edO_some rfl hv]
    refine ⟨.inl, fun h1 => h1.elim id (fun h2 => ?_)⟩
    obtain ⟨a, b, p, q, a1, a2, hab, _⟩ := h2.2
    omega
theorem seeO_none {ts : List Tx} {os : Ls} {n key : Nat} {x z : Int} (hv : nextV (os.getD key []) z = none) (L : List T3) {Q : T3 → Prop} (h : ∀ e, e ∈ L ↔ Q e) : ∀ e, e ∈ L ↔ (Q e ∨ EdO ts os n (x, (key : Int), z) e) := fun e => by
  rw [h e]
  exact ⟨.inl, fun h1 => h1.elim id (fun h2 => absurd h2 (edO_none rfl hv e))⟩
end Go.Proofs.YtcfkemchekmjbaaGreatDoor
