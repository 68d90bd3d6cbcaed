/- impl.eachSerial. -/
import Derived.Test.YtieecneknljmdaaDoorSerI
import Derived.Laws.EntriesVeiled
namespace Go.Proofs.YtieecneknljmdaaDoor
open Go.RowKit

theorem doneTo_lt (ts : List Tx) : ∀ (k : Nat) (x : Int), x ∈ doneTo ts k → ∃ j : Nat, x = j ∧ j < k
  | 0, x, h => by simp [doneTo] at h
  | k + 1, x, h => by
    simp only [doneTo, List.mem_append] at h
    rcases h with h | h
    · obtain ⟨j, e, hj⟩ := doneTo_lt ts k x h; exact ⟨j, e, by omega⟩
    · split at h
      · simp at h; exact ⟨k, h, by omega⟩
      · simp at h
theorem doneTo_nodup (ts : List Tx) : ∀ k, (doneTo ts k).Nodup
  | 0 => by simp [doneTo]
  | k + 1 => by
    simp only [doneTo]
    split
    · exact nodup_snoc (doneTo_nodup ts k) (fun h => by obtain ⟨j, e, hj⟩ := doneTo_lt ts k _ h; omega)
    · simpa using doneTo_nodup ts k
theorem doneL_nodup (ts : List Tx) : (doneL ts).Nodup := doneTo_nodup ts ts.length
def EachR {α : Type} (wb : World) (I : α → World → Prop) (r : α × Bool) (e : Ending) (w' : World) : Prop := e = .returned (.tuple #[]) ∧ Below wb.heap.size wb w' ∧ I r.1 w'
set_option maxRecDepth 100000 in
set_option maxHeartbeats 16000000 in
theorem eachSerial_c {α : Type} {go : α → List Int → α × Bool} {I : α → World → Prop} {Live : α → Prop} {wb w : World} {A : Option Addr} {n c : Nat} {ts : List Tx} {cN : Nat} {caps : Array Value} {cb : Nat → Prop} {a : α}
    (hbw : Below wb.heap.size wb w) (hr : RTs wb A n ts) (h6 : ts.length ≤ 6) (hk : ∀ t ∈ ts, ∀ o ∈ t.2.1, (o.1 = 1 ∨ o.1 = 2) ∧ 0 ≤ o.2.1 ∧ o.2.1 ≤ 2) (hsm : SmallT ts)
    (hcbs : ∀ i, cb i → wb.heap.size ≤ i ∧ i < w.heap.size) (hcb : ∀ K : EsK, K.wb = wb → K.cN = cN → K.caps = caps → K.cb = cb → w.heap.size ≤ K.bA → CbOK K go I Live) (hL : Live a) (hI : I a w) :
    Calls Tryd.prog 21 #[.slice A n c, .func (.func 22) #[] #[], .func (.func cN) #[] caps] w (EachR wb I (srch go ts (doneL ts) (doneL ts).length [0, 0, 0] [] a)) := by
  have hl : ts.length = n := hr.1
  have hn6 : n ≤ 6 := by omega
  have hmf : ∀ (fn : Fn) (first cap : Array Value) (w : World), (Instr.makeFunc fn first cap).run Tryd.prog w = .ok (.func fn first cap) w := fun _ _ _ _ => rfl
  obtain ⟨w3, hw3⟩ : ∃ q, ((w.alloc (.cells #[.slice A n c] 23)).alloc (.cells #[.func (.func 22) #[] #[]] 44)).alloc (.cells #[.func (.func cN) #[] caps] 45) = q := ⟨_, rfl⟩
  have kH : Blk w3 w.heap.size 23 #[.slice A n c] := by rw [← hw3]; exact ((Blk.new w _ _).alloc _).alloc _
  have kL : Blk w3 (w.heap.size + 1) 44 #[.func (.func 22) #[] #[]] := by
    rw [← hw3]; have := Blk.new (w.alloc (.cells #[.slice A n c] 23)) 44 #[.func (.func 22) #[] #[]]
    rw [World.size_alloc] at this; exact this.alloc _
  have kC : Blk w3 (w.heap.size + 1 + 1) 45 #[.func (.func cN) #[] caps] := by
    rw [← hw3]; have := Blk.new ((w.alloc (.cells #[.slice A n c] 23)).alloc (.cells #[.func (.func 22) #[] #[]] 44)) 45 #[.func (.func cN) #[] caps]
    simp only [World.size_alloc] at this; exact this
  have b3 : Below w.heap.size w w3 := by
    rw [← hw3]; exact (((Below.refl _ _).alloc (Nat.le_refl _) _).alloc (by simp) _).alloc (by simp; omega) _
  have hsz3 : w3.heap.size = w.heap.size + 3 := by rw [← hw3]; simp [World.size_alloc]
  have cH0 := kH.cell 0
  have KH := hide kH; have KL := hide kL; have KC := hide kC; have B3 := hide b3
  have HR3 := (hr.below hbw).below b3
  clear kH kL kC b3
  go_enter Tryd.func21, Tryd.ntmps21
  go_wp2_with fail
  refine (impl_done_c HR3 (by omega)).mono ?_
  rintro e w4 ⟨r, k4, rfl, o4, b4⟩
  obtain ⟨Ar, cr, rfl⟩ := o4.shape
  have hl4 := o4.len
  have hd6 : (doneL ts).length ≤ 6 := by have := doneTo_len ts ts.length; unfold doneL; omega
  have hmk := run_make_J0 k4 (by omega)
  obtain ⟨W5, hW5⟩ : ∃ q, (((w4.alloc (.cells #[.slice Ar k4 cr] 27)).alloc (.cells (madeCells #[.int .i64 0] k4) 3)).alloc (.cells #[.slice (some ⟨w4.heap.size + 1, 0, none⟩) 0 k4] 27)).alloc (.cells #[.func (.func 48) #[] #[.pointer (some ⟨w4.heap.size + 1 + 1, 0, none⟩), .pointer (some ⟨w4.heap.size, 0, none⟩), .pointer (some ⟨w.heap.size + 1 + 1, 0, none⟩), .pointer (some ⟨w.heap.size + 1, 0, none⟩), .pointer (some ⟨w.heap.size, 0, none⟩), .pointer (some ⟨w4.heap.size + 1 + 1 + 1, 0, none⟩)]] 78) = q := ⟨_, rfl⟩
  have B45 : Below w4.heap.size w4 W5 := by rw [← hW5]; exact ((((Below.refl _ _).alloc (Nat.le_refl _) _).alloc (by simp) _).alloc (by simp; omega) _).alloc (by simp; omega) _
  have kA : Blk W5 w4.heap.size 27 #[.slice Ar k4 cr] := by rw [← hW5]; exact (((Blk.new w4 _ _).alloc _).alloc _).alloc _
  have oO : OI W5 (w4.heap.size + 1) (.slice (some ⟨w4.heap.size + 1, 0, none⟩) 0 k4) 0 [] := by
    rw [← hW5]
    have := own_J0 (w4.alloc (.cells #[.slice Ar k4 cr] 27)) k4 (by omega)
    rw [World.size_alloc] at this
    exact (this.below ((Below.refl _ _).alloc (Nat.le_refl _) _)).below ((Below.refl _ _).alloc (Nat.le_refl _) _)
  have kO : Blk W5 (w4.heap.size + 1 + 1) 27 #[.slice (some ⟨w4.heap.size + 1, 0, none⟩) 0 k4] := by
    rw [← hW5]
    have := Blk.new ((w4.alloc (.cells #[.slice Ar k4 cr] 27)).alloc (.cells (madeCells #[.int .i64 0] k4) 3)) 27 #[.slice (some ⟨w4.heap.size + 1, 0, none⟩) 0 k4]
    simp only [World.size_alloc] at this
    exact this.alloc _
  have kF : Blk W5 (w4.heap.size + 1 + 1 + 1) 78 #[.func (.func 48) #[] #[.pointer (some ⟨w4.heap.size + 1 + 1, 0, none⟩), .pointer (some ⟨w4.heap.size, 0, none⟩), .pointer (some ⟨w.heap.size + 1 + 1, 0, none⟩), .pointer (some ⟨w.heap.size + 1, 0, none⟩), .pointer (some ⟨w.heap.size, 0, none⟩), .pointer (some ⟨w4.heap.size + 1 + 1 + 1, 0, none⟩)]] := by
    rw [← hW5]
    have := Blk.new (((w4.alloc (.cells #[.slice Ar k4 cr] 27)).alloc (.cells (madeCells #[.int .i64 0] k4) 3)).alloc (.cells #[.slice (some ⟨w4.heap.size + 1, 0, none⟩) 0 k4] 27)) 78 #[.func (.func 48) #[] #[.pointer (some ⟨w4.heap.size + 1 + 1, 0, none⟩), .pointer (some ⟨w4.heap.size, 0, none⟩), .pointer (some ⟨w.heap.size + 1 + 1, 0, none⟩), .pointer (some ⟨w.heap.size + 1, 0, none⟩), .pointer (some ⟨w.heap.size, 0, none⟩), .pointer (some ⟨w4.heap.size + 1 + 1 + 1, 0, none⟩)]]
    simp only [World.size_alloc] at this
    exact this
  have B35 : Below w3.heap.size w3 W5 := below_step b4 B45
  have BW5 : Below w.heap.size w W5 := below_step B3.out B35
  have ge3 : w3.heap.size ≤ w4.heap.size := b4.size
  have geb := hbw.size
  have htr : (Value.slice Ar k4 cr).ownBlock = none ∨ (Value.slice Ar k4 cr).ownBlock ≠ (Value.slice (some ⟨w4.heap.size + 1, 0, none⟩) 0 k4).ownBlock := by
    cases hq : (Value.slice Ar k4 cr).ownBlock with
    | none => exact .inl rfl
    | some q =>
      right; intro e; have := (World.ownsRow.lt o4.1 q hq).2
      have e2 : q = w4.heap.size + 1 := by injection e
      omega
  have hfrom : Calls Tryd.prog 48 #[.agg #[.int .i64 0, .int .i64 0, .int .i64 0], .int .u64 0, .pointer (some ⟨w4.heap.size + 1 + 1, 0, none⟩), .pointer (some ⟨w4.heap.size, 0, none⟩), .pointer (some ⟨w.heap.size + 1 + 1, 0, none⟩), .pointer (some ⟨w.heap.size + 1, 0, none⟩), .pointer (some ⟨w.heap.size, 0, none⟩), .pointer (some ⟨w4.heap.size + 1 + 1 + 1, 0, none⟩)] W5 (fun e w' => ∃ bb, e = .returned (.bool bb) ∧ Below wb.heap.size wb w' ∧ I (srch go ts (doneL ts) k4 [0, 0, 0] [] a).1 w') := by
    let K : EsK := ⟨wb, A, n, c, ts, cN, caps, w.heap.size, w.heap.size + 1, w.heap.size + 1 + 1, w4.heap.size, w4.heap.size + 1 + 1, w4.heap.size + 1 + 1 + 1, .slice Ar k4 cr, k4, doneL ts, cb⟩
    have hE : Es K W5 (.slice (some ⟨w4.heap.size + 1, 0, none⟩) 0 k4) 0 [] :=
      ⟨below_step hbw BW5, KH.out.belowAll B35, KL.out.belowAll B35, KC.out.belowAll B35, kA, kF, kO, (o4.below B45).mono (by show wb.heap.size ≤ w3.heap.size; omega), oO.mono (by show wb.heap.size ≤ _; omega), htr, by show wb.heap.size ≤ w4.heap.size + 1 + 1; omega, by show w4.heap.size ≠ w4.heap.size + 1 + 1; omega, fun i hi => by
        obtain ⟨h1, h2⟩ := hcbs i hi
        refine ⟨h1, by have := BW5.size; omega, ⟨by show i ≠ w.heap.size; omega, by show i ≠ w.heap.size + 1; omega, by show i ≠ w.heap.size + 1 + 1; omega, by show i ≠ w4.heap.size; omega, by show i ≠ w4.heap.size + 1 + 1 + 1; omega, by show i ≠ w4.heap.size + 1 + 1; omega⟩, fun e => ?_, fun e => ?_⟩
        · have := (World.ownsRow.lt o4.1 i e).1; omega
        · have e2 : w4.heap.size + 1 = i := by injection e
          omega⟩
    have hC := hcb K rfl rfl rfl rfl (by show w.heap.size ≤ w4.heap.size; omega)
    refine (from_c (K := K) hC (show RTs wb A n ts from hr) (fun x hx => by
      obtain ⟨j, e, hj⟩ := doneTo_lt ts _ x hx
      exact ⟨j, e, by show j < n; omega, by omega⟩) hk hsm (by show k4 ≤ 6; omega) k4 W5 _ 0 [] 0 0 0 0 a hE (by show 0 + k4 = k4; omega) MaskOf.zero hL (hC.below a _ _ hI BW5)).mono ?_
    rintro e w' ⟨v', k', u', rfl, hE', _, hI', _⟩
    exact ⟨_, rfl, hE'.bw, hI'⟩
  have cF5 := kF.cell 0
  clear kA kO kF oO htr cH0
  go_wp2_with fail
  refine hfrom.mono ?_
  rintro e w6 ⟨bb, rfl, bq, iq⟩
  go_wp2_with fail
  go_end0
  exact ⟨rfl, bq, by first | exact iq | (rw [hl4]; exact iq)⟩

/-- The many of the orders that run, at block b. -/
def MI (b : Nat) (a : Nat) (w : World) : Prop := Blk w b 3 #[.int .i64 (wrap64 (a : Int))]
theorem wrap_step (a : Nat) : wrap64 ((a + 1 : Nat) : Int) = wrap64 (wrap64 (a : Int) + 1) := by unfold wrap64; omega
set_option maxHeartbeats 4000000 in
theorem CountSerial1_c {v : Value} {b a : Nat} {w : World} (hI : MI b a w) : Calls Tryd.prog 23 #[v, .pointer (some ⟨b, 0, none⟩)] w fun e w' => e = .returned (.bool true) ∧ w' = w.setCell ⟨b, 0, none⟩ (.int .i64 (wrap64 ((a + 1 : Nat) : Int))) := by
  have c0 := hI.cell 0
  have f0 := hI.frozen 0
  go_enter Tryd.func23, Tryd.ntmps23
  go_wp2_with fail
  go_ret
  exact ⟨rfl, by rw [wrap_step]⟩

end Go.Proofs.YtieecneknljmdaaDoor
