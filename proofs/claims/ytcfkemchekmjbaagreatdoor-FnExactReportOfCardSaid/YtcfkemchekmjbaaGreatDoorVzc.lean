/- Merged (what the law reaches): Edg. -/
import Derived.Test.YtcfkemchekmjbaaGreatDoorVzb
namespace Go.Proofs.YtcfkemchekmjbaaGreatDoor
open Go.RowKit
/-- Where EdgesOf stands: the history's box, the list's box, the list. -/
structure EdS (w : World) (bh bl : Nat) (A : Option Addr) (n c : Nat) (W : World) (v : Value) (k : Nat) (xs : List T3) : Prop where
  hH : Blk W bh 27 #[.slice A n c]
  hL : Blk W bl 97 #[v]
  row : O3 146 W w.heap.size v k xs
  bw : Below w.heap.size w W
  gl : w.heap.size ≤ bl
theorem EdS.below {w : World} {bh bl : Nat} {A : Option Addr} {n c : Nat} {W W' : World} {v : Value} {k : Nat} {xs : List T3} (h : EdS w bh bl A n c W v k xs) (hb : Below W.heap.size W W') : EdS w bh bl A n c W' v k xs :=
  ⟨h.hH.belowAll hb, h.hL.belowAll hb, h.row.below hb, below_step h.bw hb, h.gl⟩
/-- The blocks that put may write. -/
def PutS (bl : Nat) (v : Value) (k : Nat) : Prop := k = bl ∨ v.ownBlock = some k
def PutR (ts : List Tx) (w : World) (bh bl : Nat) (A : Option Addr) (n c : Nat) (W : World) (v : Value) (k : Nat) (xs : List T3) (f t kd : Int) (e : Ending) (W' : World) : Prop :=
  (∃ r, e = .returned r) ∧ ∃ v' k' xs', EdS w bh bl A n c W' v' k' xs' ∧ k' ≤ k + 1 ∧ (∀ e, e ∈ xs' ↔ (e ∈ xs ∨ (e = (f, t, kd) ∧ PutP ts f t))) ∧ Chg (PutS bl v) W W'
theorem o3_ne {te t : TypeId} {w : World} {B n g : Nat} {v : Value} {xs : List T3} {cs : Array Value} (h : O3 te w B v n xs) (hb : Blk w g t cs) (ht : t ≠ te) : v.ownBlock ≠ some g := by
  rcases h.1.2 with ⟨rfl, _⟩ | ⟨g1, cap, cur, rfl, _, hh, _⟩
  · simp [Value.ownBlock]
  · intro e
    have e : g1 = g := by have h : some g1 = some g := e; injection h
    subst e
    unfold Blk at hb
    rw [hh] at hb; injection hb with hb; injection hb with _ h2; exact ht h2.symm
set_option maxRecDepth 100000 in
set_option maxHeartbeats 8000000 in
theorem put_c {w : World} {bh bl : Nat} {A : Option Addr} {n c : Nat} {W : World} {v : Value} {k : Nat} {xs : List T3} {ts : List Tx} {f t kd : Int} (hS : EdS w bh bl A n c W v k xs) (hr : RTs w A n ts) (hk : k ≤ 10000)
    (hf : f < n) (ht : t < n) :
    Calls Tryz.prog 112 #[.int .i64 f, .int .i64 t, .int .i64 kd, .pointer (some ⟨bh, 0, none⟩), .pointer (some ⟨bl, 0, none⟩)] W (PutR ts w bh bl A n c W v k xs f t kd) := by
  have hl := hide hr.1
  have same : ∀ (W' : World), W = W' → ¬ PutP ts f t → ∀ r, PutR ts w bh bl A n c W v k xs f t kd (.returned r) W' := fun W' e hno r => by
    subst e
    exact ⟨⟨_, rfl⟩, v, k, xs, hS, by omega, fun e => ⟨.inl, fun h => h.elim id (fun h => absurd h.2 hno)⟩, ⟨rfl, rfl, rfl, Nat.le_refl _, fun _ _ _ => rfl⟩⟩
  have c1 := hS.hH.cell 0
  have c2 := hS.hL.cell 0
  by_cases hf0 : 0 ≤ f
  · by_cases ht0 : 0 ≤ t
    · by_cases hft : f = t
      · have hno : ¬ PutP ts f t := by rintro ⟨a, b, p, q, rfl, rfl, hab, _⟩; omega
        have hb : (f != t) = false := by simpa using hft
        have SM := hide (same W rfl hno)
        clear same hft
        go_enter Tryz.func112, Tryz.ntmps112
        go_wp2_with fail
        go_end0
        exact SM.out _
      · have hb : (f != t) = true := by simpa using hft
        obtain ⟨a, rfl⟩ : ∃ a : Nat, f = a := ⟨f.toNat, by omega⟩
        obtain ⟨b, rfl⟩ : ∃ b : Nat, t = b := ⟨t.toNat, by omega⟩
        have han : a < n := by omega
        have hbn : b < n := by omega
        obtain ⟨bt, ot, fa, ya, da, Ba, ka, dda, rfl, hbt, hxa, p0, p1, p2, _⟩ := hr.at_ han
        obtain ⟨bt', ot', fb, yb, db, Bb, kb, ddb, eA, hbt', hxb, q0, q1, q2, _⟩ := hr.at_ hbn
        injection eA with eA; injection eA with eA1 eA2; subst eA1; subst eA2
        have g2 := (hS.bw.cell (p := ⟨bt, ot + a * 3 + 2, none⟩) hbt).trans p2
        have h2 := (hS.bw.cell (p := ⟨bt, ot + b * 3 + 2, none⟩) hbt).trans q2
        have hlt := Nat.lt_of_lt_of_le hbt hS.bw.size
        cases da
        · have hno : ¬ PutP ts (a : Int) (b : Int) := by
            rintro ⟨a', b', p, q, e1, e2, _, h3, _, h5, _⟩
            obtain rfl : a = a' := by omega
            rw [hxa] at h3; injection h3 with h3; subst h3; cases h5
          have SM := hide (same W rfl hno)
          clear same hft p0 p1 p2 q0 q1 q2 hxa hxb
          go_enter Tryz.func112, Tryz.ntmps112
          go_wp2_with fail
          go_end0
          exact SM.out _
        · cases db
          · have hno : ¬ PutP ts (a : Int) (b : Int) := by
              rintro ⟨a', b', p, q, e1, e2, _, _, h3, _, h5⟩
              obtain rfl : b = b' := by omega
              rw [hxb] at h3; injection h3 with h3; subst h3; cases h5
            have SM := hide (same W rfl hno)
            clear same hft p0 p1 p2 q0 q1 q2 hxa hxb
            go_enter Tryz.func112, Tryz.ntmps112
            go_wp2_with fail
            go_end0
            exact SM.out _
          · have hput : PutP ts (a : Int) (b : Int) := ⟨a, b, _, _, rfl, rfl, by omega, hxa, hxb, rfl, rfl⟩
            have HP := hide hput; have HS := hide hS
            have ho := hS.row.alloc (.cells #[.int .i64 (a : Int), .int .i64 (b : Int), .int .i64 kd] 146)
            have KN := Blk.new W 146 #[.int .i64 (a : Int), .int .i64 (b : Int), .int .i64 kd]
            have hLA := hS.hL.alloc (.cells #[.int .i64 (a : Int), .int .i64 (b : Int), .int .i64 kd] 146)
            have hnl := o3_ne ho hLA (by decide)
            have hz := hS.bw.size
            obtain ⟨Av, cv, rfl⟩ := hS.row.shape
            clear same hft p0 p1 p2 q0 q1 q2 hxa hxb hput hS
            go_enter Tryz.func112, Tryz.ntmps112
            go_wp2_with (at_builtin; refine wpList_app3 rfl _ _ rfl Tryz.underlying97 infoEd rfl ho rfl (S3.one KN (Nat.le_refl _)) (by omega) (by simp <;> omega) ?_; intro v4 w4 o4 hg4 hat4; obtain ⟨A4, c4, rfl⟩ := o4.shape; have cL := (hLA.grown hg4 (fun e => hnl e.symm)).cell 0; have fL := (hLA.grown hg4 (fun e => hnl e.symm)).frozen 0)
            go_end0
            have hL4 := hLA.grown hg4 (fun e => hnl e.symm)
            have hne4 := o3_ne o4 hL4 (by decide)
            have hH4 := (HS.out.hH.alloc (.cells #[.int .i64 (a : Int), .int .i64 (b : Int), .int .i64 kd] 146)).grown hg4 (fun e => o3_ne ho (HS.out.hH.alloc _) (by decide) e.symm)
            have hbb : bh ≠ bl := fun e => by
              have h1 := HS.out.hH; have h2 := HS.out.hL
              rw [e] at h1; unfold Blk at h1 h2
              rw [h1] at h2; injection h2 with h2; injection h2 with _ h2; exact absurd h2 (by decide)
            have B4 : Below w.heap.size w w4 := below_app3 (HS.out.bw.alloc hz _) ho (Nat.le_refl _) hg4
            refine ⟨⟨_, rfl⟩, .slice A4 (k + 1) c4, k + 1, xs ++ [((a : Int), (b : Int), kd)], ⟨hH4.far (p := ⟨bl, 0, none⟩) hbb _, by simpa using hL4.set_ 0 (.slice A4 (k + 1) c4), ?_, B4.setCell (p := ⟨bl, 0, none⟩) HS.out.gl _, HS.out.gl⟩, Nat.le_refl _, fun e => ?_, ?_⟩
            · exact O3.grown o4 (grown_setCell (World.grownBy.refl w4 (some bl)) (.inl rfl) _) (.inr hne4)
            · rw [List.mem_append, List.mem_singleton]
              exact ⟨fun h => h.imp id (fun h => ⟨h, HP.out⟩), fun h => h.imp id (fun h => h.1)⟩
            · have b0 : Below W.heap.size W (W.alloc (.cells #[.int .i64 (a : Int), .int .i64 (b : Int), .int .i64 kd] 146)) := (Below.refl _ _).alloc (Nat.le_refl _) _
              have ch1 : Chg (PutS bl (.slice Av k cv)) W w4 := (Chg.of_below b0).trans (Chg.of_grown hg4 (fun q e => .inr e))
              exact ch1.trans (Chg.of_grown (grown_setCell (World.grownBy.refl w4 (some bl)) (.inl rfl) _) (fun q e => by injection e with e; exact .inl e.symm))
    · have hno : ¬ PutP ts f t := by rintro ⟨a, b, p, q, rfl, rfl, _⟩; omega
      have SM := hide (same W rfl hno)
      clear same
      go_enter Tryz.func112, Tryz.ntmps112
      go_wp2_with fail
      go_end0
      exact SM.out _
  · have hno : ¬ PutP ts f t := by rintro ⟨a, b, p, q, rfl, rfl, _⟩; omega
    have SM := hide (same W rfl hno)
    clear same
    go_enter Tryz.func112, Tryz.ntmps112
    go_wp2_with fail
    go_end0
    exact SM.out _
end Go.Proofs.YtcfkemchekmjbaaGreatDoor
