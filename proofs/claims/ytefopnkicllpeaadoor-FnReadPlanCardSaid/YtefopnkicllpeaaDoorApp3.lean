/- Appending onto a slice of structs of three ints, of the call's own. -/
import Derived.Test.YtefopnkicllpeaaDoorApp
import Derived.Test.YtefopnkicllpeaaDoorRow3b
namespace Go.Proofs.YtefopnkicllpeaaDoor
open Go.RowKit

theorem flat3_append (ts us : List T3) : flat3 (ts ++ us) = flat3 ts ++ flat3 us := by
  induction ts with
  | nil => rfl
  | cons a ts ih => obtain ⟨x, y, z⟩ := a; simp [flat3, ih]
theorem R3.rd {w : World} {A : Option Addr} {n : Nat} {ts : List T3} (h : R3 w A n ts) : Rd w 3 A n ((flat3 ts).map (Value.int .i64)) :=
  ⟨by simp [flat3_len, h.1], fun hn => by
    obtain ⟨b, off, e, hlt, hc⟩ := h.2 hn
    refine ⟨b, off, e, hlt, fun k u hu => ?_⟩
    rw [List.getElem?_map] at hu
    cases hx : (flat3 ts)[k]? with
    | none => rw [hx] at hu; cases hu
    | some x => rw [hx] at hu; injection hu with hu; subst hu; exact hc k x hx⟩
/-- 'append(v, u...)' on slices of such structs: v the call's own, u whatever slice. -/
theorem wpList_app3 {w : World} {o : Oper} {a : Act} {Q : Exit → Act → World → Prop} {ops : Array Oper} {rest : List Oper} (hgd : o.guard = none) (s x : Operand) {t te : TypeId}
    (ho : o.op = .call { callee := .builtin .append, args := #[s, x], argTypes := #[t, t] })
    (hU : Tryd.prog.underlying t = some (.slice te)) (hI : (Tryd.prog.info? te).map (fun i => (i.zero, i.size, i.bytes)) = some (some (.agg #[.int .i64 0, .int .i64 0, .int .i64 0]), 3, 24))
    {B : Nat} {v : Value} {n : Nat} {ts : List T3} (hs : a.eval s = v) (hown : O3 te w B v n ts)
    {u : Value} {m : Nat} {us : List T3} (hx : a.eval x = u) (hr : S3 w u m us) (hnm : n + m ≤ 1048576) (hbase : B ≤ w.heap.size)
    (h : ∀ v' w', O3 te w' B v' (n + m) (ts ++ us) → w.grownBy w' v.ownBlock → (v'.ownBlock = v.ownBlock ∨ v'.ownBlock = some w.heap.size) → wpList Tryd.prog ops Q rest (a.put o.dst v') w') : wpList Tryd.prog ops Q (o :: rest) a w := by
  obtain ⟨i, hi, hz, hsz, hby⟩ := info_parts hI
  obtain ⟨A, c, rfl, _, _, hR⟩ := hr
  refine wpList_app hgd s x _ ho B te i (.agg #[.int .i64 0, .int .i64 0, .int .i64 0]) 3 24 hU hi hz hsz hby rfl (by omega) v n _ hs hown.1 A m c _ hx hR.rd (ints_oneCell _ _) (by simp only [maxLen]; omega) (by omega) hbase ?_
  intro v' w' h1 h2 h3
  exact h v' w' ⟨by rw [flat3_append]; simpa using h1, hnm⟩ h2 h3
theorem O3.empty (te : TypeId) (w : World) : O3 te (w.alloc (.cells #[] te)) w.heap.size (.slice (some ⟨w.heap.size, 0, none⟩) 0 0) 0 [] := O3.of_blk (Blk.new w _ _) (Nat.le_refl _) rfl rfl (by omega)
theorem S3.one {w : World} {g c : Nat} {te : TypeId} {x y z : Int} (h : Blk w g te #[.int .i64 x, .int .i64 y, .int .i64 z]) (hc : 1 ≤ c) : S3 w (.slice (some ⟨g, 0, none⟩) 1 c) 1 [(x, y, z)] := by
  refine ⟨_, _, rfl, hc, by omega, rfl, fun _ => ⟨g, 0, rfl, h.lt, fun k q hq => ?_⟩⟩
  rw [Nat.zero_add, h.cell]
  match k, hq with
  | 0, hq => simp [flat3] at hq; subst hq; rfl
  | 1, hq => simp [flat3] at hq; subst hq; rfl
  | 2, hq => simp [flat3] at hq; subst hq; rfl
theorem O3.alloc {te : TypeId} {w : World} {B : Nat} {v : Value} {n : Nat} {ts : List T3} (h : O3 te w B v n ts) (o : Obj) : O3 te (w.alloc o) B v n ts := h.below ((Below.refl _ _).alloc (Nat.le_refl _) _)
theorem O3.far {te : TypeId} {w : World} {B : Nat} {v : Value} {n : Nat} {ts : List T3} (h : O3 te w B v n ts) {b : Nat} (hb : b < B) : some b ≠ v.ownBlock := fun e => by
  have := (World.ownsRow.lt h.1 b e.symm).1; omega
theorem O3.block_ne {te : TypeId} {w : World} {B : Nat} {v : Value} {n : Nat} {ts : List T3} {g : Nat} (h : O3 te w B v n ts) (hg : g < B) : v.ownBlock = none ∨ v.ownBlock ≠ some g := by
  cases hv : v.ownBlock with
  | none => exact .inl rfl
  | some k => right; intro e; injection e with e; have := (World.ownsRow.lt h.1 k hv).1; omega
theorem O3.shape {te : TypeId} {w : World} {B : Nat} {v : Value} {n : Nat} {ts : List T3} (h : O3 te w B v n ts) : ∃ A c, v = .slice A n c := by obtain ⟨A, c, h1, _⟩ := h.s3; exact ⟨A, c, h1⟩
theorem below_app3 {te : TypeId} {a w w' : World} {B : Nat} {v : Value} {n : Nat} {ts : List T3} (h : Below a.heap.size a w) (ho : O3 te w B v n ts) (hB : a.heap.size ≤ B) (hg : w.grownBy w' v.ownBlock) : Below a.heap.size a w' :=
  h.grown hg h.size (fun k hk => by have := (World.ownsRow.lt ho.1 k hk).1; omega)

end Go.Proofs.YtefopnkicllpeaaDoor
