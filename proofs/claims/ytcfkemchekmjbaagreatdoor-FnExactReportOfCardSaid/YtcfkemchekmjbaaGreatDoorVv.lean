/- Merged (what the law reaches): FarP, Edges. -/
import Derived.Test.YtcfkemchekmjbaaGreatDoorVu
namespace Go.Proofs.YtcfkemchekmjbaaGreatDoor
open Go.RowKit
def relax (t : Int) (xs : List Int) (e : T3) : List Int := if xs.getD e.2.1.toNat (-1) = t ∧ xs.getD e.1.toNat (-1) < 0 then xs.set e.1.toNat (t + 1) else xs
def roundF (t : Int) (xs : List Int) (es : List T3) : List Int := es.foldl (relax t) xs
def far0 (many tgt : Nat) : List Int := (List.replicate many (-1)).set tgt 0
def farTo (many : Nat) (es : List T3) (tgt : Nat) : Nat → List Int
  | 0 => far0 many tgt
  | t + 1 => roundF (t : Int) (farTo many es tgt t) es
def farL (many : Nat) (es : List T3) (tgt : Nat) : List Int := farTo many es tgt many
theorem relax_len (t : Int) (xs : List Int) (e : T3) : (relax t xs e).length = xs.length := by unfold relax; split <;> simp
theorem roundF_len (t : Int) (es : List T3) : ∀ xs, (roundF t xs es).length = xs.length := by
  induction es with
  | nil => intro xs; rfl
  | cons e es ih => intro xs; show (roundF t (relax t xs e) es).length = _; rw [ih, relax_len]
theorem farTo_len (many : Nat) (es : List T3) (tgt : Nat) : ∀ t, (farTo many es tgt t).length = many
  | 0 => by simp [farTo, far0]
  | t + 1 => by show (roundF _ _ _).length = _; rw [roundF_len, farTo_len]
theorem farL_len (many : Nat) (es : List T3) (tgt : Nat) : (farL many es tgt).length = many := farTo_len _ _ _ _
theorem roundF_snoc (t : Int) (xs : List Int) (es : List T3) (e : T3) : roundF t xs (es ++ [e]) = relax t (roundF t xs es) e := by unfold roundF; rw [List.foldl_append]; rfl
/-- A way of exactly n steps to the target. -/
def Dn (es : List T3) (tgt : Nat) : Nat → Nat → Prop
  | 0, x => x = tgt
  | n + 1, x => ∃ e ∈ es, e.1 = (x : Int) ∧ ∃ y : Nat, e.2.1 = (y : Int) ∧ Dn es tgt n y
def InR (many : Nat) (es : List T3) : Prop := ∀ e ∈ es, (0 ≤ e.1 ∧ e.1 < many) ∧ (0 ≤ e.2.1 ∧ e.2.1 < many)
/-- Where round t stands: values are lengths of ways, and short ways were found. -/
def FarI (es : List T3) (tgt t b : Nat) (xs : List Int) : Prop :=
  (∀ x : Nat, 0 ≤ xs.getD x (-1) → ∃ n : Nat, n ≤ b ∧ xs.getD x (-1) = n ∧ Dn es tgt n x) ∧ (∀ n x : Nat, n ≤ t → Dn es tgt n x → 0 ≤ xs.getD x (-1) ∧ xs.getD x (-1) ≤ n)
theorem getD_set1 (xs : List Int) (i j : Nat) (v : Int) (hi : i < xs.length) : (xs.set i v).getD j (-1) = if i = j then v else xs.getD j (-1) := by
  simp only [List.getD_eq_getElem?_getD]
  by_cases e : i = j
  · subst e; rw [if_pos rfl, List.getElem?_set_self hi]; rfl
  · rw [if_neg e, List.getElem?_set_ne e]
theorem FarI.relax {es : List T3} {tgt t : Nat} {xs : List Int} (h : FarI es tgt t (t + 1) xs) {many : Nat} (hl : xs.length = many) (hR : InR many es) {e : T3} (he : e ∈ es) :
    FarI es tgt t (t + 1) (relax t xs e) ∧ (∀ x : Nat, 0 ≤ xs.getD x (-1) → (relax (t : Int) xs e).getD x (-1) = xs.getD x (-1)) ∧
    (xs.getD e.2.1.toNat (-1) = t → 0 ≤ (relax (t : Int) xs e).getD e.1.toNat (-1) ∧ (relax (t : Int) xs e).getD e.1.toNat (-1) ≤ t + 1) := by
  obtain ⟨r1, r2⟩ := hR e he
  have h1 : e.1.toNat < xs.length := by omega
  unfold Go.Proofs.YtcfkemchekmjbaaGreatDoor.relax
  by_cases c : xs.getD e.2.1.toNat (-1) = t ∧ xs.getD e.1.toNat (-1) < 0
  · rw [if_pos c]
    refine ⟨⟨fun x hx => ?_, fun n x hn hd => ?_⟩, fun x hx => ?_, fun _ => ?_⟩
    · rw [getD_set1 _ _ _ _ h1] at hx ⊢
      by_cases ex : e.1.toNat = x
      · subst ex
        rw [if_pos rfl]
        obtain ⟨n, hn, hv, hd⟩ := h.1 e.2.1.toNat (by rw [c.1]; omega)
        rw [c.1] at hv
        obtain rfl : t = n := by omega
        exact ⟨t + 1, by omega, by omega, e, he, by omega, e.2.1.toNat, by omega, hd⟩
      · rw [if_neg ex] at hx ⊢; exact h.1 x hx
    · have := h.2 n x hn hd
      rw [getD_set1 _ _ _ _ h1, if_neg (fun ex => by subst ex; omega)]
      exact this
    · rw [getD_set1 _ _ _ _ h1, if_neg (fun ex => by subst ex; omega)]
    · rw [getD_set1 _ _ _ _ h1, if_pos rfl]; omega
  · rw [if_neg c]
    refine ⟨h, fun x _ => rfl, fun ht => ?_⟩
    have h0 : 0 ≤ xs.getD e.1.toNat (-1) := by
      by_cases g : 0 ≤ xs.getD e.1.toNat (-1)
      · exact g
      · exact absurd ⟨ht, by omega⟩ c
    obtain ⟨n, hn, hv, _⟩ := h.1 _ h0
    exact ⟨h0, by omega⟩
theorem FarI.go {es : List T3} {tgt t many : Nat} (hR : InR many es) : ∀ (ds : List T3) (xs : List Int), (∀ e ∈ ds, e ∈ es) → xs.length = many → FarI es tgt t (t + 1) xs →
    FarI es tgt t (t + 1) (roundF t xs ds) ∧ (∀ x : Nat, 0 ≤ xs.getD x (-1) → (roundF (t : Int) xs ds).getD x (-1) = xs.getD x (-1)) ∧
    (∀ e ∈ ds, xs.getD e.2.1.toNat (-1) = t → 0 ≤ (roundF (t : Int) xs ds).getD e.1.toNat (-1) ∧ (roundF (t : Int) xs ds).getD e.1.toNat (-1) ≤ t + 1)
  | [], xs, _, _, h => ⟨h, fun _ _ => rfl, fun e he => by cases he⟩
  | d :: ds, xs, hs, hl, h => by
    obtain ⟨a1, a2, a3⟩ := h.relax hl hR (hs d (by simp))
    obtain ⟨b1, b2, b3⟩ := FarI.go hR ds (Go.Proofs.YtcfkemchekmjbaaGreatDoor.relax t xs d) (fun e he => hs e (by simp [he])) (by rw [relax_len, hl]) a1
    have er : roundF (t : Int) xs (d :: ds) = roundF (t : Int) (Go.Proofs.YtcfkemchekmjbaaGreatDoor.relax t xs d) ds := rfl
    rw [er]
    refine ⟨b1, fun x hx => ?_, fun e he ht => ?_⟩
    · rw [b2 x (by rw [a2 x hx]; exact hx), a2 x hx]
    · rcases List.mem_cons.1 he with rfl | he
      · obtain ⟨g1, g2⟩ := a3 ht
        rw [b2 _ g1]; exact ⟨g1, g2⟩
      · refine b3 e he ?_
        rw [a2 _ (by rw [ht]; omega)]; exact ht
theorem FarI.round {es : List T3} {tgt t many : Nat} {xs : List Int} (hR : InR many es) (hl : xs.length = many) (h : FarI es tgt t t xs) : FarI es tgt (t + 1) (t + 1) (roundF t xs es) := by
  have h' : FarI es tgt t (t + 1) xs := ⟨fun x hx => by obtain ⟨n, hn, r⟩ := h.1 x hx; exact ⟨n, by omega, r⟩, h.2⟩
  obtain ⟨b1, b2, b3⟩ := h'.go hR es xs (fun e he => he) hl
  refine ⟨b1.1, fun n x hn hd => ?_⟩
  by_cases e : n ≤ t
  · exact b1.2 n x e hd
  · obtain rfl : n = t + 1 := by omega
    obtain ⟨e, he, e1, y, e2, hy⟩ := hd
    obtain ⟨g1, g2⟩ := h.2 t y (Nat.le_refl _) hy
    by_cases g : xs.getD y (-1) = t
    · have := b3 e he (by rw [e2]; exact g)
      rw [e1] at this
      exact ⟨this.1, this.2⟩
    · obtain ⟨m, hm, hv, hdm⟩ := h.1 y g1
      have := b1.2 (m + 1) x (by omega) ⟨e, he, e1, y, e2, hdm⟩
      exact ⟨this.1, by omega⟩
theorem FarI.start {es : List T3} {many tgt : Nat} (ht : tgt < many) : FarI es tgt 0 0 (far0 many tgt) := by
  have hl : tgt < (List.replicate many (-1 : Int)).length := by simpa using ht
  have hr : ∀ x : Nat, (List.replicate many (-1 : Int)).getD x (-1) = -1 := fun x => by
    rw [List.getD_eq_getElem?_getD, List.getElem?_replicate]; split <;> rfl
  refine ⟨fun x hx => ?_, fun n x hn hd => ?_⟩
  · unfold far0 at hx ⊢
    rw [getD_set1 _ _ _ _ hl] at hx ⊢
    by_cases e : tgt = x
    · subst e; rw [if_pos rfl]; exact ⟨0, Nat.le_refl _, rfl, rfl⟩
    · rw [if_neg e, hr] at hx; omega
  · obtain rfl : n = 0 := by omega
    have e : x = tgt := hd
    subst e
    unfold far0
    rw [getD_set1 _ _ _ _ hl, if_pos rfl]; omega
theorem farTo_inv {es : List T3} {many tgt : Nat} (hR : InR many es) (ht : tgt < many) : ∀ t, FarI es tgt t t (farTo many es tgt t)
  | 0 => FarI.start ht
  | t + 1 => (farTo_inv hR ht t).round hR (farTo_len _ _ _ _)
/-- Numbers below m, each once, are at most m. -/
theorem nodup_le : ∀ (m : Nat) (l : List Nat), l.Nodup → (∀ x ∈ l, x < m) → l.length ≤ m
  | 0, l, _, h => by
    cases l with
    | nil => exact Nat.le_refl _
    | cons x l => exact absurd (h x (by simp)) (Nat.not_lt_zero _)
  | m + 1, l, hn, h => by
    have h1 : ∀ x ∈ l.erase m, x < m := fun x hx => by
      have := (hn.mem_erase_iff).1 hx
      have := h x this.2
      omega
    have h2 := nodup_le m (l.erase m) (hn.erase m) h1
    have h3 := List.length_erase_le (a := m) (l := l)
    by_cases e : m ∈ l
    · rw [List.length_erase_of_mem e] at h2; omega
    · rw [List.erase_of_not_mem e] at h2; omega
/-- A shortest way meets nothing twice. -/
theorem Dn.short {es : List T3} {many tgt : Nat} (hR : InR many es) (ht : tgt < many) : ∀ (n x : Nat), Dn es tgt n x → (∀ m, m < n → ¬ Dn es tgt m x) →
    ∃ l : List Nat, l.length = n + 1 ∧ l.Nodup ∧ (∀ y ∈ l, y < many) ∧ ∀ y ∈ l, ∃ m, m ≤ n ∧ Dn es tgt m y
  | 0, x, h, _ => by
    have e : x = tgt := h
    subst e
    exact ⟨[x], rfl, by simp, by simpa using ht, fun y hy => by simp at hy; subst hy; exact ⟨0, Nat.le_refl _, rfl⟩⟩
  | n + 1, x, h, hm => by
    have h0 := h
    obtain ⟨e, he, e1, y, e2, hy⟩ := h
    obtain ⟨l, hl, hn, hlt, hd⟩ := Dn.short hR ht n y hy (fun m hmn hy' => hm (m + 1) (by omega) ⟨e, he, e1, y, e2, hy'⟩)
    refine ⟨x :: l, by simp [hl], List.nodup_cons.2 ⟨fun hx => ?_, hn⟩, fun z hz => ?_, fun z hz => ?_⟩
    · obtain ⟨m, hmn, hdm⟩ := hd x hx
      exact hm m (by omega) hdm
    · rcases List.mem_cons.1 hz with rfl | hz
      · have := (hR e he).1; omega
      · exact hlt z hz
    · rcases List.mem_cons.1 hz with rfl | hz
      · exact ⟨n + 1, Nat.le_refl _, h0⟩
      · obtain ⟨m, h1, h2⟩ := hd z hz; exact ⟨m, by omega, h2⟩
theorem least {p : Nat → Prop} : ∀ n, p n → ∃ m, p m ∧ ∀ k, k < m → ¬ p k := by
  intro n
  induction n using Nat.strongRecOn with
  | ind n ih =>
    intro h
    by_cases c : ∃ k, k < n ∧ p k
    · obtain ⟨k, h1, h2⟩ := c; exact ih k h1 h2
    · exact ⟨n, h, fun k hk hp => c ⟨k, hk, hp⟩⟩
theorem Dn.bound {es : List T3} {many tgt n x : Nat} (hR : InR many es) (ht : tgt < many) (h : Dn es tgt n x) : ∃ m, m < many ∧ Dn es tgt m x := by
  obtain ⟨m, h1, h2⟩ := least (p := fun k => Dn es tgt k x) n h
  obtain ⟨l, hl, hn, hlt, _⟩ := Dn.short hR ht m x h1 h2
  have := nodup_le many l hn hlt
  exact ⟨m, by omega, h1⟩
theorem farL_iff {es : List T3} {many tgt x : Nat} (hR : InR many es) (ht : tgt < many) : 0 ≤ (farL many es tgt).getD x (-1) ↔ ∃ n, Dn es tgt n x := by
  have hi := farTo_inv hR ht many
  constructor
  · intro h; obtain ⟨n, _, _, hd⟩ := hi.1 x h; exact ⟨n, hd⟩
  · rintro ⟨n, hd⟩
    obtain ⟨m, hm, hd⟩ := hd.bound hR ht
    exact (hi.2 m x (by omega) hd).1
/-- Edges of all kinds in a list of edges. -/
def Eda (es : List T3) (i j : Int) : Prop := ∃ k, (i, j, k) ∈ es
theorem Dn.way {es : List T3} {tgt : Nat} : ∀ (n x : Nat), Dn es tgt (n + 1) x → Way (Eda es) (x : Int) (tgt : Int)
  | 0, x, ⟨e, he, e1, y, e2, hy⟩ => by
    obtain ⟨a, b, k⟩ := e
    have hy' : y = tgt := hy
    dsimp only at e1 e2; subst e1; subst e2; subst hy'
    exact .one ⟨k, he⟩
  | n + 1, x, ⟨e, he, e1, y, e2, hy⟩ => by
    obtain ⟨a, b, k⟩ := e
    dsimp only at e1 e2; subst e1; subst e2
    exact .cons ⟨k, he⟩ (Dn.way n y hy)
theorem Dn.of_way {es : List T3} {many : Nat} (hR : InR many es) {i j : Int} (h : Way (Eda es) i j) : ∃ (x y n : Nat), i = x ∧ j = y ∧ x < many ∧ y < many ∧ Dn es y (n + 1) x := by
  induction h with
  | @one i j h =>
    obtain ⟨k, hk⟩ := h
    have := hR _ hk
    dsimp only at this
    exact ⟨i.toNat, j.toNat, 0, by omega, by omega, by omega, by omega, _, hk, by dsimp only; omega, j.toNat, by dsimp only; omega, rfl⟩
  | @cons i j l h _ ih =>
    obtain ⟨k, hk⟩ := h
    have := hR _ hk
    dsimp only at this
    obtain ⟨x, y, n, rfl, rfl, hx, hy, hd⟩ := ih
    exact ⟨i.toNat, y, n + 1, by omega, rfl, by omega, hy, _, hk, by dsimp only; omega, x, rfl, hd⟩
/-- An edge out of s, and a way back. -/
def cycB (many : Nat) (es : List T3) : Bool := (List.range many).any fun s => es.any fun e => decide (e.1 = (s : Int)) && decide (0 ≤ (farL many es s).getD e.2.1.toNat (-1))
theorem cycB_iff {many : Nat} {es : List T3} (hR : InR many es) : cycB many es = true ↔ ∃ i, Way (Eda es) i i := by
  unfold cycB
  simp only [List.any_eq_true, List.mem_range, Bool.and_eq_true, decide_eq_true_eq]
  constructor
  · rintro ⟨s, hs, e, he, h1, h2⟩
    obtain ⟨n, hd⟩ := (farL_iff hR hs).1 h2
    have := (hR e he).2
    exact ⟨s, Dn.way n s ⟨e, he, h1, e.2.1.toNat, by omega, hd⟩⟩
  · rintro ⟨i, hw⟩
    obtain ⟨x, y, n, rfl, e, hx, _, hd⟩ := Dn.of_way hR hw
    obtain rfl : x = y := by omega
    obtain ⟨e, he, e1, z, e2, hz⟩ := hd
    refine ⟨x, hx, e, he, e1, (farL_iff hR hx).2 ⟨n, ?_⟩⟩
    rw [e2]; exact hz
/-- The edges whose kinds are at most k. -/
def upto (es : List T3) (k : Int) : List T3 := es.filter fun e => decide (e.2.2 ≤ k)
theorem upto_in {many : Nat} {es : List T3} (hR : InR many es) (k : Int) : InR many (upto es k) := fun e he => hR e (List.mem_filter.1 he).1
theorem Eda_upto {es : List T3} {k i j : Int} : Eda (upto es k) i j ↔ Ed es k i j := by
  constructor
  · rintro ⟨q, h⟩
    obtain ⟨h1, h2⟩ := List.mem_filter.1 h
    exact ⟨q, h1, by simpa using h2⟩
  · rintro ⟨q, h1, h2⟩
    exact ⟨q, List.mem_filter.2 ⟨h1, by simpa using h2⟩⟩
theorem cyc_upto {many : Nat} {es : List T3} (hR : InR many es) (k : Int) : cycB many (upto es k) = true ↔ ∃ i, Way (Ed es k) i i := by
  rw [cycB_iff (upto_in hR k)]
  constructor
  · rintro ⟨i, h⟩; exact ⟨i, h.mono fun a b => Eda_upto.1⟩
  · rintro ⟨i, h⟩; exact ⟨i, h.mono fun a b => Eda_upto.2⟩
/-- An edge of kind 3 with a way back along kinds 1 and 2. -/
def singB (many : Nat) (es : List T3) : Bool := es.any fun e => decide (e.2.2 = 3) && decide (0 ≤ (farL many (upto es 2) e.1.toNat).getD e.2.1.toNat (-1))
theorem singB_iff {many : Nat} {es : List T3} (hR : InR many es) (hne : ∀ e ∈ es, e.1 ≠ e.2.1) : singB many es = true ↔ ∃ i j, (i, j, 3) ∈ es ∧ Way (Ed es 2) j i := by
  unfold singB
  simp only [List.any_eq_true, Bool.and_eq_true, decide_eq_true_eq]
  constructor
  · rintro ⟨⟨a, b, k⟩, he, h3, h2⟩
    dsimp only at h3 h2
    subst h3
    have hr := hR _ he
    have hn := hne _ he
    dsimp only at hr hn
    obtain ⟨n, hd⟩ := (farL_iff (upto_in hR 2) (by omega)).1 h2
    refine ⟨a, b, he, ?_⟩
    cases n with
    | zero => have : b.toNat = a.toNat := hd; omega
    | succ n =>
      have := Dn.way n _ hd
      rw [show ((b.toNat : Nat) : Int) = b by omega, show ((a.toNat : Nat) : Int) = a by omega] at this
      exact this.mono fun a b => Eda_upto.1
  · rintro ⟨i, j, he, hw⟩
    have hr := hR _ he
    dsimp only at hr
    obtain ⟨x, y, n, rfl, rfl, hx, hy, hd⟩ := Dn.of_way (upto_in hR 2) (hw.mono fun a b => Eda_upto.2)
    exact ⟨_, he, rfl, (farL_iff (upto_in hR 2) (by dsimp only; omega)).2 ⟨n + 1, by dsimp only; rw [Int.toNat_natCast, Int.toNat_natCast]; exact hd⟩⟩
/-- Anomalies as the reference finds them. -/
theorem anomB_spec {many : Nat} {es : List T3} (hR : InR many es) (hne : ∀ e ∈ es, e.1 ≠ e.2.1) :
    anomB es 1 = cycB many (upto es 1) ∧ anomB es 2 = cycB many (upto es 2) ∧ anomB es 3 = singB many es ∧ anomB es 4 = cycB many (upto es 3) := by
  refine ⟨?_, ?_, ?_, ?_⟩
  · rw [Bool.eq_iff_iff, cyc_upto hR]; unfold anomB; rw [cd_true]; unfold AnomP; simp
  · rw [Bool.eq_iff_iff, cyc_upto hR]; unfold anomB; rw [cd_true]; unfold AnomP; simp
  · rw [Bool.eq_iff_iff, singB_iff hR hne]; unfold anomB; rw [cd_true]; unfold AnomP; simp
  · rw [Bool.eq_iff_iff, cyc_upto hR]; unfold anomB; rw [cd_true]; unfold AnomP; simp
end Go.Proofs.YtcfkemchekmjbaaGreatDoor

namespace Go.Proofs.YtcfkemchekmjbaaGreatDoor
open Go.RowKit
/-- One edge is right; m1: the greatest number. -/
def edgeB (m1 : Int) (e : T3) : Bool := inB e.1 0 m1 && (inB e.2.1 0 m1 && ((!(e.1 == e.2.1)) && inB e.2.2 1 4))
def edgesB (many : Int) (ts : List T3) : Bool := inB many 0 6 && (decide (ts.length ≤ 144) && ts.all (edgeB (many - 1)))
theorem edge_cases (m1 x y z : Int) : (inB x 0 m1 = false ∧ edgeB m1 (x, y, z) = false) ∨ (inB x 0 m1 = true ∧ inB y 0 m1 = false ∧ edgeB m1 (x, y, z) = false) ∨
    (inB x 0 m1 = true ∧ inB y 0 m1 = true ∧ (x == y) = true ∧ edgeB m1 (x, y, z) = false) ∨ (inB x 0 m1 = true ∧ inB y 0 m1 = true ∧ (x == y) = false ∧ inB z 1 4 = false ∧ edgeB m1 (x, y, z) = false) ∨
    (inB x 0 m1 = true ∧ inB y 0 m1 = true ∧ (x == y) = false ∧ inB z 1 4 = true ∧ edgeB m1 (x, y, z) = true) := by
  unfold edgeB
  cases inB x 0 m1 <;> cases inB y 0 m1 <;> cases (x == y) <;> cases inB z 1 4 <;> simp
theorem all_snoc3 {α : Type} {p : α → Bool} {xs : List α} {k : Nat} {x : α} (h : (xs.take k).all p = true) (hx : xs[k]? = some x) (hp : p x = true) : (xs.take (k + 1)).all p = true := by
  rw [List.take_add_one, hx, List.all_append, h]; simp [hp]
theorem any_snoc3 {α : Type} {p : α → Bool} {xs : List α} {k : Nat} {x : α} (h : (xs.take k).any p = false) (hx : xs[k]? = some x) (hp : p x = false) : (xs.take (k + 1)).any p = false := by
  rw [List.take_add_one, hx, List.any_append, h]; simp [hp]
theorem any_of_at3 {α : Type} {p : α → Bool} {xs : List α} {k : Nat} {x : α} (hx : xs[k]? = some x) (hp : p x = true) : xs.any p = true :=
  List.any_eq_true.2 ⟨x, List.mem_of_getElem? hx, hp⟩
theorem all_bad {α : Type} {p : α → Bool} {xs : List α} {k : Nat} {x : α} (hx : xs[k]? = some x) (hp : p x = false) : xs.all p = false := by
  rw [← Bool.not_eq_true, List.all_eq_true]; intro h; have := h x (List.mem_of_getElem? hx); rw [hp] at this; cases this
theorem not_all {α : Type} (p : α → Bool) (xs : List α) : xs.all p = !xs.any (fun e => !p e) := by
  rw [Bool.eq_iff_iff]; simp
set_option maxHeartbeats 4000000 in
theorem EdgesValid_1_c {g : Nat} {many x y z : Int} {t : TypeId} {w : World} (hb : Blk w g t #[.int .i64 many]) (h0 : 0 ≤ many) (h6 : many ≤ 6) :
    Calls Tryz.prog 190 #[.agg #[.int .i64 x, .int .i64 y, .int .i64 z], .pointer (some ⟨g, 0, none⟩)] w fun e w' => e = .returned (.bool (!edgeB (many - 1) (x, y, z))) ∧ Below w.heap.size w w' := by
  have B0 : ∀ o, Below w.heap.size w (w.alloc o) := fun o => (Below.refl _ _).alloc (Nat.le_refl _) o
  have c0 : w.cell? ⟨g, 0, none⟩ = some (.int .i64 many) := hb.cell 0
  have d0 : ∀ o, (w.alloc o).cell? ⟨g, 0, none⟩ = some (.int .i64 many) := fun o => (hb.alloc o).cell 0
  clear hb
  rcases edge_cases (many - 1) x y z with ⟨h1, hf⟩ | ⟨h1, h2, hf⟩ | ⟨h1, h2, h3, hf⟩ | ⟨h1, h2, h3, h4, hf⟩ | ⟨h1, h2, h3, h4, hf⟩
  · have F := hide hf; have H1 := hide h1; clear hf h1
    go_enter Tryz.func190, Tryz.ntmps190
    go_wp2_with (go_at_call 56; refine (within_c).mono ?_; rintro e w' ⟨rfl, rfl⟩; first | rw [H1.out])
    go_ret
    exact ⟨by rw [F.out]; rfl, B0 _⟩
  · have F := hide hf; have H1 := hide h1; have H2 := hide h2; clear hf h1 h2
    go_enter Tryz.func190, Tryz.ntmps190
    go_wp2_with (go_at_call 56; refine (within_c).mono ?_; rintro e w' ⟨rfl, rfl⟩; first | rw [H1.out] | rw [H2.out])
    go_ret
    exact ⟨by rw [F.out]; rfl, B0 _⟩
  · have F := hide hf; have H1 := hide h1; have H2 := hide h2; clear hf h1 h2
    go_enter Tryz.func190, Tryz.ntmps190
    go_wp2_with (go_at_call 56; refine (within_c).mono ?_; rintro e w' ⟨rfl, rfl⟩; first | rw [H1.out] | rw [H2.out])
    go_ret
    exact ⟨by rw [F.out]; rfl, B0 _⟩
  · have F := hide hf; have H1 := hide h1; have H2 := hide h2; have H4 := hide h4; clear hf h1 h2 h4
    go_enter Tryz.func190, Tryz.ntmps190
    go_wp2_with (go_at_call 56; refine (within_c).mono ?_; rintro e w' ⟨rfl, rfl⟩; first | rw [H1.out] | rw [H2.out] | rw [H4.out])
    go_ret
    exact ⟨by rw [F.out]; rfl, B0 _⟩
  · have F := hide hf; have H1 := hide h1; have H2 := hide h2; have H4 := hide h4; clear hf h1 h2 h4
    go_enter Tryz.func190, Tryz.ntmps190
    go_wp2_with (go_at_call 56; refine (within_c).mono ?_; rintro e w' ⟨rfl, rfl⟩; first | rw [H1.out] | rw [H2.out] | rw [H4.out])
    go_ret
    exact ⟨by rw [F.out]; rfl, B0 _⟩
set_option maxHeartbeats 4000000 in
theorem IndexFunc_Edge_c {g : Nat} {many : Int} {t : TypeId} {v : Value} {n : Nat} {ts : List T3} {w : World} (hs : S3 w v n ts) (hb : Blk w g t #[.int .i64 many]) (h0 : 0 ≤ many) (h6 : many ≤ 6) :
    Calls Tryz.prog 215 #[v, .func (.func 190) #[] #[.pointer (some ⟨g, 0, none⟩)]] w fun e w' => ∃ i : Int, e = .returned (.int .i64 i) ∧ (decide (0 ≤ i)) = ts.any (fun e => !edgeB (many - 1) e) ∧ Below w.heap.size w w' := by
  obtain ⟨A, c, rfl, hnc, hn, hr⟩ := hs
  have hl := hide hr.len
  go_enter Tryz.func215, Tryz.ntmps215
  go_wp2
  go_loopw [8] (fun i wr => ∃ k : Nat, k ≤ n ∧ i = .int .i64 k ∧ (ts.take k).any (fun e => !edgeB (many - 1) e) = false ∧ Below w.heap.size w wr) (fun i _ => n - (intOf i).toNat)
  case atStart => exact ⟨0, Nat.zero_le _, rfl, by simp, Below.refl _ _⟩
  case round =>
    obtain ⟨k, hk, rfl, hall, hbel⟩ := hrel
    have Hall := hide hall; clear hall
    by_cases hlt : k < n
    · obtain ⟨b, off, x, y, z, rfl, hbk, hx, p0, p1, p2⟩ := hr.at_ hlt
      have Hx := hide hx; clear hx
      have a0 := (hbel.cell (p := ⟨b, off + k * 3, none⟩) hbk).trans p0
      have a1 := (hbel.cell (p := ⟨b, off + k * 3 + 1, none⟩) hbk).trans p1
      have a2 := (hbel.cell (p := ⟨b, off + k * 3 + 2, none⟩) hbk).trans p2
      clear p0 p1 p2
      cases hv : edgeB (many - 1) (x, y, z)
      · have Hv := hide hv; clear hv
        go_wp2_with fail
        refine (EdgesValid_1_c (hb.below hbel hb.lt) h0 h6).mono ?_
        rintro e w2 ⟨rfl, b2⟩
        have B2 := below_step hbel b2
        rw [Hv.out]
        go_wp2_with fail
        go_ret
        exact ⟨_, rfl, by rw [any_of_at3 Hx.out (by simp [Hv.out])]; simp, B2⟩
      · have Hv := hide hv; clear hv
        go_wp2_with fail
        refine (EdgesValid_1_c (hb.below hbel hb.lt) h0 h6).mono ?_
        rintro e w2 ⟨rfl, b2⟩
        have B2 := below_step hbel b2
        rw [Hv.out]
        go_wp2_with fail
        go_roundw
        case rel => exact ⟨k + 1, by omega, by go_num, any_snoc3 Hall.out Hx.out (by simp [Hv.out]), B2⟩
        case measure => simp [intOf]; omega
    · go_wp2
      go_ret
      obtain rfl : k = n := by omega
      refine ⟨_, rfl, ?_, hbel⟩
      have h1 := Hall.out
      rw [List.take_of_length_le (by rw [hl.out]; omega)] at h1
      rw [h1]; rfl
set_option maxHeartbeats 1000000 in
theorem ContainsFunc_Edge_c {g : Nat} {many : Int} {t : TypeId} {v : Value} {n : Nat} {ts : List T3} {w : World} (hs : S3 w v n ts) (hb : Blk w g t #[.int .i64 many]) (h0 : 0 ≤ many) (h6 : many ≤ 6) :
    Calls Tryz.prog 189 #[v, .func (.func 190) #[] #[.pointer (some ⟨g, 0, none⟩)]] w fun e w' => e = .returned (.bool (ts.any (fun e => !edgeB (many - 1) e))) ∧ Below w.heap.size w w' := by
  obtain ⟨A, c, rfl, hnc, hn, hr⟩ := hs
  go_enter Tryz.func189, Tryz.ntmps189
  go_wp2_with fail
  refine (IndexFunc_Edge_c ⟨A, c, rfl, hnc, hn, hr⟩ hb h0 h6).mono ?_
  rintro e w2 ⟨i, rfl, hi, b2⟩
  have Hi := hide hi; clear hi
  go_wp2_with fail
  go_ret
  exact ⟨by rw [← Hi.out]; rfl, b2⟩
set_option maxHeartbeats 4000000 in
theorem impl_EdgesValid_c {many : Int} {v : Value} {n : Nat} {ts : List T3} {w : World} (hs : S3 w v n ts) :
    Calls Tryz.prog 156 #[.int .i64 many, v] w fun e w' => e = .returned (.bool (edgesB many ts)) ∧ Below w.heap.size w w' := by
  have ss := hs
  obtain ⟨A, c, rfl, hnc, hn, hr⟩ := hs
  have hl := hide hr.len
  have B0 : ∀ o, Below w.heap.size w (w.alloc o) := fun o => (Below.refl _ _).alloc (Nat.le_refl _) o
  cases h1 : inB many 0 6
  · have hf : edgesB many ts = false := by simp [edgesB, h1]
    have F := hide hf; have H1 := hide h1; clear hf h1
    go_enter Tryz.func156, Tryz.ntmps156
    go_wp2_with (go_at_call 56; refine (within_c).mono ?_; rintro e w' ⟨rfl, rfl⟩; rw [H1.out])
    go_ret
    exact ⟨by rw [F.out]; rfl, B0 _⟩
  · have hh := (inB_iff _ _ _).1 h1
    have H1 := hide h1
    obtain ⟨m0, m6⟩ := hh
    by_cases h144 : n ≤ 144
    · have hf : edgesB many ts = !(ts.any (fun e => !edgeB (many - 1) e)) := by
        unfold edgesB
        rw [h1, hl.out, not_all]; simp [h144]
      have F := hide hf; clear hf h1
      have hd : ¬ ((144 : Int) < n) := by omega
      go_enter Tryz.func156, Tryz.ntmps156
      go_wp2_with (go_at_call 56; refine (within_c).mono ?_; rintro e w' ⟨rfl, rfl⟩; rw [H1.out])
      refine (ContainsFunc_Edge_c (ss.below (B0 _)) (Blk.new w _ _) m0 m6).mono ?_
      rintro e w2 ⟨rfl, b2⟩
      have B2 := below_step (B0 _) b2
      go_wp2_with fail
      go_ret
      exact ⟨by rw [F.out]; rfl, B2⟩
    · have hf : edgesB many ts = false := by simp [edgesB, hl.out, h144]
      have F := hide hf; clear hf h1
      have hd : (144 : Int) < n := by omega
      go_enter Tryz.func156, Tryz.ntmps156
      go_wp2_with (go_at_call 56; refine (within_c).mono ?_; rintro e w' ⟨rfl, rfl⟩; rw [H1.out])
      go_ret
      exact ⟨by rw [F.out]; rfl, B0 _⟩
set_option maxHeartbeats 8000000 in
theorem spec_EdgesValid_c {many : Int} {v : Value} {n : Nat} {ts : List T3} {w : World} (hs : S3 w v n ts) :
    Calls Tryz.prog 229 #[.int .i64 many, v] w fun e w' => e = .returned (.bool (edgesB many ts)) ∧ Below w.heap.size w w' := by
  obtain ⟨A, c, rfl, hnc, hn, hr⟩ := hs
  have hl := hide hr.len
  obtain ⟨ok, hok⟩ : ∃ ok, ok = inB many 0 6 := ⟨_, rfl⟩
  obtain ⟨m1, hm1⟩ : ∃ m1, m1 = IntKind.i64.wrap (many - 1) := ⟨_, rfl⟩
  have hmm : ok = true → m1 = many - 1 := fun h => by
    have := (inB_iff _ _ _).1 (hok ▸ h)
    rw [hm1, IntKind.wrap_i64]; omega
  have Hm := hide hmm; clear hmm
  have Hok := hide hok; clear hok
  have HM1 : Hid (IntKind.i64.wrap (many - 1) = m1) := hm1.symm
  have HM2 : Hid (wrap64 (many - 1) = m1) := by show wrap64 (many - 1) = m1; unfold wrap64; rw [hm1, IntKind.wrap_i64]
  clear hm1
  go_enter Tryz.func229, Tryz.ntmps229
  go_wp2
  go_loopw [5, 6] (fun i _ wr => ∃ k : Nat, k ≤ n ∧ i = .int .i64 k ∧ (ts.take k).all (edgeB m1) = true ∧ Below w.heap.size w wr) (fun i _ _ => n - (intOf i).toNat)
  case atStart => exact ⟨0, Nat.zero_le _, rfl, by simp, Below.refl _ _⟩
  case round =>
    obtain ⟨k, hk, rfl, hall, hbel⟩ := hrel
    have Hall := hide hall; clear hall
    by_cases hlt : k < n
    · obtain ⟨b, off, x, y, z, rfl, hbk, hx, p0, p1, p2⟩ := hr.at_ hlt
      have Hx := hide hx; clear hx
      have a0 := (hbel.cell (p := ⟨b, off + k * 3, none⟩) hbk).trans p0
      have a1 := (hbel.cell (p := ⟨b, off + k * 3 + 1, none⟩) hbk).trans p1
      have a2 := (hbel.cell (p := ⟨b, off + k * 3 + 2, none⟩) hbk).trans p2
      clear p0 p1 p2
      have hno : edgeB m1 (x, y, z) = false → edgesB many ts = false := fun h => by
        cases hk : ok with
        | false => simp [edgesB, ← Hok.out, hk]
        | true => have := all_bad Hx.out h; rw [Hm.out hk] at this; simp [edgesB, this]
      have Hno := hide hno; clear hno
      have e1 := HM1.out; have e2 := HM2.out
      rcases edge_cases m1 x y z with ⟨h1, hf⟩ | ⟨h1, h2, hf⟩ | ⟨h1, h2, h3, hf⟩ | ⟨h1, h2, h3, h4, hf⟩ | ⟨h1, h2, h3, h4, hf⟩
      · have F := hide hf; have H1 := hide h1; clear hf h1
        go_wp2_with (go_at_call 45; refine (l1In_c).mono ?_; rintro e w' ⟨rfl, rfl⟩; first | rw [H1.out])
        go_ret
        exact ⟨by rw [Hno.out F.out]; rfl, hbel.alloc hbel.size _⟩
      · have F := hide hf; have H1 := hide h1; have H2 := hide h2; clear hf h1 h2
        go_wp2_with (go_at_call 45; refine (l1In_c).mono ?_; rintro e w' ⟨rfl, rfl⟩; first | rw [H1.out] | rw [H2.out])
        go_ret
        exact ⟨by rw [Hno.out F.out]; rfl, hbel.alloc hbel.size _⟩
      · have F := hide hf; have H1 := hide h1; have H2 := hide h2; clear hf h1 h2
        go_wp2_with (go_at_call 45; refine (l1In_c).mono ?_; rintro e w' ⟨rfl, rfl⟩; first | rw [H1.out] | rw [H2.out])
        go_ret
        exact ⟨by rw [Hno.out F.out]; rfl, hbel.alloc hbel.size _⟩
      · have F := hide hf; have H1 := hide h1; have H2 := hide h2; have H4 := hide h4; clear hf h1 h2 h4
        go_wp2_with (go_at_call 45; refine (l1In_c).mono ?_; rintro e w' ⟨rfl, rfl⟩; first | rw [H1.out] | rw [H2.out] | rw [H4.out])
        go_ret
        exact ⟨by rw [Hno.out F.out]; rfl, hbel.alloc hbel.size _⟩
      · have F := hide hf; have H1 := hide h1; have H2 := hide h2; have H4 := hide h4; clear hf h1 h2 h4
        go_wp2_with (go_at_call 45; refine (l1In_c).mono ?_; rintro e w' ⟨rfl, rfl⟩; first | rw [H1.out] | rw [H2.out] | rw [H4.out])
        go_roundw
        case rel => exact ⟨k + 1, by omega, by go_num, all_snoc3 Hall.out Hx.out F.out, hbel.alloc hbel.size _⟩
        case measure => simp [intOf]; omega
    · obtain rfl : k = n := by omega
      have hf : edgesB many ts = (ok && decide (k ≤ 144)) := by
        have h1 := Hall.out
        rw [List.take_of_length_le (by rw [hl.out]; omega)] at h1
        unfold edgesB
        rw [← Hok.out, hl.out]
        cases hk : ok with
        | false => simp
        | true => rw [Hm.out hk] at h1; rw [h1]; simp
      have F := hide hf; clear hf
      cases hk : ok
      · have K := hide hk; clear hk
        go_wp2_with (go_at_call 45; refine (l1In_c).mono ?_; rintro e w' ⟨rfl, rfl⟩; rw [← Hok.out, K.out])
        go_ret
        exact ⟨by rw [F.out, K.out]; rfl, hbel⟩
      · have K := hide hk; clear hk
        have hd : decide ((k : Int) ≤ 144) = decide (k ≤ 144) := by rw [decide_eq_decide]; omega
        have D := hide hd; clear hd
        go_wp2_with (go_at_call 45; refine (l1In_c).mono ?_; rintro e w' ⟨rfl, rfl⟩; rw [← Hok.out, K.out])
        go_ret
        exact ⟨by rw [F.out, K.out, ← D.out]; rfl, hbel⟩
end Go.Proofs.YtcfkemchekmjbaaGreatDoor
