/- Three variables of the library, out of the world's shape; strconv.Atoi; the wrap of a row that keeps the world's shape. -/
import Derived.Test.YtefopnkicllpeaaDoorSpE
import Derived.Test.YtefopnkicllpeaaDoorShelfR
import Derived.Shelf.Vars
import Derived.LaidLaws
import Derived.LaidSub
import Derived.MakeChecks
import Derived.SizedLaws
import Derived.ChangeArms
namespace Go.Proofs.YtefopnkicllpeaaDoor
open Go.RowKit

/-- A variable of an interface's type that the row lists as a value of a named type holds an interface value. -/
theorem laid_iface {P : Program} {W : World} {name nm : String} {d : DataW Unit} {rest : List (String × DataW Unit)} {g : Nat} {t : TypeId} {m : _}
    (hg : P.globalNamed name = some g) (hty : (P.globals[g]?).map (·.type) = some t) (hu : P.underlying t = some (.interface m)) (h : laidMet P ((name, .iface nm d) :: rest) W) : ∃ ev, W.cell? ⟨g, 0, none⟩ = some ev ∧ (ev = .nilIface ∨ ∃ te pe, ev = .iface te pe) := by
  obtain ⟨ps, ⟨g', t', cs, fuel, p, q, hg', ht', hvar, hd, _, _⟩, _⟩ := h
  obtain rfl := Option.some.inj (hg.symm.trans hg')
  obtain rfl := Option.some.inj (hty.symm.trans ht')
  cases fuel with
  | zero => simp [DataW.trod] at hd
  | succ fuel =>
    obtain ⟨u, v, hcs⟩ : ∃ u v, cs.toList = [.iface u v] := by
      revert hd
      generalize cs.toList = l
      intro hd
      cases l with
      | nil => simp [DataW.trod, hu] at hd
      | cons c l => cases l with
        | cons c2 l => simp [DataW.trod, hu] at hd
        | nil =>
          cases c
          case iface u v => exact ⟨u, v, rfl⟩
          all_goals simp [DataW.trod, hu] at hd
    have h0 : cs[0]? = some (.iface u v) := by
      have := congrArg (fun l => l[0]?) hcs
      simpa using this
    exact ⟨_, (World.var?_cell hg hvar 0).trans h0, .inr ⟨_, _, rfl⟩⟩

/-- What the library's variables hold. -/
structure LibV (w : World) : Prop where
  max : ∃ m, w.cell? ⟨2, 0, none⟩ = some (.int .i64 m)
  syn : ∃ ev, w.cell? ⟨3, 0, none⟩ = some ev ∧ (ev = .nilIface ∨ ∃ te pe, ev = .iface te pe)
  rng : ∃ ev, w.cell? ⟨4, 0, none⟩ = some ev ∧ (ev = .nilIface ∨ ∃ te pe, ev = .iface te pe)
theorem LibV.below {w w' : World} (h : LibV w) (hb : Below w.heap.size w w') : LibV w' := by
  obtain ⟨⟨m, h1⟩, ⟨e, h2, h3⟩, ⟨f, h4, h5⟩⟩ := h
  exact ⟨⟨m, (hb.cell (p := ⟨2, 0, none⟩) (Lib.lt_of_cell h1)).trans h1⟩, ⟨e, (hb.cell (p := ⟨3, 0, none⟩) (Lib.lt_of_cell h2)).trans h2, h3⟩, ⟨f, (hb.cell (p := ⟨4, 0, none⟩) (Lib.lt_of_cell h4)).trans h4, h5⟩⟩
theorem libV_of {l : List (String × DataW Unit)} {w : World} {d1 d2 : DataW Unit} {n1 n2 : String} (hs : w.ShapedOpen Tryd.prog) (h : laidMetH Tryd.prog l w) (h1 : (l.all fun x => x.2.handleName?.isNone) = true)
    (h2 : l.filter (fun x => x.1 == "strconv.ErrSyntax") = [("strconv.ErrSyntax", .iface n1 d1)]) (h3 : l.filter (fun x => x.1 == "strconv.ErrRange") = [("strconv.ErrRange", .iface n2 d2)]) : LibV w := by
  rw [MakeChecks.laidMetH_plain _ _ _ h1] at h
  have e2 := laidMet.filter (fun x => x.1 == "strconv.ErrSyntax") h
  rw [h2] at e2
  have e3 := laidMet.filter (fun x => x.1 == "strconv.ErrRange") h
  rw [h3] at e3
  exact ⟨Go.Proofs.cell_of_shapedOpen_int (zero := #[.int .i64 0]) (t := 3) hs (of_decide_eq_true (by kernel_rfl)) (by kernel_rfl) rfl (by kernel_rfl) (by kernel_rfl) Tryd.underlying3,
    laid_iface (t := 71) (by kernel_rfl) (by kernel_rfl) Tryd.underlying71 e2, laid_iface (t := 71) (by kernel_rfl) (by kernel_rfl) Tryd.underlying71 e3⟩
theorem atoi_digit {d : UInt8} (h1 : 48 ≤ d.toNat) (h2 : d.toNat ≤ 57) : Lib.atoiAll [d] = .ok ((d.toNat : Int) - 48) := by
  have h3 : Lib.parseMag [d] = .ok (d.toNat - 48) := by
    unfold Lib.parseMag Lib.parseUint10
    rw [if_neg (by simp), if_pos ⟨h1, h2⟩, if_neg (by omega), if_neg (by omega), Nat.zero_mul, Nat.zero_add]
    rfl
  rw [Lib.atoiAll_plain d [] (by omega) (by omega), h3]
  unfold Lib.signless
  dsimp only
  rw [if_neg (by omega)]
  congr 1
  omega
theorem Atoi_c {l : List UInt8} {W : World} (h : LibV W) (hl : l.length ≤ 1048576) : Calls Tryd.prog 43 #[.string (str l)] W (AtR l W) := by
  have hsz : (str l).size ≤ 1048576 := by rw [str_size]; exact hl
  have hd : (str l).data.toList = l := by simp [str]
  cases hh : Lib.atoiAll l with
  | ok v =>
    refine (Any.strconv_Atoi_ok laysC172 (str l) (by omega) v (by rw [hd]; exact hh) W).mono ?_
    rintro e w' ⟨rfl, hw⟩
    refine ⟨v, .nilIface, true, rfl, ?_, .inl ⟨rfl, rfl⟩, ?_⟩
    · rcases hw with rfl | ⟨t, rfl⟩
      · exact Below.refl _ _
      · exact Lib.bytesWorld_below _ _ _
    · rintro d rfl h1 h2
      rw [atoi_digit h1 h2] at hh
      injection hh with hh
      exact ⟨hh.symm, rfl⟩
  | range =>
    obtain ⟨ev, h1, h2⟩ := h.rng
    refine (Any.strconv_Atoi_range laysC172 (str l) (by omega) (by rw [hd]; exact hh) ev W h1 h2).mono ?_
    rintro e w' ⟨N, rfl, _, _, hb⟩
    refine ⟨_, _, false, rfl, hb, .inr ⟨rfl, _, _, rfl⟩, ?_⟩
    rintro d rfl h1 h2
    rw [atoi_digit h1 h2] at hh
    cases hh
  | _ =>
    obtain ⟨ev, h1, h2⟩ := h.syn
    refine (Any.strconv_Atoi_syntax laysC172 (str l) (by omega) (by rw [hd]; exact hh) ev W h1 h2).mono ?_
    rintro e w' ⟨N, rfl, _, _, hb⟩
    refine ⟨_, _, false, rfl, hb, .inr ⟨rfl, _, _, rfl⟩, ?_⟩
    rintro d rfl h1 h2
    rw [atoi_digit h1 h2] at hh
    cases hh
/-- The wrap of a door row, the world's shape handed on. -/
theorem returns_and_shaped {H : Type} {enc : TypeId × Value → H} {a : Assume} {C : Checked} {os : Os} {f : FuncId} {fn : Func} {s : ChangeSpec} {conds : List PathCond} {apart fresh handsOn again : Bool} {X : World → Array Value → Prop}
    (hX : ∀ (w w' : World) (args : Array Value), w.heap = w'.heap → X w args → X w' args) (own : ownKnob C.prog.godebug = none) (started : os.Started) (noInit : C.prog.inits.idxOf? f = none) (hfn : C.prog.funcs[f]? = some fn)
    (witness : ∃ (w : World) (tape : Tape) (i : Input), w.os = os ∧ (w.forCall tape i).Shaped C.prog ∧ i.vars = [] ∧ Input.okWide C.prog (w.forCall tape i) .any w.heap.size f i ∧
      ((s.pre enc C.prog fn conds apart (w.forCall tape i).memory i.args ∧ X (w.forCall tape i).memory i.args) ∧ sizedMet enc C.prog fn (OpenSpec.ofChange s) apart (w.forCall tape i).memory i.args) ∧ a.holds C.prog (lone (Frame.enter C.prog f i.args .normal) [] (w.forCall tape i)))
    (contract : ∀ (W : World) (base : Nat) (args : Array Value) (ds gs : List (DataW H)) (before : List MemPlace),
      (∀ (j : Nat) t v, fn.params[j]? = some t → args[j]? = some v → Value.okWide C.prog W .any base t v) →
      DataW.Whole enc C.prog fn.params.toList s.vars apart W args.toList ds gs before → X W args → W.ShapedOpen C.prog →
      Calls C.prog f args W fun e W' => ∃ v, e = .returned v ∧ s.post enc C.prog fn apart fresh handsOn again W args v W') :
    ReturnsInHanded a C os f .any (fun w args => (s.pre enc C.prog fn conds apart w args ∧ X w args) ∧ sizedMet enc C.prog fn (OpenSpec.ofChange s) apart w args) (s.post enc C.prog fn apart fresh handsOn again) := by
  refine returnsInHanded_of_calls own started noInit witness fun w tape i _ hsh _ hok hpre _ => ?_
  obtain ⟨_, _, _, fn', hfn', _, _, _, _, hval⟩ := hok
  obtain rfl : fn' = fn := Option.some.inj (hfn'.symm.trans hfn)
  obtain ⟨⟨⟨ds, gs, before, hw, _⟩, hx⟩, _⟩ := hpre
  refine (contract (w.forCall tape i) w.heap.size i.args ds gs before hval (DataW.Whole.of_heap (w' := w.forCall tape i) (by rfl) hw) (hX _ _ _ (by rfl) hx) hsh).mono ?_
  rintro e W' ⟨v, rfl, hp⟩
  exact ChangeSpec.post_blind hp

end Go.Proofs.YtefopnkicllpeaaDoor
