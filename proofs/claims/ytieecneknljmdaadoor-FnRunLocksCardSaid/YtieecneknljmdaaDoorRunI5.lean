/- impl.RunDirty. Printed by mk_rune.py. -/
import Derived.Test.YtieecneknljmdaaDoorRunI3
import Derived.Test.YtieecneknljmdaaDoorRunI4
import Derived.Test.YtieecneknljmdaaDoorPlanI
namespace Go.Proofs.YtieecneknljmdaaDoor
open Go.RowKit

theorem Mach.chg {S : Nat → Prop} {w w' : World} {lo gm n c : Nat} {A : Option Addr} {v : Value} {ts : List Tx} {es : List El} (h : Mach w lo gm A n c v ts es) (hc : Chg S w w') (h1 : ¬ S gm) (h2 : ∀ k, OT.S v es k → ¬ S k) : Mach w' lo gm A n c v ts es :=
  ⟨h.box.chg hc h1, h.own.chg hc h2, h.says, h.lt⟩
set_option maxHeartbeats 1000000 in
theorem history_c {w : World} {lo gm n c : Nat} {A : Option Addr} {v : Value} {ts : List Tx} {es : List El} (M : Mach w lo gm A n c v ts es) (hn : n ≤ 1048575) (hsm : SmallT ts) :
    Calls Tryd.prog 69 #[.pointer (some ⟨gm, 0, none⟩)] w fun e w' => ∃ v' es, e = .returned v' ∧ OV w' w.heap.size v' n es ∧ SaysT es ts ∧ Below w.heap.size w w' := by
  obtain ⟨m0, m1, _, _⟩ := M.box.two
  go_enter Tryd.func69, Tryd.ntmps69
  go_wp2_with fail
  refine (copyHistory_c (M.own.sts M.says) hn hsm).mono ?_
  rintro e w2 ⟨v', es', rfl, D, hs, b2⟩
  go_wp2_with fail
  go_ret
  exact ⟨_, es', rfl, D, hs, b2⟩
theorem Fits.small {ds : Ds} {ts : List Tx} (h : Fits ds ts) (hd : ∀ d ∈ ds, draftB d = true) : SmallT ts := fun t ht => by
  obtain ⟨i, hi, he⟩ := List.mem_iff_getElem.1 ht
  have h1 : ts[i]? = some t := by rw [← he]; exact List.getElem?_eq_getElem hi
  obtain ⟨d, t', h2, h3, _, _, _, h4, _⟩ := h.at_ (n := i) (by rw [← h.1]; exact hi)
  rw [h1] at h3; injection h3 with h3; subst h3
  have := (draftB_parts (hd d (List.mem_of_getElem? h2))).2.1
  omega
/-- A state's values in an array's block. -/
def storeC (st : List Int) : Array Value := (st.map (Value.int .i64)).toArray
theorem storeC_get {st : List Int} {i : Nat} {x : Int} (h : st[i]? = some x) : (storeC st)[i]? = some (.int .i64 x) := by simp [storeC, h]
theorem storeC_set (st : List Int) (i : Nat) (x : Int) : (storeC st).setIfInBounds i (.int .i64 x) = storeC (st.set i x) := by
  unfold storeC; apply Array.ext'; rw [Array.toList_setIfInBounds]; simp [List.map_set]
theorem storeC_zero : storeC [0, 0, 0] = #[.int .i64 0, .int .i64 0, .int .i64 0] := rfl


end Go.Proofs.YtieecneknljmdaaDoor
