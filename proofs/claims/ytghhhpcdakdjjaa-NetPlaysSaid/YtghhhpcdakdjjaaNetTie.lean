/- From the evaluator's answers to the calls of NetCalls and NetPlays. Condition: the arguments' own. -/
import Derived.Test.YtghhhpcdakdjjaaNetS4
import Derived.Test.YtghhhpcdakdjjaaNetDel
namespace Go.Ev
set_option linter.all false
open Go.RowKit Go.Proofs Go.ChangeShapes Go.WideShapes
theorem clones_ok : ClonesOk Try.prog annC where
  clones g e h := by
    have h' : (if g = 42 then some 48 else none) = some e := h
    clear h
    split at h'
    · rename_i hg
      injection h' with h'
      subst hg h'
      exact ⟨inf48, clone_ok clone42, inf48_is, clone42.pos⟩
    · cases h'
  dels g e h := by
    have h' : (if g = 43 then some 48 else none) = some e := h
    clear h
    split at h'
    · rename_i hg
      injection h' with h'
      subst hg h'
      exact ⟨inf48, delete43, inf48_is, clone42.pos⟩
    · cases h'
theorem tab_ok : TabOk Try.prog T where
  fns := fns_ok clones_ok
  given := fun g vs low lv rs low' w φ W cargs h => by cases h
theorem orders : Try.prog.follows .mixedOrders = true := by kernel_rfl
def addrSh (a : List AV) : Prop := ∃ (b : Bool) (x y : Int), a = [.bool b, .int .u64 x, .int .u64 y]
theorem tell41 : Tells Try.prog 41 addrSh :=
  (Tells.struct (ts := [4, 22, 22]) Try.underlying41 (by kernel_rfl) (by kernel_rfl) (by kernel_rfl)
    (TellsL.cons (Tells.bool Try.underlying4) (TellsL.cons (Tells.int Try.underlying22) (TellsL.cons (Tells.int Try.underlying22) TellsL.nil)))).imp (by
      rintro a ⟨_, _, rfl, ⟨b, rfl⟩, _, _, rfl, ⟨x, rfl, _⟩, _, _, rfl, ⟨y, rfl, _⟩, rfl⟩
      exact ⟨b, x, y, rfl⟩)
theorem tell48 : Tells Try.prog 48 (fun a => ∃ x : Item, a = x.av) :=
  (Tells.struct (ts := [41, 41, 9]) Try.underlying48 (by kernel_rfl) (by kernel_rfl) (by kernel_rfl)
    (TellsL.cons tell41 (TellsL.cons tell41 (TellsL.cons (Tells.string Try.underlying9) TellsL.nil)))).imp (by
      rintro a ⟨_, _, rfl, ⟨b, x, y, rfl⟩, _, _, rfl, ⟨b2, x2, y2, rfl⟩, _, _, rfl, ⟨s, rfl, _⟩, rfl⟩
      exact ⟨⟨b, x, y, b2, x2, y2, s⟩, rfl⟩)
theorem tell39 : Tells Try.prog 39 (fun a => ∃ l : List Item, a = [.sl none 7 (l.map Item.av)]) :=
  (Tells.struct (ts := [37]) Try.underlying39 (by kernel_rfl) (by kernel_rfl) (by kernel_rfl)
    (TellsL.cons (Tells.slice (sz := 7) Try.underlying37 (by kernel_rfl) (by decide) tell48) TellsL.nil)).imp (by
      rintro a ⟨_, _, rfl, ⟨rows, rfl, hr⟩, rfl⟩
      obtain ⟨l, rfl⟩ := rows_of hr
      exact ⟨l, rfl⟩)
theorem tell43 : Tells Try.prog 43 (fun a => ∃ x : Act, a = x.av ∧ x.ok) :=
  (Tells.struct (ts := [5, 41, 41, 9, 3, 3]) Try.underlying43 (by kernel_rfl) (by kernel_rfl) (by kernel_rfl)
    (TellsL.cons (Tells.int Try.underlying5) (TellsL.cons tell41 (TellsL.cons tell41 (TellsL.cons (Tells.string Try.underlying9) (TellsL.cons (Tells.int Try.underlying3) (TellsL.cons (Tells.int Try.underlying3) TellsL.nil))))))).imp (by
      rintro a ⟨_, _, rfl, ⟨k, rfl, hk⟩, _, _, rfl, ⟨b, x, y, rfl⟩, _, _, rfl, ⟨b2, x2, y2, rfl⟩, _, _, rfl, ⟨s, rfl, _⟩, _, _, rfl, ⟨i, rfl, _⟩, _, _, rfl, ⟨z, rfl, _⟩, rfl⟩
      refine ⟨⟨k, b, x, y, b2, x2, y2, s, i, z⟩, rfl, ?_⟩
      have := wf_u8 hk
      exact this)
set_option maxRecDepth 100000 in
theorem open_net {H : Type} {enc : TypeId × Value → H} {w : World} {base b0 : Nat} {spare : Nat → Bool} {held : Bool} {r : Reach} {v : Value} {x : DataW H} {p : List MemPlace}
    (hv : Value.okWide Try.prog w r b0 39 v) (h : DataW.Trod enc Try.prog w base spare held 39 v x p) : ∃ l : List Item, ArgOk w (.agg [.sl none 7 (l.map Item.av)]) v := by
  obtain ⟨a, ⟨l, rfl⟩, ha⟩ := openA Try.underlying39 hv h tell39
  exact ⟨l, ha⟩
set_option maxRecDepth 100000 in
theorem open_act {H : Type} {enc : TypeId × Value → H} {w : World} {base b0 : Nat} {spare : Nat → Bool} {held : Bool} {r : Reach} {v : Value} {x : DataW H} {p : List MemPlace}
    (hv : Value.okWide Try.prog w r b0 43 v) (h : DataW.Trod enc Try.prog w base spare held 43 v x p) : ∃ a : Act, a.ok ∧ ArgOk w (.agg a.av) v := by
  obtain ⟨a, ⟨x, rfl, hx⟩, ha⟩ := openA Try.underlying43 hv h tell43
  exact ⟨x, hx, ha⟩
set_option maxRecDepth 100000 in
theorem open_acts {H : Type} {enc : TypeId × Value → H} {w : World} {base b0 : Nat} {spare : Nat → Bool} {held : Bool} {r : Reach} {v : Value} {x : DataW H} {p : List MemPlace}
    (hv : Value.okWide Try.prog w r b0 60 v) (h : DataW.Trod enc Try.prog w base spare held 60 v x p) : ∃ l : List Act, (∀ a ∈ l, a.ok) ∧ ArgOk w (.sl none 10 (l.map Act.av)) v := by
  obtain ⟨rows, hr, ha⟩ := openS (sz := 10) Try.underlying60 (by kernel_rfl) (by decide) hv h tell43
  obtain ⟨l, rfl, hl⟩ := rows_of' hr
  exact ⟨l, hl, ha⟩
theorem calls_true {W : World} {l : List Item} {a : Act} {v0 v1 : Value} (h0 : ArgOk W (.agg [.sl none 7 (l.map Item.av)]) v0) (ha : a.ok) (h1 : ArgOk W (.agg a.av) v1) : Calls Try.prog 13 #[v0, v1] W fun e w' => e = .returned (.bool true) ∧ Below W.heap.size W w' := by
  obtain ⟨m, h⟩ := calls_spec l a ha
  exact law_calls orders tab_ok h rfl (args2 h0 h1)
theorem plays_true {W : World} {acts : List Act} {v0 : Value} (h0 : ArgOk W (.sl none 10 (acts.map Act.av)) v0) (ha : ∀ a ∈ acts, a.ok) : Calls Try.prog 12 #[v0] W fun e w' => e = .returned (.bool true) ∧ Below W.heap.size W w' := by
  obtain ⟨m, h⟩ := plays_spec acts ha
  exact law_calls orders tab_ok h rfl (args1 h0)
end Go.Ev
