/- From the evaluator's answer to the call of ApproveCalls. Condition: the arguments' own. -/
import Derived.Test.YtjeghkeipoccaaaApSL
import Derived.Test.YtjeghkeipoccaaaApTie
namespace Go.Ev
set_option linter.all false
open Go.RowKit Go.Proofs Go.ChangeShapes Go.WideShapes
theorem tell32 : Tells Try.prog 32 (fun a => ∃ x : Act, a = x.av ∧ x.ok) :=
  (Tells.struct (ts := [5, 9, 26, 3, 3, 3, 3]) Try.underlying32 (by kernel_rfl) (by kernel_rfl) (by kernel_rfl)
    (TellsL.cons (Tells.int Try.underlying5) (TellsL.cons (Tells.string Try.underlying9) (TellsL.cons (Tells.slice (sz := 17) Try.underlying26 (by kernel_rfl) (by decide) tell55) (TellsL.cons (Tells.int Try.underlying3) (TellsL.cons (Tells.int Try.underlying3) (TellsL.cons (Tells.int Try.underlying3) (TellsL.cons (Tells.int Try.underlying3) TellsL.nil)))))))).imp (by
      rintro a ⟨_, _, rfl, ⟨k, rfl, hk⟩, _, _, rfl, ⟨s, rfl, _⟩, _, _, rfl, ⟨r1, rfl, h1⟩, _, _, rfl, ⟨i, rfl, _⟩, _, _, rfl, ⟨n, rfl, _⟩, _, _, rfl, ⟨u, rfl, _⟩, _, _, rfl, ⟨t, rfl, _⟩, rfl⟩
      obtain ⟨l1, rfl⟩ := rows_of h1
      refine ⟨⟨k, s, l1, i, n, u, t⟩, rfl, ?_⟩
      have := wf_u8 hk
      exact this)
set_option maxRecDepth 100000 in
theorem open_act {H : Type} {enc : TypeId × Value → H} {w : World} {base b0 : Nat} {spare : Nat → Bool} {held : Bool} {r : Reach} {v : Value} {x : DataW H} {p : List MemPlace}
    (hv : Value.okWide Try.prog w r b0 32 v) (h : DataW.Trod enc Try.prog w base spare held 32 v x p) : ∃ a : Act, a.ok ∧ ArgOk w (.agg a.av) v := by
  obtain ⟨a, ⟨x, rfl, hx⟩, ha⟩ := openA Try.underlying32 hv h tell32
  exact ⟨x, hx, ha⟩
theorem calls_true {W : World} {l : List Ask} {a : Act} {v0 v1 : Value} (h0 : ArgOk W (.sl none 7 (l.map Ask.av)) v0) (ha : a.ok) (h1 : ArgOk W (.agg a.av) v1) : Calls Try.prog 4 #[v0, v1] W fun e w' => e = .returned (.bool true) ∧ Below W.heap.size W w' := by
  obtain ⟨m, h⟩ := calls_spec l a ha
  exact law_calls orders tab_ok h rfl (args2 h0 h1)
end Go.Ev
