/- The arguments of the network's laws, opened: a network is a slice of items, a call is ten cells. Condition: none. -/
import Derived.Test.YtghhhpcdakdjjaaGNetx0
import Derived.Test.YtghhhpcdakdjjaaOpen
namespace Go.Proofs.Ytghhhpcdakdjjaa.GNet
open Go.ChangeShapes Go.WideShapes Go.RowKit Go.Proofs.Ytghhhpcdakdjjaa.Open Go.Proofs.YtghhhpcdakdjjaaW.PrintWords

theorem arr_of (cs : Array Value) (l : List Value) (h : cs.toList = l) : cs = l.toArray := by
  cases cs
  subst h
  rfl
theorem tell41 : Tells Try.prog 41 k41 (fun _ => True) :=
  (Tells.struct (ts := [4, 22, 22]) (g := fun a => ⟨a.1, a.2.1, a.2.2⟩) Try.underlying41 (by kernel_rfl) (by kernel_rfl) (by kernel_rfl) (fun _ => rfl)
    (TellsL.cons (Tells.bool Try.underlying4) (TellsL.cons (Tells.int Try.underlying22) (TellsL.one (Tells.int Try.underlying22))))).imp fun _ _ => trivial
theorem tell48 : Tells Try.prog 48 k48 (fun _ => True) :=
  (Tells.struct (ts := [41, 41, 9]) (g := fun a => ⟨a.1, a.2.1, a.2.2⟩) Try.underlying48 (by kernel_rfl) (by kernel_rfl) (by kernel_rfl) (fun _ => rfl)
    (TellsL.cons tell41 (TellsL.cons tell41 (TellsL.one (Tells.string Try.underlying9))))).imp fun _ _ => trivial
theorem tell39 : Tells Try.prog 39 (Kd.iso (Kd.slice 48 k48) (fun l : List S48 => l)) (fun _ => True) :=
  (Tells.struct (ts := [37]) (g := fun a => a) Try.underlying39 (by kernel_rfl) (by kernel_rfl) (by kernel_rfl) (fun _ => rfl)
    (TellsL.one (Tells.slice Try.underlying37 (by kernel_rfl) tell48))).imp fun _ _ => trivial
/-- A call's cells. -/
def kAct : Kd (Int × S41 × S41 × ByteArray × Int × Int) := Kd.iso (Kd.pair (Kd.int .u8) (Kd.pair k41 (Kd.pair k41 (Kd.pair Kd.string (Kd.pair (Kd.int .i64) (Kd.int .i64)))))) (fun x => x)
theorem tell43 : Tells Try.prog 43 kAct (fun x => (Lit.int .u8 x.1).wf = true ∧ (Lit.int .i64 x.2.2.2.2.1).wf = true ∧ (Lit.int .i64 x.2.2.2.2.2).wf = true) :=
  (Tells.struct (ts := [5, 41, 41, 9, 3, 3]) (g := fun a => a) Try.underlying43 (by kernel_rfl) (by kernel_rfl) (by kernel_rfl) (fun _ => rfl)
    (TellsL.cons (Tells.int Try.underlying5) (TellsL.cons tell41 (TellsL.cons tell41 (TellsL.cons (Tells.string Try.underlying9) (TellsL.cons (Tells.int Try.underlying3) (TellsL.one (Tells.int Try.underlying3)))))))).imp
    fun _ h => ⟨h.1, h.2.2.2.2.1, h.2.2.2.2.2⟩
set_option maxRecDepth 100000 in
theorem open_net {H : Type} {enc : TypeId × Value → H} {w : World} {base b0 : Nat} {spare : Nat → Bool} {held : Bool} {r : Reach} {v : Value} {x : DataW H} {p : List MemPlace}
    (hv : Value.okWide Try.prog w r b0 39 v) (h : DataW.Trod enc Try.prog w base spare held 39 v x p) : ∃ A c l, v = .agg #[.slice A l.length c] ∧ l.length ≤ c ∧ Kd.C k48 w A l.length l := by
  obtain ⟨l, cs, rfl, ⟨A, c, he, hl, hC⟩, _⟩ := open_struct Try.underlying39 hv h tell39
  exact ⟨A, c, l, congrArg Value.agg (arr_of cs _ he), hl, hC⟩
set_option maxRecDepth 100000 in
theorem open_act {H : Type} {enc : TypeId × Value → H} {w : World} {base b0 : Nat} {spare : Nat → Bool} {held : Bool} {r : Reach} {v : Value} {x : DataW H} {p : List MemPlace}
    (hv : Value.okWide Try.prog w r b0 43 v) (h : DataW.Trod enc Try.prog w base spare held 43 v x p) :
    ∃ (kind : Int) (f t : S41) (body : ByteArray) (i size : Int), v = .agg #[.int .u8 kind, .bool f.f0, .int .u64 f.f1, .int .u64 f.f2, .bool t.f0, .int .u64 t.f1, .int .u64 t.f2, .string body, .int .i64 i, .int .i64 size] ∧
      (Lit.int .u8 kind).wf = true ∧ (Lit.int .i64 i).wf = true ∧ (Lit.int .i64 size).wf = true := by
  obtain ⟨⟨kind, f, t, body, i, size⟩, cs, rfl, hK, hk⟩ := open_struct Try.underlying43 hv h tell43
  obtain ⟨c0, _, he, e0, c1, _, rfl, e1, c2, _, rfl, e2, c3, _, rfl, e3, c4, c5, rfl, e4, e5⟩ := hK
  have e1' := k41_open e1
  have e2' := k41_open e2
  subst e0 e1' e2' e3 e4 e5
  exact ⟨kind, f, t, body, i, size, congrArg Value.agg (arr_of cs _ he), hk⟩
end Go.Proofs.Ytghhhpcdakdjjaa.GNet
