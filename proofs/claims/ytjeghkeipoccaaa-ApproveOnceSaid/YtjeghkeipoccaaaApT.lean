/- ApDel, ApTie, ApTie2, ApTie3, joined. Condition: each part's own. -/
import Derived.Test.YtjeghkeipoccaaaEvU
import Derived.Test.YtjeghkeipoccaaaProg
import Derived.Lib.SliceRun
import Derived.WalkSpells
import Derived.Lib.Hide
import Derived.Deep.RegionLaw
import Derived.KernelRfl
import Derived.Tactics
import Derived.Test.YtjeghkeipoccaaaApA
import Derived.Test.YtjeghkeipoccaaaApC
/- slices.Clone of this program, at its three types, is what the evaluator takes it for. Condition: none. -/
namespace Go.Ev
set_option linter.all false
open Go.RowKit Go.Proofs
/-- Of a type whose data are known: them. -/
theorem has55 : (Try.prog.info? 55).isSome = true := by kernel_rfl
noncomputable def inf55 : TypeInfo := (Try.prog.info? 55).get has55
theorem inf55_is : Try.prog.info? 55 = some inf55 := (Option.some_get has55).symm
theorem zero55 : inf55.zero.isSome = true := by kernel_rfl
theorem clone36 : CloneText Try.prog 36 26 55 inf55 (inf55.zero.get zero55) where
  ex := by
    refine ⟨Try.f36, _, _, _, _, _, _, _, _, _, _, _, _, _, _, _, Try.func36, by decide, rfl, rfl, rfl, ⟨rfl, rfl, rfl⟩, ⟨rfl, rfl, rfl⟩, ⟨rfl, rfl, rfl⟩, ⟨rfl, rfl, rfl⟩, ⟨rfl, rfl, rfl⟩, ⟨rfl, rfl, rfl⟩, ⟨rfl, rfl, rfl, rfl⟩, ⟨rfl, rfl, rfl⟩, rfl⟩
  ut := Try.underlying26
  info := inf55_is
  zero := (Option.some_get zero55).symm
  zsz := by kernel_rfl
  pos := of_decide_eq_true (by kernel_rfl)
/-- Of a type whose data are known: them. -/
theorem has29 : (Try.prog.info? 29).isSome = true := by kernel_rfl
noncomputable def inf29 : TypeInfo := (Try.prog.info? 29).get has29
theorem inf29_is : Try.prog.info? 29 = some inf29 := (Option.some_get has29).symm
theorem zero29 : inf29.zero.isSome = true := by kernel_rfl
theorem clone55 : CloneText Try.prog 55 22 29 inf29 (inf29.zero.get zero29) where
  ex := by
    refine ⟨Try.f55, _, _, _, _, _, _, _, _, _, _, _, _, _, _, _, Try.func55, by decide, rfl, rfl, rfl, ⟨rfl, rfl, rfl⟩, ⟨rfl, rfl, rfl⟩, ⟨rfl, rfl, rfl⟩, ⟨rfl, rfl, rfl⟩, ⟨rfl, rfl, rfl⟩, ⟨rfl, rfl, rfl⟩, ⟨rfl, rfl, rfl, rfl⟩, ⟨rfl, rfl, rfl⟩, rfl⟩
  ut := Try.underlying22
  info := inf29_is
  zero := (Option.some_get zero29).symm
  zsz := by kernel_rfl
  pos := of_decide_eq_true (by kernel_rfl)
/-- Of a type whose data are known: them. -/
theorem has9 : (Try.prog.info? 9).isSome = true := by kernel_rfl
noncomputable def inf9 : TypeInfo := (Try.prog.info? 9).get has9
theorem inf9_is : Try.prog.info? 9 = some inf9 := (Option.some_get has9).symm
theorem zero9 : inf9.zero.isSome = true := by kernel_rfl
theorem clone56 : CloneText Try.prog 56 27 9 inf9 (inf9.zero.get zero9) where
  ex := by
    refine ⟨Try.f56, _, _, _, _, _, _, _, _, _, _, _, _, _, _, _, Try.func56, by decide, rfl, rfl, rfl, ⟨rfl, rfl, rfl⟩, ⟨rfl, rfl, rfl⟩, ⟨rfl, rfl, rfl⟩, ⟨rfl, rfl, rfl⟩, ⟨rfl, rfl, rfl⟩, ⟨rfl, rfl, rfl⟩, ⟨rfl, rfl, rfl, rfl⟩, ⟨rfl, rfl, rfl⟩, rfl⟩
  ut := Try.underlying27
  info := inf9_is
  zero := (Option.some_get zero9).symm
  zsz := by kernel_rfl
  pos := of_decide_eq_true (by kernel_rfl)
end Go.Ev
/- From the evaluator's answer to the call of ApproveChecks. Condition: the arguments' own. -/
namespace Go.Ev
set_option linter.all false
open Go.RowKit Go.Proofs Go.ChangeShapes Go.WideShapes
theorem clones_ok : ClonesOk Try.prog annC where
  clones g e h := by
    have h' : (if g = 36 then some 55 else if g = 55 then some 29 else if g = 56 then some 9 else none) = some e := h
    clear h
    split at h'
    · rename_i hg
      injection h' with h'
      subst hg h'
      exact ⟨inf55, clone_ok clone36, inf55_is, clone36.pos⟩
    · split at h'
      · rename_i hg
        injection h' with h'
        subst hg h'
        exact ⟨inf29, clone_ok clone55, inf29_is, clone55.pos⟩
      · split at h'
        · rename_i hg
          injection h' with h'
          subst hg h'
          exact ⟨inf9, clone_ok clone56, inf9_is, clone56.pos⟩
        · cases h'
  dels g e h := by
    have h' : (none : Option Nat) = some e := h
    cases h'
theorem tab_ok : TabOk Try.prog T where
  fns := fns_ok clones_ok
  given := fun g vs low lv rs low' w φ W cargs h => by cases h
theorem orders : Try.prog.follows .mixedOrders = true := by kernel_rfl
theorem tell47 : Tells Try.prog 47 (fun a => ∃ (b : Bool) (x y : Int), a = [.bool b, .int .u64 x, .int .u64 y]) :=
  (Tells.struct (ts := [4, 45, 45]) Try.underlying47 (by kernel_rfl) (by kernel_rfl) (by kernel_rfl)
    (TellsL.cons (Tells.bool Try.underlying4) (TellsL.cons (Tells.int Try.underlying45) (TellsL.cons (Tells.int Try.underlying45) TellsL.nil)))).imp (by
      rintro a ⟨_, _, rfl, ⟨b, rfl⟩, _, _, rfl, ⟨x, rfl, _⟩, _, _, rfl, ⟨y, rfl, _⟩, rfl⟩
      exact ⟨b, x, y, rfl⟩)
theorem tell49 : Tells Try.prog 49 (fun a => ∃ (b : Bool) (x y n : Int), a = [.bool b, .int .u64 x, .int .u64 y, .int .i64 n]) :=
  (Tells.struct (ts := [47, 3]) Try.underlying49 (by kernel_rfl) (by kernel_rfl) (by kernel_rfl)
    (TellsL.cons tell47 (TellsL.cons (Tells.int Try.underlying3) TellsL.nil))).imp (by
      rintro a ⟨_, _, rfl, ⟨b, x, y, rfl⟩, _, _, rfl, ⟨n, rfl, _⟩, rfl⟩
      exact ⟨b, x, y, n, rfl⟩)
theorem tell51 : Tells Try.prog 51 (fun a => ∃ (b : Bool) (x y n k : Int) (s s2 : ByteArray) (u : Int), a = [.bool b, .int .u64 x, .int .u64 y, .int .i64 n, .int .i64 k, .str s, .str s2, .int .i64 u]) :=
  (Tells.struct (ts := [49, 3, 9, 9, 3]) Try.underlying51 (by kernel_rfl) (by kernel_rfl) (by kernel_rfl)
    (TellsL.cons tell49 (TellsL.cons (Tells.int Try.underlying3) (TellsL.cons (Tells.string Try.underlying9) (TellsL.cons (Tells.string Try.underlying9) (TellsL.cons (Tells.int Try.underlying3) TellsL.nil)))))).imp (by
      rintro a ⟨_, _, rfl, ⟨b, x, y, n, rfl⟩, _, _, rfl, ⟨k, rfl, _⟩, _, _, rfl, ⟨s, rfl, _⟩, _, _, rfl, ⟨s2, rfl, _⟩, _, _, rfl, ⟨u, rfl, _⟩, rfl⟩
      exact ⟨b, x, y, n, k, s, s2, u, rfl⟩)
theorem tell53 : Tells Try.prog 53 (fun a => ∃ (s : ByteArray) (b : Bool) (x y n : Int), a = [.str s, .bool b, .int .u64 x, .int .u64 y, .int .i64 n]) :=
  (Tells.struct (ts := [9, 47, 3]) Try.underlying53 (by kernel_rfl) (by kernel_rfl) (by kernel_rfl)
    (TellsL.cons (Tells.string Try.underlying9) (TellsL.cons tell47 (TellsL.cons (Tells.int Try.underlying3) TellsL.nil)))).imp (by
      rintro a ⟨_, _, rfl, ⟨s, rfl, _⟩, _, _, rfl, ⟨b, x, y, rfl⟩, _, _, rfl, ⟨n, rfl, _⟩, rfl⟩
      exact ⟨s, b, x, y, n, rfl⟩)
theorem tell55 : Tells Try.prog 55 (fun a => ∃ x : Chg, a = x.av) :=
  (Tells.struct (ts := [3, 51, 3, 3, 53, 9]) Try.underlying55 (by kernel_rfl) (by kernel_rfl) (by kernel_rfl)
    (TellsL.cons (Tells.int Try.underlying3) (TellsL.cons tell51 (TellsL.cons (Tells.int Try.underlying3) (TellsL.cons (Tells.int Try.underlying3) (TellsL.cons tell53 (TellsL.cons (Tells.string Try.underlying9) TellsL.nil))))))).imp (by
      rintro a ⟨_, _, rfl, ⟨k1, rfl, _⟩, _, _, rfl, ⟨b, x, y, n, k, s, s2, u, rfl⟩, _, _, rfl, ⟨n3, rfl, _⟩, _, _, rfl, ⟨n4, rfl, _⟩, _, _, rfl, ⟨s3, b2, x2, y2, n5, rfl⟩, _, _, rfl, ⟨s4, rfl, _⟩, rfl⟩
      exact ⟨⟨k1, b, x, y, n, k, s, s2, u, n3, n4, s3, b2, x2, y2, n5, s4⟩, rfl⟩)
theorem tellS : Tells Try.prog 9 (fun a => ∃ s : ByteArray, a = one1 sAv s) :=
  (Tells.string Try.underlying9).imp (by
      rintro a ⟨s, rfl, _⟩
      exact ⟨s, rfl⟩)
theorem tell29 : Tells Try.prog 29 (fun a => ∃ x : Ask, a = x.av) :=
  (Tells.struct (ts := [3, 9, 26, 27, 3, 3, 3]) Try.underlying29 (by kernel_rfl) (by kernel_rfl) (by kernel_rfl)
    (TellsL.cons (Tells.int Try.underlying3) (TellsL.cons (Tells.string Try.underlying9) (TellsL.cons (Tells.slice (sz := 17) Try.underlying26 (by kernel_rfl) (by decide) tell55) (TellsL.cons (Tells.slice (sz := 1) Try.underlying27 (by kernel_rfl) (by decide) tellS) (TellsL.cons (Tells.int Try.underlying3) (TellsL.cons (Tells.int Try.underlying3) (TellsL.cons (Tells.int Try.underlying3) TellsL.nil)))))))).imp (by
      rintro a ⟨_, _, rfl, ⟨id, rfl, _⟩, _, _, rfl, ⟨s, rfl, _⟩, _, _, rfl, ⟨r1, rfl, h1⟩, _, _, rfl, ⟨r2, rfl, h2⟩, _, _, rfl, ⟨n, rfl, _⟩, _, _, rfl, ⟨u, rfl, _⟩, _, _, rfl, ⟨t, rfl, _⟩, rfl⟩
      obtain ⟨l1, rfl⟩ := rows_of h1
      obtain ⟨l2, rfl⟩ := rows_of h2
      exact ⟨⟨id, s, l1, l2, n, u, t⟩, rfl⟩)
set_option maxRecDepth 100000 in
theorem open_asks {H : Type} {enc : TypeId × Value → H} {w : World} {base b0 : Nat} {spare : Nat → Bool} {held : Bool} {r : Reach} {v : Value} {x : DataW H} {p : List MemPlace}
    (hv : Value.okWide Try.prog w r b0 22 v) (h : DataW.Trod enc Try.prog w base spare held 22 v x p) : ∃ l : List Ask, ArgOk w (.sl none 7 (l.map Ask.av)) v := by
  obtain ⟨rows, hr, ha⟩ := openS (sz := 7) Try.underlying22 (by kernel_rfl) (by decide) hv h tell29
  obtain ⟨l, rfl⟩ := rows_of hr
  exact ⟨l, ha⟩
theorem checks_true {W : World} {l : List Ask} {v0 : Value} (h0 : ArgOk W (.sl none 7 (l.map Ask.av)) v0) : Calls Try.prog 3 #[v0] W fun e w' => e = .returned (.bool true) ∧ Below W.heap.size W w' := by
  obtain ⟨m, h⟩ := checks_spec l
  exact law_calls orders tab_ok h rfl (args1 h0)
end Go.Ev
/- From the evaluator's answer to the call of ApproveCalls. Condition: the arguments' own. -/
namespace Go.Ev
set_option linter.all false
open Go.RowKit Go.Proofs Go.ChangeShapes Go.WideShapes
theorem tell32 : Tells Try.prog 32 (fun a => ∃ x : Act, a = x.av ∧ x.ok) :=
  (Tells.struct (ts := [5, 9, 26, 3, 3, 3, 3]) Try.underlying32 (by kernel_rfl) (by kernel_rfl) (by kernel_rfl)
    (TellsL.cons (Tells.int Try.underlying5) (TellsL.cons (Tells.string Try.underlying9) (TellsL.cons (Tells.slice (sz := 17) Try.underlying26 (by kernel_rfl) (by decide) tell55) (TellsL.cons (Tells.int Try.underlying3) (TellsL.cons (Tells.int Try.underlying3) (TellsL.cons (Tells.int Try.underlying3) (TellsL.cons (Tells.int Try.underlying3) TellsL.nil)))))))).imp (by
      rintro a ⟨_, _, rfl, ⟨k, rfl, hk⟩, _, _, rfl, ⟨s, rfl, _⟩, _, _, rfl, ⟨r1, rfl, h1⟩, _, _, rfl, ⟨i, rfl, _⟩, _, _, rfl, ⟨n, rfl, _⟩, _, _, rfl, ⟨u, rfl, _⟩, _, _, rfl, ⟨t, rfl, _⟩, rfl⟩
      obtain ⟨l1, rfl⟩ := rows_of h1
      refine ⟨⟨k, s, l1, i, n, u, t⟩, rfl, ?_⟩
      have := wf_u8 hk
      exact this)
set_option maxRecDepth 100000 in
theorem open_act {H : Type} {enc : TypeId × Value → H} {w : World} {base b0 : Nat} {spare : Nat → Bool} {held : Bool} {r : Reach} {v : Value} {x : DataW H} {p : List MemPlace}
    (hv : Value.okWide Try.prog w r b0 32 v) (h : DataW.Trod enc Try.prog w base spare held 32 v x p) : ∃ a : Act, a.ok ∧ ArgOk w (.agg a.av) v := by
  obtain ⟨a, ⟨x, rfl, hx⟩, ha⟩ := openA Try.underlying32 hv h tell32
  exact ⟨x, hx, ha⟩
theorem calls_true {W : World} {l : List Ask} {a : Act} {v0 v1 : Value} (h0 : ArgOk W (.sl none 7 (l.map Ask.av)) v0) (ha : a.ok) (h1 : ArgOk W (.agg a.av) v1) : Calls Try.prog 4 #[v0, v1] W fun e w' => e = .returned (.bool true) ∧ Below W.heap.size W w' := by
  obtain ⟨m, h⟩ := calls_spec l a ha
  exact law_calls orders tab_ok h rfl (args2 h0 h1)
end Go.Ev
/- From the evaluator's answer to the call of ApprovePlays. Condition: the arguments' own. -/
namespace Go.Ev
set_option linter.all false
open Go.RowKit Go.Proofs Go.ChangeShapes Go.WideShapes
set_option maxRecDepth 100000 in
theorem open_acts {H : Type} {enc : TypeId × Value → H} {w : World} {base b0 : Nat} {spare : Nat → Bool} {held : Bool} {r : Reach} {v : Value} {x : DataW H} {p : List MemPlace}
    (hv : Value.okWide Try.prog w r b0 34 v) (h : DataW.Trod enc Try.prog w base spare held 34 v x p) : ∃ l : List Act, (∀ a ∈ l, a.ok) ∧ ArgOk w (.sl none 7 (l.map Act.av)) v := by
  obtain ⟨rows, hr, ha⟩ := openS (sz := 7) Try.underlying34 (by kernel_rfl) (by decide) hv h tell32
  obtain ⟨l, rfl, hl⟩ := rows_of' hr
  exact ⟨l, hl, ha⟩
theorem plays_true {W : World} {acts : List Act} {v0 : Value} (ha : ∀ a ∈ acts, a.ok) (h0 : ArgOk W (.sl none 7 (acts.map Act.av)) v0) : Calls Try.prog 5 #[v0] W fun e w' => e = .returned (.bool true) ∧ Below W.heap.size W w' := by
  obtain ⟨m, h⟩ := plays_spec acts ha
  exact law_calls orders tab_ok h rfl (args1 h0)
end Go.Ev
