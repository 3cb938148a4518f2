/- slices.Clone of this program, at its three types, is what the evaluator takes it for. Condition: none. -/
import Derived.Test.YtjeghkeipoccaaaEvU
import Derived.Test.YtjeghkeipoccaaaProg
import Derived.Lib.SliceRun
import Derived.WalkSpells
import Derived.Lib.Hide
import Derived.Deep.RegionLaw
import Derived.KernelRfl
import Derived.Tactics
namespace Go.Ev
set_option linter.all false
open Go.RowKit Go.Proofs
/-- Of a type whose data are known: them. -/
theorem has55 : (Try.prog.info? 55).isSome = true := by kernel_rfl
noncomputable def inf55 : TypeInfo := (Try.prog.info? 55).get has55
theorem inf55_is : Try.prog.info? 55 = some inf55 := (Option.some_get has55).symm
theorem zero55 : inf55.zero.isSome = true := by kernel_rfl
theorem clone36 : CloneText Try.prog 36 26 55 inf55 (inf55.zero.get zero55) where
  ex := by
    refine ⟨Try.f36, _, _, _, _, _, _, _, _, _, _, _, _, _, _, _, Try.func36, by decide, rfl, rfl, rfl, ⟨rfl, rfl, rfl⟩, ⟨rfl, rfl, rfl⟩, ⟨rfl, rfl, rfl⟩, ⟨rfl, rfl, rfl⟩, ⟨rfl, rfl, rfl⟩, ⟨rfl, rfl, rfl⟩, ⟨rfl, rfl, rfl, rfl⟩, ⟨rfl, rfl, rfl⟩, rfl⟩
  ut := Try.underlying26
  info := inf55_is
  zero := (Option.some_get zero55).symm
  zsz := by kernel_rfl
  pos := of_decide_eq_true (by kernel_rfl)
/-- Of a type whose data are known: them. -/
theorem has29 : (Try.prog.info? 29).isSome = true := by kernel_rfl
noncomputable def inf29 : TypeInfo := (Try.prog.info? 29).get has29
theorem inf29_is : Try.prog.info? 29 = some inf29 := (Option.some_get has29).symm
theorem zero29 : inf29.zero.isSome = true := by kernel_rfl
theorem clone55 : CloneText Try.prog 55 22 29 inf29 (inf29.zero.get zero29) where
  ex := by
    refine ⟨Try.f55, _, _, _, _, _, _, _, _, _, _, _, _, _, _, _, Try.func55, by decide, rfl, rfl, rfl, ⟨rfl, rfl, rfl⟩, ⟨rfl, rfl, rfl⟩, ⟨rfl, rfl, rfl⟩, ⟨rfl, rfl, rfl⟩, ⟨rfl, rfl, rfl⟩, ⟨rfl, rfl, rfl⟩, ⟨rfl, rfl, rfl, rfl⟩, ⟨rfl, rfl, rfl⟩, rfl⟩
  ut := Try.underlying22
  info := inf29_is
  zero := (Option.some_get zero29).symm
  zsz := by kernel_rfl
  pos := of_decide_eq_true (by kernel_rfl)
/-- Of a type whose data are known: them. -/
theorem has9 : (Try.prog.info? 9).isSome = true := by kernel_rfl
noncomputable def inf9 : TypeInfo := (Try.prog.info? 9).get has9
theorem inf9_is : Try.prog.info? 9 = some inf9 := (Option.some_get has9).symm
theorem zero9 : inf9.zero.isSome = true := by kernel_rfl
theorem clone56 : CloneText Try.prog 56 27 9 inf9 (inf9.zero.get zero9) where
  ex := by
    refine ⟨Try.f56, _, _, _, _, _, _, _, _, _, _, _, _, _, _, _, Try.func56, by decide, rfl, rfl, rfl, ⟨rfl, rfl, rfl⟩, ⟨rfl, rfl, rfl⟩, ⟨rfl, rfl, rfl⟩, ⟨rfl, rfl, rfl⟩, ⟨rfl, rfl, rfl⟩, ⟨rfl, rfl, rfl⟩, ⟨rfl, rfl, rfl, rfl⟩, ⟨rfl, rfl, rfl⟩, rfl⟩
  ut := Try.underlying27
  info := inf9_is
  zero := (Option.some_get zero9).symm
  zsz := by kernel_rfl
  pos := of_decide_eq_true (by kernel_rfl)
end Go.Ev
