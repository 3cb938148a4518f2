/- From the rows' list to what the evaluator asks of the package's variables. Condition: none. -/
import Derived.Test.YthnmdocmomkekaaGreatDoorLaidW
namespace Go.Proofs.YthnmdocmomkekaaGreatDoor
open Go.Lib Go.Ev
set_option linter.all false
theorem glob_ok {W : World} (h : laidMetH Tryz.prog laidList W) : GlobOk W (fun _ => .free) := by
  refine ⟨fun g o av hg => ?_, fun g n hg => ?_⟩
  · unfold glob at hg
    split at hg
    · split at hg
      · rename_i ho; subst ho; cases hg
        obtain ⟨t, v, hv⟩ := sent4 h
        exact ⟨_, hv, trivial, .ifc _ _, rfl, rfl⟩
      · cases hg
    · split at hg
      · rename_i ho; subst ho; cases hg
        obtain ⟨t, v, hv⟩ := sent5 h
        exact ⟨_, hv, trivial, .ifc _ _, rfl, rfl⟩
      · cases hg
    · split at hg
      · rename_i ho
        cases hg
        have hc := (tab1 h).cell (g := 1) (by kernel_rfl) o ho
        refine ⟨_, hc, trivial, ?_, rfl, rfl⟩
        have e : ([1, 10, 100, 1000, 10000, 100000, 1000000, 10000000, 100000000, 1000000000, 10000000000, 100000000000, 1000000000000, 10000000000000, 100000000000000, 1000000000000000, 10000000000000000, 100000000000000000, 1000000000000000000, 10000000000000000000] : List Int).getD o 0 = 10 ^ o := by
          have : ∀ o : Fin 20, ([1, 10, 100, 1000, 10000, 100000, 1000000, 10000000, 100000000, 1000000000, 10000000000, 100000000000, 1000000000000, 10000000000000, 100000000000000, 1000000000000000, 10000000000000000, 100000000000000000, 1000000000000000000, 10000000000000000000] : List Int).getD o.val 0 = 10 ^ o.val := by decide
          exact this ⟨o, ho⟩
        rw [e]
        exact .int _ _
      · cases hg
    · cases hg
  · unfold globN at hg
    split at hg
    · rename_i e; subst e; cases hg
      obtain ⟨t, fz, hc⟩ := cells1 h
      exact ⟨trivial, _, t, fz, hc, rfl⟩
    · cases hg
end Go.Proofs.YthnmdocmomkekaaGreatDoor
