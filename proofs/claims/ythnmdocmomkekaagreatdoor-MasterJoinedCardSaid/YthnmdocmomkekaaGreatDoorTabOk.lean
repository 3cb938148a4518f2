/- The table holds of the program. Condition: none. -/
import Derived.Test.YthnmdocmomkekaaGreatDoorTab
import Derived.Test.YthnmdocmomkekaaGreatDoorLibM
namespace Go.Proofs
open Go.RowKit Go.Ev
set_option linter.all false
theorem tab_ok (hA : ClonesOk Tryz.prog annC) : TabOk Tryz.prog T where
  fns := fns_ok hA
  given := by
    intro g vs low lv rs low' w φ W cargs he hent
    have he' : (givens g).bind (fun q => q vs low lv) = some (rs, low') := he
    unfold givens at he'
    split at he'
    · exact gAtoi_ok 132 vs low lv rs low' w φ W cargs he' hent
    · exact gItoa_ok 69 vs low lv rs low' w φ W cargs he' hent
    · exact gJoin_ok 107 vs low lv rs low' w φ W cargs he' hent
    · exact gLower_ok 86 vs low lv rs low' w φ W cargs he' hent
    · cases he'
theorem nats_ok : ClonesOk Tryz.prog annC where
  nats g k h := by
    have h' : (if g = 165 then some N2.cntByte else if g = 174 then some N2.idxByte else none) = some k := h
    split at h'
    · rename_i hg
      injection h' with h'
      subst hg h'
      intro s c w
      rw [run_callFunc_extern Tryz.func165 (by kernel_rfl) (by kernel_rfl) (by kernel_rfl) (e := Extern.BytealgCount.count) (by kernel_rfl), Lib.run_countString]
      rfl
    · skip
      split at h'
      · rename_i hg
        injection h' with h'
        subst hg h'
        intro s c w
        rw [run_callFunc_extern Tryz.func174 (by kernel_rfl) (by kernel_rfl) (by kernel_rfl) (e := Extern.BytealgIndexByte.indexByte) (by kernel_rfl), Lib.run_indexByteString]
        rfl
      · cases h'
  clones g e h := by
    have h' : (none : Option Nat) = some e := h
    cases h'
  dels g e h := by
    have h' : (none : Option Nat) = some e := h
    cases h'
end Go.Proofs
