/- LaidW, LibX, joined. Condition: each part's own. -/
import Derived.Test.YtcnlfelalgaepaaGreatDoorTie
import Derived.Test.YtcnlfelalgaepaaGreatDoorEvT
import Derived.Test.YtcnlfelalgaepaaGreatDoorCards
import Derived.Deep.DeepHandedRow
import Derived.Deep.DeepWitnessRowRef
import Derived.Lib.LaidIn
import Derived.Lib.LaidTab
import Derived.Lib.LaidU8
import Derived.Stop.LaidErr
import Derived.ProofKit
import Derived.Shelf.Vars
/- A world that holds what the rows list; what the list gives of the package's variables. Condition: none. -/
namespace Go.Proofs.YtcnlfelalgaepaaGreatDoor
open Go.ChangeShapes Go.WideShapes Go.ChangeAt Go.RowKit Go.Lib Go.Ev
set_option linter.all false
noncomputable def laidWorld (os : Os) : World :=
 let N := (World.settled Tryz.prog os).heap.size
 let w0 := World.holding Tryz.prog os ⟨#[.cells #[.string ⟨#[118, 97, 108, 117, 101, 32, 111, 117, 116, 32, 111, 102, 32, 114, 97, 110, 103, 101]⟩] 178, .cells #[.string ⟨#[105, 110, 118, 97, 108, 105, 100, 32, 115, 121, 110, 116, 97, 120]⟩] 178], #[], []⟩
 let put (h : Array Obj) (g : Nat) (cs : Array Value) : Array Obj := h.modify g fun
  | .cells _ t frozen => .cells cs t frozen
  | o => o
 let h0 := w0.heap
 let h1 := put h0 6 #[.int .u8 0, .int .u8 1, .int .u8 28, .int .u8 2, .int .u8 29, .int .u8 14, .int .u8 24, .int .u8 3, .int .u8 30, .int .u8 22, .int .u8 20, .int .u8 15, .int .u8 25, .int .u8 17, .int .u8 4, .int .u8 8, .int .u8 31, .int .u8 27, .int .u8 13, .int .u8 23, .int .u8 21, .int .u8 19, .int .u8 16, .int .u8 7, .int .u8 26, .int .u8 12, .int .u8 18, .int .u8 6, .int .u8 11, .int .u8 5, .int .u8 10, .int .u8 9]
 let h2 := put h1 7 #[.int .u8 0, .int .u8 1, .int .u8 56, .int .u8 2, .int .u8 57, .int .u8 49, .int .u8 28, .int .u8 3, .int .u8 61, .int .u8 58, .int .u8 42, .int .u8 50, .int .u8 38, .int .u8 29, .int .u8 17, .int .u8 4, .int .u8 62, .int .u8 47, .int .u8 59, .int .u8 36, .int .u8 45, .int .u8 43, .int .u8 51, .int .u8 22, .int .u8 53, .int .u8 39, .int .u8 33, .int .u8 30, .int .u8 24, .int .u8 18, .int .u8 12, .int .u8 5, .int .u8 63, .int .u8 55, .int .u8 48, .int .u8 27, .int .u8 60, .int .u8 41, .int .u8 37, .int .u8 16, .int .u8 46, .int .u8 35, .int .u8 44, .int .u8 21, .int .u8 52, .int .u8 32, .int .u8 23, .int .u8 11, .int .u8 54, .int .u8 26, .int .u8 40, .int .u8 15, .int .u8 34, .int .u8 20, .int .u8 31, .int .u8 10, .int .u8 25, .int .u8 14, .int .u8 19, .int .u8 9, .int .u8 13, .int .u8 8, .int .u8 7, .int .u8 6]
 let h3 := put h2 0 #[.int .u64 1, .int .u64 10, .int .u64 100, .int .u64 1000, .int .u64 10000, .int .u64 100000, .int .u64 1000000, .int .u64 10000000, .int .u64 100000000, .int .u64 1000000000, .int .u64 10000000000, .int .u64 100000000000, .int .u64 1000000000000, .int .u64 10000000000000, .int .u64 100000000000000, .int .u64 1000000000000000, .int .u64 10000000000000000, .int .u64 100000000000000000, .int .u64 1000000000000000000, .int .u64 10000000000000000000]
 let h4 := put h3 5 #[.int .u8 128, .int .u8 191, .int .u8 160, .int .u8 191, .int .u8 128, .int .u8 159, .int .u8 144, .int .u8 191, .int .u8 128, .int .u8 143, .int .u8 0, .int .u8 0, .int .u8 0, .int .u8 0, .int .u8 0, .int .u8 0, .int .u8 0, .int .u8 0, .int .u8 0, .int .u8 0, .int .u8 0, .int .u8 0, .int .u8 0, .int .u8 0, .int .u8 0, .int .u8 0, .int .u8 0, .int .u8 0, .int .u8 0, .int .u8 0, .int .u8 0, .int .u8 0]
 let h5 := put h4 3 #[.iface 176 (.pointer (some ⟨N + 0, 0, none⟩))]
 let h6 := put h5 2 #[.iface 176 (.pointer (some ⟨N + 1, 0, none⟩))]
 let h7 := put h6 4 (Lib.firstTab.map fun z => Value.int .u8 z).toArray
 { w0 with heap := h7 }
noncomputable abbrev laidN : Nat := (World.settled Tryz.prog default).heap.size
def laidList : List (String × DataW Unit) := Rows.rtextWordsRow.laid
set_option maxRecDepth 1000000 in
theorem laid_met (os : Os) (args : Array Value) : laidMet Tryz.prog laidList ((laidWorld os).forCall (fun _ _ => 0) ⟨#[], args, []⟩).memory :=
 (LaidIn.of_run [6, 7, 0, 5, 3, 2, 4, laidN + 0, laidN + 1] 8 (by kernel_rfl) (by kernel_rfl) (by kernel_rfl) (by kernel_rfl)).met
theorem starred : "*" ++ "errors.errorString" = "*errors.errorString" := by decide
theorem oneRow (u : TypeId) (h : Tryz.prog.typeName? 3 u = some "*errors.errorString") : u = 176 :=
 typeName_ptr_named (nm := "errors.errorString") (by rw [starred]; kernel_rfl) (by kernel_rfl) (by decide) u (by rw [starred]; exact h)
theorem laid_plain {W : World} (h : laidMetH Tryz.prog laidList W) : laidMet Tryz.prog laidList W := h
theorem var_cells {P : Program} {w : World} {n : String} {g : Nat} {cs : Array Value} (hg : P.globalNamed n = some g) (h : w.var? P n = some cs) : ∃ t fz, w.heap[g]? = some (.cells cs t fz) := by
 simp only [World.var?, hg, Option.bind_some] at h
 split at h <;> simp_all
theorem sent3 {W : World} (h : laidMetH Tryz.prog laidList W) : ∃ t v, W.cell? ⟨3, 0, none⟩ = some (.iface t v) := by
 obtain ⟨a, s, hv, _, _, _⟩ := laid_sentinel (g := 3) (laidMet.tail (laidMet.tail (laidMet.tail (laidMet.tail (laid_plain h))))) (by kernel_rfl) (by kernel_rfl) Tryz.underlying88 oneRow Tryz.underlying176 Tryz.underlying178 rfl rfl Tryz.underlying9 (by kernel_rfl) (by kernel_rfl)
 exact ⟨_, _, by simpa using World.var?_cell (g := 3) (by kernel_rfl) hv 0⟩
theorem sent2 {W : World} (h : laidMetH Tryz.prog laidList W) : ∃ t v, W.cell? ⟨2, 0, none⟩ = some (.iface t v) := by
 obtain ⟨a, s, hv, _, _, _⟩ := laid_sentinel (g := 2) (laidMet.tail (laidMet.tail (laidMet.tail (laidMet.tail (laidMet.tail (laid_plain h)))))) (by kernel_rfl) (by kernel_rfl) Tryz.underlying88 oneRow Tryz.underlying176 Tryz.underlying178 rfl rfl Tryz.underlying9 (by kernel_rfl) (by kernel_rfl)
 exact ⟨_, _, by simpa using World.var?_cell (g := 2) (by kernel_rfl) hv 0⟩
theorem tab7 {W : World} (h : laidMetH Tryz.prog laidList W) : Lib.TabIs Tryz.prog W "math/bits.deBruijn64tab" .u8 [0, 1, 56, 2, 57, 49, 28, 3, 61, 58, 42, 50, 38, 29, 17, 4, 62, 47, 59, 36, 45, 43, 51, 22, 53, 39, 33, 30, 24, 18, 12, 5, 63, 55, 48, 27, 60, 41, 37, 16, 46, 35, 44, 21, 52, 32, 23, 11, 54, 26, 40, 15, 34, 20, 31, 10, 25, 14, 19, 9, 13, 8, 7, 6] :=
 Lib.tabIs_of_head (g := 7) (t := 174) (e := 5) (by kernel_rfl) (by kernel_rfl) Tryz.underlying174 Tryz.underlying5 (by kernel_rfl) (by kernel_rfl) (laidMet.tail (laid_plain h))
theorem cells7 {W : World} (h : laidMetH Tryz.prog laidList W) : ∃ t fz, W.heap[7]? = some (.cells ([0, 1, 56, 2, 57, 49, 28, 3, 61, 58, 42, 50, 38, 29, 17, 4, 62, 47, 59, 36, 45, 43, 51, 22, 53, 39, 33, 30, 24, 18, 12, 5, 63, 55, 48, 27, 60, 41, 37, 16, 46, 35, 44, 21, 52, 32, 23, 11, 54, 26, 40, 15, 34, 20, 31, 10, 25, 14, 19, 9, 13, 8, 7, 6].map fun z => Value.int .u8 z).toArray t fz) := var_cells (by kernel_rfl) (tab7 h)
theorem tab0 {W : World} (h : laidMetH Tryz.prog laidList W) : Lib.TabIs Tryz.prog W "internal/strconv.uint64pow10" .u64 [1, 10, 100, 1000, 10000, 100000, 1000000, 10000000, 100000000, 1000000000, 10000000000, 100000000000, 1000000000000, 10000000000000, 100000000000000, 1000000000000000, 10000000000000000, 100000000000000000, 1000000000000000000, 10000000000000000000] :=
 Lib.tabIs_of_head (g := 0) (t := 146) (e := 22) (by kernel_rfl) (by kernel_rfl) Tryz.underlying146 Tryz.underlying22 (by kernel_rfl) (by kernel_rfl) (laidMet.tail (laidMet.tail (laid_plain h)))
theorem cells0 {W : World} (h : laidMetH Tryz.prog laidList W) : ∃ t fz, W.heap[0]? = some (.cells ([1, 10, 100, 1000, 10000, 100000, 1000000, 10000000, 100000000, 1000000000, 10000000000, 100000000000, 1000000000000, 10000000000000, 100000000000000, 1000000000000000, 10000000000000000, 100000000000000000, 1000000000000000000, 10000000000000000000].map fun z => Value.int .u64 z).toArray t fz) := var_cells (by kernel_rfl) (tab0 h)
end Go.Proofs.YtcnlfelalgaepaaGreatDoor
/- From the rows' list to what the evaluator asks of the package's variables. Condition: none. -/
namespace Go.Proofs.YtcnlfelalgaepaaGreatDoor
open Go.Lib Go.Ev
set_option linter.all false
theorem max_of {W : World} (h : W.ShapedOpen Tryz.prog) : ∃ m, W.cell? ⟨1, 0, none⟩ = some (.int .i64 m) :=
 cell_of_shapedOpen_int (zero := #[.int .i64 0]) (t := 3) h (of_decide_eq_true (by kernel_rfl)) (by kernel_rfl) rfl (by kernel_rfl) (by kernel_rfl) Tryz.underlying3
theorem glob_ok {W : World} (h : laidMetH Tryz.prog laidList W) (hS : W.ShapedOpen Tryz.prog) : GlobOk W (fun _ => .free) := by
 refine ⟨fun g o av hg => ?_, fun g n hg => ?_, fun g hg => ?_⟩
 ·unfold glob at hg
  split at hg
  ·split at hg
   ·rename_i ho; subst ho; cases hg
    obtain ⟨t, v, hv⟩ := sent2 h
    exact ⟨_, hv, trivial, .ifc _ _, rfl, rfl⟩
   ·cases hg
  ·split at hg
   ·rename_i ho; subst ho; cases hg
    obtain ⟨t, v, hv⟩ := sent3 h
    exact ⟨_, hv, trivial, .ifc _ _, rfl, rfl⟩
   ·cases hg
  ·split at hg
   ·rename_i ho
    cases hg
    have hc := (tab0 h).cell (g := 0) (by kernel_rfl) o ho
    refine ⟨_, hc, trivial, ?_, rfl, rfl⟩
    have e : ([1, 10, 100, 1000, 10000, 100000, 1000000, 10000000, 100000000, 1000000000, 10000000000, 100000000000, 1000000000000, 10000000000000, 100000000000000, 1000000000000000, 10000000000000000, 100000000000000000, 1000000000000000000, 10000000000000000000] : List Int).getD o 0 = 10 ^ o := by
     have : ∀ o : Fin 20, ([1, 10, 100, 1000, 10000, 100000, 1000000, 10000000, 100000000, 1000000000, 10000000000, 100000000000, 1000000000000, 10000000000000, 100000000000000, 1000000000000000, 10000000000000000, 100000000000000000, 1000000000000000000, 10000000000000000000] : List Int).getD o.val 0 = 10 ^ o.val := by decide
     exact this ⟨o, ho⟩
    rw [e]
    exact .int _ _
   ·cases hg
  ·obtain ⟨z, hz, hg⟩ := Option.map_eq_some_iff.1 hg
   subst hg
   have ho : o < 64 := (List.getElem?_eq_some_iff.1 hz).1
   have hc := (tab7 h).cell (g := 7) (by kernel_rfl) o ho
   refine ⟨_, hc, trivial, ?_, rfl, rfl⟩
   have e : dB64.getD o 0 = z := by rw [List.getD_eq_getElem?_getD, hz]; rfl
   show VRel _ _ _ _ (Value.int .u8 (dB64.getD o 0))
   rw [e]
   exact .int _ _
  ·cases hg
 ·unfold globN at hg
  split at hg
  ·rename_i e; subst e; cases hg
   obtain ⟨t, fz, hc⟩ := cells0 h
   exact ⟨trivial, _, t, fz, hc, rfl⟩
  ·split at hg
   ·rename_i e; subst e; cases hg
    obtain ⟨t, fz, hc⟩ := cells7 h
    exact ⟨trivial, _, t, fz, hc, rfl⟩
   ·cases hg
 ·have e : g = 1 := eq_of_beq hg
  subst e
  obtain ⟨m, hm⟩ := max_of hS
  exact ⟨m, hm, trivial⟩
end Go.Proofs.YtcnlfelalgaepaaGreatDoor
