/- That the program's own trial call answers true; an item's cells, read. Condition: none. -/
import Derived.Test.YtghhhpcdakdjjaaGNetx
import Derived.RegionTactic
import Derived.BigRegion
import Derived.Deep.QuietTactic
import Derived.BigQuiet
namespace Go.Proofs.Ytghhhpcdakdjjaa.GNet
open Go.RowKit Go.Proofs.YtghhhpcdakdjjaaW.PrintWords Go.Proofs.YtghhhpcdakdjjaaW.PrintLast Go.Proofs.YtghhhpcdakdjjaaW.PrintMore
attribute [local go_sem high] eqA41 eqA48

theorem awake_calls (w : World) : Calls Try.prog 24 #[] w fun e w' => e = .returned (.bool true) ∧ Below w.heap.size w w' := by
  refine (ddilaw54_awake.calls true w ?_).mono ?_
  · decide +kernel
  · exact fun e w' h => h

/-- The cells of an item. -/
def It (w : World) (p : Addr) (x : S48) : Prop :=
  w.cell? p = some (.bool x.f0.f0) ∧ w.cell? ⟨p.block, p.off + 1, none⟩ = some (.int .u64 x.f0.f1) ∧ w.cell? ⟨p.block, p.off + 2, none⟩ = some (.int .u64 x.f0.f2) ∧ w.cell? ⟨p.block, p.off + 3, none⟩ = some (.bool x.f1.f0) ∧
  w.cell? ⟨p.block, p.off + 4, none⟩ = some (.int .u64 x.f1.f1) ∧ w.cell? ⟨p.block, p.off + 5, none⟩ = some (.int .u64 x.f1.f2) ∧ w.cell? ⟨p.block, p.off + 6, none⟩ = some (.string x.f2)
theorem It.below {w w' : World} {p : Addr} {x : S48} (h : It w p x) (hb : Below w.heap.size w w') : It w' p x := keep8 hb h
theorem It.lt {w : World} {p : Addr} {x : S48} (h : It w p x) : p.block < w.heap.size := World.block_lt_of_cell? w _ h.1
theorem It.of_C {w : World} {ad : Addr} {l : List S48} (h : Kd.C k48 w (some ad) l.length l) (k : Nat) (hk : k < l.length) : It w (ad.add (k * 7)) (l.getD k z48) := by
  obtain ⟨ad', e, q0, q1, q2, q3, q4, q5, q6⟩ := at_T48 h (k : Int) (by omega) (by omega)
  injection e with e
  subst e
  rw [Int.toNat_natCast] at q0 q1 q2 q3 q4 q5 q6
  exact ⟨q0, q1, q2, q3, q4, q5, q6⟩
theorem It.of_R {w : World} {g c : Nat} {base : Nat} {ok : Nat → Prop} {n : Nat} {l : List S48} (h : Kd.R k48 48 w base ok (.slice (some ⟨g, 0, none⟩) n c) l) (k : Nat) (hk : k < l.length) : It w ⟨g, k * 7, none⟩ (l.getD k z48) := by
  have := (Kd.R_reads' h).2.2
  have h2 := It.of_C this k hk
  rw [add_plain] at h2
  exact h2

end Go.Proofs.Ytghhhpcdakdjjaa.GNet
