/- Blocks of memory that stay: a list of them, kept by whatever is made or written elsewhere. Condition: none. -/
import Derived.Test.YtghhhpcdakdjjaaWWords
import Derived.Lib.Hide
namespace Go.Proofs.Ytghhhpcdakdjjaa.Mem
open Go.RowKit Go.Proofs.YtghhhpcdakdjjaaW.PrintWords

/-- The world holds these blocks: number, cells, element type. -/
def Kept (w : World) (l : List (Nat × Array Value × TypeId)) : Prop := ∀ p ∈ l, w.heap[p.1]? = some (.cells p.2.1 p.2.2 (0, 0))
section
variable {w w' : World} {l : List (Nat × Array Value × TypeId)}
theorem Kept.nil (w : World) : Kept w [] := fun _ h => by cases h
theorem Kept.below (h : Kept w l) (hb : Below w.heap.size w w') : Kept w' l := fun p hp => blk_below (h p hp) hb
theorem Kept.belowB {B : Nat} (h : Kept w l) (hb : Below B w w') (hl : ∀ p ∈ l, p.1 < B) : Kept w' l := fun p hp => (hb.block _ (hl p hp)).trans (h p hp)
theorem Kept.alloc (h : Kept w l) (o : Obj) : Kept (w.alloc o) l := fun p hp => blk_alloc (h p hp) o
theorem Kept.drew (h : Kept w l) : Kept w.drew l := h
theorem Kept.drewN (h : Kept w l) (n : Nat) : Kept (w.drewN n) l := h
theorem Kept.new (h : Kept w l) (c : Array Value) (t : TypeId) : Kept (w.alloc (.cells c t)) ((w.heap.size, c, t) :: l) := by
  intro p hp
  rcases List.mem_cons.1 hp with rfl | hp
  · exact blk_new w _
  · exact blk_alloc (h p hp) _
theorem Kept.newAt {n : Nat} (h : Kept w l) (c : Array Value) (t : TypeId) (hn : n = w.heap.size) : Kept (w.alloc (.cells c t)) ((n, c, t) :: l) := hn ▸ h.new c t
theorem Kept.far (h : Kept w l) (p : Addr) (hp : ∀ q ∈ l, q.1 ≠ p.block) (v : Value) : Kept (w.setCell p v) l := fun q hq => blk_far (h q hq) (hp q hq) v
theorem Kept.set {b : Nat} {c : Array Value} {t : TypeId} (h : Kept w ((b, c, t) :: l)) (hl : ∀ q ∈ l, q.1 ≠ b) (i : Nat) (v : Value) : Kept (w.setCell ⟨b, i, none⟩ v) ((b, c.setIfInBounds i v, t) :: l) := by
  intro p hp
  rcases List.mem_cons.1 hp with rfl | hp
  · exact blk_set (h _ (List.mem_cons_self ..)) i v
  · exact blk_far (h p (List.mem_cons_of_mem _ hp)) (p := ⟨b, i, none⟩) (hl p hp) v
theorem Kept.cons {b : Nat} {c : Array Value} {t : TypeId} (hb : w.heap[b]? = some (.cells c t (0, 0))) (h : Kept w l) : Kept w ((b, c, t) :: l) := by
  intro p hp
  rcases List.mem_cons.1 hp with rfl | hp
  · exact hb
  · exact h p hp
theorem Kept.sub {l' : List (Nat × Array Value × TypeId)} (h : Kept w l) (hs : ∀ p ∈ l', p ∈ l) : Kept w l' := fun p hp => h p (hs p hp)
theorem Kept.at {b : Nat} {c : Array Value} {t : TypeId} (h : Kept w l) (hm : (b, c, t) ∈ l) : w.heap[b]? = some (.cells c t (0, 0)) := h _ hm
theorem Kept.cell {b : Nat} {c : Array Value} {t : TypeId} (h : Kept w l) (hm : (b, c, t) ∈ l) (i : Nat) (v : Value) (hv : c[i]? = some v) : w.cell? ⟨b, i, none⟩ = some v := (blk_cell (h _ hm) i).trans hv
theorem Kept.frozen {b : Nat} {c : Array Value} {t : TypeId} (h : Kept w l) (hm : (b, c, t) ∈ l) (i : Nat) : w.frozen? ⟨b, i, none⟩ = false := blk_frozen (h _ hm) i
theorem Kept.lt {b : Nat} {c : Array Value} {t : TypeId} (h : Kept w l) (hm : (b, c, t) ∈ l) : b < w.heap.size := blk_lt (h _ hm)
end
end Go.Proofs.Ytghhhpcdakdjjaa.Mem
