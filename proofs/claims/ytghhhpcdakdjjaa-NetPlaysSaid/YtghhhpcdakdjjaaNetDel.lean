/- slices.Clone and slices.Delete of this program are what the evaluator takes them for. Condition: none. -/
import Derived.Test.YtghhhpcdakdjjaaEvU
import Derived.Test.YtghhhpcdakdjjaaProg
import Derived.Lib.SliceRun
import Derived.WalkSpells
import Derived.Lib.Hide
import Derived.Deep.RegionLaw
import Derived.KernelRfl
import Derived.Tactics
namespace Go.Ev
set_option linter.all false
open Go.RowKit Go.Proofs
/-- Of a type whose data are known: them. -/
theorem has48 : (Try.prog.info? 48).isSome = true := by kernel_rfl
noncomputable def inf48 : TypeInfo := (Try.prog.info? 48).get has48
theorem inf48_is : Try.prog.info? 48 = some inf48 := (Option.some_get has48).symm
theorem zero48 : inf48.zero.isSome = true := by kernel_rfl
theorem size48 : inf48.size = 7 := by kernel_rfl
theorem clone42 : CloneText Try.prog 42 37 48 inf48 (inf48.zero.get zero48) where
  ex := by
    refine ⟨Try.f42, _, _, _, _, _, _, _, _, _, _, _, _, _, _, _, Try.func42, by decide, rfl, rfl, rfl, ⟨rfl, rfl, rfl⟩, ⟨rfl, rfl, rfl⟩, ⟨rfl, rfl, rfl⟩, ⟨rfl, rfl, rfl⟩, ⟨rfl, rfl, rfl⟩, ⟨rfl, rfl, rfl⟩, ⟨rfl, rfl, rfl, rfl⟩, ⟨rfl, rfl, rfl⟩, rfl⟩
  ut := Try.underlying37
  info := inf48_is
  zero := (Option.some_get zero48).symm
  zsz := by kernel_rfl
  pos := of_decide_eq_true (by kernel_rfl)
/-- The zeros that clear stores. -/
def zeros48 : List Value := [.bool false, .int .u64 0, .int .u64 0, .bool false, .int .u64 0, .int .u64 0, .string ⟨#[]⟩]
theorem clear_run (g n c X : Nat) (w : World) {te : TypeId} {arr : Array Value} (hh : w.heap[g]? = some (.cells arr te (0, 0))) (hs : arr.size = c * 7) (hc : n + 1 ≤ c) :
    (Builtin.clear_ #[37] 0 #[.slice (some ⟨g, n * 7, none⟩) 1 X]).run Try.prog w = .ok (.tuple #[]) (w.setCells g (n * 7) zeros48) := by
  have hz : (zeroValue 48).run Try.prog w = .ok (.agg #[.bool false, .int .u64 0, .int .u64 0, .bool false, .int .u64 0, .int .u64 0, .string ⟨#[]⟩]) w := by kernel_rfl
  have hst := run_storeCells_cells (P := Try.prog) g (n * 7) zeros48 0 w (fun j hj => by
      have hj7 : j < 7 := hj
      have : n * 7 + j < arr.size := by omega
      simp [World.cell?, hh, this]) (fun j hj => by simp [World.frozen?, hh]) (by decide)
  have hzc : (Builtin.zeroCells (Value.cells (.agg #[.bool false, .int .u64 0, .int .u64 0, .bool false, .int .u64 0, .int .u64 0, .string ⟨#[]⟩])) 1).toList = zeros48 := by kernel_rfl
  rw [Nat.add_zero] at hst
  simp only [Builtin.clear_]
  simp [run_underlying Try.underlying37, hz, hzc, hst]
/-- What the walk ends with. -/
def DelPost (w : World) (b n cap k : Nat) (arr : Array Value) (t : TypeId) (ex : Ending) (w' : World) : Prop :=
  ex = .returned (.slice (some ⟨b, 0, none⟩) (n - 1) cap) ∧ w.grownBy w' (some b) ∧ ∃ arr', w'.heap[b]? = some (.cells arr' t (0, 0)) ∧ arr'.size = arr.size ∧ ∀ q, q < (n - 1) * 7 → arr'[q]? = if q < k * 7 then arr[q]? else arr[q + 7]?
set_option maxHeartbeats 1000000 in
set_option maxRecDepth 100000 in
theorem delete_walk (w : World) (b n cap k : Nat) (arr : Array Value) (t : TypeId) (hg : Hid (w.heap[b]? = some (.cells arr t (0, 0)))) (hsz : Hid (arr.size = cap * 7)) (hk : k < n) (hn : n ≤ cap) (hc : cap ≤ 9223372036854775807) (hone : Hid (∀ (q : Nat) v, q < n * 7 → arr[q]? = some v → v.oneCell' = true)) :
    Calls Try.prog 43 #[.slice (some ⟨b, 0, none⟩) n cap, .int .i64 (k : Int), .int .i64 ((k : Int) + 1)] w (DelPost w b n cap k arr t) := by
  have hq : ((k : Int) == (k : Int) + 1) = false := by rw [beq_eq_false_iff_ne]; omega
  go_enter Try.func43, Try.ntmps43
  go_wp2_with fail
  have hk0 : (0 : Int) ≤ (k : Int) := by omega
  have hk1 : (k : Int) ≤ (n : Int) := by omega
  have hk2 : (k : Int) + 1 ≤ (n : Int) := by omega
  have hk3 : k ≤ cap := by omega
  have hk4 : k + 1 ≤ n := by omega
  have hk5 : (0 : Int) ≤ (k : Int) + 1 := by omega
  have hA : (if cap = k + 1 then some (⟨b, 0, none⟩ : Addr) else some ⟨b, (k + 1) * 7, none⟩) = if cap = k + 1 then some ⟨b, 0, none⟩ else (some (⟨b, 0, none⟩ : Addr)).map (·.add ((k + 1) * inf48.size)) := by
    rw [Option.map_some, size48, add_lit, Nat.zero_add]
  have HA := Lib.hid hA
  clear hA
  go_region_law ((refine delete_step (by rfl) (.tmp 22) (.tmp 25) 37 48 (by rfl) Try.underlying37 inf48_is (g := b) (n := n) (c := cap) (k := k) (m := n - (k + 1)) (te := t) (arr := arr) (A := if cap = k + 1 then some ⟨b, 0, none⟩ else some ⟨b, (k + 1) * 7, none⟩) (by rfl) (by rfl) HA.out rfl (hg.out) (by rw [size48]; exact hsz.out) hk hn (by rw [size48]; exact hone.out) ?_; intro w1 arr1 h1 h2 h3 h4))
  rw [size48] at h3
  have hcl := fun X => clear_run b (n - 1) cap X w1 h1 (h2.trans hsz.out) (by omega)
  obtain ⟨arr2, g1, g2, g3⟩ := setCells_get zeros48 ((n - 1) * 7) w1 arr1 h1 (by rw [h2, hsz.out]; have : (n - 1 + 1) * 7 ≤ cap * 7 := Nat.mul_le_mul_right _ (by omega); show (n - 1) * 7 + 7 ≤ _; omega)
  obtain ⟨s1, s2, s3, s4⟩ := setCells_rest b zeros48 ((n - 1) * 7) w1
  have e1 : n - (n - 1) = 1 := by omega
  have HP := Lib.hid (show DelPost w b n cap k arr t (.returned (.slice (some ⟨b, 0, none⟩) (n - 1) cap)) (w1.setCells b ((n - 1) * 7) zeros48) from
    ⟨rfl, ⟨s1.trans h4.os, s2.trans h4.tape, s3.trans h4.output, by rw [s4]; exact h4.size, fun q hq1 hq2 => (heap_setFar zeros48 _ q (fun e => hq2 (by rw [e]))).trans (h4.block q hq1 hq2)⟩, arr2, g1, g2.trans h2, fun q hq1 => by rw [g3 q, if_neg (by omega)]; exact h3 q hq1⟩)
  have hn1 : (((n - 1 : Nat)) : Int) ≤ (n : Int) := by omega
  have hn2 : n - 1 ≤ cap := by omega
  have hn3 : ¬ cap = n - 1 := by omega
  clear h1 h2 h3 h4 g1 g2 g3 s1 s2 s3 s4
  go_wp2
  all_goals
    go_ret
    first | exact HP.out | exact (show cap = k + 1 by assumption) ▸ HP.out
theorem delete43 : DeleteOk Try.prog 43 inf48 := by
  refine ⟨⟨Try.f43, Try.func43, rfl, by kernel_rfl⟩, fun w b n cap k arr t hg hsz hk hn hc hone => ?_⟩
  rw [size48] at hsz hone
  refine (delete_walk w b n cap k arr t (Lib.hid hg) (Lib.hid hsz) hk hn hc (Lib.hid hone)).mono fun ex w' hp => ?_
  rw [size48]
  exact hp
end Go.Ev
