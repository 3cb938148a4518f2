/- NetBack answers true for every network and call: the ways that end early, and the cases joined. Condition: what came in may be read. -/
import Derived.Test.YtghhhpcdakdjjaaNetBanone1
import Derived.Test.YtghhhpcdakdjjaaNetBanone2
import Derived.Test.YtghhhpcdakdjjaaNetBaok
import Derived.Test.YtghhhpcdakdjjaaNetBbnone1
import Derived.Test.YtghhhpcdakdjjaaNetBbnone2
import Derived.Test.YtghhhpcdakdjjaaNetBblimit
import Derived.Test.YtghhhpcdakdjjaaNetBcnone1
import Derived.Test.YtghhhpcdakdjjaaNetBcnone2
import Derived.Test.YtghhhpcdakdjjaaNetBcok
import Derived.Test.YtghhhpcdakdjjaaNetArgs
import Derived.RegionTactic
import Derived.BigRegion
import Derived.Deep.QuietTactic
import Derived.BigQuiet
import Derived.Deep.RegionHeld3
namespace Go.Proofs.Ytghhhpcdakdjjaa.GNet
open Go.RowKit Go.Proofs.Ytghhhpcdakdjjaa.Mem Go.Proofs.YtghhhpcdakdjjaaW.PrintWords Go.Proofs.YtghhhpcdakdjjaaW.PrintLast Go.Proofs.YtghhhpcdakdjjaaW.PrintMore
attribute [local go_sem high] eqA41 eqA48

set_option maxHeartbeats 2000000 in
set_option maxRecDepth 100000 in
theorem back_early (A0 : Option Addr) (n c0 : Nat) (kind : Int) (f t : S41) (body : ByteArray) (i size : Int) (w : World)
    (hcase : (600 < (n : Int)) ∨ ((n : Int) ≤ 600 ∧ 70000 < (body.size : Int))) :
    Calls Try.prog 11 #[.agg #[.slice A0 n c0], .agg (actCells kind f t body i size)] w fun e w' => e = .returned (.bool true) ∧ Below w.heap.size w w' := by
  unfold actCells
  go_enter Try.func11, Try.ntmps11
  go_wp2_with fail
  refine (awake_calls _).mono ?_
  rintro e w1 ⟨rfl, h1⟩
  have K1 := Lib.hid ((((Kept.nil w).new #[.slice A0 n c0] 39).newAt (actCells kind f t body i size) 43 (n := w.heap.size + 1) (by simp)).below h1)
  have B1 := Lib.hid (below_step (below_alloc (below_alloc (Below.refl _ _) _) _) h1)
  clear h1
  have q0 : w1.cell? ⟨w.heap.size, 0, none⟩ = some (.slice A0 n c0) := K1.out.cell (List.mem_cons_of_mem _ (List.mem_cons_self ..)) 0 _ rfl
  have q1 : w1.cell? ⟨w.heap.size + 1, 7, none⟩ = some (.string body) := K1.out.cell (List.mem_cons_self ..) 7 _ rfl
  rcases hcase with d1 | ⟨d1, d2⟩
  · go_wp2
    go_ret
    exact ⟨rfl, B1.out⟩
  · go_wp2
    go_ret
    exact ⟨rfl, B1.out⟩

theorem back_true (A0 : Option Addr) (c0 : Nat) (l : List S48) (i size : Int) (kind : Int) (fb tb : Bool) (f1 f2 t1 t2 : Int) (body : ByteArray) (w : World) (hr0 : Kd.C k48 w A0 l.length l) (hc0 : l.length ≤ c0) :
    Calls Try.prog 11 #[.agg #[.slice A0 l.length c0], .agg #[.int .u8 kind, .bool fb, .int .u64 f1, .int .u64 f2, .bool tb, .int .u64 t1, .int .u64 t2, .string body, .int .i64 i, .int .i64 size]] w fun e w' => e = .returned (.bool true) ∧ Below w.heap.size w w' := by
  by_cases h1 : 600 < (l.length : Int)
  · exact back_early A0 l.length c0 kind ⟨fb, f1, f2⟩ ⟨tb, t1, t2⟩ body i size w (.inl h1)
  by_cases h2 : 70000 < (body.size : Int)
  · exact back_early A0 l.length c0 kind ⟨fb, f1, f2⟩ ⟨tb, t1, t2⟩ body i size w (.inr ⟨by omega, h2⟩)
  by_cases h3 : l.length < 512
  · by_cases h4 : body.size ≤ 65535
    · by_cases h5 : i < 0
      · exact back_anone1 A0 c0 l kind ⟨fb, f1, f2⟩ ⟨tb, t1, t2⟩ body i size w hr0 hc0 h3 h4 h5
      by_cases h6 : (l.length : Int) ≤ i
      · exact back_anone2 A0 c0 l kind ⟨fb, f1, f2⟩ ⟨tb, t1, t2⟩ body i size w hr0 hc0 h3 h4 (by omega) h6
      · exact back_aok A0 c0 l kind ⟨fb, f1, f2⟩ ⟨tb, t1, t2⟩ body i size w hr0 hc0 h3 h4 (by omega) (by omega)
    · by_cases h5 : i < 0
      · exact back_cnone1 A0 c0 l kind ⟨fb, f1, f2⟩ ⟨tb, t1, t2⟩ body i size w hr0 hc0 h3 (by omega) (by omega) h5
      by_cases h6 : (l.length : Int) ≤ i
      · exact back_cnone2 A0 c0 l kind ⟨fb, f1, f2⟩ ⟨tb, t1, t2⟩ body i size w hr0 hc0 h3 (by omega) (by omega) (by omega) h6
      · exact back_cok A0 c0 l kind ⟨fb, f1, f2⟩ ⟨tb, t1, t2⟩ body i size w hr0 hc0 h3 (by omega) (by omega) (by omega) (by omega)
  · by_cases h5 : i < 0
    · exact back_bnone1 A0 c0 l kind ⟨fb, f1, f2⟩ ⟨tb, t1, t2⟩ body i size w hr0 hc0 (by omega) (by omega) (by omega) h5
    by_cases h6 : (l.length : Int) ≤ i
    · exact back_bnone2 A0 c0 l kind ⟨fb, f1, f2⟩ ⟨tb, t1, t2⟩ body i size w hr0 hc0 (by omega) (by omega) (by omega) (by omega) h6
    · exact back_blimit A0 c0 l kind ⟨fb, f1, f2⟩ ⟨tb, t1, t2⟩ body i size w hr0 hc0 (by omega) (by omega) (by omega) (by omega) (by omega)
end Go.Proofs.Ytghhhpcdakdjjaa.GNet
