/- NetOthers answers true for every network, call and index: the ways that end early, and the cases of the cut joined. Condition: what came in may be read. -/
import Derived.Test.YtghhhpcdakdjjaaNetOa1
import Derived.Test.YtghhhpcdakdjjaaNetOa2
import Derived.Test.YtghhhpcdakdjjaaNetOa3
import Derived.Test.YtghhhpcdakdjjaaNetOa4
import Derived.Test.YtghhhpcdakdjjaaNetOb1
import Derived.Test.YtghhhpcdakdjjaaNetOb2
import Derived.Test.YtghhhpcdakdjjaaNetOb3
import Derived.Test.YtghhhpcdakdjjaaNetOb4
import Derived.Test.YtghhhpcdakdjjaaNetOc1
import Derived.Test.YtghhhpcdakdjjaaNetOc2
import Derived.Test.YtghhhpcdakdjjaaNetOc3
import Derived.Test.YtghhhpcdakdjjaaNetOc4
import Derived.Test.YtghhhpcdakdjjaaNetArgs
namespace Go.Proofs.Ytghhhpcdakdjjaa.GNet
open Go.RowKit Go.Proofs.YtghhhpcdakdjjaaW.PrintWords Go.Proofs.YtghhhpcdakdjjaaW.PrintLast Go.Proofs.YtghhhpcdakdjjaaW.PrintMore

set_option maxHeartbeats 2000000 in
set_option maxRecDepth 100000 in
theorem others_early (A0 : Option Addr) (n c0 : Nat) (i o size : Int) (kind : Int) (fb tb : Bool) (f1 f2 t1 t2 : Int) (body : ByteArray) (w : World)
    (hcase : (600 < (n : Int)) ∨ ((n : Int) ≤ 600 ∧ o < 0) ∨ ((n : Int) ≤ 600 ∧ 0 ≤ o ∧ (n : Int) ≤ o) ∨ ((n : Int) ≤ 600 ∧ 0 ≤ o ∧ o < (n : Int) ∧ i < 0) ∨ ((n : Int) ≤ 600 ∧ 0 ≤ o ∧ o < (n : Int) ∧ 0 ≤ i ∧ (n : Int) ≤ i)) :
    Calls Try.prog 10 #[.agg #[.slice A0 n c0], .agg #[.int .u8 kind, .bool fb, .int .u64 f1, .int .u64 f2, .bool tb, .int .u64 t1, .int .u64 t2, .string body, .int .i64 i, .int .i64 size], .int .i64 o] w fun e w' => e = .returned (.bool true) ∧ Below w.heap.size w w' := by
  go_enter Try.func10, Try.ntmps10
  go_wp2_with fail
  refine (awake_calls _).mono ?_
  rintro e w1 ⟨rfl, h1⟩
  have y3 : w1.heap[w.heap.size]? = some (.cells #[.slice A0 n c0] 39 (0, 0)) := blk_below (blk_alloc (at_new _ _ _ rfl) _) h1
  have y4 : w1.heap[w.heap.size + 1]? = some (.cells #[.int .u8 kind, .bool fb, .int .u64 f1, .int .u64 f2, .bool tb, .int .u64 t1, .int .u64 t2, .string body, .int .i64 i, .int .i64 size] 43 (0, 0)) := blk_below (at_new _ _ _ (by simp)) h1
  have q3 : w1.cell? ⟨w.heap.size, 0, none⟩ = some (.slice A0 n c0) := (blk_cell y3 0).trans rfl
  have q4 : w1.cell? ⟨w.heap.size + 1, 8, none⟩ = some (.int .i64 i) := (blk_cell y4 8).trans rfl
  have B1 := Lib.hid (below_step (below_alloc (below_alloc (Below.refl _ _) _) _) h1)
  clear h1 y3 y4
  rcases hcase with d1 | ⟨d1, d2⟩ | ⟨d1, d2, d3⟩ | ⟨d1, d2, d3, d4⟩ | ⟨d1, d2, d3, d4, d5⟩
  · go_wp2
    go_ret
    exact ⟨rfl, B1.out⟩
  · go_wp2
    go_ret
    exact ⟨rfl, B1.out⟩
  · go_wp2
    go_ret
    exact ⟨rfl, B1.out⟩
  · go_wp2
    go_ret
    exact ⟨rfl, B1.out⟩
  · go_wp2
    go_ret
    exact ⟨rfl, B1.out⟩

/-- What the cut leaves of a message. -/
theorem cut_cases (b : ByteArray) (size : Int) : ∃ u : ByteArray, b.extract 0 (cutTo size b.size).toNat = u ∧ u.size ≤ b.size ∧ (!(u.toList == (b.extract 0 u.size).toList)) = false ∧
    (((u.size : Int) ≤ size ∧ b.size ≤ u.size) ∨ ((u.size : Int) ≤ size ∧ size ≤ (u.size : Int) ∧ u.size < b.size) ∨ (size < 0 ∧ u = ⟨#[]⟩ ∧ decide (0 < b.size) = false) ∨ (size < 0 ∧ u = ⟨#[]⟩ ∧ decide (0 < b.size) = true)) := by
  have hs : (b.extract 0 (cutTo size b.size).toNat).size = min (cutTo size b.size).toNat b.size := by simp
  have hc : cutTo size b.size = max 0 (min size (b.size : Int)) := by unfold cutTo; split <;> (try split) <;> omega
  have hcl : (cutTo size b.size).toNat ≤ b.size := by omega
  refine ⟨_, rfl, by omega, ?_, ?_⟩
  · rw [hs, Nat.min_eq_left hcl]
    simp
  · by_cases h1 : size < 0
    · have hz : (cutTo size b.size).toNat = 0 := by omega
      have he : b.extract 0 (cutTo size b.size).toNat = ⟨#[]⟩ := by rw [hz]; simp; rfl
      by_cases h2 : 0 < b.size
      · exact .inr (.inr (.inr ⟨h1, he, decide_eq_true h2⟩))
      · exact .inr (.inr (.inl ⟨h1, he, decide_eq_false h2⟩))
    · by_cases h2 : (b.size : Int) ≤ size
      · exact .inl ⟨by omega, by omega⟩
      · exact .inr (.inl ⟨by omega, by omega, by omega⟩)

theorem others_true (A0 : Option Addr) (c0 : Nat) (l : List S48) (i o size : Int) (kind : Int) (fb tb : Bool) (f1 f2 t1 t2 : Int) (body : ByteArray) (w : World) (hr0 : Kd.C k48 w A0 l.length l) (hc0 : l.length ≤ c0) :
    Calls Try.prog 10 #[.agg #[.slice A0 l.length c0], .agg #[.int .u8 kind, .bool fb, .int .u64 f1, .int .u64 f2, .bool tb, .int .u64 t1, .int .u64 t2, .string body, .int .i64 i, .int .i64 size], .int .i64 o] w fun e w' => e = .returned (.bool true) ∧ Below w.heap.size w w' := by
  by_cases h1 : 600 < (l.length : Int)
  · exact others_early A0 l.length c0 i o size kind fb tb f1 f2 t1 t2 body w (.inl h1)
  by_cases h2 : o < 0
  · exact others_early A0 l.length c0 i o size kind fb tb f1 f2 t1 t2 body w (.inr (.inl ⟨by omega, h2⟩))
  by_cases h3 : (l.length : Int) ≤ o
  · exact others_early A0 l.length c0 i o size kind fb tb f1 f2 t1 t2 body w (.inr (.inr (.inl ⟨by omega, by omega, h3⟩)))
  by_cases h4 : i < 0
  · exact others_early A0 l.length c0 i o size kind fb tb f1 f2 t1 t2 body w (.inr (.inr (.inr (.inl ⟨by omega, by omega, by omega, h4⟩))))
  by_cases h5 : (l.length : Int) ≤ i
  · exact others_early A0 l.length c0 i o size kind fb tb f1 f2 t1 t2 body w (.inr (.inr (.inr (.inr ⟨by omega, by omega, by omega, by omega, h5⟩))))
  obtain ⟨i, rfl⟩ := Int.eq_ofNat_of_zero_le (show 0 ≤ i by omega)
  obtain ⟨o, rfl⟩ := Int.eq_ofNat_of_zero_le (show 0 ≤ o by omega)
  have hi : i < l.length := by omega
  have ho : o < l.length := by omega
  obtain ⟨ad, e, _⟩ := hr0.2.2 (by omega)
  subst e
  obtain ⟨u, hu, hus, g2, hc⟩ := cut_cases (l.getD i z48).f2 size
  rcases Nat.lt_trichotomy o i with hlt | rfl | hlt
  · rcases hc with hc | hc | hc | hc
    · exact others_lt1 ad c0 l i o size u kind fb tb f1 f2 t1 t2 body w hr0 hc0 (by omega) hi ho hlt _ _ rfl rfl (Lib.hid hu) hus g2 hc
    · exact others_lt2 ad c0 l i o size u kind fb tb f1 f2 t1 t2 body w hr0 hc0 (by omega) hi ho hlt _ _ rfl rfl (Lib.hid hu) hus g2 hc
    · exact others_lt3 ad c0 l i o size u kind fb tb f1 f2 t1 t2 body w hr0 hc0 (by omega) hi ho hlt _ _ rfl rfl (Lib.hid hu) hus g2 hc
    · exact others_lt4 ad c0 l i o size u kind fb tb f1 f2 t1 t2 body w hr0 hc0 (by omega) hi ho hlt _ _ rfl rfl (Lib.hid hu) hus g2 hc
  · rcases hc with hc | hc | hc | hc
    · exact others_eq1 ad c0 l o size u kind fb tb f1 f2 t1 t2 body w hr0 hc0 (by omega) hi _ rfl (Lib.hid hu) hus g2 hc
    · exact others_eq2 ad c0 l o size u kind fb tb f1 f2 t1 t2 body w hr0 hc0 (by omega) hi _ rfl (Lib.hid hu) hus g2 hc
    · exact others_eq3 ad c0 l o size u kind fb tb f1 f2 t1 t2 body w hr0 hc0 (by omega) hi _ rfl (Lib.hid hu) hus g2 hc
    · exact others_eq4 ad c0 l o size u kind fb tb f1 f2 t1 t2 body w hr0 hc0 (by omega) hi _ rfl (Lib.hid hu) hus g2 hc
  · rcases hc with hc | hc | hc | hc
    · exact others_gt1 ad c0 l i o size u kind fb tb f1 f2 t1 t2 body w hr0 hc0 (by omega) hi ho hlt _ _ rfl rfl (Lib.hid hu) hus g2 hc
    · exact others_gt2 ad c0 l i o size u kind fb tb f1 f2 t1 t2 body w hr0 hc0 (by omega) hi ho hlt _ _ rfl rfl (Lib.hid hu) hus g2 hc
    · exact others_gt3 ad c0 l i o size u kind fb tb f1 f2 t1 t2 body w hr0 hc0 (by omega) hi ho hlt _ _ rfl rfl (Lib.hid hu) hus g2 hc
    · exact others_gt4 ad c0 l i o size u kind fb tb f1 f2 t1 t2 body w hr0 hc0 (by omega) hi ho hlt _ _ rfl rfl (Lib.hid hu) hus g2 hc
end Go.Proofs.Ytghhhpcdakdjjaa.GNet
