/- NetOthers answers true, where the other index is below the message's, in case 3 of the cut. Conditions: the indexes lie in the network, which has at most 600 messages. -/
import Derived.Test.YtghhhpcdakdjjaaNetO0
import Derived.RegionTactic
import Derived.BigRegion
import Derived.Deep.QuietTactic
import Derived.BigQuiet
namespace Go.Proofs.Ytghhhpcdakdjjaa.GNet
open Go.RowKit Go.Proofs.YtghhhpcdakdjjaaW.PrintWords Go.Proofs.YtghhhpcdakdjjaaW.PrintLast Go.Proofs.YtghhhpcdakdjjaaW.PrintMore
attribute [local go_sem high] eqA41 eqA48

set_option maxHeartbeats 2000000 in
set_option maxRecDepth 100000 in
theorem others_lt3 (ad : Addr) (c0 : Nat) (l : List S48) (i o : Nat) (size : Int) (u : ByteArray) (kind : Int) (fb tb : Bool) (f1 f2 t1 t2 : Int) (body : ByteArray) (w : World) (hr0 : Kd.C k48 w (some ad) l.length l) (hc0 : l.length ≤ c0) (hn : l.length ≤ 600) (hi : i < l.length) (ho : o < l.length) (hlt : o < i)
    (x y : S48) (hx : l.getD i z48 = x) (hy : l.getD o z48 = y) (hu : Hid (x.f2.extract 0 (cutTo size x.f2.size).toNat = u))
    (hus : u.size ≤ x.f2.size) (g2 : (!(u.toList == (x.f2.extract 0 u.size).toList)) = false)
    (hcase : (size < 0 ∧ u = ⟨#[]⟩ ∧ decide (0 < x.f2.size) = false)) :
    Calls Try.prog 10 #[.agg #[.slice (some ad) l.length c0], .agg #[.int .u8 kind, .bool fb, .int .u64 f1, .int .u64 f2, .bool tb, .int .u64 t1, .int .u64 t2, .string body, .int .i64 (i : Int), .int .i64 size], .int .i64 (o : Int)] w fun e w' => e = .returned (.bool true) ∧ Below w.heap.size w w' := by
  have hne : o ≠ i := by omega
  have Ix := Lib.hid (It.of_C hr0 i hi)
  have Iy := Lib.hid (It.of_C hr0 o ho)
  rw [hx] at Ix
  rw [hy] at Iy
  have hil : (ad.add (i * 7)).block < w.heap.size := Ix.out.lt
  have hol : (ad.add (o * 7)).block < w.heap.size := Iy.out.lt
  have HC := Lib.hid hr0
  have HX := Lib.hid hx
  have HY := Lib.hid hy
  clear hr0 hx hy
  have d1 : decide ((600 : Int) < (l.length : Int)) = false := decide_eq_false (by omega)
  have d2 : decide ((o : Int) < 0) = false := decide_eq_false (by omega)
  have d3 : decide ((l.length : Int) ≤ (o : Int)) = false := decide_eq_false (by omega)
  have d4 : decide ((i : Int) < 0) = false := decide_eq_false (by omega)
  have d5 : decide ((l.length : Int) ≤ (i : Int)) = false := decide_eq_false (by omega)
  go_enter Try.func10, Try.ntmps10
  go_wp2_with fail
  refine (awake_calls _).mono ?_
  rintro e w1 ⟨rfl, h1⟩
  have y3 : w1.heap[w.heap.size]? = some (.cells #[.slice (some ad) l.length c0] 39 (0, 0)) := blk_below (blk_alloc (at_new _ _ _ rfl) _) h1
  have y4 : w1.heap[w.heap.size + 1]? = some (.cells #[.int .u8 kind, .bool fb, .int .u64 f1, .int .u64 f2, .bool tb, .int .u64 t1, .int .u64 t2, .string body, .int .i64 (i : Int), .int .i64 size] 43 (0, 0)) := blk_below (at_new _ _ _ (by simp)) h1
  have q3 : w1.cell? ⟨w.heap.size, 0, none⟩ = some (.slice (some ad) l.length c0) := (blk_cell y3 0).trans rfl
  have q4 : w1.cell? ⟨w.heap.size + 1, 8, none⟩ = some (.int .i64 (i : Int)) := (blk_cell y4 8).trans rfl
  have q5 : w1.cell? ⟨w.heap.size + 1, 9, none⟩ = some (.int .i64 size) := (blk_cell y4 9).trans rfl
  have B1 := Lib.hid (below_step (below_alloc (below_alloc (Below.refl _ _) _) _) h1)
  have Y3 := Lib.hid y3
  have Y4 := Lib.hid y4
  clear h1 y3 y4
  go_wp2_with fail
  have hf : net_Cut.f l (i : Int) size = some (l.set i ⟨x.f0, x.f1, u⟩, 0) := by
    unfold net_Cut.f
    have e : rd_T48 l (i : Int) = x := HX.out
    rw [if_pos ⟨by omega, by omega⟩, if_pos (by omega), e, hu.out]
    rfl
  refine (net_Cut.calls (some ad) c0 l (i : Int) size _ 0 w1 (Kd.C_below HC.out B1.out) hc0 hf).mono ?_
  rintro e w2 ⟨v, rfl, hR, h2⟩
  have hlen : (l.set i ⟨x.f0, x.f1, u⟩).length = l.length := List.length_set
  obtain ⟨g, cap, rfl, _, hgl, _⟩ := Kd.R_form hR (by rw [hlen]; omega)
  rw [hlen] at hR
  have Ri := Lib.hid (It.of_R hR i (by rw [hlen]; exact hi))
  have Ro := Lib.hid (It.of_R hR o (by rw [hlen]; exact ho))
  rw [show (l.set i ⟨x.f0, x.f1, u⟩).getD i z48 = ⟨x.f0, x.f1, u⟩ from by simp [List.getD_eq_getElem?_getD, hi]] at Ri
  rw [show (l.set i ⟨x.f0, x.f1, u⟩).getD o z48 = y from by rw [← HY.out]; simp [List.getD_eq_getElem?_getD, List.getElem?_set_ne (Ne.symm hne)]] at Ro
  have B2 := Lib.hid (below_step B1.out h2)
  have p3 := pw_cell_below h2 q3
  have p4 := pw_cell_below h2 q4
  have p5 := pw_cell_below h2 q5
  have s3 := World.block_lt_of_cell? w2 _ p3
  have s4 := World.block_lt_of_cell? w2 _ p4
  have H2 := Lib.hid h2
  rw [hlen]
  clear q3 q4 q5 hf hR h2 d1 d2 d3 d4 d5
  obtain ⟨_, _, _, _, _, _, a6⟩ := Ri.out
  obtain ⟨_, _, _, _, _, _, b6⟩ := (Ix.out.below B2.out)
  have l6 : (ad.add (i * 7)).block < w2.heap.size := (Ix.out.below B2.out).lt
  go_wp2_with fail
  have i0 : (0 : Int) ≤ (i : Int) := by omega
  have i1 : (i : Int) < (l.length : Int) := by omega
  have hoi : ((o : Int) == (i : Int)) = false := by rw [beq_eq_false_iff_ne]; omega
  have hoi2 : (o == i) = false := by rw [beq_eq_false_iff_ne]; omega
  go_quiet (fail)
  clear a6 b6 l6
  obtain ⟨e1, rfl, e2⟩ := hcase
  obtain ⟨at_, hat, hat1⟩ : ∃ at_ : Nat, at_ = o ∧ o < i := ⟨o, rfl, hlt⟩
  go_wp2_with fail
  obtain ⟨a0, a1, a2, a3, a4, a5, a6⟩ := Ro.out
  obtain ⟨b0, b1, b2, b3, b4, b5, b6⟩ := (Iy.out.below B2.out)
  have l7 : (ad.add (o * 7)).block < w2.heap.size := (Iy.out.below B2.out).lt
  have o0 : (0 : Int) ≤ (o : Int) := by omega
  have o1 : (o : Int) < (l.length : Int) := by omega
  go_quiet (fail)
  clear a0 a1 a2 a3 a4 a5 a6 b0 b1 b2 b3 b4 b5 b6 l7
  go_wp2_with fail
  have hf3 : net_Take.f l (i : Int) = some (l.eraseIdx i, x.f0.f0, x.f0.f1, x.f0.f2, x.f1.f0, x.f1.f1, x.f1.f2, x.f2, 0) := by
    unfold net_Take.f
    have e : rd_T48 l (i : Int) = x := HX.out
    rw [if_pos ⟨by omega, by omega⟩, if_pos (by omega), e]
    rfl
  refine (net_Take.calls (some ad) c0 l (i : Int) _ _ _ _ _ _ _ _ _ _ (by (with_reducible repeat (first | refine Kd.C_alloc ?_ _ | refine Kd.C_drewN ?_ _ | refine Kd.C_drew ?_)); exact Kd.C_below HC.out B2.out) hc0 hf3).mono ?_
  rintro e w3 ⟨v, rfl, hR3, h3⟩
  have hl3 : (l.eraseIdx i).length = l.length - 1 := List.length_eraseIdx_of_lt hi
  obtain ⟨g', cap', rfl, _, hgl', _⟩ := Kd.R_form hR3 (by rw [hl3]; omega)
  rw [hl3] at hR3
  have hat2 : at_ < l.length - 1 := by omega
  have Rt := Lib.hid (It.of_R hR3 at_ (by rw [hl3]; omega))
  rw [show (l.eraseIdx i).getD at_ z48 = y from by rw [← HY.out]; simp [List.getD_eq_getElem?_getD, List.getElem?_eraseIdx, hat, hat1]] at Rt
  have B3 := Lib.hid (below_step (by (with_reducible repeat (first | exact Below.refl _ _ | apply below_alloc | apply pw_below_drewN | apply below_drew)) : Below w2.heap.size w2 _) h3)
  have r3 := pw_cell_below B3.out p3
  have u3 := World.block_lt_of_cell? w3 _ r3
  have C3 := Lib.hid (below_step B2.out B3.out)
  rw [hl3]
  clear hR3 h3 p3 p4 p5 s3 s4 hf3 hgl
  obtain ⟨a0, a1, a2, a3, a4, a5, a6⟩ := Rt.out
  obtain ⟨b0, b1, b2, b3, b4, b5, b6⟩ := (Iy.out.below C3.out)
  have l7 : (ad.add (o * 7)).block < w3.heap.size := (Iy.out.below C3.out).lt
  have hsub : (((l.length - 1 : Nat)) : Int) = (l.length : Int) - 1 := by omega
  have hsub2 : ((((l.length - 1 : Nat)) : Int) == (l.length : Int) - 1) = true := by rw [beq_iff_eq]; exact hsub
  have hati : (at_ : Int) < ((l.length - 1 : Nat) : Int) := by omega
  clear hsub
  subst hat
  go_wp2_with fail
  go_quiet (fail)
  go_wp2
  go_ret
  refine ⟨rfl, ?_⟩
  (with_reducible repeat (first | exact C3.out | apply below_alloc | apply pw_below_drewN | apply below_drew))

end Go.Proofs.Ytghhhpcdakdjjaa.GNet
