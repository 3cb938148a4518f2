/- NetBack answers true where the message is sent and the index lies past the end. Conditions: at most 600 messages, at most 70000 bytes. -/
import Derived.Test.YtghhhpcdakdjjaaNetB0
import Derived.Test.YtghhhpcdakdjjaaMem
import Derived.RegionTactic
import Derived.BigRegion
import Derived.Deep.QuietTactic
import Derived.BigQuiet
import Derived.Deep.RegionHeld3
namespace Go.Proofs.Ytghhhpcdakdjjaa.GNet
open Go.RowKit Go.Proofs.Ytghhhpcdakdjjaa.Mem Go.Proofs.YtghhhpcdakdjjaaW.PrintWords Go.Proofs.YtghhhpcdakdjjaaW.PrintLast Go.Proofs.YtghhhpcdakdjjaaW.PrintMore
attribute [local go_sem high] eqA41 eqA48

set_option maxHeartbeats 4000000 in
set_option maxRecDepth 100000 in
theorem back_anone2 (A0 : Option Addr) (c0 : Nat) (l : List S48) (kind : Int) (f t : S41) (body : ByteArray) (i size : Int) (w : World) (hr0 : Kd.C k48 w A0 l.length l) (hc0 : l.length ≤ c0) (hn : l.length < 512) (hb : body.size ≤ 65535) (h0 : 0 ≤ i) (h1 : (l.length : Int) ≤ i) :
    Calls Try.prog 11 #[.agg #[.slice A0 l.length c0], .agg (actCells kind f t body i size)] w fun e w' => e = .returned (.bool true) ∧ Below w.heap.size w w' := by
  have HC := Lib.hid hr0
  clear hr0
  have n1 : (l.length : Int) ≤ 600 := by omega
  have n2 : (body.size : Int) ≤ 70000 := by omega
  have HL9 : Hid (l.length < 2199023255552) := Lib.hid (by omega)
  unfold actCells
  go_enter Try.func11, Try.ntmps11
  go_wp2_with fail
  refine (awake_calls _).mono ?_
  rintro e w1 ⟨rfl, h1⟩
  have K1 := Lib.hid ((((Kept.nil w).new #[.slice A0 l.length c0] 39).newAt (actCells kind f t body i size) 43 (n := w.heap.size + 1) (by simp)).below h1)
  have B1 := Lib.hid (below_step (below_alloc (below_alloc (Below.refl _ _) _) _) h1)
  clear h1
  have hi : i < 0 ∨ (l.length : Int) ≤ i := by omega
  have HI := Lib.hid (True.intro)
  have q0 : w1.cell? ⟨w.heap.size, 0, none⟩ = some (.slice A0 l.length c0) := K1.out.cell (List.mem_cons_of_mem _ (List.mem_cons_self ..)) 0 _ rfl
  have q1 : w1.cell? ⟨w.heap.size + 1, 1, none⟩ = some (.bool f.f0) := K1.out.cell (List.mem_cons_self ..) 1 _ rfl
  have q2 : w1.cell? ⟨w.heap.size + 1, 2, none⟩ = some (.int .u64 f.f1) := K1.out.cell (List.mem_cons_self ..) 2 _ rfl
  have q3 : w1.cell? ⟨w.heap.size + 1, 3, none⟩ = some (.int .u64 f.f2) := K1.out.cell (List.mem_cons_self ..) 3 _ rfl
  have q4 : w1.cell? ⟨w.heap.size + 1, 4, none⟩ = some (.bool t.f0) := K1.out.cell (List.mem_cons_self ..) 4 _ rfl
  have q5 : w1.cell? ⟨w.heap.size + 1, 5, none⟩ = some (.int .u64 t.f1) := K1.out.cell (List.mem_cons_self ..) 5 _ rfl
  have q6 : w1.cell? ⟨w.heap.size + 1, 6, none⟩ = some (.int .u64 t.f2) := K1.out.cell (List.mem_cons_self ..) 6 _ rfl
  have q7 : w1.cell? ⟨w.heap.size + 1, 7, none⟩ = some (.string body) := K1.out.cell (List.mem_cons_self ..) 7 _ rfl
  go_wp2_with fail
  refine (net_Send.calls A0 c0 l f.f0 f.f1 f.f2 t.f0 t.f1 t.f2 body _ 0 w1 (Kd.C_below HC.out B1.out) hc0 (send_f l f t body hn hb)).mono ?_
  rintro e w2 ⟨v2, rfl, hR2, h2⟩
  obtain ⟨A2, c2, rfl, hl2, hC2⟩ := Kd.R_reads hR2
  have hlen : (l ++ [⟨f, t, body⟩] : List S48).length = l.length + 1 := by simp
  rw [hlen] at hl2 hC2 ⊢
  have K2 := Lib.hid (K1.out.below h2)
  have B2 := Lib.hid (below_step B1.out h2)
  have C2 := Lib.hid hC2
  have L2 := Lib.hid hl2
  clear q0 q1 q2 q3 q4 q5 q6 q7 hC2 hl2 hR2 h2
  have q0 : w2.cell? ⟨w.heap.size, 0, none⟩ = some (.slice A0 l.length c0) := K2.out.cell (List.mem_cons_of_mem _ (List.mem_cons_self ..)) 0 _ rfl
  have s0 : w.heap.size < w2.heap.size := K2.out.lt (List.mem_cons_of_mem _ (List.mem_cons_self ..))
  go_wp2_with fail
  have ht := net_Take.calls A2 c2 (l ++ [⟨f, t, body⟩]) (l.length : Int) _ _ _ _ _ _ _ _ _ (w2.alloc (.cells #[.slice A2 (l.length + 1) c2] 39)) (by rw [hlen]; exact Kd.C_alloc C2.out _) (by rw [hlen]; exact L2.out) (take_last l f t body (by omega))
  rw [hlen] at ht
  refine ht.mono ?_
  rintro e w3 ⟨v3, rfl, hR3, h3⟩
  clear ht hlen q0 s0
  obtain ⟨A3, c3, rfl, hl3, hC3⟩ := Kd.R_reads hR3
  have K3 := Lib.hid (((K2.out.new #[.slice A2 (l.length + 1) c2] 39)).below h3)
  have B3 := Lib.hid (below_step (below_alloc B2.out _) h3)
  have C3 := Lib.hid hC3
  have L3 := Lib.hid hl3
  clear hC3 hl3 hR3 h3
  have q0 : w3.cell? ⟨w.heap.size + 1, 1, none⟩ = some (.bool f.f0) := K3.out.cell (List.mem_cons_of_mem _ (List.mem_cons_self ..)) 1 _ rfl
  have q1 : w3.cell? ⟨w.heap.size + 1, 2, none⟩ = some (.int .u64 f.f1) := K3.out.cell (List.mem_cons_of_mem _ (List.mem_cons_self ..)) 2 _ rfl
  have q2 : w3.cell? ⟨w.heap.size + 1, 3, none⟩ = some (.int .u64 f.f2) := K3.out.cell (List.mem_cons_of_mem _ (List.mem_cons_self ..)) 3 _ rfl
  have q3 : w3.cell? ⟨w.heap.size + 1, 4, none⟩ = some (.bool t.f0) := K3.out.cell (List.mem_cons_of_mem _ (List.mem_cons_self ..)) 4 _ rfl
  have q4 : w3.cell? ⟨w.heap.size + 1, 5, none⟩ = some (.int .u64 t.f1) := K3.out.cell (List.mem_cons_of_mem _ (List.mem_cons_self ..)) 5 _ rfl
  have q5 : w3.cell? ⟨w.heap.size + 1, 6, none⟩ = some (.int .u64 t.f2) := K3.out.cell (List.mem_cons_of_mem _ (List.mem_cons_self ..)) 6 _ rfl
  have q6 : w3.cell? ⟨w.heap.size + 1, 7, none⟩ = some (.string body) := K3.out.cell (List.mem_cons_of_mem _ (List.mem_cons_self ..)) 7 _ rfl
  have q7 : w3.cell? ⟨w.heap.size, 0, none⟩ = some (.slice A0 l.length c0) := K3.out.cell (List.mem_cons_of_mem _ (List.mem_cons_of_mem _ (List.mem_cons_self ..))) 0 _ rfl
  have s0 : w.heap.size + 1 < w3.heap.size := K3.out.lt (List.mem_cons_of_mem _ (List.mem_cons_self ..))
  have s1 : w.heap.size < w3.heap.size := K3.out.lt (List.mem_cons_of_mem _ (List.mem_cons_of_mem _ (List.mem_cons_self ..)))
  go_wp2_with fail
  obtain ⟨W3, hW3⟩ : ∃ W, W = ((w3.alloc (.cells #[.slice A3 l.length c3] 39)).alloc (.cells #[.bool f.f0, .int .u64 f.f1, .int .u64 f.f2, .bool t.f0, .int .u64 t.f1, .int .u64 t.f2, .string body] 48)) := ⟨_, rfl⟩
  rw [← hW3]
  have KW := Lib.hid (hW3 ▸ ((K3.out.new #[.slice A3 l.length c3] 39).newAt #[.bool f.f0, .int .u64 f.f1, .int .u64 f.f2, .bool t.f0, .int .u64 t.f1, .int .u64 t.f2, .string body] 48 (n := w3.heap.size + 1) (by simp)) : Kept W3 _)
  have BW := Lib.hid (hW3 ▸ below_alloc (below_alloc B3.out _) _ : Below w.heap.size w W3)
  have DW := Lib.hid (hW3 ▸ Kd.C_alloc (Kd.C_alloc C3.out _) _ : Kd.C k48 W3 A3 l.length l)
  clear hW3 q0 q1 q2 q3 q4 q5 q6 q7 s0 s1
  have p0 : W3.cell? ⟨w3.heap.size + 1, 0, none⟩ = some (.bool f.f0) := KW.out.cell (List.mem_cons_self ..) 0 _ rfl
  have p1 : W3.cell? ⟨w3.heap.size + 1, 1, none⟩ = some (.int .u64 f.f1) := KW.out.cell (List.mem_cons_self ..) 1 _ rfl
  have p2 : W3.cell? ⟨w3.heap.size + 1, 2, none⟩ = some (.int .u64 f.f2) := KW.out.cell (List.mem_cons_self ..) 2 _ rfl
  have p3 : W3.cell? ⟨w3.heap.size + 1, 3, none⟩ = some (.bool t.f0) := KW.out.cell (List.mem_cons_self ..) 3 _ rfl
  have p4 : W3.cell? ⟨w3.heap.size + 1, 4, none⟩ = some (.int .u64 t.f1) := KW.out.cell (List.mem_cons_self ..) 4 _ rfl
  have p5 : W3.cell? ⟨w3.heap.size + 1, 5, none⟩ = some (.int .u64 t.f2) := KW.out.cell (List.mem_cons_self ..) 5 _ rfl
  have p6 : W3.cell? ⟨w3.heap.size + 1, 6, none⟩ = some (.string body) := KW.out.cell (List.mem_cons_self ..) 6 _ rfl
  have p7 : W3.cell? ⟨w.heap.size + 1, 1, none⟩ = some (.bool f.f0) := KW.out.cell (List.mem_cons_of_mem _ (List.mem_cons_of_mem _ (List.mem_cons_of_mem _ (List.mem_cons_self ..)))) 1 _ rfl
  have p8 : W3.cell? ⟨w.heap.size + 1, 2, none⟩ = some (.int .u64 f.f1) := KW.out.cell (List.mem_cons_of_mem _ (List.mem_cons_of_mem _ (List.mem_cons_of_mem _ (List.mem_cons_self ..)))) 2 _ rfl
  have p9 : W3.cell? ⟨w.heap.size + 1, 3, none⟩ = some (.int .u64 f.f2) := KW.out.cell (List.mem_cons_of_mem _ (List.mem_cons_of_mem _ (List.mem_cons_of_mem _ (List.mem_cons_self ..)))) 3 _ rfl
  have p10 : W3.cell? ⟨w.heap.size + 1, 4, none⟩ = some (.bool t.f0) := KW.out.cell (List.mem_cons_of_mem _ (List.mem_cons_of_mem _ (List.mem_cons_of_mem _ (List.mem_cons_self ..)))) 4 _ rfl
  have p11 : W3.cell? ⟨w.heap.size + 1, 5, none⟩ = some (.int .u64 t.f1) := KW.out.cell (List.mem_cons_of_mem _ (List.mem_cons_of_mem _ (List.mem_cons_of_mem _ (List.mem_cons_self ..)))) 5 _ rfl
  have p12 : W3.cell? ⟨w.heap.size + 1, 6, none⟩ = some (.int .u64 t.f2) := KW.out.cell (List.mem_cons_of_mem _ (List.mem_cons_of_mem _ (List.mem_cons_of_mem _ (List.mem_cons_self ..)))) 6 _ rfl
  have p13 : W3.cell? ⟨w.heap.size + 1, 7, none⟩ = some (.string body) := KW.out.cell (List.mem_cons_of_mem _ (List.mem_cons_of_mem _ (List.mem_cons_of_mem _ (List.mem_cons_self ..)))) 7 _ rfl
  have p14 : W3.cell? ⟨w3.heap.size, 0, none⟩ = some (.slice A3 l.length c3) := KW.out.cell (List.mem_cons_of_mem _ (List.mem_cons_self ..)) 0 _ rfl
  have p15 : W3.cell? ⟨w.heap.size, 0, none⟩ = some (.slice A0 l.length c0) := KW.out.cell (List.mem_cons_of_mem _ (List.mem_cons_of_mem _ (List.mem_cons_of_mem _ (List.mem_cons_of_mem _ (List.mem_cons_self ..))))) 0 _ rfl
  go_region_held3 (fun w' => w'.cell? ⟨w3.heap.size + 1, 0, none⟩ = some (.bool f.f0) ∧ w'.cell? ⟨w3.heap.size + 1, 1, none⟩ = some (.int .u64 f.f1) ∧ w'.cell? ⟨w3.heap.size + 1, 2, none⟩ = some (.int .u64 f.f2) ∧ w'.cell? ⟨w3.heap.size + 1, 3, none⟩ = some (.bool t.f0) ∧ w'.cell? ⟨w3.heap.size + 1, 4, none⟩ = some (.int .u64 t.f1) ∧ w'.cell? ⟨w3.heap.size + 1, 5, none⟩ = some (.int .u64 t.f2) ∧ w'.cell? ⟨w3.heap.size + 1, 6, none⟩ = some (.string body) ∧ w'.cell? ⟨w.heap.size + 1, 1, none⟩ = some (.bool f.f0) ∧ w'.cell? ⟨w.heap.size + 1, 2, none⟩ = some (.int .u64 f.f1) ∧ w'.cell? ⟨w.heap.size + 1, 3, none⟩ = some (.int .u64 f.f2) ∧ w'.cell? ⟨w.heap.size + 1, 4, none⟩ = some (.bool t.f0) ∧ w'.cell? ⟨w.heap.size + 1, 5, none⟩ = some (.int .u64 t.f1) ∧ w'.cell? ⟨w.heap.size + 1, 6, none⟩ = some (.int .u64 t.f2) ∧ w'.cell? ⟨w.heap.size + 1, 7, none⟩ = some (.string body) ∧ w'.cell? ⟨w3.heap.size, 0, none⟩ = some (.slice A3 l.length c3) ∧ w'.cell? ⟨w.heap.size, 0, none⟩ = some (.slice A0 l.length c0))
    (first | (refine ⟨?_, ?_, ?_, ?_, ?_, ?_, ?_, ?_, ?_, ?_, ?_, ?_, ?_, ?_, ?_, ?_⟩ <;> with_reducible assumption) | go_keep)
    (first
      | (go_at_call 29; refine (model_calls A0 c0 l _ HL9.out (Kd.C_drew (Kd.C_below HC.out BW.out)) hc0).mono ?_; rintro e w4 ⟨vm, rfl, hRm, h4⟩; obtain ⟨Am, cm, rfl, hlm, hCm⟩ := Kd.R_reads hRm; rw [List.length_map] at hlm hCm ⊢; have Kw4 := Lib.hid (KW.out.drew.below h4); have Bw4 := Lib.hid (below_step (below_drew BW.out) h4); have D4 := Lib.hid (Kd.C_below (Kd.C_drew DW.out) h4); have Cm := Lib.hid hCm; have Lm := Lib.hid hlm; clear hRm hCm hlm h4; have u0 : w4.cell? ⟨w3.heap.size + 1, 0, none⟩ = some (.bool f.f0) := Kw4.out.cell (List.mem_cons_self ..) 0 _ rfl; have u1 : w4.cell? ⟨w3.heap.size + 1, 1, none⟩ = some (.int .u64 f.f1) := Kw4.out.cell (List.mem_cons_self ..) 1 _ rfl; have u2 : w4.cell? ⟨w3.heap.size + 1, 2, none⟩ = some (.int .u64 f.f2) := Kw4.out.cell (List.mem_cons_self ..) 2 _ rfl; have u3 : w4.cell? ⟨w3.heap.size + 1, 3, none⟩ = some (.bool t.f0) := Kw4.out.cell (List.mem_cons_self ..) 3 _ rfl; have u4 : w4.cell? ⟨w3.heap.size + 1, 4, none⟩ = some (.int .u64 t.f1) := Kw4.out.cell (List.mem_cons_self ..) 4 _ rfl; have u5 : w4.cell? ⟨w3.heap.size + 1, 5, none⟩ = some (.int .u64 t.f2) := Kw4.out.cell (List.mem_cons_self ..) 5 _ rfl; have u6 : w4.cell? ⟨w3.heap.size + 1, 6, none⟩ = some (.string body) := Kw4.out.cell (List.mem_cons_self ..) 6 _ rfl; have u7 : w4.cell? ⟨w.heap.size + 1, 1, none⟩ = some (.bool f.f0) := Kw4.out.cell (List.mem_cons_of_mem _ (List.mem_cons_of_mem _ (List.mem_cons_of_mem _ (List.mem_cons_self ..)))) 1 _ rfl; have u8 : w4.cell? ⟨w.heap.size + 1, 2, none⟩ = some (.int .u64 f.f1) := Kw4.out.cell (List.mem_cons_of_mem _ (List.mem_cons_of_mem _ (List.mem_cons_of_mem _ (List.mem_cons_self ..)))) 2 _ rfl; have u9 : w4.cell? ⟨w.heap.size + 1, 3, none⟩ = some (.int .u64 f.f2) := Kw4.out.cell (List.mem_cons_of_mem _ (List.mem_cons_of_mem _ (List.mem_cons_of_mem _ (List.mem_cons_self ..)))) 3 _ rfl; have u10 : w4.cell? ⟨w.heap.size + 1, 4, none⟩ = some (.bool t.f0) := Kw4.out.cell (List.mem_cons_of_mem _ (List.mem_cons_of_mem _ (List.mem_cons_of_mem _ (List.mem_cons_self ..)))) 4 _ rfl; have u11 : w4.cell? ⟨w.heap.size + 1, 5, none⟩ = some (.int .u64 t.f1) := Kw4.out.cell (List.mem_cons_of_mem _ (List.mem_cons_of_mem _ (List.mem_cons_of_mem _ (List.mem_cons_self ..)))) 5 _ rfl; have u12 : w4.cell? ⟨w.heap.size + 1, 6, none⟩ = some (.int .u64 t.f2) := Kw4.out.cell (List.mem_cons_of_mem _ (List.mem_cons_of_mem _ (List.mem_cons_of_mem _ (List.mem_cons_self ..)))) 6 _ rfl; have u13 : w4.cell? ⟨w.heap.size + 1, 7, none⟩ = some (.string body) := Kw4.out.cell (List.mem_cons_of_mem _ (List.mem_cons_of_mem _ (List.mem_cons_of_mem _ (List.mem_cons_self ..)))) 7 _ rfl; have u14 : w4.cell? ⟨w3.heap.size, 0, none⟩ = some (.slice A3 l.length c3) := Kw4.out.cell (List.mem_cons_of_mem _ (List.mem_cons_self ..)) 0 _ rfl; have u15 : w4.cell? ⟨w.heap.size, 0, none⟩ = some (.slice A0 l.length c0) := Kw4.out.cell (List.mem_cons_of_mem _ (List.mem_cons_of_mem _ (List.mem_cons_of_mem _ (List.mem_cons_of_mem _ (List.mem_cons_self ..))))) 0 _ rfl)
      | (go_at_call 28; refine (same_calls A3 c3 l Am cm _ HL9.out D4.out L3.out Cm.out Lm.out).mono ?_; rintro e w5 ⟨rfl, h5⟩; have K5 := Lib.hid (Kw4.out.below h5); have B5 := Lib.hid (below_step Bw4.out h5); clear h5; have v0 : w5.cell? ⟨w3.heap.size + 1, 0, none⟩ = some (.bool f.f0) := K5.out.cell (List.mem_cons_self ..) 0 _ rfl; have v1 : w5.cell? ⟨w3.heap.size + 1, 1, none⟩ = some (.int .u64 f.f1) := K5.out.cell (List.mem_cons_self ..) 1 _ rfl; have v2 : w5.cell? ⟨w3.heap.size + 1, 2, none⟩ = some (.int .u64 f.f2) := K5.out.cell (List.mem_cons_self ..) 2 _ rfl; have v3 : w5.cell? ⟨w3.heap.size + 1, 3, none⟩ = some (.bool t.f0) := K5.out.cell (List.mem_cons_self ..) 3 _ rfl; have v4 : w5.cell? ⟨w3.heap.size + 1, 4, none⟩ = some (.int .u64 t.f1) := K5.out.cell (List.mem_cons_self ..) 4 _ rfl; have v5 : w5.cell? ⟨w3.heap.size + 1, 5, none⟩ = some (.int .u64 t.f2) := K5.out.cell (List.mem_cons_self ..) 5 _ rfl; have v6 : w5.cell? ⟨w3.heap.size + 1, 6, none⟩ = some (.string body) := K5.out.cell (List.mem_cons_self ..) 6 _ rfl; have v7 : w5.cell? ⟨w.heap.size + 1, 1, none⟩ = some (.bool f.f0) := K5.out.cell (List.mem_cons_of_mem _ (List.mem_cons_of_mem _ (List.mem_cons_of_mem _ (List.mem_cons_self ..)))) 1 _ rfl; have v8 : w5.cell? ⟨w.heap.size + 1, 2, none⟩ = some (.int .u64 f.f1) := K5.out.cell (List.mem_cons_of_mem _ (List.mem_cons_of_mem _ (List.mem_cons_of_mem _ (List.mem_cons_self ..)))) 2 _ rfl; have v9 : w5.cell? ⟨w.heap.size + 1, 3, none⟩ = some (.int .u64 f.f2) := K5.out.cell (List.mem_cons_of_mem _ (List.mem_cons_of_mem _ (List.mem_cons_of_mem _ (List.mem_cons_self ..)))) 3 _ rfl; have v10 : w5.cell? ⟨w.heap.size + 1, 4, none⟩ = some (.bool t.f0) := K5.out.cell (List.mem_cons_of_mem _ (List.mem_cons_of_mem _ (List.mem_cons_of_mem _ (List.mem_cons_self ..)))) 4 _ rfl; have v11 : w5.cell? ⟨w.heap.size + 1, 5, none⟩ = some (.int .u64 t.f1) := K5.out.cell (List.mem_cons_of_mem _ (List.mem_cons_of_mem _ (List.mem_cons_of_mem _ (List.mem_cons_self ..)))) 5 _ rfl; have v12 : w5.cell? ⟨w.heap.size + 1, 6, none⟩ = some (.int .u64 t.f2) := K5.out.cell (List.mem_cons_of_mem _ (List.mem_cons_of_mem _ (List.mem_cons_of_mem _ (List.mem_cons_self ..)))) 6 _ rfl; have v13 : w5.cell? ⟨w.heap.size + 1, 7, none⟩ = some (.string body) := K5.out.cell (List.mem_cons_of_mem _ (List.mem_cons_of_mem _ (List.mem_cons_of_mem _ (List.mem_cons_self ..)))) 7 _ rfl; have v14 : w5.cell? ⟨w3.heap.size, 0, none⟩ = some (.slice A3 l.length c3) := K5.out.cell (List.mem_cons_of_mem _ (List.mem_cons_self ..)) 0 _ rfl; have v15 : w5.cell? ⟨w.heap.size, 0, none⟩ = some (.slice A0 l.length c0) := K5.out.cell (List.mem_cons_of_mem _ (List.mem_cons_of_mem _ (List.mem_cons_of_mem _ (List.mem_cons_of_mem _ (List.mem_cons_self ..))))) 0 _ rfl))
  clear u0 u1 u2 u3 u4 u5 u6 u7 u8 u9 u10 u11 u12 u13 u14 u15 v0 v1 v2 v3 v4 v5 v6 v7 v8 v9 v10 v11 v12 v13 v14 v15
  clear p0 p1 p2 p3 p4 p5 p6 p7 p8 p9 p10 p11 p12 p13 p14 p15
  have q0 : w5.cell? ⟨w.heap.size, 0, none⟩ = some (.slice A0 l.length c0) := K5.out.cell (List.mem_cons_of_mem _ (List.mem_cons_of_mem _ (List.mem_cons_of_mem _ (List.mem_cons_of_mem _ (List.mem_cons_self ..))))) 0 _ rfl
  have q1 : w5.cell? ⟨w.heap.size + 1, 8, none⟩ = some (.int .i64 i) := K5.out.cell (List.mem_cons_of_mem _ (List.mem_cons_of_mem _ (List.mem_cons_of_mem _ (List.mem_cons_self ..)))) 8 _ rfl
  go_wp2_with fail
  refine (net_Double.calls A0 c0 l i [] 11 _ (Kd.C_below HC.out B5.out) hc0 (double_none l i hi)).mono ?_
  rintro e w6 ⟨v6, rfl, hR6, h6⟩
  clear q0 q1
  have G5 : Hid (w.heap.size + 1 < w2.heap.size) := Lib.hid (K2.out.lt (List.mem_cons_self ..))
  obtain ⟨A6, c6, rfl, hq6, hC6⟩ := Kd.R_reads hR6
  simp only [List.length_nil] at hq6 hC6 hR6 ⊢
  have K6 := Lib.hid (K5.out.below h6)
  have B6 := Lib.hid (below_step B5.out h6)
  have S6 := Lib.hid (K5.out.lt (List.mem_cons_of_mem _ (List.mem_cons_of_mem _ (List.mem_cons_self ..))))
  have ne2 : w.heap.size < w2.heap.size := by have := G5.out; omega
  have ne3 : w.heap.size + 1 < w2.heap.size := G5.out
  have a0 : w6.cell? ⟨w.heap.size, 0, none⟩ = some (.slice A0 l.length c0) := K6.out.cell (List.mem_cons_of_mem _ (List.mem_cons_of_mem _ (List.mem_cons_of_mem _ (List.mem_cons_of_mem _ (List.mem_cons_self ..))))) 0 _ rfl
  have a1 : w6.cell? ⟨w.heap.size + 1, 8, none⟩ = some (.int .i64 i) := K6.out.cell (List.mem_cons_of_mem _ (List.mem_cons_of_mem _ (List.mem_cons_of_mem _ (List.mem_cons_self ..)))) 8 _ rfl
  have a2 : w6.cell? ⟨w2.heap.size, 0, none⟩ = some (.slice A2 (l.length + 1) c2) := K6.out.cell (List.mem_cons_of_mem _ (List.mem_cons_of_mem _ (List.mem_cons_self ..))) 0 _ rfl
  have g0 : w.heap.size < w6.heap.size := K6.out.lt (List.mem_cons_of_mem _ (List.mem_cons_of_mem _ (List.mem_cons_of_mem _ (List.mem_cons_of_mem _ (List.mem_cons_self ..)))))
  have g1 : w.heap.size + 1 < w6.heap.size := K6.out.lt (List.mem_cons_of_mem _ (List.mem_cons_of_mem _ (List.mem_cons_of_mem _ (List.mem_cons_self ..))))
  have g2 : w2.heap.size < w6.heap.size := K6.out.lt (List.mem_cons_of_mem _ (List.mem_cons_of_mem _ (List.mem_cons_self ..)))
  have z5 : w6.frozen? ⟨w2.heap.size, 0, none⟩ = false := K6.out.frozen (List.mem_cons_of_mem _ (List.mem_cons_of_mem _ (List.mem_cons_self ..))) 0
  have KS : Hid (Kept (w6.setCell ⟨w2.heap.size, 0, none⟩ (.slice A6 0 c6)) [(w2.heap.size, #[.slice A6 0 c6], 39), (w.heap.size + 1, (actCells kind f t body i size), 43), (w.heap.size, #[.slice A0 l.length c0], 39)]) := Lib.hid (Kept.cons (blk_put (K6.out.at (List.mem_cons_of_mem _ (List.mem_cons_of_mem _ (List.mem_cons_self ..)))) 0 _ rfl) ((K6.out.sub (l' := [(w.heap.size + 1, (actCells kind f t body i size), 43), (w.heap.size, #[.slice A0 l.length c0], 39)]) (by simp)).far ⟨w2.heap.size, 0, none⟩ (by have := G5.out; simp; omega) _))
  have BS : Hid (Below w.heap.size w (w6.setCell ⟨w2.heap.size, 0, none⟩ (.slice A6 0 c6))) := Lib.hid (B6.out.setCell (p := ⟨w2.heap.size, 0, none⟩) (by have := G5.out; show w.heap.size ≤ w2.heap.size; omega) _)
  clear hR6 hC6 hq6 h6
  go_wp2_with fail
  clear z5 a0 a1 a2 g0 g1 g2
  obtain ⟨m, hm⟩ : ∃ m, m = ([] : List S48) := ⟨_, rfl⟩
  have ml : m.length ≤ 600 := by rw [hm]; simp
  have tk := take_out l i hi
  have ls := lose_out l i hi
  rw [← hm] at tk ls
  clear hm
  have TK := Lib.hid tk
  have LS' := Lib.hid ls
  have ML := Lib.hid (show m.length < 2199023255552 by omega)
  clear tk ls
  refine (net_Take.calls A0 c0 l i m _ _ _ _ _ _ _ _ _ (Kd.C_below HC.out BS.out) hc0 TK.out).mono ?_
  rintro e w11 ⟨v11, rfl, hR11, h11⟩
  obtain ⟨A11, c11, rfl, hq11, hC11⟩ := Kd.R_reads hR11
  have K11 := Lib.hid (KS.out.below h11)
  have B11 := Lib.hid (below_step BS.out h11)
  have C11 := Lib.hid hC11
  have L11 := Lib.hid hq11
  clear hR11 hq11 hC11 h11
  have a0 : w11.cell? ⟨w.heap.size, 0, none⟩ = some (.slice A0 l.length c0) := K11.out.cell (List.mem_cons_of_mem _ (List.mem_cons_of_mem _ (List.mem_cons_self ..))) 0 _ rfl
  have a1 : w11.cell? ⟨w.heap.size + 1, 8, none⟩ = some (.int .i64 i) := K11.out.cell (List.mem_cons_of_mem _ (List.mem_cons_self ..)) 8 _ rfl
  have g0 : w.heap.size < w11.heap.size := K11.out.lt (List.mem_cons_of_mem _ (List.mem_cons_of_mem _ (List.mem_cons_self ..)))
  have g1 : w.heap.size + 1 < w11.heap.size := K11.out.lt (List.mem_cons_of_mem _ (List.mem_cons_self ..))
  go_wp2_with fail
  clear a0 a1 g0 g1
  have K12 := Lib.hid ((K11.out.new #[.slice A11 m.length c11] 39).newAt #[.bool false, .int .u64 0, .int .u64 0, .bool false, .int .u64 0, .int .u64 0, .string ⟨#[]⟩] 48 (n := w11.heap.size + 1) (by simp))
  have B12 := Lib.hid (below_alloc (below_alloc B11.out (.cells #[.slice A11 m.length c11] 39)) (.cells #[.bool false, .int .u64 0, .int .u64 0, .bool false, .int .u64 0, .int .u64 0, .string ⟨#[]⟩] 48))
  refine (net_Lose.calls A0 c0 l i m _ _ (Kd.C_below HC.out B12.out) hc0 LS'.out).mono ?_
  rintro e w13 ⟨v13, rfl, hR13, h13⟩
  obtain ⟨A13, c13, rfl, hq13, hC13⟩ := Kd.R_reads hR13
  have K13 := Lib.hid (K12.out.below h13)
  have B13 := Lib.hid (below_step B12.out h13)
  have D13 := Lib.hid (Kd.C_below (Kd.C_alloc (Kd.C_alloc C11.out _) _) h13)
  have C13 := Lib.hid hC13
  have L13 := Lib.hid hq13
  clear hR13 hq13 hC13 h13
  have a0 : w13.cell? ⟨w.heap.size, 0, none⟩ = some (.slice A0 l.length c0) := K13.out.cell (List.mem_cons_of_mem _ (List.mem_cons_of_mem _ (List.mem_cons_of_mem _ (List.mem_cons_of_mem _ (List.mem_cons_self ..))))) 0 _ rfl
  have a1 : w13.cell? ⟨w.heap.size + 1, 8, none⟩ = some (.int .i64 i) := K13.out.cell (List.mem_cons_of_mem _ (List.mem_cons_of_mem _ (List.mem_cons_of_mem _ (List.mem_cons_self ..)))) 8 _ rfl
  have a2 : w13.cell? ⟨w11.heap.size, 0, none⟩ = some (.slice A11 m.length c11) := K13.out.cell (List.mem_cons_of_mem _ (List.mem_cons_self ..)) 0 _ rfl
  have g0 : w.heap.size < w13.heap.size := K13.out.lt (List.mem_cons_of_mem _ (List.mem_cons_of_mem _ (List.mem_cons_of_mem _ (List.mem_cons_of_mem _ (List.mem_cons_self ..)))))
  have g1 : w.heap.size + 1 < w13.heap.size := K13.out.lt (List.mem_cons_of_mem _ (List.mem_cons_of_mem _ (List.mem_cons_of_mem _ (List.mem_cons_self ..))))
  have g2 : w11.heap.size < w13.heap.size := K13.out.lt (List.mem_cons_of_mem _ (List.mem_cons_self ..))
  go_wp2_with fail
  obtain ⟨W14, hW14⟩ : ∃ W, W = (w13.alloc (.cells #[.slice A13 m.length c13] 39)) := ⟨_, rfl⟩
  rw [← hW14]
  have KV := Lib.hid (hW14 ▸ (K13.out.new #[.slice A13 m.length c13] 39) : Kept W14 _)
  have BV := Lib.hid (hW14 ▸ below_alloc B13.out _ : Below w.heap.size w W14)
  have EV := Lib.hid (hW14 ▸ Kd.C_alloc C13.out _ : Kd.C k48 W14 A13 m.length m)
  have DV := Lib.hid (hW14 ▸ Kd.C_alloc D13.out _ : Kd.C k48 W14 A11 m.length m)
  clear hW14 a0 a1 a2 g0 g1 g2
  have p0 : W14.cell? ⟨w.heap.size, 0, none⟩ = some (.slice A0 l.length c0) := KV.out.cell (List.mem_cons_of_mem _ (List.mem_cons_of_mem _ (List.mem_cons_of_mem _ (List.mem_cons_of_mem _ (List.mem_cons_of_mem _ (List.mem_cons_self ..)))))) 0 _ rfl
  have p1 : W14.cell? ⟨w.heap.size + 1, 8, none⟩ = some (.int .i64 i) := KV.out.cell (List.mem_cons_of_mem _ (List.mem_cons_of_mem _ (List.mem_cons_of_mem _ (List.mem_cons_of_mem _ (List.mem_cons_self ..))))) 8 _ rfl
  have p2 : W14.cell? ⟨w11.heap.size, 0, none⟩ = some (.slice A11 m.length c11) := KV.out.cell (List.mem_cons_of_mem _ (List.mem_cons_of_mem _ (List.mem_cons_self ..))) 0 _ rfl
  have p3 : W14.cell? ⟨w13.heap.size, 0, none⟩ = some (.slice A13 m.length c13) := KV.out.cell (List.mem_cons_self ..) 0 _ rfl
  go_region_held3 (fun w' => w'.cell? ⟨w.heap.size, 0, none⟩ = some (.slice A0 l.length c0) ∧ w'.cell? ⟨w.heap.size + 1, 8, none⟩ = some (.int .i64 i) ∧ w'.cell? ⟨w11.heap.size, 0, none⟩ = some (.slice A11 m.length c11) ∧ w'.cell? ⟨w13.heap.size, 0, none⟩ = some (.slice A13 m.length c13))
    (first | (refine ⟨?_, ?_, ?_, ?_⟩ <;> with_reducible assumption) | go_keep)
    (first
      | (go_at_call 29; refine (model_calls A13 c13 m _ ML.out (Kd.C_drew EV.out) L13.out).mono ?_; rintro e w15 ⟨vm, rfl, hRm, h4⟩; obtain ⟨Am, cm, rfl, hlm, hCm⟩ := Kd.R_reads hRm; rw [List.length_map] at hlm hCm ⊢; have Kv1 := Lib.hid (KV.out.drew.below h4); have Bv1 := Lib.hid (below_step (below_drew BV.out) h4); have D4 := Lib.hid (Kd.C_below (Kd.C_drew DV.out) h4); have Cm := Lib.hid hCm; have Lm := Lib.hid hlm; clear hRm hCm hlm h4; have u0 : w15.cell? ⟨w.heap.size, 0, none⟩ = some (.slice A0 l.length c0) := Kv1.out.cell (List.mem_cons_of_mem _ (List.mem_cons_of_mem _ (List.mem_cons_of_mem _ (List.mem_cons_of_mem _ (List.mem_cons_of_mem _ (List.mem_cons_self ..)))))) 0 _ rfl; have u1 : w15.cell? ⟨w.heap.size + 1, 8, none⟩ = some (.int .i64 i) := Kv1.out.cell (List.mem_cons_of_mem _ (List.mem_cons_of_mem _ (List.mem_cons_of_mem _ (List.mem_cons_of_mem _ (List.mem_cons_self ..))))) 8 _ rfl; have u2 : w15.cell? ⟨w11.heap.size, 0, none⟩ = some (.slice A11 m.length c11) := Kv1.out.cell (List.mem_cons_of_mem _ (List.mem_cons_of_mem _ (List.mem_cons_self ..))) 0 _ rfl; have u3 : w15.cell? ⟨w13.heap.size, 0, none⟩ = some (.slice A13 m.length c13) := Kv1.out.cell (List.mem_cons_self ..) 0 _ rfl)
      | (go_at_call 28; refine (same_calls A11 c11 m Am cm _ ML.out D4.out L11.out Cm.out Lm.out).mono ?_; rintro e w16 ⟨rfl, h5⟩; have Kv2 := Lib.hid (Kv1.out.below h5); have Bv2 := Lib.hid (below_step Bv1.out h5); clear h5; have v0 : w16.cell? ⟨w.heap.size, 0, none⟩ = some (.slice A0 l.length c0) := Kv2.out.cell (List.mem_cons_of_mem _ (List.mem_cons_of_mem _ (List.mem_cons_of_mem _ (List.mem_cons_of_mem _ (List.mem_cons_of_mem _ (List.mem_cons_self ..)))))) 0 _ rfl; have v1 : w16.cell? ⟨w.heap.size + 1, 8, none⟩ = some (.int .i64 i) := Kv2.out.cell (List.mem_cons_of_mem _ (List.mem_cons_of_mem _ (List.mem_cons_of_mem _ (List.mem_cons_of_mem _ (List.mem_cons_self ..))))) 8 _ rfl; have v2 : w16.cell? ⟨w11.heap.size, 0, none⟩ = some (.slice A11 m.length c11) := Kv2.out.cell (List.mem_cons_of_mem _ (List.mem_cons_of_mem _ (List.mem_cons_self ..))) 0 _ rfl; have v3 : w16.cell? ⟨w13.heap.size, 0, none⟩ = some (.slice A13 m.length c13) := Kv2.out.cell (List.mem_cons_self ..) 0 _ rfl))
  clear v0 v1 v2 v3
  go_wp2_with fail
  go_ret
  refine ⟨?_, Bv2.out⟩
  first | rfl | (rw [decide_eq_false (by omega)]; rfl) | (rw [decide_eq_true (by omega)]; rfl)
end Go.Proofs.Ytghhhpcdakdjjaa.GNet
