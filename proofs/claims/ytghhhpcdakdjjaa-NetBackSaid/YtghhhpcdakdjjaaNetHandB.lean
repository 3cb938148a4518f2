/- net.Take: what it returns, of whatever network. Condition: the network may be read. -/
import Derived.Test.YtghhhpcdakdjjaaNetHandA
import Derived.Deep.RegionHeld3
import Derived.Deep.AppendLies
import Derived.Deep.DeepMust
namespace Go.Proofs.Ytghhhpcdakdjjaa.GNet
open Go.RowKit Go.Proofs.YtghhhpcdakdjjaaW.PrintWords Go.Proofs.YtghhhpcdakdjjaaW.PrintLast Go.Proofs.YtghhhpcdakdjjaaW.PrintMore

theorem at_new (w : World) (o : Obj) (n : Nat) (h : n = w.heap.size) : (w.alloc o).heap[n]? = some o := by subst h; exact blk_new w o
theorem keep8 {w w' : World} {p : Addr} {v0 v1 v2 v3 v4 v5 v6 : Value} (hb : Below w.heap.size w w')
    (h : w.cell? p = some v0 ∧ w.cell? ⟨p.block, p.off + 1, none⟩ = some v1 ∧ w.cell? ⟨p.block, p.off + 2, none⟩ = some v2 ∧ w.cell? ⟨p.block, p.off + 3, none⟩ = some v3 ∧ w.cell? ⟨p.block, p.off + 4, none⟩ = some v4 ∧ w.cell? ⟨p.block, p.off + 5, none⟩ = some v5 ∧ w.cell? ⟨p.block, p.off + 6, none⟩ = some v6) :
    w'.cell? p = some v0 ∧ w'.cell? ⟨p.block, p.off + 1, none⟩ = some v1 ∧ w'.cell? ⟨p.block, p.off + 2, none⟩ = some v2 ∧ w'.cell? ⟨p.block, p.off + 3, none⟩ = some v3 ∧ w'.cell? ⟨p.block, p.off + 4, none⟩ = some v4 ∧ w'.cell? ⟨p.block, p.off + 5, none⟩ = some v5 ∧ w'.cell? ⟨p.block, p.off + 6, none⟩ = some v6 :=
  ⟨pw_cell_below hb h.1, pw_cell_below hb h.2.1, pw_cell_below hb h.2.2.1, pw_cell_below hb h.2.2.2.1, pw_cell_below hb h.2.2.2.2.1, pw_cell_below hb h.2.2.2.2.2.1, pw_cell_below hb h.2.2.2.2.2.2⟩
theorem keep8b {B : Nat} {w w' : World} {p : Addr} {v0 v1 v2 v3 v4 v5 v6 : Value} (hb : Below B w w') (hp : p.block < B)
    (h : w.cell? p = some v0 ∧ w.cell? ⟨p.block, p.off + 1, none⟩ = some v1 ∧ w.cell? ⟨p.block, p.off + 2, none⟩ = some v2 ∧ w.cell? ⟨p.block, p.off + 3, none⟩ = some v3 ∧ w.cell? ⟨p.block, p.off + 4, none⟩ = some v4 ∧ w.cell? ⟨p.block, p.off + 5, none⟩ = some v5 ∧ w.cell? ⟨p.block, p.off + 6, none⟩ = some v6) :
    w'.cell? p = some v0 ∧ w'.cell? ⟨p.block, p.off + 1, none⟩ = some v1 ∧ w'.cell? ⟨p.block, p.off + 2, none⟩ = some v2 ∧ w'.cell? ⟨p.block, p.off + 3, none⟩ = some v3 ∧ w'.cell? ⟨p.block, p.off + 4, none⟩ = some v4 ∧ w'.cell? ⟨p.block, p.off + 5, none⟩ = some v5 ∧ w'.cell? ⟨p.block, p.off + 6, none⟩ = some v6 :=
  have k (o : Nat) : w'.cell? ⟨p.block, o, none⟩ = w.cell? ⟨p.block, o, none⟩ := hb.cell (p := ⟨p.block, o, none⟩) hp
  ⟨(hb.cell (p := p) hp).trans h.1, (k _).trans h.2.1, (k _).trans h.2.2.1, (k _).trans h.2.2.2.1, (k _).trans h.2.2.2.2.1, (k _).trans h.2.2.2.2.2.1, (k _).trans h.2.2.2.2.2.2⟩
theorem cells48 {w : World} {g : Nat} (h : w.heap[g]? = some (.cells zeros48.toArray 48 (0, 0))) :
    w.cell? ⟨g, 0, none⟩ = some (.bool false) ∧ w.cell? ⟨g, 1, none⟩ = some (.int .u64 0) ∧ w.cell? ⟨g, 2, none⟩ = some (.int .u64 0) ∧ w.cell? ⟨g, 3, none⟩ = some (.bool false) ∧ w.cell? ⟨g, 4, none⟩ = some (.int .u64 0) ∧ w.cell? ⟨g, 5, none⟩ = some (.int .u64 0) ∧ w.cell? ⟨g, 6, none⟩ = some (.string ⟨#[]⟩) :=
  ⟨(blk_cell h 0).trans rfl, (blk_cell h 1).trans rfl, (blk_cell h 2).trans rfl, (blk_cell h 3).trans rfl, (blk_cell h 4).trans rfl, (blk_cell h 5).trans rfl, (blk_cell h 6).trans rfl⟩
/-- Two results in memory, each stored whole. -/
theorem two_stored (w : World) (b1 b2 : Nat) (v u : Value) (vs : List Value) (t1 t2 : TypeId) (c2 : Array Value) (hne : b1 ≠ b2) (h1 : w.heap[b1]? = some (.cells #[u] t1 (0, 0))) (h2 : w.heap[b2]? = some (.cells c2 t2 (0, 0))) (hl : vs.length = c2.size) :
    ((w.setCell ⟨b1, 0, none⟩ v).setCells b2 0 vs).heap[b1]? = some (.cells #[v] t1 (0, 0)) ∧ ((w.setCell ⟨b1, 0, none⟩ v).setCells b2 0 vs).heap[b2]? = some (.cells vs.toArray t2 (0, 0)) ∧
    (∀ k, k ≠ b1 → k ≠ b2 → ((w.setCell ⟨b1, 0, none⟩ v).setCells b2 0 vs).heap[k]? = w.heap[k]?) ∧ ∀ B, B ≤ b1 → B ≤ b2 → Below B w ((w.setCell ⟨b1, 0, none⟩ v).setCells b2 0 vs) := by
  have k1 := blk_put h1 0 v rfl
  have k2 := blk_far h2 (p := ⟨b1, 0, none⟩) (fun e => hne e.symm) v
  obtain ⟨s1, s2, s3, s4⟩ := setCells_same b2 vs 0 (w.setCell ⟨b1, 0, none⟩ v)
  obtain ⟨cur', e1, e2, e3⟩ := setCells_row vs 0 _ c2 k2 (by omega)
  have e4 : cur' = vs.toArray := by
    apply Array.toList_inj.1
    rw [e3, List.take_zero, List.nil_append, List.drop_of_length_le (by rw [Array.length_toList]; omega), List.append_nil]
  subst e4
  have far : ∀ k, k ≠ b1 → k ≠ b2 → ((w.setCell ⟨b1, 0, none⟩ v).setCells b2 0 vs).heap[k]? = w.heap[k]? := fun k a b => (setCells_far vs 0 k b).trans (Below.heap_setCell w ⟨b1, 0, none⟩ v k a)
  exact ⟨(setCells_far vs 0 b1 hne).trans k1, e1, far, fun B l1 l2 => ⟨s1, s2, s3, by rw [s4]; simp [World.setCell], fun k hk => far k (by omega) (by omega)⟩⟩
set_option maxRecDepth 100000 in
theorem has_any (A0 : Option Addr) (n c : Nat) (a1 : Int) (w : World) : Calls Try.prog 41 #[.agg #[.slice A0 n c], .int .i64 a1] w fun e w' => e = .returned (.bool (decide (0 ≤ a1) && decide (a1 < (n : Int)))) ∧ w.alloc (.cells #[.slice A0 n c] 39) = w' := by
  by_cases h0 : 0 ≤ a1
  · have hd1 : decide (0 ≤ a1) = true := decide_eq_true h0
    go_enter Try.func41, Try.ntmps41
    go_wp2
    go_ret
    exact ⟨by simp [hd1], rfl⟩
  · have hd1 : decide (0 ≤ a1) = false := decide_eq_false h0
    go_enter Try.func41, Try.ntmps41
    go_wp2
    go_ret
    exact ⟨by simp, rfl⟩

set_option maxHeartbeats 1000000 in
set_option maxRecDepth 100000 in
theorem take_yes (A0 : Option Addr) (c0 : Nat) (l : List S48) (k : Nat) (w : World) (hr0 : Kd.C k48 w A0 l.length l) (hc0 : l.length ≤ c0) (hl : l.length < 2199023255552) (hk : k < l.length) :
    Calls Try.prog 26 #[.agg #[.slice A0 l.length c0], .int .i64 (k : Int)] w fun e w' => ∃ v0_ : Value, e = .returned (.tuple #[.agg #[v0_], .agg #[.bool (rd_T48 l (k : Int)).f0.f0, .int .u64 (rd_T48 l (k : Int)).f0.f1, .int .u64 (rd_T48 l (k : Int)).f0.f2, .bool (rd_T48 l (k : Int)).f1.f0, .int .u64 (rd_T48 l (k : Int)).f1.f1, .int .u64 (rd_T48 l (k : Int)).f1.f2, .string (rd_T48 l (k : Int)).f2], .int .i64 0]) ∧
      Kd.R k48 48 w' w.heap.size (fun _ => True) v0_ (l.eraseIdx k) ∧ Below w.heap.size w w' := by
  obtain ⟨ad, rfl, q0, q1, q2, q3, q4, q5, q6⟩ := at_T48 hr0 (k : Int) (by omega) (by omega)
  rw [Int.toNat_natCast] at q0 q1 q2 q3 q4 q5 q6
  have h0 : (0 : Int) ≤ (k : Int) := by omega
  have h1 : (k : Int) < (l.length : Int) := by omega
  have HR := Lib.hid hr0
  clear hr0
  have hd1 : decide ((0 : Int) ≤ (k : Int)) = true := decide_eq_true h0
  have hd2 : decide ((k : Int) < (l.length : Int)) = true := decide_eq_true h1
  go_enter Try.func26, Try.ntmps26
  go_wp2_with fail
  refine (has_any _ _ _ _ _).mono ?_
  rintro e W ⟨rfl, hW⟩
  have lt0 := World.block_lt_of_cell? w _ q0
  have hb0 : Below w.heap.size w W := by
    rw [← hW]
    exact ((((Below.refl _ _).alloc (Nat.le_refl _) _).alloc (by simp) _).alloc (by simp; omega) _).alloc (by simp; omega) _
  have z1 : W.heap[w.heap.size]? = some (.cells #[.slice (some ad) l.length c0] 39 (0, 0)) := by rw [← hW]; exact blk_alloc (blk_alloc (blk_alloc (at_new _ _ _ rfl) _) _) _
  have z2 : W.heap[w.heap.size + 1]? = some (.cells #[.slice none 0 0] 39 (0, 0)) := by rw [← hW]; exact blk_alloc (blk_alloc (at_new _ _ _ (by simp)) _) _
  have z3 : W.heap[w.heap.size + 1 + 1]? = some (.cells zeros48.toArray 48 (0, 0)) := by rw [← hW]; exact blk_alloc (at_new _ _ _ (by simp)) _
  have z4 : W.heap.size = w.heap.size + 4 := by rw [← hW]; simp
  have S0 := keep8 hb0 ⟨q0, q1, q2, q3, q4, q5, q6⟩
  obtain ⟨p0, p1, p2, p3, p4, p5, p6⟩ := S0
  have pz : W.cell? ⟨w.heap.size, 0, none⟩ = some (.slice (some ad) l.length c0) := (blk_cell z1 0).trans rfl
  have HRW := Lib.hid (Kd.C_below HR.out hb0)
  have ZZ := Lib.hid (And.intro z2 (And.intro z3 z4))
  have HB0 := Lib.hid hb0
  have HF : Hid (slices_Clone_net.f l = some l) := Lib.hid (if_pos hl)
  have hwr : IntKind.i64.wrap ((k : Int) + 1) = (k : Int) + 1 := IntWalk.i64_in _ (by omega)
  have HL : Hid (l.length ≤ 9223372036854775000) := Lib.hid (by omega)
  have hlp : 0 < l.length := by omega
  have hszW : w.heap.size < W.heap.size := by omega
  have HLT1 : Hid (w.heap.size + 1 < W.heap.size) := Lib.hid (by omega)
  have HLT2 : Hid (w.heap.size + 1 + 1 < W.heap.size) := Lib.hid (by omega)
  have hadW : (ad.add (k * 7)).block < W.heap.size := by omega
  clear q0 q1 q2 q3 q4 q5 q6 z1 z2 z3 z4 hb0 hW hl
  go_wp2_with fail
  go_region_held3 (fun w' => w'.cell? ⟨w.heap.size, 0, none⟩ = some (.slice (some ad) l.length c0) ∧ w'.cell? (ad.add (k * 7)) = some (.bool (rd_T48 l (k : Int)).f0.f0) ∧ w'.cell? ⟨(ad.add (k * 7)).block, (ad.add (k * 7)).off + 1, none⟩ = some (.int .u64 (rd_T48 l (k : Int)).f0.f1) ∧ w'.cell? ⟨(ad.add (k * 7)).block, (ad.add (k * 7)).off + 2, none⟩ = some (.int .u64 (rd_T48 l (k : Int)).f0.f2) ∧ w'.cell? ⟨(ad.add (k * 7)).block, (ad.add (k * 7)).off + 3, none⟩ = some (.bool (rd_T48 l (k : Int)).f1.f0) ∧ w'.cell? ⟨(ad.add (k * 7)).block, (ad.add (k * 7)).off + 4, none⟩ = some (.int .u64 (rd_T48 l (k : Int)).f1.f1) ∧ w'.cell? ⟨(ad.add (k * 7)).block, (ad.add (k * 7)).off + 5, none⟩ = some (.int .u64 (rd_T48 l (k : Int)).f1.f2) ∧ w'.cell? ⟨(ad.add (k * 7)).block, (ad.add (k * 7)).off + 6, none⟩ = some (.string (rd_T48 l (k : Int)).f2))
    (first | (refine ⟨?_, ?_, ?_, ?_, ?_, ?_, ?_, ?_⟩ <;> ((repeat refine (World.cell?_setCell_far _ _ _ _ (by simp only [ne_eq]; omega)).trans ?_); assumption)) | go_keep)
    (first
      | (go_at_call 42; refine (slices_Clone_net.calls (some ad) c0 l l _ (Kd.C_drew HRW.out) hc0 HF.out).mono ?_; rintro e w1 ⟨v, rfl, hR1, hb1⟩; obtain ⟨g, cap, rfl, hg, _, _⟩ := Kd.R_form hR1 hlp; obtain ⟨r0, r1, r2, r3, r4, r5, r6⟩ := keep8 hb1 ⟨p0, p1, p2, p3, p4, p5, p6⟩; have rz := pw_cell_below hb1 pz; have HC1 := Lib.hid (Kd.R_reads' hR1).2.1; have HS1 := Lib.hid hb1.size; have R1 := Lib.hid hR1; have B1 := Lib.hid hb1; clear hR1 hb1)
      | (go_at_call 43; refine (delete_calls g l.length cap k l W.heap.size _ hk HL.out HC1.out HS1.out R1).mono ?_; rintro e w2 ⟨rfl, hR2, hb2⟩; obtain ⟨s0, s1, s2, s3, s4, s5, s6⟩ := keep8b hb2 hadW ⟨r0, r1, r2, r3, r4, r5, r6⟩; have sz := (hb2.cell (p := ⟨w.heap.size, 0, none⟩) hszW).trans rz; have Y1 := Lib.hid ((hb2.block _ HLT1.out).trans ((B1.out.block _ HLT1.out).trans ZZ.out.1)); have Y2 := Lib.hid ((hb2.block _ HLT2.out).trans ((B1.out.block _ HLT2.out).trans ZZ.out.2.1)); have t0 := (blk_cell Y1.out 0).trans rfl; have tf := blk_frozen Y1.out 0; obtain ⟨u0, u1, u2, u3, u4, u5, u6⟩ := cells48 Y2.out; have uf := fun j => blk_frozen Y2.out j; have R2 := Lib.hid hR2; have B2 := Lib.hid hb2; clear hR2 hb2))
  go_wp2
  obtain ⟨f1, f2, f3, f4⟩ := two_stored w2 (w.heap.size + 1) (w.heap.size + 1 + 1) (.slice (some ⟨g, 0, none⟩) (l.length - 1) cap) (.slice none 0 0) [.bool (rd_T48 l (k : Int)).f0.f0, .int .u64 (rd_T48 l (k : Int)).f0.f1, .int .u64 (rd_T48 l (k : Int)).f0.f2, .bool (rd_T48 l (k : Int)).f1.f0, .int .u64 (rd_T48 l (k : Int)).f1.f1, .int .u64 (rd_T48 l (k : Int)).f1.f2, .string (rd_T48 l (k : Int)).f2] 39 48 zeros48.toArray (by omega) Y1.out Y2.out rfl
  refine bodyPost_ret (results_list (rs := [.cell 4 39, .cell 5 48, .tmp 6]) rfl (by simp) (.cell (w.heap.size + 1) 39 _ (0, 0) _ rfl f1 Try.underlying39 rfl (by kernel_rfl) (.cell (w.heap.size + 1 + 1) 48 _ (0, 0) _ rfl f2 Try.underlying48 rfl (by kernel_rfl) (.tmp .nil)))) rfl ?_
  refine ⟨_, rfl, ?_, ?_⟩
  · refine Kd.R_lower (Kd.R_mono (Kd.R_move (Kd.R_bound R2.out) (fun q hq => f3 q ?_ ?_)) (fun _ hq => hq.1)) (by omega)
    · have := hq.2.1; have := HLT1.out; omega
    · have := hq.2.1; have := HLT2.out; omega
  · have c1 : Below w.heap.size w w1 := below_step (below_drew HB0.out) B1.out
    exact (c1.trans (B2.out.mono (by omega))).trans (f4 _ (by omega) (by omega))

set_option maxHeartbeats 1000000 in
set_option maxRecDepth 100000 in
theorem take_no (A0 : Option Addr) (n c0 : Nat) (a1 : Int) (w : World) (h : ¬ (0 ≤ a1 ∧ a1 < (n : Int))) :
    Calls Try.prog 26 #[.agg #[.slice A0 n c0], .int .i64 a1] w fun e w' => ∃ v0_ : Value, e = .returned (.tuple #[.agg #[v0_], .agg #[.bool false, .int .u64 0, .int .u64 0, .bool false, .int .u64 0, .int .u64 0, .string ⟨#[]⟩], .int .i64 11]) ∧
      Kd.R k48 48 w' w.heap.size (fun _ => True) v0_ [] ∧ Below w.heap.size w w' := by
  have hd : (decide (0 ≤ a1) && decide (a1 < (n : Int))) = false := by
    rw [Bool.and_eq_false_iff, decide_eq_false_iff_not, decide_eq_false_iff_not]
    omega
  go_enter Try.func26, Try.ntmps26
  go_wp2_with fail
  refine (has_any _ _ _ _ _).mono ?_
  rw [hd]
  rintro e W ⟨rfl, hW⟩
  have hb0 : Below w.heap.size w W := by
    rw [← hW]
    exact ((((Below.refl _ _).alloc (Nat.le_refl _) _).alloc (by simp) _).alloc (by simp; omega) _).alloc (by simp; omega) _
  have z2 : W.heap[w.heap.size + 1]? = some (.cells #[.slice none 0 0] 39 (0, 0)) := by rw [← hW]; exact blk_alloc (blk_alloc (at_new _ _ _ (by simp)) _) _
  have z3 : W.heap[w.heap.size + 1 + 1]? = some (.cells zeros48.toArray 48 (0, 0)) := by rw [← hW]; exact blk_alloc (at_new _ _ _ (by simp)) _
  have t0 := (blk_cell z2 0).trans rfl
  have tf := blk_frozen z2 0
  obtain ⟨u0, u1, u2, u3, u4, u5, u6⟩ := cells48 z3
  have uf := fun j => blk_frozen z3 j
  have Z := Lib.hid (And.intro z2 (And.intro z3 hb0))
  clear z2 z3 hb0 hW hd
  go_wp2
  obtain ⟨f1, f2, f3, f4⟩ := two_stored W (w.heap.size + 1) (w.heap.size + 1 + 1) (.slice none 0 0) (.slice none 0 0) zeros48 39 48 zeros48.toArray (by omega) Z.out.1 Z.out.2.1 rfl
  refine bodyPost_ret (results_list (rs := [.cell 4 39, .cell 5 48, .tmp 6]) rfl (by simp) (.cell (w.heap.size + 1) 39 _ (0, 0) _ rfl f1 Try.underlying39 rfl (by kernel_rfl) (.cell (w.heap.size + 1 + 1) 48 _ (0, 0) _ rfl f2 Try.underlying48 rfl (by kernel_rfl) (.tmp .nil)))) rfl ?_
  exact ⟨_, rfl, Kd.R_nil _ _ _ _ _, Z.out.2.2.trans (f4 _ (by omega) (by omega))⟩

/-- net.Take. -/
def net_Take.f (l : List S48) (a1 : Int) : Option (List S48 × Bool × Int × Int × Bool × Int × Int × ByteArray × Int) :=
  if 0 ≤ a1 ∧ a1 < (l.length : Int) then
    (if l.length < 2199023255552 then some (l.eraseIdx a1.toNat, (rd_T48 l a1).f0.f0, (rd_T48 l a1).f0.f1, (rd_T48 l a1).f0.f2, (rd_T48 l a1).f1.f0, (rd_T48 l a1).f1.f1, (rd_T48 l a1).f1.f2, (rd_T48 l a1).f2, 0) else none)
  else some ([], false, 0, 0, false, 0, 0, ⟨#[]⟩, 11)
theorem net_Take.calls (A0_0 : Option Addr) (c0_0 : Nat) (l0_0 : List S48) (a1 : Int) (r1 : List S48) (r2 : Bool) (r3 r4 : Int) (r5 : Bool) (r6 r7 : Int) (r8 : ByteArray) (r9 : Int) (w : World) (hr0_0 : Kd.C k48 w A0_0 l0_0.length l0_0) (hc0_0 : l0_0.length ≤ c0_0)
    (h : net_Take.f l0_0 a1 = some (r1, r2, r3, r4, r5, r6, r7, r8, r9)) :
    Calls Try.prog 26 #[.agg #[.slice A0_0 l0_0.length c0_0], .int .i64 a1] w fun e w' => ∃ v0_ : Value, e = .returned (.tuple #[.agg #[v0_], .agg #[.bool r2, .int .u64 r3, .int .u64 r4, .bool r5, .int .u64 r6, .int .u64 r7, .string r8], .int .i64 r9]) ∧ Kd.R k48 48 w' w.heap.size (fun _ => True) v0_ r1 ∧ Below w.heap.size w w' := by
  unfold net_Take.f at h
  by_cases h0 : 0 ≤ a1 ∧ a1 < (l0_0.length : Int)
  · rw [if_pos h0] at h
    by_cases hl : l0_0.length < 2199023255552
    · rw [if_pos hl] at h
      simp only [Option.some.injEq, Prod.mk.injEq] at h
      obtain ⟨rfl, rfl, rfl, rfl, rfl, rfl, rfl, rfl, rfl⟩ := h
      obtain ⟨k, rfl⟩ := Int.eq_ofNat_of_zero_le h0.1
      exact take_yes A0_0 c0_0 l0_0 k w hr0_0 hc0_0 hl (by omega)
    · rw [if_neg hl] at h; cases h
  · rw [if_neg h0] at h
    simp only [Option.some.injEq, Prod.mk.injEq] at h
    obtain ⟨rfl, rfl, rfl, rfl, rfl, rfl, rfl, rfl, rfl⟩ := h
    exact take_no A0_0 l0_0.length c0_0 a1 w h0
end Go.Proofs.Ytghhhpcdakdjjaa.GNet
