/- net.Cut: what it returns, of whatever network. Condition: the network may be read. -/
import Derived.Test.YtghhhpcdakdjjaaNetHandB
import Derived.RegionTactic
import Derived.BigRegion
namespace Go.Proofs.Ytghhhpcdakdjjaa.GNet
open Go.RowKit Go.Proofs.YtghhhpcdakdjjaaW.PrintWords Go.Proofs.YtghhhpcdakdjjaaW.PrintLast Go.Proofs.YtghhhpcdakdjjaaW.PrintMore
attribute [local go_sem] max2_int min2_int

set_option maxHeartbeats 1000000 in
set_option maxRecDepth 100000 in
theorem cut_yes (A0 : Option Addr) (c0 : Nat) (l : List S48) (k : Nat) (size m : Int) (w : World) (hr0 : Kd.C k48 w A0 l.length l) (hc0 : l.length ≤ c0) (hl : l.length < 2199023255552) (hk : k < l.length) (x : S48) (hx : l.getD k z48 = x)
    (hm : Hid ((if 0 < (if (x.f2.size : Int) < size then (x.f2.size : Int) else size) then (if (x.f2.size : Int) < size then (x.f2.size : Int) else size) else 0) = m)) (_hm0 : 0 ≤ m) (_hm1 : m ≤ (x.f2.size : Int)) :
    Calls Try.prog 25 #[.agg #[.slice A0 l.length c0], .int .i64 (k : Int), .int .i64 size] w fun e w' => ∃ v0_ : Value, e = .returned (.tuple #[.agg #[v0_], .int .i64 0]) ∧
      Kd.R k48 48 w' w.heap.size (fun _ => True) v0_ (l.set k ⟨x.f0, x.f1, x.f2.extract 0 m.toNat⟩) ∧ Below w.heap.size w w' := by
  have HC := Lib.hid hr0
  have HL := Lib.hid hl
  have HX := Lib.hid hx
  have hlp : 0 < l.length := by omega
  have hd1 : decide ((0 : Int) ≤ (k : Int)) = true := decide_eq_true (by omega)
  have hd2 : decide ((k : Int) < (l.length : Int)) = true := decide_eq_true (by omega)
  have h0 : (0 : Int) ≤ (k : Int) := by omega
  have h1 : (k : Int) < (l.length : Int) := by omega
  clear hr0 hl hx
  go_enter Try.func25, Try.ntmps25
  go_wp2_with fail
  refine (has_any _ _ _ _ _).mono ?_
  rintro e W ⟨rfl, hW⟩
  have hb0 : Below w.heap.size w W := by
    rw [← hW]
    exact (((Below.refl _ _).alloc (Nat.le_refl _) _).alloc (by simp) _).alloc (by simp; omega) _
  have z1 : W.heap[w.heap.size]? = some (.cells #[.slice A0 l.length c0] 39 (0, 0)) := by rw [← hW]; exact blk_alloc (blk_alloc (at_new _ _ _ rfl) _) _
  have z2 : W.heap[w.heap.size + 1]? = some (.cells #[.slice none 0 0] 39 (0, 0)) := by rw [← hW]; exact blk_alloc (at_new _ _ _ (by simp)) _
  have z4 : W.heap.size = w.heap.size + 3 := by rw [← hW]; simp
  have pz : W.cell? ⟨w.heap.size, 0, none⟩ = some (.slice A0 l.length c0) := (blk_cell z1 0).trans rfl
  have HZ := Lib.hid (And.intro z2 (And.intro z4 hb0))
  have HCW := Lib.hid (Kd.C_below HC.out hb0)
  clear z1 z2 z4 hb0 hW
  go_wp2_with fail
  refine (slices_Clone_net.calls A0 c0 l l _ HCW.out hc0 (if_pos HL.out)).mono ?_
  rintro e w1 ⟨v, rfl, hR1, hb1⟩
  obtain ⟨g, cap, rfl, hg, hgl, _⟩ := Kd.R_form hR1 hlp
  obtain ⟨c, hcl, hcM, hcc, hcf⟩ := Kd.R_elem hR1 z48 (k : Int) h0 h1
  rw [Int.toNat_natCast, HX.out] at hcM
  have hc6 : w1.cell? ⟨g, k * 7 + 6, none⟩ = some (.string x.f2) := by
    have := hcc 6 (.string x.f2) (by rw [k48_openM hcM]; rfl)
    rwa [Int.toNat_natCast] at this
  have hf6 : w1.frozen? ⟨g, k * 7 + 6, none⟩ = false := by have := hcf 6; rwa [Int.toNat_natCast] at this
  have y2 : w1.heap[w.heap.size + 1]? = some (.cells #[.slice none 0 0] 39 (0, 0)) := (hb1.block _ (by have := HZ.out.2.1; omega)).trans HZ.out.1
  have t0 : w1.cell? ⟨w.heap.size + 1, 0, none⟩ = some (.slice none 0 0) := (blk_cell y2 0).trans rfl
  have tf : w1.frozen? ⟨w.heap.size + 1, 0, none⟩ = false := blk_frozen y2 0
  have tl : w.heap.size + 1 < w1.heap.size := blk_lt y2
  have hgn : w.heap.size + 1 < g := by have := HZ.out.2.1; omega
  have M := Lib.hid hcM
  have CC := Lib.hid (And.intro hcl hcc)
  have R1 := Lib.hid hR1
  have B1 := Lib.hid hb1
  have Y2 := Lib.hid y2
  clear hcM hcl hcc hcf hR1 hb1 y2 hg
  go_wp2_with fail
  go_region
  rw [hm.out]
  obtain ⟨s1, s2⟩ := Kd.R_seg R1.out (k : Int) h0 h1 (j := 6) (seg := [.string (x.f2.extract 0 m.toNat)]) (x' := ⟨x.f0, x.f1, x.f2.extract 0 m.toNat⟩) (okp := fun k => True ∧ k ≠ g) CC.out.1 CC.out.2 (by show 6 + 1 ≤ 7; omega) (by
    have e := k48_openM M.out
    rw [e]
    exact k48_mkM _ _ _ _) (fun _ h => h)
  have S1 := Lib.hid s1
  have S2 := Lib.hid s2
  clear s1 s2
  have hWs : W.heap.size = w.heap.size + 3 := HZ.out.2.1
  have HB : Hid (Below w.heap.size w w1) := Lib.hid (below_step HZ.out.2.2 B1.out)
  have HW := Lib.hid hWs
  clear hWs
  go_wp2
  all_goals
    refine bodyPost_ret (results_list (rs := [.cell 6 39, .tmp 7]) rfl (by simp) (.cell (w.heap.size + 1) 39 _ (0, 0) _ rfl (blk_drew (blk_alloc (blk_put (blk_far Y2.out (p := ⟨g, k * 7 + 6, none⟩) (by show w.heap.size + 1 ≠ g; omega) _) 0 _ rfl) _)) Try.underlying39 rfl (by kernel_rfl) (.tmp .nil))) rfl ?_
    have s1 : Kd.R k48 48 (w1.setCell ⟨g, k * 7 + 6, none⟩ (.string (x.f2.extract 0 m.toNat))) W.heap.size (fun _ => True) (.slice (some ⟨g, 0, none⟩) l.length cap) (l.set k ⟨x.f0, x.f1, x.f2.extract 0 m.toNat⟩) := by
      have := S1.out
      rwa [Int.toNat_natCast] at this
    refine ⟨_, rfl, ?_, ?_⟩
    · exact Kd.R_lower (Kd.R_mono (Kd.R_drew (Kd.R_alloc (Kd.R_far (Kd.R_bound s1) (p := ⟨w.heap.size + 1, 0, none⟩) (fun q hq => by have := hq.2.1; have := HW.out; show q ≠ w.heap.size + 1; omega) _) _)) (fun _ hq => trivial)) (by have := HW.out; omega)
    · exact below_drew (((HB.out.setCell (p := ⟨g, k * 7 + 6, none⟩) (by show w.heap.size ≤ g; omega) _).setCell (p := ⟨w.heap.size + 1, 0, none⟩) (by show w.heap.size ≤ w.heap.size + 1; omega) _).alloc (by simp [World.setCell]; omega) _)

set_option maxHeartbeats 1000000 in
set_option maxRecDepth 100000 in
theorem cut_no (A0 : Option Addr) (n c0 : Nat) (a1 size : Int) (w : World) (h : ¬ (0 ≤ a1 ∧ a1 < (n : Int))) :
    Calls Try.prog 25 #[.agg #[.slice A0 n c0], .int .i64 a1, .int .i64 size] w fun e w' => ∃ v0_ : Value, e = .returned (.tuple #[.agg #[v0_], .int .i64 11]) ∧
      Kd.R k48 48 w' w.heap.size (fun _ => True) v0_ [] ∧ Below w.heap.size w w' := by
  have hd : (decide (0 ≤ a1) && decide (a1 < (n : Int))) = false := by
    rw [Bool.and_eq_false_iff, decide_eq_false_iff_not, decide_eq_false_iff_not]
    omega
  go_enter Try.func25, Try.ntmps25
  go_wp2_with fail
  refine (has_any _ _ _ _ _).mono ?_
  rw [hd]
  rintro e W ⟨rfl, hW⟩
  have hb0 : Below w.heap.size w W := by
    rw [← hW]
    exact (((Below.refl _ _).alloc (Nat.le_refl _) _).alloc (by simp) _).alloc (by simp; omega) _
  have z2 : W.heap[w.heap.size + 1]? = some (.cells #[.slice none 0 0] 39 (0, 0)) := by rw [← hW]; exact blk_alloc (at_new _ _ _ (by simp)) _
  have t0 := (blk_cell z2 0).trans rfl
  have tf := blk_frozen z2 0
  have Z := Lib.hid (And.intro z2 hb0)
  clear z2 hb0 hW hd
  go_wp2
  refine bodyPost_ret (results_list (rs := [.cell 6 39, .tmp 7]) rfl (by simp) (.cell (w.heap.size + 1) 39 _ (0, 0) _ rfl (blk_put Z.out.1 0 _ rfl) Try.underlying39 rfl (by kernel_rfl) (.tmp .nil))) rfl ?_
  exact ⟨_, rfl, Kd.R_nil _ _ _ _ _, Z.out.2.setCell (p := ⟨w.heap.size + 1, 0, none⟩) (by show w.heap.size ≤ w.heap.size + 1; omega) _⟩

/-- To how many bytes a message of n bytes is cut. -/
def cutTo (size : Int) (n : Nat) : Int := if 0 < (if (n : Int) < size then (n : Int) else size) then (if (n : Int) < size then (n : Int) else size) else 0
/-- net.Cut. -/
def net_Cut.f (l : List S48) (a1 size : Int) : Option (List S48 × Int) :=
  if 0 ≤ a1 ∧ a1 < (l.length : Int) then
    (if l.length < 2199023255552 then some (l.set a1.toNat ⟨(rd_T48 l a1).f0, (rd_T48 l a1).f1, (rd_T48 l a1).f2.extract 0 (cutTo size (rd_T48 l a1).f2.size).toNat⟩, 0) else none)
  else some ([], 11)
theorem net_Cut.calls (A0_0 : Option Addr) (c0_0 : Nat) (l0_0 : List S48) (a1 a2 : Int) (r1 : List S48) (r2 : Int) (w : World) (hr0_0 : Kd.C k48 w A0_0 l0_0.length l0_0) (hc0_0 : l0_0.length ≤ c0_0)
    (h : net_Cut.f l0_0 a1 a2 = some (r1, r2)) :
    Calls Try.prog 25 #[.agg #[.slice A0_0 l0_0.length c0_0], .int .i64 a1, .int .i64 a2] w fun e w' => ∃ v0_ : Value, e = .returned (.tuple #[.agg #[v0_], .int .i64 r2]) ∧ Kd.R k48 48 w' w.heap.size (fun _ => True) v0_ r1 ∧ Below w.heap.size w w' := by
  unfold net_Cut.f at h
  by_cases h0 : 0 ≤ a1 ∧ a1 < (l0_0.length : Int)
  · rw [if_pos h0] at h
    by_cases hl : l0_0.length < 2199023255552
    · rw [if_pos hl] at h
      simp only [Option.some.injEq, Prod.mk.injEq] at h
      obtain ⟨rfl, rfl⟩ := h
      obtain ⟨k, rfl⟩ := Int.eq_ofNat_of_zero_le h0.1
      have hk : k < l0_0.length := by omega
      refine cut_yes A0_0 c0_0 l0_0 k a2 (cutTo a2 (rd_T48 l0_0 (k : Int)).f2.size) w hr0_0 hc0_0 hl hk (rd_T48 l0_0 (k : Int)) rfl (Lib.hid rfl) ?_ ?_
      · unfold cutTo; split <;> (try split) <;> omega
      · unfold cutTo; split <;> (try split) <;> omega
    · rw [if_neg hl] at h; cases h
  · rw [if_neg h0] at h
    simp only [Option.some.injEq, Prod.mk.injEq] at h
    obtain ⟨rfl, rfl⟩ := h
    exact cut_no A0_0 l0_0.length c0_0 a1 a2 w h0
end Go.Proofs.Ytghhhpcdakdjjaa.GNet
