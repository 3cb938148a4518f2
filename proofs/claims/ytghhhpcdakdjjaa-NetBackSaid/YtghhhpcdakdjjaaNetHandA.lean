/- slices.Clone and slices.Delete at []net.Item: the same elements in a row of their own; a row of one's own without one element. Conditions: what came in may be read; the row is one's own; the index is one of its. -/
import Derived.Test.YtghhhpcdakdjjaaGNetx0
import Derived.Lib.SliceRun
import Derived.WalkSpells
import Derived.Lib.Hide
import Derived.Deep.RegionLaw
namespace Go.Proofs.Ytghhhpcdakdjjaa.GNet
open Go.RowKit Go.Proofs.YtghhhpcdakdjjaaW.PrintWords Go.Proofs.YtghhhpcdakdjjaaW.PrintLast Go.Proofs.YtghhhpcdakdjjaaW.PrintMore

/-- slices.Clone: the same elements, in a row of their own. -/
def slices_Clone_net.f (l0 : List S48) : Option (List S48) := if l0.length < 2199023255552 then some l0 else none

theorem R_empty {α : Type} (d : Kd α) (e : Nat) (w : World) (base : Nat) (hb : base ≤ w.heap.size) : d.R e (w.alloc (.cells #[] e)) base (fun _ => True) (.slice (some ⟨w.heap.size, 0, none⟩) 0 0) [] := by
  refine ⟨fun _ _ => trivial, [], ?_, Reps.none _ _⟩
  have h2 := World.ownsRow_lit (base := base) (e := e) (size := d.sz) w #[] 0 hb (by simp [maxLen]) (by simp)
  simpa using h2

set_option maxHeartbeats 1000000 in
set_option maxRecDepth 100000 in
theorem slices_Clone_net.calls (A0 : Option Addr) (c0 : Nat) (l0 : List S48) (r : List S48) (w : World) (hr0 : Kd.C k48 w A0 l0.length l0) (_hc0 : l0.length ≤ c0) (h : slices_Clone_net.f l0 = some r) :
    Calls Try.prog 42 #[.slice A0 l0.length c0] w fun e w' => ∃ v0_ : Value, e = .returned v0_ ∧ Kd.R k48 48 w' w.heap.size (fun _ => True) v0_ r ∧ Below w.heap.size w w' := by
  have hl : l0.length < 2199023255552 ∧ r = l0 := by
    unfold slices_Clone_net.f at h
    split at h
    · exact ⟨by assumption, (Option.some.inj h).symm⟩
    · cases h
  obtain ⟨hl, rfl⟩ := hl
  clear h
  have HL := Lib.hid hl
  have HR := Lib.hid hr0
  have he := Lib.run_eql_slice_nil (P := Try.prog) w 37 48 A0 r.length c0 0 0 Try.underlying37
  cases A0 with
  | none =>
    have hz : r = [] := by
      rcases Nat.eq_zero_or_pos r.length with h0 | h0
      · exact List.eq_nil_of_length_eq_zero h0
      · obtain ⟨ad, e, _⟩ := hr0.2.2 h0
        cases e
    subst hz
    simp only [List.length_nil] at he
    clear hr0 hl
    go_enter Try.func42, Try.ntmps42
    go_wp2
    go_ret
    exact ⟨_, rfl, Kd.R_nil _ _ _ _ _, Below.refl _ _⟩
  | some ad =>
    clear hr0 hl
    go_enter Try.func42, Try.ntmps42
    go_wp2_with (at_builtin; refine Kd.R_append_rows k48 (w0 := w) w.heap.size rfl (.tmp 5) (.tmp 6) 37 48 (.agg #[(.bool false), (.int .u64 0), (.int .u64 0), (.bool false), (.int .u64 0), (.int .u64 0), (.string ⟨#[]⟩)]) 64 rfl Try.underlying37 info48 rfl (by decide) (by omega) (.slice (some ⟨w.heap.size, 0, none⟩) 0 0) [] r _ _ _ (fun _ => True) (fun _ => False) rfl rfl (R_empty k48 48 w w.heap.size (Nat.le_refl _)) (Kd.C_alloc HR.out _) (fun _ _ h => h) (fun _ h => h.elim) (fun _ _ => trivial) ((Below.refl _ _).alloc (Nat.le_refl _) _) (by simp) (by have := HL.out; simp; omega) ?_; intro v1 w1 ho hb hg hat)
    go_wp2
    go_ret
    exact ⟨_, rfl, ho, hb⟩
/-- What lies behind a row's elements may be written: the row is as it was. -/
theorem R_behind {α : Type} (d : Kd α) {e g n c : Nat} {w : World} {base : Nat} {ok : Nat → Prop} {xs : List α} (h : d.R e w base ok (.slice (some ⟨g, 0, none⟩) n c) xs) (vs : List Value) (hv : n * d.sz + vs.length ≤ c * d.sz) :
    d.R e (w.setCells g (n * d.sz) vs) base ok (.slice (some ⟨g, 0, none⟩) n c) xs ∧ Below base w (w.setCells g (n * d.sz) vs) := by
  have hgb : base ≤ g := Kd.R_base h g (by simp [Value.ownBlock])
  obtain ⟨h1, inner, ⟨hl, ho⟩, hr⟩ := h
  rcases ho with ⟨hf, _⟩ | ⟨g', cap, cur, hf, hb, hh, hn, hm, hsz, htk⟩
  · cases hf
  · injection hf with e1 e2 e3
    injection e1 with e1
    injection e1 with e1 _ _
    subst e1
    subst e3
    subst e2
    obtain ⟨cur', hh', hs', hl'⟩ := setCells_row vs (xs.length * d.sz) w cur hh (by rw [hsz]; exact hv)
    obtain ⟨s1, s2, s3, s4⟩ := setCells_same g vs (xs.length * d.sz) w
    refine ⟨⟨h1, inner, ⟨hl, .inr ⟨g, c, cur', rfl, hb, hh', hn, hm, by rw [hs', hsz], ?_⟩⟩, hr.imp_ fun p cs hp => d.M_move (fun k hk => setCells_far vs _ k (fun he => hk.2 (by simp [Value.ownBlock, he]))) hp⟩, ⟨s1, s2, s3, by rw [s4]; exact Nat.le_refl _, fun k hk => setCells_far vs _ k (by omega)⟩⟩
    have hle : xs.length * d.sz ≤ cur.toList.length := by
      have e : cur.toList.length = cur.size := Array.length_toList
      rw [e, hsz]
      exact Nat.mul_le_mul_right _ hn
    rw [hl', List.append_assoc, List.take_append_of_le_length (by rw [List.length_take]; omega), List.take_take, Nat.min_self]
    exact htk

theorem R_block {α : Type} (d : Kd α) {e g n c : Nat} {w : World} {base : Nat} {ok : Nat → Prop} {xs : List α} (h : d.R e w base ok (.slice (some ⟨g, 0, none⟩) n c) xs) :
    n = xs.length ∧ n ≤ c ∧ ∃ cur, w.heap[g]? = some (.cells cur e (0, 0)) ∧ cur.size = c * d.sz := by
  obtain ⟨_, inner, ⟨_, ho⟩, _⟩ := h
  rcases ho with ⟨hf, _⟩ | ⟨g', cap, cur, hf, hb, hh, hn, hm, hsz, _⟩
  · cases hf
  · injection hf with e1 e2 e3
    injection e1 with e1
    injection e1 with e1 _ _
    subst e1
    subst e3
    exact ⟨e2, by omega, cur, hh, hsz⟩

/-- The zeros that clear stores. -/
def zeros48 : List Value := [.bool false, .int .u64 0, .int .u64 0, .bool false, .int .u64 0, .int .u64 0, .string ⟨#[]⟩]
theorem clear_run (g n c X : Nat) (w : World) (base : Nat) (ok : Nat → Prop) (xs : List S48) (hc : n + 1 ≤ c) (h : Kd.R k48 48 w base ok (.slice (some ⟨g, 0, none⟩) n c) xs) :
    (Builtin.clear_ #[37] 0 #[.slice (some ⟨g, n * 7, none⟩) 1 X]).run Try.prog w = .ok (.tuple #[]) (w.setCells g (n * 7) zeros48) := by
  obtain ⟨_, _, cur, hh, hs⟩ := R_block k48 h
  have hs7 : cur.size = c * 7 := hs
  have hz : (zeroValue 48).run Try.prog w = .ok (.agg #[.bool false, .int .u64 0, .int .u64 0, .bool false, .int .u64 0, .int .u64 0, .string ⟨#[]⟩]) w := by kernel_rfl
  have hst := run_storeCells_cells (P := Try.prog) g (n * 7) zeros48 0 w (fun j hj => by
      have hj7 : j < 7 := hj
      have : n * 7 + j < cur.size := by omega
      simp [World.cell?, hh, this]) (fun j hj => by simp [World.frozen?, hh]) (by decide)
  have hzc : (Builtin.zeroCells (Value.cells (.agg #[.bool false, .int .u64 0, .int .u64 0, .bool false, .int .u64 0, .int .u64 0, .string ⟨#[]⟩])) 1).toList = zeros48 := by kernel_rfl
  rw [Nat.add_zero] at hst
  simp only [Builtin.clear_]
  simp [run_underlying Try.underlying37, hz, hzc, hst]

set_option maxHeartbeats 1000000 in
set_option maxRecDepth 100000 in
theorem delete_calls (g n c k : Nat) (xs : List S48) (base : Nat) (w : World) (hk : k < n) (hn : n ≤ 9223372036854775000) (hc : n ≤ c) (hb : base ≤ w.heap.size)
    (HO : Hid (Kd.R k48 48 w base (fun _ => True) (.slice (some ⟨g, 0, none⟩) n c) xs)) :
    Calls Try.prog 43 #[.slice (some ⟨g, 0, none⟩) n c, .int .i64 (k : Int), .int .i64 ((k : Int) + 1)] w fun e w' => e = .returned (.slice (some ⟨g, 0, none⟩) (n - 1) c) ∧ Kd.R k48 48 w' base (fun _ => True) (.slice (some ⟨g, 0, none⟩) (n - 1) c) (xs.eraseIdx k) ∧ Below base w w' := by
  have hq : ((k : Int) == (k : Int) + 1) = false := by rw [beq_eq_false_iff_ne]; omega
  go_enter Try.func43, Try.ntmps43
  go_wp2_with fail
  have hk0 : (0 : Int) ≤ (k : Int) := by omega
  have hk1 : (k : Int) ≤ (n : Int) := by omega
  have hk2 : (k : Int) + 1 ≤ (n : Int) := by omega
  have hk3 : k ≤ c := by omega
  have hk4 : k + 1 ≤ n := by omega
  have hk5 : (0 : Int) ≤ (k : Int) + 1 := by omega
  have hi48 : (Try.prog.info? 48).map (·.size) = some k48.sz := by kernel_rfl
  have hA : (if c = k + 1 then some (⟨g, 0, none⟩ : Addr) else some ⟨g, (k + 1) * 7, none⟩) = if c = k + 1 then some ⟨g, 0, none⟩ else (some (⟨g, 0, none⟩ : Addr)).map (·.add ((k + 1) * k48.sz)) := by rw [Option.map_some, add_plain]; rfl
  have HA := Lib.hid hA
  clear hA
  go_region_law ((refine Kd.R_delete_step k48 (w0 := w) base (by rfl) (.tmp 22) (.tmp 25) 37 48 (by rfl) Try.underlying37 hi48 (g := g) (n := n) (c := c) (k := k) (m := n - (k + 1)) (xs := xs) (ok := fun _ => True) (A := if c = k + 1 then some ⟨g, 0, none⟩ else some ⟨g, (k + 1) * 7, none⟩) (by rfl) (by rfl) HA.out rfl (Kd.R_drew HO.out) hk (below_drew (Below.refl _ _)) hb ?_; intro w1 h1 h2 h3))
  have hcl := clear_run g (n - 1) c
  have e1 : n - (n - 1) = 1 := by omega
  obtain ⟨k1, k2⟩ := R_behind k48 h1 zeros48 (by show (n - 1) * 7 + 7 ≤ c * 7; omega)
  have HK := Lib.hid k1
  have HB := Lib.hid (h2.trans k2)
  have hrun : ∀ X, (Builtin.clear_ #[37] 0 #[.slice (some ⟨g, (n - 1) * 7, none⟩) 1 X]).run Try.prog w1 = .ok (.tuple #[]) (w1.setCells g ((n - 1) * 7) zeros48) := fun X => hcl X w1 base _ _ (by omega) h1
  have hn1 : (((n - 1 : Nat)) : Int) ≤ (n : Int) := by omega
  have hn2 : n - 1 ≤ c := by omega
  have hn3 : ¬ c = n - 1 := by omega
  have hn4 : n ≤ c := hc
  clear h1 h2 h3 k1 k2 hcl
  go_wp2
  all_goals
    go_ret
    first | exact ⟨rfl, HK.out, HB.out⟩ | exact ⟨rfl, (show c = k + 1 by assumption) ▸ HK.out, HB.out⟩
end Go.Proofs.Ytghhhpcdakdjjaa.GNet
