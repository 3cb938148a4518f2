/- What Send, Take, Double and Lose answer, case by case. Conditions: named in each. -/
import Derived.Test.YtghhhpcdakdjjaaNetO0
import Derived.Test.YtghhhpcdakdjjaaNetPure
import Derived.Test.YtghhhpcdakdjjaaMem
import Derived.RegionTactic
import Derived.BigRegion
import Derived.Deep.QuietTactic
import Derived.BigQuiet
import Derived.Deep.RegionHeld3
namespace Go.Proofs.Ytghhhpcdakdjjaa.GNet
open Go.RowKit Go.Proofs.Ytghhhpcdakdjjaa.Mem Go.Proofs.YtghhhpcdakdjjaaW.PrintWords Go.Proofs.YtghhhpcdakdjjaaW.PrintLast Go.Proofs.YtghhhpcdakdjjaaW.PrintMore
attribute [local go_sem high] eqA41 eqA48

def actCells (kind : Int) (f t : S41) (body : ByteArray) (i size : Int) : Array Value := #[.int .u8 kind, .bool f.f0, .int .u64 f.f1, .int .u64 f.f2, .bool t.f0, .int .u64 t.f1, .int .u64 t.f2, .string body, .int .i64 i, .int .i64 size]
theorem send_f (l : List S48) (f t : S41) (body : ByteArray) (h1 : l.length < 512) (h2 : body.size ≤ 65535) : net_Send.f l f.f0 f.f1 f.f2 t.f0 t.f1 t.f2 body = some (l ++ [⟨f, t, body⟩], 0) := by
  unfold net_Send.f net_Net_with.f slices_Clone_net.f
  rw [if_neg (by omega), if_neg (by omega), if_pos (by omega)]
  simp only [Option.bind_some]
  rw [if_pos (by simp; omega)]
  rfl
theorem send_no (l : List S48) (f t : S41) (body : ByteArray) (h : 512 ≤ l.length ∨ 65535 < body.size) : net_Send.f l f.f0 f.f1 f.f2 t.f0 t.f1 t.f2 body = some ([], 9) := by
  unfold net_Send.f
  by_cases h1 : (l.length : Int) ≥ 512
  · rw [if_pos h1]
  · rw [if_neg h1, if_pos (by omega)]

theorem take_last (l : List S48) (f t : S41) (body : ByteArray) (h : l.length < 2199023255551) : net_Take.f (l ++ [⟨f, t, body⟩]) (l.length : Int) = some (l, f.f0, f.f1, f.f2, t.f0, t.f1, t.f2, body, 0) := by
  unfold net_Take.f
  have e : rd_T48 (l ++ [⟨f, t, body⟩]) (l.length : Int) = ⟨f, t, body⟩ := by rw [rd48 _ _ (by simp)]; simp
  rw [if_pos ⟨by omega, by rw [List.length_append, List.length_singleton]; omega⟩, if_pos (by simp; omega), e, Int.toNat_natCast]
  simp [List.eraseIdx_append_of_length_le]

theorem dw_with (l : List S48) (x : S48) (h : l.length < 512) : net_Net_with.f l x.f0.f0 x.f0.f1 x.f0.f2 x.f1.f0 x.f1.f1 x.f1.f2 x.f2 = some (l ++ [x]) := by
  unfold net_Net_with.f slices_Clone_net.f
  rw [if_pos (by omega)]
  simp only [Option.bind_some]
  rw [if_pos (by simp; omega)]
theorem double_none (l : List S48) (i : Int) (h : i < 0 ∨ (l.length : Int) ≤ i) : net_Double.f l i = some ([], 11) := by
  unfold net_Double.f net_Net_has.f
  rcases h with h | h
  · rw [if_neg (by omega)]; rfl
  · by_cases h0 : i ≥ 0
    · rw [if_pos h0, decide_eq_false (by omega)]; rfl
    · rw [if_neg h0]; rfl
theorem double_limit (l : List S48) (i : Int) (h0 : 0 ≤ i) (h1 : i < (l.length : Int)) (hs : 512 ≤ l.length) : net_Double.f l i = some ([], 9) := by
  unfold net_Double.f net_Net_has.f
  rw [if_pos h0, decide_eq_true h1]
  simp only [Option.bind_some, if_true]
  rw [if_pos (by omega)]
theorem double_ok (l : List S48) (i : Int) (h0 : 0 ≤ i) (h1 : i < (l.length : Int)) (hn : l.length < 512) : net_Double.f l i = some (l ++ [rd_T48 l i], 0) := by
  unfold net_Double.f net_Net_has.f
  rw [if_pos h0, decide_eq_true h1]
  simp only [Option.bind_some, if_true]
  rw [if_neg (by omega), if_pos h0, if_pos h1, dw_with l _ hn]
  rfl
theorem take_out (l : List S48) (i : Int) (h : i < 0 ∨ (l.length : Int) ≤ i) : net_Take.f l i = some ([], false, 0, 0, false, 0, 0, ⟨#[]⟩, 11) := by
  unfold net_Take.f
  rw [if_neg (by omega)]
theorem take_in (l : List S48) (i : Int) (h0 : 0 ≤ i) (h1 : i < (l.length : Int)) (hn : l.length < 2199023255552) : net_Take.f l i = some (l.eraseIdx i.toNat, (rd_T48 l i).f0.f0, (rd_T48 l i).f0.f1, (rd_T48 l i).f0.f2, (rd_T48 l i).f1.f0, (rd_T48 l i).f1.f1, (rd_T48 l i).f1.f2, (rd_T48 l i).f2, 0) := by
  unfold net_Take.f
  rw [if_pos ⟨h0, h1⟩, if_pos hn]
theorem lose_out (l : List S48) (i : Int) (h : i < 0 ∨ (l.length : Int) ≤ i) : net_Lose.f l i = some ([], 11) := by
  unfold net_Lose.f
  rw [take_out l i h]
  rfl
theorem lose_in (l : List S48) (i : Int) (h0 : 0 ≤ i) (h1 : i < (l.length : Int)) (hn : l.length < 2199023255552) : net_Lose.f l i = some (l.eraseIdx i.toNat, 0) := by
  unfold net_Lose.f
  rw [take_in l i h0 h1 hn]
  rfl
theorem lose_last (l : List S48) (x : S48) (h : l.length < 2199023255551) : net_Lose.f (l ++ [x]) (l.length : Int) = some (l, 0) := by
  rw [lose_in _ _ (by omega) (by rw [List.length_append, List.length_singleton]; omega) (by simp; omega), Int.toNat_natCast]
  simp [List.eraseIdx_append_of_length_le]

end Go.Proofs.Ytghhhpcdakdjjaa.GNet
