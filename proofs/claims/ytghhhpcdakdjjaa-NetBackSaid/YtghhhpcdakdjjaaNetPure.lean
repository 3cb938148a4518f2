/- What the laws' helpers return: a network for the reference has the same items; a network is the same as what is made of it. Condition: a bound on its length. -/
import Derived.Test.YtghhhpcdakdjjaaGNetx
import Derived.IntWalk
namespace Go.Proofs.Ytghhhpcdakdjjaa.GNet
open Go.RowKit Go.Proofs.YtghhhpcdakdjjaaW.PrintWords Go.Proofs.YtghhhpcdakdjjaaW.PrintLast Go.Proofs.YtghhhpcdakdjjaaW.PrintMore

/-- An item for the reference. -/
def cv (x : S48) : S62 := ⟨x.f0, x.f1, x.f2⟩
theorem rd48 (l : List S48) (i : Nat) (h : i < l.length) : rd_T48 l (i : Int) = l[i] := by
  simp [rd_T48, List.getD_eq_getElem?_getD, h]
theorem rd62 (l : List S62) (i : Nat) (h : i < l.length) : rd_T62 l (i : Int) = l[i] := by
  simp [rd_T62, List.getD_eq_getElem?_getD, h]
theorem inc_at (i n : Nat) (h : i < n) (hn : n < 2199023255552) : wrap64 ((i : Int) + 1) = ((i + 1 : Nat) : Int) := by
  rw [IntWalk.wrap64_in _ (by omega)]; omega
theorem model_l0 (l : List S48) (hl : l.length < 2199023255552) : ∀ (d i K : Nat), l.length - i = d → i ≤ l.length → d < K → ddilaw54_model.l0 K ((l.take i).map cv) (i : Int) l = some (l.map cv) := by
  intro d
  induction d with
  | zero =>
    intro i K hd hi hK
    obtain ⟨K, rfl⟩ : ∃ m, K = m + 1 := ⟨K - 1, by omega⟩
    simp only [ddilaw54_model.l0]
    rw [if_neg (by omega), List.take_of_length_le (by omega)]
  | succ d ih =>
    intro i K hd hi hK
    obtain ⟨K, rfl⟩ : ∃ m, K = m + 1 := ⟨K - 1, by omega⟩
    have hlt : i < l.length := by omega
    simp only [ddilaw54_model.l0]
    rw [if_pos (by omega), if_pos (by omega), if_pos (by simp; omega), inc_at i l.length hlt hl, rd48 l i hlt]
    have := ih (i + 1) K (by omega) (by omega) (by omega)
    rw [List.take_succ_eq_append_getElem hlt, List.map_append] at this
    exact this
theorem model_f (l : List S48) (hl : l.length < 2199023255552) (K : Nat) (hK : l.length < K) : ddilaw54_model.f K l = some (l.map cv) := by
  have := model_l0 l hl l.length 0 K (by omega) (by omega) hK
  exact this
theorem same_l0 (l : List S48) (hl : l.length < 2199023255552) : ∀ (d i K : Nat), l.length - i = d → i ≤ l.length → d < K → ddilaw54_same.l0 K (i : Int) l (l.map cv) = some true := by
  intro d
  induction d with
  | zero =>
    intro i K hd hi hK
    obtain ⟨K, rfl⟩ : ∃ m, K = m + 1 := ⟨K - 1, by omega⟩
    simp only [ddilaw54_same.l0]
    rw [if_neg (by omega)]
  | succ d ih =>
    intro i K hd hi hK
    obtain ⟨K, rfl⟩ : ∃ m, K = m + 1 := ⟨K - 1, by omega⟩
    have hlt : i < l.length := by omega
    have e1 := rd48 l i hlt
    have e2 : rd_T62 (l.map cv) (i : Int) = cv l[i] := by rw [rd62 _ i (by simpa using hlt)]; simp
    simp only [ddilaw54_same.l0]
    rw [if_pos (by omega), if_pos (by omega), if_pos (by simp; omega), e1, e2, inc_at i l.length hlt hl, if_neg (by simp [cv])]
    exact ih (i + 1) K (by omega) (by omega) (by omega)
theorem same_f (l : List S48) (hl : l.length < 2199023255552) (K : Nat) (hK : l.length < K) : ddilaw54_same.f K l (l.map cv) = some true := by
  unfold ddilaw54_same.f
  rw [if_pos (by simp)]
  exact same_l0 l hl l.length 0 K (by omega) (by omega) hK
/-- The helper's call: the network for the reference. -/
theorem model_calls (A : Option Addr) (c : Nat) (l : List S48) (w : World) (hl : l.length < 2199023255552) (hr : Kd.C k48 w A l.length l) (hc : l.length ≤ c) :
    Calls Try.prog 29 #[.agg #[.slice A l.length c]] w fun e w' => ∃ v, e = .returned (.agg #[v]) ∧ Kd.R k62 62 w' w.heap.size (fun _ => True) v (l.map cv) ∧ Below w.heap.size w w' :=
  ddilaw54_model.calls (l.length + 1) A c l _ w hr hc (model_f l hl _ (by omega))
theorem same_calls (A : Option Addr) (c : Nat) (l : List S48) (B : Option Addr) (c' : Nat) (w : World) (hl : l.length < 2199023255552) (hr : Kd.C k48 w A l.length l) (hc : l.length ≤ c) (hr' : Kd.C k62 w B l.length (l.map cv)) (hc' : l.length ≤ c') :
    Calls Try.prog 28 #[.agg #[.slice A l.length c], .agg #[.slice B l.length c']] w fun e w' => e = .returned (.bool true) ∧ Below w.heap.size w w' := by
  have e : (l.map cv).length = l.length := List.length_map ..
  have := ddilaw54_same.calls (l.length + 1) A c l B c' (l.map cv) true w hr hc (by rw [e]; exact hr') (by rw [e]; exact hc') (same_f l hl _ (by omega))
  rwa [e] at this
end Go.Proofs.Ytghhhpcdakdjjaa.GNet
