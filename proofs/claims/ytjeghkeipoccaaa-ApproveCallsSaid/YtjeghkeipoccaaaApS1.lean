/- Searching in slices, persons: what the functions answer. Condition: none. -/
import Derived.Test.YtjeghkeipoccaaaApF
import Derived.Test.YtjeghkeipoccaaaEvR
namespace Go.Ev
set_option linter.all false
def T : Tab := { fns := fns, given := fun _ => none }
/-- A row of one cell. -/
def one1 {α : Type} (f : α → AV) (x : α) : List AV := [f x]
/-- The place of the first that passes, or -1. -/
def ixF {α : Type} (p : α → Bool) (xs : List α) : Int := if xs.any p then (xs.findIdx p : Int) else -1
theorem ixF_ge {α : Type} (p : α → Bool) (xs : List α) : (0 ≤ ixF p xs) ↔ xs.any p = true := by
  unfold ixF; by_cases h : xs.any p = true
  · rw [if_pos h]; exact ⟨fun _ => h, fun _ => Int.ofNat_nonneg _⟩
  · rw [if_neg h]; exact ⟨fun h => absurd h (by decide), fun e => absurd e h⟩
theorem loop_to {T : Tab} {kt kb : List Nat} {L : IC} {s : St} {r r' : Fl × St} (h : (sem T).loop kt kb L s = some r) (e : r = r') : (sem T).loop kt kb L s = some r' := e ▸ h
section
variable {α : Type} (f : α → AV) (hf : ∀ x, (f x).noOwn = f x) (hk : ∀ x p, (f x).okP p = true) (g : FuncId) (p : α → Bool) (hp : ∀ x m lv, (sem T).call g [f x] m lv = some ([.bool (p x)], m))
include hf hp hk
theorem indexFunc_loop (xs : List α) (hx : xs.length ≤ 9223372036854775807) (m : Mem) (lv : Nat) : ∀ (d i : Nat), i + d = xs.length → ∀ s : St, s.mask [0, 1, 7, 8] [] = some ⟨19, lv, tmOf [(0, .sl none 1 (xs.map (one1 f))), (1, .fn g []), (7, .int .i64 (xs.length : Int)), (8, .int .i64 (i : Int))], bxOf [], m⟩ →
    (sem T).loop [0, 1, 7, 8] [] L58_0 s = some (if (xs.drop i).any p then (.ret, ⟨19, lv, tmOf [(4, .int .i64 ((i + (xs.drop i).findIdx p : Nat) : Int))], bxOf [], m⟩) else (.ex 0, ⟨19, lv, tmOf [], bxOf [], m⟩))
  | 0, i, hd, s, hs => by
    obtain rfl : i = xs.length := by omega
    refine loop_to (loop_end (fl := .ex 0) hs ?_ (by intro e; cases e)) (by rw [List.drop_length]; rfl)
    simp [L58_0]
  | d + 1, i, hd, s, hs => by
    have hi : i < xs.length := by omega
    have hw := IntWalk.i64_in ((i : Int) + 1) (by omega)
    have hdr : xs.drop i = xs[i] :: xs.drop (i + 1) := List.drop_eq_getElem_cons hi
    rw [hdr]
    by_cases hc : p xs[i] = true
    · refine loop_to (loop_end (fl := .ret) (s' := ⟨19, lv, tmOf [(4, .int .i64 (i : Int))], bxOf [], m⟩) hs ?_ (by intro e; cases e)) (by rw [List.any_cons, hc, List.findIdx_cons, hc]; rfl)
      simp [L58_0, hi, hp, hc, one1, hf]
    · have hc : p xs[i] = false := by simpa using hc
      rw [List.any_cons, hc, Bool.false_or, List.findIdx_cons, hc]
      refine loop_round hs ?_ (fun s h => loop_to (indexFunc_loop xs hx m lv d (i + 1) (by omega) s h) ?_)
      · simp [L58_0, hi, hp, hc, hw, one1, hf]
      · simp only [cond_false]; congr 6; simp only [Nat.add_assoc, Nat.add_comm 1]
theorem indexFunc58 (xs : List α) (hx : xs.length ≤ 9223372036854775807) (m : Mem) (lv : Nat) : (sem T).call 58 [.sl none 1 (xs.map (one1 f)), .fn g []] m lv = some ([.int .i64 (ixF p xs)], m) := by
  have hl := indexFunc_loop f hf hk g p hp xs hx m lv xs.length 0 (by omega)
  simp only [List.drop_zero, Nat.zero_add] at hl
  refine call_go rfl rfl rfl ?_
  cases hc : xs.any p <;> simp [F58, hl, hc, ixF]
theorem indexFunc59 (xs : List α) (hx : xs.length ≤ 9223372036854775807) (m : Mem) (lv : Nat) : (sem T).call 59 [.sl none 1 (xs.map (one1 f)), .fn g []] m lv = some ([.int .i64 (ixF p xs)], m) := by
  have hl := indexFunc_loop f hf hk g p hp xs hx m lv xs.length 0 (by omega)
  simp only [List.drop_zero, Nat.zero_add] at hl
  refine call_go rfl rfl rfl ?_
  have e : L59_0 = L58_0 := rfl
  cases hc : xs.any p <;> simp [F59, e, hl, hc, ixF]
theorem contains41 (xs : List α) (hx : xs.length ≤ 9223372036854775807) (m : Mem) (lv : Nat) : (sem T).call 41 [.sl none 1 (xs.map (one1 f)), .fn g []] m lv = some ([.bool (xs.any p)], m) := by
  have h := indexFunc58 f hf hk g p hp xs hx
  have e := ixF_ge p xs
  refine call_go rfl rfl rfl ?_
  cases hc : xs.any p <;> simp [F41, h, e, hc]
theorem contains53 (xs : List α) (hx : xs.length ≤ 9223372036854775807) (m : Mem) (lv : Nat) : (sem T).call 53 [.sl none 1 (xs.map (one1 f)), .fn g []] m lv = some ([.bool (xs.any p)], m) := by
  have h := indexFunc59 f hf hk g p hp xs hx
  have e := ixF_ge p xs
  refine call_go rfl rfl rfl ?_
  cases hc : xs.any p <;> simp [F53, h, e, hc]
end
end Go.Ev
