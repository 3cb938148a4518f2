/- Finding and replacing a request. Condition: a table that can be copied. -/
import Derived.Test.YtjeghkeipoccaaaApSA
namespace Go.Ev
set_option linter.all false
def pend (x : Ask) : Bool := (x.st == 1) || (x.st == 2)
theorem call48 (x : Ask) (m : Mem) (lv : Nat) : (sem T).call 48 [.agg x.av] m lv = some ([.bool (pend x)], m) := by
  refine call_go rfl rfl rfl ?_
  unfold pend
  by_cases a1 : x.st = 1
  · simp [F48, a1]
  · simp [F48, a1]
theorem call52 (x : Ask) (m : Mem) (lv : Nat) : (sem T).call 52 [.agg x.av] m lv = some ([.bool (pend x)], m) := by
  refine call_go rfl rfl rfl ?_
  unfold pend
  by_cases a1 : x.st = 1
  · simp [F52, a1]
  · simp [F52, a1]
/-- Where a number stands. -/
theorem id_or (l : List Ask) (id : Int) : (∃ k : Nat, id = (k : Int) + 1 ∧ k < l.length) ∨ (id < 1 ∨ (1 ≤ id ∧ (l.length : Int) < id)) := by
  by_cases h : 1 ≤ id ∧ id ≤ l.length
  · obtain ⟨k, rfl⟩ : ∃ k : Nat, id = (k : Int) + 1 := ⟨(id - 1).toNat, by omega⟩
    exact .inl ⟨k, rfl, by omega⟩
  · exact .inr (by omega)
theorem find_no (l : List Ask) (id : Int) (h : id < 1 ∨ (1 ≤ id ∧ (l.length : Int) < id)) (m : Mem) (lv : Nat) : (sem T).call 50 [.sl none 7 (l.map Ask.av), .int .i64 id] m lv = some ([.int .i64 (-1)], m) := by
  refine call_go rfl rfl rfl ?_
  rcases h with h | ⟨h, h2⟩
  · obtain ⟨p, q⟩ := is_lt h
    simp [F50, p, q]
  · obtain ⟨p, q⟩ := is_le h
    obtain ⟨p2, q2⟩ := is_lt h2
    simp [F50, p, q, p2, q2]
theorem find_yes (l : List Ask) (k : Nat) (h : k < l.length) (hl : l.length ≤ 1000) (m : Mem) (lv : Nat) : (sem T).call 50 [.sl none 7 (l.map Ask.av), .int .i64 ((k : Int) + 1)] m lv = some ([.int .i64 (k : Int)], m) := by
  refine call_go rfl rfl rfl ?_
  obtain ⟨p, q⟩ := is_le (a := 1) (b := (k : Int) + 1) (by omega)
  obtain ⟨p2, q2⟩ := is_le (a := (k : Int) + 1) (b := l.length) (by omega)
  have hw := IntWalk.i64_in (k : Int) (by omega)
  simp [F50, p, q, p2, q2, hw]
theorem call51 (l : List Ask) (k : Nat) (hk : k < l.length) (x : Ask) (h : CopyOk l) (m : Mem) (lv : Nat) : (sem T).call 51 [.sl none 7 (l.map Ask.av), .int .i64 (k : Int), .agg x.av] m lv = some ([.sl (some 29) 7 ((l.set k x).map Ask.av)], m) := by
  have hn : l ≠ [] := by intro e; subst e; simp at hk
  have h0 := h.1
  have h1 : l.length ≤ 9223372036854775807 := by omega
  have h2 : l.length * 96 ≤ 140737488355328 := by omega
  have hs : splice ((l.map Ask.av).flatten) (k * 7 + 0) x.av = ((l.set k x).map Ask.av).flatten := flat_splice Ask.av_len l k 0 x.av (by simp) (List.getElem?_eq_getElem hk) (by simp [splice])
  simp only [Nat.add_zero, Ask.av] at hs
  have hz := flat_frz Ask.av_len Ask.av_data (l.set k x)
  rw [List.length_set] at hz
  have n1 : k * 7 < l.length * 7 := by omega
  have n2 : k * 7 + 7 ≤ l.length * 7 := by omega
  refine call_go rfl rfl rfl ?_
  simp [F51, hn, hk, h1, h2, flat_len Ask.av_len, hs, hz, n1, n2, flat_okPs Ask.av_data, flat_frzd Ask.av_data, -List.map_set]
end Go.Ev
