/- Submit, both ways. Condition: a table that can be copied. -/
import Derived.Test.YtjeghkeipoccaaaApS8
namespace Go.Ev
set_option linter.all false
def badS (s : ByteArray) (c : List Chg) (need til now : Int) : Bool := !person s || (decide ((c.length : Int) < 1) || (decide (64 < (c.length : Int)) || (decide (need < 1) || (decide (8 < need) || (!timeB til || (!timeB now || decide (til ≤ now)))))))
def submitE (l : List Ask) (s : ByteArray) (c : List Chg) (need til now : Int) : List Ask × Int × Int :=
  if badS s c need til now then ([], 0, 1) else if 64 ≤ l.length then ([], 0, 9) else (l ++ [⟨l.length + 1, s, c, [], need, til, 1⟩], l.length + 1, 0)
theorem badS_no {s : ByteArray} {c : List Chg} {need til now : Int} (h : badS s c need til now = false) : person s = true ∧ 1 ≤ (c.length : Int) ∧ (c.length : Int) ≤ 64 ∧ 1 ≤ need ∧ need ≤ 8 ∧ timeB til = true ∧ timeB now = true ∧ now < til := by
  unfold badS at h
  rw [Bool.or_eq_false_iff, Bool.or_eq_false_iff, Bool.or_eq_false_iff, Bool.or_eq_false_iff, Bool.or_eq_false_iff, Bool.or_eq_false_iff, Bool.or_eq_false_iff, decide_eq_false_iff_not, decide_eq_false_iff_not, decide_eq_false_iff_not, decide_eq_false_iff_not, decide_eq_false_iff_not] at h
  obtain ⟨a, b, c, d, e, f, g, i⟩ := h
  exact ⟨by simpa using a, by omega, by omega, by omega, by omega, by simpa using f, by simpa using g, by omega⟩
theorem call18 (l : List Ask) (h : CopyOk l) (s : ByteArray) (c : List Chg) (need til now : Int) (m : Mem) (lv : Nat) : (sem T).call 18 [.sl none 7 (l.map Ask.av), .str s, .sl none 17 (c.map Chg.av), .int .i64 need, .int .i64 til, .int .i64 now] m lv =
    some ([.sl (some 29) 7 ((submitE l s c need til now).1.map Ask.av), .int .i64 (submitE l s c need til now).2.1, .int .i64 (submitE l s c need til now).2.2], m) := by
  have ht : ∀ (n : Int) (m : Mem) (lv : Nat), (sem T).call 34 [.int .i64 n] m lv = some ([.bool (timeB n)], m) := call34
  refine call_go rfl rfl rfl ?_
  unfold submitE
  cases hB : badS s c need til now with
  | true =>
    unfold badS at hB
    rw [if_pos rfl]
    cases p1 : person s
    · simp [F18, call33, ht, p1]
    · rcases le_or 1 (c.length : Int) with ⟨r1, s1⟩ | ⟨r1, s1⟩
      · rcases le_or (c.length : Int) 64 with ⟨r2, s2⟩ | ⟨r2, s2⟩
        · rcases le_or 1 need with ⟨p3, q3⟩ | ⟨p3, q3⟩
          · rcases le_or need 8 with ⟨p4, q4⟩ | ⟨p4, q4⟩
            · cases u1 : timeB til
              · simp [F18, call33, ht, p1, r1, s1, r2, s2, p3, q3, p4, q4, u1]
              · cases u2 : timeB now
                · simp [F18, call33, ht, p1, r1, s1, r2, s2, p3, q3, p4, q4, u1, u2]
                · rcases le_or til now with ⟨w1, x1⟩ | ⟨w1, x1⟩
                  · simp [F18, call33, ht, p1, r1, s1, r2, s2, p3, q3, p4, q4, u1, u2, w1, x1]
                  · simp [p1, s1, s2, q3, q4, u1, u2, w1] at hB
            · simp [F18, call33, ht, p1, r1, s1, r2, s2, p3, q3, p4, q4]
          · simp [F18, call33, ht, p1, r1, s1, r2, s2, p3, q3]
        · simp [F18, call33, ht, p1, r1, s1, r2, s2]
      · simp [F18, call33, ht, p1, r1, s1]
  | false =>
    obtain ⟨p1, r1, r2, p3, p4, u1, u2, w1⟩ := badS_no hB
    have hc1 : c.length ≤ 9223372036854775807 := by omega
    have hc2 : c.length * 168 ≤ 140737488355328 := by omega
    obtain ⟨r1, s1⟩ := is_le r1
    obtain ⟨r2, s2⟩ := is_le r2
    obtain ⟨p3, q3⟩ := is_le p3
    obtain ⟨p4, q4⟩ := is_le p4
    obtain ⟨w1, x1⟩ := is_lt w1
    rw [if_neg (by decide)]
    have h0 := h.1
    have h1 : l.length ≤ 9223372036854775807 := by omega
    have h2 : l.length * 96 ≤ 140737488355328 := by omega
    have h3 : (l.length + 1) * 96 ≤ 140737488355328 := by omega
    have h4 : l.length ≤ 9223372036854775806 := by omega
    have hw := IntWalk.i64_in ((l.length : Int) + 1) (by omega)
    rcases le_or 64 (l.length : Int) with ⟨y1, z1⟩ | ⟨y1, z1⟩
    · rw [if_pos (by have := of_eq_true y1; omega)]
      simp [F18, call33, ht, p1, r1, s1, r2, s2, p3, q3, p4, q4, u1, u2, w1, x1, y1, z1]
    · rw [if_neg (by have := of_eq_false y1; omega)]
      simp [F18, call33, ht, p1, r1, s1, r2, s2, p3, q3, p4, q4, u1, u2, w1, x1, y1, z1, h1, h2, h3, h4, hw, hc1, hc2, call35 l h]
theorem call26 (l : List Ask) (h : CopyOk l) (s : ByteArray) (c : List Chg) (need til now : Int) (m : Mem) (lv : Nat) : (sem T).call 26 [.sl none 7 (l.map Ask.av), .str s, .sl none 17 (c.map Chg.av), .int .i64 need, .int .i64 til, .int .i64 now] m lv =
    some ([.sl (some 29) 7 ((submitE l s c need til now).1.map Ask.av), .int .i64 (submitE l s c need til now).2.1, .int .i64 (submitE l s c need til now).2.2], m) := by
  have ht : ∀ (n : Int) (m : Mem) (lv : Nat), (sem T).call 45 [.int .i64 n] m lv = some ([.bool (timeB n)], m) := call45
  refine call_go rfl rfl rfl ?_
  unfold submitE
  cases hB : badS s c need til now with
  | true =>
    unfold badS at hB
    rw [if_pos rfl]
    cases p1 : person s
    · simp [F26, call43, ht, p1]
    · rcases le_or 1 (c.length : Int) with ⟨r1, s1⟩ | ⟨r1, s1⟩
      · rcases le_or (c.length : Int) 64 with ⟨r2, s2⟩ | ⟨r2, s2⟩
        · rcases le_or 1 need with ⟨p3, q3⟩ | ⟨p3, q3⟩
          · rcases le_or need 8 with ⟨p4, q4⟩ | ⟨p4, q4⟩
            · cases u1 : timeB til
              · simp [F26, call43, ht, p1, r1, s1, r2, s2, p3, q3, p4, q4, u1]
              · cases u2 : timeB now
                · simp [F26, call43, ht, p1, r1, s1, r2, s2, p3, q3, p4, q4, u1, u2]
                · rcases le_or til now with ⟨w1, x1⟩ | ⟨w1, x1⟩
                  · simp [F26, call43, ht, p1, r1, s1, r2, s2, p3, q3, p4, q4, u1, u2, w1, x1]
                  · simp [p1, s1, s2, q3, q4, u1, u2, w1] at hB
            · simp [F26, call43, ht, p1, r1, s1, r2, s2, p3, q3, p4, q4]
          · simp [F26, call43, ht, p1, r1, s1, r2, s2, p3, q3]
        · simp [F26, call43, ht, p1, r1, s1, r2, s2]
      · simp [F26, call43, ht, p1, r1, s1]
  | false =>
    obtain ⟨p1, r1, r2, p3, p4, u1, u2, w1⟩ := badS_no hB
    have hc1 : c.length ≤ 9223372036854775807 := by omega
    have hc2 : c.length * 168 ≤ 140737488355328 := by omega
    obtain ⟨r1, s1⟩ := is_le r1
    obtain ⟨r2, s2⟩ := is_le r2
    obtain ⟨p3, q3⟩ := is_le p3
    obtain ⟨p4, q4⟩ := is_le p4
    obtain ⟨w1, x1⟩ := is_lt w1
    rw [if_neg (by decide)]
    have h0 := h.1
    have h1 : l.length ≤ 9223372036854775807 := by omega
    have h2 : l.length * 96 ≤ 140737488355328 := by omega
    have h3 : (l.length + 1) * 96 ≤ 140737488355328 := by omega
    have h4 : l.length ≤ 9223372036854775806 := by omega
    have hw := IntWalk.i64_in ((l.length : Int) + 1) (by omega)
    rcases le_or 64 (l.length : Int) with ⟨y1, z1⟩ | ⟨y1, z1⟩
    · rw [if_pos (by have := of_eq_true y1; omega)]
      simp [F26, call43, ht, p1, r1, s1, r2, s2, p3, q3, p4, q4, u1, u2, w1, x1, y1, z1]
    · rw [if_neg (by have := of_eq_false y1; omega)]
      simp [F26, call43, ht, p1, r1, s1, r2, s2, p3, q3, p4, q4, u1, u2, w1, x1, y1, z1, h1, h2, h3, h4, hw, hc1, hc2]
end Go.Ev
