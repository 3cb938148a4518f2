/- Changed. Condition: a table that can be copied. -/
import Derived.Test.YtjeghkeipoccaaaApSF
namespace Go.Ev
set_option linter.all false
theorem mem_low {n lv : Nat} {tm : Nat → AV} {bx : Nat → Option ABox} {low : Mem} {l : Nat} (h : l < lv) : (St.mk n lv tm bx low).mem l = low l := by
  unfold St.mem
  simp only
  rw [if_neg (by omega), if_pos h]
theorem mark_full (l : List Ask) (k : Nat) (hk : k < (mark l l.length).length) (hk2 : k < l.length) : (mark l l.length)[k] = ⟨some 55, some 9, l[k]⟩ := by simp [mark, hk2]
theorem mark_full_set (l : List Ask) (k : Nat) (x : Ask) : ((mark l l.length).set k ⟨some 55, some 9, x⟩).map (fun x => x.av.map AV.noOwn1) = (l.set k x).map Ask.av := by
  rw [List.map_set, List.map_set, mark_map]; rfl
theorem changed_no (l : List Ask) (id : Int) (hid : id < 1 ∨ (1 ≤ id ∧ (l.length : Int) < id)) (g : FuncId) (L2 a : Nat) (m : Mem) (lv : Nat) (hL2 : L2 < lv) : (sem T).call 37 [.sl none 7 (l.map Ask.av), .int .i64 id, .fn g [.ptr L2 a 0]] m lv = some ([.sl (some 29) 7 [], .int .i64 11], m) := by
  refine call_go rfl rfl rfl ?_
  rcases hid with h | ⟨h, h2⟩
  · obtain ⟨p, q⟩ := is_lt h
    simp [F37, p, q]
  · obtain ⟨p, q⟩ := is_le h
    obtain ⟨p2, q2⟩ := is_lt h2
    simp [F37, p, q, p2, q2]
theorem changed_yes (l : List Ask) (h : CopyOk l) (k : Nat) (hk : k < l.length) (f : Ask → Int × Ask) (g : FuncId) (L2 a : Nat) (B : ABox) (m : Mem) (lv : Nat) (hL2 : L2 < lv) (hB : m L2 a = some B)
    (hcl : ∀ m' : Mem, m' L2 a = some B → m' lv 19 = some (.cells 29 (((mark l l.length).map AskQ.av).flatten)) → (sem T).call g [.ptr lv 19 (k * 7), .ptr L2 a 0] m' (lv + 1) = some ([.int .i64 (f l[k]).1], if (f l[k]).1 = 0 then updM m' lv 19 (.cells 29 ((((mark l l.length).set k ⟨some 55, some 9, (f l[k]).2⟩).map AskQ.av).flatten)) else m')) :
    (sem T).call 37 [.sl none 7 (l.map Ask.av), .int .i64 ((k : Int) + 1), .fn g [.ptr L2 a 0]] m lv = some (if (f l[k]).1 = 0 then [.sl (some 29) 7 ((l.set k (f l[k]).2).map Ask.av), .int .i64 0] else [.sl (some 29) 7 [], .int .i64 (f l[k]).1], m) := by
  have h0 := h.1
  have hn : l ≠ [] := by intro e; subst e; simp at hk
  have hc := carry35 l h hn
  obtain ⟨p, q⟩ := is_le (a := 1) (b := (k : Int) + 1) (by omega)
  obtain ⟨p2, q2⟩ := is_le (a := (k : Int) + 1) (b := l.length) (by omega)
  have hw := IntWalk.i64_in (k : Int) (by omega)
  have n1 : k * 7 < l.length * 7 := by omega
  have hz := flatN_frz AskQ.av_len ((mark l l.length).set k ⟨some 55, some 9, (f l[k]).2⟩)
  rw [mark_full_set, List.length_set, mark_len] at hz
  refine call_go rfl rfl rfl ?_
  by_cases he : (f l[k]).1 = 0
  · simp only [he, if_true] at hcl
    simp [F37, p, q, p2, q2, hc, hw, hk, n1, hcl, hB, hL2, he, mem_low, after_own, flat_len AskQ.av_len, mark_len, hz, flatN_okPs AskQ.av_ok, flatN_frzd AskQ.av_data, List.length_set, -List.map_set]
  · simp only [he, if_false] at hcl
    simp [F37, p, q, p2, q2, hc, hw, hk, n1, hcl, hB, hL2, he, mem_low, after_own, flat_len AskQ.av_len, mark_len, flatN_okPs AskQ.av_ok, flatN_frzd AskQ.av_data, List.length_set, -List.map_set]
theorem changed2_no (l : List Ask) (id : Int) (hid : id < 1 ∨ (1 ≤ id ∧ (l.length : Int) < id)) (g : FuncId) (L2 a b : Nat) (m : Mem) (lv : Nat) (hL2 : L2 < lv) : (sem T).call 37 [.sl none 7 (l.map Ask.av), .int .i64 id, .fn g [.ptr L2 a 0, .ptr L2 b 0]] m lv = some ([.sl (some 29) 7 [], .int .i64 11], m) := by
  refine call_go rfl rfl rfl ?_
  rcases hid with h | ⟨h, h2⟩
  · obtain ⟨p, q⟩ := is_lt h
    simp [F37, p, q]
  · obtain ⟨p, q⟩ := is_le h
    obtain ⟨p2, q2⟩ := is_lt h2
    simp [F37, p, q, p2, q2]
theorem changed2_yes (l : List Ask) (h : CopyOk l) (k : Nat) (hk : k < l.length) (f : Ask → Int × Ask) (g : FuncId) (L2 a b : Nat) (B B2 : ABox) (m : Mem) (lv : Nat) (hL2 : L2 < lv) (hB : m L2 a = some B) (hB2 : m L2 b = some B2)
    (hcl : ∀ m' : Mem, m' L2 a = some B → m' L2 b = some B2 → m' lv 19 = some (.cells 29 (((mark l l.length).map AskQ.av).flatten)) → (sem T).call g [.ptr lv 19 (k * 7), .ptr L2 a 0, .ptr L2 b 0] m' (lv + 1) = some ([.int .i64 (f l[k]).1], if (f l[k]).1 = 0 then updM m' lv 19 (.cells 29 ((((mark l l.length).set k ⟨some 55, some 9, (f l[k]).2⟩).map AskQ.av).flatten)) else m')) :
    (sem T).call 37 [.sl none 7 (l.map Ask.av), .int .i64 ((k : Int) + 1), .fn g [.ptr L2 a 0, .ptr L2 b 0]] m lv = some (if (f l[k]).1 = 0 then [.sl (some 29) 7 ((l.set k (f l[k]).2).map Ask.av), .int .i64 0] else [.sl (some 29) 7 [], .int .i64 (f l[k]).1], m) := by
  have h0 := h.1
  have hn : l ≠ [] := by intro e; subst e; simp at hk
  have hc := carry35 l h hn
  obtain ⟨p, q⟩ := is_le (a := 1) (b := (k : Int) + 1) (by omega)
  obtain ⟨p2, q2⟩ := is_le (a := (k : Int) + 1) (b := l.length) (by omega)
  have hw := IntWalk.i64_in (k : Int) (by omega)
  have n1 : k * 7 < l.length * 7 := by omega
  have hz := flatN_frz AskQ.av_len ((mark l l.length).set k ⟨some 55, some 9, (f l[k]).2⟩)
  rw [mark_full_set, List.length_set, mark_len] at hz
  refine call_go rfl rfl rfl ?_
  by_cases he : (f l[k]).1 = 0
  · simp only [he, if_true] at hcl
    simp [F37, p, q, p2, q2, hc, hw, hk, n1, hcl, hB, hB2, hL2, he, mem_low, after_own, flat_len AskQ.av_len, mark_len, hz, flatN_okPs AskQ.av_ok, flatN_frzd AskQ.av_data, List.length_set, -List.map_set]
  · simp only [he, if_false] at hcl
    simp [F37, p, q, p2, q2, hc, hw, hk, n1, hcl, hB, hB2, hL2, he, mem_low, after_own, flat_len AskQ.av_len, mark_len, flatN_okPs AskQ.av_ok, flatN_frzd AskQ.av_data, List.length_set, -List.map_set]
end Go.Ev
