/- Equal tables are found equal. Condition: short lists. -/
import Derived.Test.YtjeghkeipoccaaaApS9
namespace Go.Ev
set_option linter.all false
theorem Chg.av_len (x : Chg) : x.av.length = 17 := rfl
theorem changes_loop (c : List Chg) (h : c.length ≤ 1000000) (m : Mem) (lv : Nat) : ∀ (d i : Nat), i + d = c.length → ∀ t : St, t.mask [0, 1, 5] [] = some ⟨26, lv, tmOf [(0, .sl none 17 (c.map Chg.av)), (1, .sl none 17 (c.map Chg.av)), (5, .int .i64 (i : Int))], bxOf [], m⟩ →
    (sem T).loop [0, 1, 5] [] L15_0 t = some (.ex 0, ⟨26, lv, tmOf [], bxOf [], m⟩)
  | 0, i, hd, t, hs => by
    obtain rfl : i = c.length := by omega
    refine loop_end (fl := .ex 0) hs ?_ (by intro e; cases e)
    simp [L15_0]
  | d + 1, i, hd, t, hs => by
    have hi : i < c.length := by omega
    have hw := IntWalk.i64_in ((i : Int) + 1) (by omega)
    refine loop_round hs ?_ (changes_loop c h m lv d (i + 1) (by omega))
    simp [L15_0, hi, hw, Chg.av]
theorem call15 (c : List Chg) (h : c.length ≤ 1000000) (m : Mem) (lv : Nat) : (sem T).call 15 [.sl none 17 (c.map Chg.av), .sl none 17 (c.map Chg.av)] m lv = some ([.bool true], m) := by
  have hl := changes_loop c h m lv c.length 0 (by omega)
  simp only [Int.natCast_zero] at hl
  refine call_go rfl rfl rfl ?_
  simp [F15, hl]
theorem same_loop (x : Ask) (h : x.votes.length ≤ 1000000) (m : Mem) (lv : Nat) : ∀ (d i : Nat), i + d = x.votes.length → ∀ t : St, t.mask [2, 3, 5] [2, 3] = some ⟨74, lv, tmOf [(2, .ptr lv 2 0), (3, .ptr lv 3 0), (5, .int .i64 (i : Int))], bxOf [(2, some (.cells 29 x.av)), (3, some (.cells 29 x.av))], m⟩ →
    (sem T).loop [2, 3, 5] [2, 3] L32_0 t = some (.ex 0, ⟨74, lv, tmOf [], bxOf [], m⟩)
  | 0, i, hd, t, hs => by
    obtain rfl : i = x.votes.length := by omega
    refine loop_end (fl := .ex 0) hs ?_ (by intro e; cases e)
    simp [L32_0]
  | d + 1, i, hd, t, hs => by
    have hi : i < x.votes.length := by omega
    have hw := IntWalk.i64_in ((i : Int) + 1) (by omega)
    refine loop_round hs ?_ (same_loop x h m lv d (i + 1) (by omega))
    simp [L32_0, hi, hw, one1, sAv]
theorem call32 (x : Ask) (h : x.chg.length ≤ 100000 ∧ x.votes.length ≤ 100000) (m : Mem) (lv : Nat) : (sem T).call 32 [.agg x.av, .agg x.av] m lv = some ([.bool true], m) := by
  have hl := same_loop x (by omega) m lv x.votes.length 0 (by omega)
  simp only [Int.natCast_zero, Ask.av] at hl
  have hc := call15 x.chg (by omega)
  refine call_go rfl rfl rfl ?_
  simp [F32, hl, hc]
theorem tables_loop (l : List Ask) (h : CopyOk l) (m : Mem) (lv : Nat) : ∀ (d i : Nat), i + d = l.length → ∀ t : St, t.mask [0, 1, 5] [] = some ⟨27, lv, tmOf [(0, .sl none 7 (l.map Ask.av)), (1, .sl none 7 (l.map Ask.av)), (5, .int .i64 (i : Int))], bxOf [], m⟩ →
    (sem T).loop [0, 1, 5] [] L14_0 t = some (.ex 0, ⟨27, lv, tmOf [], bxOf [], m⟩)
  | 0, i, hd, t, hs => by
    obtain rfl : i = l.length := by omega
    refine loop_end (fl := .ex 0) hs ?_ (by intro e; cases e)
    simp [L14_0]
  | d + 1, i, hd, t, hs => by
    have h0 := h.1
    have hi : i < l.length := by omega
    have hw := IntWalk.i64_in ((i : Int) + 1) (by omega)
    have hc := call32 l[i] (h.2 l[i] (List.getElem_mem hi))
    simp only [Ask.av] at hc
    refine loop_round hs ?_ (tables_loop l h m lv d (i + 1) (by omega))
    simp [L14_0, hi, hw, hc]
theorem call14 (l : List Ask) (h : CopyOk l) (m : Mem) (lv : Nat) : (sem T).call 14 [.sl none 7 (l.map Ask.av), .sl none 7 (l.map Ask.av)] m lv = some ([.bool true], m) := by
  have hl := tables_loop l h m lv l.length 0 (by omega)
  simp only [Int.natCast_zero] at hl
  refine call_go rfl rfl rfl ?_
  simp [F14, hl]
end Go.Ev
