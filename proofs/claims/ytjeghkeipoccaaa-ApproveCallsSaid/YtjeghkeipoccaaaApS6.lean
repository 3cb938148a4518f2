/- Tables: their check, their sizes. Condition: none. -/
import Derived.Test.YtjeghkeipoccaaaApS5
namespace Go.Ev
set_option linter.all false
theorem Ask.av_len (x : Ask) : x.av.length = 7 := rfl
theorem Ask.av_data (x : Ask) : ∀ c ∈ x.av, c.isData = true := by simp
def firstE : List Ask → Nat → Int
  | [], _ => 0
  | x :: r, i => if rightE i x = 0 then firstE r (i + 1) else rightE i x
def checkE (l : List Ask) : Int := if 64 < l.length then 9 else firstE l 0
/-- The lists' lengths are lengths. -/
def LenOk (l : List Ask) : Prop := l.length ≤ 9223372036854775807 ∧ ∀ x ∈ l, x.votes.length ≤ 9223372036854775807 ∧ x.chg.length ≤ 9223372036854775807
theorem check_loop (l : List Ask) (h : l.length ≤ 64) (ho : LenOk l) (m : Mem) (lv : Nat) : ∀ (d i : Nat), i + d = l.length → ∀ t : St, t.mask [9, 10, 11] [] = some ⟨23, lv, tmOf [(9, .sl none 7 (l.map Ask.av)), (10, .int .i64 (l.length : Int)), (11, .int .i64 (i : Int))], bxOf [], m⟩ →
    (sem T).loop [9, 10, 11] [] L8_0 t = some (if firstE (l.drop i) i = 0 then (.ex 0, ⟨23, lv, tmOf [], bxOf [], m⟩) else (.ret, ⟨23, lv, tmOf [(2, .int .i64 (firstE (l.drop i) i))], bxOf [], m⟩))
  | 0, i, hd, t, hs => by
    obtain rfl : i = l.length := by omega
    refine loop_to (loop_end (fl := .ex 0) hs ?_ (by intro e; cases e)) (by rw [List.drop_length]; rfl)
    simp [L8_0]
  | d + 1, i, hd, t, hs => by
    have hi : i < l.length := by omega
    have hw := IntWalk.i64_in ((i : Int) + 1) (by omega)
    have hdr : l.drop i = l[i] :: l.drop (i + 1) := List.drop_eq_getElem_cons hi
    have hv := (ho.2 l[i] (List.getElem_mem hi)).1
    have hc := call21 i (by omega) l[i] hv
    rw [hdr]
    unfold firstE
    by_cases he : rightE i l[i] = 0
    · rw [he] at hc
      rw [if_pos he]
      refine loop_round hs ?_ (check_loop l h ho m lv d (i + 1) (by omega))
      simp at hc
      simp [L8_0, hi, hw, hc]
    · rw [if_neg he, if_neg he]
      refine loop_end (fl := .ret) (s' := ⟨23, lv, tmOf [(2, .int .i64 (rightE i l[i]))], bxOf [], m⟩) hs ?_ (by intro e; cases e)
      simp at hc
      simp [L8_0, hi, hw, hc, he]
theorem call8 (l : List Ask) (ho : LenOk l) (m : Mem) (lv : Nat) : (sem T).call 8 [.sl none 7 (l.map Ask.av)] m lv = some ([.int .i64 (checkE l)], m) := by
  refine call_go rfl rfl rfl ?_
  unfold checkE
  have h1 := ho.1
  rcases le_or (l.length : Int) 64 with ⟨p, q⟩ | ⟨p, q⟩
  · have hn : ¬ 64 < l.length := by have := of_eq_true p; omega
    have hl := check_loop l (by omega) ho m lv l.length 0 (by omega)
    simp only [List.drop_zero, Int.natCast_zero] at hl
    rw [if_neg hn]
    by_cases he : firstE l 0 = 0
    · rw [if_pos he] at hl
      simp [F8, h1, p, q, hl, he]
    · rw [if_neg he] at hl
      simp [F8, h1, p, q, hl]
  · have hn : 64 < l.length := by have := of_eq_true q; omega
    rw [if_pos hn]
    simp [F8, h1, p, q]
theorem rcheck_loop (l : List Ask) (h : l.length ≤ 64) (ho : LenOk l) (m : Mem) (lv : Nat) : ∀ (d i : Nat), i + d = l.length → ∀ t : St, t.mask [0, 3] [] = some ⟨23, lv, tmOf [(0, .sl none 7 (l.map Ask.av)), (3, .int .i64 (i : Int))], bxOf [], m⟩ →
    (sem T).loop [0, 3] [] L10_0 t = some (if firstE (l.drop i) i = 0 then (.ex 0, ⟨23, lv, tmOf [], bxOf [], m⟩) else (.ret, ⟨23, lv, tmOf [(2, .int .i64 (firstE (l.drop i) i))], bxOf [], m⟩))
  | 0, i, hd, t, hs => by
    obtain rfl : i = l.length := by omega
    refine loop_to (loop_end (fl := .ex 0) hs ?_ (by intro e; cases e)) (by rw [List.drop_length]; rfl)
    simp [L10_0, ho.1]
  | d + 1, i, hd, t, hs => by
    have hi : i < l.length := by omega
    have h1 := ho.1
    have hw := IntWalk.i64_in ((i : Int) + 1) (by omega)
    have hdr : l.drop i = l[i] :: l.drop (i + 1) := List.drop_eq_getElem_cons hi
    have hv := (ho.2 l[i] (List.getElem_mem hi)).1
    have hc := call22 i (by omega) l[i] hv
    rw [hdr]
    unfold firstE
    by_cases he : rightE i l[i] = 0
    · rw [he] at hc
      rw [if_pos he]
      refine loop_round hs ?_ (rcheck_loop l h ho m lv d (i + 1) (by omega))
      simp at hc
      simp [L10_0, hi, h1, hw, hc]
    · rw [if_neg he, if_neg he]
      refine loop_end (fl := .ret) (s' := ⟨23, lv, tmOf [(2, .int .i64 (rightE i l[i]))], bxOf [], m⟩) hs ?_ (by intro e; cases e)
      simp at hc
      simp [L10_0, hi, h1, hw, hc, he]
theorem call10 (l : List Ask) (ho : LenOk l) (m : Mem) (lv : Nat) : (sem T).call 10 [.sl none 7 (l.map Ask.av)] m lv = some ([.int .i64 (checkE l)], m) := by
  refine call_go rfl rfl rfl ?_
  unfold checkE
  have h1 := ho.1
  rcases le_or (l.length : Int) 64 with ⟨p, q⟩ | ⟨p, q⟩
  · have hn : ¬ 64 < l.length := by have := of_eq_true p; omega
    have hl := rcheck_loop l (by omega) ho m lv l.length 0 (by omega)
    simp only [List.drop_zero, Int.natCast_zero] at hl
    rw [if_neg hn]
    by_cases he : firstE l 0 = 0
    · rw [if_pos he] at hl
      simp [F10, h1, p, q, hl, he]
    · rw [if_neg he] at hl
      simp [F10, h1, p, q, hl]
  · have hn : 64 < l.length := by have := of_eq_true q; omega
    rw [if_pos hn]
    simp [F10, h1, p, q]
def votesOk (l : List ByteArray) : Bool := l.all fun s => decide ((s.size : Int) ≤ 100)
def fewX (x : Ask) : Bool := decide ((x.chg.length : Int) ≤ 70) && (decide ((x.votes.length : Int) ≤ 20) && (decide ((x.own.size : Int) ≤ 100) && votesOk x.votes))
def few (l : List Ask) : Bool := decide ((l.length : Int) ≤ 70) && l.all fewX
theorem few_in (l : List Ask) (h : l.length ≤ 70) (k : Nat) (hk : k < l.length) (hv : l[k].votes.length ≤ 20) (m : Mem) (lv : Nat) : ∀ (d i : Nat), i + d = l[k].votes.length → ∀ t : St, t.mask [0, 3, 4] [] = some ⟨59, lv, tmOf [(0, .sl none 7 (l.map Ask.av)), (3, .int .i64 (k : Int)), (4, .int .i64 (i : Int))], bxOf [], m⟩ →
    (sem T).loop [0, 3, 4] [] L9_0 t = some (if votesOk (l[k].votes.drop i) then (.ex 2, ⟨59, lv, tmOf [(0, .sl none 7 (l.map Ask.av)), (3, .int .i64 (k : Int))], bxOf [], m⟩) else (.ret, ⟨59, lv, tmOf [(2, .bool false)], bxOf [], m⟩))
  | 0, i, hd, t, hs => by
    obtain rfl : i = l[k].votes.length := by omega
    refine loop_to (loop_end (fl := .ex 2) hs ?_ (by intro e; cases e)) (by rw [List.drop_length]; rfl)
    simp [L9_0, hk]
  | d + 1, i, hd, t, hs => by
    have hi : i < l[k].votes.length := by omega
    have hw := IntWalk.i64_in ((i : Int) + 1) (by omega)
    have hdr : l[k].votes.drop i = l[k].votes[i] :: l[k].votes.drop (i + 1) := List.drop_eq_getElem_cons hi
    rw [hdr]
    unfold votesOk
    rw [List.all_cons]
    rcases le_or ((l[k].votes[i]).size : Int) 100 with ⟨p, q⟩ | ⟨p, q⟩
    · rw [decide_eq_true (of_eq_true p), Bool.true_and]
      refine loop_round hs ?_ (few_in l h k hk hv m lv d (i + 1) (by omega))
      simp [L9_0, hk, hi, hw, one1, sAv, p, q]
    · rw [decide_eq_false (of_eq_false p), Bool.false_and]
      refine loop_end (fl := .ret) (s' := ⟨59, lv, tmOf [(2, .bool false)], bxOf [], m⟩) hs ?_ (by intro e; cases e)
      simp [L9_0, hk, hi, hw, one1, sAv, p, q]
end Go.Ev
