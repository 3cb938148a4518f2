/- Persons: what the reference's functions answer. Condition: none. -/
import Derived.Test.YtjeghkeipoccaaaApS2
namespace Go.Ev
set_option linter.all false
theorem refperson_loop (s : ByteArray) (hx : s.size ≤ 32) (m : Mem) (lv : Nat) : ∀ (d i : Nat), i + d = s.data.toList.length → ∀ t : St, t.mask [0, 3] [] = some ⟨28, lv, tmOf [(0, .str s), (3, .int .i64 (i : Int))], bxOf [], m⟩ →
    (sem T).loop [0, 3] [] L43_0 t = some (if (s.data.toList.drop i).any badB then (.ret, ⟨28, lv, tmOf [(2, .bool false)], bxOf [], m⟩) else (.ex 0, ⟨28, lv, tmOf [], bxOf [], m⟩))
  | 0, i, hd, t, hs => by
    obtain rfl : i = s.data.toList.length := by omega
    have e : s.data.toList.length = s.size := Array.length_toList
    refine loop_to (loop_end (fl := .ex 0) hs ?_ (by intro e; cases e)) (by rw [List.drop_length]; rfl)
    simp [L43_0, e]
  | d + 1, i, hd, t, hs => by
    have e : s.data.toList.length = s.size := Array.length_toList
    have hi : i < s.data.toList.length := by omega
    have hi' : i < s.size := by omega
    have hw := IntWalk.i64_in ((i : Int) + 1) (by omega)
    have hdr : s.data.toList.drop i = s.data.toList[i] :: s.data.toList.drop (i + 1) := List.drop_eq_getElem_cons hi
    have hq : s.data.toList[i] = s[i] := Array.getElem_toList _
    have hc' : (s[i]?) = some s[i] := getElem?_pos s i hi'
    rw [hdr, hq, List.any_cons]
    by_cases hc : badB s[i] = true
    · rw [hc]
      refine loop_to (loop_end (fl := .ret) (s' := ⟨28, lv, tmOf [(2, .bool false)], bxOf [], m⟩) hs ?_ (by intro e; cases e)) rfl
      unfold badB at hc
      rcases le_or 33 ((s[i]).toNat : Int) with ⟨p, q⟩ | ⟨p, q⟩ <;> rcases le_or ((s[i]).toNat : Int) 126 with ⟨p2, q2⟩ | ⟨p2, q2⟩ <;> simp [q, q2] at hc <;> simp [L43_0, hi', hc', p, q, p2, q2]
    · have hc : badB s[i] = false := by simpa using hc
      rw [hc, Bool.false_or]
      refine loop_round hs ?_ (refperson_loop s hx m lv d (i + 1) (by omega))
      unfold badB at hc
      rcases le_or 33 ((s[i]).toNat : Int) with ⟨p, q⟩ | ⟨p, q⟩ <;> rcases le_or ((s[i]).toNat : Int) 126 with ⟨p2, q2⟩ | ⟨p2, q2⟩ <;> simp [q, q2] at hc <;> simp [L43_0, hi', hc', p, q, p2, q2, hw]
theorem call43 (s : ByteArray) (m : Mem) (lv : Nat) : (sem T).call 43 [.str s] m lv = some ([.bool (person s)], m) := by
  refine call_go rfl rfl rfl ?_
  unfold person
  rcases le_or 1 (s.size : Int) with ⟨h, h'⟩ | ⟨h, h'⟩
  · rcases le_or (s.size : Int) 32 with ⟨h2, h2'⟩ | ⟨h2, h2'⟩
    · have := of_eq_true h2
      have hl := refperson_loop s (by omega) m lv s.data.toList.length 0 (by omega)
      simp only [List.drop_zero] at hl
      cases hb : s.data.toList.any badB <;> rw [hb] at hl <;> simp [F43, h, h', h2, h2', hl, hb]
    · simp [F43, h, h', h2, h2']
  · simp [F43, h, h']
theorem call45 (n : Int) (m : Mem) (lv : Nat) : (sem T).call 45 [.int .i64 n] m lv = some ([.bool (decide (0 ≤ n) && decide (n ≤ 4294967295))], m) := by
  refine call_go rfl rfl rfl ?_
  by_cases h : 0 ≤ n <;> simp [F45, h]
theorem persons_loop (xs : List ByteArray) (hx : xs.length ≤ 9223372036854775807) (m : Mem) (lv : Nat) : ∀ (d i : Nat), i + d = xs.length → ∀ t : St, t.mask [0, 3] [] = some ⟨16, lv, tmOf [(0, .sl none 1 (xs.map (one1 sAv))), (3, .int .i64 (i : Int))], bxOf [], m⟩ →
    (sem T).loop [0, 3] [] L44_0 t = some (if (xs.drop i).any (fun s => !person s) then (.ret, ⟨16, lv, tmOf [(2, .bool false)], bxOf [], m⟩) else (.ex 0, ⟨16, lv, tmOf [], bxOf [], m⟩))
  | 0, i, hd, t, hs => by
    obtain rfl : i = xs.length := by omega
    refine loop_to (loop_end (fl := .ex 0) hs ?_ (by intro e; cases e)) (by rw [List.drop_length]; rfl)
    simp [L44_0]
  | d + 1, i, hd, t, hs => by
    have hi : i < xs.length := by omega
    have hw := IntWalk.i64_in ((i : Int) + 1) (by omega)
    have hdr : xs.drop i = xs[i] :: xs.drop (i + 1) := List.drop_eq_getElem_cons hi
    rw [hdr, List.any_cons]
    cases hc : person xs[i] with
    | false =>
      refine loop_to (loop_end (fl := .ret) (s' := ⟨16, lv, tmOf [(2, .bool false)], bxOf [], m⟩) hs ?_ (by intro e; cases e)) rfl
      simp [L44_0, hi, one1, sAv, call43, hc]
    | true =>
      rw [Bool.not_true, Bool.false_or]
      refine loop_round hs ?_ (persons_loop xs hx m lv d (i + 1) (by omega))
      simp [L44_0, hi, one1, sAv, call43, hc, hw]
theorem call44 (xs : List ByteArray) (hx : xs.length ≤ 9223372036854775807) (m : Mem) (lv : Nat) : (sem T).call 44 [.sl none 1 (xs.map (one1 sAv))] m lv = some ([.bool (!xs.any fun s => !person s)], m) := by
  have hl := persons_loop xs hx m lv xs.length 0 (by omega)
  simp only [List.drop_zero] at hl
  refine call_go rfl rfl rfl ?_
  cases hb : xs.any (fun s => !person s) <;> rw [hb] at hl <;> simp [F44, hl]
theorem voted_loop (x : ByteArray) (xs : List ByteArray) (hx : xs.length ≤ 9223372036854775807) (m : Mem) (lv : Nat) : ∀ (d i : Nat), i + d = xs.length → ∀ t : St, t.mask [0, 1, 5] [] = some ⟨18, lv, tmOf [(0, .sl none 1 (xs.map (one1 sAv))), (1, .str x), (5, .int .i64 (i : Int))], bxOf [], m⟩ →
    (sem T).loop [0, 1, 5] [] L46_0 t = some (if (xs.drop i).any (x == ·) then (.ret, ⟨18, lv, tmOf [(4, .bool true)], bxOf [], m⟩) else (.ex 0, ⟨18, lv, tmOf [], bxOf [], m⟩))
  | 0, i, hd, t, hs => by
    obtain rfl : i = xs.length := by omega
    refine loop_to (loop_end (fl := .ex 0) hs ?_ (by intro e; cases e)) (by rw [List.drop_length]; rfl)
    simp [L46_0]
  | d + 1, i, hd, t, hs => by
    have hi : i < xs.length := by omega
    have hw := IntWalk.i64_in ((i : Int) + 1) (by omega)
    have hdr : xs.drop i = xs[i] :: xs.drop (i + 1) := List.drop_eq_getElem_cons hi
    rw [hdr, List.any_cons]
    cases hc : x == xs[i] with
    | true =>
      obtain rfl := beq_iff_eq.1 hc
      refine loop_to (loop_end (fl := .ret) (s' := ⟨18, lv, tmOf [(4, .bool true)], bxOf [], m⟩) hs ?_ (by intro e; cases e)) rfl
      simp [L46_0, hi, one1, sAv]
    | false =>
      have hc' : (xs[i] == x) = false := by rw [← hc, Bool.beq_comm]
      rw [Bool.false_or]
      refine loop_round hs ?_ (voted_loop x xs hx m lv d (i + 1) (by omega))
      simp [L46_0, hi, one1, sAv, hc', hw]
theorem call46 (x : ByteArray) (xs : List ByteArray) (hx : xs.length ≤ 9223372036854775807) (m : Mem) (lv : Nat) : (sem T).call 46 [.sl none 1 (xs.map (one1 sAv)), .str x] m lv = some ([.bool (xs.any (x == ·))], m) := by
  have hl := voted_loop x xs hx m lv xs.length 0 (by omega)
  simp only [List.drop_zero] at hl
  refine call_go rfl rfl rfl ?_
  cases hb : xs.any (x == ·) <;> rw [hb] at hl <;> simp [F46, hl]
end Go.Ev
