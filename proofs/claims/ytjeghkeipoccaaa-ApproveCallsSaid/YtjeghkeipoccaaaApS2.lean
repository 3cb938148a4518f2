/- Persons: what the functions answer. Condition: none. -/
import Derived.Test.YtjeghkeipoccaaaApS1
namespace Go.Ev
set_option linter.all false
@[simp] theorem str_beq (a b : ByteArray) : (a.toList == b.toList) = (a == b) := by
  rw [ByteArray.toList_eq, ByteArray.toList_eq, Bool.eq_iff_iff, beq_iff_eq, beq_iff_eq]
  cases a; cases b
  simp
def bAv (b : UInt8) : AV := .int .u8 b.toNat
def sAv (s : ByteArray) : AV := .str s
def badB (b : UInt8) : Bool := decide ((b.toNat : Int) < 33) || decide (126 < (b.toNat : Int))
def person (s : ByteArray) : Bool := decide (1 ≤ (s.size : Int)) && (decide ((s.size : Int) ≤ 32) && !(s.data.toList.any badB))
theorem call54 (b : UInt8) (m : Mem) (lv : Nat) : (sem T).call 54 [bAv b] m lv = some ([.bool (badB b)], m) := by
  refine call_go rfl rfl rfl ?_
  unfold bAv badB
  rcases le_or 33 (b.toNat : Int) with ⟨p, q⟩ | ⟨p, q⟩ <;> simp [F54, p, q]
theorem bytes_one (s : ByteArray) : s.data.toList.map byteRow = s.data.toList.map (one1 bAv) := rfl
theorem call33 (s : ByteArray) (m : Mem) (lv : Nat) : (sem T).call 33 [.str s] m lv = some ([.bool (person s)], m) := by
  refine call_go rfl rfl rfl ?_
  unfold person
  rcases le_or 1 (s.size : Int) with ⟨h, h'⟩ | ⟨h, h'⟩
  · rcases le_or (s.size : Int) 32 with ⟨h2, h2'⟩ | ⟨h2, h2'⟩
    · have := of_eq_true h2
      have h3 : s.size ≤ 4611686018427387904 := by omega
      have h4 : s.data.toList.length ≤ 9223372036854775807 := by
        have e : s.data.toList.length = s.size := Array.length_toList
        omega
      have hc := contains53 bAv (fun _ => rfl) (fun _ _ => rfl) 54 badB call54 s.data.toList h4
      simp [F33, h, h', h2, h2', h3, bytes_one, hc]
    · simp [F33, h, h', h2, h2']
  · simp [F33, h, h']
theorem call42 (s : ByteArray) (m : Mem) (lv : Nat) : (sem T).call 42 [sAv s] m lv = some ([.bool (!person s)], m) := by
  refine call_go rfl rfl rfl ?_
  simp [F42, sAv, call33]
theorem call41 (l : List ByteArray) (h : l.length ≤ 9223372036854775807) (m : Mem) (lv : Nat) : (sem T).call 41 [.sl none 1 (l.map (one1 sAv)), .fn 42 []] m lv = some ([.bool (l.any fun s => !person s)], m) :=
  contains41 sAv (fun _ => rfl) (fun _ _ => rfl) 42 (fun s => !person s) call42 l h m lv
theorem index_loop (x : ByteArray) (xs : List ByteArray) (hx : xs.length ≤ 9223372036854775807) (m : Mem) (lv : Nat) : ∀ (d i : Nat), i + d = xs.length → ∀ s : St, s.mask [0, 1, 7, 8] [] = some ⟨19, lv, tmOf [(0, .sl none 1 (xs.map (one1 sAv))), (1, .str x), (7, .int .i64 (xs.length : Int)), (8, .int .i64 (i : Int))], bxOf [], m⟩ →
    (sem T).loop [0, 1, 7, 8] [] L57_0 s = some (if (xs.drop i).any (x == ·) then (.ret, ⟨19, lv, tmOf [(4, .int .i64 ((i + (xs.drop i).findIdx (x == ·) : Nat) : Int))], bxOf [], m⟩) else (.ex 0, ⟨19, lv, tmOf [], bxOf [], m⟩))
  | 0, i, hd, s, hs => by
    obtain rfl : i = xs.length := by omega
    refine loop_to (loop_end (fl := .ex 0) hs ?_ (by intro e; cases e)) (by rw [List.drop_length]; rfl)
    simp [L57_0]
  | d + 1, i, hd, s, hs => by
    have hi : i < xs.length := by omega
    have hw := IntWalk.i64_in ((i : Int) + 1) (by omega)
    have hdr : xs.drop i = xs[i] :: xs.drop (i + 1) := List.drop_eq_getElem_cons hi
    rw [hdr]
    by_cases hc : (x == xs[i]) = true
    · refine loop_to (loop_end (fl := .ret) (s' := ⟨19, lv, tmOf [(4, .int .i64 (i : Int))], bxOf [], m⟩) hs ?_ (by intro e; cases e)) (by rw [List.any_cons, hc, List.findIdx_cons, hc]; rfl)
      simp [L57_0, hi, one1, sAv, beq_iff_eq.1 hc]
    · have hc : (x == xs[i]) = false := by simpa using hc
      rw [List.any_cons, hc, Bool.false_or, List.findIdx_cons, hc]
      refine loop_round hs ?_ (fun s h => loop_to (index_loop x xs hx m lv d (i + 1) (by omega) s h) ?_)
      · simp [L57_0, hi, hc, hw, one1, sAv]
      · simp only [cond_false]; congr 6; simp only [Nat.add_assoc, Nat.add_comm 1]
theorem call57 (x : ByteArray) (xs : List ByteArray) (hx : xs.length ≤ 9223372036854775807) (m : Mem) (lv : Nat) : (sem T).call 57 [.sl none 1 (xs.map (one1 sAv)), .str x] m lv = some ([.int .i64 (ixF (x == ·) xs)], m) := by
  have hl := index_loop x xs hx m lv xs.length 0 (by omega)
  simp only [List.drop_zero, Nat.zero_add] at hl
  refine call_go rfl rfl rfl ?_
  cases hc : xs.any (x == ·) <;> simp [F57, hl, hc, ixF]
theorem call39 (x : ByteArray) (xs : List ByteArray) (hx : xs.length ≤ 9223372036854775807) (m : Mem) (lv : Nat) : (sem T).call 39 [.sl none 1 (xs.map (one1 sAv)), .str x] m lv = some ([.bool (xs.any (x == ·))], m) := by
  have e := ixF_ge (x == ·) xs
  refine call_go rfl rfl rfl ?_
  cases hc : xs.any (x == ·) <;> simp [F39, call57 x xs hx, e, hc]
theorem call34 (n : Int) (m : Mem) (lv : Nat) : (sem T).call 34 [.int .i64 n] m lv = some ([.bool (decide (0 ≤ n) && decide (n ≤ 4294967295))], m) := by
  refine call_go rfl rfl rfl ?_
  by_cases h : 0 ≤ n <;> simp [F34, h]
end Go.Ev
