/- ApS1, ApS2, ApS3, ApS4, ApS5, ApS6, ApS7, joined. Condition: each part's own. -/
import Derived.Test.YtjeghkeipoccaaaApF
import Derived.Test.YtjeghkeipoccaaaEvR
/- Searching in slices, persons: what the functions answer. Condition: none. -/
namespace Go.Ev
set_option linter.all false
def T : Tab := { fns := fns, given := fun _ => none }
/-- A row of one cell. -/
def one1 {α : Type} (f : α → AV) (x : α) : List AV := [f x]
/-- The place of the first that passes, or -1. -/
def ixF {α : Type} (p : α → Bool) (xs : List α) : Int := if xs.any p then (xs.findIdx p : Int) else -1
theorem ixF_ge {α : Type} (p : α → Bool) (xs : List α) : (0 ≤ ixF p xs) ↔ xs.any p = true := by
  unfold ixF; by_cases h : xs.any p = true
  · rw [if_pos h]; exact ⟨fun _ => h, fun _ => Int.ofNat_nonneg _⟩
  · rw [if_neg h]; exact ⟨fun h => absurd h (by decide), fun e => absurd e h⟩
theorem loop_to {T : Tab} {kt kb : List Nat} {L : IC} {s : St} {r r' : Fl × St} (h : (sem T).loop kt kb L s = some r) (e : r = r') : (sem T).loop kt kb L s = some r' := e ▸ h
section
variable {α : Type} (f : α → AV) (hf : ∀ x, (f x).noOwn = f x) (hk : ∀ x p, (f x).okP p = true) (g : FuncId) (p : α → Bool) (hp : ∀ x m lv, (sem T).call g [f x] m lv = some ([.bool (p x)], m))
include hf hp hk
theorem indexFunc_loop (xs : List α) (hx : xs.length ≤ 9223372036854775807) (m : Mem) (lv : Nat) : ∀ (d i : Nat), i + d = xs.length → ∀ s : St, s.mask [0, 1, 7, 8] [] = some ⟨19, lv, tmOf [(0, .sl none 1 (xs.map (one1 f))), (1, .fn g []), (7, .int .i64 (xs.length : Int)), (8, .int .i64 (i : Int))], bxOf [], m⟩ →
    (sem T).loop [0, 1, 7, 8] [] L58_0 s = some (if (xs.drop i).any p then (.ret, ⟨19, lv, tmOf [(4, .int .i64 ((i + (xs.drop i).findIdx p : Nat) : Int))], bxOf [], m⟩) else (.ex 0, ⟨19, lv, tmOf [], bxOf [], m⟩))
  | 0, i, hd, s, hs => by
    obtain rfl : i = xs.length := by omega
    refine loop_to (loop_end (fl := .ex 0) hs ?_ (by intro e; cases e)) (by rw [List.drop_length]; rfl)
    simp [L58_0]
  | d + 1, i, hd, s, hs => by
    have hi : i < xs.length := by omega
    have hw := IntWalk.i64_in ((i : Int) + 1) (by omega)
    have hdr : xs.drop i = xs[i] :: xs.drop (i + 1) := List.drop_eq_getElem_cons hi
    rw [hdr]
    by_cases hc : p xs[i] = true
    · refine loop_to (loop_end (fl := .ret) (s' := ⟨19, lv, tmOf [(4, .int .i64 (i : Int))], bxOf [], m⟩) hs ?_ (by intro e; cases e)) (by rw [List.any_cons, hc, List.findIdx_cons, hc]; rfl)
      simp [L58_0, hi, hp, hc, one1, hf]
    · have hc : p xs[i] = false := by simpa using hc
      rw [List.any_cons, hc, Bool.false_or, List.findIdx_cons, hc]
      refine loop_round hs ?_ (fun s h => loop_to (indexFunc_loop xs hx m lv d (i + 1) (by omega) s h) ?_)
      · simp [L58_0, hi, hp, hc, hw, one1, hf]
      · simp only [cond_false]; congr 6; simp only [Nat.add_assoc, Nat.add_comm 1]
theorem indexFunc58 (xs : List α) (hx : xs.length ≤ 9223372036854775807) (m : Mem) (lv : Nat) : (sem T).call 58 [.sl none 1 (xs.map (one1 f)), .fn g []] m lv = some ([.int .i64 (ixF p xs)], m) := by
  have hl := indexFunc_loop f hf hk g p hp xs hx m lv xs.length 0 (by omega)
  simp only [List.drop_zero, Nat.zero_add] at hl
  refine call_go rfl rfl rfl ?_
  cases hc : xs.any p <;> simp [F58, hl, hc, ixF]
theorem indexFunc59 (xs : List α) (hx : xs.length ≤ 9223372036854775807) (m : Mem) (lv : Nat) : (sem T).call 59 [.sl none 1 (xs.map (one1 f)), .fn g []] m lv = some ([.int .i64 (ixF p xs)], m) := by
  have hl := indexFunc_loop f hf hk g p hp xs hx m lv xs.length 0 (by omega)
  simp only [List.drop_zero, Nat.zero_add] at hl
  refine call_go rfl rfl rfl ?_
  have e : L59_0 = L58_0 := rfl
  cases hc : xs.any p <;> simp [F59, e, hl, hc, ixF]
theorem contains41 (xs : List α) (hx : xs.length ≤ 9223372036854775807) (m : Mem) (lv : Nat) : (sem T).call 41 [.sl none 1 (xs.map (one1 f)), .fn g []] m lv = some ([.bool (xs.any p)], m) := by
  have h := indexFunc58 f hf hk g p hp xs hx
  have e := ixF_ge p xs
  refine call_go rfl rfl rfl ?_
  cases hc : xs.any p <;> simp [F41, h, e, hc]
theorem contains53 (xs : List α) (hx : xs.length ≤ 9223372036854775807) (m : Mem) (lv : Nat) : (sem T).call 53 [.sl none 1 (xs.map (one1 f)), .fn g []] m lv = some ([.bool (xs.any p)], m) := by
  have h := indexFunc59 f hf hk g p hp xs hx
  have e := ixF_ge p xs
  refine call_go rfl rfl rfl ?_
  cases hc : xs.any p <;> simp [F53, h, e, hc]
end
end Go.Ev
/- Persons: what the functions answer. Condition: none. -/
namespace Go.Ev
set_option linter.all false
@[simp] theorem str_beq (a b : ByteArray) : (a.toList == b.toList) = (a == b) := by
  rw [ByteArray.toList_eq, ByteArray.toList_eq, Bool.eq_iff_iff, beq_iff_eq, beq_iff_eq]
  cases a; cases b
  simp
def bAv (b : UInt8) : AV := .int .u8 b.toNat
def sAv (s : ByteArray) : AV := .str s
def badB (b : UInt8) : Bool := decide ((b.toNat : Int) < 33) || decide (126 < (b.toNat : Int))
def person (s : ByteArray) : Bool := decide (1 ≤ (s.size : Int)) && (decide ((s.size : Int) ≤ 32) && !(s.data.toList.any badB))
theorem call54 (b : UInt8) (m : Mem) (lv : Nat) : (sem T).call 54 [bAv b] m lv = some ([.bool (badB b)], m) := by
  refine call_go rfl rfl rfl ?_
  unfold bAv badB
  rcases le_or 33 (b.toNat : Int) with ⟨p, q⟩ | ⟨p, q⟩ <;> simp [F54, p, q]
theorem bytes_one (s : ByteArray) : s.data.toList.map byteRow = s.data.toList.map (one1 bAv) := rfl
theorem call33 (s : ByteArray) (m : Mem) (lv : Nat) : (sem T).call 33 [.str s] m lv = some ([.bool (person s)], m) := by
  refine call_go rfl rfl rfl ?_
  unfold person
  rcases le_or 1 (s.size : Int) with ⟨h, h'⟩ | ⟨h, h'⟩
  · rcases le_or (s.size : Int) 32 with ⟨h2, h2'⟩ | ⟨h2, h2'⟩
    · have := of_eq_true h2
      have h3 : s.size ≤ 4611686018427387904 := by omega
      have h4 : s.data.toList.length ≤ 9223372036854775807 := by
        have e : s.data.toList.length = s.size := Array.length_toList
        omega
      have hc := contains53 bAv (fun _ => rfl) (fun _ _ => rfl) 54 badB call54 s.data.toList h4
      simp [F33, h, h', h2, h2', h3, bytes_one, hc]
    · simp [F33, h, h', h2, h2']
  · simp [F33, h, h']
theorem call42 (s : ByteArray) (m : Mem) (lv : Nat) : (sem T).call 42 [sAv s] m lv = some ([.bool (!person s)], m) := by
  refine call_go rfl rfl rfl ?_
  simp [F42, sAv, call33]
theorem call41 (l : List ByteArray) (h : l.length ≤ 9223372036854775807) (m : Mem) (lv : Nat) : (sem T).call 41 [.sl none 1 (l.map (one1 sAv)), .fn 42 []] m lv = some ([.bool (l.any fun s => !person s)], m) :=
  contains41 sAv (fun _ => rfl) (fun _ _ => rfl) 42 (fun s => !person s) call42 l h m lv
theorem index_loop (x : ByteArray) (xs : List ByteArray) (hx : xs.length ≤ 9223372036854775807) (m : Mem) (lv : Nat) : ∀ (d i : Nat), i + d = xs.length → ∀ s : St, s.mask [0, 1, 7, 8] [] = some ⟨19, lv, tmOf [(0, .sl none 1 (xs.map (one1 sAv))), (1, .str x), (7, .int .i64 (xs.length : Int)), (8, .int .i64 (i : Int))], bxOf [], m⟩ →
    (sem T).loop [0, 1, 7, 8] [] L57_0 s = some (if (xs.drop i).any (x == ·) then (.ret, ⟨19, lv, tmOf [(4, .int .i64 ((i + (xs.drop i).findIdx (x == ·) : Nat) : Int))], bxOf [], m⟩) else (.ex 0, ⟨19, lv, tmOf [], bxOf [], m⟩))
  | 0, i, hd, s, hs => by
    obtain rfl : i = xs.length := by omega
    refine loop_to (loop_end (fl := .ex 0) hs ?_ (by intro e; cases e)) (by rw [List.drop_length]; rfl)
    simp [L57_0]
  | d + 1, i, hd, s, hs => by
    have hi : i < xs.length := by omega
    have hw := IntWalk.i64_in ((i : Int) + 1) (by omega)
    have hdr : xs.drop i = xs[i] :: xs.drop (i + 1) := List.drop_eq_getElem_cons hi
    rw [hdr]
    by_cases hc : (x == xs[i]) = true
    · refine loop_to (loop_end (fl := .ret) (s' := ⟨19, lv, tmOf [(4, .int .i64 (i : Int))], bxOf [], m⟩) hs ?_ (by intro e; cases e)) (by rw [List.any_cons, hc, List.findIdx_cons, hc]; rfl)
      simp [L57_0, hi, one1, sAv, beq_iff_eq.1 hc]
    · have hc : (x == xs[i]) = false := by simpa using hc
      rw [List.any_cons, hc, Bool.false_or, List.findIdx_cons, hc]
      refine loop_round hs ?_ (fun s h => loop_to (index_loop x xs hx m lv d (i + 1) (by omega) s h) ?_)
      · simp [L57_0, hi, hc, hw, one1, sAv]
      · simp only [cond_false]; congr 6; simp only [Nat.add_assoc, Nat.add_comm 1]
theorem call57 (x : ByteArray) (xs : List ByteArray) (hx : xs.length ≤ 9223372036854775807) (m : Mem) (lv : Nat) : (sem T).call 57 [.sl none 1 (xs.map (one1 sAv)), .str x] m lv = some ([.int .i64 (ixF (x == ·) xs)], m) := by
  have hl := index_loop x xs hx m lv xs.length 0 (by omega)
  simp only [List.drop_zero, Nat.zero_add] at hl
  refine call_go rfl rfl rfl ?_
  cases hc : xs.any (x == ·) <;> simp [F57, hl, hc, ixF]
theorem call39 (x : ByteArray) (xs : List ByteArray) (hx : xs.length ≤ 9223372036854775807) (m : Mem) (lv : Nat) : (sem T).call 39 [.sl none 1 (xs.map (one1 sAv)), .str x] m lv = some ([.bool (xs.any (x == ·))], m) := by
  have e := ixF_ge (x == ·) xs
  refine call_go rfl rfl rfl ?_
  cases hc : xs.any (x == ·) <;> simp [F39, call57 x xs hx, e, hc]
theorem call34 (n : Int) (m : Mem) (lv : Nat) : (sem T).call 34 [.int .i64 n] m lv = some ([.bool (decide (0 ≤ n) && decide (n ≤ 4294967295))], m) := by
  refine call_go rfl rfl rfl ?_
  by_cases h : 0 ≤ n <;> simp [F34, h]
end Go.Ev
/- Persons: what the reference's functions answer. Condition: none. -/
namespace Go.Ev
set_option linter.all false
theorem refperson_loop (s : ByteArray) (hx : s.size ≤ 32) (m : Mem) (lv : Nat) : ∀ (d i : Nat), i + d = s.data.toList.length → ∀ t : St, t.mask [0, 3] [] = some ⟨28, lv, tmOf [(0, .str s), (3, .int .i64 (i : Int))], bxOf [], m⟩ →
    (sem T).loop [0, 3] [] L43_0 t = some (if (s.data.toList.drop i).any badB then (.ret, ⟨28, lv, tmOf [(2, .bool false)], bxOf [], m⟩) else (.ex 0, ⟨28, lv, tmOf [], bxOf [], m⟩))
  | 0, i, hd, t, hs => by
    obtain rfl : i = s.data.toList.length := by omega
    have e : s.data.toList.length = s.size := Array.length_toList
    refine loop_to (loop_end (fl := .ex 0) hs ?_ (by intro e; cases e)) (by rw [List.drop_length]; rfl)
    simp [L43_0, e]
  | d + 1, i, hd, t, hs => by
    have e : s.data.toList.length = s.size := Array.length_toList
    have hi : i < s.data.toList.length := by omega
    have hi' : i < s.size := by omega
    have hw := IntWalk.i64_in ((i : Int) + 1) (by omega)
    have hdr : s.data.toList.drop i = s.data.toList[i] :: s.data.toList.drop (i + 1) := List.drop_eq_getElem_cons hi
    have hq : s.data.toList[i] = s[i] := Array.getElem_toList _
    have hc' : (s[i]?) = some s[i] := getElem?_pos s i hi'
    rw [hdr, hq, List.any_cons]
    by_cases hc : badB s[i] = true
    · rw [hc]
      refine loop_to (loop_end (fl := .ret) (s' := ⟨28, lv, tmOf [(2, .bool false)], bxOf [], m⟩) hs ?_ (by intro e; cases e)) rfl
      unfold badB at hc
      rcases le_or 33 ((s[i]).toNat : Int) with ⟨p, q⟩ | ⟨p, q⟩ <;> rcases le_or ((s[i]).toNat : Int) 126 with ⟨p2, q2⟩ | ⟨p2, q2⟩ <;> simp [q, q2] at hc <;> simp [L43_0, hi', hc', p, q, p2, q2]
    · have hc : badB s[i] = false := by simpa using hc
      rw [hc, Bool.false_or]
      refine loop_round hs ?_ (refperson_loop s hx m lv d (i + 1) (by omega))
      unfold badB at hc
      rcases le_or 33 ((s[i]).toNat : Int) with ⟨p, q⟩ | ⟨p, q⟩ <;> rcases le_or ((s[i]).toNat : Int) 126 with ⟨p2, q2⟩ | ⟨p2, q2⟩ <;> simp [q, q2] at hc <;> simp [L43_0, hi', hc', p, q, p2, q2, hw]
theorem call43 (s : ByteArray) (m : Mem) (lv : Nat) : (sem T).call 43 [.str s] m lv = some ([.bool (person s)], m) := by
  refine call_go rfl rfl rfl ?_
  unfold person
  rcases le_or 1 (s.size : Int) with ⟨h, h'⟩ | ⟨h, h'⟩
  · rcases le_or (s.size : Int) 32 with ⟨h2, h2'⟩ | ⟨h2, h2'⟩
    · have := of_eq_true h2
      have hl := refperson_loop s (by omega) m lv s.data.toList.length 0 (by omega)
      simp only [List.drop_zero] at hl
      cases hb : s.data.toList.any badB <;> rw [hb] at hl <;> simp [F43, h, h', h2, h2', hl, hb]
    · simp [F43, h, h', h2, h2']
  · simp [F43, h, h']
theorem call45 (n : Int) (m : Mem) (lv : Nat) : (sem T).call 45 [.int .i64 n] m lv = some ([.bool (decide (0 ≤ n) && decide (n ≤ 4294967295))], m) := by
  refine call_go rfl rfl rfl ?_
  by_cases h : 0 ≤ n <;> simp [F45, h]
theorem persons_loop (xs : List ByteArray) (hx : xs.length ≤ 9223372036854775807) (m : Mem) (lv : Nat) : ∀ (d i : Nat), i + d = xs.length → ∀ t : St, t.mask [0, 3] [] = some ⟨16, lv, tmOf [(0, .sl none 1 (xs.map (one1 sAv))), (3, .int .i64 (i : Int))], bxOf [], m⟩ →
    (sem T).loop [0, 3] [] L44_0 t = some (if (xs.drop i).any (fun s => !person s) then (.ret, ⟨16, lv, tmOf [(2, .bool false)], bxOf [], m⟩) else (.ex 0, ⟨16, lv, tmOf [], bxOf [], m⟩))
  | 0, i, hd, t, hs => by
    obtain rfl : i = xs.length := by omega
    refine loop_to (loop_end (fl := .ex 0) hs ?_ (by intro e; cases e)) (by rw [List.drop_length]; rfl)
    simp [L44_0]
  | d + 1, i, hd, t, hs => by
    have hi : i < xs.length := by omega
    have hw := IntWalk.i64_in ((i : Int) + 1) (by omega)
    have hdr : xs.drop i = xs[i] :: xs.drop (i + 1) := List.drop_eq_getElem_cons hi
    rw [hdr, List.any_cons]
    cases hc : person xs[i] with
    | false =>
      refine loop_to (loop_end (fl := .ret) (s' := ⟨16, lv, tmOf [(2, .bool false)], bxOf [], m⟩) hs ?_ (by intro e; cases e)) rfl
      simp [L44_0, hi, one1, sAv, call43, hc]
    | true =>
      rw [Bool.not_true, Bool.false_or]
      refine loop_round hs ?_ (persons_loop xs hx m lv d (i + 1) (by omega))
      simp [L44_0, hi, one1, sAv, call43, hc, hw]
theorem call44 (xs : List ByteArray) (hx : xs.length ≤ 9223372036854775807) (m : Mem) (lv : Nat) : (sem T).call 44 [.sl none 1 (xs.map (one1 sAv))] m lv = some ([.bool (!xs.any fun s => !person s)], m) := by
  have hl := persons_loop xs hx m lv xs.length 0 (by omega)
  simp only [List.drop_zero] at hl
  refine call_go rfl rfl rfl ?_
  cases hb : xs.any (fun s => !person s) <;> rw [hb] at hl <;> simp [F44, hl]
theorem voted_loop (x : ByteArray) (xs : List ByteArray) (hx : xs.length ≤ 9223372036854775807) (m : Mem) (lv : Nat) : ∀ (d i : Nat), i + d = xs.length → ∀ t : St, t.mask [0, 1, 5] [] = some ⟨18, lv, tmOf [(0, .sl none 1 (xs.map (one1 sAv))), (1, .str x), (5, .int .i64 (i : Int))], bxOf [], m⟩ →
    (sem T).loop [0, 1, 5] [] L46_0 t = some (if (xs.drop i).any (x == ·) then (.ret, ⟨18, lv, tmOf [(4, .bool true)], bxOf [], m⟩) else (.ex 0, ⟨18, lv, tmOf [], bxOf [], m⟩))
  | 0, i, hd, t, hs => by
    obtain rfl : i = xs.length := by omega
    refine loop_to (loop_end (fl := .ex 0) hs ?_ (by intro e; cases e)) (by rw [List.drop_length]; rfl)
    simp [L46_0]
  | d + 1, i, hd, t, hs => by
    have hi : i < xs.length := by omega
    have hw := IntWalk.i64_in ((i : Int) + 1) (by omega)
    have hdr : xs.drop i = xs[i] :: xs.drop (i + 1) := List.drop_eq_getElem_cons hi
    rw [hdr, List.any_cons]
    cases hc : x == xs[i] with
    | true =>
      obtain rfl := beq_iff_eq.1 hc
      refine loop_to (loop_end (fl := .ret) (s' := ⟨18, lv, tmOf [(4, .bool true)], bxOf [], m⟩) hs ?_ (by intro e; cases e)) rfl
      simp [L46_0, hi, one1, sAv]
    | false =>
      have hc' : (xs[i] == x) = false := by rw [← hc, Bool.beq_comm]
      rw [Bool.false_or]
      refine loop_round hs ?_ (voted_loop x xs hx m lv d (i + 1) (by omega))
      simp [L46_0, hi, one1, sAv, hc', hw]
theorem call46 (x : ByteArray) (xs : List ByteArray) (hx : xs.length ≤ 9223372036854775807) (m : Mem) (lv : Nat) : (sem T).call 46 [.sl none 1 (xs.map (one1 sAv)), .str x] m lv = some ([.bool (xs.any (x == ·))], m) := by
  have hl := voted_loop x xs hx m lv xs.length 0 (by omega)
  simp only [List.drop_zero] at hl
  refine call_go rfl rfl rfl ?_
  cases hb : xs.any (x == ·) <;> rw [hb] at hl <;> simp [F46, hl]
end Go.Ev
/- A request's own check. Condition: few votes. -/
namespace Go.Ev
set_option linter.all false
structure Chg where
  k1 : Int
  b1 : Bool
  h1 : Int
  l1 : Int
  n1 : Int
  k2 : Int
  s1 : ByteArray
  s2 : ByteArray
  n2 : Int
  n3 : Int
  n4 : Int
  s3 : ByteArray
  b2 : Bool
  h2 : Int
  l2 : Int
  n5 : Int
  s4 : ByteArray
def Chg.av (x : Chg) : List AV := [.int .i64 x.k1, .bool x.b1, .int .u64 x.h1, .int .u64 x.l1, .int .i64 x.n1, .int .i64 x.k2, .str x.s1, .str x.s2, .int .i64 x.n2, .int .i64 x.n3, .int .i64 x.n4, .str x.s3, .bool x.b2, .int .u64 x.h2, .int .u64 x.l2, .int .i64 x.n5, .str x.s4]
structure Ask where
  id : Int
  own : ByteArray
  chg : List Chg
  votes : List ByteArray
  need : Int
  til : Int
  st : Int
@[simp] def Ask.av (x : Ask) : List AV := [.int .i64 x.id, .str x.own, .sl none 17 (x.chg.map Chg.av), .sl none 1 (x.votes.map (one1 sAv)), .int .i64 x.need, .int .i64 x.til, .int .i64 x.st]
def dup (b : ByteArray) (l : List ByteArray) (k : Nat) : Bool := (l.getD k ⟨#[]⟩ == b) || (l.take k).any (l.getD k ⟨#[]⟩ == ·)
def timeB (n : Int) : Bool := decide (0 ≤ n) && decide (n ≤ 4294967295)
def badA (x : Ask) : Bool := !person x.own || (x.votes.any (fun s => !person s) || (decide (x.need < 1) || (decide (8 < x.need) || decide (x.need < (x.votes.length : Int)))))
def badB2 (x : Ask) : Bool := decide ((x.chg.length : Int) < 1) || (decide (64 < (x.chg.length : Int)) || (decide (x.st < 1) || (decide (5 < x.st) || !timeB x.til)))
def badV (x : Ask) : Bool := if x.st = 1 then decide ((x.votes.length : Int) = x.need) else if x.st = 2 ∨ x.st = 4 then decide (¬ (x.votes.length : Int) = x.need) else false
def rightE (i : Nat) (x : Ask) : Int := if x.id ≠ (i : Int) + 1 then 7 else if badA x then 1 else if badB2 x then 1 else if (List.range' 0 x.votes.length).any (dup x.own x.votes) then 12 else if badV x then 26 else 0
theorem right_loop (x : Ask) (hx : x.votes.length ≤ 9223372036854775807) (m : Mem) (lv : Nat) : ∀ (d i : Nat), i + d = x.votes.length → ∀ t : St, t.mask [3, 69, 70, 71] [3] = some ⟨108, lv, tmOf [(3, .ptr lv 3 0), (69, .sl none 1 (x.votes.map (one1 sAv))), (70, .int .i64 (x.votes.length : Int)), (71, .int .i64 (i : Int))], bxOf [(3, some (.cells 29 x.av))], m⟩ →
    (sem T).loop [3, 69, 70, 71] [3] L21_0 t = some (if (List.range' i d).any (dup x.own x.votes) then (.ret, ⟨108, lv, tmOf [(4, .int .i64 12)], bxOf [], m⟩) else (.ex 1, ⟨108, lv, tmOf [(3, .ptr lv 3 0)], bxOf [(3, some (.cells 29 x.av))], m⟩))
  | 0, i, hd, t, hs => by
    obtain rfl : i = x.votes.length := by omega
    refine loop_to (loop_end (fl := .ex 1) hs ?_ (by intro e; cases e)) rfl
    simp [L21_0]
  | d + 1, i, hd, t, hs => by
    have hi : i < x.votes.length := by omega
    have hi' : i ≤ x.votes.length := by omega
    have hw := IntWalk.i64_in ((i : Int) + 1) (by omega)
    have hg : x.votes.getD i ⟨#[]⟩ = x.votes[i] := by rw [List.getD_eq_getElem?_getD, List.getElem?_eq_getElem hi]; rfl
    have ht : (x.votes.take i).length ≤ 9223372036854775807 := by rw [List.length_take]; omega
    have hc := call39 x.votes[i] (x.votes.take i) ht
    rw [List.map_take] at hc
    rw [List.range'_succ, List.any_cons]
    cases hb : dup x.own x.votes i with
    | true =>
      refine loop_to (loop_end (fl := .ret) (s' := ⟨108, lv, tmOf [(4, .int .i64 12)], bxOf [], m⟩) hs ?_ (by intro e; cases e)) rfl
      unfold dup at hb; rw [hg] at hb
      cases hq : x.votes[i] == x.own
      · rw [hq, Bool.false_or] at hb
        simp [L21_0, hi, hi', one1, sAv, hq, hc, hb]
      · have hq := beq_iff_eq.1 hq
        simp [L21_0, hi, hi', one1, sAv, hq]
    | false =>
      rw [Bool.false_or]
      refine loop_round hs ?_ (right_loop x hx m lv d (i + 1) (by omega))
      unfold dup at hb; rw [hg, Bool.or_eq_false_iff] at hb
      simp [L21_0, hi, hi', one1, sAv, hb.1, hb.2, hc, hw]
theorem ask_loop (x : Ask) (hx : x.votes.length ≤ 9223372036854775807) (m : Mem) (lv : Nat) : ∀ (d i : Nat), i + d = x.votes.length → ∀ t : St, t.mask [2, 5] [2] = some ⟨119, lv, tmOf [(2, .ptr lv 2 0), (5, .int .i64 (i : Int))], bxOf [(2, some (.cells 29 x.av))], m⟩ →
    (sem T).loop [2, 5] [2] L22_0 t = some (if (List.range' i d).any (dup x.own x.votes) then (.ret, ⟨119, lv, tmOf [(4, .int .i64 12)], bxOf [], m⟩) else (.ex 0, ⟨119, lv, tmOf [(2, .ptr lv 2 0)], bxOf [(2, some (.cells 29 x.av))], m⟩))
  | 0, i, hd, t, hs => by
    obtain rfl : i = x.votes.length := by omega
    refine loop_to (loop_end (fl := .ex 0) hs ?_ (by intro e; cases e)) rfl
    simp [L22_0]
  | d + 1, i, hd, t, hs => by
    have hi : i < x.votes.length := by omega
    have hi' : i ≤ x.votes.length := by omega
    have hw := IntWalk.i64_in ((i : Int) + 1) (by omega)
    have hg : x.votes.getD i ⟨#[]⟩ = x.votes[i] := by rw [List.getD_eq_getElem?_getD, List.getElem?_eq_getElem hi]; rfl
    have ht : (x.votes.take i).length ≤ 9223372036854775807 := by rw [List.length_take]; omega
    have hc := call46 x.votes[i] (x.votes.take i) ht
    rw [List.map_take] at hc
    rw [List.range'_succ, List.any_cons]
    cases hb : dup x.own x.votes i with
    | true =>
      refine loop_to (loop_end (fl := .ret) (s' := ⟨119, lv, tmOf [(4, .int .i64 12)], bxOf [], m⟩) hs ?_ (by intro e; cases e)) rfl
      unfold dup at hb; rw [hg] at hb
      cases hq : x.votes[i] == x.own
      · rw [hq, Bool.false_or] at hb
        simp [L22_0, hi, hi', one1, sAv, hq, hc, hb]
      · have hq := beq_iff_eq.1 hq
        simp [L22_0, hi, hi', one1, sAv, hq]
    | false =>
      rw [Bool.false_or]
      refine loop_round hs ?_ (ask_loop x hx m lv d (i + 1) (by omega))
      unfold dup at hb; rw [hg, Bool.or_eq_false_iff] at hb
      simp [L22_0, hi, hi', one1, sAv, hb.1, hb.2, hc, hw]
end Go.Ev
/- A request's own check, whole. Condition: few votes. -/
namespace Go.Ev
set_option linter.all false
theorem badA_no {x : Ask} (h : badA x = false) : person x.own = true ∧ x.votes.any (fun s => !person s) = false ∧ 1 ≤ x.need ∧ x.need ≤ 8 ∧ (x.votes.length : Int) ≤ x.need := by
  unfold badA at h
  rw [Bool.or_eq_false_iff, Bool.or_eq_false_iff, Bool.or_eq_false_iff, Bool.or_eq_false_iff, decide_eq_false_iff_not, decide_eq_false_iff_not, decide_eq_false_iff_not] at h
  obtain ⟨a, b, c, d, e⟩ := h
  exact ⟨by simpa using a, b, by omega, by omega, by omega⟩
theorem badB2_no {x : Ask} (h : badB2 x = false) : 1 ≤ (x.chg.length : Int) ∧ (x.chg.length : Int) ≤ 64 ∧ 1 ≤ x.st ∧ x.st ≤ 5 ∧ timeB x.til = true := by
  unfold badB2 at h
  rw [Bool.or_eq_false_iff, Bool.or_eq_false_iff, Bool.or_eq_false_iff, Bool.or_eq_false_iff, decide_eq_false_iff_not, decide_eq_false_iff_not, decide_eq_false_iff_not, decide_eq_false_iff_not] at h
  obtain ⟨a, b, c, d, e⟩ := h
  exact ⟨by omega, by omega, by omega, by omega, by simpa using e⟩
theorem call21 (i : Nat) (hi : i ≤ 1000) (x : Ask) (hx : x.votes.length ≤ 9223372036854775807) (m : Mem) (lv : Nat) : (sem T).call 21 [.int .i64 (i : Int), .agg x.av] m lv = some ([.int .i64 (rightE i x)], m) := by
  refine call_go rfl rfl rfl ?_
  have hw := IntWalk.i64_in ((i : Int) + 1) (by omega)
  have hv := fun m lv => call41 x.votes hx m lv
  have ht : ∀ (n : Int) (m : Mem) (lv : Nat), (sem T).call 34 [.int .i64 n] m lv = some ([.bool (timeB n)], m) := call34
  have hl := right_loop x hx m lv x.votes.length 0 (by omega)
  simp only [Ask.av, Int.natCast_zero] at hl
  unfold rightE
  by_cases h1 : x.id = (i : Int) + 1
  · rw [if_neg (by simpa using h1)]
    cases hA : badA x with
    | true =>
      unfold badA at hA
      cases p1 : person x.own
      · simp [F21, h1, hw, call33, p1]
      · cases p2 : x.votes.any (fun s => !person s)
        · rcases le_or 1 x.need with ⟨p3, q3⟩ | ⟨p3, q3⟩
          · rcases le_or x.need 8 with ⟨p4, q4⟩ | ⟨p4, q4⟩
            · rcases le_or (x.votes.length : Int) x.need with ⟨p5, q5⟩ | ⟨p5, q5⟩
              · simp [p1, p2, q3, q4, q5] at hA
              · simp [F21, h1, hw, call33, p1, hv, p2, p3, q3, p4, q4, p5, q5]
            · simp [F21, h1, hw, call33, p1, hv, p2, p3, q3, p4, q4]
          · simp [F21, h1, hw, call33, p1, hv, p2, p3, q3]
        · simp [F21, h1, hw, call33, p1, hv, p2]
    | false =>
      obtain ⟨p1, p2, p3, p4, p5⟩ := badA_no hA
      obtain ⟨p3, q3⟩ := is_le p3
      obtain ⟨p4, q4⟩ := is_le p4
      obtain ⟨p5, q5⟩ := is_le p5
      cases hB : badB2 x with
      | true =>
        unfold badB2 at hB
        rcases le_or 1 (x.chg.length : Int) with ⟨r1, s1⟩ | ⟨r1, s1⟩
        · rcases le_or (x.chg.length : Int) 64 with ⟨r2, s2⟩ | ⟨r2, s2⟩
          · rcases le_or 1 x.st with ⟨r3, s3⟩ | ⟨r3, s3⟩
            · rcases le_or x.st 5 with ⟨r4, s4⟩ | ⟨r4, s4⟩
              · cases r5 : timeB x.til
                · simp [F21, h1, hw, call33, p1, hv, p2, p3, q3, p4, q4, p5, q5, r1, s1, r2, s2, r3, s3, r4, s4, ht, r5]
                · simp [s1, s2, s3, s4, r5] at hB
              · simp [F21, h1, hw, call33, p1, hv, p2, p3, q3, p4, q4, p5, q5, r1, s1, r2, s2, r3, s3, r4, s4]
            · simp [F21, h1, hw, call33, p1, hv, p2, p3, q3, p4, q4, p5, q5, r1, s1, r2, s2, r3, s3]
          · simp [F21, h1, hw, call33, p1, hv, p2, p3, q3, p4, q4, p5, q5, r1, s1, r2, s2]
        · simp [F21, h1, hw, call33, p1, hv, p2, p3, q3, p4, q4, p5, q5, r1, s1]
      | false =>
        obtain ⟨r1, r2, r3, r4, r5⟩ := badB2_no hB
        obtain ⟨r1, s1⟩ := is_le r1
        obtain ⟨r2, s2⟩ := is_le r2
        obtain ⟨r3, s3⟩ := is_le r3
        obtain ⟨r4, s4⟩ := is_le r4
        cases hD : (List.range' 0 x.votes.length).any (dup x.own x.votes) with
        | true =>
          rw [hD] at hl
          simp [F21, h1, hw, call33, p1, hv, p2, p3, q3, p4, q4, p5, q5, r1, s1, r2, s2, r3, s3, r4, s4, ht, r5, hl]
        | false =>
          rw [hD] at hl
          unfold badV
          rcases Int.lt_trichotomy (x.votes.length : Int) x.need with e | e | e
          · have e1 : ((x.votes.length : Int) = x.need) = False := eq_false (by omega)
            obtain ⟨e2, e3⟩ := is_lt e
            by_cases a1 : x.st = 1
            · simp [F21, h1, hw, call33, p1, hv, p2, p3, q3, p4, q4, p5, q5, r1, s1, r2, s2, r3, s3, r4, s4, ht, r5, hl, a1, e1, e2, e3]
            · by_cases a2 : x.st = 2
              · simp [F21, h1, hw, call33, p1, hv, p2, p3, q3, p4, q4, p5, q5, r1, s1, r2, s2, r3, s3, r4, s4, ht, r5, hl, a1, a2, e1, e2, e3]
              · by_cases a4 : x.st = 4
                · simp [F21, h1, hw, call33, p1, hv, p2, p3, q3, p4, q4, p5, q5, r1, s1, r2, s2, r3, s3, r4, s4, ht, r5, hl, a1, a2, a4, e1, e2, e3]
                · simp [F21, h1, hw, call33, p1, hv, p2, p3, q3, p4, q4, p5, q5, r1, s1, r2, s2, r3, s3, r4, s4, ht, r5, hl, a1, a2, a4, e1, e2, e3]
          · by_cases a1 : x.st = 1
            · simp [F21, h1, hw, call33, p1, hv, p2, p3, q3, p4, q4, p5, q5, r1, s1, r2, s2, r3, s3, r4, s4, ht, r5, hl, a1, e]
            · by_cases a2 : x.st = 2
              · simp [F21, h1, hw, call33, p1, hv, p2, p3, q3, p4, q4, p5, q5, r1, s1, r2, s2, r3, s3, r4, s4, ht, r5, hl, a1, a2, e]
              · by_cases a4 : x.st = 4
                · simp [F21, h1, hw, call33, p1, hv, p2, p3, q3, p4, q4, p5, q5, r1, s1, r2, s2, r3, s3, r4, s4, ht, r5, hl, a1, a2, a4, e]
                · simp [F21, h1, hw, call33, p1, hv, p2, p3, q3, p4, q4, p5, q5, r1, s1, r2, s2, r3, s3, r4, s4, ht, r5, hl, a1, a2, a4, e]
          · have := of_eq_true p5; omega
  · rw [if_pos h1]
    simp [F21, h1, hw]
theorem call22 (i : Nat) (hi : i ≤ 1000) (x : Ask) (hx : x.votes.length ≤ 9223372036854775807) (m : Mem) (lv : Nat) : (sem T).call 22 [.agg x.av, .int .i64 (i : Int)] m lv = some ([.int .i64 (rightE i x)], m) := by
  refine call_go rfl rfl rfl ?_
  have hw := IntWalk.i64_in ((i : Int) + 1) (by omega)
  have hv := fun m lv => call44 x.votes hx m lv
  have ht : ∀ (n : Int) (m : Mem) (lv : Nat), (sem T).call 45 [.int .i64 n] m lv = some ([.bool (timeB n)], m) := call45
  have hl := ask_loop x hx m lv x.votes.length 0 (by omega)
  simp only [Ask.av, Int.natCast_zero] at hl
  unfold rightE
  by_cases h1 : x.id = (i : Int) + 1
  · rw [if_neg (by simpa using h1)]
    cases hA : badA x with
    | true =>
      unfold badA at hA
      cases p1 : person x.own
      · simp [F22, h1, hw, call43, p1]
      · rcases le_or 1 x.need with ⟨p3, q3⟩ | ⟨p3, q3⟩
        · rcases le_or x.need 8 with ⟨p4, q4⟩ | ⟨p4, q4⟩
          · rcases le_or (x.votes.length : Int) x.need with ⟨p5, q5⟩ | ⟨p5, q5⟩
            · cases p2 : x.votes.any (fun s => !person s)
              · simp [p1, p2, q3, q4, q5] at hA
              · simp [F22, h1, hw, call43, p1, p3, q3, p4, q4, p5, q5, hv, p2]
            · simp [F22, h1, hw, call43, p1, p3, q3, p4, q4, p5, q5]
          · simp [F22, h1, hw, call43, p1, p3, q3, p4, q4]
        · simp [F22, h1, hw, call43, p1, p3, q3]
    | false =>
      obtain ⟨p1, p2, p3, p4, p5⟩ := badA_no hA
      obtain ⟨p3, q3⟩ := is_le p3
      obtain ⟨p4, q4⟩ := is_le p4
      obtain ⟨p5, q5⟩ := is_le p5
      cases hB : badB2 x with
      | true =>
        unfold badB2 at hB
        rcases le_or 1 (x.chg.length : Int) with ⟨r1, s1⟩ | ⟨r1, s1⟩
        · rcases le_or (x.chg.length : Int) 64 with ⟨r2, s2⟩ | ⟨r2, s2⟩
          · rcases le_or 1 x.st with ⟨r3, s3⟩ | ⟨r3, s3⟩
            · rcases le_or x.st 5 with ⟨r4, s4⟩ | ⟨r4, s4⟩
              · cases r5 : timeB x.til
                · simp [F22, h1, hw, call43, p1, hv, p2, p3, q3, p4, q4, p5, q5, r1, s1, r2, s2, r3, s3, r4, s4, ht, r5]
                · simp [s1, s2, s3, s4, r5] at hB
              · simp [F22, h1, hw, call43, p1, hv, p2, p3, q3, p4, q4, p5, q5, r1, s1, r2, s2, r3, s3, r4, s4]
            · simp [F22, h1, hw, call43, p1, hv, p2, p3, q3, p4, q4, p5, q5, r1, s1, r2, s2, r3, s3]
          · simp [F22, h1, hw, call43, p1, hv, p2, p3, q3, p4, q4, p5, q5, r1, s1, r2, s2]
        · simp [F22, h1, hw, call43, p1, hv, p2, p3, q3, p4, q4, p5, q5, r1, s1]
      | false =>
        obtain ⟨r1, r2, r3, r4, r5⟩ := badB2_no hB
        obtain ⟨r1, s1⟩ := is_le r1
        obtain ⟨r2, s2⟩ := is_le r2
        obtain ⟨r3, s3⟩ := is_le r3
        obtain ⟨r4, s4⟩ := is_le r4
        cases hD : (List.range' 0 x.votes.length).any (dup x.own x.votes) with
        | true =>
          rw [hD] at hl
          simp [F22, h1, hw, call43, p1, hv, p2, p3, q3, p4, q4, p5, q5, r1, s1, r2, s2, r3, s3, r4, s4, ht, r5, hl]
        | false =>
          rw [hD] at hl
          unfold badV
          rcases Int.lt_trichotomy (x.votes.length : Int) x.need with e | e | e
          · have e1 : ((x.votes.length : Int) = x.need) = False := eq_false (by omega)
            obtain ⟨e2, e3⟩ := is_lt e
            by_cases a1 : x.st = 1
            · simp [F22, h1, hw, call43, p1, hv, p2, p3, q3, p4, q4, p5, q5, r1, s1, r2, s2, r3, s3, r4, s4, ht, r5, hl, a1, e1, e2, e3]
            · by_cases a2 : x.st = 2
              · simp [F22, h1, hw, call43, p1, hv, p2, p3, q3, p4, q4, p5, q5, r1, s1, r2, s2, r3, s3, r4, s4, ht, r5, hl, a1, a2, e1, e2, e3]
              · by_cases a4 : x.st = 4
                · simp [F22, h1, hw, call43, p1, hv, p2, p3, q3, p4, q4, p5, q5, r1, s1, r2, s2, r3, s3, r4, s4, ht, r5, hl, a1, a2, a4, e1, e2, e3]
                · simp [F22, h1, hw, call43, p1, hv, p2, p3, q3, p4, q4, p5, q5, r1, s1, r2, s2, r3, s3, r4, s4, ht, r5, hl, a1, a2, a4, e1, e2, e3]
          · by_cases a1 : x.st = 1
            · simp [F22, h1, hw, call43, p1, hv, p2, p3, q3, p4, q4, p5, q5, r1, s1, r2, s2, r3, s3, r4, s4, ht, r5, hl, a1, e]
            · by_cases a2 : x.st = 2
              · simp [F22, h1, hw, call43, p1, hv, p2, p3, q3, p4, q4, p5, q5, r1, s1, r2, s2, r3, s3, r4, s4, ht, r5, hl, a1, a2, e]
              · by_cases a4 : x.st = 4
                · simp [F22, h1, hw, call43, p1, hv, p2, p3, q3, p4, q4, p5, q5, r1, s1, r2, s2, r3, s3, r4, s4, ht, r5, hl, a1, a2, a4, e]
                · simp [F22, h1, hw, call43, p1, hv, p2, p3, q3, p4, q4, p5, q5, r1, s1, r2, s2, r3, s3, r4, s4, ht, r5, hl, a1, a2, a4, e]
          · have := of_eq_true p5; omega
  · rw [if_pos h1]
    simp [F22, h1, hw]
end Go.Ev
/- Tables: their check, their sizes. Condition: none. -/
namespace Go.Ev
set_option linter.all false
theorem Ask.av_len (x : Ask) : x.av.length = 7 := rfl
theorem Ask.av_data (x : Ask) : ∀ c ∈ x.av, c.isData = true := by simp
def firstE : List Ask → Nat → Int
  | [], _ => 0
  | x :: r, i => if rightE i x = 0 then firstE r (i + 1) else rightE i x
def checkE (l : List Ask) : Int := if 64 < l.length then 9 else firstE l 0
/-- The lists' lengths are lengths. -/
def LenOk (l : List Ask) : Prop := l.length ≤ 9223372036854775807 ∧ ∀ x ∈ l, x.votes.length ≤ 9223372036854775807 ∧ x.chg.length ≤ 9223372036854775807
theorem check_loop (l : List Ask) (h : l.length ≤ 64) (ho : LenOk l) (m : Mem) (lv : Nat) : ∀ (d i : Nat), i + d = l.length → ∀ t : St, t.mask [9, 10, 11] [] = some ⟨23, lv, tmOf [(9, .sl none 7 (l.map Ask.av)), (10, .int .i64 (l.length : Int)), (11, .int .i64 (i : Int))], bxOf [], m⟩ →
    (sem T).loop [9, 10, 11] [] L8_0 t = some (if firstE (l.drop i) i = 0 then (.ex 0, ⟨23, lv, tmOf [], bxOf [], m⟩) else (.ret, ⟨23, lv, tmOf [(2, .int .i64 (firstE (l.drop i) i))], bxOf [], m⟩))
  | 0, i, hd, t, hs => by
    obtain rfl : i = l.length := by omega
    refine loop_to (loop_end (fl := .ex 0) hs ?_ (by intro e; cases e)) (by rw [List.drop_length]; rfl)
    simp [L8_0]
  | d + 1, i, hd, t, hs => by
    have hi : i < l.length := by omega
    have hw := IntWalk.i64_in ((i : Int) + 1) (by omega)
    have hdr : l.drop i = l[i] :: l.drop (i + 1) := List.drop_eq_getElem_cons hi
    have hv := (ho.2 l[i] (List.getElem_mem hi)).1
    have hc := call21 i (by omega) l[i] hv
    rw [hdr]
    unfold firstE
    by_cases he : rightE i l[i] = 0
    · rw [he] at hc
      rw [if_pos he]
      refine loop_round hs ?_ (check_loop l h ho m lv d (i + 1) (by omega))
      simp at hc
      simp [L8_0, hi, hw, hc]
    · rw [if_neg he, if_neg he]
      refine loop_end (fl := .ret) (s' := ⟨23, lv, tmOf [(2, .int .i64 (rightE i l[i]))], bxOf [], m⟩) hs ?_ (by intro e; cases e)
      simp at hc
      simp [L8_0, hi, hw, hc, he]
theorem call8 (l : List Ask) (ho : LenOk l) (m : Mem) (lv : Nat) : (sem T).call 8 [.sl none 7 (l.map Ask.av)] m lv = some ([.int .i64 (checkE l)], m) := by
  refine call_go rfl rfl rfl ?_
  unfold checkE
  have h1 := ho.1
  rcases le_or (l.length : Int) 64 with ⟨p, q⟩ | ⟨p, q⟩
  · have hn : ¬ 64 < l.length := by have := of_eq_true p; omega
    have hl := check_loop l (by omega) ho m lv l.length 0 (by omega)
    simp only [List.drop_zero, Int.natCast_zero] at hl
    rw [if_neg hn]
    by_cases he : firstE l 0 = 0
    · rw [if_pos he] at hl
      simp [F8, h1, p, q, hl, he]
    · rw [if_neg he] at hl
      simp [F8, h1, p, q, hl]
  · have hn : 64 < l.length := by have := of_eq_true q; omega
    rw [if_pos hn]
    simp [F8, h1, p, q]
theorem rcheck_loop (l : List Ask) (h : l.length ≤ 64) (ho : LenOk l) (m : Mem) (lv : Nat) : ∀ (d i : Nat), i + d = l.length → ∀ t : St, t.mask [0, 3] [] = some ⟨23, lv, tmOf [(0, .sl none 7 (l.map Ask.av)), (3, .int .i64 (i : Int))], bxOf [], m⟩ →
    (sem T).loop [0, 3] [] L10_0 t = some (if firstE (l.drop i) i = 0 then (.ex 0, ⟨23, lv, tmOf [], bxOf [], m⟩) else (.ret, ⟨23, lv, tmOf [(2, .int .i64 (firstE (l.drop i) i))], bxOf [], m⟩))
  | 0, i, hd, t, hs => by
    obtain rfl : i = l.length := by omega
    refine loop_to (loop_end (fl := .ex 0) hs ?_ (by intro e; cases e)) (by rw [List.drop_length]; rfl)
    simp [L10_0, ho.1]
  | d + 1, i, hd, t, hs => by
    have hi : i < l.length := by omega
    have h1 := ho.1
    have hw := IntWalk.i64_in ((i : Int) + 1) (by omega)
    have hdr : l.drop i = l[i] :: l.drop (i + 1) := List.drop_eq_getElem_cons hi
    have hv := (ho.2 l[i] (List.getElem_mem hi)).1
    have hc := call22 i (by omega) l[i] hv
    rw [hdr]
    unfold firstE
    by_cases he : rightE i l[i] = 0
    · rw [he] at hc
      rw [if_pos he]
      refine loop_round hs ?_ (rcheck_loop l h ho m lv d (i + 1) (by omega))
      simp at hc
      simp [L10_0, hi, h1, hw, hc]
    · rw [if_neg he, if_neg he]
      refine loop_end (fl := .ret) (s' := ⟨23, lv, tmOf [(2, .int .i64 (rightE i l[i]))], bxOf [], m⟩) hs ?_ (by intro e; cases e)
      simp at hc
      simp [L10_0, hi, h1, hw, hc, he]
theorem call10 (l : List Ask) (ho : LenOk l) (m : Mem) (lv : Nat) : (sem T).call 10 [.sl none 7 (l.map Ask.av)] m lv = some ([.int .i64 (checkE l)], m) := by
  refine call_go rfl rfl rfl ?_
  unfold checkE
  have h1 := ho.1
  rcases le_or (l.length : Int) 64 with ⟨p, q⟩ | ⟨p, q⟩
  · have hn : ¬ 64 < l.length := by have := of_eq_true p; omega
    have hl := rcheck_loop l (by omega) ho m lv l.length 0 (by omega)
    simp only [List.drop_zero, Int.natCast_zero] at hl
    rw [if_neg hn]
    by_cases he : firstE l 0 = 0
    · rw [if_pos he] at hl
      simp [F10, h1, p, q, hl, he]
    · rw [if_neg he] at hl
      simp [F10, h1, p, q, hl]
  · have hn : 64 < l.length := by have := of_eq_true q; omega
    rw [if_pos hn]
    simp [F10, h1, p, q]
def votesOk (l : List ByteArray) : Bool := l.all fun s => decide ((s.size : Int) ≤ 100)
def fewX (x : Ask) : Bool := decide ((x.chg.length : Int) ≤ 70) && (decide ((x.votes.length : Int) ≤ 20) && (decide ((x.own.size : Int) ≤ 100) && votesOk x.votes))
def few (l : List Ask) : Bool := decide ((l.length : Int) ≤ 70) && l.all fewX
theorem few_in (l : List Ask) (h : l.length ≤ 70) (k : Nat) (hk : k < l.length) (hv : l[k].votes.length ≤ 20) (m : Mem) (lv : Nat) : ∀ (d i : Nat), i + d = l[k].votes.length → ∀ t : St, t.mask [0, 3, 4] [] = some ⟨59, lv, tmOf [(0, .sl none 7 (l.map Ask.av)), (3, .int .i64 (k : Int)), (4, .int .i64 (i : Int))], bxOf [], m⟩ →
    (sem T).loop [0, 3, 4] [] L9_0 t = some (if votesOk (l[k].votes.drop i) then (.ex 2, ⟨59, lv, tmOf [(0, .sl none 7 (l.map Ask.av)), (3, .int .i64 (k : Int))], bxOf [], m⟩) else (.ret, ⟨59, lv, tmOf [(2, .bool false)], bxOf [], m⟩))
  | 0, i, hd, t, hs => by
    obtain rfl : i = l[k].votes.length := by omega
    refine loop_to (loop_end (fl := .ex 2) hs ?_ (by intro e; cases e)) (by rw [List.drop_length]; rfl)
    simp [L9_0, hk]
  | d + 1, i, hd, t, hs => by
    have hi : i < l[k].votes.length := by omega
    have hw := IntWalk.i64_in ((i : Int) + 1) (by omega)
    have hdr : l[k].votes.drop i = l[k].votes[i] :: l[k].votes.drop (i + 1) := List.drop_eq_getElem_cons hi
    rw [hdr]
    unfold votesOk
    rw [List.all_cons]
    rcases le_or ((l[k].votes[i]).size : Int) 100 with ⟨p, q⟩ | ⟨p, q⟩
    · rw [decide_eq_true (of_eq_true p), Bool.true_and]
      refine loop_round hs ?_ (few_in l h k hk hv m lv d (i + 1) (by omega))
      simp [L9_0, hk, hi, hw, one1, sAv, p, q]
    · rw [decide_eq_false (of_eq_false p), Bool.false_and]
      refine loop_end (fl := .ret) (s' := ⟨59, lv, tmOf [(2, .bool false)], bxOf [], m⟩) hs ?_ (by intro e; cases e)
      simp [L9_0, hk, hi, hw, one1, sAv, p, q]
end Go.Ev
/- Few. Condition: none. -/
namespace Go.Ev
set_option linter.all false
theorem few_loop (l : List Ask) (h : l.length ≤ 70) (m : Mem) (lv : Nat) : ∀ (d i : Nat), i + d = l.length → ∀ t : St, t.mask [0, 3] [] = some ⟨59, lv, tmOf [(0, .sl none 7 (l.map Ask.av)), (3, .int .i64 (i : Int))], bxOf [], m⟩ →
    (sem T).loop [0, 3] [] L9_1 t = some (if (l.drop i).all fewX then (.ex 0, ⟨59, lv, tmOf [], bxOf [], m⟩) else (.ret, ⟨59, lv, tmOf [(2, .bool false)], bxOf [], m⟩))
  | 0, i, hd, t, hs => by
    obtain rfl : i = l.length := by omega
    refine loop_to (loop_end (fl := .ex 0) hs ?_ (by intro e; cases e)) (by rw [List.drop_length]; rfl)
    simp [L9_1]
  | d + 1, i, hd, t, hs => by
    have hi : i < l.length := by omega
    have hw := IntWalk.i64_in ((i : Int) + 1) (by omega)
    have hdr : l.drop i = l[i] :: l.drop (i + 1) := List.drop_eq_getElem_cons hi
    rw [hdr, List.all_cons]
    unfold fewX
    rcases le_or ((l[i].chg.length : Nat) : Int) 70 with ⟨p, q⟩ | ⟨p, q⟩
    · rcases le_or ((l[i].votes.length : Nat) : Int) 20 with ⟨p2, q2⟩ | ⟨p2, q2⟩
      · rcases le_or ((l[i].own.size : Nat) : Int) 100 with ⟨p3, q3⟩ | ⟨p3, q3⟩
        · rw [decide_eq_true (of_eq_true p), decide_eq_true (of_eq_true p2), decide_eq_true (of_eq_true p3), Bool.true_and, Bool.true_and, Bool.true_and]
          have hl := few_in l h i hi (by have := of_eq_true p2; omega) m lv l[i].votes.length 0 (by omega)
          simp only [List.drop_zero, Int.natCast_zero] at hl
          cases hb : votesOk l[i].votes with
          | true =>
            rw [hb] at hl
            rw [Bool.true_and]
            refine loop_round hs ?_ (few_loop l h m lv d (i + 1) (by omega))
            simp [L9_1, hi, hw, p, q, p2, q2, p3, q3, hl]
          | false =>
            rw [hb] at hl
            rw [Bool.false_and]
            refine loop_end (fl := .ret) (s' := ⟨59, lv, tmOf [(2, .bool false)], bxOf [], m⟩) hs ?_ (by intro e; cases e)
            simp [L9_1, hi, hw, p, q, p2, q2, p3, q3, hl]
        · rw [decide_eq_true (of_eq_true p), decide_eq_true (of_eq_true p2), decide_eq_false (of_eq_false p3)]
          simp only [Bool.true_and, Bool.false_and]
          refine loop_end (fl := .ret) (s' := ⟨59, lv, tmOf [(2, .bool false)], bxOf [], m⟩) hs ?_ (by intro e; cases e)
          simp [L9_1, hi, hw, p, q, p2, q2, p3, q3]
      · rw [decide_eq_true (of_eq_true p), decide_eq_false (of_eq_false p2)]
        simp only [Bool.true_and, Bool.false_and]
        refine loop_end (fl := .ret) (s' := ⟨59, lv, tmOf [(2, .bool false)], bxOf [], m⟩) hs ?_ (by intro e; cases e)
        simp [L9_1, hi, hw, p, q, p2, q2]
    · rw [decide_eq_false (of_eq_false p)]
      simp only [Bool.true_and, Bool.false_and]
      refine loop_end (fl := .ret) (s' := ⟨59, lv, tmOf [(2, .bool false)], bxOf [], m⟩) hs ?_ (by intro e; cases e)
      simp [L9_1, hi, hw, p, q]
theorem call9 (l : List Ask) (m : Mem) (lv : Nat) : (sem T).call 9 [.sl none 7 (l.map Ask.av)] m lv = some ([.bool (few l)], m) := by
  refine call_go rfl rfl rfl ?_
  unfold few
  rcases le_or (l.length : Int) 70 with ⟨p, q⟩ | ⟨p, q⟩
  · have hl := few_loop l (by have := of_eq_true p; omega) m lv l.length 0 (by omega)
    simp only [List.drop_zero, Int.natCast_zero] at hl
    cases hb : l.all fewX <;> rw [hb] at hl <;> simp [F9, p, q, hl]
  · simp [F9, p, q]
theorem aw7 : ((orc T 30).call 7 [] noMem 0).map (·.1) = some [.bool true] := by kernel_rfl
theorem awake_spec : ∃ m, (sem T).call 7 [] noMem 0 = some ([.bool true], m) := by
  obtain ⟨⟨rs, m⟩, h1, h2⟩ := Option.map_eq_some_iff.1 aw7
  have h2 : rs = [.bool true] := h2
  subst h2
  exact ⟨m, sem_call_iff.2 ⟨30, h1⟩⟩
theorem checks_spec (l : List Ask) : ∃ m, (sem T).call 3 [.sl none 7 (l.map Ask.av)] noMem 0 = some ([.bool true], m) := by
  obtain ⟨m0, haw⟩ := awake_spec
  refine ⟨noMem, call_go rfl rfl rfl ?_⟩
  have h2 : ∀ m lv, (sem T).call 8 [.sl none 7 [[.int .i64 2, .str ⟨#[]⟩, .sl none 17 [], .sl none 1 [], .int .i64 0, .int .i64 0, .int .i64 0]]] m lv = some ([.int .i64 7], m) :=
    call8 [⟨2, ⟨#[]⟩, [], [], 0, 0, 0⟩] ⟨by decide, by simp⟩
  have h9 := call9 l
  cases hf : few l with
  | false => rw [hf] at h9; simp [F3, haw, h2, h9]
  | true =>
    have ho : LenOk l := by
      simp only [few, Bool.and_eq_true, decide_eq_true_iff, List.all_eq_true, fewX] at hf
      refine ⟨by have := hf.1; omega, fun x hx => ?_⟩
      have := hf.2 x hx
      exact ⟨by omega, by omega⟩
    have h8 := call8 l ho
    have h10 := call10 l ho
    rw [hf] at h9; simp [F3, haw, h2, h8, h9, h10]
end Go.Ev
