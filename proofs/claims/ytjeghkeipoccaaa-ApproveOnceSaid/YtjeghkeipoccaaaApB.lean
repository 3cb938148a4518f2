/- ApS8, ApS9, ApSA, ApSB, ApSC, ApSD, joined. Condition: each part's own. -/
import Derived.Test.YtjeghkeipoccaaaApA
/- Copies of tables. Condition: few requests. -/
namespace Go.Ev
set_option linter.all false
section
variable {α : Type} {f : α → List AV} {z : Nat}
theorem flatN_noOwn (xs : List α) : ((xs.map f).flatten).map AV.noOwn1 = (xs.map fun x => (f x).map AV.noOwn1).flatten := by
  rw [List.map_flatten, List.map_map]; rfl
theorem flatN_frz (hf : ∀ x, (f x).length = z) (xs : List α) : frzRows ((xs.map f).flatten) 0 xs.length z = xs.map fun x => (f x).map AV.noOwn1 := by
  unfold frzRows
  rw [sub_zero, flat_take hf, List.take_length, flatN_noOwn, pieces_flat (fun x => by rw [List.length_map, hf]) _ _ rfl]
theorem flatN_frzd (hd : ∀ x, ∀ c ∈ f x, c.noOwn1.isData = true) (xs : List α) (o n : Nat) : frzData ((xs.map f).flatten) o n z = true := by
  unfold frzData
  rw [List.all_eq_true]
  intro c hc
  obtain ⟨r, hr, hc⟩ := List.mem_flatten.1 (List.mem_of_mem_drop (List.mem_of_mem_take hc))
  obtain ⟨x, _, rfl⟩ := List.mem_map.1 hr
  exact hd x c hc
theorem flatN_okPs (hd : ∀ x, ∀ c ∈ f x, ∀ p, c.okP p = true) (xs : List α) (p : Nat → Nat → Bool) : okPs p ((xs.map f).flatten) = true :=
  (okPs_iff _ _).2 fun c hc => by
    obtain ⟨r, hr, hc⟩ := List.mem_flatten.1 hc
    obtain ⟨x, _, rfl⟩ := List.mem_map.1 hr
    exact hd x c hc p
end
/-- A request, with the flags of its lists. -/
structure AskQ where
  o1 : Option Nat
  o2 : Option Nat
  x : Ask
@[simp] def AskQ.av (q : AskQ) : List AV := [.int .i64 q.x.id, .str q.x.own, .sl q.o1 17 (q.x.chg.map Chg.av), .sl q.o2 1 (q.x.votes.map (one1 sAv)), .int .i64 q.x.need, .int .i64 q.x.til, .int .i64 q.x.st]
theorem AskQ.av_len (x : AskQ) : x.av.length = 7 := rfl
theorem AskQ.av_data (x : AskQ) : ∀ c ∈ x.av, c.noOwn1.isData = true := by simp [AV.noOwn1, AV.isData]
theorem AskQ.av_ok (x : AskQ) : ∀ c ∈ x.av, ∀ p, c.okP p = true := by simp [AV.okP]
theorem AskQ.av_no (x : AskQ) : x.av.map AV.noOwn1 = x.x.av := rfl
def mark (l : List Ask) (i : Nat) : List AskQ := l.mapIdx fun j x => if j < i then ⟨some 55, some 9, x⟩ else ⟨none, none, x⟩
theorem mark_len (l : List Ask) (i : Nat) : (mark l i).length = l.length := List.length_mapIdx
theorem mark_at (l : List Ask) (i : Nat) (h : i < l.length) : (mark l i)[i]? = some ⟨none, none, l[i]⟩ := by
  simp [mark, h]
theorem mark_set (l : List Ask) (i : Nat) (h : i < l.length) : (mark l i).set i ⟨some 55, some 9, l[i]⟩ = mark l (i + 1) := by
  apply List.ext_getElem
  · simp [mark]
  · intro j h1 h2
    rw [List.getElem_set]
    by_cases e : i = j
    · subst e; simp [mark]
    · have : (j < i + 1) = (j < i) := by apply propext; omega
      simp [mark, e, this]
theorem mark_zero (l : List Ask) : (mark l 0).map AskQ.av = l.map Ask.av := by
  apply List.ext_getElem
  · simp [mark]
  · intro j h1 h2
    simp [mark]
theorem mark_map (l : List Ask) (i : Nat) : (mark l i).map (fun x => x.av.map AV.noOwn1) = l.map Ask.av := by
  apply List.ext_getElem
  · simp [mark]
  · intro j h1 h2
    simp only [AskQ.av_no, mark, List.getElem_map, List.getElem_mapIdx]
    split <;> rfl
theorem copied_loop (l : List Ask) (h : l.length ≤ 1000) (hc : ∀ x ∈ l, x.chg.length ≤ 100000 ∧ x.votes.length ≤ 100000) (m : Mem) (lv : Nat) : ∀ (d i : Nat), i + d = l.length → ∀ t : St, t.mask [3, 8, 9] [6] = some ⟨34, lv, tmOf [(3, .win lv 6 0 l.length 7), (8, .int .i64 (l.length : Int)), (9, .int .i64 (i : Int))], bxOf [(6, some (.cells 29 ((mark l i).map AskQ.av).flatten))], m⟩ →
    (sem T).loop [3, 8, 9] [6] L35_0 t = some (.ex 0, ⟨34, lv, tmOf [(3, .win lv 6 0 l.length 7)], bxOf [(6, some (.cells 29 ((mark l l.length).map AskQ.av).flatten))], m⟩)
  | 0, i, hd, t, hs => by
    obtain rfl : i = l.length := by omega
    refine loop_end (fl := .ex 0) hs ?_ (by intro e; cases e)
    simp [L35_0, flatN_okPs AskQ.av_ok]
  | d + 1, i, hd, t, hs => by
    have hi : i < l.length := by omega
    have hw := IntWalk.i64_in ((i : Int) + 1) (by omega)
    obtain ⟨c1, c2⟩ := hc l[i] (List.getElem_mem hi)
    have c3 : l[i].chg.length ≤ 9223372036854775807 := by omega
    have c4 : l[i].chg.length * 168 ≤ 140737488355328 := by omega
    have c5 : l[i].votes.length ≤ 9223372036854775807 := by omega
    have c6 : l[i].votes.length * 16 ≤ 140737488355328 := by omega
    have hm : i < (mark l i).length := by rw [mark_len]; exact hi
    have hat := mark_at l i hi
    have hat' : (mark l i)[i] = ⟨none, none, l[i]⟩ := by rw [List.getElem?_eq_getElem hm] at hat; exact Option.some.inj hat
    have g2 := flat_cell AskQ.av_len (mark l i) i hm 2 (by omega)
    have g3 := flat_cell AskQ.av_len (mark l i) i hm 3 (by omega)
    rw [hat'] at g2 g3
    have s2 : splice (((mark l i).map AskQ.av).flatten) (i * 7 + 2) [.sl (some 55) 17 (l[i].chg.map Chg.av)] = (((mark l i).set i ⟨some 55, none, l[i]⟩).map AskQ.av).flatten := flat_splice AskQ.av_len (mark l i) i 2 _ (by simp) hat (by simp [splice])
    have s3 : splice ((((mark l i).set i ⟨some 55, none, l[i]⟩).map AskQ.av).flatten) (i * 7 + 3) [.sl (some 9) 1 (l[i].votes.map (one1 sAv))] = (((mark l (i + 1))).map AskQ.av).flatten := by
      rw [flat_splice AskQ.av_len ((mark l i).set i ⟨some 55, none, l[i]⟩) i 3 _ (by simp) (x := ⟨some 55, none, l[i]⟩) (y := ⟨some 55, some 9, l[i]⟩) (by simp [hm]) (by simp [splice]), List.set_set, mark_set l i hi]
    have n1 : i * 7 + 2 < l.length * 7 := by omega
    have n2 : i * 7 + 3 < l.length * 7 := by omega
    have n3 : i * 7 + 2 + 1 ≤ l.length * 7 := by omega
    have n4 : i * 7 + 3 + 1 ≤ l.length * 7 := by omega
    refine loop_round hs ?_ (copied_loop l h hc m lv d (i + 1) (by omega))
    simp [L35_0, hi, hw, flat_len AskQ.av_len, mark_len, g2, g3, s2, s3, c3, c4, c5, c6, n1, n2, n3, n4, flatN_okPs AskQ.av_ok, -List.map_set]
/-- Few enough to be copied. -/
def CopyOk (l : List Ask) : Prop := l.length ≤ 1000 ∧ ∀ x ∈ l, x.chg.length ≤ 100000 ∧ x.votes.length ≤ 100000
theorem copied_nil (m : Mem) (lv : Nat) (t : St) (hs : t.mask [3, 8, 9] [6] = some ⟨34, lv, tmOf [(3, .sl (some 29) 7 []), (8, .int .i64 0), (9, .int .i64 0)], bxOf [(6, none)], m⟩) :
    (sem T).loop [3, 8, 9] [6] L35_0 t = some (.ex 0, ⟨34, lv, tmOf [(3, .sl (some 29) 7 [])], bxOf [(6, none)], m⟩) := by
  refine loop_end (fl := .ex 0) hs ?_ (by intro e; cases e)
  simp [L35_0]
theorem call35 (l : List Ask) (h : CopyOk l) (m : Mem) (lv : Nat) : (sem T).call 35 [.sl none 7 (l.map Ask.av)] m lv = some ([.sl (some 29) 7 (l.map Ask.av)], m) := by
  by_cases hn : l = []
  · subst hn
    have hl := copied_nil m lv
    refine call_go rfl rfl rfl ?_
    simp [F35, hl]
  · have hl := copied_loop l h.1 h.2 m lv l.length 0 (by omega)
    rw [mark_zero] at hl
    simp only [Int.natCast_zero] at hl
    have h0 := h.1
    have h1 : l.length ≤ 9223372036854775807 := by omega
    have h2 : l.length * 96 ≤ 140737488355328 := by omega
    have e := mark_len l l.length
    have hz := flatN_frz AskQ.av_len (mark l l.length)
    rw [mark_map, e] at hz
    refine call_go rfl rfl rfl ?_
    simp [F35, hl, hn, h1, h2, flat_len AskQ.av_len, mark_len, hz, flat_okPs Ask.av_data, flatN_okPs AskQ.av_ok, flatN_frzd AskQ.av_data]
theorem carry35 (l : List Ask) (h : CopyOk l) (hn : l ≠ []) (m : Mem) (lv : Nat) : (sem T).carry 35 [.sl none 7 (l.map Ask.av)] m lv = some (some (.cells 29 ((mark l l.length).map AskQ.av).flatten), (0, l.length, 7), m) := by
  have hl := copied_loop l h.1 h.2 m lv l.length 0 (by omega)
  rw [mark_zero] at hl
  simp only [Int.natCast_zero] at hl
  have h0 := h.1
  have h1 : l.length ≤ 9223372036854775807 := by omega
  have h2 : l.length * 96 ≤ 140737488355328 := by omega
  refine carry_go rfl rfl rfl ?_
  simp [F35, hl, hn, h1, h2, flat_len AskQ.av_len, mark_len, flat_okPs Ask.av_data, flatN_okPs AskQ.av_ok, leaveW]
end Go.Ev
/- Submit, both ways. Condition: a table that can be copied. -/
namespace Go.Ev
set_option linter.all false
def badS (s : ByteArray) (c : List Chg) (need til now : Int) : Bool := !person s || (decide ((c.length : Int) < 1) || (decide (64 < (c.length : Int)) || (decide (need < 1) || (decide (8 < need) || (!timeB til || (!timeB now || decide (til ≤ now)))))))
def submitE (l : List Ask) (s : ByteArray) (c : List Chg) (need til now : Int) : List Ask × Int × Int :=
  if badS s c need til now then ([], 0, 1) else if 64 ≤ l.length then ([], 0, 9) else (l ++ [⟨l.length + 1, s, c, [], need, til, 1⟩], l.length + 1, 0)
theorem badS_no {s : ByteArray} {c : List Chg} {need til now : Int} (h : badS s c need til now = false) : person s = true ∧ 1 ≤ (c.length : Int) ∧ (c.length : Int) ≤ 64 ∧ 1 ≤ need ∧ need ≤ 8 ∧ timeB til = true ∧ timeB now = true ∧ now < til := by
  unfold badS at h
  rw [Bool.or_eq_false_iff, Bool.or_eq_false_iff, Bool.or_eq_false_iff, Bool.or_eq_false_iff, Bool.or_eq_false_iff, Bool.or_eq_false_iff, Bool.or_eq_false_iff, decide_eq_false_iff_not, decide_eq_false_iff_not, decide_eq_false_iff_not, decide_eq_false_iff_not, decide_eq_false_iff_not] at h
  obtain ⟨a, b, c, d, e, f, g, i⟩ := h
  exact ⟨by simpa using a, by omega, by omega, by omega, by omega, by simpa using f, by simpa using g, by omega⟩
theorem call18 (l : List Ask) (h : CopyOk l) (s : ByteArray) (c : List Chg) (need til now : Int) (m : Mem) (lv : Nat) : (sem T).call 18 [.sl none 7 (l.map Ask.av), .str s, .sl none 17 (c.map Chg.av), .int .i64 need, .int .i64 til, .int .i64 now] m lv =
    some ([.sl (some 29) 7 ((submitE l s c need til now).1.map Ask.av), .int .i64 (submitE l s c need til now).2.1, .int .i64 (submitE l s c need til now).2.2], m) := by
  have ht : ∀ (n : Int) (m : Mem) (lv : Nat), (sem T).call 34 [.int .i64 n] m lv = some ([.bool (timeB n)], m) := call34
  refine call_go rfl rfl rfl ?_
  unfold submitE
  cases hB : badS s c need til now with
  | true =>
    unfold badS at hB
    rw [if_pos rfl]
    cases p1 : person s
    · simp [F18, call33, ht, p1]
    · rcases le_or 1 (c.length : Int) with ⟨r1, s1⟩ | ⟨r1, s1⟩
      · rcases le_or (c.length : Int) 64 with ⟨r2, s2⟩ | ⟨r2, s2⟩
        · rcases le_or 1 need with ⟨p3, q3⟩ | ⟨p3, q3⟩
          · rcases le_or need 8 with ⟨p4, q4⟩ | ⟨p4, q4⟩
            · cases u1 : timeB til
              · simp [F18, call33, ht, p1, r1, s1, r2, s2, p3, q3, p4, q4, u1]
              · cases u2 : timeB now
                · simp [F18, call33, ht, p1, r1, s1, r2, s2, p3, q3, p4, q4, u1, u2]
                · rcases le_or til now with ⟨w1, x1⟩ | ⟨w1, x1⟩
                  · simp [F18, call33, ht, p1, r1, s1, r2, s2, p3, q3, p4, q4, u1, u2, w1, x1]
                  · simp [p1, s1, s2, q3, q4, u1, u2, w1] at hB
            · simp [F18, call33, ht, p1, r1, s1, r2, s2, p3, q3, p4, q4]
          · simp [F18, call33, ht, p1, r1, s1, r2, s2, p3, q3]
        · simp [F18, call33, ht, p1, r1, s1, r2, s2]
      · simp [F18, call33, ht, p1, r1, s1]
  | false =>
    obtain ⟨p1, r1, r2, p3, p4, u1, u2, w1⟩ := badS_no hB
    have hc1 : c.length ≤ 9223372036854775807 := by omega
    have hc2 : c.length * 168 ≤ 140737488355328 := by omega
    obtain ⟨r1, s1⟩ := is_le r1
    obtain ⟨r2, s2⟩ := is_le r2
    obtain ⟨p3, q3⟩ := is_le p3
    obtain ⟨p4, q4⟩ := is_le p4
    obtain ⟨w1, x1⟩ := is_lt w1
    rw [if_neg (by decide)]
    have h0 := h.1
    have h1 : l.length ≤ 9223372036854775807 := by omega
    have h2 : l.length * 96 ≤ 140737488355328 := by omega
    have h3 : (l.length + 1) * 96 ≤ 140737488355328 := by omega
    have h4 : l.length ≤ 9223372036854775806 := by omega
    have hw := IntWalk.i64_in ((l.length : Int) + 1) (by omega)
    rcases le_or 64 (l.length : Int) with ⟨y1, z1⟩ | ⟨y1, z1⟩
    · rw [if_pos (by have := of_eq_true y1; omega)]
      simp [F18, call33, ht, p1, r1, s1, r2, s2, p3, q3, p4, q4, u1, u2, w1, x1, y1, z1]
    · rw [if_neg (by have := of_eq_false y1; omega)]
      simp [F18, call33, ht, p1, r1, s1, r2, s2, p3, q3, p4, q4, u1, u2, w1, x1, y1, z1, h1, h2, h3, h4, hw, hc1, hc2, call35 l h]
theorem call26 (l : List Ask) (h : CopyOk l) (s : ByteArray) (c : List Chg) (need til now : Int) (m : Mem) (lv : Nat) : (sem T).call 26 [.sl none 7 (l.map Ask.av), .str s, .sl none 17 (c.map Chg.av), .int .i64 need, .int .i64 til, .int .i64 now] m lv =
    some ([.sl (some 29) 7 ((submitE l s c need til now).1.map Ask.av), .int .i64 (submitE l s c need til now).2.1, .int .i64 (submitE l s c need til now).2.2], m) := by
  have ht : ∀ (n : Int) (m : Mem) (lv : Nat), (sem T).call 45 [.int .i64 n] m lv = some ([.bool (timeB n)], m) := call45
  refine call_go rfl rfl rfl ?_
  unfold submitE
  cases hB : badS s c need til now with
  | true =>
    unfold badS at hB
    rw [if_pos rfl]
    cases p1 : person s
    · simp [F26, call43, ht, p1]
    · rcases le_or 1 (c.length : Int) with ⟨r1, s1⟩ | ⟨r1, s1⟩
      · rcases le_or (c.length : Int) 64 with ⟨r2, s2⟩ | ⟨r2, s2⟩
        · rcases le_or 1 need with ⟨p3, q3⟩ | ⟨p3, q3⟩
          · rcases le_or need 8 with ⟨p4, q4⟩ | ⟨p4, q4⟩
            · cases u1 : timeB til
              · simp [F26, call43, ht, p1, r1, s1, r2, s2, p3, q3, p4, q4, u1]
              · cases u2 : timeB now
                · simp [F26, call43, ht, p1, r1, s1, r2, s2, p3, q3, p4, q4, u1, u2]
                · rcases le_or til now with ⟨w1, x1⟩ | ⟨w1, x1⟩
                  · simp [F26, call43, ht, p1, r1, s1, r2, s2, p3, q3, p4, q4, u1, u2, w1, x1]
                  · simp [p1, s1, s2, q3, q4, u1, u2, w1] at hB
            · simp [F26, call43, ht, p1, r1, s1, r2, s2, p3, q3, p4, q4]
          · simp [F26, call43, ht, p1, r1, s1, r2, s2, p3, q3]
        · simp [F26, call43, ht, p1, r1, s1, r2, s2]
      · simp [F26, call43, ht, p1, r1, s1]
  | false =>
    obtain ⟨p1, r1, r2, p3, p4, u1, u2, w1⟩ := badS_no hB
    have hc1 : c.length ≤ 9223372036854775807 := by omega
    have hc2 : c.length * 168 ≤ 140737488355328 := by omega
    obtain ⟨r1, s1⟩ := is_le r1
    obtain ⟨r2, s2⟩ := is_le r2
    obtain ⟨p3, q3⟩ := is_le p3
    obtain ⟨p4, q4⟩ := is_le p4
    obtain ⟨w1, x1⟩ := is_lt w1
    rw [if_neg (by decide)]
    have h0 := h.1
    have h1 : l.length ≤ 9223372036854775807 := by omega
    have h2 : l.length * 96 ≤ 140737488355328 := by omega
    have h3 : (l.length + 1) * 96 ≤ 140737488355328 := by omega
    have h4 : l.length ≤ 9223372036854775806 := by omega
    have hw := IntWalk.i64_in ((l.length : Int) + 1) (by omega)
    rcases le_or 64 (l.length : Int) with ⟨y1, z1⟩ | ⟨y1, z1⟩
    · rw [if_pos (by have := of_eq_true y1; omega)]
      simp [F26, call43, ht, p1, r1, s1, r2, s2, p3, q3, p4, q4, u1, u2, w1, x1, y1, z1]
    · rw [if_neg (by have := of_eq_false y1; omega)]
      simp [F26, call43, ht, p1, r1, s1, r2, s2, p3, q3, p4, q4, u1, u2, w1, x1, y1, z1, h1, h2, h3, h4, hw, hc1, hc2]
end Go.Ev
/- Equal tables are found equal. Condition: short lists. -/
namespace Go.Ev
set_option linter.all false
theorem Chg.av_len (x : Chg) : x.av.length = 17 := rfl
theorem changes_loop (c : List Chg) (h : c.length ≤ 1000000) (m : Mem) (lv : Nat) : ∀ (d i : Nat), i + d = c.length → ∀ t : St, t.mask [0, 1, 5] [] = some ⟨26, lv, tmOf [(0, .sl none 17 (c.map Chg.av)), (1, .sl none 17 (c.map Chg.av)), (5, .int .i64 (i : Int))], bxOf [], m⟩ →
    (sem T).loop [0, 1, 5] [] L15_0 t = some (.ex 0, ⟨26, lv, tmOf [], bxOf [], m⟩)
  | 0, i, hd, t, hs => by
    obtain rfl : i = c.length := by omega
    refine loop_end (fl := .ex 0) hs ?_ (by intro e; cases e)
    simp [L15_0]
  | d + 1, i, hd, t, hs => by
    have hi : i < c.length := by omega
    have hw := IntWalk.i64_in ((i : Int) + 1) (by omega)
    refine loop_round hs ?_ (changes_loop c h m lv d (i + 1) (by omega))
    simp [L15_0, hi, hw, Chg.av]
theorem call15 (c : List Chg) (h : c.length ≤ 1000000) (m : Mem) (lv : Nat) : (sem T).call 15 [.sl none 17 (c.map Chg.av), .sl none 17 (c.map Chg.av)] m lv = some ([.bool true], m) := by
  have hl := changes_loop c h m lv c.length 0 (by omega)
  simp only [Int.natCast_zero] at hl
  refine call_go rfl rfl rfl ?_
  simp [F15, hl]
theorem same_loop (x : Ask) (h : x.votes.length ≤ 1000000) (m : Mem) (lv : Nat) : ∀ (d i : Nat), i + d = x.votes.length → ∀ t : St, t.mask [2, 3, 5] [2, 3] = some ⟨74, lv, tmOf [(2, .ptr lv 2 0), (3, .ptr lv 3 0), (5, .int .i64 (i : Int))], bxOf [(2, some (.cells 29 x.av)), (3, some (.cells 29 x.av))], m⟩ →
    (sem T).loop [2, 3, 5] [2, 3] L32_0 t = some (.ex 0, ⟨74, lv, tmOf [], bxOf [], m⟩)
  | 0, i, hd, t, hs => by
    obtain rfl : i = x.votes.length := by omega
    refine loop_end (fl := .ex 0) hs ?_ (by intro e; cases e)
    simp [L32_0]
  | d + 1, i, hd, t, hs => by
    have hi : i < x.votes.length := by omega
    have hw := IntWalk.i64_in ((i : Int) + 1) (by omega)
    refine loop_round hs ?_ (same_loop x h m lv d (i + 1) (by omega))
    simp [L32_0, hi, hw, one1, sAv]
theorem call32 (x : Ask) (h : x.chg.length ≤ 100000 ∧ x.votes.length ≤ 100000) (m : Mem) (lv : Nat) : (sem T).call 32 [.agg x.av, .agg x.av] m lv = some ([.bool true], m) := by
  have hl := same_loop x (by omega) m lv x.votes.length 0 (by omega)
  simp only [Int.natCast_zero, Ask.av] at hl
  have hc := call15 x.chg (by omega)
  refine call_go rfl rfl rfl ?_
  simp [F32, hl, hc]
theorem tables_loop (l : List Ask) (h : CopyOk l) (m : Mem) (lv : Nat) : ∀ (d i : Nat), i + d = l.length → ∀ t : St, t.mask [0, 1, 5] [] = some ⟨27, lv, tmOf [(0, .sl none 7 (l.map Ask.av)), (1, .sl none 7 (l.map Ask.av)), (5, .int .i64 (i : Int))], bxOf [], m⟩ →
    (sem T).loop [0, 1, 5] [] L14_0 t = some (.ex 0, ⟨27, lv, tmOf [], bxOf [], m⟩)
  | 0, i, hd, t, hs => by
    obtain rfl : i = l.length := by omega
    refine loop_end (fl := .ex 0) hs ?_ (by intro e; cases e)
    simp [L14_0]
  | d + 1, i, hd, t, hs => by
    have h0 := h.1
    have hi : i < l.length := by omega
    have hw := IntWalk.i64_in ((i : Int) + 1) (by omega)
    have hc := call32 l[i] (h.2 l[i] (List.getElem_mem hi))
    simp only [Ask.av] at hc
    refine loop_round hs ?_ (tables_loop l h m lv d (i + 1) (by omega))
    simp [L14_0, hi, hw, hc]
theorem call14 (l : List Ask) (h : CopyOk l) (m : Mem) (lv : Nat) : (sem T).call 14 [.sl none 7 (l.map Ask.av), .sl none 7 (l.map Ask.av)] m lv = some ([.bool true], m) := by
  have hl := tables_loop l h m lv l.length 0 (by omega)
  simp only [Int.natCast_zero] at hl
  refine call_go rfl rfl rfl ?_
  simp [F14, hl]
end Go.Ev
/- Finding and replacing a request. Condition: a table that can be copied. -/
namespace Go.Ev
set_option linter.all false
def pend (x : Ask) : Bool := (x.st == 1) || (x.st == 2)
theorem call48 (x : Ask) (m : Mem) (lv : Nat) : (sem T).call 48 [.agg x.av] m lv = some ([.bool (pend x)], m) := by
  refine call_go rfl rfl rfl ?_
  unfold pend
  by_cases a1 : x.st = 1
  · simp [F48, a1]
  · simp [F48, a1]
theorem call52 (x : Ask) (m : Mem) (lv : Nat) : (sem T).call 52 [.agg x.av] m lv = some ([.bool (pend x)], m) := by
  refine call_go rfl rfl rfl ?_
  unfold pend
  by_cases a1 : x.st = 1
  · simp [F52, a1]
  · simp [F52, a1]
/-- Where a number stands. -/
theorem id_or (l : List Ask) (id : Int) : (∃ k : Nat, id = (k : Int) + 1 ∧ k < l.length) ∨ (id < 1 ∨ (1 ≤ id ∧ (l.length : Int) < id)) := by
  by_cases h : 1 ≤ id ∧ id ≤ l.length
  · obtain ⟨k, rfl⟩ : ∃ k : Nat, id = (k : Int) + 1 := ⟨(id - 1).toNat, by omega⟩
    exact .inl ⟨k, rfl, by omega⟩
  · exact .inr (by omega)
theorem find_no (l : List Ask) (id : Int) (h : id < 1 ∨ (1 ≤ id ∧ (l.length : Int) < id)) (m : Mem) (lv : Nat) : (sem T).call 50 [.sl none 7 (l.map Ask.av), .int .i64 id] m lv = some ([.int .i64 (-1)], m) := by
  refine call_go rfl rfl rfl ?_
  rcases h with h | ⟨h, h2⟩
  · obtain ⟨p, q⟩ := is_lt h
    simp [F50, p, q]
  · obtain ⟨p, q⟩ := is_le h
    obtain ⟨p2, q2⟩ := is_lt h2
    simp [F50, p, q, p2, q2]
theorem find_yes (l : List Ask) (k : Nat) (h : k < l.length) (hl : l.length ≤ 1000) (m : Mem) (lv : Nat) : (sem T).call 50 [.sl none 7 (l.map Ask.av), .int .i64 ((k : Int) + 1)] m lv = some ([.int .i64 (k : Int)], m) := by
  refine call_go rfl rfl rfl ?_
  obtain ⟨p, q⟩ := is_le (a := 1) (b := (k : Int) + 1) (by omega)
  obtain ⟨p2, q2⟩ := is_le (a := (k : Int) + 1) (b := l.length) (by omega)
  have hw := IntWalk.i64_in (k : Int) (by omega)
  simp [F50, p, q, p2, q2, hw]
theorem call51 (l : List Ask) (k : Nat) (hk : k < l.length) (x : Ask) (h : CopyOk l) (m : Mem) (lv : Nat) : (sem T).call 51 [.sl none 7 (l.map Ask.av), .int .i64 (k : Int), .agg x.av] m lv = some ([.sl (some 29) 7 ((l.set k x).map Ask.av)], m) := by
  have hn : l ≠ [] := by intro e; subst e; simp at hk
  have h0 := h.1
  have h1 : l.length ≤ 9223372036854775807 := by omega
  have h2 : l.length * 96 ≤ 140737488355328 := by omega
  have hs : splice ((l.map Ask.av).flatten) (k * 7 + 0) x.av = ((l.set k x).map Ask.av).flatten := flat_splice Ask.av_len l k 0 x.av (by simp) (List.getElem?_eq_getElem hk) (by simp [splice])
  simp only [Nat.add_zero, Ask.av] at hs
  have hz := flat_frz Ask.av_len Ask.av_data (l.set k x)
  rw [List.length_set] at hz
  have n1 : k * 7 < l.length * 7 := by omega
  have n2 : k * 7 + 7 ≤ l.length * 7 := by omega
  refine call_go rfl rfl rfl ?_
  simp [F51, hn, hk, h1, h2, flat_len Ask.av_len, hs, hz, n1, n2, flat_okPs Ask.av_data, flat_frzd Ask.av_data, -List.map_set]
end Go.Ev
/- The reference's steps. Condition: a table that can be copied. -/
namespace Go.Ev
set_option linter.all false
/-- A request's step: an error, or the request after it. -/
def stepE (l : List Ask) (id : Int) (f : Ask → Int × Ask) : List Ask × Int :=
  if id < 1 ∨ (l.length : Int) < id then ([], 11)
  else match l[(id - 1).toNat]? with
    | some x => if (f x).1 = 0 then (l.set (id - 1).toNat (f x).2, 0) else ([], (f x).1)
    | none => ([], 11)
theorem stepE_no {l : List Ask} {id : Int} {f : Ask → Int × Ask} (h : id < 1 ∨ (1 ≤ id ∧ (l.length : Int) < id)) : stepE l id f = ([], 11) := by
  unfold stepE; rw [if_pos (by omega)]
theorem stepE_yes {l : List Ask} {k : Nat} {f : Ask → Int × Ask} (h : k < l.length) : stepE l ((k : Int) + 1) f = if (f l[k]).1 = 0 then (l.set k (f l[k]).2, 0) else ([], (f l[k]).1) := by
  unfold stepE
  rw [if_neg (by omega)]
  have e : ((k : Int) + 1 - 1).toNat = k := by omega
  rw [e, List.getElem?_eq_getElem h]
def voteF (who : ByteArray) (now : Int) (x : Ask) : Int × Ask :=
  if x.st ≠ 1 then (21, x) else if x.til ≤ now then (20, x) else if x.own = who then (17, x) else if x.votes.any (who == ·) then (12, x)
  else (0, { x with votes := x.votes ++ [who], st := if x.need ≤ (x.votes.length : Int) + 1 then 2 else x.st })
def rejectF (who : ByteArray) (x : Ask) : Int × Ask := if pend x = false then (21, x) else if x.own = who then (17, x) else (0, { x with st := 3 })
def withdrawF (who : ByteArray) (x : Ask) : Int × Ask := if x.own ≠ who then (17, x) else if pend x = false then (21, x) else (0, { x with st := 5 })
def finishF (now : Int) (x : Ask) : Int × Ask := if x.st = 1 then (26, x) else if x.st ≠ 2 then (21, x) else if x.til ≤ now then (20, x) else (0, { x with st := 4 })
theorem refWithdraw (l : List Ask) (h : CopyOk l) (id : Int) (who : ByteArray) (m : Mem) (lv : Nat) : (sem T).call 29 [.sl none 7 (l.map Ask.av), .int .i64 id, .str who] m lv =
    some ([.sl (some 29) 7 ((stepE l id (withdrawF who)).1.map Ask.av), .int .i64 (stepE l id (withdrawF who)).2], m) := by
  refine call_go rfl rfl rfl ?_
  have h0 := h.1
  rcases id_or l id with ⟨k, rfl, hk⟩ | hid
  · have hf := find_yes l k hk h.1
    rw [stepE_yes hk]
    unfold withdrawF
    have h52 := call52 l[k]
    simp only [Ask.av] at h52
    by_cases h1 : l[k].own = who
    · subst h1
      cases h2 : pend l[k]
      · simp [F29, hf, hk, h52, h2]
      · have h51 := call51 l k hk { l[k] with st := 5 } h
        simp only [Ask.av] at h51
        simp [F29, hf, hk, h52, h2, h51, -List.map_set]
    · have h1' : (who == l[k].own) = false := by simpa using fun e => h1 e.symm
      simp [F29, hf, hk, h1, h1']
  · rw [stepE_no hid]
    simp [F29, find_no l id hid]
theorem refReject (l : List Ask) (h : CopyOk l) (id : Int) (who : ByteArray) (now : Int) (m : Mem) (lv : Nat) : (sem T).call 28 [.sl none 7 (l.map Ask.av), .int .i64 id, .str who, .int .i64 now] m lv =
    some (if (!person who || !timeB now) = true then [.sl (some 29) 7 [], .int .i64 1] else [.sl (some 29) 7 ((stepE l id (rejectF who)).1.map Ask.av), .int .i64 (stepE l id (rejectF who)).2], m) := by
  have ht : ∀ (n : Int) (m : Mem) (lv : Nat), (sem T).call 45 [.int .i64 n] m lv = some ([.bool (timeB n)], m) := call45
  refine call_go rfl rfl rfl ?_
  have h0 := h.1
  cases p1 : person who
  · simp [F28, call43, p1]
  · cases p2 : timeB now
    · simp [F28, call43, p1, ht, p2]
    · rcases id_or l id with ⟨k, rfl, hk⟩ | hid
      · have hf := find_yes l k hk h.1
        rw [stepE_yes hk]
        unfold rejectF
        have h52 := call52 l[k]
        simp only [Ask.av] at h52
        cases h2 : pend l[k]
        · simp [F28, call43, p1, ht, p2, hf, hk, h52, h2]
        · by_cases h1 : l[k].own = who
          · subst h1
            simp [F28, call43, p1, ht, p2, hf, hk, h52, h2]
          · have h1' : (who == l[k].own) = false := by simpa using fun e => h1 e.symm
            have h51 := call51 l k hk { l[k] with st := 3 } h
            simp only [Ask.av] at h51
            simp [F28, call43, p1, ht, p2, hf, hk, h1, h1', h52, h2, h51, -List.map_set]
      · rw [stepE_no hid]
        simp [F28, call43, p1, ht, p2, find_no l id hid]
theorem refFinish (l : List Ask) (h : CopyOk l) (id : Int) (now : Int) (m : Mem) (lv : Nat) : (sem T).call 30 [.sl none 7 (l.map Ask.av), .int .i64 id, .int .i64 now] m lv =
    some ([.sl (if (stepE l id (finishF now)).2 = 0 then none else some 29) 7 ((stepE l id (finishF now)).1.map Ask.av), .sl none 17 ((if (stepE l id (finishF now)).2 = 0 then (match l[(id - 1).toNat]? with | some x => x.chg | none => []) else []).map Chg.av), .int .i64 (stepE l id (finishF now)).2], m) := by
  refine call_go rfl rfl rfl ?_
  have h0 := h.1
  rcases id_or l id with ⟨k, rfl, hk⟩ | hid
  · have hf := find_yes l k hk h.1
    have hk0 : ((k : Int) < 0) = False := eq_false (by omega)
    have e : ((k : Int) + 1 - 1).toNat = k := by omega
    rw [stepE_yes hk, e, List.getElem?_eq_getElem hk]
    unfold finishF
    by_cases a1 : l[k].st = 1
    · simp [F30, hf, hk, hk0, a1]
    · by_cases a2 : l[k].st = 2
      · rcases le_or l[k].til now with ⟨q1, q2⟩ | ⟨q1, q2⟩
        · simp [F30, hf, hk, hk0, a1, a2, q1, q2]
        · have h51 := call51 l k hk { l[k] with st := 4 } h
          simp only [Ask.av] at h51
          simp [F30, hf, hk, hk0, a1, a2, q1, q2, h51, -List.map_set]
      · simp [F30, hf, hk, hk0, a1, a2]
  · rw [stepE_no hid]
    simp [F30, find_no l id hid]
end Go.Ev
/- The reference's Vote and Expire. Condition: a table that can be copied. -/
namespace Go.Ev
set_option linter.all false
theorem votes_snoc (v : List ByteArray) (w : ByteArray) : v.map (one1 sAv) ++ [[.str w]] = (v ++ [w]).map (one1 sAv) := by simp [one1, sAv]
theorem refVote (l : List Ask) (h : CopyOk l) (id : Int) (who : ByteArray) (now : Int) (m : Mem) (lv : Nat) : (sem T).call 27 [.sl none 7 (l.map Ask.av), .int .i64 id, .str who, .int .i64 now] m lv =
    some (if (!person who || !timeB now) = true then [.sl (some 29) 7 [], .int .i64 1] else [.sl (some 29) 7 ((stepE l id (voteF who now)).1.map Ask.av), .int .i64 (stepE l id (voteF who now)).2], m) := by
  have ht : ∀ (n : Int) (m : Mem) (lv : Nat), (sem T).call 45 [.int .i64 n] m lv = some ([.bool (timeB n)], m) := call45
  refine call_go rfl rfl rfl ?_
  have h0 := h.1
  cases p1 : person who
  · simp [F27, call43, p1]
  · cases p2 : timeB now
    · simp [F27, call43, p1, ht, p2]
    · rcases id_or l id with ⟨k, rfl, hk⟩ | hid
      · have hf := find_yes l k hk h.1
        have hk0 : ((k : Int) < 0) = False := eq_false (by omega)
        obtain ⟨c1, c2⟩ := h.2 l[k] (List.getElem_mem hk)
        have v1 : l[k].votes.length ≤ 9223372036854775807 := by omega
        have v2 : l[k].votes.length * 16 ≤ 140737488355328 := by omega
        have v3 : (l[k].votes.length + 1) * 16 ≤ 140737488355328 := by omega
        have v4 : l[k].votes.length ≤ 9223372036854775806 := by omega
        rw [stepE_yes hk]
        unfold voteF
        by_cases a1 : l[k].st = 1
        · rcases le_or l[k].til now with ⟨q1, q2⟩ | ⟨q1, q2⟩
          · simp [F27, call43, p1, ht, p2, hf, hk, hk0, a1, q1, q2]
          · by_cases h1 : l[k].own = who
            · subst h1
              simp [F27, call43, p1, ht, p2, hf, hk, hk0, a1, q1, q2]
            · have h1' : (who == l[k].own) = false := by simpa using fun e => h1 e.symm
              have hv := call46 who l[k].votes v1
              cases hb : l[k].votes.any (who == ·)
              · rcases le_or l[k].need ((l[k].votes.length : Int) + 1) with ⟨q3, q4⟩ | ⟨q3, q4⟩
                · have h51 := call51 l k hk { l[k] with votes := l[k].votes ++ [who], st := 2 } h
                  simp only [Ask.av, ← votes_snoc] at h51
                  simp [F27, call43, p1, ht, p2, hf, hk, hk0, a1, q1, q2, h1, h1', hv, hb, v1, v2, v3, v4, q3, q4, h51, -List.map_set, -List.map_append]
                · have h51 := call51 l k hk { l[k] with votes := l[k].votes ++ [who], st := 1 } h
                  simp only [Ask.av, ← votes_snoc] at h51
                  simp [F27, call43, p1, ht, p2, hf, hk, hk0, a1, q1, q2, h1, h1', hv, hb, v1, v2, v3, v4, q3, q4, h51, -List.map_set, -List.map_append]
              · simp [F27, call43, p1, ht, p2, hf, hk, hk0, a1, q1, q2, h1, h1', hv, hb]
        · simp [F27, call43, p1, ht, p2, hf, hk, hk0, a1]
      · rw [stepE_no hid]
        simp [F27, call43, p1, ht, p2, find_no l id hid]
def expireF (now : Int) (x : Ask) : Ask := if pend x = true ∧ x.til ≤ now then { x with st := 3 } else x
theorem take_snoc (g : Ask → Ask) (l : List Ask) (i : Nat) (hi : i < l.length) : ((l.take i).map g).map Ask.av ++ [(g l[i]).av] = ((l.take (i + 1)).map g).map Ask.av := by
  rw [List.take_succ_eq_append_getElem hi, List.map_append, List.map_append]; rfl
theorem refExpire_loop (l : List Ask) (h : CopyOk l) (now : Int) (m : Mem) (lv : Nat) : ∀ (d i : Nat), i + d = l.length → ∀ t : St, t.mask [0, 1, 5, 6] [] = some ⟨32, lv, tmOf [(0, .sl none 7 (l.map Ask.av)), (1, .int .i64 now), (5, .sl (some 29) 7 (((l.take i).map (expireF now)).map Ask.av)), (6, .int .i64 (i : Int))], bxOf [], m⟩ →
    (sem T).loop [0, 1, 5, 6] [] L31_0 t = some (.ex 0, ⟨32, lv, tmOf [(5, .sl (some 29) 7 ((l.map (expireF now)).map Ask.av))], bxOf [], m⟩)
  | 0, i, hd, t, hs => by
    obtain rfl : i = l.length := by omega
    rw [List.take_length] at hs
    refine loop_end (fl := .ex 0) hs ?_ (by intro e; cases e)
    simp [L31_0]
  | d + 1, i, hd, t, hs => by
    have h0 := h.1
    have hi : i < l.length := by omega
    have hi' : i ≤ l.length := by omega
    have hw := IntWalk.i64_in ((i : Int) + 1) (by omega)
    have v1 : i ≤ 9223372036854775806 := by omega
    have v2 : (i + 1) * 96 ≤ 140737488355328 := by omega
    have h52 := call52 l[i]
    simp only [Ask.av] at h52
    have hsn := take_snoc (expireF now) l i hi
    refine loop_round hs ?_ (refExpire_loop l h now m lv d (i + 1) (by omega))
    rw [← hsn]
    unfold expireF
    cases hp : pend l[i]
    · simp [L31_0, hi, hi', hw, v1, v2, h52, hp]
    · rcases le_or l[i].til now with ⟨q1, q2⟩ | ⟨q1, q2⟩
      · simp [L31_0, hi, hi', hw, v1, v2, h52, hp, q1, q2]
      · simp [L31_0, hi, hi', hw, v1, v2, h52, hp, q1, q2]
theorem refExpire (l : List Ask) (h : CopyOk l) (now : Int) (m : Mem) (lv : Nat) : (sem T).call 31 [.sl none 7 (l.map Ask.av), .int .i64 now] m lv = some ([.sl (some 29) 7 ((l.map (expireF now)).map Ask.av)], m) := by
  have hl := refExpire_loop l h now m lv l.length 0 (by omega)
  simp only [Int.natCast_zero, List.take_zero, List.map_nil] at hl
  refine call_go rfl rfl rfl ?_
  simp [F31, hl, -List.map_map]
end Go.Ev
