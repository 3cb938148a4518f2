/- Copies of tables. Condition: few requests. -/
import Derived.Test.YtjeghkeipoccaaaApS7
namespace Go.Ev
set_option linter.all false
section
variable {α : Type} {f : α → List AV} {z : Nat}
theorem flatN_noOwn (xs : List α) : ((xs.map f).flatten).map AV.noOwn1 = (xs.map fun x => (f x).map AV.noOwn1).flatten := by
  rw [List.map_flatten, List.map_map]; rfl
theorem flatN_frz (hf : ∀ x, (f x).length = z) (xs : List α) : frzRows ((xs.map f).flatten) 0 xs.length z = xs.map fun x => (f x).map AV.noOwn1 := by
  unfold frzRows
  rw [sub_zero, flat_take hf, List.take_length, flatN_noOwn, pieces_flat (fun x => by rw [List.length_map, hf]) _ _ rfl]
theorem flatN_frzd (hd : ∀ x, ∀ c ∈ f x, c.noOwn1.isData = true) (xs : List α) (o n : Nat) : frzData ((xs.map f).flatten) o n z = true := by
  unfold frzData
  rw [List.all_eq_true]
  intro c hc
  obtain ⟨r, hr, hc⟩ := List.mem_flatten.1 (List.mem_of_mem_drop (List.mem_of_mem_take hc))
  obtain ⟨x, _, rfl⟩ := List.mem_map.1 hr
  exact hd x c hc
theorem flatN_okPs (hd : ∀ x, ∀ c ∈ f x, ∀ p, c.okP p = true) (xs : List α) (p : Nat → Nat → Bool) : okPs p ((xs.map f).flatten) = true :=
  (okPs_iff _ _).2 fun c hc => by
    obtain ⟨r, hr, hc⟩ := List.mem_flatten.1 hc
    obtain ⟨x, _, rfl⟩ := List.mem_map.1 hr
    exact hd x c hc p
end
/-- A request, with the flags of its lists. -/
structure AskQ where
  o1 : Option Nat
  o2 : Option Nat
  x : Ask
@[simp] def AskQ.av (q : AskQ) : List AV := [.int .i64 q.x.id, .str q.x.own, .sl q.o1 17 (q.x.chg.map Chg.av), .sl q.o2 1 (q.x.votes.map (one1 sAv)), .int .i64 q.x.need, .int .i64 q.x.til, .int .i64 q.x.st]
theorem AskQ.av_len (x : AskQ) : x.av.length = 7 := rfl
theorem AskQ.av_data (x : AskQ) : ∀ c ∈ x.av, c.noOwn1.isData = true := by simp [AV.noOwn1, AV.isData]
theorem AskQ.av_ok (x : AskQ) : ∀ c ∈ x.av, ∀ p, c.okP p = true := by simp [AV.okP]
theorem AskQ.av_no (x : AskQ) : x.av.map AV.noOwn1 = x.x.av := rfl
def mark (l : List Ask) (i : Nat) : List AskQ := l.mapIdx fun j x => if j < i then ⟨some 55, some 9, x⟩ else ⟨none, none, x⟩
theorem mark_len (l : List Ask) (i : Nat) : (mark l i).length = l.length := List.length_mapIdx
theorem mark_at (l : List Ask) (i : Nat) (h : i < l.length) : (mark l i)[i]? = some ⟨none, none, l[i]⟩ := by
  simp [mark, h]
theorem mark_set (l : List Ask) (i : Nat) (h : i < l.length) : (mark l i).set i ⟨some 55, some 9, l[i]⟩ = mark l (i + 1) := by
  apply List.ext_getElem
  · simp [mark]
  · intro j h1 h2
    rw [List.getElem_set]
    by_cases e : i = j
    · subst e; simp [mark]
    · have : (j < i + 1) = (j < i) := by apply propext; omega
      simp [mark, e, this]
theorem mark_zero (l : List Ask) : (mark l 0).map AskQ.av = l.map Ask.av := by
  apply List.ext_getElem
  · simp [mark]
  · intro j h1 h2
    simp [mark]
theorem mark_map (l : List Ask) (i : Nat) : (mark l i).map (fun x => x.av.map AV.noOwn1) = l.map Ask.av := by
  apply List.ext_getElem
  · simp [mark]
  · intro j h1 h2
    simp only [AskQ.av_no, mark, List.getElem_map, List.getElem_mapIdx]
    split <;> rfl
theorem copied_loop (l : List Ask) (h : l.length ≤ 1000) (hc : ∀ x ∈ l, x.chg.length ≤ 100000 ∧ x.votes.length ≤ 100000) (m : Mem) (lv : Nat) : ∀ (d i : Nat), i + d = l.length → ∀ t : St, t.mask [3, 8, 9] [6] = some ⟨34, lv, tmOf [(3, .win lv 6 0 l.length 7), (8, .int .i64 (l.length : Int)), (9, .int .i64 (i : Int))], bxOf [(6, some (.cells 29 ((mark l i).map AskQ.av).flatten))], m⟩ →
    (sem T).loop [3, 8, 9] [6] L35_0 t = some (.ex 0, ⟨34, lv, tmOf [(3, .win lv 6 0 l.length 7)], bxOf [(6, some (.cells 29 ((mark l l.length).map AskQ.av).flatten))], m⟩)
  | 0, i, hd, t, hs => by
    obtain rfl : i = l.length := by omega
    refine loop_end (fl := .ex 0) hs ?_ (by intro e; cases e)
    simp [L35_0, flatN_okPs AskQ.av_ok]
  | d + 1, i, hd, t, hs => by
    have hi : i < l.length := by omega
    have hw := IntWalk.i64_in ((i : Int) + 1) (by omega)
    obtain ⟨c1, c2⟩ := hc l[i] (List.getElem_mem hi)
    have c3 : l[i].chg.length ≤ 9223372036854775807 := by omega
    have c4 : l[i].chg.length * 168 ≤ 140737488355328 := by omega
    have c5 : l[i].votes.length ≤ 9223372036854775807 := by omega
    have c6 : l[i].votes.length * 16 ≤ 140737488355328 := by omega
    have hm : i < (mark l i).length := by rw [mark_len]; exact hi
    have hat := mark_at l i hi
    have hat' : (mark l i)[i] = ⟨none, none, l[i]⟩ := by rw [List.getElem?_eq_getElem hm] at hat; exact Option.some.inj hat
    have g2 := flat_cell AskQ.av_len (mark l i) i hm 2 (by omega)
    have g3 := flat_cell AskQ.av_len (mark l i) i hm 3 (by omega)
    rw [hat'] at g2 g3
    have s2 : splice (((mark l i).map AskQ.av).flatten) (i * 7 + 2) [.sl (some 55) 17 (l[i].chg.map Chg.av)] = (((mark l i).set i ⟨some 55, none, l[i]⟩).map AskQ.av).flatten := flat_splice AskQ.av_len (mark l i) i 2 _ (by simp) hat (by simp [splice])
    have s3 : splice ((((mark l i).set i ⟨some 55, none, l[i]⟩).map AskQ.av).flatten) (i * 7 + 3) [.sl (some 9) 1 (l[i].votes.map (one1 sAv))] = (((mark l (i + 1))).map AskQ.av).flatten := by
      rw [flat_splice AskQ.av_len ((mark l i).set i ⟨some 55, none, l[i]⟩) i 3 _ (by simp) (x := ⟨some 55, none, l[i]⟩) (y := ⟨some 55, some 9, l[i]⟩) (by simp [hm]) (by simp [splice]), List.set_set, mark_set l i hi]
    have n1 : i * 7 + 2 < l.length * 7 := by omega
    have n2 : i * 7 + 3 < l.length * 7 := by omega
    have n3 : i * 7 + 2 + 1 ≤ l.length * 7 := by omega
    have n4 : i * 7 + 3 + 1 ≤ l.length * 7 := by omega
    refine loop_round hs ?_ (copied_loop l h hc m lv d (i + 1) (by omega))
    simp [L35_0, hi, hw, flat_len AskQ.av_len, mark_len, g2, g3, s2, s3, c3, c4, c5, c6, n1, n2, n3, n4, flatN_okPs AskQ.av_ok, -List.map_set]
/-- Few enough to be copied. -/
def CopyOk (l : List Ask) : Prop := l.length ≤ 1000 ∧ ∀ x ∈ l, x.chg.length ≤ 100000 ∧ x.votes.length ≤ 100000
theorem copied_nil (m : Mem) (lv : Nat) (t : St) (hs : t.mask [3, 8, 9] [6] = some ⟨34, lv, tmOf [(3, .sl (some 29) 7 []), (8, .int .i64 0), (9, .int .i64 0)], bxOf [(6, none)], m⟩) :
    (sem T).loop [3, 8, 9] [6] L35_0 t = some (.ex 0, ⟨34, lv, tmOf [(3, .sl (some 29) 7 [])], bxOf [(6, none)], m⟩) := by
  refine loop_end (fl := .ex 0) hs ?_ (by intro e; cases e)
  simp [L35_0]
theorem call35 (l : List Ask) (h : CopyOk l) (m : Mem) (lv : Nat) : (sem T).call 35 [.sl none 7 (l.map Ask.av)] m lv = some ([.sl (some 29) 7 (l.map Ask.av)], m) := by
  by_cases hn : l = []
  · subst hn
    have hl := copied_nil m lv
    refine call_go rfl rfl rfl ?_
    simp [F35, hl]
  · have hl := copied_loop l h.1 h.2 m lv l.length 0 (by omega)
    rw [mark_zero] at hl
    simp only [Int.natCast_zero] at hl
    have h0 := h.1
    have h1 : l.length ≤ 9223372036854775807 := by omega
    have h2 : l.length * 96 ≤ 140737488355328 := by omega
    have e := mark_len l l.length
    have hz := flatN_frz AskQ.av_len (mark l l.length)
    rw [mark_map, e] at hz
    refine call_go rfl rfl rfl ?_
    simp [F35, hl, hn, h1, h2, flat_len AskQ.av_len, mark_len, hz, flat_okPs Ask.av_data, flatN_okPs AskQ.av_ok, flatN_frzd AskQ.av_data]
theorem carry35 (l : List Ask) (h : CopyOk l) (hn : l ≠ []) (m : Mem) (lv : Nat) : (sem T).carry 35 [.sl none 7 (l.map Ask.av)] m lv = some (some (.cells 29 ((mark l l.length).map AskQ.av).flatten), (0, l.length, 7), m) := by
  have hl := copied_loop l h.1 h.2 m lv l.length 0 (by omega)
  rw [mark_zero] at hl
  simp only [Int.natCast_zero] at hl
  have h0 := h.1
  have h1 : l.length ≤ 9223372036854775807 := by omega
  have h2 : l.length * 96 ≤ 140737488355328 := by omega
  refine carry_go rfl rfl rfl ?_
  simp [F35, hl, hn, h1, h2, flat_len AskQ.av_len, mark_len, flat_okPs Ask.av_data, flatN_okPs AskQ.av_ok, leaveW]
end Go.Ev
