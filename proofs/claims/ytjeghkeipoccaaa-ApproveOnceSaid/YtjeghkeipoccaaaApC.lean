/- ApSE, ApSF, ApSG, ApSH, ApSI, ApSJ, ApSK, ApSL, ApSM, joined. Condition: each part's own. -/
import Derived.Test.YtjeghkeipoccaaaApB
/- What is done to a request, by the closures. Condition: a table that can be copied. -/
namespace Go.Ev
set_option linter.all false
theorem call47 (q : List AskQ) (k : Nat) (hk : k < q.length) (who : ByteArray) (m : Mem) (L L2 lv : Nat) (hL : L < lv) (hL2 : L2 < lv) (hm : m L 19 = some (.cells 29 ((q.map AskQ.av).flatten))) (hw : m L2 6 = some (.cells 9 [.str who])) :
    (sem T).call 47 [.ptr L 19 (k * 7), .ptr L2 6 0] m lv = some ([.int .i64 (rejectF who q[k].x).1], if (rejectF who q[k].x).1 = 0 then updM m L 19 (.cells 29 (((q.set k { q[k] with x := (rejectF who q[k].x).2 }).map AskQ.av).flatten)) else m) := by
  have g1 := flat_cell AskQ.av_len q k hk 1 (by omega)
  have g5 := flat_cell AskQ.av_len q k hk 5 (by omega)
  have g6 := flat_cell AskQ.av_len q k hk 6 (by omega)
  have hs : ∀ n : Int, splice ((q.map AskQ.av).flatten) (k * 7 + 6) [.int .i64 n] = ((q.set k { q[k] with x := { q[k].x with st := n } }).map AskQ.av).flatten := fun n => flat_splice AskQ.av_len q k 6 [.int .i64 n] (by simp) (List.getElem?_eq_getElem hk) (by simp [splice])
  have gr := flat_sub1 AskQ.av_len q k (List.getElem?_eq_getElem hk)
  have n0 : k * 7 + 7 ≤ q.length * 7 := by omega
  have n1 : k * 7 + 1 < q.length * 7 := by omega
  have n5 : k * 7 + 5 < q.length * 7 := by omega
  have n6 : k * 7 + 6 < q.length * 7 := by omega
  have n7 : k * 7 + 6 + 1 ≤ q.length * 7 := by omega
  have e1 : ¬ L = lv := by omega
  have e2 : ¬ L2 = lv := by omega
  have h48 := call48 q[k].x
  simp only [Ask.av] at h48
  refine call_go rfl rfl rfl ?_
  unfold rejectF
  cases hp : pend q[k].x
  · simp [F47, hL, hL2, hm, hw, e1, e2, St.get, n0, n1, n5, n6, n7, g1, g5, g6, gr, flat_len AskQ.av_len, AV.noOwn1, h48, hp]
  · by_cases h1 : q[k].x.own = who
    · subst h1
      simp [F47, hL, hL2, hm, hw, e1, e2, St.get, n0, n1, n5, n6, n7, g1, g5, g6, gr, flat_len AskQ.av_len, AV.noOwn1, h48, hp]
    · have h1' : (q[k].x.own == who) = false := by simpa using h1
      simp [F47, hL, hL2, hm, hw, e1, e2, St.get, n0, n1, n5, n6, n7, g1, g5, g6, gr, flat_len AskQ.av_len, AV.noOwn1, h48, hp, h1, h1', hs, flatN_okPs AskQ.av_ok, St.setBox, -List.map_set]
theorem call49 (q : List AskQ) (k : Nat) (hk : k < q.length) (who : ByteArray) (m : Mem) (L L2 lv : Nat) (hL : L < lv) (hL2 : L2 < lv) (hm : m L 19 = some (.cells 29 ((q.map AskQ.av).flatten))) (hw : m L2 5 = some (.cells 9 [.str who])) :
    (sem T).call 49 [.ptr L 19 (k * 7), .ptr L2 5 0] m lv = some ([.int .i64 (withdrawF who q[k].x).1], if (withdrawF who q[k].x).1 = 0 then updM m L 19 (.cells 29 (((q.set k { q[k] with x := (withdrawF who q[k].x).2 }).map AskQ.av).flatten)) else m) := by
  have g1 := flat_cell AskQ.av_len q k hk 1 (by omega)
  have g5 := flat_cell AskQ.av_len q k hk 5 (by omega)
  have g6 := flat_cell AskQ.av_len q k hk 6 (by omega)
  have hs : ∀ n : Int, splice ((q.map AskQ.av).flatten) (k * 7 + 6) [.int .i64 n] = ((q.set k { q[k] with x := { q[k].x with st := n } }).map AskQ.av).flatten := fun n => flat_splice AskQ.av_len q k 6 [.int .i64 n] (by simp) (List.getElem?_eq_getElem hk) (by simp [splice])
  have gr := flat_sub1 AskQ.av_len q k (List.getElem?_eq_getElem hk)
  have n0 : k * 7 + 7 ≤ q.length * 7 := by omega
  have n1 : k * 7 + 1 < q.length * 7 := by omega
  have n5 : k * 7 + 5 < q.length * 7 := by omega
  have n6 : k * 7 + 6 < q.length * 7 := by omega
  have n7 : k * 7 + 6 + 1 ≤ q.length * 7 := by omega
  have e1 : ¬ L = lv := by omega
  have e2 : ¬ L2 = lv := by omega
  have h48 := call48 q[k].x
  simp only [Ask.av] at h48
  refine call_go rfl rfl rfl ?_
  unfold withdrawF
  by_cases h1 : q[k].x.own = who
  · subst h1
    cases hp : pend q[k].x
    · simp [F49, hL, hL2, hm, hw, e1, e2, St.get, n0, n1, n5, n6, n7, g1, g5, g6, gr, flat_len AskQ.av_len, AV.noOwn1, h48, hp]
    · simp [F49, hL, hL2, hm, hw, e1, e2, St.get, n0, n1, n5, n6, n7, g1, g5, g6, gr, flat_len AskQ.av_len, AV.noOwn1, h48, hp, hs, flatN_okPs AskQ.av_ok, St.setBox, -List.map_set]
  · have h1' : (q[k].x.own == who) = false := by simpa using h1
    simp [F49, hL, hL2, hm, hw, e1, e2, St.get, n0, n1, n5, n6, n7, g1, g5, g6, gr, flat_len AskQ.av_len, AV.noOwn1, h1, h1']
theorem call40 (q : List AskQ) (k : Nat) (hk : k < q.length) (now : Int) (m : Mem) (L L2 lv : Nat) (hL : L < lv) (hL2 : L2 < lv) (hm : m L 19 = some (.cells 29 ((q.map AskQ.av).flatten))) (hw : m L2 5 = some (.cells 3 [.int .i64 now])) :
    (sem T).call 40 [.ptr L 19 (k * 7), .ptr L2 5 0] m lv = some ([.int .i64 (finishF now q[k].x).1], if (finishF now q[k].x).1 = 0 then updM m L 19 (.cells 29 (((q.set k { q[k] with x := (finishF now q[k].x).2 }).map AskQ.av).flatten)) else m) := by
  have g1 := flat_cell AskQ.av_len q k hk 1 (by omega)
  have g5 := flat_cell AskQ.av_len q k hk 5 (by omega)
  have g6 := flat_cell AskQ.av_len q k hk 6 (by omega)
  have hs : ∀ n : Int, splice ((q.map AskQ.av).flatten) (k * 7 + 6) [.int .i64 n] = ((q.set k { q[k] with x := { q[k].x with st := n } }).map AskQ.av).flatten := fun n => flat_splice AskQ.av_len q k 6 [.int .i64 n] (by simp) (List.getElem?_eq_getElem hk) (by simp [splice])
  have gr := flat_sub1 AskQ.av_len q k (List.getElem?_eq_getElem hk)
  have n0 : k * 7 + 7 ≤ q.length * 7 := by omega
  have n1 : k * 7 + 1 < q.length * 7 := by omega
  have n5 : k * 7 + 5 < q.length * 7 := by omega
  have n6 : k * 7 + 6 < q.length * 7 := by omega
  have n7 : k * 7 + 6 + 1 ≤ q.length * 7 := by omega
  have e1 : ¬ L = lv := by omega
  have e2 : ¬ L2 = lv := by omega
  have h48 := call48 q[k].x
  simp only [Ask.av] at h48
  refine call_go rfl rfl rfl ?_
  unfold finishF
  by_cases a1 : q[k].x.st = 1
  · simp [F40, hL, hL2, hm, hw, e1, e2, St.get, n0, n1, n5, n6, n7, g1, g5, g6, gr, flat_len AskQ.av_len, AV.noOwn1, a1]
  · by_cases a2 : q[k].x.st = 2
    · rcases le_or q[k].x.til now with ⟨q1, q2⟩ | ⟨q1, q2⟩
      · simp [F40, hL, hL2, hm, hw, e1, e2, St.get, n0, n1, n5, n6, n7, g1, g5, g6, gr, flat_len AskQ.av_len, AV.noOwn1, a1, a2, q1, q2]
      · simp [F40, hL, hL2, hm, hw, e1, e2, St.get, n0, n1, n5, n6, n7, g1, g5, g6, gr, flat_len AskQ.av_len, AV.noOwn1, a1, a2, q1, q2, hs, flatN_okPs AskQ.av_ok, St.setBox, -List.map_set]
    · simp [F40, hL, hL2, hm, hw, e1, e2, St.get, n0, n1, n5, n6, n7, g1, g5, g6, gr, flat_len AskQ.av_len, AV.noOwn1, a1, a2]
end Go.Ev
/- Vote's closure. Condition: few votes. -/
namespace Go.Ev
set_option linter.all false
theorem call38 (q : List AskQ) (k : Nat) (hk : k < q.length) (who : ByteArray) (now : Int) (ho : q[k].o2 = some 9) (hv : q[k].x.votes.length ≤ 100000) (m : Mem) (L L2 lv : Nat) (hL : L < lv) (hL2 : L2 < lv) (hm : m L 19 = some (.cells 29 ((q.map AskQ.av).flatten))) (hw : m L2 6 = some (.cells 9 [.str who])) (hw2 : m L2 7 = some (.cells 3 [.int .i64 now])) :
    (sem T).call 38 [.ptr L 19 (k * 7), .ptr L2 7 0, .ptr L2 6 0] m lv = some ([.int .i64 (voteF who now q[k].x).1], if (voteF who now q[k].x).1 = 0 then updM m L 19 (.cells 29 (((q.set k { q[k] with x := (voteF who now q[k].x).2 }).map AskQ.av).flatten)) else m) := by
  have g1 := flat_cell AskQ.av_len q k hk 1 (by omega)
  have g5 := flat_cell AskQ.av_len q k hk 5 (by omega)
  have g6 := flat_cell AskQ.av_len q k hk 6 (by omega)
  have hs : ∀ n : Int, splice ((q.map AskQ.av).flatten) (k * 7 + 6) [.int .i64 n] = ((q.set k { q[k] with x := { q[k].x with st := n } }).map AskQ.av).flatten := fun n => flat_splice AskQ.av_len q k 6 [.int .i64 n] (by simp) (List.getElem?_eq_getElem hk) (by simp [splice])
  have gr := flat_sub1 AskQ.av_len q k (List.getElem?_eq_getElem hk)
  have n0 : k * 7 + 7 ≤ q.length * 7 := by omega
  have n1 : k * 7 + 1 < q.length * 7 := by omega
  have n5 : k * 7 + 5 < q.length * 7 := by omega
  have n6 : k * 7 + 6 < q.length * 7 := by omega
  have n7 : k * 7 + 6 + 1 ≤ q.length * 7 := by omega
  have e1 : ¬ L = lv := by omega
  have e2 : ¬ L2 = lv := by omega
  have h39 := call39 who q[k].x.votes (by omega)
  have v1 : q[k].x.votes.length ≤ 9223372036854775807 := by omega
  have v3 : (q[k].x.votes.length + 1) * 16 ≤ 140737488355328 := by omega
  have v4 : q[k].x.votes.length ≤ 9223372036854775806 := by omega
  have g3 := flat_cell AskQ.av_len q k hk 3 (by omega)
  have n3 : k * 7 + 3 < q.length * 7 := by omega
  have n4 : k * 7 + 4 < q.length * 7 := by omega
  have n8 : k * 7 + 3 + 1 ≤ q.length * 7 := by omega
  have t1 : splice ((q.map AskQ.av).flatten) (k * 7 + 3) [.sl none 1 (q[k].x.votes.map (one1 sAv))] = ((q.set k { q[k] with o2 := none }).map AskQ.av).flatten := flat_splice AskQ.av_len q k 3 _ (by simp) (List.getElem?_eq_getElem hk) (by simp [splice])
  have t2 : splice (((q.set k { q[k] with o2 := none }).map AskQ.av).flatten) (k * 7 + 3) [.sl (some 9) 1 (q[k].x.votes.map (one1 sAv) ++ [[.str who]])] = ((q.set k { o1 := q[k].o1, o2 := some 9, x := { q[k].x with votes := q[k].x.votes ++ [who] } }).map AskQ.av).flatten := by
    rw [flat_splice AskQ.av_len (q.set k { q[k] with o2 := none }) k 3 _ (by simp) (x := { q[k] with o2 := none }) (y := { o1 := q[k].o1, o2 := some 9, x := { q[k].x with votes := q[k].x.votes ++ [who] } }) (by simp [hk]) (by simp [splice, one1, sAv]), List.set_set]
  have t3 : splice (((q.set k { o1 := q[k].o1, o2 := some 9, x := { q[k].x with votes := q[k].x.votes ++ [who] } }).map AskQ.av).flatten) (k * 7 + 6) [.int .i64 2] = ((q.set k { o1 := q[k].o1, o2 := some 9, x := { q[k].x with votes := q[k].x.votes ++ [who], st := 2 } }).map AskQ.av).flatten := by
    rw [flat_splice AskQ.av_len (q.set k { o1 := q[k].o1, o2 := some 9, x := { q[k].x with votes := q[k].x.votes ++ [who] } }) k 6 _ (by simp) (x := { o1 := q[k].o1, o2 := some 9, x := { q[k].x with votes := q[k].x.votes ++ [who] } }) (y := { o1 := q[k].o1, o2 := some 9, x := { q[k].x with votes := q[k].x.votes ++ [who], st := 2 } }) (by simp [hk]) (by simp [splice]), List.set_set]
  have hk2 : k < (q.set k { o1 := q[k].o1, o2 := some 9, x := { q[k].x with votes := q[k].x.votes ++ [who] } }).length := by rw [List.length_set]; exact hk
  have u3 := flat_cell AskQ.av_len (q.set k { o1 := q[k].o1, o2 := some 9, x := { q[k].x with votes := q[k].x.votes ++ [who] } }) k hk2 3 (by omega)
  have u4 := flat_cell AskQ.av_len (q.set k { o1 := q[k].o1, o2 := some 9, x := { q[k].x with votes := q[k].x.votes ++ [who] } }) k hk2 4 (by omega)
  rw [List.getElem_set_self] at u3 u4
  refine call_go rfl rfl rfl ?_
  unfold voteF
  by_cases a1 : q[k].x.st = 1
  · rcases le_or q[k].x.til now with ⟨q1, q2⟩ | ⟨q1, q2⟩
    · simp [F38, hL, hL2, hm, hw, hw2, e1, e2, St.get, n0, n1, n5, n6, n7, g1, g5, g6, gr, flat_len AskQ.av_len, AV.noOwn1, n3, n4, n8, g3, a1, q1, q2]
    · by_cases h1 : q[k].x.own = who
      · subst h1
        simp [F38, hL, hL2, hm, hw, hw2, e1, e2, St.get, n0, n1, n5, n6, n7, g1, g5, g6, gr, flat_len AskQ.av_len, AV.noOwn1, n3, n4, n8, g3, a1, q1, q2]
      · have h1' : (q[k].x.own == who) = false := by simpa using h1
        cases hb : q[k].x.votes.any (who == ·)
        · simp only [a1] at t3 u3 u4
          rcases le_or q[k].x.need ((q[k].x.votes.length : Int) + 1) with ⟨q3, q4⟩ | ⟨q3, q4⟩
          · simp [F38, hL, hL2, hm, hw, hw2, e1, e2, St.get, n0, n1, n5, n6, n7, g1, g5, g6, gr, flat_len AskQ.av_len, AV.noOwn1, n3, n4, n8, g3, a1, q1, q2, h1, h1', h39, hb, ho, v1, v3, v4, q3, q4, flatN_okPs AskQ.av_ok, St.setBox, t1, t2, t3, u3, u4, updM_eq, updM_updM, AV.one, List.length_set, -List.map_set]
          · simp [F38, hL, hL2, hm, hw, hw2, e1, e2, St.get, n0, n1, n5, n6, n7, g1, g5, g6, gr, flat_len AskQ.av_len, AV.noOwn1, n3, n4, n8, g3, a1, q1, q2, h1, h1', h39, hb, ho, v1, v3, v4, q3, q4, flatN_okPs AskQ.av_ok, St.setBox, t1, t2, t3, u3, u4, updM_eq, updM_updM, AV.one, List.length_set, -List.map_set]
        · simp [F38, hL, hL2, hm, hw, hw2, e1, e2, St.get, n0, n1, n5, n6, n7, g1, g5, g6, gr, flat_len AskQ.av_len, AV.noOwn1, n3, n4, n8, g3, a1, q1, q2, h1, h1', h39, hb]
  · simp [F38, hL, hL2, hm, hw, hw2, e1, e2, St.get, n0, n1, n5, n6, n7, g1, g5, g6, gr, flat_len AskQ.av_len, AV.noOwn1, n3, n4, n8, g3, a1]
end Go.Ev
/- Changed. Condition: a table that can be copied. -/
namespace Go.Ev
set_option linter.all false
theorem mem_low {n lv : Nat} {tm : Nat → AV} {bx : Nat → Option ABox} {low : Mem} {l : Nat} (h : l < lv) : (St.mk n lv tm bx low).mem l = low l := by
  unfold St.mem
  simp only
  rw [if_neg (by omega), if_pos h]
theorem mark_full (l : List Ask) (k : Nat) (hk : k < (mark l l.length).length) (hk2 : k < l.length) : (mark l l.length)[k] = ⟨some 55, some 9, l[k]⟩ := by simp [mark, hk2]
theorem mark_full_set (l : List Ask) (k : Nat) (x : Ask) : ((mark l l.length).set k ⟨some 55, some 9, x⟩).map (fun x => x.av.map AV.noOwn1) = (l.set k x).map Ask.av := by
  rw [List.map_set, List.map_set, mark_map]; rfl
theorem changed_no (l : List Ask) (id : Int) (hid : id < 1 ∨ (1 ≤ id ∧ (l.length : Int) < id)) (g : FuncId) (L2 a : Nat) (m : Mem) (lv : Nat) (hL2 : L2 < lv) : (sem T).call 37 [.sl none 7 (l.map Ask.av), .int .i64 id, .fn g [.ptr L2 a 0]] m lv = some ([.sl (some 29) 7 [], .int .i64 11], m) := by
  refine call_go rfl rfl rfl ?_
  rcases hid with h | ⟨h, h2⟩
  · obtain ⟨p, q⟩ := is_lt h
    simp [F37, p, q]
  · obtain ⟨p, q⟩ := is_le h
    obtain ⟨p2, q2⟩ := is_lt h2
    simp [F37, p, q, p2, q2]
theorem changed_yes (l : List Ask) (h : CopyOk l) (k : Nat) (hk : k < l.length) (f : Ask → Int × Ask) (g : FuncId) (L2 a : Nat) (B : ABox) (m : Mem) (lv : Nat) (hL2 : L2 < lv) (hB : m L2 a = some B)
    (hcl : ∀ m' : Mem, m' L2 a = some B → m' lv 19 = some (.cells 29 (((mark l l.length).map AskQ.av).flatten)) → (sem T).call g [.ptr lv 19 (k * 7), .ptr L2 a 0] m' (lv + 1) = some ([.int .i64 (f l[k]).1], if (f l[k]).1 = 0 then updM m' lv 19 (.cells 29 ((((mark l l.length).set k ⟨some 55, some 9, (f l[k]).2⟩).map AskQ.av).flatten)) else m')) :
    (sem T).call 37 [.sl none 7 (l.map Ask.av), .int .i64 ((k : Int) + 1), .fn g [.ptr L2 a 0]] m lv = some (if (f l[k]).1 = 0 then [.sl (some 29) 7 ((l.set k (f l[k]).2).map Ask.av), .int .i64 0] else [.sl (some 29) 7 [], .int .i64 (f l[k]).1], m) := by
  have h0 := h.1
  have hn : l ≠ [] := by intro e; subst e; simp at hk
  have hc := carry35 l h hn
  obtain ⟨p, q⟩ := is_le (a := 1) (b := (k : Int) + 1) (by omega)
  obtain ⟨p2, q2⟩ := is_le (a := (k : Int) + 1) (b := l.length) (by omega)
  have hw := IntWalk.i64_in (k : Int) (by omega)
  have n1 : k * 7 < l.length * 7 := by omega
  have hz := flatN_frz AskQ.av_len ((mark l l.length).set k ⟨some 55, some 9, (f l[k]).2⟩)
  rw [mark_full_set, List.length_set, mark_len] at hz
  refine call_go rfl rfl rfl ?_
  by_cases he : (f l[k]).1 = 0
  · simp only [he, if_true] at hcl
    simp [F37, p, q, p2, q2, hc, hw, hk, n1, hcl, hB, hL2, he, mem_low, after_own, flat_len AskQ.av_len, mark_len, hz, flatN_okPs AskQ.av_ok, flatN_frzd AskQ.av_data, List.length_set, -List.map_set]
  · simp only [he, if_false] at hcl
    simp [F37, p, q, p2, q2, hc, hw, hk, n1, hcl, hB, hL2, he, mem_low, after_own, flat_len AskQ.av_len, mark_len, flatN_okPs AskQ.av_ok, flatN_frzd AskQ.av_data, List.length_set, -List.map_set]
theorem changed2_no (l : List Ask) (id : Int) (hid : id < 1 ∨ (1 ≤ id ∧ (l.length : Int) < id)) (g : FuncId) (L2 a b : Nat) (m : Mem) (lv : Nat) (hL2 : L2 < lv) : (sem T).call 37 [.sl none 7 (l.map Ask.av), .int .i64 id, .fn g [.ptr L2 a 0, .ptr L2 b 0]] m lv = some ([.sl (some 29) 7 [], .int .i64 11], m) := by
  refine call_go rfl rfl rfl ?_
  rcases hid with h | ⟨h, h2⟩
  · obtain ⟨p, q⟩ := is_lt h
    simp [F37, p, q]
  · obtain ⟨p, q⟩ := is_le h
    obtain ⟨p2, q2⟩ := is_lt h2
    simp [F37, p, q, p2, q2]
theorem changed2_yes (l : List Ask) (h : CopyOk l) (k : Nat) (hk : k < l.length) (f : Ask → Int × Ask) (g : FuncId) (L2 a b : Nat) (B B2 : ABox) (m : Mem) (lv : Nat) (hL2 : L2 < lv) (hB : m L2 a = some B) (hB2 : m L2 b = some B2)
    (hcl : ∀ m' : Mem, m' L2 a = some B → m' L2 b = some B2 → m' lv 19 = some (.cells 29 (((mark l l.length).map AskQ.av).flatten)) → (sem T).call g [.ptr lv 19 (k * 7), .ptr L2 a 0, .ptr L2 b 0] m' (lv + 1) = some ([.int .i64 (f l[k]).1], if (f l[k]).1 = 0 then updM m' lv 19 (.cells 29 ((((mark l l.length).set k ⟨some 55, some 9, (f l[k]).2⟩).map AskQ.av).flatten)) else m')) :
    (sem T).call 37 [.sl none 7 (l.map Ask.av), .int .i64 ((k : Int) + 1), .fn g [.ptr L2 a 0, .ptr L2 b 0]] m lv = some (if (f l[k]).1 = 0 then [.sl (some 29) 7 ((l.set k (f l[k]).2).map Ask.av), .int .i64 0] else [.sl (some 29) 7 [], .int .i64 (f l[k]).1], m) := by
  have h0 := h.1
  have hn : l ≠ [] := by intro e; subst e; simp at hk
  have hc := carry35 l h hn
  obtain ⟨p, q⟩ := is_le (a := 1) (b := (k : Int) + 1) (by omega)
  obtain ⟨p2, q2⟩ := is_le (a := (k : Int) + 1) (b := l.length) (by omega)
  have hw := IntWalk.i64_in (k : Int) (by omega)
  have n1 : k * 7 < l.length * 7 := by omega
  have hz := flatN_frz AskQ.av_len ((mark l l.length).set k ⟨some 55, some 9, (f l[k]).2⟩)
  rw [mark_full_set, List.length_set, mark_len] at hz
  refine call_go rfl rfl rfl ?_
  by_cases he : (f l[k]).1 = 0
  · simp only [he, if_true] at hcl
    simp [F37, p, q, p2, q2, hc, hw, hk, n1, hcl, hB, hB2, hL2, he, mem_low, after_own, flat_len AskQ.av_len, mark_len, hz, flatN_okPs AskQ.av_ok, flatN_frzd AskQ.av_data, List.length_set, -List.map_set]
  · simp only [he, if_false] at hcl
    simp [F37, p, q, p2, q2, hc, hw, hk, n1, hcl, hB, hB2, hL2, he, mem_low, after_own, flat_len AskQ.av_len, mark_len, flatN_okPs AskQ.av_ok, flatN_frzd AskQ.av_data, List.length_set, -List.map_set]
end Go.Ev
/- The ledger's steps. Condition: a table that can be copied. -/
namespace Go.Ev
set_option linter.all false
theorem withdraw24 (l : List Ask) (h : CopyOk l) (id : Int) (who : ByteArray) (m : Mem) (lv : Nat) : (sem T).call 24 [.sl none 7 (l.map Ask.av), .int .i64 id, .str who] m lv =
    some ([.sl (some 29) 7 ((stepE l id (withdrawF who)).1.map Ask.av), .int .i64 (stepE l id (withdrawF who)).2], m) := by
  refine call_go rfl rfl rfl ?_
  rcases id_or l id with ⟨k, rfl, hk⟩ | hid
  · rw [stepE_yes hk]
    have hq : k < (mark l l.length).length := by rw [mark_len]; exact hk
    have hc := fun (m' : Mem) (hw : m' lv 5 = some (.cells 9 [.str who])) (hm : m' (lv + 1) 19 = some (.cells 29 (((mark l l.length).map AskQ.av).flatten))) => call49 (mark l l.length) k hq who m' (lv + 1) lv (lv + 2) (by omega) (by omega) hm hw
    rw [mark_full l k hq hk] at hc
    have hy := fun (m' : Mem) (hw : m' lv 5 = some (.cells 9 [.str who])) => changed_yes l h k hk (withdrawF who) 49 lv 5 _ m' (lv + 1) (by omega) hw (fun m'' a b => hc m'' a b)
    by_cases he : (withdrawF who l[k]).1 = 0
    · simp only [he, if_true] at hy
      simp [F24, hy, he]
    · simp only [he, if_false] at hy
      simp [F24, hy, he]
  · rw [stepE_no hid]
    have hn := fun (m' : Mem) => changed_no l id hid 49 lv 5 m' (lv + 1) (by omega)
    simp [F24, hn]
theorem reject23 (l : List Ask) (h : CopyOk l) (id : Int) (who : ByteArray) (now : Int) (m : Mem) (lv : Nat) : (sem T).call 23 [.sl none 7 (l.map Ask.av), .int .i64 id, .str who, .int .i64 now] m lv =
    some (if (!person who || !timeB now) = true then [.sl (some 29) 7 [], .int .i64 1] else [.sl (some 29) 7 ((stepE l id (rejectF who)).1.map Ask.av), .int .i64 (stepE l id (rejectF who)).2], m) := by
  have ht : ∀ (n : Int) (m : Mem) (lv : Nat), (sem T).call 34 [.int .i64 n] m lv = some ([.bool (timeB n)], m) := call34
  refine call_go rfl rfl rfl ?_
  cases p1 : person who
  · simp [F23, call33, p1]
  · cases p2 : timeB now
    · simp [F23, call33, p1, ht, p2]
    · rcases id_or l id with ⟨k, rfl, hk⟩ | hid
      · rw [stepE_yes hk]
        have hq : k < (mark l l.length).length := by rw [mark_len]; exact hk
        have hc := fun (m' : Mem) (hw : m' lv 6 = some (.cells 9 [.str who])) (hm : m' (lv + 1) 19 = some (.cells 29 (((mark l l.length).map AskQ.av).flatten))) => call47 (mark l l.length) k hq who m' (lv + 1) lv (lv + 2) (by omega) (by omega) hm hw
        rw [mark_full l k hq hk] at hc
        have hy := fun (m' : Mem) (hw : m' lv 6 = some (.cells 9 [.str who])) => changed_yes l h k hk (rejectF who) 47 lv 6 _ m' (lv + 1) (by omega) hw (fun m'' a b => hc m'' a b)
        by_cases he : (rejectF who l[k]).1 = 0
        · simp only [he, if_true] at hy
          simp [F23, call33, p1, ht, p2, hy, he]
        · simp only [he, if_false] at hy
          simp [F23, call33, p1, ht, p2, hy, he]
      · rw [stepE_no hid]
        have hn := fun (m' : Mem) => changed_no l id hid 47 lv 6 m' (lv + 1) (by omega)
        simp [F23, call33, p1, ht, p2, hn]
theorem vote19 (l : List Ask) (h : CopyOk l) (id : Int) (who : ByteArray) (now : Int) (m : Mem) (lv : Nat) : (sem T).call 19 [.sl none 7 (l.map Ask.av), .int .i64 id, .str who, .int .i64 now] m lv =
    some (if (!person who || !timeB now) = true then [.sl (some 29) 7 [], .int .i64 1] else [.sl (some 29) 7 ((stepE l id (voteF who now)).1.map Ask.av), .int .i64 (stepE l id (voteF who now)).2], m) := by
  have ht : ∀ (n : Int) (m : Mem) (lv : Nat), (sem T).call 34 [.int .i64 n] m lv = some ([.bool (timeB n)], m) := call34
  refine call_go rfl rfl rfl ?_
  cases p1 : person who
  · simp [F19, call33, p1]
  · cases p2 : timeB now
    · simp [F19, call33, p1, ht, p2]
    · rcases id_or l id with ⟨k, rfl, hk⟩ | hid
      · rw [stepE_yes hk]
        have hq : k < (mark l l.length).length := by rw [mark_len]; exact hk
        have hmf := mark_full l k hq hk
        have hc := fun (m' : Mem) (hw2 : m' lv 7 = some (.cells 3 [.int .i64 now])) (hw : m' lv 6 = some (.cells 9 [.str who])) (hm : m' (lv + 1) 19 = some (.cells 29 (((mark l l.length).map AskQ.av).flatten))) => call38 (mark l l.length) k hq who now (by rw [hmf]) (by rw [hmf]; exact (h.2 l[k] (List.getElem_mem hk)).2) m' (lv + 1) lv (lv + 2) (by omega) (by omega) hm hw hw2
        rw [hmf] at hc
        have hy := fun (m' : Mem) (hw2 : m' lv 7 = some (.cells 3 [.int .i64 now])) (hw : m' lv 6 = some (.cells 9 [.str who])) => changed2_yes l h k hk (voteF who now) 38 lv 7 6 _ _ m' (lv + 1) (by omega) hw2 hw (fun m'' a b c => hc m'' a b c)
        by_cases he : (voteF who now l[k]).1 = 0
        · simp only [he, if_true] at hy
          simp [F19, call33, p1, ht, p2, hy, he]
        · simp only [he, if_false] at hy
          simp [F19, call33, p1, ht, p2, hy, he]
      · rw [stepE_no hid]
        have hn := fun (m' : Mem) => changed2_no l id hid 38 lv 7 6 m' (lv + 1) (by omega)
        simp [F19, call33, p1, ht, p2, hn]
end Go.Ev
/- Finish. Condition: a table that can be copied. -/
namespace Go.Ev
set_option linter.all false
theorem finish20 (l : List Ask) (h : CopyOk l) (id : Int) (now : Int) (m : Mem) (lv : Nat) : (sem T).call 20 [.sl none 7 (l.map Ask.av), .int .i64 id, .int .i64 now] m lv =
    some ([.sl (if (stepE l id (finishF now)).2 = 0 then none else some 29) 7 ((stepE l id (finishF now)).1.map Ask.av), .sl none 17 ((if (stepE l id (finishF now)).2 = 0 then (match l[(id - 1).toNat]? with | some x => x.chg | none => []) else []).map Chg.av), .int .i64 (stepE l id (finishF now)).2], m) := by
  refine call_go rfl rfl rfl ?_
  have h0 := h.1
  rcases id_or l id with ⟨k, rfl, hk⟩ | hid
  · have e : ((k : Int) + 1 - 1).toNat = k := by omega
    rw [stepE_yes hk, e, List.getElem?_eq_getElem hk]
    obtain ⟨c1, c2⟩ := h.2 l[k] (List.getElem_mem hk)
    have c3 : l[k].chg.length ≤ 9223372036854775807 := by omega
    have c4 : l[k].chg.length * 168 ≤ 140737488355328 := by omega
    have hw := IntWalk.i64_in (k : Int) (by omega)
    have hq : k < (mark l l.length).length := by rw [mark_len]; exact hk
    have hc := fun (m' : Mem) (hw : m' lv 5 = some (.cells 3 [.int .i64 now])) (hm : m' (lv + 1) 19 = some (.cells 29 (((mark l l.length).map AskQ.av).flatten))) => call40 (mark l l.length) k hq now m' (lv + 1) lv (lv + 2) (by omega) (by omega) hm hw
    rw [mark_full l k hq hk] at hc
    have hy := fun (m' : Mem) (hw : m' lv 5 = some (.cells 3 [.int .i64 now])) => changed_yes l h k hk (finishF now) 40 lv 5 _ m' (lv + 1) (by omega) hw (fun m'' a b => hc m'' a b)
    by_cases he : (finishF now l[k]).1 = 0
    · simp only [he, if_true] at hy
      simp [F20, hy, he, hk, hw, c3, c4, -List.map_set]
    · simp only [he, if_false] at hy
      simp [F20, hy, he]
  · rw [stepE_no hid]
    have hn := fun (m' : Mem) => changed_no l id hid 40 lv 5 m' (lv + 1) (by omega)
    simp [F20, hn]
theorem carry35_nil (m : Mem) (lv : Nat) : (sem T).carry 35 [.sl none 7 []] m lv = some (none, (0, 0, 7), m) := by
  have hl := copied_nil m lv
  refine carry_go rfl rfl rfl ?_
  simp [F35, hl, leaveW]
def emark (l : List Ask) (now : Int) (i : Nat) : List AskQ := l.mapIdx fun j x => ⟨some 55, some 9, if j < i then expireF now x else x⟩
theorem emark_len (l : List Ask) (now : Int) (i : Nat) : (emark l now i).length = l.length := List.length_mapIdx
theorem emark_at (l : List Ask) (now : Int) (i : Nat) (h : i < l.length) (h2 : i < (emark l now i).length) : (emark l now i)[i] = ⟨some 55, some 9, l[i]⟩ := by simp [emark, h]
theorem emark_set (l : List Ask) (now : Int) (i : Nat) (h : i < l.length) : (emark l now i).set i ⟨some 55, some 9, expireF now l[i]⟩ = emark l now (i + 1) := by
  apply List.ext_getElem
  · simp [emark]
  · intro j h1 h2
    rw [List.getElem_set]
    by_cases e : i = j
    · subst e; simp [emark]
    · have : (j < i + 1) = (j < i) := by apply propext; omega
      simp [emark, e, this]
theorem emark_same (l : List Ask) (now : Int) (i : Nat) (h : i < l.length) (he : expireF now l[i] = l[i]) : emark l now (i + 1) = emark l now i := by
  rw [← emark_set l now i h, he]
  have := emark_at l now i h (by rw [emark_len]; exact h)
  rw [← this, List.set_getElem_self]
theorem emark_zero (l : List Ask) (now : Int) : emark l now 0 = mark l l.length := by
  apply List.ext_getElem
  · simp [emark, mark]
  · intro j h1 h2
    have h3 : j < l.length := by rw [emark_len] at h1; exact h1
    simp [emark, mark, h3]
theorem emark_map (l : List Ask) (now : Int) : (emark l now l.length).map (fun x => x.av.map AV.noOwn1) = (l.map (expireF now)).map Ask.av := by
  apply List.ext_getElem
  · simp [emark]
  · intro j h1 h2
    have h3 : j < l.length := by simpa [emark] using h1
    simp only [AskQ.av_no, emark, List.getElem_map, List.getElem_mapIdx, if_pos h3]
theorem expire_loop (l : List Ask) (h : CopyOk l) (now : Int) (m : Mem) (lv : Nat) : ∀ (d i : Nat), i + d = l.length → ∀ t : St, t.mask [1, 5, 10, 11] [8] = some ⟨34, lv, tmOf [(1, .int .i64 now), (5, .win lv 8 0 l.length 7), (10, .int .i64 (l.length : Int)), (11, .int .i64 (i : Int))], bxOf [(8, some (.cells 29 (((emark l now i).map AskQ.av).flatten)))], m⟩ →
    (sem T).loop [1, 5, 10, 11] [8] L25_0 t = some (.ex 0, ⟨34, lv, tmOf [(5, .win lv 8 0 l.length 7)], bxOf [(8, some (.cells 29 (((emark l now l.length).map AskQ.av).flatten)))], m⟩)
  | 0, i, hd, t, hs => by
    obtain rfl : i = l.length := by omega
    refine loop_end (fl := .ex 0) hs ?_ (by intro e; cases e)
    simp [L25_0, flatN_okPs AskQ.av_ok]
  | d + 1, i, hd, t, hs => by
    have h0 := h.1
    have hi : i < l.length := by omega
    have hw := IntWalk.i64_in ((i : Int) + 1) (by omega)
    have hm : i < (emark l now i).length := by rw [emark_len]; exact hi
    have hat := emark_at l now i hi hm
    have g5 := flat_cell AskQ.av_len (emark l now i) i hm 5 (by omega)
    have gr := flat_sub1 AskQ.av_len (emark l now i) i (List.getElem?_eq_getElem hm)
    rw [hat] at g5 gr
    have h48 := call48 l[i]
    simp only [Ask.av] at h48
    have n0 : i * 7 < l.length * 7 := by omega
    have n1 : i * 7 + 7 ≤ l.length * 7 := by omega
    have n5 : i * 7 + 5 < l.length * 7 := by omega
    have n6 : i * 7 + 6 < l.length * 7 := by omega
    have n7 : i * 7 + 6 + 1 ≤ l.length * 7 := by omega
    refine loop_round hs ?_ (expire_loop l h now m lv d (i + 1) (by omega))
    cases hp : pend l[i]
    · rw [emark_same l now i hi (by unfold expireF; rw [hp]; simp)]
      simp [L25_0, hi, hw, flat_len AskQ.av_len, emark_len, gr, h48, hp, n0, n1, flatN_okPs AskQ.av_ok, AV.noOwn1]
    · rcases le_or l[i].til now with ⟨q1, q2⟩ | ⟨q1, q2⟩
      · have he : expireF now l[i] = { l[i] with st := 3 } := by unfold expireF; rw [hp]; simp [q1]
        have hs3 : splice (((emark l now i).map AskQ.av).flatten) (i * 7 + 6) [.int .i64 3] = (((emark l now (i + 1))).map AskQ.av).flatten := by
          rw [← emark_set l now i hi, he]
          exact flat_splice AskQ.av_len (emark l now i) i 6 _ (by simp) (x := ⟨some 55, some 9, l[i]⟩) (by rw [List.getElem?_eq_getElem hm, hat]) (by simp [splice])
        simp [L25_0, hi, hw, flat_len AskQ.av_len, emark_len, gr, g5, h48, hp, n0, n1, n5, n6, n7, q1, q2, hs3, flatN_okPs AskQ.av_ok, AV.noOwn1, -List.map_set]
      · rw [emark_same l now i hi (by unfold expireF; rw [hp]; simp [q1])]
        simp [L25_0, hi, hw, flat_len AskQ.av_len, emark_len, gr, g5, h48, hp, n0, n1, n5, q1, q2, flatN_okPs AskQ.av_ok, AV.noOwn1]
theorem expire25 (l : List Ask) (h : CopyOk l) (now : Int) (m : Mem) (lv : Nat) : ∃ o, (sem T).call 25 [.sl none 7 (l.map Ask.av), .int .i64 now] m lv = some ([.sl o 7 ((l.map (expireF now)).map Ask.av)], m) := by
  by_cases hn : l = []
  · subst hn
    have hc := carry35_nil
    have hl : ∀ t : St, t.mask [1, 5, 10, 11] [8] = some ⟨34, lv, tmOf [(1, .int .i64 now), (5, .sl none 7 []), (10, .int .i64 0), (11, .int .i64 0)], bxOf [(8, none)], m⟩ → (sem T).loop [1, 5, 10, 11] [8] L25_0 t = some (.ex 0, ⟨34, lv, tmOf [(5, .sl none 7 [])], bxOf [(8, none)], m⟩) := fun t hs => by
      refine loop_end (fl := .ex 0) hs ?_ (by intro e; cases e)
      simp [L25_0]
    refine ⟨none, call_go rfl rfl rfl ?_⟩
    simp [F25, hc, hl]
  · have hc := carry35 l h hn
    have hl := expire_loop l h now m lv l.length 0 (by omega)
    rw [emark_zero] at hl
    simp only [Int.natCast_zero] at hl
    have hz := flatN_frz AskQ.av_len (emark l now l.length)
    rw [emark_map, emark_len] at hz
    refine ⟨some 29, call_go rfl rfl rfl ?_⟩
    simp [F25, hc, hl, hn, flat_len AskQ.av_len, emark_len, mark_len, hz, flatN_okPs AskQ.av_ok, flatN_frzd AskQ.av_data, -List.map_map]
end Go.Ev
/- A call, by the ledger and by the reference. Condition: a table that can be copied. -/
namespace Go.Ev
set_option linter.all false
structure Act where
  kind : Int
  who : ByteArray
  chg : List Chg
  id : Int
  need : Int
  til : Int
  now : Int
@[simp] def Act.av (a : Act) : List AV := [.int .u8 a.kind, .str a.who, .sl none 17 (a.chg.map Chg.av), .int .i64 a.id, .int .i64 a.need, .int .i64 a.til, .int .i64 a.now]
def Act.ok (a : Act) : Prop := 0 ≤ a.kind ∧ a.kind ≤ 255
theorem kind_or (a : Act) (h : a.ok) : a.kind.tmod 6 = 0 ∨ a.kind.tmod 6 = 1 ∨ a.kind.tmod 6 = 2 ∨ a.kind.tmod 6 = 3 ∨ a.kind.tmod 6 = 4 ∨ a.kind.tmod 6 = 5 := by
  rw [Int.tmod_eq_emod_of_nonneg h.1]
  omega
def guardE (who : ByteArray) (now : Int) (r : List Ask × Int) : List Ask × Int := if (!person who || !timeB now) = true then ([], 1) else r
theorem vote_do (l : List Ask) (h : CopyOk l) (id : Int) (who : ByteArray) (now : Int) (m : Mem) (lv : Nat) : (sem T).call 19 [.sl none 7 (l.map Ask.av), .int .i64 id, .str who, .int .i64 now] m lv = some ([.sl (some 29) 7 ((guardE who now (stepE l id (voteF who now))).1.map Ask.av), .int .i64 (guardE who now (stepE l id (voteF who now))).2], m) := by
  rw [vote19 l h]; unfold guardE; split <;> rfl
theorem vote_ref (l : List Ask) (h : CopyOk l) (id : Int) (who : ByteArray) (now : Int) (m : Mem) (lv : Nat) : (sem T).call 27 [.sl none 7 (l.map Ask.av), .int .i64 id, .str who, .int .i64 now] m lv = some ([.sl (some 29) 7 ((guardE who now (stepE l id (voteF who now))).1.map Ask.av), .int .i64 (guardE who now (stepE l id (voteF who now))).2], m) := by
  rw [refVote l h]; unfold guardE; split <;> rfl
theorem reject_do (l : List Ask) (h : CopyOk l) (id : Int) (who : ByteArray) (now : Int) (m : Mem) (lv : Nat) : (sem T).call 23 [.sl none 7 (l.map Ask.av), .int .i64 id, .str who, .int .i64 now] m lv = some ([.sl (some 29) 7 ((guardE who now (stepE l id (rejectF who))).1.map Ask.av), .int .i64 (guardE who now (stepE l id (rejectF who))).2], m) := by
  rw [reject23 l h]; unfold guardE; split <;> rfl
theorem reject_ref (l : List Ask) (h : CopyOk l) (id : Int) (who : ByteArray) (now : Int) (m : Mem) (lv : Nat) : (sem T).call 28 [.sl none 7 (l.map Ask.av), .int .i64 id, .str who, .int .i64 now] m lv = some ([.sl (some 29) 7 ((guardE who now (stepE l id (rejectF who))).1.map Ask.av), .int .i64 (guardE who now (stepE l id (rejectF who))).2], m) := by
  rw [refReject l h]; unfold guardE; split <;> rfl
def finishC (l : List Ask) (id now : Int) : List Chg := if (stepE l id (finishF now)).2 = 0 then (match l[(id - 1).toNat]? with | some x => x.chg | none => []) else []
def actE (l : List Ask) (a : Act) : List Ask × List Chg × Int × Int :=
  if a.kind.tmod 6 = 0 then ((submitE l a.who a.chg a.need a.til a.now).1, [], (submitE l a.who a.chg a.need a.til a.now).2.1, (submitE l a.who a.chg a.need a.til a.now).2.2)
  else if a.kind.tmod 6 = 1 then ((guardE a.who a.now (stepE l a.id (voteF a.who a.now))).1, [], 0, (guardE a.who a.now (stepE l a.id (voteF a.who a.now))).2)
  else if a.kind.tmod 6 = 2 then ((guardE a.who a.now (stepE l a.id (rejectF a.who))).1, [], 0, (guardE a.who a.now (stepE l a.id (rejectF a.who))).2)
  else if a.kind.tmod 6 = 3 then ((stepE l a.id (withdrawF a.who)).1, [], 0, (stepE l a.id (withdrawF a.who)).2)
  else if a.kind.tmod 6 = 4 then ((stepE l a.id (finishF a.now)).1, finishC l a.id a.now, 0, (stepE l a.id (finishF a.now)).2)
  else (l.map (expireF a.now), [], 0, 0)
theorem do_spec (l : List Ask) (h : CopyOk l) (a : Act) (ha : a.ok) (m : Mem) (lv : Nat) : ∃ o, (sem T).call 12 [.sl none 7 (l.map Ask.av), .agg a.av] m lv =
    some ([.sl o 7 ((actE l a).1.map Ask.av), .sl none 17 ((actE l a).2.1.map Chg.av), .int .i64 (actE l a).2.2.1, .int .i64 (actE l a).2.2.2], m) := by
  unfold actE
  rcases kind_or a ha with hk | hk | hk | hk | hk | hk
  · have hs := call18 l h a.who a.chg a.need a.til a.now
    refine ⟨none, call_go rfl rfl rfl ?_⟩
    simp [F12, hk, hs]
  · have hs := vote_do l h a.id a.who a.now
    refine ⟨none, call_go rfl rfl rfl ?_⟩
    simp [F12, hk, hs]
  · have hs := reject_do l h a.id a.who a.now
    refine ⟨none, call_go rfl rfl rfl ?_⟩
    simp [F12, hk, hs]
  · have hs := withdraw24 l h a.id a.who
    refine ⟨none, call_go rfl rfl rfl ?_⟩
    simp [F12, hk, hs]
  · have hs := finish20 l h a.id a.now
    refine ⟨none, call_go rfl rfl rfl ?_⟩
    simp [F12, hk, hs, finishC]
    try rfl
  · obtain ⟨o, hs⟩ := expire25 l h a.now noMem 0
    refine ⟨o, call_go rfl rfl rfl ?_⟩
    simp [F12, hk, hs, -List.map_map]
theorem model_spec (l : List Ask) (h : CopyOk l) (a : Act) (ha : a.ok) (m : Mem) (lv : Nat) : ∃ o, (sem T).call 13 [.sl none 7 (l.map Ask.av), .agg a.av] m lv =
    some ([.sl o 7 ((actE l a).1.map Ask.av), .sl none 17 ((actE l a).2.1.map Chg.av), .int .i64 (actE l a).2.2.1, .int .i64 (actE l a).2.2.2], m) := by
  unfold actE
  rcases kind_or a ha with hk | hk | hk | hk | hk | hk
  · have hs := call26 l h a.who a.chg a.need a.til a.now
    refine ⟨none, call_go rfl rfl rfl ?_⟩
    simp [F13, hk, hs]
  · have hs := vote_ref l h a.id a.who a.now
    refine ⟨none, call_go rfl rfl rfl ?_⟩
    simp [F13, hk, hs]
  · have hs := reject_ref l h a.id a.who a.now
    refine ⟨none, call_go rfl rfl rfl ?_⟩
    simp [F13, hk, hs]
  · have hs := refWithdraw l h a.id a.who
    refine ⟨none, call_go rfl rfl rfl ?_⟩
    simp [F13, hk, hs]
  · have hs := refFinish l h a.id a.now
    refine ⟨none, call_go rfl rfl rfl ?_⟩
    simp [F13, hk, hs, finishC]
    try rfl
  · have hs := refExpire l h a.now
    refine ⟨some 29, call_go rfl rfl rfl ?_⟩
    simp [F13, hk, hs, -List.map_map]
end Go.Ev
/- Sizes: of calls, of what they leave. Condition: none. -/
namespace Go.Ev
set_option linter.all false
def smallX (a : Act) : Bool := decide ((a.chg.length : Int) ≤ 70) && decide ((a.who.size : Int) ≤ 100)
def small (l : List Act) : Bool := decide ((l.length : Int) ≤ 90) && l.all smallX
theorem small_loop (l : List Act) (h : l.length ≤ 90) (m : Mem) (lv : Nat) : ∀ (d i : Nat), i + d = l.length → ∀ t : St, t.mask [0, 3] [] = some ⟨29, lv, tmOf [(0, .sl none 7 (l.map Act.av)), (3, .int .i64 (i : Int))], bxOf [], m⟩ →
    (sem T).loop [0, 3] [] L11_0 t = some (if (l.drop i).all smallX then (.ex 0, ⟨29, lv, tmOf [], bxOf [], m⟩) else (.ret, ⟨29, lv, tmOf [(2, .bool false)], bxOf [], m⟩))
  | 0, i, hd, t, hs => by
    obtain rfl : i = l.length := by omega
    refine loop_to (loop_end (fl := .ex 0) hs ?_ (by intro e; cases e)) (by rw [List.drop_length]; rfl)
    simp [L11_0]
  | d + 1, i, hd, t, hs => by
    have hi : i < l.length := by omega
    have hw := IntWalk.i64_in ((i : Int) + 1) (by omega)
    have hdr : l.drop i = l[i] :: l.drop (i + 1) := List.drop_eq_getElem_cons hi
    rw [hdr, List.all_cons]
    unfold smallX
    rcases le_or ((l[i].chg.length : Nat) : Int) 70 with ⟨p, q⟩ | ⟨p, q⟩
    · rcases le_or ((l[i].who.size : Nat) : Int) 100 with ⟨p2, q2⟩ | ⟨p2, q2⟩
      · rw [decide_eq_true (of_eq_true p), decide_eq_true (of_eq_true p2), Bool.true_and, Bool.true_and]
        refine loop_round hs ?_ (small_loop l h m lv d (i + 1) (by omega))
        simp [L11_0, hi, hw, p, q, p2, q2]
      · rw [decide_eq_true (of_eq_true p), decide_eq_false (of_eq_false p2)]
        simp only [Bool.true_and, Bool.false_and]
        refine loop_end (fl := .ret) (s' := ⟨29, lv, tmOf [(2, .bool false)], bxOf [], m⟩) hs ?_ (by intro e; cases e)
        simp [L11_0, hi, hw, p, q, p2, q2]
    · rw [decide_eq_false (of_eq_false p)]
      simp only [Bool.false_and]
      refine loop_end (fl := .ret) (s' := ⟨29, lv, tmOf [(2, .bool false)], bxOf [], m⟩) hs ?_ (by intro e; cases e)
      simp [L11_0, hi, hw, p, q]
theorem call11 (l : List Act) (m : Mem) (lv : Nat) : (sem T).call 11 [.sl none 7 (l.map Act.av)] m lv = some ([.bool (small l)], m) := by
  refine call_go rfl rfl rfl ?_
  unfold small
  rcases le_or (l.length : Int) 90 with ⟨p, q⟩ | ⟨p, q⟩
  · have hl := small_loop l (by have := of_eq_true p; omega) m lv l.length 0 (by omega)
    simp only [List.drop_zero, Int.natCast_zero] at hl
    cases hb : l.all smallX <;> rw [hb] at hl <;> simp [F11, p, q, hl]
  · simp [F11, p, q]
/-- At most n requests, of few changes and at most v votes. -/
def Sz (n v : Nat) (l : List Ask) : Prop := l.length ≤ n ∧ ∀ x ∈ l, x.chg.length ≤ 70 ∧ x.votes.length ≤ v
theorem Sz.copy {n v : Nat} {l : List Ask} (h : Sz n v l) (hn : n ≤ 1000) (hv : v ≤ 1000) : CopyOk l := ⟨by have := h.1; omega, fun x hx => by have := h.2 x hx; omega⟩
theorem Sz.nil (n v : Nat) : Sz n v [] := ⟨Nat.zero_le _, fun x hx => by cases hx⟩
theorem Sz.step {n v : Nat} {l : List Ask} (h : Sz n v l) (id : Int) (f : Ask → Int × Ask) (hf : ∀ x, x.chg.length ≤ 70 → x.votes.length ≤ v → (f x).2.chg.length ≤ 70 ∧ (f x).2.votes.length ≤ v + 1) : Sz (n + 1) (v + 1) (stepE l id f).1 := by
  rcases id_or l id with ⟨k, rfl, hk⟩ | hid
  · rw [stepE_yes hk]
    split
    · refine ⟨by rw [List.length_set]; have := h.1; omega, fun x hx => ?_⟩
      rcases List.mem_or_eq_of_mem_set hx with hx | rfl
      · have := h.2 x hx; omega
      · have := h.2 _ (List.getElem_mem hk)
        exact hf _ this.1 this.2
    · exact .nil _ _
  · rw [stepE_no hid]; exact .nil _ _
theorem Sz.act {n v : Nat} {l : List Ask} (h : Sz n v l) (a : Act) (ha : a.chg.length ≤ 70) : Sz (n + 1) (v + 1) (actE l a).1 := by
  unfold actE
  split
  · unfold submitE
    split
    · exact .nil _ _
    · split
      · exact .nil _ _
      · refine ⟨by have := h.1; simp; omega, fun x hx => ?_⟩
        rcases List.mem_append.1 hx with hx | hx
        · have := h.2 x hx; omega
        · obtain rfl := List.mem_singleton.1 hx
          exact ⟨ha, Nat.zero_le _⟩
  · split
    · unfold guardE
      split
      · exact .nil _ _
      · exact h.step _ _ fun x h1 h2 => by unfold voteF; repeat (first | split | (constructor <;> simp <;> omega))
    · split
      · unfold guardE
        split
        · exact .nil _ _
        · exact h.step _ _ fun x h1 h2 => by unfold rejectF; repeat (first | split | (constructor <;> simp <;> omega))
      · split
        · exact h.step _ _ fun x h1 h2 => by unfold withdrawF; repeat (first | split | (constructor <;> simp <;> omega))
        · split
          · exact h.step _ _ fun x h1 h2 => by unfold finishF; repeat (first | split | (constructor <;> simp <;> omega))
          · refine ⟨by have := h.1; simp; omega, fun x hx => ?_⟩
            obtain ⟨y, hy, rfl⟩ := List.mem_map.1 hx
            have := h.2 y hy
            unfold expireF
            split <;> (constructor <;> (try simp only) <;> omega)
theorem actC {n v : Nat} {l : List Ask} (h : Sz n v l) (a : Act) : (actE l a).2.1.length ≤ 70 := by
  unfold actE
  repeat (first | split | exact Nat.zero_le _)
  all_goals try exact Nat.zero_le _
  unfold finishC
  split
  · split
    · rename_i x hx
      exact (h.2 x (List.mem_of_getElem? hx)).1
    · exact Nat.zero_le _
  · exact Nat.zero_le _
end Go.Ev
/- ApproveCalls. Condition: the call's kind is a byte. -/
namespace Go.Ev
set_option linter.all false
theorem few_sz {l : List Ask} (h : few l = true) : Sz 70 20 l := by
  simp only [few, Bool.and_eq_true, decide_eq_true_iff, List.all_eq_true, fewX] at h
  refine ⟨by have := h.1; omega, fun x hx => ?_⟩
  have := h.2 x hx
  exact ⟨by omega, by omega⟩
theorem calls_spec (l : List Ask) (a : Act) (ha : a.ok) : ∃ m, (sem T).call 4 [.sl none 7 (l.map Ask.av), .agg a.av] noMem 0 = some ([.bool true], m) := by
  obtain ⟨m0, haw⟩ := awake_spec
  refine ⟨noMem, call_go rfl rfl rfl ?_⟩
  have h9 := call9 l
  cases hf : few l with
  | false => rw [hf] at h9; simp [F4, haw, h9]
  | true =>
    rw [hf] at h9
    have hz := few_sz hf
    have hc := hz.copy (by omega) (by omega)
    have h11 := call11 [a]
    simp only [List.map_cons, List.map_nil, Act.av] at h11
    cases hs : small [a] with
    | false => rw [hs] at h11; simp [F4, haw, h9, h11]
    | true =>
      rw [hs] at h11
      have hcl : a.chg.length ≤ 70 := by
        simp only [small, smallX, List.all_cons, List.all_nil, Bool.and_eq_true, decide_eq_true_iff] at hs
        have := hs.2.1.1
        omega
      have ho : LenOk l := ⟨by have := hz.1; omega, fun x hx => by have := hz.2 x hx; omega⟩
      have h10 := call10 l ho
      by_cases he : checkE l = 0
      · rw [he] at h10
        obtain ⟨o1, hd⟩ := do_spec l hc a ha noMem 0
        obtain ⟨o2, hm⟩ := model_spec l hc a ha noMem 0
        simp only [Act.av] at hd hm
        have ht := call14 (actE l a).1 ((hz.act a hcl).copy (by omega) (by omega))
        have hg := call15 (actE l a).2.1 (by have := actC hz a; omega)
        simp [F4, haw, h9, h11, h10, hd, hm, ht, hg]
      · simp [F4, haw, h9, h11, h10, he]
end Go.Ev
/- ApprovePlays. Condition: the calls' kinds are bytes. -/
namespace Go.Ev
set_option linter.all false
theorem plays_loop (acts : List Act) (hok : ∀ a ∈ acts, a.ok) (hch : ∀ a ∈ acts, a.chg.length ≤ 70) (hlen : acts.length ≤ 90) (m : Mem) (lv : Nat) : ∀ (d i : Nat), i + d = acts.length → ∀ (l : List Ask) (o1 o2 : Option Nat), Sz i i l → ∀ s : St, s.mask [0, 3, 4, 5] [] = some ⟨71, lv, tmOf [(0, .sl none 7 (acts.map Act.av)), (3, .sl o1 7 (l.map Ask.av)), (4, .sl o2 7 (l.map Ask.av)), (5, .int .i64 (i : Int))], bxOf [], m⟩ →
    (sem T).loop [0, 3, 4, 5] [] L5_0 s = some (.ex 0, ⟨71, lv, tmOf [], bxOf [], m⟩)
  | 0, i, hd, l, o1, o2, hz, s, hs => by
    obtain rfl : i = acts.length := by omega
    refine loop_end (fl := .ex 0) hs ?_ (by intro e; cases e)
    simp [L5_0]
  | d + 1, i, hd, l, o1, o2, hz, s, hs => by
    have hi : i < acts.length := by omega
    have hw := IntWalk.i64_in ((i : Int) + 1) (by omega)
    have hc := hz.copy (by omega) (by omega)
    have ha := hok acts[i] (List.getElem_mem hi)
    have hcl := hch acts[i] (List.getElem_mem hi)
    obtain ⟨p1, hd1⟩ := do_spec l hc acts[i] ha noMem 0
    obtain ⟨p2, hm1⟩ := model_spec l hc acts[i] ha noMem 0
    simp only [Act.av] at hd1 hm1
    have hz' := hz.act acts[i] hcl
    have ht := call14 (actE l acts[i]).1 (hz'.copy (by omega) (by omega))
    have hg := call15 (actE l acts[i]).2.1 (by have := actC hz acts[i]; omega)
    by_cases he : (actE l acts[i]).2.2.2 = 0
    · refine loop_round hs ?_ (plays_loop acts hok hch hlen m lv d (i + 1) (by omega) (actE l acts[i]).1 none none hz')
      simp [L5_0, hi, hw, hd1, hm1, ht, hg, he]
    · refine loop_round hs ?_ (plays_loop acts hok hch hlen m lv d (i + 1) (by omega) l o1 o2 ⟨by have := hz.1; omega, fun x hx => by have := hz.2 x hx; omega⟩)
      simp [L5_0, hi, hw, hd1, hm1, ht, hg, he]
theorem plays_spec (acts : List Act) (hok : ∀ a ∈ acts, a.ok) : ∃ m, (sem T).call 5 [.sl none 7 (acts.map Act.av)] noMem 0 = some ([.bool true], m) := by
  obtain ⟨m0, haw⟩ := awake_spec
  refine ⟨noMem, call_go rfl rfl rfl ?_⟩
  have h11 := call11 acts
  cases hs : small acts with
  | false => rw [hs] at h11; simp [F5, haw, h11]
  | true =>
    rw [hs] at h11
    simp only [small, smallX, List.all_eq_true, Bool.and_eq_true, decide_eq_true_iff] at hs
    have hl := plays_loop acts hok (fun a ha => by have := (hs.2 a ha).1; omega) (by have := hs.1; omega) noMem 0 acts.length 0 (by omega) [] (some 29) (some 29) (Sz.nil 0 0)
    simp only [List.map_nil, Int.natCast_zero] at hl
    simp [F5, haw, h11, hl]
end Go.Ev
