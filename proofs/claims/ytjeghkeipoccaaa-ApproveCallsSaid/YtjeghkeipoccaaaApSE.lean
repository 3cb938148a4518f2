/- What is done to a request, by the closures. Condition: a table that can be copied. -/
import Derived.Test.YtjeghkeipoccaaaApSD
namespace Go.Ev
set_option linter.all false
theorem call47 (q : List AskQ) (k : Nat) (hk : k < q.length) (who : ByteArray) (m : Mem) (L L2 lv : Nat) (hL : L < lv) (hL2 : L2 < lv) (hm : m L 19 = some (.cells 29 ((q.map AskQ.av).flatten))) (hw : m L2 6 = some (.cells 9 [.str who])) :
    (sem T).call 47 [.ptr L 19 (k * 7), .ptr L2 6 0] m lv = some ([.int .i64 (rejectF who q[k].x).1], if (rejectF who q[k].x).1 = 0 then updM m L 19 (.cells 29 (((q.set k { q[k] with x := (rejectF who q[k].x).2 }).map AskQ.av).flatten)) else m) := by
  have g1 := flat_cell AskQ.av_len q k hk 1 (by omega)
  have g5 := flat_cell AskQ.av_len q k hk 5 (by omega)
  have g6 := flat_cell AskQ.av_len q k hk 6 (by omega)
  have hs : ∀ n : Int, splice ((q.map AskQ.av).flatten) (k * 7 + 6) [.int .i64 n] = ((q.set k { q[k] with x := { q[k].x with st := n } }).map AskQ.av).flatten := fun n => flat_splice AskQ.av_len q k 6 [.int .i64 n] (by simp) (List.getElem?_eq_getElem hk) (by simp [splice])
  have gr := flat_sub1 AskQ.av_len q k (List.getElem?_eq_getElem hk)
  have n0 : k * 7 + 7 ≤ q.length * 7 := by omega
  have n1 : k * 7 + 1 < q.length * 7 := by omega
  have n5 : k * 7 + 5 < q.length * 7 := by omega
  have n6 : k * 7 + 6 < q.length * 7 := by omega
  have n7 : k * 7 + 6 + 1 ≤ q.length * 7 := by omega
  have e1 : ¬ L = lv := by omega
  have e2 : ¬ L2 = lv := by omega
  have h48 := call48 q[k].x
  simp only [Ask.av] at h48
  refine call_go rfl rfl rfl ?_
  unfold rejectF
  cases hp : pend q[k].x
  · simp [F47, hL, hL2, hm, hw, e1, e2, St.get, n0, n1, n5, n6, n7, g1, g5, g6, gr, flat_len AskQ.av_len, AV.noOwn1, h48, hp]
  · by_cases h1 : q[k].x.own = who
    · subst h1
      simp [F47, hL, hL2, hm, hw, e1, e2, St.get, n0, n1, n5, n6, n7, g1, g5, g6, gr, flat_len AskQ.av_len, AV.noOwn1, h48, hp]
    · have h1' : (q[k].x.own == who) = false := by simpa using h1
      simp [F47, hL, hL2, hm, hw, e1, e2, St.get, n0, n1, n5, n6, n7, g1, g5, g6, gr, flat_len AskQ.av_len, AV.noOwn1, h48, hp, h1, h1', hs, flatN_okPs AskQ.av_ok, St.setBox, -List.map_set]
theorem call49 (q : List AskQ) (k : Nat) (hk : k < q.length) (who : ByteArray) (m : Mem) (L L2 lv : Nat) (hL : L < lv) (hL2 : L2 < lv) (hm : m L 19 = some (.cells 29 ((q.map AskQ.av).flatten))) (hw : m L2 5 = some (.cells 9 [.str who])) :
    (sem T).call 49 [.ptr L 19 (k * 7), .ptr L2 5 0] m lv = some ([.int .i64 (withdrawF who q[k].x).1], if (withdrawF who q[k].x).1 = 0 then updM m L 19 (.cells 29 (((q.set k { q[k] with x := (withdrawF who q[k].x).2 }).map AskQ.av).flatten)) else m) := by
  have g1 := flat_cell AskQ.av_len q k hk 1 (by omega)
  have g5 := flat_cell AskQ.av_len q k hk 5 (by omega)
  have g6 := flat_cell AskQ.av_len q k hk 6 (by omega)
  have hs : ∀ n : Int, splice ((q.map AskQ.av).flatten) (k * 7 + 6) [.int .i64 n] = ((q.set k { q[k] with x := { q[k].x with st := n } }).map AskQ.av).flatten := fun n => flat_splice AskQ.av_len q k 6 [.int .i64 n] (by simp) (List.getElem?_eq_getElem hk) (by simp [splice])
  have gr := flat_sub1 AskQ.av_len q k (List.getElem?_eq_getElem hk)
  have n0 : k * 7 + 7 ≤ q.length * 7 := by omega
  have n1 : k * 7 + 1 < q.length * 7 := by omega
  have n5 : k * 7 + 5 < q.length * 7 := by omega
  have n6 : k * 7 + 6 < q.length * 7 := by omega
  have n7 : k * 7 + 6 + 1 ≤ q.length * 7 := by omega
  have e1 : ¬ L = lv := by omega
  have e2 : ¬ L2 = lv := by omega
  have h48 := call48 q[k].x
  simp only [Ask.av] at h48
  refine call_go rfl rfl rfl ?_
  unfold withdrawF
  by_cases h1 : q[k].x.own = who
  · subst h1
    cases hp : pend q[k].x
    · simp [F49, hL, hL2, hm, hw, e1, e2, St.get, n0, n1, n5, n6, n7, g1, g5, g6, gr, flat_len AskQ.av_len, AV.noOwn1, h48, hp]
    · simp [F49, hL, hL2, hm, hw, e1, e2, St.get, n0, n1, n5, n6, n7, g1, g5, g6, gr, flat_len AskQ.av_len, AV.noOwn1, h48, hp, hs, flatN_okPs AskQ.av_ok, St.setBox, -List.map_set]
  · have h1' : (q[k].x.own == who) = false := by simpa using h1
    simp [F49, hL, hL2, hm, hw, e1, e2, St.get, n0, n1, n5, n6, n7, g1, g5, g6, gr, flat_len AskQ.av_len, AV.noOwn1, h1, h1']
theorem call40 (q : List AskQ) (k : Nat) (hk : k < q.length) (now : Int) (m : Mem) (L L2 lv : Nat) (hL : L < lv) (hL2 : L2 < lv) (hm : m L 19 = some (.cells 29 ((q.map AskQ.av).flatten))) (hw : m L2 5 = some (.cells 3 [.int .i64 now])) :
    (sem T).call 40 [.ptr L 19 (k * 7), .ptr L2 5 0] m lv = some ([.int .i64 (finishF now q[k].x).1], if (finishF now q[k].x).1 = 0 then updM m L 19 (.cells 29 (((q.set k { q[k] with x := (finishF now q[k].x).2 }).map AskQ.av).flatten)) else m) := by
  have g1 := flat_cell AskQ.av_len q k hk 1 (by omega)
  have g5 := flat_cell AskQ.av_len q k hk 5 (by omega)
  have g6 := flat_cell AskQ.av_len q k hk 6 (by omega)
  have hs : ∀ n : Int, splice ((q.map AskQ.av).flatten) (k * 7 + 6) [.int .i64 n] = ((q.set k { q[k] with x := { q[k].x with st := n } }).map AskQ.av).flatten := fun n => flat_splice AskQ.av_len q k 6 [.int .i64 n] (by simp) (List.getElem?_eq_getElem hk) (by simp [splice])
  have gr := flat_sub1 AskQ.av_len q k (List.getElem?_eq_getElem hk)
  have n0 : k * 7 + 7 ≤ q.length * 7 := by omega
  have n1 : k * 7 + 1 < q.length * 7 := by omega
  have n5 : k * 7 + 5 < q.length * 7 := by omega
  have n6 : k * 7 + 6 < q.length * 7 := by omega
  have n7 : k * 7 + 6 + 1 ≤ q.length * 7 := by omega
  have e1 : ¬ L = lv := by omega
  have e2 : ¬ L2 = lv := by omega
  have h48 := call48 q[k].x
  simp only [Ask.av] at h48
  refine call_go rfl rfl rfl ?_
  unfold finishF
  by_cases a1 : q[k].x.st = 1
  · simp [F40, hL, hL2, hm, hw, e1, e2, St.get, n0, n1, n5, n6, n7, g1, g5, g6, gr, flat_len AskQ.av_len, AV.noOwn1, a1]
  · by_cases a2 : q[k].x.st = 2
    · rcases le_or q[k].x.til now with ⟨q1, q2⟩ | ⟨q1, q2⟩
      · simp [F40, hL, hL2, hm, hw, e1, e2, St.get, n0, n1, n5, n6, n7, g1, g5, g6, gr, flat_len AskQ.av_len, AV.noOwn1, a1, a2, q1, q2]
      · simp [F40, hL, hL2, hm, hw, e1, e2, St.get, n0, n1, n5, n6, n7, g1, g5, g6, gr, flat_len AskQ.av_len, AV.noOwn1, a1, a2, q1, q2, hs, flatN_okPs AskQ.av_ok, St.setBox, -List.map_set]
    · simp [F40, hL, hL2, hm, hw, e1, e2, St.get, n0, n1, n5, n6, n7, g1, g5, g6, gr, flat_len AskQ.av_len, AV.noOwn1, a1, a2]
end Go.Ev
