/- Vote's closure. Condition: few votes. -/
import Derived.Test.YtjeghkeipoccaaaApSE
namespace Go.Ev
set_option linter.all false
theorem call38 (q : List AskQ) (k : Nat) (hk : k < q.length) (who : ByteArray) (now : Int) (ho : q[k].o2 = some 9) (hv : q[k].x.votes.length ≤ 100000) (m : Mem) (L L2 lv : Nat) (hL : L < lv) (hL2 : L2 < lv) (hm : m L 19 = some (.cells 29 ((q.map AskQ.av).flatten))) (hw : m L2 6 = some (.cells 9 [.str who])) (hw2 : m L2 7 = some (.cells 3 [.int .i64 now])) :
    (sem T).call 38 [.ptr L 19 (k * 7), .ptr L2 7 0, .ptr L2 6 0] m lv = some ([.int .i64 (voteF who now q[k].x).1], if (voteF who now q[k].x).1 = 0 then updM m L 19 (.cells 29 (((q.set k { q[k] with x := (voteF who now q[k].x).2 }).map AskQ.av).flatten)) else m) := by
  have g1 := flat_cell AskQ.av_len q k hk 1 (by omega)
  have g5 := flat_cell AskQ.av_len q k hk 5 (by omega)
  have g6 := flat_cell AskQ.av_len q k hk 6 (by omega)
  have hs : ∀ n : Int, splice ((q.map AskQ.av).flatten) (k * 7 + 6) [.int .i64 n] = ((q.set k { q[k] with x := { q[k].x with st := n } }).map AskQ.av).flatten := fun n => flat_splice AskQ.av_len q k 6 [.int .i64 n] (by simp) (List.getElem?_eq_getElem hk) (by simp [splice])
  have gr := flat_sub1 AskQ.av_len q k (List.getElem?_eq_getElem hk)
  have n0 : k * 7 + 7 ≤ q.length * 7 := by omega
  have n1 : k * 7 + 1 < q.length * 7 := by omega
  have n5 : k * 7 + 5 < q.length * 7 := by omega
  have n6 : k * 7 + 6 < q.length * 7 := by omega
  have n7 : k * 7 + 6 + 1 ≤ q.length * 7 := by omega
  have e1 : ¬ L = lv := by omega
  have e2 : ¬ L2 = lv := by omega
  have h39 := call39 who q[k].x.votes (by omega)
  have v1 : q[k].x.votes.length ≤ 9223372036854775807 := by omega
  have v3 : (q[k].x.votes.length + 1) * 16 ≤ 140737488355328 := by omega
  have v4 : q[k].x.votes.length ≤ 9223372036854775806 := by omega
  have g3 := flat_cell AskQ.av_len q k hk 3 (by omega)
  have n3 : k * 7 + 3 < q.length * 7 := by omega
  have n4 : k * 7 + 4 < q.length * 7 := by omega
  have n8 : k * 7 + 3 + 1 ≤ q.length * 7 := by omega
  have t1 : splice ((q.map AskQ.av).flatten) (k * 7 + 3) [.sl none 1 (q[k].x.votes.map (one1 sAv))] = ((q.set k { q[k] with o2 := none }).map AskQ.av).flatten := flat_splice AskQ.av_len q k 3 _ (by simp) (List.getElem?_eq_getElem hk) (by simp [splice])
  have t2 : splice (((q.set k { q[k] with o2 := none }).map AskQ.av).flatten) (k * 7 + 3) [.sl (some 9) 1 (q[k].x.votes.map (one1 sAv) ++ [[.str who]])] = ((q.set k { o1 := q[k].o1, o2 := some 9, x := { q[k].x with votes := q[k].x.votes ++ [who] } }).map AskQ.av).flatten := by
    rw [flat_splice AskQ.av_len (q.set k { q[k] with o2 := none }) k 3 _ (by simp) (x := { q[k] with o2 := none }) (y := { o1 := q[k].o1, o2 := some 9, x := { q[k].x with votes := q[k].x.votes ++ [who] } }) (by simp [hk]) (by simp [splice, one1, sAv]), List.set_set]
  have t3 : splice (((q.set k { o1 := q[k].o1, o2 := some 9, x := { q[k].x with votes := q[k].x.votes ++ [who] } }).map AskQ.av).flatten) (k * 7 + 6) [.int .i64 2] = ((q.set k { o1 := q[k].o1, o2 := some 9, x := { q[k].x with votes := q[k].x.votes ++ [who], st := 2 } }).map AskQ.av).flatten := by
    rw [flat_splice AskQ.av_len (q.set k { o1 := q[k].o1, o2 := some 9, x := { q[k].x with votes := q[k].x.votes ++ [who] } }) k 6 _ (by simp) (x := { o1 := q[k].o1, o2 := some 9, x := { q[k].x with votes := q[k].x.votes ++ [who] } }) (y := { o1 := q[k].o1, o2 := some 9, x := { q[k].x with votes := q[k].x.votes ++ [who], st := 2 } }) (by simp [hk]) (by simp [splice]), List.set_set]
  have hk2 : k < (q.set k { o1 := q[k].o1, o2 := some 9, x := { q[k].x with votes := q[k].x.votes ++ [who] } }).length := by rw [List.length_set]; exact hk
  have u3 := flat_cell AskQ.av_len (q.set k { o1 := q[k].o1, o2 := some 9, x := { q[k].x with votes := q[k].x.votes ++ [who] } }) k hk2 3 (by omega)
  have u4 := flat_cell AskQ.av_len (q.set k { o1 := q[k].o1, o2 := some 9, x := { q[k].x with votes := q[k].x.votes ++ [who] } }) k hk2 4 (by omega)
  rw [List.getElem_set_self] at u3 u4
  refine call_go rfl rfl rfl ?_
  unfold voteF
  by_cases a1 : q[k].x.st = 1
  · rcases le_or q[k].x.til now with ⟨q1, q2⟩ | ⟨q1, q2⟩
    · simp [F38, hL, hL2, hm, hw, hw2, e1, e2, St.get, n0, n1, n5, n6, n7, g1, g5, g6, gr, flat_len AskQ.av_len, AV.noOwn1, n3, n4, n8, g3, a1, q1, q2]
    · by_cases h1 : q[k].x.own = who
      · subst h1
        simp [F38, hL, hL2, hm, hw, hw2, e1, e2, St.get, n0, n1, n5, n6, n7, g1, g5, g6, gr, flat_len AskQ.av_len, AV.noOwn1, n3, n4, n8, g3, a1, q1, q2]
      · have h1' : (q[k].x.own == who) = false := by simpa using h1
        cases hb : q[k].x.votes.any (who == ·)
        · simp only [a1] at t3 u3 u4
          rcases le_or q[k].x.need ((q[k].x.votes.length : Int) + 1) with ⟨q3, q4⟩ | ⟨q3, q4⟩
          · simp [F38, hL, hL2, hm, hw, hw2, e1, e2, St.get, n0, n1, n5, n6, n7, g1, g5, g6, gr, flat_len AskQ.av_len, AV.noOwn1, n3, n4, n8, g3, a1, q1, q2, h1, h1', h39, hb, ho, v1, v3, v4, q3, q4, flatN_okPs AskQ.av_ok, St.setBox, t1, t2, t3, u3, u4, updM_eq, updM_updM, AV.one, List.length_set, -List.map_set]
          · simp [F38, hL, hL2, hm, hw, hw2, e1, e2, St.get, n0, n1, n5, n6, n7, g1, g5, g6, gr, flat_len AskQ.av_len, AV.noOwn1, n3, n4, n8, g3, a1, q1, q2, h1, h1', h39, hb, ho, v1, v3, v4, q3, q4, flatN_okPs AskQ.av_ok, St.setBox, t1, t2, t3, u3, u4, updM_eq, updM_updM, AV.one, List.length_set, -List.map_set]
        · simp [F38, hL, hL2, hm, hw, hw2, e1, e2, St.get, n0, n1, n5, n6, n7, g1, g5, g6, gr, flat_len AskQ.av_len, AV.noOwn1, n3, n4, n8, g3, a1, q1, q2, h1, h1', h39, hb]
  · simp [F38, hL, hL2, hm, hw, hw2, e1, e2, St.get, n0, n1, n5, n6, n7, g1, g5, g6, gr, flat_len AskQ.av_len, AV.noOwn1, n3, n4, n8, g3, a1]
end Go.Ev
