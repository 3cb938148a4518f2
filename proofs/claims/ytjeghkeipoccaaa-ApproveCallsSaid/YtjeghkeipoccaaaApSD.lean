/- The reference's Vote and Expire. Condition: a table that can be copied. -/
import Derived.Test.YtjeghkeipoccaaaApSC
namespace Go.Ev
set_option linter.all false
theorem votes_snoc (v : List ByteArray) (w : ByteArray) : v.map (one1 sAv) ++ [[.str w]] = (v ++ [w]).map (one1 sAv) := by simp [one1, sAv]
theorem refVote (l : List Ask) (h : CopyOk l) (id : Int) (who : ByteArray) (now : Int) (m : Mem) (lv : Nat) : (sem T).call 27 [.sl none 7 (l.map Ask.av), .int .i64 id, .str who, .int .i64 now] m lv =
    some (if (!person who || !timeB now) = true then [.sl (some 29) 7 [], .int .i64 1] else [.sl (some 29) 7 ((stepE l id (voteF who now)).1.map Ask.av), .int .i64 (stepE l id (voteF who now)).2], m) := by
  have ht : ∀ (n : Int) (m : Mem) (lv : Nat), (sem T).call 45 [.int .i64 n] m lv = some ([.bool (timeB n)], m) := call45
  refine call_go rfl rfl rfl ?_
  have h0 := h.1
  cases p1 : person who
  · simp [F27, call43, p1]
  · cases p2 : timeB now
    · simp [F27, call43, p1, ht, p2]
    · rcases id_or l id with ⟨k, rfl, hk⟩ | hid
      · have hf := find_yes l k hk h.1
        have hk0 : ((k : Int) < 0) = False := eq_false (by omega)
        obtain ⟨c1, c2⟩ := h.2 l[k] (List.getElem_mem hk)
        have v1 : l[k].votes.length ≤ 9223372036854775807 := by omega
        have v2 : l[k].votes.length * 16 ≤ 140737488355328 := by omega
        have v3 : (l[k].votes.length + 1) * 16 ≤ 140737488355328 := by omega
        have v4 : l[k].votes.length ≤ 9223372036854775806 := by omega
        rw [stepE_yes hk]
        unfold voteF
        by_cases a1 : l[k].st = 1
        · rcases le_or l[k].til now with ⟨q1, q2⟩ | ⟨q1, q2⟩
          · simp [F27, call43, p1, ht, p2, hf, hk, hk0, a1, q1, q2]
          · by_cases h1 : l[k].own = who
            · subst h1
              simp [F27, call43, p1, ht, p2, hf, hk, hk0, a1, q1, q2]
            · have h1' : (who == l[k].own) = false := by simpa using fun e => h1 e.symm
              have hv := call46 who l[k].votes v1
              cases hb : l[k].votes.any (who == ·)
              · rcases le_or l[k].need ((l[k].votes.length : Int) + 1) with ⟨q3, q4⟩ | ⟨q3, q4⟩
                · have h51 := call51 l k hk { l[k] with votes := l[k].votes ++ [who], st := 2 } h
                  simp only [Ask.av, ← votes_snoc] at h51
                  simp [F27, call43, p1, ht, p2, hf, hk, hk0, a1, q1, q2, h1, h1', hv, hb, v1, v2, v3, v4, q3, q4, h51, -List.map_set, -List.map_append]
                · have h51 := call51 l k hk { l[k] with votes := l[k].votes ++ [who], st := 1 } h
                  simp only [Ask.av, ← votes_snoc] at h51
                  simp [F27, call43, p1, ht, p2, hf, hk, hk0, a1, q1, q2, h1, h1', hv, hb, v1, v2, v3, v4, q3, q4, h51, -List.map_set, -List.map_append]
              · simp [F27, call43, p1, ht, p2, hf, hk, hk0, a1, q1, q2, h1, h1', hv, hb]
        · simp [F27, call43, p1, ht, p2, hf, hk, hk0, a1]
      · rw [stepE_no hid]
        simp [F27, call43, p1, ht, p2, find_no l id hid]
def expireF (now : Int) (x : Ask) : Ask := if pend x = true ∧ x.til ≤ now then { x with st := 3 } else x
theorem take_snoc (g : Ask → Ask) (l : List Ask) (i : Nat) (hi : i < l.length) : ((l.take i).map g).map Ask.av ++ [(g l[i]).av] = ((l.take (i + 1)).map g).map Ask.av := by
  rw [List.take_succ_eq_append_getElem hi, List.map_append, List.map_append]; rfl
theorem refExpire_loop (l : List Ask) (h : CopyOk l) (now : Int) (m : Mem) (lv : Nat) : ∀ (d i : Nat), i + d = l.length → ∀ t : St, t.mask [0, 1, 5, 6] [] = some ⟨32, lv, tmOf [(0, .sl none 7 (l.map Ask.av)), (1, .int .i64 now), (5, .sl (some 29) 7 (((l.take i).map (expireF now)).map Ask.av)), (6, .int .i64 (i : Int))], bxOf [], m⟩ →
    (sem T).loop [0, 1, 5, 6] [] L31_0 t = some (.ex 0, ⟨32, lv, tmOf [(5, .sl (some 29) 7 ((l.map (expireF now)).map Ask.av))], bxOf [], m⟩)
  | 0, i, hd, t, hs => by
    obtain rfl : i = l.length := by omega
    rw [List.take_length] at hs
    refine loop_end (fl := .ex 0) hs ?_ (by intro e; cases e)
    simp [L31_0]
  | d + 1, i, hd, t, hs => by
    have h0 := h.1
    have hi : i < l.length := by omega
    have hi' : i ≤ l.length := by omega
    have hw := IntWalk.i64_in ((i : Int) + 1) (by omega)
    have v1 : i ≤ 9223372036854775806 := by omega
    have v2 : (i + 1) * 96 ≤ 140737488355328 := by omega
    have h52 := call52 l[i]
    simp only [Ask.av] at h52
    have hsn := take_snoc (expireF now) l i hi
    refine loop_round hs ?_ (refExpire_loop l h now m lv d (i + 1) (by omega))
    rw [← hsn]
    unfold expireF
    cases hp : pend l[i]
    · simp [L31_0, hi, hi', hw, v1, v2, h52, hp]
    · rcases le_or l[i].til now with ⟨q1, q2⟩ | ⟨q1, q2⟩
      · simp [L31_0, hi, hi', hw, v1, v2, h52, hp, q1, q2]
      · simp [L31_0, hi, hi', hw, v1, v2, h52, hp, q1, q2]
theorem refExpire (l : List Ask) (h : CopyOk l) (now : Int) (m : Mem) (lv : Nat) : (sem T).call 31 [.sl none 7 (l.map Ask.av), .int .i64 now] m lv = some ([.sl (some 29) 7 ((l.map (expireF now)).map Ask.av)], m) := by
  have hl := refExpire_loop l h now m lv l.length 0 (by omega)
  simp only [Int.natCast_zero, List.take_zero, List.map_nil] at hl
  refine call_go rfl rfl rfl ?_
  simp [F31, hl, -List.map_map]
end Go.Ev
