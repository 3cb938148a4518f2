/- The reference's steps. Condition: a table that can be copied. -/
import Derived.Test.YtjeghkeipoccaaaApSB
namespace Go.Ev
set_option linter.all false
/-- A request's step: an error, or the request after it. -/
def stepE (l : List Ask) (id : Int) (f : Ask → Int × Ask) : List Ask × Int :=
  if id < 1 ∨ (l.length : Int) < id then ([], 11)
  else match l[(id - 1).toNat]? with
    | some x => if (f x).1 = 0 then (l.set (id - 1).toNat (f x).2, 0) else ([], (f x).1)
    | none => ([], 11)
theorem stepE_no {l : List Ask} {id : Int} {f : Ask → Int × Ask} (h : id < 1 ∨ (1 ≤ id ∧ (l.length : Int) < id)) : stepE l id f = ([], 11) := by
  unfold stepE; rw [if_pos (by omega)]
theorem stepE_yes {l : List Ask} {k : Nat} {f : Ask → Int × Ask} (h : k < l.length) : stepE l ((k : Int) + 1) f = if (f l[k]).1 = 0 then (l.set k (f l[k]).2, 0) else ([], (f l[k]).1) := by
  unfold stepE
  rw [if_neg (by omega)]
  have e : ((k : Int) + 1 - 1).toNat = k := by omega
  rw [e, List.getElem?_eq_getElem h]
def voteF (who : ByteArray) (now : Int) (x : Ask) : Int × Ask :=
  if x.st ≠ 1 then (21, x) else if x.til ≤ now then (20, x) else if x.own = who then (17, x) else if x.votes.any (who == ·) then (12, x)
  else (0, { x with votes := x.votes ++ [who], st := if x.need ≤ (x.votes.length : Int) + 1 then 2 else x.st })
def rejectF (who : ByteArray) (x : Ask) : Int × Ask := if pend x = false then (21, x) else if x.own = who then (17, x) else (0, { x with st := 3 })
def withdrawF (who : ByteArray) (x : Ask) : Int × Ask := if x.own ≠ who then (17, x) else if pend x = false then (21, x) else (0, { x with st := 5 })
def finishF (now : Int) (x : Ask) : Int × Ask := if x.st = 1 then (26, x) else if x.st ≠ 2 then (21, x) else if x.til ≤ now then (20, x) else (0, { x with st := 4 })
theorem refWithdraw (l : List Ask) (h : CopyOk l) (id : Int) (who : ByteArray) (m : Mem) (lv : Nat) : (sem T).call 29 [.sl none 7 (l.map Ask.av), .int .i64 id, .str who] m lv =
    some ([.sl (some 29) 7 ((stepE l id (withdrawF who)).1.map Ask.av), .int .i64 (stepE l id (withdrawF who)).2], m) := by
  refine call_go rfl rfl rfl ?_
  have h0 := h.1
  rcases id_or l id with ⟨k, rfl, hk⟩ | hid
  · have hf := find_yes l k hk h.1
    rw [stepE_yes hk]
    unfold withdrawF
    have h52 := call52 l[k]
    simp only [Ask.av] at h52
    by_cases h1 : l[k].own = who
    · subst h1
      cases h2 : pend l[k]
      · simp [F29, hf, hk, h52, h2]
      · have h51 := call51 l k hk { l[k] with st := 5 } h
        simp only [Ask.av] at h51
        simp [F29, hf, hk, h52, h2, h51, -List.map_set]
    · have h1' : (who == l[k].own) = false := by simpa using fun e => h1 e.symm
      simp [F29, hf, hk, h1, h1']
  · rw [stepE_no hid]
    simp [F29, find_no l id hid]
theorem refReject (l : List Ask) (h : CopyOk l) (id : Int) (who : ByteArray) (now : Int) (m : Mem) (lv : Nat) : (sem T).call 28 [.sl none 7 (l.map Ask.av), .int .i64 id, .str who, .int .i64 now] m lv =
    some (if (!person who || !timeB now) = true then [.sl (some 29) 7 [], .int .i64 1] else [.sl (some 29) 7 ((stepE l id (rejectF who)).1.map Ask.av), .int .i64 (stepE l id (rejectF who)).2], m) := by
  have ht : ∀ (n : Int) (m : Mem) (lv : Nat), (sem T).call 45 [.int .i64 n] m lv = some ([.bool (timeB n)], m) := call45
  refine call_go rfl rfl rfl ?_
  have h0 := h.1
  cases p1 : person who
  · simp [F28, call43, p1]
  · cases p2 : timeB now
    · simp [F28, call43, p1, ht, p2]
    · rcases id_or l id with ⟨k, rfl, hk⟩ | hid
      · have hf := find_yes l k hk h.1
        rw [stepE_yes hk]
        unfold rejectF
        have h52 := call52 l[k]
        simp only [Ask.av] at h52
        cases h2 : pend l[k]
        · simp [F28, call43, p1, ht, p2, hf, hk, h52, h2]
        · by_cases h1 : l[k].own = who
          · subst h1
            simp [F28, call43, p1, ht, p2, hf, hk, h52, h2]
          · have h1' : (who == l[k].own) = false := by simpa using fun e => h1 e.symm
            have h51 := call51 l k hk { l[k] with st := 3 } h
            simp only [Ask.av] at h51
            simp [F28, call43, p1, ht, p2, hf, hk, h1, h1', h52, h2, h51, -List.map_set]
      · rw [stepE_no hid]
        simp [F28, call43, p1, ht, p2, find_no l id hid]
theorem refFinish (l : List Ask) (h : CopyOk l) (id : Int) (now : Int) (m : Mem) (lv : Nat) : (sem T).call 30 [.sl none 7 (l.map Ask.av), .int .i64 id, .int .i64 now] m lv =
    some ([.sl (if (stepE l id (finishF now)).2 = 0 then none else some 29) 7 ((stepE l id (finishF now)).1.map Ask.av), .sl none 17 ((if (stepE l id (finishF now)).2 = 0 then (match l[(id - 1).toNat]? with | some x => x.chg | none => []) else []).map Chg.av), .int .i64 (stepE l id (finishF now)).2], m) := by
  refine call_go rfl rfl rfl ?_
  have h0 := h.1
  rcases id_or l id with ⟨k, rfl, hk⟩ | hid
  · have hf := find_yes l k hk h.1
    have hk0 : ((k : Int) < 0) = False := eq_false (by omega)
    have e : ((k : Int) + 1 - 1).toNat = k := by omega
    rw [stepE_yes hk, e, List.getElem?_eq_getElem hk]
    unfold finishF
    by_cases a1 : l[k].st = 1
    · simp [F30, hf, hk, hk0, a1]
    · by_cases a2 : l[k].st = 2
      · rcases le_or l[k].til now with ⟨q1, q2⟩ | ⟨q1, q2⟩
        · simp [F30, hf, hk, hk0, a1, a2, q1, q2]
        · have h51 := call51 l k hk { l[k] with st := 4 } h
          simp only [Ask.av] at h51
          simp [F30, hf, hk, hk0, a1, a2, q1, q2, h51, -List.map_set]
      · simp [F30, hf, hk, hk0, a1, a2]
  · rw [stepE_no hid]
    simp [F30, find_no l id hid]
end Go.Ev
