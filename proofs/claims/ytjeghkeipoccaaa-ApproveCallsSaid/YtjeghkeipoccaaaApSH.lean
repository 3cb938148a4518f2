/- The ledger's steps. Condition: a table that can be copied. -/
import Derived.Test.YtjeghkeipoccaaaApSG
namespace Go.Ev
set_option linter.all false
theorem withdraw24 (l : List Ask) (h : CopyOk l) (id : Int) (who : ByteArray) (m : Mem) (lv : Nat) : (sem T).call 24 [.sl none 7 (l.map Ask.av), .int .i64 id, .str who] m lv =
    some ([.sl (some 29) 7 ((stepE l id (withdrawF who)).1.map Ask.av), .int .i64 (stepE l id (withdrawF who)).2], m) := by
  refine call_go rfl rfl rfl ?_
  rcases id_or l id with ⟨k, rfl, hk⟩ | hid
  · rw [stepE_yes hk]
    have hq : k < (mark l l.length).length := by rw [mark_len]; exact hk
    have hc := fun (m' : Mem) (hw : m' lv 5 = some (.cells 9 [.str who])) (hm : m' (lv + 1) 19 = some (.cells 29 (((mark l l.length).map AskQ.av).flatten))) => call49 (mark l l.length) k hq who m' (lv + 1) lv (lv + 2) (by omega) (by omega) hm hw
    rw [mark_full l k hq hk] at hc
    have hy := fun (m' : Mem) (hw : m' lv 5 = some (.cells 9 [.str who])) => changed_yes l h k hk (withdrawF who) 49 lv 5 _ m' (lv + 1) (by omega) hw (fun m'' a b => hc m'' a b)
    by_cases he : (withdrawF who l[k]).1 = 0
    · simp only [he, if_true] at hy
      simp [F24, hy, he]
    · simp only [he, if_false] at hy
      simp [F24, hy, he]
  · rw [stepE_no hid]
    have hn := fun (m' : Mem) => changed_no l id hid 49 lv 5 m' (lv + 1) (by omega)
    simp [F24, hn]
theorem reject23 (l : List Ask) (h : CopyOk l) (id : Int) (who : ByteArray) (now : Int) (m : Mem) (lv : Nat) : (sem T).call 23 [.sl none 7 (l.map Ask.av), .int .i64 id, .str who, .int .i64 now] m lv =
    some (if (!person who || !timeB now) = true then [.sl (some 29) 7 [], .int .i64 1] else [.sl (some 29) 7 ((stepE l id (rejectF who)).1.map Ask.av), .int .i64 (stepE l id (rejectF who)).2], m) := by
  have ht : ∀ (n : Int) (m : Mem) (lv : Nat), (sem T).call 34 [.int .i64 n] m lv = some ([.bool (timeB n)], m) := call34
  refine call_go rfl rfl rfl ?_
  cases p1 : person who
  · simp [F23, call33, p1]
  · cases p2 : timeB now
    · simp [F23, call33, p1, ht, p2]
    · rcases id_or l id with ⟨k, rfl, hk⟩ | hid
      · rw [stepE_yes hk]
        have hq : k < (mark l l.length).length := by rw [mark_len]; exact hk
        have hc := fun (m' : Mem) (hw : m' lv 6 = some (.cells 9 [.str who])) (hm : m' (lv + 1) 19 = some (.cells 29 (((mark l l.length).map AskQ.av).flatten))) => call47 (mark l l.length) k hq who m' (lv + 1) lv (lv + 2) (by omega) (by omega) hm hw
        rw [mark_full l k hq hk] at hc
        have hy := fun (m' : Mem) (hw : m' lv 6 = some (.cells 9 [.str who])) => changed_yes l h k hk (rejectF who) 47 lv 6 _ m' (lv + 1) (by omega) hw (fun m'' a b => hc m'' a b)
        by_cases he : (rejectF who l[k]).1 = 0
        · simp only [he, if_true] at hy
          simp [F23, call33, p1, ht, p2, hy, he]
        · simp only [he, if_false] at hy
          simp [F23, call33, p1, ht, p2, hy, he]
      · rw [stepE_no hid]
        have hn := fun (m' : Mem) => changed_no l id hid 47 lv 6 m' (lv + 1) (by omega)
        simp [F23, call33, p1, ht, p2, hn]
theorem vote19 (l : List Ask) (h : CopyOk l) (id : Int) (who : ByteArray) (now : Int) (m : Mem) (lv : Nat) : (sem T).call 19 [.sl none 7 (l.map Ask.av), .int .i64 id, .str who, .int .i64 now] m lv =
    some (if (!person who || !timeB now) = true then [.sl (some 29) 7 [], .int .i64 1] else [.sl (some 29) 7 ((stepE l id (voteF who now)).1.map Ask.av), .int .i64 (stepE l id (voteF who now)).2], m) := by
  have ht : ∀ (n : Int) (m : Mem) (lv : Nat), (sem T).call 34 [.int .i64 n] m lv = some ([.bool (timeB n)], m) := call34
  refine call_go rfl rfl rfl ?_
  cases p1 : person who
  · simp [F19, call33, p1]
  · cases p2 : timeB now
    · simp [F19, call33, p1, ht, p2]
    · rcases id_or l id with ⟨k, rfl, hk⟩ | hid
      · rw [stepE_yes hk]
        have hq : k < (mark l l.length).length := by rw [mark_len]; exact hk
        have hmf := mark_full l k hq hk
        have hc := fun (m' : Mem) (hw2 : m' lv 7 = some (.cells 3 [.int .i64 now])) (hw : m' lv 6 = some (.cells 9 [.str who])) (hm : m' (lv + 1) 19 = some (.cells 29 (((mark l l.length).map AskQ.av).flatten))) => call38 (mark l l.length) k hq who now (by rw [hmf]) (by rw [hmf]; exact (h.2 l[k] (List.getElem_mem hk)).2) m' (lv + 1) lv (lv + 2) (by omega) (by omega) hm hw hw2
        rw [hmf] at hc
        have hy := fun (m' : Mem) (hw2 : m' lv 7 = some (.cells 3 [.int .i64 now])) (hw : m' lv 6 = some (.cells 9 [.str who])) => changed2_yes l h k hk (voteF who now) 38 lv 7 6 _ _ m' (lv + 1) (by omega) hw2 hw (fun m'' a b c => hc m'' a b c)
        by_cases he : (voteF who now l[k]).1 = 0
        · simp only [he, if_true] at hy
          simp [F19, call33, p1, ht, p2, hy, he]
        · simp only [he, if_false] at hy
          simp [F19, call33, p1, ht, p2, hy, he]
      · rw [stepE_no hid]
        have hn := fun (m' : Mem) => changed2_no l id hid 38 lv 7 6 m' (lv + 1) (by omega)
        simp [F19, call33, p1, ht, p2, hn]
end Go.Ev
