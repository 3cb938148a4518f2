/- A call, by the ledger and by the reference. Condition: a table that can be copied. -/
import Derived.Test.YtjeghkeipoccaaaApSI
namespace Go.Ev
set_option linter.all false
structure Act where
  kind : Int
  who : ByteArray
  chg : List Chg
  id : Int
  need : Int
  til : Int
  now : Int
@[simp] def Act.av (a : Act) : List AV := [.int .u8 a.kind, .str a.who, .sl none 17 (a.chg.map Chg.av), .int .i64 a.id, .int .i64 a.need, .int .i64 a.til, .int .i64 a.now]
def Act.ok (a : Act) : Prop := 0 ≤ a.kind ∧ a.kind ≤ 255
theorem kind_or (a : Act) (h : a.ok) : a.kind.tmod 6 = 0 ∨ a.kind.tmod 6 = 1 ∨ a.kind.tmod 6 = 2 ∨ a.kind.tmod 6 = 3 ∨ a.kind.tmod 6 = 4 ∨ a.kind.tmod 6 = 5 := by
  rw [Int.tmod_eq_emod_of_nonneg h.1]
  omega
def guardE (who : ByteArray) (now : Int) (r : List Ask × Int) : List Ask × Int := if (!person who || !timeB now) = true then ([], 1) else r
theorem vote_do (l : List Ask) (h : CopyOk l) (id : Int) (who : ByteArray) (now : Int) (m : Mem) (lv : Nat) : (sem T).call 19 [.sl none 7 (l.map Ask.av), .int .i64 id, .str who, .int .i64 now] m lv = some ([.sl (some 29) 7 ((guardE who now (stepE l id (voteF who now))).1.map Ask.av), .int .i64 (guardE who now (stepE l id (voteF who now))).2], m) := by
  rw [vote19 l h]; unfold guardE; split <;> rfl
theorem vote_ref (l : List Ask) (h : CopyOk l) (id : Int) (who : ByteArray) (now : Int) (m : Mem) (lv : Nat) : (sem T).call 27 [.sl none 7 (l.map Ask.av), .int .i64 id, .str who, .int .i64 now] m lv = some ([.sl (some 29) 7 ((guardE who now (stepE l id (voteF who now))).1.map Ask.av), .int .i64 (guardE who now (stepE l id (voteF who now))).2], m) := by
  rw [refVote l h]; unfold guardE; split <;> rfl
theorem reject_do (l : List Ask) (h : CopyOk l) (id : Int) (who : ByteArray) (now : Int) (m : Mem) (lv : Nat) : (sem T).call 23 [.sl none 7 (l.map Ask.av), .int .i64 id, .str who, .int .i64 now] m lv = some ([.sl (some 29) 7 ((guardE who now (stepE l id (rejectF who))).1.map Ask.av), .int .i64 (guardE who now (stepE l id (rejectF who))).2], m) := by
  rw [reject23 l h]; unfold guardE; split <;> rfl
theorem reject_ref (l : List Ask) (h : CopyOk l) (id : Int) (who : ByteArray) (now : Int) (m : Mem) (lv : Nat) : (sem T).call 28 [.sl none 7 (l.map Ask.av), .int .i64 id, .str who, .int .i64 now] m lv = some ([.sl (some 29) 7 ((guardE who now (stepE l id (rejectF who))).1.map Ask.av), .int .i64 (guardE who now (stepE l id (rejectF who))).2], m) := by
  rw [refReject l h]; unfold guardE; split <;> rfl
def finishC (l : List Ask) (id now : Int) : List Chg := if (stepE l id (finishF now)).2 = 0 then (match l[(id - 1).toNat]? with | some x => x.chg | none => []) else []
def actE (l : List Ask) (a : Act) : List Ask × List Chg × Int × Int :=
  if a.kind.tmod 6 = 0 then ((submitE l a.who a.chg a.need a.til a.now).1, [], (submitE l a.who a.chg a.need a.til a.now).2.1, (submitE l a.who a.chg a.need a.til a.now).2.2)
  else if a.kind.tmod 6 = 1 then ((guardE a.who a.now (stepE l a.id (voteF a.who a.now))).1, [], 0, (guardE a.who a.now (stepE l a.id (voteF a.who a.now))).2)
  else if a.kind.tmod 6 = 2 then ((guardE a.who a.now (stepE l a.id (rejectF a.who))).1, [], 0, (guardE a.who a.now (stepE l a.id (rejectF a.who))).2)
  else if a.kind.tmod 6 = 3 then ((stepE l a.id (withdrawF a.who)).1, [], 0, (stepE l a.id (withdrawF a.who)).2)
  else if a.kind.tmod 6 = 4 then ((stepE l a.id (finishF a.now)).1, finishC l a.id a.now, 0, (stepE l a.id (finishF a.now)).2)
  else (l.map (expireF a.now), [], 0, 0)
theorem do_spec (l : List Ask) (h : CopyOk l) (a : Act) (ha : a.ok) (m : Mem) (lv : Nat) : ∃ o, (sem T).call 12 [.sl none 7 (l.map Ask.av), .agg a.av] m lv =
    some ([.sl o 7 ((actE l a).1.map Ask.av), .sl none 17 ((actE l a).2.1.map Chg.av), .int .i64 (actE l a).2.2.1, .int .i64 (actE l a).2.2.2], m) := by
  unfold actE
  rcases kind_or a ha with hk | hk | hk | hk | hk | hk
  · have hs := call18 l h a.who a.chg a.need a.til a.now
    refine ⟨none, call_go rfl rfl rfl ?_⟩
    simp [F12, hk, hs]
  · have hs := vote_do l h a.id a.who a.now
    refine ⟨none, call_go rfl rfl rfl ?_⟩
    simp [F12, hk, hs]
  · have hs := reject_do l h a.id a.who a.now
    refine ⟨none, call_go rfl rfl rfl ?_⟩
    simp [F12, hk, hs]
  · have hs := withdraw24 l h a.id a.who
    refine ⟨none, call_go rfl rfl rfl ?_⟩
    simp [F12, hk, hs]
  · have hs := finish20 l h a.id a.now
    refine ⟨none, call_go rfl rfl rfl ?_⟩
    simp [F12, hk, hs, finishC]
    rfl
  · obtain ⟨o, hs⟩ := expire25 l h a.now noMem 0
    refine ⟨o, call_go rfl rfl rfl ?_⟩
    simp [F12, hk, hs, -List.map_map]
theorem model_spec (l : List Ask) (h : CopyOk l) (a : Act) (ha : a.ok) (m : Mem) (lv : Nat) : ∃ o, (sem T).call 13 [.sl none 7 (l.map Ask.av), .agg a.av] m lv =
    some ([.sl o 7 ((actE l a).1.map Ask.av), .sl none 17 ((actE l a).2.1.map Chg.av), .int .i64 (actE l a).2.2.1, .int .i64 (actE l a).2.2.2], m) := by
  unfold actE
  rcases kind_or a ha with hk | hk | hk | hk | hk | hk
  · have hs := call26 l h a.who a.chg a.need a.til a.now
    refine ⟨none, call_go rfl rfl rfl ?_⟩
    simp [F13, hk, hs]
  · have hs := vote_ref l h a.id a.who a.now
    refine ⟨none, call_go rfl rfl rfl ?_⟩
    simp [F13, hk, hs]
  · have hs := reject_ref l h a.id a.who a.now
    refine ⟨none, call_go rfl rfl rfl ?_⟩
    simp [F13, hk, hs]
  · have hs := refWithdraw l h a.id a.who
    refine ⟨none, call_go rfl rfl rfl ?_⟩
    simp [F13, hk, hs]
  · have hs := refFinish l h a.id a.now
    refine ⟨none, call_go rfl rfl rfl ?_⟩
    simp [F13, hk, hs, finishC]
    rfl
  · have hs := refExpire l h a.now
    refine ⟨some 29, call_go rfl rfl rfl ?_⟩
    simp [F13, hk, hs, -List.map_map]
end Go.Ev
