/- ApSN, ApSO, ApSP, ApTie4, joined. Condition: each part's own. -/
import Derived.Test.YtjeghkeipoccaaaApC
import Derived.Test.YtjeghkeipoccaaaApT
/- Searching and counting votes. Condition: few votes. -/
namespace Go.Ev
set_option linter.all false
def hitV (a v : Act) : Bool := decide (v.id = a.id) && (v.who == a.who)
def cnt (l : List Act) (id : Int) : Nat := l.countP fun v => decide (v.id = id)
theorem news_loop (l : List Act) (hl : l.length ≤ 1000) (a : Act) (m : Mem) (lv : Nat) : ∀ (d i : Nat), i + d = l.length → ∀ t : St, t.mask [0, 3, 5] [3] = some ⟨30, lv, tmOf [(0, .sl none 7 (l.map Act.av)), (3, .ptr lv 3 0), (5, .int .i64 (i : Int))], bxOf [(3, some (.cells 32 a.av))], m⟩ →
    (sem T).loop [0, 3, 5] [3] L16_0 t = some (if (l.drop i).any (hitV a) then (.ret, ⟨30, lv, tmOf [(4, .bool false)], bxOf [], m⟩) else (.ex 0, ⟨30, lv, tmOf [], bxOf [], m⟩))
  | 0, i, hd, t, hs => by
    obtain rfl : i = l.length := by omega
    refine loop_to (loop_end (fl := .ex 0) hs ?_ (by intro e; cases e)) (by rw [List.drop_length]; rfl)
    simp [L16_0]
  | d + 1, i, hd, t, hs => by
    have hi : i < l.length := by omega
    have hw := IntWalk.i64_in ((i : Int) + 1) (by omega)
    have hdr : l.drop i = l[i] :: l.drop (i + 1) := List.drop_eq_getElem_cons hi
    rw [hdr, List.any_cons]
    unfold hitV
    by_cases h1 : l[i].id = a.id
    · cases h2 : l[i].who == a.who
      · rw [decide_eq_true h1, Bool.and_false, Bool.false_or]
        refine loop_round hs ?_ (news_loop l hl a m lv d (i + 1) (by omega))
        simp [L16_0, hi, hw, h1, h2]
      · have h2' := beq_iff_eq.1 h2
        rw [decide_eq_true h1, Bool.and_true, Bool.true_or]
        refine loop_end (fl := .ret) (s' := ⟨30, lv, tmOf [(4, .bool false)], bxOf [], m⟩) hs ?_ (by intro e; cases e)
        simp [L16_0, hi, hw, h1, h2']
    · rw [decide_eq_false h1, Bool.false_and, Bool.false_or]
      refine loop_round hs ?_ (news_loop l hl a m lv d (i + 1) (by omega))
      simp [L16_0, hi, hw, h1]
theorem call16 (l : List Act) (hl : l.length ≤ 1000) (a : Act) (m : Mem) (lv : Nat) : (sem T).call 16 [.sl none 7 (l.map Act.av), .agg a.av] m lv = some ([.bool (!l.any (hitV a))], m) := by
  have h := news_loop l hl a m lv l.length 0 (by omega)
  simp only [List.drop_zero, Int.natCast_zero, Act.av] at h
  refine call_go rfl rfl rfl ?_
  cases hb : l.any (hitV a) <;> rw [hb] at h <;> simp [F16, h]
theorem cnt_loop (l : List Act) (hl : l.length ≤ 1000) (id : Int) (m : Mem) (lv : Nat) : ∀ (d i : Nat), i + d = l.length → ∀ (n : Nat), n ≤ i → ∀ t : St, t.mask [0, 1, 5, 6] [] = some ⟨23, lv, tmOf [(0, .sl none 7 (l.map Act.av)), (1, .int .i64 id), (5, .int .i64 (n : Int)), (6, .int .i64 (i : Int))], bxOf [], m⟩ →
    (sem T).loop [0, 1, 5, 6] [] L17_0 t = some (.ex 0, ⟨23, lv, tmOf [(5, .int .i64 ((n + cnt (l.drop i) id : Nat) : Int))], bxOf [], m⟩)
  | 0, i, hd, n, hn, t, hs => by
    obtain rfl : i = l.length := by omega
    refine loop_to (loop_end (fl := .ex 0) (s' := ⟨23, lv, tmOf [(5, .int .i64 (n : Int))], bxOf [], m⟩) hs ?_ (by intro e; cases e)) (by rw [List.drop_length]; rfl)
    simp [L17_0]
  | d + 1, i, hd, n, hn, t, hs => by
    have hi : i < l.length := by omega
    have hw := IntWalk.i64_in ((i : Int) + 1) (by omega)
    have hw2 := IntWalk.i64_in ((n : Int) + 1) (by omega)
    have hdr : l.drop i = l[i] :: l.drop (i + 1) := List.drop_eq_getElem_cons hi
    rw [hdr]
    unfold cnt
    rw [List.countP_cons]
    by_cases h1 : l[i].id = id
    · rw [decide_eq_true h1, if_pos rfl, show n + (List.countP (fun v => decide (v.id = id)) (List.drop (i + 1) l) + 1) = (n + 1) + cnt (l.drop (i + 1)) id by unfold cnt; omega]
      refine loop_round hs ?_ (cnt_loop l hl id m lv d (i + 1) (by omega) (n + 1) (by omega))
      simp [L17_0, hi, hw, hw2, h1]
    · rw [decide_eq_false h1, if_neg (by simp), Nat.add_zero]
      refine loop_round hs ?_ (cnt_loop l hl id m lv d (i + 1) (by omega) n (by omega))
      simp [L17_0, hi, hw, h1]
theorem call17 (l : List Act) (hl : l.length ≤ 1000) (id : Int) (m : Mem) (lv : Nat) : (sem T).call 17 [.sl none 7 (l.map Act.av), .int .i64 id] m lv = some ([.int .i64 ((cnt l id : Nat) : Int)], m) := by
  have h := cnt_loop l hl id m lv l.length 0 (by omega) 0 (by omega)
  simp only [List.drop_zero, Int.natCast_zero, Nat.zero_add] at h
  refine call_go rfl rfl rfl ?_
  simp [F17, h]
end Go.Ev
/- What a history of calls keeps. Condition: none. -/
namespace Go.Ev
set_option linter.all false
/-- The submitted calls, the finished requests and the votes tell the table. -/
structure Inv (l : List Ask) (sub : List Act) (fin : List Int) (vot : List Act) : Prop where
  len : l.length = sub.length
  same : ∀ (k : Nat) (x : Ask) (s : Act), l[k]? = some x → sub[k]? = some s → x.own = s.who ∧ x.chg = s.chg ∧ x.need = s.need ∧ x.til = s.til
  enough : ∀ (k : Nat) (x : Ask), l[k]? = some x → x.st = 2 → x.need ≤ x.votes.length
  count : ∀ (k : Nat) (x : Ask), l[k]? = some x → x.votes.length ≤ cnt vot ((k : Int) + 1)
  voted : ∀ v ∈ vot, ∀ (k : Nat) (x : Ask), v.id = (k : Int) + 1 → l[k]? = some x → v.who ∈ x.votes
  done : ∀ f ∈ fin, ∃ (k : Nat) (x : Ask), l[k]? = some x ∧ f = (k : Int) + 1 ∧ x.st = 4
structure Keep (x y : Ask) : Prop where
  own : y.own = x.own
  chg : y.chg = x.chg
  need : y.need = x.need
  til : y.til = x.til
  votes : y.votes = x.votes
  st2 : y.st = 2 → x.st = 2
  st4 : x.st = 4 → y.st = 4
theorem Keep.rfl' (x : Ask) : Keep x x := ⟨rfl, rfl, rfl, rfl, rfl, id, id⟩
theorem Inv.keep {l l' : List Ask} {sub : List Act} {fin : List Int} {vot : List Act} (h : Inv l sub fin vot) (hl : l'.length = l.length) (hk : ∀ (k : Nat) (x y : Ask), l[k]? = some x → l'[k]? = some y → Keep x y) : Inv l' sub fin vot := by
  have back : ∀ (k : Nat) y, l'[k]? = some y → ∃ x, l[k]? = some x ∧ Keep x y := fun k y hy => by
    have hlt := (List.getElem?_eq_some_iff.1 hy).1
    have hx : l[k]? = some l[k] := List.getElem?_eq_getElem (by omega)
    exact ⟨_, hx, hk k _ y hx hy⟩
  refine ⟨by rw [hl]; exact h.len, fun k y s hy hs => ?_, fun k y hy h2 => ?_, fun k y hy => ?_, fun v hv k y hid hy => ?_, fun f hf => ?_⟩
  · obtain ⟨x, hx, q⟩ := back k y hy
    have := h.same k x s hx hs
    rw [q.own, q.chg, q.need, q.til]; exact this
  · obtain ⟨x, hx, q⟩ := back k y hy
    rw [q.need, q.votes]; exact h.enough k x hx (q.st2 h2)
  · obtain ⟨x, hx, q⟩ := back k y hy
    rw [q.votes]; exact h.count k x hx
  · obtain ⟨x, hx, q⟩ := back k y hy
    rw [q.votes]; exact h.voted v hv k x hid hx
  · obtain ⟨k, x, hx, e, h4⟩ := h.done f hf
    have hlt := (List.getElem?_eq_some_iff.1 hx).1
    have hy : l'[k]? = some l'[k] := List.getElem?_eq_getElem (by omega)
    exact ⟨k, _, hy, e, (hk k x _ hx hy).st4 h4⟩
theorem Inv.set {l : List Ask} {sub : List Act} {fin : List Int} {vot : List Act} (h : Inv l sub fin vot) {k : Nat} (hk : k < l.length) {y : Ask} (q : Keep l[k] y) : Inv (l.set k y) sub fin vot := by
  refine h.keep List.length_set fun j x z hx hz => ?_
  rw [List.getElem?_set] at hz
  by_cases e : k = j
  · subst e
    rw [if_pos rfl, if_pos hk] at hz
    injection hz with hz; subst hz
    rw [List.getElem?_eq_getElem hk] at hx; injection hx with hx; subst hx
    exact q
  · rw [if_neg e, hx] at hz; injection hz with hz; subst hz; exact .rfl' x
theorem Inv.expire {l : List Ask} {sub : List Act} {fin : List Int} {vot : List Act} (h : Inv l sub fin vot) (now : Int) : Inv (l.map (expireF now)) sub fin vot := by
  refine h.keep (List.length_map _) fun j x z hx hz => ?_
  rw [List.getElem?_map, hx] at hz
  injection hz with hz; subst hz
  unfold expireF
  split
  · rename_i hp
    refine ⟨rfl, rfl, rfl, rfl, rfl, fun e => by simp at e, fun e => ?_⟩
    have := hp.1
    unfold pend at this
    rw [e] at this
    exact absurd this (by decide)
  · exact .rfl' x
theorem Inv.submit {l : List Ask} {sub : List Act} {fin : List Int} {vot : List Act} (h : Inv l sub fin vot) (hf : ∀ v ∈ vot, v.id ≤ (l.length : Int)) (a : Act) : Inv (l ++ [⟨l.length + 1, a.who, a.chg, [], a.need, a.til, 1⟩]) (sub ++ [a]) fin vot := by
  have split : ∀ (k : Nat) y, (l ++ [⟨l.length + 1, a.who, a.chg, [], a.need, a.til, 1⟩])[k]? = some y → l[k]? = some y ∨ (k = l.length ∧ y = ⟨l.length + 1, a.who, a.chg, [], a.need, a.til, 1⟩) := fun k y hy => by
    rw [List.getElem?_append] at hy
    split at hy
    · exact .inl hy
    · rename_i hn
      have := (List.getElem?_eq_some_iff.1 hy).1
      have e : k = l.length := by simp at this; omega
      subst e
      rw [Nat.sub_self] at hy
      exact .inr ⟨rfl, by injection hy with hy; exact hy.symm⟩
  refine ⟨by simp [h.len], fun k y s hy hs => ?_, fun k y hy h2 => ?_, fun k y hy => ?_, fun v hv k y hid hy => ?_, fun f hfi => ?_⟩
  · rcases split k y hy with hy | ⟨rfl, rfl⟩
    · rw [List.getElem?_append_left (by rw [← h.len]; exact (List.getElem?_eq_some_iff.1 hy).1)] at hs
      exact h.same k y s hy hs
    · rw [h.len, List.getElem?_append_right (Nat.le_refl _), Nat.sub_self] at hs
      injection hs with hs; subst hs
      exact ⟨rfl, rfl, rfl, rfl⟩
  · rcases split k y hy with hy | ⟨rfl, rfl⟩
    · exact h.enough k y hy h2
    · simp at h2
  · rcases split k y hy with hy | ⟨rfl, rfl⟩
    · exact h.count k y hy
    · exact Nat.zero_le _
  · rcases split k y hy with hy | ⟨rfl, rfl⟩
    · exact h.voted v hv k y hid hy
    · have := hf v hv; omega
  · obtain ⟨k, x, hx, e, h4⟩ := h.done f hfi
    exact ⟨k, x, by rw [List.getElem?_append_left (List.getElem?_eq_some_iff.1 hx).1]; exact hx, e, h4⟩
theorem Inv.vote {l : List Ask} {sub : List Act} {fin : List Int} {vot : List Act} (h : Inv l sub fin vot) (a : Act) {k : Nat} (hk : k < l.length) (hid : a.id = (k : Int) + 1) (hst : l[k].st = 1) :
    Inv (l.set k { l[k] with votes := l[k].votes ++ [a.who], st := if l[k].need ≤ (l[k].votes.length : Int) + 1 then 2 else l[k].st }) sub fin (vot ++ [a]) := by
  have hxk : l[k]? = some l[k] := List.getElem?_eq_getElem hk
  have split : ∀ (j : Nat) y, (l.set k { l[k] with votes := l[k].votes ++ [a.who], st := if l[k].need ≤ (l[k].votes.length : Int) + 1 then 2 else l[k].st })[j]? = some y → (j ≠ k ∧ l[j]? = some y) ∨ (j = k ∧ y = { l[k] with votes := l[k].votes ++ [a.who], st := if l[k].need ≤ (l[k].votes.length : Int) + 1 then 2 else l[k].st }) := fun j y hy => by
    rw [List.getElem?_set] at hy
    by_cases e : k = j
    · subst e
      rw [if_pos rfl, if_pos hk] at hy
      exact .inr ⟨rfl, by injection hy with hy; exact hy.symm⟩
    · rw [if_neg e] at hy; exact .inl ⟨fun q => e q.symm, hy⟩
  have hc : ∀ n, cnt (vot ++ [a]) n = cnt vot n + if a.id = n then 1 else 0 := fun n => by
    unfold cnt; rw [List.countP_append, List.countP_cons, List.countP_nil]
    by_cases e : a.id = n <;> simp [e]
  refine ⟨by rw [List.length_set]; exact h.len, fun j y s hy hs => ?_, fun j y hy h2 => ?_, fun j y hy => ?_, fun v hv j y hvid hy => ?_, fun f hfi => ?_⟩
  · rcases split j y hy with ⟨_, hy⟩ | ⟨rfl, rfl⟩
    · exact h.same j y s hy hs
    · exact h.same j l[j] s hxk hs
  · rcases split j y hy with ⟨_, hy⟩ | ⟨rfl, rfl⟩
    · exact h.enough j y hy h2
    · simp only at h2 ⊢
      split at h2
      · rename_i q; simp only [List.length_append, List.length_singleton]; omega
      · rw [hst] at h2; exact absurd h2 (by decide)
  · rw [hc]
    rcases split j y hy with ⟨_, hy⟩ | ⟨rfl, rfl⟩
    · have := h.count j y hy; omega
    · have := h.count j _ hxk
      rw [if_pos hid]
      simp only [List.length_append, List.length_singleton]; omega
  · rcases List.mem_append.1 hv with hv | hv
    · rcases split j y hy with ⟨_, hy⟩ | ⟨rfl, rfl⟩
      · exact h.voted v hv j y hvid hy
      · exact List.mem_append_left _ (h.voted v hv j _ hvid hxk)
    · obtain rfl := List.mem_singleton.1 hv
      rcases split j y hy with ⟨hne, hy⟩ | ⟨rfl, rfl⟩
      · omega
      · exact List.mem_append_right _ (List.mem_singleton_self _)
  · obtain ⟨j, x, hx, e, h4⟩ := h.done f hfi
    by_cases hjk : j = k
    · subst hjk
      rw [hxk] at hx; injection hx with hx; subst hx
      rw [hst] at h4; exact absurd h4 (by decide)
    · exact ⟨j, x, by rw [List.getElem?_set_ne (fun q => hjk q.symm)]; exact hx, e, h4⟩
theorem Inv.finish {l : List Ask} {sub : List Act} {fin : List Int} {vot : List Act} (h : Inv l sub fin vot) {k : Nat} (hk : k < l.length) : Inv (l.set k { l[k] with st := 4 }) sub (fin ++ [(k : Int) + 1]) vot := by
  have h1 := h.set hk (y := { l[k] with st := 4 }) ⟨rfl, rfl, rfl, rfl, rfl, fun e => by simp at e, fun _ => rfl⟩
  refine ⟨h1.len, h1.same, h1.enough, h1.count, h1.voted, fun f hf => ?_⟩
  rcases List.mem_append.1 hf with hf | hf
  · exact h1.done f hf
  · obtain rfl := List.mem_singleton.1 hf
    exact ⟨k, { l[k] with st := 4 }, by rw [List.getElem?_set, if_pos rfl, if_pos hk], rfl, rfl⟩
theorem Inv.nil : Inv [] [] [] [] := ⟨rfl, fun k x s hx => by simp at hx, fun k x hx => by simp at hx, fun k x hx => by simp at hx, (by intro v hv; cases hv), (by intro f hf; cases hf)⟩
/-! ### What a call that succeeds did -/
theorem step_ok {l : List Ask} {id : Int} {f : Ask → Int × Ask} (h : (stepE l id f).2 = 0) : ∃ k, ∃ hk : k < l.length, id = (k : Int) + 1 ∧ (f l[k]).1 = 0 ∧ (stepE l id f).1 = l.set k (f l[k]).2 := by
  rcases id_or l id with ⟨k, rfl, hk⟩ | hid
  · rw [stepE_yes hk] at h ⊢
    by_cases e : (f l[k]).1 = 0
    · rw [if_pos e]; exact ⟨k, hk, rfl, e, rfl⟩
    · rw [if_neg e] at h; exact absurd h e
  · rw [stepE_no hid] at h; simp at h
theorem guard_ok {who : ByteArray} {now : Int} {r : List Ask × Int} (h : (guardE who now r).2 = 0) : guardE who now r = r := by
  unfold guardE at h ⊢
  split at h
  · simp at h
  · rename_i q; rw [if_neg q]
theorem submit_ok {l : List Ask} {a : Act} (h : (submitE l a.who a.chg a.need a.til a.now).2.2 = 0) : submitE l a.who a.chg a.need a.til a.now = (l ++ [⟨l.length + 1, a.who, a.chg, [], a.need, a.til, 1⟩], (l.length : Int) + 1, 0) := by
  unfold submitE at h ⊢
  split at h
  · simp at h
  · rename_i q
    rw [if_neg q]
    split at h
    · simp at h
    · rename_i q2; rw [if_neg q2]
theorem voteF_ok {who : ByteArray} {now : Int} {x : Ask} (h : (voteF who now x).1 = 0) : x.st = 1 ∧ x.own ≠ who ∧ who ∉ x.votes ∧ (voteF who now x).2 = { x with votes := x.votes ++ [who], st := if x.need ≤ (x.votes.length : Int) + 1 then 2 else x.st } := by
  unfold voteF at h ⊢
  by_cases h1 : x.st ≠ 1
  · rw [if_pos h1] at h; simp at h
  · rw [if_neg h1] at h ⊢
    by_cases h2 : x.til ≤ now
    · rw [if_pos h2] at h; simp at h
    · rw [if_neg h2] at h ⊢
      by_cases h3 : x.own = who
      · rw [if_pos h3] at h; simp at h
      · rw [if_neg h3] at h ⊢
        cases h4 : x.votes.any (who == ·) with
        | true => rw [h4] at h; simp at h
        | false =>
          refine ⟨Decidable.not_not.1 h1, h3, fun hm => ?_, by simp⟩
          have := List.any_eq_false.1 h4 who hm
          simp at this
theorem rejectF_ok {who : ByteArray} {x : Ask} (h : (rejectF who x).1 = 0) : Keep x (rejectF who x).2 := by
  unfold rejectF at h ⊢
  split at h
  · simp at h
  · rename_i q
    rw [if_neg q]
    split at h
    · simp at h
    · rename_i q2
      rw [if_neg q2]
      refine ⟨rfl, rfl, rfl, rfl, rfl, fun e => by simp at e, fun e => ?_⟩
      unfold pend at q; rw [e] at q; exact absurd rfl q
theorem withdrawF_ok {who : ByteArray} {x : Ask} (h : (withdrawF who x).1 = 0) : Keep x (withdrawF who x).2 := by
  unfold withdrawF at h ⊢
  split at h
  · simp at h
  · rename_i q
    rw [if_neg q]
    split at h
    · simp at h
    · rename_i q2
      rw [if_neg q2]
      refine ⟨rfl, rfl, rfl, rfl, rfl, fun e => by simp at e, fun e => ?_⟩
      unfold pend at q2; rw [e] at q2; exact absurd rfl q2
theorem finishF_ok {now : Int} {x : Ask} (h : (finishF now x).1 = 0) : x.st = 2 ∧ now < x.til ∧ (finishF now x).2 = { x with st := 4 } := by
  unfold finishF at h ⊢
  split at h
  · simp at h
  · rename_i q
    rw [if_neg q]
    split at h
    · simp at h
    · rename_i q2
      rw [if_neg q2]
      split at h
      · simp at h
      · rename_i q3
        rw [if_neg q3]
        exact ⟨Decidable.not_not.1 q2, by omega, rfl⟩
end Go.Ev
/- ApproveOnce. Condition: the calls' kinds are bytes. -/
namespace Go.Ev
set_option linter.all false
def iAv (n : Int) : AV := .int .i64 n
theorem fin_loop (acts sub vot : List Act) (l : List Ask) (c : List Chg) (o : Option Nat) (a s : Act) (i : Int) (fin : List Int) (hl : fin.length ≤ 1000) (hne : ∀ f ∈ fin, f ≠ a.id) (m : Mem) (lv : Nat) : ∀ (d j : Nat), j + d = fin.length → ∀ t : St, t.mask [0, 3, 4, 5, 6, 7, 8, 10, 13, 14] [8, 13] = some ⟨146, lv, tmOf [(0, .sl none 7 (acts.map Act.av)), (3, .sl o 7 (l.map Ask.av)), (4, .sl (some 32) 7 (sub.map Act.av)), (5, .sl (some 3) 1 (fin.map (one1 iAv))), (6, .sl (some 32) 7 (vot.map Act.av)), (7, .int .i64 i), (8, .ptr lv 8 0), (10, .sl none 17 (c.map Chg.av)), (13, .ptr lv 13 0), (14, .int .i64 (j : Int))], bxOf [(8, some (.cells 32 a.av)), (13, some (.cells 32 s.av))], m⟩ →
    (sem T).loop [0, 3, 4, 5, 6, 7, 8, 10, 13, 14] [8, 13] L6_0 t = some (.ex 3, ⟨146, lv, tmOf [(0, .sl none 7 (acts.map Act.av)), (3, .sl o 7 (l.map Ask.av)), (4, .sl (some 32) 7 (sub.map Act.av)), (5, .sl (some 3) 1 (fin.map (one1 iAv))), (6, .sl (some 32) 7 (vot.map Act.av)), (7, .int .i64 i), (8, .ptr lv 8 0), (10, .sl none 17 (c.map Chg.av)), (13, .ptr lv 13 0)], bxOf [(8, some (.cells 32 a.av)), (13, some (.cells 32 s.av))], m⟩)
  | 0, j, hd, t, hs => by
    obtain rfl : j = fin.length := by omega
    refine loop_end (fl := .ex 3) hs ?_ (by intro e; cases e)
    simp [L6_0]
  | d + 1, j, hd, t, hs => by
    have hj : j < fin.length := by omega
    have hw := IntWalk.i64_in ((j : Int) + 1) (by omega)
    have h1 := hne fin[j] (List.getElem_mem hj)
    refine loop_round hs ?_ (fin_loop acts sub vot l c o a s i fin hl hne m lv d (j + 1) (by omega))
    simp [L6_0, hj, hw, one1, iAv, h1]
theorem once_loop (acts : List Act) (hok : ∀ a ∈ acts, a.ok) (hch : ∀ a ∈ acts, a.chg.length ≤ 70) (hlen : acts.length ≤ 90) (m : Mem) (lv : Nat) : ∀ (d i : Nat), i + d = acts.length → ∀ (l : List Ask) (o : Option Nat) (sub : List Act) (fin : List Int) (vot : List Act), Sz i i l → Inv l sub fin vot → fin.length ≤ i → vot.length ≤ i → (∀ s ∈ sub, s.chg.length ≤ 70) → (∀ v ∈ vot, v.id ≤ (l.length : Int)) → ∀ s : St, s.mask [0, 3, 4, 5, 6, 7] [] = some ⟨146, lv, tmOf [(0, .sl none 7 (acts.map Act.av)), (3, .sl o 7 (l.map Ask.av)), (4, .sl (some 32) 7 (sub.map Act.av)), (5, .sl (some 3) 1 (fin.map (one1 iAv))), (6, .sl (some 32) 7 (vot.map Act.av)), (7, .int .i64 (i : Int))], bxOf [], m⟩ →
    (sem T).loop [0, 3, 4, 5, 6, 7] [] L6_1 s = some (.ex 0, ⟨146, lv, tmOf [], bxOf [], m⟩)
  | 0, i, hd, l, o, sub, fin, vot, hz, hI, hf, hv, hc, hvi, s, hs => by
    obtain rfl : i = acts.length := by omega
    refine loop_end (fl := .ex 0) hs ?_ (by intro e; cases e)
    simp [L6_1]
  | d + 1, i, hd, l, o, sub, fin, vot, hz, hI, hf, hv, hcs, hvi, s, hs => by
    have hi : i < acts.length := by omega
    have hw := IntWalk.i64_in ((i : Int) + 1) (by omega)
    have hc := hz.copy (by omega) (by omega)
    have ha := hok acts[i] (List.getElem_mem hi)
    have hcl := hch acts[i] (List.getElem_mem hi)
    obtain ⟨p1, hd1⟩ := do_spec l hc acts[i] ha noMem 0
    simp only [Act.av] at hd1
    have hz' := hz.act acts[i] hcl
    have hsl := hI.len
    have hl0 := hz.1
    have next := once_loop acts hok hch hlen m lv d (i + 1) (by omega)
    by_cases he : (actE l acts[i]).2.2.2 = 0
    · rcases kind_or acts[i] ha with hk | hk | hk | hk | hk | hk
      · have hE : actE l acts[i] = (l ++ [⟨l.length + 1, acts[i].who, acts[i].chg, [], acts[i].need, acts[i].til, 1⟩], [], (l.length : Int) + 1, 0) := by
          unfold actE at he ⊢
          rw [if_pos hk] at he ⊢
          rw [submit_ok he]
        rw [hE] at hd1 hz'
        have w1 := IntWalk.i64_in ((sub.length : Int) + 1) (by omega)
        have v1 : sub.length ≤ 9223372036854775806 := by omega
        have v2 : (sub.length + 1) * 80 ≤ 140737488355328 := by omega
        have hI' := hI.submit hvi acts[i]
        refine loop_round hs ?_ (next _ none (sub ++ [acts[i]]) fin vot hz' hI' (by omega) (by omega) (fun s h => ?_) (fun v h => by have := hvi v h; simp; omega))
        · simp [L6_1, hi, hw, hd1, hk, w1, v1, v2, hsl, -List.map_append]
          simp
        · rcases List.mem_append.1 h with h | h
          · exact hcs s h
          · rw [List.mem_singleton.1 h]; exact hcl
      · obtain ⟨k, hk1, hid, hv0, hE0⟩ : ∃ k, ∃ hk : k < l.length, acts[i].id = (k : Int) + 1 ∧ (voteF acts[i].who acts[i].now l[k]).1 = 0 ∧ actE l acts[i] = (l.set k (voteF acts[i].who acts[i].now l[k]).2, [], 0, 0) := by
          unfold actE at he ⊢
          rw [if_neg (by omega), if_pos hk] at he ⊢
          have hg := guard_ok he
          rw [hg] at he ⊢
          obtain ⟨k, h1, h2, h3, h4⟩ := step_ok he
          exact ⟨k, h1, h2, h3, by rw [h4, he]⟩
        obtain ⟨q1, q2, q3, q4⟩ := voteF_ok hv0
        rw [q4] at hE0
        rw [hE0] at hd1 hz'
        simp only [hid] at hd1
        have hks : k < sub.length := by omega
        have hsame := hI.same k l[k] sub[k] (List.getElem?_eq_getElem hk1) (List.getElem?_eq_getElem hks)
        have hnew : vot.any (hitV acts[i]) = false := by
          rw [List.any_eq_false]
          intro v hv h
          unfold hitV at h
          rw [Bool.and_eq_true, decide_eq_true_iff, beq_iff_eq] at h
          have := hI.voted v hv k l[k] (by rw [h.1, hid]) (List.getElem?_eq_getElem hk1)
          rw [h.2] at this
          exact q3 this
        have h16 := call16 vot (by omega) acts[i]
        rw [hnew] at h16
        simp only [Act.av, hid] at h16
        have w1 := IntWalk.i64_in ((k : Int)) (by omega)
        have v1 : vot.length ≤ 9223372036854775806 := by omega
        have v2 : (vot.length + 1) * 80 ≤ 140737488355328 := by omega
        have g1 : ¬ ((k : Int) + 1 < 1) := by omega
        have g2 : ¬ ((sub.length : Int) < (k : Int) + 1) := by omega
        have g3 : ¬ sub[k].who = acts[i].who := by rw [← hsame.1]; exact q2
        have hI' := hI.vote acts[i] hk1 hid q1
        refine loop_round hs ?_ (next _ none sub fin (vot ++ [acts[i]]) hz' hI' (by omega) (by simp; omega) hcs (fun v h => ?_))
        · simp [L6_1, hi, hw, hd1, hk, w1, v1, v2, hsl, hid, h16, g1, g2, g3, hks, -List.map_append, -List.map_set]
          simp [hid, -List.map_set]
        · rw [List.length_set]
          rcases List.mem_append.1 h with h | h
          · exact hvi v h
          · rw [List.mem_singleton.1 h, hid]; omega
      · have hE : ∃ l', l'.length = l.length ∧ actE l acts[i] = (l', [], 0, 0) ∧ Inv l' sub fin vot := by
          unfold actE at he ⊢
          rw [if_neg (by omega), if_neg (by omega), if_pos hk] at he ⊢
          have hg := guard_ok he
          rw [hg] at he ⊢
          obtain ⟨k, h1, h2, h3, h4⟩ := step_ok he
          exact ⟨_, by rw [List.length_set], by rw [h4, he], hI.set h1 (rejectF_ok h3)⟩
        obtain ⟨l', hl', hE, hI'⟩ := hE
        rw [hE] at hd1 hz'
        refine loop_round hs ?_ (next l' none sub fin vot hz' hI' (by omega) (by omega) hcs (fun v h => by rw [hl']; exact hvi v h))
        simp [L6_1, hi, hw, hd1, hk]
      · have hE : ∃ l', l'.length = l.length ∧ actE l acts[i] = (l', [], 0, 0) ∧ Inv l' sub fin vot := by
          unfold actE at he ⊢
          rw [if_neg (by omega), if_neg (by omega), if_neg (by omega), if_pos hk] at he ⊢
          obtain ⟨k, h1, h2, h3, h4⟩ := step_ok he
          exact ⟨_, by rw [List.length_set], by rw [h4, he], hI.set h1 (withdrawF_ok h3)⟩
        obtain ⟨l', hl', hE, hI'⟩ := hE
        rw [hE] at hd1 hz'
        refine loop_round hs ?_ (next l' none sub fin vot hz' hI' (by omega) (by omega) hcs (fun v h => by rw [hl']; exact hvi v h))
        simp [L6_1, hi, hw, hd1, hk]
      · obtain ⟨k, hk1, hid, hv0, hE0⟩ : ∃ k, ∃ hk : k < l.length, acts[i].id = (k : Int) + 1 ∧ (finishF acts[i].now l[k]).1 = 0 ∧ actE l acts[i] = (l.set k (finishF acts[i].now l[k]).2, l[k].chg, 0, 0) := by
          unfold actE at he ⊢
          rw [if_neg (by omega), if_neg (by omega), if_neg (by omega), if_neg (by omega), if_pos hk] at he ⊢
          obtain ⟨k, h1, h2, h3, h4⟩ := step_ok he
          refine ⟨k, h1, h2, h3, ?_⟩
          have e : ((k : Int) + 1 - 1).toNat = k := by omega
          unfold finishC
          rw [if_pos he, h4, he, h2, e, List.getElem?_eq_getElem h1]
        obtain ⟨q1, q2, q4⟩ := finishF_ok hv0
        rw [q4] at hE0
        rw [hE0] at hd1 hz'
        simp only [hid] at hd1
        have hks : k < sub.length := by omega
        have hxk : l[k]? = some l[k] := List.getElem?_eq_getElem hk1
        have hsame := hI.same k l[k] sub[k] hxk (List.getElem?_eq_getElem hks)
        have hne : ∀ f ∈ fin, f ≠ acts[i].id := fun f hf he => by
          obtain ⟨j, x, hx, e, h4⟩ := hI.done f hf
          have : j = k := by omega
          subst this
          rw [hxk] at hx; injection hx with hx; subst hx
          rw [q1] at h4; exact absurd h4 (by decide)
        have hen := hI.enough k l[k] hxk q1
        have hcn := hI.count k l[k] hxk
        have h17 := call17 vot (by omega) ((k : Int) + 1)
        have w1 := IntWalk.i64_in ((k : Int)) (by omega)
        have v1 : fin.length ≤ 9223372036854775806 := by omega
        have v2 : (fin.length + 1) * 8 ≤ 140737488355328 := by omega
        have g1 : ¬ ((k : Int) + 1 < 1) := by omega
        have g2 : ¬ ((sub.length : Int) < (k : Int) + 1) := by omega
        have g3 : ¬ (sub[k].til ≤ acts[i].now) := by rw [← hsame.2.2.2]; omega
        have g4 : ¬ ((cnt vot ((k : Int) + 1) : Int) < sub[k].need) := by rw [← hsame.2.2.1]; omega
        have hf := fin_loop acts sub vot (l.set k { l[k] with st := 4 }) l[k].chg none acts[i] sub[k] i fin (by omega) hne m lv fin.length 0 (by omega)
        have h15 := call15 l[k].chg (by have := (hz.2 _ (List.getElem_mem hk1)).1; omega)
        have hch2 : sub[k].chg = l[k].chg := hsame.2.1.symm
        simp only [Act.av, hid, hch2, Int.natCast_zero] at hf
        have hI' := hI.finish hk1
        refine loop_round hs ?_ (next _ none sub (fin ++ [(k : Int) + 1]) vot hz' hI' (by simp; omega) (by omega) hcs (fun v h => by rw [List.length_set]; exact hvi v h))
        simp [L6_1, hi, hw, hd1, hk, w1, v1, v2, hsl, hid, hf, h15, h17, hch2, g1, g2, g3, g4, hks, -List.map_append, -List.map_set]
        simp [one1, iAv, -List.map_set]
      · have hE : actE l acts[i] = (l.map (expireF acts[i].now), [], 0, 0) := by
          unfold actE
          rw [if_neg (by omega), if_neg (by omega), if_neg (by omega), if_neg (by omega), if_neg (by omega)]
        have hI' := hI.expire acts[i].now
        rw [hE] at hd1 hz'
        refine loop_round hs ?_ (next _ none sub fin vot hz' hI' (by omega) (by omega) hcs (fun v h => by rw [List.length_map]; exact hvi v h))
        simp [L6_1, hi, hw, hd1, hk, -List.map_map]
    · refine loop_round hs ?_ (next l o sub fin vot ⟨by have := hz.1; omega, fun x hx => by have := hz.2 x hx; omega⟩ hI (by omega) (by omega) hcs hvi)
      simp [L6_1, hi, hw, hd1, he]
theorem once_spec (acts : List Act) (hok : ∀ a ∈ acts, a.ok) : ∃ m, (sem T).call 6 [.sl none 7 (acts.map Act.av)] noMem 0 = some ([.bool true], m) := by
  obtain ⟨m0, haw⟩ := awake_spec
  refine ⟨noMem, call_go rfl rfl rfl ?_⟩
  have h11 := call11 acts
  cases hs : small acts with
  | false => rw [hs] at h11; simp [F6, haw, h11]
  | true =>
    rw [hs] at h11
    simp only [small, smallX, List.all_eq_true, Bool.and_eq_true, decide_eq_true_iff] at hs
    have hl := once_loop acts hok (fun a ha => by have := (hs.2 a ha).1; omega) (by have := hs.1; omega) noMem 0 acts.length 0 (by omega) [] (some 29) [] [] [] (Sz.nil 0 0) .nil (by simp) (by simp) (by simp) (by simp)
    simp only [List.map_nil, Int.natCast_zero] at hl
    simp [F6, haw, h11, hl]
end Go.Ev
/- From the evaluator's answer to the call of ApproveOnce. Condition: the arguments' own. -/
namespace Go.Ev
set_option linter.all false
open Go.RowKit Go.Proofs Go.ChangeShapes Go.WideShapes
theorem once_true {W : World} {acts : List Act} {v0 : Value} (ha : ∀ a ∈ acts, a.ok) (h0 : ArgOk W (.sl none 7 (acts.map Act.av)) v0) : Calls Try.prog 6 #[v0] W fun e w' => e = .returned (.bool true) ∧ Below W.heap.size W w' := by
  obtain ⟨m, h⟩ := once_spec acts ha
  exact law_calls orders tab_ok h rfl (args1 h0)
end Go.Ev
