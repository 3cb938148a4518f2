/- Finish. Condition: a table that can be copied. -/
import Derived.Test.YtjeghkeipoccaaaApSH
namespace Go.Ev
set_option linter.all false
theorem finish20 (l : List Ask) (h : CopyOk l) (id : Int) (now : Int) (m : Mem) (lv : Nat) : (sem T).call 20 [.sl none 7 (l.map Ask.av), .int .i64 id, .int .i64 now] m lv =
    some ([.sl (if (stepE l id (finishF now)).2 = 0 then none else some 29) 7 ((stepE l id (finishF now)).1.map Ask.av), .sl none 17 ((if (stepE l id (finishF now)).2 = 0 then (match l[(id - 1).toNat]? with | some x => x.chg | none => []) else []).map Chg.av), .int .i64 (stepE l id (finishF now)).2], m) := by
  refine call_go rfl rfl rfl ?_
  have h0 := h.1
  rcases id_or l id with ⟨k, rfl, hk⟩ | hid
  · have e : ((k : Int) + 1 - 1).toNat = k := by omega
    rw [stepE_yes hk, e, List.getElem?_eq_getElem hk]
    obtain ⟨c1, c2⟩ := h.2 l[k] (List.getElem_mem hk)
    have c3 : l[k].chg.length ≤ 9223372036854775807 := by omega
    have c4 : l[k].chg.length * 168 ≤ 140737488355328 := by omega
    have hw := IntWalk.i64_in (k : Int) (by omega)
    have hq : k < (mark l l.length).length := by rw [mark_len]; exact hk
    have hc := fun (m' : Mem) (hw : m' lv 5 = some (.cells 3 [.int .i64 now])) (hm : m' (lv + 1) 19 = some (.cells 29 (((mark l l.length).map AskQ.av).flatten))) => call40 (mark l l.length) k hq now m' (lv + 1) lv (lv + 2) (by omega) (by omega) hm hw
    rw [mark_full l k hq hk] at hc
    have hy := fun (m' : Mem) (hw : m' lv 5 = some (.cells 3 [.int .i64 now])) => changed_yes l h k hk (finishF now) 40 lv 5 _ m' (lv + 1) (by omega) hw (fun m'' a b => hc m'' a b)
    by_cases he : (finishF now l[k]).1 = 0
    · simp only [he, if_true] at hy
      simp [F20, hy, he, hk, hw, c3, c4, -List.map_set]
    · simp only [he, if_false] at hy
      simp [F20, hy, he]
  · rw [stepE_no hid]
    have hn := fun (m' : Mem) => changed_no l id hid 40 lv 5 m' (lv + 1) (by omega)
    simp [F20, hn]
theorem carry35_nil (m : Mem) (lv : Nat) : (sem T).carry 35 [.sl none 7 []] m lv = some (none, (0, 0, 7), m) := by
  have hl := copied_nil m lv
  refine carry_go rfl rfl rfl ?_
  simp [F35, hl, leaveW]
def emark (l : List Ask) (now : Int) (i : Nat) : List AskQ := l.mapIdx fun j x => ⟨some 55, some 9, if j < i then expireF now x else x⟩
theorem emark_len (l : List Ask) (now : Int) (i : Nat) : (emark l now i).length = l.length := List.length_mapIdx
theorem emark_at (l : List Ask) (now : Int) (i : Nat) (h : i < l.length) (h2 : i < (emark l now i).length) : (emark l now i)[i] = ⟨some 55, some 9, l[i]⟩ := by simp [emark, h]
theorem emark_set (l : List Ask) (now : Int) (i : Nat) (h : i < l.length) : (emark l now i).set i ⟨some 55, some 9, expireF now l[i]⟩ = emark l now (i + 1) := by
  apply List.ext_getElem
  · simp [emark]
  · intro j h1 h2
    rw [List.getElem_set]
    by_cases e : i = j
    · subst e; simp [emark]
    · have : (j < i + 1) = (j < i) := by apply propext; omega
      simp [emark, e, this]
theorem emark_same (l : List Ask) (now : Int) (i : Nat) (h : i < l.length) (he : expireF now l[i] = l[i]) : emark l now (i + 1) = emark l now i := by
  rw [← emark_set l now i h, he]
  have := emark_at l now i h (by rw [emark_len]; exact h)
  rw [← this, List.set_getElem_self]
theorem emark_zero (l : List Ask) (now : Int) : emark l now 0 = mark l l.length := by
  apply List.ext_getElem
  · simp [emark, mark]
  · intro j h1 h2
    have h3 : j < l.length := by rw [emark_len] at h1; exact h1
    simp [emark, mark, h3]
theorem emark_map (l : List Ask) (now : Int) : (emark l now l.length).map (fun x => x.av.map AV.noOwn1) = (l.map (expireF now)).map Ask.av := by
  apply List.ext_getElem
  · simp [emark]
  · intro j h1 h2
    have h3 : j < l.length := by simpa [emark] using h1
    simp only [AskQ.av_no, emark, List.getElem_map, List.getElem_mapIdx, if_pos h3]
theorem expire_loop (l : List Ask) (h : CopyOk l) (now : Int) (m : Mem) (lv : Nat) : ∀ (d i : Nat), i + d = l.length → ∀ t : St, t.mask [1, 5, 10, 11] [8] = some ⟨34, lv, tmOf [(1, .int .i64 now), (5, .win lv 8 0 l.length 7), (10, .int .i64 (l.length : Int)), (11, .int .i64 (i : Int))], bxOf [(8, some (.cells 29 (((emark l now i).map AskQ.av).flatten)))], m⟩ →
    (sem T).loop [1, 5, 10, 11] [8] L25_0 t = some (.ex 0, ⟨34, lv, tmOf [(5, .win lv 8 0 l.length 7)], bxOf [(8, some (.cells 29 (((emark l now l.length).map AskQ.av).flatten)))], m⟩)
  | 0, i, hd, t, hs => by
    obtain rfl : i = l.length := by omega
    refine loop_end (fl := .ex 0) hs ?_ (by intro e; cases e)
    simp [L25_0, flatN_okPs AskQ.av_ok]
  | d + 1, i, hd, t, hs => by
    have h0 := h.1
    have hi : i < l.length := by omega
    have hw := IntWalk.i64_in ((i : Int) + 1) (by omega)
    have hm : i < (emark l now i).length := by rw [emark_len]; exact hi
    have hat := emark_at l now i hi hm
    have g5 := flat_cell AskQ.av_len (emark l now i) i hm 5 (by omega)
    have gr := flat_sub1 AskQ.av_len (emark l now i) i (List.getElem?_eq_getElem hm)
    rw [hat] at g5 gr
    have h48 := call48 l[i]
    simp only [Ask.av] at h48
    have n0 : i * 7 < l.length * 7 := by omega
    have n1 : i * 7 + 7 ≤ l.length * 7 := by omega
    have n5 : i * 7 + 5 < l.length * 7 := by omega
    have n6 : i * 7 + 6 < l.length * 7 := by omega
    have n7 : i * 7 + 6 + 1 ≤ l.length * 7 := by omega
    refine loop_round hs ?_ (expire_loop l h now m lv d (i + 1) (by omega))
    cases hp : pend l[i]
    · rw [emark_same l now i hi (by unfold expireF; rw [hp]; simp)]
      simp [L25_0, hi, hw, flat_len AskQ.av_len, emark_len, gr, h48, hp, n0, n1, flatN_okPs AskQ.av_ok, AV.noOwn1]
    · rcases le_or l[i].til now with ⟨q1, q2⟩ | ⟨q1, q2⟩
      · have he : expireF now l[i] = { l[i] with st := 3 } := by unfold expireF; rw [hp]; simp [q1]
        have hs3 : splice (((emark l now i).map AskQ.av).flatten) (i * 7 + 6) [.int .i64 3] = (((emark l now (i + 1))).map AskQ.av).flatten := by
          rw [← emark_set l now i hi, he]
          exact flat_splice AskQ.av_len (emark l now i) i 6 _ (by simp) (x := ⟨some 55, some 9, l[i]⟩) (by rw [List.getElem?_eq_getElem hm, hat]) (by simp [splice])
        simp [L25_0, hi, hw, flat_len AskQ.av_len, emark_len, gr, g5, h48, hp, n0, n1, n5, n6, n7, q1, q2, hs3, flatN_okPs AskQ.av_ok, AV.noOwn1, -List.map_set]
      · rw [emark_same l now i hi (by unfold expireF; rw [hp]; simp [q1])]
        simp [L25_0, hi, hw, flat_len AskQ.av_len, emark_len, gr, g5, h48, hp, n0, n1, n5, q1, q2, flatN_okPs AskQ.av_ok, AV.noOwn1]
theorem expire25 (l : List Ask) (h : CopyOk l) (now : Int) (m : Mem) (lv : Nat) : ∃ o, (sem T).call 25 [.sl none 7 (l.map Ask.av), .int .i64 now] m lv = some ([.sl o 7 ((l.map (expireF now)).map Ask.av)], m) := by
  by_cases hn : l = []
  · subst hn
    have hc := carry35_nil
    have hl : ∀ t : St, t.mask [1, 5, 10, 11] [8] = some ⟨34, lv, tmOf [(1, .int .i64 now), (5, .sl none 7 []), (10, .int .i64 0), (11, .int .i64 0)], bxOf [(8, none)], m⟩ → (sem T).loop [1, 5, 10, 11] [8] L25_0 t = some (.ex 0, ⟨34, lv, tmOf [(5, .sl none 7 [])], bxOf [(8, none)], m⟩) := fun t hs => by
      refine loop_end (fl := .ex 0) hs ?_ (by intro e; cases e)
      simp [L25_0]
    refine ⟨none, call_go rfl rfl rfl ?_⟩
    simp [F25, hc, hl]
  · have hc := carry35 l h hn
    have hl := expire_loop l h now m lv l.length 0 (by omega)
    rw [emark_zero] at hl
    simp only [Int.natCast_zero] at hl
    have hz := flatN_frz AskQ.av_len (emark l now l.length)
    rw [emark_map, emark_len] at hz
    refine ⟨some 29, call_go rfl rfl rfl ?_⟩
    simp [F25, hc, hl, hn, flat_len AskQ.av_len, emark_len, mark_len, hz, flatN_okPs AskQ.av_ok, flatN_frzd AskQ.av_data, -List.map_map]
end Go.Ev
