/- Sizes: of calls, of what they leave. Condition: none. -/
import Derived.Test.YtjeghkeipoccaaaApSJ
namespace Go.Ev
set_option linter.all false
def smallX (a : Act) : Bool := decide ((a.chg.length : Int) ≤ 70) && decide ((a.who.size : Int) ≤ 100)
def small (l : List Act) : Bool := decide ((l.length : Int) ≤ 90) && l.all smallX
theorem small_loop (l : List Act) (h : l.length ≤ 90) (m : Mem) (lv : Nat) : ∀ (d i : Nat), i + d = l.length → ∀ t : St, t.mask [0, 3] [] = some ⟨29, lv, tmOf [(0, .sl none 7 (l.map Act.av)), (3, .int .i64 (i : Int))], bxOf [], m⟩ →
    (sem T).loop [0, 3] [] L11_0 t = some (if (l.drop i).all smallX then (.ex 0, ⟨29, lv, tmOf [], bxOf [], m⟩) else (.ret, ⟨29, lv, tmOf [(2, .bool false)], bxOf [], m⟩))
  | 0, i, hd, t, hs => by
    obtain rfl : i = l.length := by omega
    refine loop_to (loop_end (fl := .ex 0) hs ?_ (by intro e; cases e)) (by rw [List.drop_length]; rfl)
    simp [L11_0]
  | d + 1, i, hd, t, hs => by
    have hi : i < l.length := by omega
    have hw := IntWalk.i64_in ((i : Int) + 1) (by omega)
    have hdr : l.drop i = l[i] :: l.drop (i + 1) := List.drop_eq_getElem_cons hi
    rw [hdr, List.all_cons]
    unfold smallX
    rcases le_or ((l[i].chg.length : Nat) : Int) 70 with ⟨p, q⟩ | ⟨p, q⟩
    · rcases le_or ((l[i].who.size : Nat) : Int) 100 with ⟨p2, q2⟩ | ⟨p2, q2⟩
      · rw [decide_eq_true (of_eq_true p), decide_eq_true (of_eq_true p2), Bool.true_and, Bool.true_and]
        refine loop_round hs ?_ (small_loop l h m lv d (i + 1) (by omega))
        simp [L11_0, hi, hw, p, q, p2, q2]
      · rw [decide_eq_true (of_eq_true p), decide_eq_false (of_eq_false p2)]
        simp only [Bool.true_and, Bool.false_and]
        refine loop_end (fl := .ret) (s' := ⟨29, lv, tmOf [(2, .bool false)], bxOf [], m⟩) hs ?_ (by intro e; cases e)
        simp [L11_0, hi, hw, p, q, p2, q2]
    · rw [decide_eq_false (of_eq_false p)]
      simp only [Bool.false_and]
      refine loop_end (fl := .ret) (s' := ⟨29, lv, tmOf [(2, .bool false)], bxOf [], m⟩) hs ?_ (by intro e; cases e)
      simp [L11_0, hi, hw, p, q]
theorem call11 (l : List Act) (m : Mem) (lv : Nat) : (sem T).call 11 [.sl none 7 (l.map Act.av)] m lv = some ([.bool (small l)], m) := by
  refine call_go rfl rfl rfl ?_
  unfold small
  rcases le_or (l.length : Int) 90 with ⟨p, q⟩ | ⟨p, q⟩
  · have hl := small_loop l (by have := of_eq_true p; omega) m lv l.length 0 (by omega)
    simp only [List.drop_zero, Int.natCast_zero] at hl
    cases hb : l.all smallX <;> rw [hb] at hl <;> simp [F11, p, q, hl]
  · simp [F11, p, q]
/-- At most n requests, of few changes and at most v votes. -/
def Sz (n v : Nat) (l : List Ask) : Prop := l.length ≤ n ∧ ∀ x ∈ l, x.chg.length ≤ 70 ∧ x.votes.length ≤ v
theorem Sz.copy {n v : Nat} {l : List Ask} (h : Sz n v l) (hn : n ≤ 1000) (hv : v ≤ 1000) : CopyOk l := ⟨by have := h.1; omega, fun x hx => by have := h.2 x hx; omega⟩
theorem Sz.nil (n v : Nat) : Sz n v [] := ⟨Nat.zero_le _, fun x hx => by cases hx⟩
theorem Sz.step {n v : Nat} {l : List Ask} (h : Sz n v l) (id : Int) (f : Ask → Int × Ask) (hf : ∀ x, x.chg.length ≤ 70 → x.votes.length ≤ v → (f x).2.chg.length ≤ 70 ∧ (f x).2.votes.length ≤ v + 1) : Sz (n + 1) (v + 1) (stepE l id f).1 := by
  rcases id_or l id with ⟨k, rfl, hk⟩ | hid
  · rw [stepE_yes hk]
    split
    · refine ⟨by rw [List.length_set]; have := h.1; omega, fun x hx => ?_⟩
      rcases List.mem_or_eq_of_mem_set hx with hx | rfl
      · have := h.2 x hx; omega
      · have := h.2 _ (List.getElem_mem hk)
        exact hf _ this.1 this.2
    · exact .nil _ _
  · rw [stepE_no hid]; exact .nil _ _
theorem Sz.act {n v : Nat} {l : List Ask} (h : Sz n v l) (a : Act) (ha : a.chg.length ≤ 70) : Sz (n + 1) (v + 1) (actE l a).1 := by
  unfold actE
  split
  · unfold submitE
    split
    · exact .nil _ _
    · split
      · exact .nil _ _
      · refine ⟨by have := h.1; simp; omega, fun x hx => ?_⟩
        rcases List.mem_append.1 hx with hx | hx
        · have := h.2 x hx; omega
        · obtain rfl := List.mem_singleton.1 hx
          exact ⟨ha, Nat.zero_le _⟩
  · split
    · unfold guardE
      split
      · exact .nil _ _
      · exact h.step _ _ fun x h1 h2 => by unfold voteF; repeat (first | split | (constructor <;> simp <;> omega))
    · split
      · unfold guardE
        split
        · exact .nil _ _
        · exact h.step _ _ fun x h1 h2 => by unfold rejectF; repeat (first | split | (constructor <;> simp <;> omega))
      · split
        · exact h.step _ _ fun x h1 h2 => by unfold withdrawF; repeat (first | split | (constructor <;> simp <;> omega))
        · split
          · exact h.step _ _ fun x h1 h2 => by unfold finishF; repeat (first | split | (constructor <;> simp <;> omega))
          · refine ⟨by have := h.1; simp; omega, fun x hx => ?_⟩
            obtain ⟨y, hy, rfl⟩ := List.mem_map.1 hx
            have := h.2 y hy
            unfold expireF
            split <;> (constructor <;> (try simp only) <;> omega)
theorem actC {n v : Nat} {l : List Ask} (h : Sz n v l) (a : Act) : (actE l a).2.1.length ≤ 70 := by
  unfold actE
  repeat (first | split | exact Nat.zero_le _)
  all_goals try exact Nat.zero_le _
  unfold finishC
  split
  · split
    · rename_i x hx
      exact (h.2 x (List.mem_of_getElem? hx)).1
    · exact Nat.zero_le _
  · exact Nat.zero_le _
end Go.Ev
