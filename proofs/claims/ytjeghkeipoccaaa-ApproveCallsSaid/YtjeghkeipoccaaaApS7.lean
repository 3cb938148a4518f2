/- Few. Condition: none. -/
import Derived.Test.YtjeghkeipoccaaaApS6
namespace Go.Ev
set_option linter.all false
theorem few_loop (l : List Ask) (h : l.length ≤ 70) (m : Mem) (lv : Nat) : ∀ (d i : Nat), i + d = l.length → ∀ t : St, t.mask [0, 3] [] = some ⟨59, lv, tmOf [(0, .sl none 7 (l.map Ask.av)), (3, .int .i64 (i : Int))], bxOf [], m⟩ →
    (sem T).loop [0, 3] [] L9_1 t = some (if (l.drop i).all fewX then (.ex 0, ⟨59, lv, tmOf [], bxOf [], m⟩) else (.ret, ⟨59, lv, tmOf [(2, .bool false)], bxOf [], m⟩))
  | 0, i, hd, t, hs => by
    obtain rfl : i = l.length := by omega
    refine loop_to (loop_end (fl := .ex 0) hs ?_ (by intro e; cases e)) (by rw [List.drop_length]; rfl)
    simp [L9_1]
  | d + 1, i, hd, t, hs => by
    have hi : i < l.length := by omega
    have hw := IntWalk.i64_in ((i : Int) + 1) (by omega)
    have hdr : l.drop i = l[i] :: l.drop (i + 1) := List.drop_eq_getElem_cons hi
    rw [hdr, List.all_cons]
    unfold fewX
    rcases le_or ((l[i].chg.length : Nat) : Int) 70 with ⟨p, q⟩ | ⟨p, q⟩
    · rcases le_or ((l[i].votes.length : Nat) : Int) 20 with ⟨p2, q2⟩ | ⟨p2, q2⟩
      · rcases le_or ((l[i].own.size : Nat) : Int) 100 with ⟨p3, q3⟩ | ⟨p3, q3⟩
        · rw [decide_eq_true (of_eq_true p), decide_eq_true (of_eq_true p2), decide_eq_true (of_eq_true p3), Bool.true_and, Bool.true_and, Bool.true_and]
          have hl := few_in l h i hi (by have := of_eq_true p2; omega) m lv l[i].votes.length 0 (by omega)
          simp only [List.drop_zero, Int.natCast_zero] at hl
          cases hb : votesOk l[i].votes with
          | true =>
            rw [hb] at hl
            rw [Bool.true_and]
            refine loop_round hs ?_ (few_loop l h m lv d (i + 1) (by omega))
            simp [L9_1, hi, hw, p, q, p2, q2, p3, q3, hl]
          | false =>
            rw [hb] at hl
            rw [Bool.false_and]
            refine loop_end (fl := .ret) (s' := ⟨59, lv, tmOf [(2, .bool false)], bxOf [], m⟩) hs ?_ (by intro e; cases e)
            simp [L9_1, hi, hw, p, q, p2, q2, p3, q3, hl]
        · rw [decide_eq_true (of_eq_true p), decide_eq_true (of_eq_true p2), decide_eq_false (of_eq_false p3)]
          simp only [Bool.true_and, Bool.false_and]
          refine loop_end (fl := .ret) (s' := ⟨59, lv, tmOf [(2, .bool false)], bxOf [], m⟩) hs ?_ (by intro e; cases e)
          simp [L9_1, hi, hw, p, q, p2, q2, p3, q3]
      · rw [decide_eq_true (of_eq_true p), decide_eq_false (of_eq_false p2)]
        simp only [Bool.true_and, Bool.false_and]
        refine loop_end (fl := .ret) (s' := ⟨59, lv, tmOf [(2, .bool false)], bxOf [], m⟩) hs ?_ (by intro e; cases e)
        simp [L9_1, hi, hw, p, q, p2, q2]
    · rw [decide_eq_false (of_eq_false p)]
      simp only [Bool.true_and, Bool.false_and]
      refine loop_end (fl := .ret) (s' := ⟨59, lv, tmOf [(2, .bool false)], bxOf [], m⟩) hs ?_ (by intro e; cases e)
      simp [L9_1, hi, hw, p, q]
theorem call9 (l : List Ask) (m : Mem) (lv : Nat) : (sem T).call 9 [.sl none 7 (l.map Ask.av)] m lv = some ([.bool (few l)], m) := by
  refine call_go rfl rfl rfl ?_
  unfold few
  rcases le_or (l.length : Int) 70 with ⟨p, q⟩ | ⟨p, q⟩
  · have hl := few_loop l (by have := of_eq_true p; omega) m lv l.length 0 (by omega)
    simp only [List.drop_zero, Int.natCast_zero] at hl
    cases hb : l.all fewX <;> rw [hb] at hl <;> simp [F9, p, q, hl]
  · simp [F9, p, q]
theorem aw7 : ((orc T 30).call 7 [] noMem 0).map (·.1) = some [.bool true] := by kernel_rfl
theorem awake_spec : ∃ m, (sem T).call 7 [] noMem 0 = some ([.bool true], m) := by
  obtain ⟨⟨rs, m⟩, h1, h2⟩ := Option.map_eq_some_iff.1 aw7
  have h2 : rs = [.bool true] := h2
  subst h2
  exact ⟨m, sem_call_iff.2 ⟨30, h1⟩⟩
theorem checks_spec (l : List Ask) : ∃ m, (sem T).call 3 [.sl none 7 (l.map Ask.av)] noMem 0 = some ([.bool true], m) := by
  obtain ⟨m0, haw⟩ := awake_spec
  refine ⟨noMem, call_go rfl rfl rfl ?_⟩
  have h2 : ∀ m lv, (sem T).call 8 [.sl none 7 [[.int .i64 2, .str ⟨#[]⟩, .sl none 17 [], .sl none 1 [], .int .i64 0, .int .i64 0, .int .i64 0]]] m lv = some ([.int .i64 7], m) :=
    call8 [⟨2, ⟨#[]⟩, [], [], 0, 0, 0⟩] ⟨by decide, by simp⟩
  have h9 := call9 l
  cases hf : few l with
  | false => rw [hf] at h9; simp [F3, haw, h2, h9]
  | true =>
    have ho : LenOk l := by
      simp only [few, Bool.and_eq_true, decide_eq_true_iff, List.all_eq_true, fewX] at hf
      refine ⟨by have := hf.1; omega, fun x hx => ?_⟩
      have := hf.2 x hx
      exact ⟨by omega, by omega⟩
    have h8 := call8 l ho
    have h10 := call10 l ho
    rw [hf] at h9; simp [F3, haw, h2, h8, h9, h10]
end Go.Ev
