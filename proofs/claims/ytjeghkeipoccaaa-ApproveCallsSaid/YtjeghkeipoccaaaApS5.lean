/- A request's own check, whole. Condition: few votes. -/
import Derived.Test.YtjeghkeipoccaaaApS4
namespace Go.Ev
set_option linter.all false
theorem badA_no {x : Ask} (h : badA x = false) : person x.own = true ∧ x.votes.any (fun s => !person s) = false ∧ 1 ≤ x.need ∧ x.need ≤ 8 ∧ (x.votes.length : Int) ≤ x.need := by
  unfold badA at h
  rw [Bool.or_eq_false_iff, Bool.or_eq_false_iff, Bool.or_eq_false_iff, Bool.or_eq_false_iff, decide_eq_false_iff_not, decide_eq_false_iff_not, decide_eq_false_iff_not] at h
  obtain ⟨a, b, c, d, e⟩ := h
  exact ⟨by simpa using a, b, by omega, by omega, by omega⟩
theorem badB2_no {x : Ask} (h : badB2 x = false) : 1 ≤ (x.chg.length : Int) ∧ (x.chg.length : Int) ≤ 64 ∧ 1 ≤ x.st ∧ x.st ≤ 5 ∧ timeB x.til = true := by
  unfold badB2 at h
  rw [Bool.or_eq_false_iff, Bool.or_eq_false_iff, Bool.or_eq_false_iff, Bool.or_eq_false_iff, decide_eq_false_iff_not, decide_eq_false_iff_not, decide_eq_false_iff_not, decide_eq_false_iff_not] at h
  obtain ⟨a, b, c, d, e⟩ := h
  exact ⟨by omega, by omega, by omega, by omega, by simpa using e⟩
theorem call21 (i : Nat) (hi : i ≤ 1000) (x : Ask) (hx : x.votes.length ≤ 9223372036854775807) (m : Mem) (lv : Nat) : (sem T).call 21 [.int .i64 (i : Int), .agg x.av] m lv = some ([.int .i64 (rightE i x)], m) := by
  refine call_go rfl rfl rfl ?_
  have hw := IntWalk.i64_in ((i : Int) + 1) (by omega)
  have hv := fun m lv => call41 x.votes hx m lv
  have ht : ∀ (n : Int) (m : Mem) (lv : Nat), (sem T).call 34 [.int .i64 n] m lv = some ([.bool (timeB n)], m) := call34
  have hl := right_loop x hx m lv x.votes.length 0 (by omega)
  simp only [Ask.av, Int.natCast_zero] at hl
  unfold rightE
  by_cases h1 : x.id = (i : Int) + 1
  · rw [if_neg (by simpa using h1)]
    cases hA : badA x with
    | true =>
      unfold badA at hA
      cases p1 : person x.own
      · simp [F21, h1, hw, call33, p1]
      · cases p2 : x.votes.any (fun s => !person s)
        · rcases le_or 1 x.need with ⟨p3, q3⟩ | ⟨p3, q3⟩
          · rcases le_or x.need 8 with ⟨p4, q4⟩ | ⟨p4, q4⟩
            · rcases le_or (x.votes.length : Int) x.need with ⟨p5, q5⟩ | ⟨p5, q5⟩
              · simp [p1, p2, q3, q4, q5] at hA
              · simp [F21, h1, hw, call33, p1, hv, p2, p3, q3, p4, q4, p5, q5]
            · simp [F21, h1, hw, call33, p1, hv, p2, p3, q3, p4, q4]
          · simp [F21, h1, hw, call33, p1, hv, p2, p3, q3]
        · simp [F21, h1, hw, call33, p1, hv, p2]
    | false =>
      obtain ⟨p1, p2, p3, p4, p5⟩ := badA_no hA
      obtain ⟨p3, q3⟩ := is_le p3
      obtain ⟨p4, q4⟩ := is_le p4
      obtain ⟨p5, q5⟩ := is_le p5
      cases hB : badB2 x with
      | true =>
        unfold badB2 at hB
        rcases le_or 1 (x.chg.length : Int) with ⟨r1, s1⟩ | ⟨r1, s1⟩
        · rcases le_or (x.chg.length : Int) 64 with ⟨r2, s2⟩ | ⟨r2, s2⟩
          · rcases le_or 1 x.st with ⟨r3, s3⟩ | ⟨r3, s3⟩
            · rcases le_or x.st 5 with ⟨r4, s4⟩ | ⟨r4, s4⟩
              · cases r5 : timeB x.til
                · simp [F21, h1, hw, call33, p1, hv, p2, p3, q3, p4, q4, p5, q5, r1, s1, r2, s2, r3, s3, r4, s4, ht, r5]
                · simp [s1, s2, s3, s4, r5] at hB
              · simp [F21, h1, hw, call33, p1, hv, p2, p3, q3, p4, q4, p5, q5, r1, s1, r2, s2, r3, s3, r4, s4]
            · simp [F21, h1, hw, call33, p1, hv, p2, p3, q3, p4, q4, p5, q5, r1, s1, r2, s2, r3, s3]
          · simp [F21, h1, hw, call33, p1, hv, p2, p3, q3, p4, q4, p5, q5, r1, s1, r2, s2]
        · simp [F21, h1, hw, call33, p1, hv, p2, p3, q3, p4, q4, p5, q5, r1, s1]
      | false =>
        obtain ⟨r1, r2, r3, r4, r5⟩ := badB2_no hB
        obtain ⟨r1, s1⟩ := is_le r1
        obtain ⟨r2, s2⟩ := is_le r2
        obtain ⟨r3, s3⟩ := is_le r3
        obtain ⟨r4, s4⟩ := is_le r4
        cases hD : (List.range' 0 x.votes.length).any (dup x.own x.votes) with
        | true =>
          rw [hD] at hl
          simp [F21, h1, hw, call33, p1, hv, p2, p3, q3, p4, q4, p5, q5, r1, s1, r2, s2, r3, s3, r4, s4, ht, r5, hl]
        | false =>
          rw [hD] at hl
          unfold badV
          rcases Int.lt_trichotomy (x.votes.length : Int) x.need with e | e | e
          · have e1 : ((x.votes.length : Int) = x.need) = False := eq_false (by omega)
            obtain ⟨e2, e3⟩ := is_lt e
            by_cases a1 : x.st = 1
            · simp [F21, h1, hw, call33, p1, hv, p2, p3, q3, p4, q4, p5, q5, r1, s1, r2, s2, r3, s3, r4, s4, ht, r5, hl, a1, e1, e2, e3]
            · by_cases a2 : x.st = 2
              · simp [F21, h1, hw, call33, p1, hv, p2, p3, q3, p4, q4, p5, q5, r1, s1, r2, s2, r3, s3, r4, s4, ht, r5, hl, a1, a2, e1, e2, e3]
              · by_cases a4 : x.st = 4
                · simp [F21, h1, hw, call33, p1, hv, p2, p3, q3, p4, q4, p5, q5, r1, s1, r2, s2, r3, s3, r4, s4, ht, r5, hl, a1, a2, a4, e1, e2, e3]
                · simp [F21, h1, hw, call33, p1, hv, p2, p3, q3, p4, q4, p5, q5, r1, s1, r2, s2, r3, s3, r4, s4, ht, r5, hl, a1, a2, a4, e1, e2, e3]
          · by_cases a1 : x.st = 1
            · simp [F21, h1, hw, call33, p1, hv, p2, p3, q3, p4, q4, p5, q5, r1, s1, r2, s2, r3, s3, r4, s4, ht, r5, hl, a1, e]
            · by_cases a2 : x.st = 2
              · simp [F21, h1, hw, call33, p1, hv, p2, p3, q3, p4, q4, p5, q5, r1, s1, r2, s2, r3, s3, r4, s4, ht, r5, hl, a1, a2, e]
              · by_cases a4 : x.st = 4
                · simp [F21, h1, hw, call33, p1, hv, p2, p3, q3, p4, q4, p5, q5, r1, s1, r2, s2, r3, s3, r4, s4, ht, r5, hl, a1, a2, a4, e]
                · simp [F21, h1, hw, call33, p1, hv, p2, p3, q3, p4, q4, p5, q5, r1, s1, r2, s2, r3, s3, r4, s4, ht, r5, hl, a1, a2, a4, e]
          · have := of_eq_true p5; omega
  · rw [if_pos h1]
    simp [F21, h1, hw]
theorem call22 (i : Nat) (hi : i ≤ 1000) (x : Ask) (hx : x.votes.length ≤ 9223372036854775807) (m : Mem) (lv : Nat) : (sem T).call 22 [.agg x.av, .int .i64 (i : Int)] m lv = some ([.int .i64 (rightE i x)], m) := by
  refine call_go rfl rfl rfl ?_
  have hw := IntWalk.i64_in ((i : Int) + 1) (by omega)
  have hv := fun m lv => call44 x.votes hx m lv
  have ht : ∀ (n : Int) (m : Mem) (lv : Nat), (sem T).call 45 [.int .i64 n] m lv = some ([.bool (timeB n)], m) := call45
  have hl := ask_loop x hx m lv x.votes.length 0 (by omega)
  simp only [Ask.av, Int.natCast_zero] at hl
  unfold rightE
  by_cases h1 : x.id = (i : Int) + 1
  · rw [if_neg (by simpa using h1)]
    cases hA : badA x with
    | true =>
      unfold badA at hA
      cases p1 : person x.own
      · simp [F22, h1, hw, call43, p1]
      · rcases le_or 1 x.need with ⟨p3, q3⟩ | ⟨p3, q3⟩
        · rcases le_or x.need 8 with ⟨p4, q4⟩ | ⟨p4, q4⟩
          · rcases le_or (x.votes.length : Int) x.need with ⟨p5, q5⟩ | ⟨p5, q5⟩
            · cases p2 : x.votes.any (fun s => !person s)
              · simp [p1, p2, q3, q4, q5] at hA
              · simp [F22, h1, hw, call43, p1, p3, q3, p4, q4, p5, q5, hv, p2]
            · simp [F22, h1, hw, call43, p1, p3, q3, p4, q4, p5, q5]
          · simp [F22, h1, hw, call43, p1, p3, q3, p4, q4]
        · simp [F22, h1, hw, call43, p1, p3, q3]
    | false =>
      obtain ⟨p1, p2, p3, p4, p5⟩ := badA_no hA
      obtain ⟨p3, q3⟩ := is_le p3
      obtain ⟨p4, q4⟩ := is_le p4
      obtain ⟨p5, q5⟩ := is_le p5
      cases hB : badB2 x with
      | true =>
        unfold badB2 at hB
        rcases le_or 1 (x.chg.length : Int) with ⟨r1, s1⟩ | ⟨r1, s1⟩
        · rcases le_or (x.chg.length : Int) 64 with ⟨r2, s2⟩ | ⟨r2, s2⟩
          · rcases le_or 1 x.st with ⟨r3, s3⟩ | ⟨r3, s3⟩
            · rcases le_or x.st 5 with ⟨r4, s4⟩ | ⟨r4, s4⟩
              · cases r5 : timeB x.til
                · simp [F22, h1, hw, call43, p1, hv, p2, p3, q3, p4, q4, p5, q5, r1, s1, r2, s2, r3, s3, r4, s4, ht, r5]
                · simp [s1, s2, s3, s4, r5] at hB
              · simp [F22, h1, hw, call43, p1, hv, p2, p3, q3, p4, q4, p5, q5, r1, s1, r2, s2, r3, s3, r4, s4]
            · simp [F22, h1, hw, call43, p1, hv, p2, p3, q3, p4, q4, p5, q5, r1, s1, r2, s2, r3, s3]
          · simp [F22, h1, hw, call43, p1, hv, p2, p3, q3, p4, q4, p5, q5, r1, s1, r2, s2]
        · simp [F22, h1, hw, call43, p1, hv, p2, p3, q3, p4, q4, p5, q5, r1, s1]
      | false =>
        obtain ⟨r1, r2, r3, r4, r5⟩ := badB2_no hB
        obtain ⟨r1, s1⟩ := is_le r1
        obtain ⟨r2, s2⟩ := is_le r2
        obtain ⟨r3, s3⟩ := is_le r3
        obtain ⟨r4, s4⟩ := is_le r4
        cases hD : (List.range' 0 x.votes.length).any (dup x.own x.votes) with
        | true =>
          rw [hD] at hl
          simp [F22, h1, hw, call43, p1, hv, p2, p3, q3, p4, q4, p5, q5, r1, s1, r2, s2, r3, s3, r4, s4, ht, r5, hl]
        | false =>
          rw [hD] at hl
          unfold badV
          rcases Int.lt_trichotomy (x.votes.length : Int) x.need with e | e | e
          · have e1 : ((x.votes.length : Int) = x.need) = False := eq_false (by omega)
            obtain ⟨e2, e3⟩ := is_lt e
            by_cases a1 : x.st = 1
            · simp [F22, h1, hw, call43, p1, hv, p2, p3, q3, p4, q4, p5, q5, r1, s1, r2, s2, r3, s3, r4, s4, ht, r5, hl, a1, e1, e2, e3]
            · by_cases a2 : x.st = 2
              · simp [F22, h1, hw, call43, p1, hv, p2, p3, q3, p4, q4, p5, q5, r1, s1, r2, s2, r3, s3, r4, s4, ht, r5, hl, a1, a2, e1, e2, e3]
              · by_cases a4 : x.st = 4
                · simp [F22, h1, hw, call43, p1, hv, p2, p3, q3, p4, q4, p5, q5, r1, s1, r2, s2, r3, s3, r4, s4, ht, r5, hl, a1, a2, a4, e1, e2, e3]
                · simp [F22, h1, hw, call43, p1, hv, p2, p3, q3, p4, q4, p5, q5, r1, s1, r2, s2, r3, s3, r4, s4, ht, r5, hl, a1, a2, a4, e1, e2, e3]
          · by_cases a1 : x.st = 1
            · simp [F22, h1, hw, call43, p1, hv, p2, p3, q3, p4, q4, p5, q5, r1, s1, r2, s2, r3, s3, r4, s4, ht, r5, hl, a1, e]
            · by_cases a2 : x.st = 2
              · simp [F22, h1, hw, call43, p1, hv, p2, p3, q3, p4, q4, p5, q5, r1, s1, r2, s2, r3, s3, r4, s4, ht, r5, hl, a1, a2, e]
              · by_cases a4 : x.st = 4
                · simp [F22, h1, hw, call43, p1, hv, p2, p3, q3, p4, q4, p5, q5, r1, s1, r2, s2, r3, s3, r4, s4, ht, r5, hl, a1, a2, a4, e]
                · simp [F22, h1, hw, call43, p1, hv, p2, p3, q3, p4, q4, p5, q5, r1, s1, r2, s2, r3, s3, r4, s4, ht, r5, hl, a1, a2, a4, e]
          · have := of_eq_true p5; omega
  · rw [if_pos h1]
    simp [F22, h1, hw]
end Go.Ev
