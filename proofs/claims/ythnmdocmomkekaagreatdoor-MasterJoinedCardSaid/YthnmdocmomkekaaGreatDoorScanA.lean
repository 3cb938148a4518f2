/- ScanP, ScanQ, ScanM, ScanE, ScanF, ScanR, ScanL, ScanJ, ScanK, joined. Condition: each part's own. -/
import Derived.Test.YthnmdocmomkekaaGreatDoorPuB
import Derived.Test.YthnmdocmomkekaaGreatDoorSh1
import Derived.Test.YthnmdocmomkekaaGreatDoorMsP
/- Scan and its reference as plain functions: what they come to. Condition: none. -/
namespace Go.Ev
set_option linter.all false
set_option maxHeartbeats 1000000
theorem r09_plain_eq (N : Nat) (c : UInt8) : r09_plain N (bv c) = some (pln c) := by
  unfold r09_plain pln
  simp
  cases h1 : decide (33 ≤ c.toNat) <;> cases h2 : decide (c.toNat ≤ 126) <;> simp
  by_cases a1 : c = 34 <;> simp [a1]
  by_cases a2 : c = 40 <;> simp [a2]
  by_cases a3 : c = 41 <;> simp [a3]
  by_cases a4 : c = 59 <;> simp [a4]
  by_cases a5 : c = 92 <;> simp_all
theorem pln_ix2 (c : UInt8) : (decide (33 ≤ c.toNat) && (decide (c.toNat ≤ 126) && ltI (ixB [34, 40, 41, 59, 92] (bv c)) 0)) = pln c :=
  byte_all (fun c => (decide (33 ≤ c.toNat) && (decide (c.toNat ≤ 126) && ltI (ixB [34, 40, 41, 59, 92] (bv c)) 0)) = pln c) (by decide +kernel) c
theorem master_plain_eq (N : Nat) (c : UInt8) : master_plain N (bv c) = some (pln c) := by
  unfold master_plain strings_IndexByte i_stringslite_IndexByte
  rw [← pln_ix2]
  simp
  cases decide (33 ≤ c.toNat) <;> cases decide (c.toNat ≤ 126) <;> cases ltI (ixB [34, 40, 41, 59, 92] (bv c)) 0 <;> rfl
def dgAt (l : List UInt8) (i : Nat) : Bool := match l[i]? with | some b => dg b | none => false
theorem master_isDigit_eq (N : Nat) (c : UInt8) : master_isDigit N (bv c) = some (dg c) := by
  unfold master_isDigit dg
  simp
  cases decide (48 ≤ c.toNat) <;> cases decide (c.toNat ≤ 57) <;> rfl
theorem r09_digit_eq (N : Nat) (l : List UInt8) (i : Nat) (hl : l.length ≤ 100000) : r09_digit N l (i : Int) = some (dgAt l i) := by
  unfold r09_digit dgAt
  rcases at_cases l i (by omega) with ⟨_, h, h1, _⟩ | ⟨c, hc, _, _, h1, _, _⟩
  · rw [h1, List.getElem?_eq_none h]; rfl
  · rw [h1]
    simp [hc]
    unfold dg
    cases decide (48 ≤ c.toNat) <;> cases decide (c.toNat ≤ 57) <;> rfl
theorem r09_blank_eq (N : Nat) (l : List UInt8) (i : Nat) (hl : l.length ≤ 100000) : r09_blank N l (i : Int) = some (blkAt (l.drop i)) := by
  unfold r09_blank
  rcases at_cases l i (by omega) with ⟨h0, h, h1, _⟩ | ⟨c, hc, hd, _, h1, _, _⟩
  · rw [h1, h0]; rfl
  · rw [h1, hd]
    simp [hc, blkAt, blk]
    by_cases a1 : c = 32 <;> simp [a1]
    by_cases a2 : c = 9 <;> simp [a2]
theorem dg_iff (b : UInt8) : dg b = true ↔ 48 ≤ b.toNat ∧ b.toNat ≤ 57 := by simp [dg]
theorem dig_val {c : UInt8} (h : dg c = true) : convI .i64 (subI .u8 (bv c) 48) = ((c.toNat - 48 : Nat) : Int) := by
  have := (dg_iff c).1 h
  rw [subI_u8 _ _ (by unfold bv; omega), convI_i _ (by unfold bv; omega)]
  unfold bv
  omega
def num3 (a b c : UInt8) : Nat := 100 * (a.toNat - 48) + 10 * (b.toNat - 48) + (c.toNat - 48)
theorem num3_val {a b c : UInt8} (ha : dg a = true) (hb : dg b = true) (hc : dg c = true) : addI .i64 (addI .i64 (mulI .i64 100 (convI .i64 (subI .u8 (bv a) 48))) (mulI .i64 10 (convI .i64 (subI .u8 (bv b) 48)))) (convI .i64 (subI .u8 (bv c) 48)) = ((num3 a b c : Nat) : Int) := by
  have := (dg_iff a).1 ha
  have := (dg_iff b).1 hb
  have := (dg_iff c).1 hc
  rw [dig_val ha, dig_val hb, dig_val hc, mulI_i _ _ (by omega), mulI_i _ _ (by omega), addI_i (100 * _) (10 * _) (by omega), addI_i _ _ (by omega)]
  unfold num3
  omega
def outE (by' : Nat) : Option (UInt8 × Nat) → Int × Int
  | none => (0, 0)
  | some (b, k) => (bv b, ((k + by' : Nat) : Int))
theorem escL_cons (a : UInt8) (r : List UInt8) : escL (a :: r) = if dg a = true then
      match r with
      | b :: c :: _ => if dg b = true ∧ dg c = true ∧ num3 a b c ≤ 255 then some (UInt8.ofNat (num3 a b c), 3) else none
      | _ => none
    else if 33 ≤ a.toNat ∧ a.toNat ≤ 126 then some (a, 1) else none := rfl
theorem conv_num (n : Nat) (h : n ≤ 255) : convI .u8 (n : Int) = bv (UInt8.ofNat n) := by
  rw [convI_u8 _ (by omega)]
  unfold bv
  rw [UInt8.toNat_ofNat']
  omega
theorem master_escape_eq (N : Nat) (l : List UInt8) (hl : l.length ≤ 100000) : master_escape N l = some (outE 0 (escL l)) := by
  unfold master_escape
  cases l with
  | nil => simp [eqS, escL, outE]
  | cons a r =>
    rw [escL_cons]
    simp only [eqS, atI_l, List.getElem?_cons_zero, Option.bind_some, master_isDigit_eq]
    cases hd : dg a with
    | false =>
      simp
      by_cases h1 : a.toNat < 33
      · simp [h1, show ¬ 33 ≤ a.toNat by omega, outE]
      · by_cases h2 : 126 < a.toNat
        · simp [h1, h2, show ¬ a.toNat ≤ 126 by omega, outE]
        · simp [h1, h2, show 33 ≤ a.toNat by omega, show a.toNat ≤ 126 by omega, outE]
    | true =>
      match r with
      | [] => simp [ltI, ln, outE]
      | [b] => simp [ltI, ln, outE]
      | b :: c :: r' =>
        have e3 : ltI (ln (a :: b :: c :: r')) 3 = false := ltI_f (by unfold ln; simp only [List.length_cons]; omega)
        simp only [e3, List.getElem?_cons_succ, List.getElem?_cons_zero, Option.bind_some, master_isDigit_eq]
        cases hb : dg b with
        | false => simp [outE]
        | true =>
          cases hc : dg c with
          | false => simp [outE]
          | true =>
            rw [num3_val hd hb hc]
            by_cases hn : num3 a b c ≤ 255
            · rw [ltI_f (by omega), conv_num _ hn]
              simp [hn, outE]
            · rw [ltI_t (by omega)]
              simp [hn, outE]
theorem dgAt_lt {l : List UInt8} {i : Nat} {c : UInt8} (h : l[i]? = some c) : dgAt l i = dg c := by unfold dgAt; rw [h]
theorem dgAt_ge {l : List UInt8} {i : Nat} (h : l.length ≤ i) : dgAt l i = false := by unfold dgAt; rw [List.getElem?_eq_none h]
theorem r09_escape_eq (N : Nat) (l : List UInt8) (i : Nat) (hl : l.length ≤ 100000) (hi : i < l.length) : r09_escape N l (i : Int) = some (outE 1 (escL (l.drop (i + 1)))) := by
  unfold r09_escape
  rw [addI_l i 1 (by omega), addI_l i 2 (by omega), addI_l i 3 (by omega)]
  simp only [r09_digit_eq _ _ _ hl]
  rcases at_cases l (i + 1) (by omega) with ⟨h0, h, _, h1⟩ | ⟨a, ha, hd1, _, _, h1, _⟩
  · rw [h1, h0]; rfl
  · rw [h1, hd1, escL_cons]
    simp only [atI_n, ha, Option.bind_some, ltI_bv1, ltI_bv2, dgAt_lt ha]
    by_cases b1 : a.toNat < 33
    · have : dg a = false := by simp [dg]; omega
      simp [b1, this, show ¬ 33 ≤ a.toNat by omega, outE]
    by_cases b2 : 126 < a.toNat
    · have : dg a = false := by simp [dg]; omega
      simp [b1, b2, this, show ¬ a.toNat ≤ 126 by omega, outE]
    cases hd : dg a with
    | false => simp [b1, b2, show 33 ≤ a.toNat by omega, show a.toNat ≤ 126 by omega, outE]
    | true =>
      simp only [b1, b2, decide_false, cond_false, cond_true]
      rcases at_cases l (i + 2) (by omega) with ⟨h0, h, _, _⟩ | ⟨b, hb, hd2, _, _, _, _⟩
      · rw [dgAt_ge h, h0]; rfl
      · rw [dgAt_lt hb, hd2]
        rcases at_cases l (i + 3) (by omega) with ⟨h0, h, _, _⟩ | ⟨c, hc, hd3, _, _, _, _⟩
        · rw [dgAt_ge h, h0]
          cases dg b <;> rfl
        · rw [dgAt_lt hc, hd3]
          simp only [hb, hc, Option.bind_some]
          cases db : dg b with
          | false => simp [outE]
          | true =>
            cases dc : dg c with
            | false => simp [outE]
            | true =>
              rw [num3_val hd db dc]
              by_cases hn : num3 a b c ≤ 255
              · rw [ltI_f (by omega), conv_num _ hn]
                simp [hn, outE]
              · rw [ltI_t (by omega)]
                simp [hn, outE]
end Go.Ev
/- Quoted words, runs, comments: what the plain loops come to. Condition: none. -/
namespace Go.Ev
set_option linter.all false
set_option maxHeartbeats 1000000
theorem quoL_cons (k : Nat) (out : List UInt8) (c : UInt8) (t : List UInt8) : quoL (k + 1) out (c :: t) = (if c = 34 then some (out, t) else
    if c = 92 then (match escL t with | none => none | some (b, n) => quoL k (out ++ [b]) (t.drop n)) else
    if 32 ≤ c.toNat ∧ c.toNat ≤ 126 then quoL k (out ++ [c]) t else none) := rfl
theorem r09_quoted_L0_eq (N : Nat) (l : List UInt8) (hl : l.length ≤ 100000) : ∀ (n i : Nat) (out : List UInt8), i ≤ l.length → l.length < i + n → out.length ≤ i →
    (∃ (o : List UInt8) (j : Nat), quoL n out (l.drop i) = some (o, l.drop j) ∧ i < j ∧ j ≤ l.length ∧ r09_quoted_L0 N n l (i : Int) out = some (.a (o, (j : Int), true))) ∨
    (quoL n out (l.drop i) = none ∧ (r09_quoted_L0 N n l (i : Int) out = some (.a ([], 0, false)) ∨ r09_quoted_L0 N n l (i : Int) out = some (.b ())))
  | 0, i, out, hi, hn, ho => by omega
  | n + 1, i, out, hi, hn, ho => by
    unfold r09_quoted_L0
    rcases at_cases l i (by omega) with ⟨h0, h, h1, _⟩ | ⟨c, hc, hd, hlt, h1, _, hs⟩
    · rw [h0, h1]
      exact .inr ⟨rfl, .inr rfl⟩
    · rw [h1, hd, quoL_cons, hs]
      have hr := room1_ok out 1 1 (by omega) (by omega)
      simp only [Nat.reduceLT, atI_n, hc, Option.bind_some, cond_true, eqI_bv, ltI_bv1, ltI_bv2, hr, r09_escape_eq N l i hl hlt]
      by_cases c34 : c = 34
      · subst c34
        exact .inl ⟨out, i + 1, rfl, by omega, by omega, rfl⟩
      simp only [c34, decide_false, cond_false, if_false]
      by_cases c92 : c = 92
      · subst c92
        cases he : escL (l.drop (i + 1)) with
        | none => exact .inr ⟨rfl, .inl rfl⟩
        | some x =>
          obtain ⟨b, k⟩ := x
          have hp := escL_pos he
          rw [List.length_drop] at hp
          have hdd : (l.drop (i + 1)).drop k = l.drop (i + (k + 1)) := by rw [List.drop_drop]; congr 1; omega
          have h0 : eqI ((k + 1 : Nat) : Int) 0 = false := eqI_f (by omega)
          have hb : ((92 : UInt8).toNat < 32) = False := by decide
          have hb2 : (126 < (92 : UInt8).toNat) = False := by decide
          simp only [outE, h0, isB_bv, u8_bv, cond_true, cond_false, if_true, hdd, hb, hb2, decide_false, decide_true]
          rw [addI_n _ _ (by omega)]
          rcases r09_quoted_L0_eq N l hl n (i + (k + 1)) (out ++ [b]) (by omega) (by omega) (by rw [List.length_append, List.length_singleton]; omega) with ⟨o, j, q1, q2, q3, q4⟩ | q
          · exact .inl ⟨o, j, q1, by omega, q3, q4⟩
          · exact .inr q
      simp only [c92, decide_false, cond_false, if_false]
      by_cases b1 : c.toNat < 32
      · simp only [b1, decide_true, cond_true, show ¬ (32 ≤ c.toNat ∧ c.toNat ≤ 126) by omega, if_false]
        exact .inr ⟨by simp, .inl (by simp)⟩
      by_cases b2 : 126 < c.toNat
      · simp only [b1, b2, decide_true, decide_false, cond_false, cond_true, show ¬ (32 ≤ c.toNat ∧ c.toNat ≤ 126) by omega, if_false]
        exact .inr ⟨by simp, .inl (by simp)⟩
      have h10 : eqI 1 0 = false := eqI_f (by omega)
      simp only [b1, b2, decide_false, cond_false, h10, show (32 ≤ c.toNat ∧ c.toNat ≤ 126) by omega, if_true, and_self]
      rcases r09_quoted_L0_eq N l hl n (i + 1) (out ++ [c]) (by omega) (by omega) (by rw [List.length_append, List.length_singleton]; omega) with ⟨o, j, q1, q2, q3, q4⟩ | q
      · exact .inl ⟨o, j, q1, by omega, q3, q4⟩
      · exact .inr q
theorem quoL_mono : ∀ (k k' : Nat) (out l : List UInt8), l.length < k → k ≤ k' → quoL k' out l = quoL k out l
  | 0, k', out, l, h, _ => by omega
  | k + 1, 0, out, l, h, h' => by omega
  | k + 1, k' + 1, out, [], h, h' => rfl
  | k + 1, k' + 1, out, c :: t, h, h' => by
    simp only [List.length_cons] at h
    rw [quoL_cons, quoL_cons]
    split
    · rfl
    · split
      · split
        · rfl
        · rename_i b n he
          have := escL_pos he
          exact quoL_mono k k' _ _ (by rw [List.length_drop]; omega) (by omega)
      · split
        · exact quoL_mono k k' _ _ (by omega) (by omega)
        · rfl
/-- A quoted word that begins at i. -/
def quoAt (l : List UInt8) (i : Nat) : Option (List UInt8 × List UInt8) := quoL (l.drop (i + 1)).length.succ [] (l.drop (i + 1))
theorem r09_quoted_eq (N : Nat) (l : List UInt8) (hl : l.length ≤ 100000) (hN : l.length < N) (i : Nat) (hi : i < l.length) :
    (∃ (o : List UInt8) (j : Nat), quoAt l i = some (o, l.drop j) ∧ i < j ∧ j ≤ l.length ∧ r09_quoted N l (i : Int) = some (o, (j : Int), true)) ∨
    (quoAt l i = none ∧ r09_quoted N l (i : Int) = some ([], 0, false)) := by
  have e : quoL N [] (l.drop (i + 1)) = quoAt l i := quoL_mono _ _ _ _ (by omega) (by rw [List.length_drop]; omega)
  unfold r09_quoted
  rw [addI_l i 1 (by omega)]
  have := r09_quoted_L0_eq N l hl N (i + 1) [] (by omega) (by omega) (by simp)
  rw [e] at this
  rcases this with ⟨o, j, q1, q2, q3, q4⟩ | ⟨q1, q2 | q2⟩
  · exact .inl ⟨o, j, q1, by omega, q3, by rw [q4]; rfl⟩
  · exact .inr ⟨q1, by rw [q2]; rfl⟩
  · exact .inr ⟨q1, by rw [q2]; rfl⟩
theorem tw_cons {α : Type} (p : α → Bool) (c : α) (t : List α) : ((c :: t).takeWhile p).length = if p c then (t.takeWhile p).length + 1 else 0 := by
  rw [List.takeWhile_cons]
  split <;> simp
theorem r09_Scan_L0_eq (N : Nat) (l : List UInt8) (hl : l.length ≤ 100000) (p1 p2 p3 p5 p6 p7 p8) : ∀ (n i : Nat), i ≤ l.length → l.length < i + n →
    r09_Scan_L0 N n l p1 p2 p3 (i : Int) p5 p6 p7 p8 = some ((i + ((l.drop i).takeWhile pln).length : Nat) : Int)
  | 0, i, hi, hn => by omega
  | n + 1, i, hi, hn => by
    unfold r09_Scan_L0
    rcases at_cases l i (by omega) with ⟨h0, h, h1, _⟩ | ⟨c, hc, hd, hlt, h1, _, hs⟩
    · rw [h0, h1]; rfl
    · rw [h1, hd, hs, tw_cons]
      simp only [atI_n, hc, Option.bind_some, cond_true, r09_plain_eq]
      cases hp : pln c with
      | false => rfl
      | true =>
        simp only [cond_true, if_true]
        rw [r09_Scan_L0_eq N l hl p1 p2 p3 p5 p6 p7 p8 n (i + 1) (by omega) (by omega)]
        congr 2; omega
theorem r09_Scan_L1_eq (N : Nat) (l : List UInt8) (hl : l.length ≤ 100000) (p1 p2 p3 p5 p6 p7) : ∀ (n i : Nat), i ≤ l.length → l.length < i + n →
    r09_Scan_L1 N n l p1 p2 p3 (i : Int) p5 p6 p7 = some ((i + ((l.drop i).takeWhile (· ≠ 10)).length : Nat) : Int)
  | 0, i, hi, hn => by omega
  | n + 1, i, hi, hn => by
    unfold r09_Scan_L1
    rcases at_cases l i (by omega) with ⟨h0, h, h1, _⟩ | ⟨c, hc, hd, hlt, h1, _, hs⟩
    · rw [h0, h1]; rfl
    · rw [h1, hd, hs, tw_cons]
      simp only [Nat.reduceLT, atI_n, hc, Option.bind_some, cond_true, eqI_bv]
      by_cases c10 : c = 10
      · subst c10; rfl
      · simp only [c10, decide_false, cond_false, ne_eq, not_false_eq_true, decide_true, if_true]
        rw [r09_Scan_L1_eq N l hl p1 p2 p3 p5 p6 p7 n (i + 1) (by omega) (by omega)]
        congr 2; simp only [ne_eq]; omega
end Go.Ev
/- The program's Scan and the reference's: both come to one list of entries. Condition: none. -/
namespace Go.Ev
set_option linter.all false
set_option maxHeartbeats 2000000
theorem master_scanner_comment_L0_eq (N : Nat) (l : List UInt8) (hl : l.length ≤ 100000) (p2 p3) : ∀ (n i : Nat), i ≤ l.length → l.length < i + n →
    master_scanner_comment_L0 N n l (i : Int) p2 p3 = some ((i + ((l.drop i).takeWhile (· ≠ 10)).length : Nat) : Int)
  | 0, i, hi, hn => by omega
  | n + 1, i, hi, hn => by
    unfold master_scanner_comment_L0
    rcases at_cases l i (by omega) with ⟨h0, h, h1, _⟩ | ⟨c, hc, hd, hlt, h1, _, hs⟩
    · rw [h0, h1]; rfl
    · rw [h1, hd, hs, tw_cons]
      simp only [Nat.reduceLT, atI_n, hc, Option.bind_some, cond_true, eqI_bv]
      by_cases c10 : c = 10
      · subst c10; rfl
      · simp only [c10, decide_false, cond_false, ne_eq, not_false_eq_true, decide_true, if_true]
        rw [master_scanner_comment_L0_eq N l hl p2 p3 n (i + 1) (by omega) (by omega)]
        congr 2; simp only [ne_eq]; omega
theorem master_scanner_comment_eq (N : Nat) (l : List UInt8) (hl : l.length ≤ 100000) (hN : l.length < N) (i : Nat) (hi : i ≤ l.length) (p2 p3) :
    master_scanner_comment N l (i : Int) p2 p3 = some ((i + ((l.drop i).takeWhile (· ≠ 10)).length : Nat) : Int) := by
  unfold master_scanner_comment
  rw [master_scanner_comment_L0_eq N l hl p2 p3 N i hi (by omega)]
  rfl
theorem master_scanner_unquoted_L0_eq (N : Nat) (l : List UInt8) (hl : l.length ≤ 100000) (p0 p1 p2 p5 p6) : ∀ (n i : Nat), i ≤ l.length → l.length < i + n →
    master_scanner_unquoted_L0 N n p0 p1 p2 l (i : Int) p5 p6 = some ((i + ((l.drop i).takeWhile pln).length : Nat) : Int)
  | 0, i, hi, hn => by omega
  | n + 1, i, hi, hn => by
    unfold master_scanner_unquoted_L0
    rcases at_cases l i (by omega) with ⟨h0, h, h1, _⟩ | ⟨c, hc, hd, hlt, h1, _, hs⟩
    · rw [h0, h1]; rfl
    · rw [h1, hd, hs, tw_cons]
      simp only [atI_n, hc, Option.bind_some, cond_true, master_plain_eq]
      cases hp : pln c with
      | false => rfl
      | true =>
        simp only [cond_true, if_true]
        rw [master_scanner_unquoted_L0_eq N l hl p0 p1 p2 p5 p6 n (i + 1) (by omega) (by omega)]
        congr 2; omega
theorem tw_le {α : Type} (p : α → Bool) (L : List α) : (L.takeWhile p).length ≤ L.length := (List.takeWhile_sublist p).length_le
theorem take_tw {α : Type} (p : α → Bool) : ∀ (L : List α), L.take (L.takeWhile p).length = L.takeWhile p
  | [] => rfl
  | a :: L => by
    rw [List.takeWhile_cons]
    split
    · rw [List.length_cons, List.take_succ_cons, take_tw p L]
    · rfl
theorem drop_tw {α : Type} (p : α → Bool) : ∀ (L : List α), L.drop (L.takeWhile p).length = L.dropWhile p
  | [] => rfl
  | a :: L => by
    rw [List.takeWhile_cons, List.dropWhile_cons]
    split
    · exact drop_tw p L
    · rfl
theorem cut_tw (p : UInt8 → Bool) (l : List UInt8) (i : Nat) (hi : i ≤ l.length) : cutI l (i : Int) ((i + ((l.drop i).takeWhile p).length : Nat) : Int) = some ((l.drop i).takeWhile p) := by
  have := tw_le p (l.drop i)
  rw [List.length_drop] at this
  rw [cutI_n _ _ _ (by omega) (by omega), List.drop_take, Nat.add_sub_cancel_left, take_tw]
theorem master_scanner_unquoted_eq (N : Nat) (l : List UInt8) (hl : l.length ≤ 100000) (hN : l.length < N) (i : Nat) (hi : i ≤ l.length) (p2 p3) :
    master_scanner_unquoted N l (i : Int) p2 p3 = some ((l.drop i).takeWhile pln, false, ((i + ((l.drop i).takeWhile pln).length : Nat) : Int)) := by
  unfold master_scanner_unquoted
  rw [master_scanner_unquoted_L0_eq N l hl _ _ _ p2 p3 N i hi (by omega)]
  simp only [Option.bind_some]
  rw [cut_tw pln l i hi]
  rfl
theorem master_scanner_quoted_L0_eq (N : Nat) (l : List UInt8) (hl : l.length ≤ 100000) (p2 p3 p5 p6 p7) : ∀ (n i : Nat) (out : List UInt8), i ≤ l.length → l.length < i + n → out.length ≤ i →
    (∃ (o : List UInt8) (j : Nat), quoL n out (l.drop i) = some (o, l.drop j) ∧ i < j ∧ j ≤ l.length ∧ master_scanner_quoted_L0 N n out (i : Int) p2 p3 l p5 p6 p7 = some (.a (true, o, true, (j : Int)))) ∨
    (quoL n out (l.drop i) = none ∧ (master_scanner_quoted_L0 N n out (i : Int) p2 p3 l p5 p6 p7 = some (.a (false, [], false, p5)) ∨ master_scanner_quoted_L0 N n out (i : Int) p2 p3 l p5 p6 p7 = some (.b ())))
  | 0, i, out, hi, hn, ho => by omega
  | n + 1, i, out, hi, hn, ho => by
    unfold master_scanner_quoted_L0
    rcases at_cases l i (by omega) with ⟨h0, h, h1, _⟩ | ⟨c, hc, hd, hlt, h1, _, hs⟩
    · rw [h0, h1]
      exact .inr ⟨rfl, .inr rfl⟩
    · rw [h1, hd, quoL_cons, hs]
      have hr := room1_ok out 1 1 (by omega) (by omega)
      have he := master_escape_eq N (l.drop (i + 1)) (by rw [List.length_drop]; omega)
      simp only [Nat.reduceLT, atI_n, hc, Option.bind_some, cond_true, eqI_bv, ltI_bv1, ltI_bv2, hr, cutI_from l (i + 1) (by omega), he]
      by_cases c34 : c = 34
      · subst c34
        exact .inl ⟨out, i + 1, rfl, by omega, by omega, rfl⟩
      simp only [c34, decide_false, cond_false, if_false]
      by_cases c92 : c = 92
      · subst c92
        cases he : escL (l.drop (i + 1)) with
        | none => exact .inr ⟨rfl, .inl rfl⟩
        | some x =>
          obtain ⟨b, k⟩ := x
          have hp := escL_pos he
          rw [List.length_drop] at hp
          have hdd : (l.drop (i + 1)).drop k = l.drop (i + k + 1) := by rw [List.drop_drop]; congr 1; omega
          have h0 : eqI ((k : Nat) : Int) 0 = false := eqI_f (by omega)
          simp only [outE, Nat.add_zero, h0, isB_bv, u8_bv, cond_true, cond_false, if_true, hdd, decide_true]
          rw [addI_n i k (by omega), addI_l (i + k) 1 (by omega)]
          rcases master_scanner_quoted_L0_eq N l hl p2 p3 p5 p6 p7 n (i + k + 1) (out ++ [b]) (by omega) (by omega) (by rw [List.length_append, List.length_singleton]; omega) with ⟨o, j, q1, q2, q3, q4⟩ | q
          · exact .inl ⟨o, j, q1, by omega, q3, q4⟩
          · exact .inr q
      simp only [c92, decide_false, cond_false, if_false]
      by_cases b1 : c.toNat < 32
      · simp only [b1, decide_true, cond_true, show ¬ (32 ≤ c.toNat ∧ c.toNat ≤ 126) by omega, if_false]
        exact .inr ⟨by simp, .inl (by simp)⟩
      by_cases b2 : 126 < c.toNat
      · simp only [b1, b2, decide_true, decide_false, cond_false, cond_true, show ¬ (32 ≤ c.toNat ∧ c.toNat ≤ 126) by omega, if_false]
        exact .inr ⟨by simp, .inl (by simp)⟩
      simp only [b1, b2, decide_false, cond_false, show (32 ≤ c.toNat ∧ c.toNat ≤ 126) by omega, if_true, and_self]
      rcases master_scanner_quoted_L0_eq N l hl p2 p3 p5 p6 p7 n (i + 1) (out ++ [c]) (by omega) (by omega) (by rw [List.length_append, List.length_singleton]; omega) with ⟨o, j, q1, q2, q3, q4⟩ | q
      · exact .inl ⟨o, j, q1, by omega, q3, q4⟩
      · exact .inr q
theorem master_scanner_quoted_eq (N : Nat) (l : List UInt8) (hl : l.length ≤ 100000) (hN : l.length < N) (i : Nat) (hi : i < l.length) (p2 p3) :
    (∃ (o : List UInt8) (j : Nat), quoAt l i = some (o, l.drop j) ∧ i < j ∧ j ≤ l.length ∧ master_scanner_quoted N l (i : Int) p2 p3 = some (o, true, true, (j : Int))) ∨
    (quoAt l i = none ∧ master_scanner_quoted N l (i : Int) p2 p3 = some ([], false, false, (i : Int))) := by
  have e : quoL N [] (l.drop (i + 1)) = quoAt l i := quoL_mono _ _ _ _ (by omega) (by rw [List.length_drop]; omega)
  unfold master_scanner_quoted
  rw [addI_l i 1 (by omega)]
  have := master_scanner_quoted_L0_eq N l hl [] false (i : Int) p2 p3 N (i + 1) [] (by omega) (by omega) (by simp)
  rw [e] at this
  rcases this with ⟨o, j, q1, q2, q3, q4⟩ | ⟨q1, q2 | q2⟩
  · exact .inl ⟨o, j, q1, by omega, q3, by rw [q4]; rfl⟩
  · exact .inr ⟨q1, by rw [q2]; rfl⟩
  · exact .inr ⟨q1, by rw [q2]; rfl⟩
end Go.Ev
/- The program's entries and its Scan. Condition: none. -/
namespace Go.Ev
set_option linter.all false
set_option maxHeartbeats 4000000
theorem scanL_mono : ∀ (k k' : Nat) (l : List UInt8) (n : Nat) (op : Bool) (x : Ln) (out : List Ln), l.length ≤ k → l.length ≤ k' → scanL k l n op x out = scanL k' l n op x out
  | k, k', [], n, op, x, out, h, h' => by
    cases k <;> cases k' <;> simp [scanL]
  | 0, k', c :: t, n, op, x, out, h, h' => by simp at h
  | k + 1, 0, c :: t, n, op, x, out, h, h' => by simp at h'
  | k + 1, k' + 1, c :: t, n, op, x, out, h, h' => by
    simp only [List.length_cons] at h h'
    have hm : ∀ (l : List UInt8) (n : Nat) (op : Bool) (x : Ln) (out : List Ln), l.length ≤ t.length → scanL k l n op x out = scanL k' l n op x out := fun l n op x out hl => scanL_mono k k' l n op x out (by omega) (by omega)
    simp only [scanL]
    rw [hm t _ _ _ _ (Nat.le_refl _), hm t _ _ _ _ (Nat.le_refl _), hm t _ _ _ _ (Nat.le_refl _), hm t n true _ _ (Nat.le_refl _), hm t n false _ _ (Nat.le_refl _), hm _ _ _ _ _ (List.dropWhile_sublist _).length_le, hm _ _ _ _ _ (List.dropWhile_sublist _).length_le]
    congr 6
    cases hq : quoL t.length.succ [] t with
    | none => rfl
    | some r => exact hm _ _ _ _ _ (by have := quoL_len _ _ _ _ _ hq; omega)
def scanG (l : List UInt8) (n : Nat) (op : Bool) (x : Ln) (out : List Ln) : Scn := scanL l.length l n op x out
theorem scanG_nil (n : Nat) (op : Bool) (x : Ln) (out : List Ln) : scanG [] n op x out = if op then .bad n else .ok (addLn out x) := rfl
theorem scanG_cons (c : UInt8) (t : List UInt8) (n : Nat) (op : Bool) (x : Ln) (out : List Ln) : scanG (c :: t) n op x out =
    if c = 10 then (if op then scanG t (n + 1) op x out else scanG t (n + 1) op ⟨n + 1, blkAt t, []⟩ (addLn out x)) else
    if blk c = true then scanG t n op x out else
    if c = 59 then scanG (t.dropWhile (· ≠ 10)) n op x out else
    if c = 40 ∧ op = false then scanG t n true x out else
    if c = 41 ∧ op = true then scanG t n false x out else
    if c = 34 then (match quoL t.length.succ [] t with | none => .bad n | some (w, r) => scanG r n op { x with words := x.words ++ [⟨w, true⟩] } out) else
    if pln c = true then scanG (t.dropWhile pln) n op { x with words := x.words ++ [⟨c :: t.takeWhile pln, false⟩] } out else .bad n := by
  have hm : ∀ (l : List UInt8) (n : Nat) (op : Bool) (x : Ln) (out : List Ln), l.length ≤ t.length → scanL t.length l n op x out = scanG l n op x out := fun l n op x out hl => scanL_mono _ _ l n op x out hl (Nat.le_refl _)
  show scanL (t.length + 1) (c :: t) n op x out = _
  simp only [scanL]
  rw [hm t _ _ _ _ (Nat.le_refl _), hm t _ _ _ _ (Nat.le_refl _), hm t _ _ _ _ (Nat.le_refl _), hm t n true _ _ (Nat.le_refl _), hm t n false _ _ (Nat.le_refl _), hm _ _ _ _ _ (List.dropWhile_sublist _).length_le, hm _ _ _ _ _ (List.dropWhile_sublist _).length_le]
  congr 6
  cases hq : quoL t.length.succ [] t with
  | none => rfl
  | some r => exact hm _ _ _ _ _ (by have := quoL_len _ _ _ _ _ hq; omega)
def rw1 (w : Wd) : Rw1 := ⟨w.text, w.q⟩
def rw0 (x : Ln) : Rw0 := ⟨(x.num : Int), x.blank, x.words.map rw1⟩
def EntP (l : List UInt8) (i line : Nat) (op : Bool) (ws : List Wd) (r : O2 (List Rw1 × Int × Int × Bool) (Bool × Int × Bool × List Rw1 × Int × Int × Bool)) : Prop :=
  (∃ (ws' : List Wd) (j line' : Nat) (op' : Bool), r = .a (ws'.map rw1, (j : Int), (line' : Int), op') ∧ (i ≤ j ∧ (i < l.length → i < j) ∧ j ≤ l.length ∧ line' ≤ j + 1 ∧ ws'.length ≤ j ∧ (op' = true → j = l.length)) ∧
    ∀ num b out, scanG (l.drop i) line op ⟨num, b, ws⟩ out = if op' then .bad line' else scanG (l.drop j) line' false ⟨line', blkAt (l.drop j), []⟩ (addLn out ⟨num, b, ws'⟩)) ∨
  (∃ (j : Int) (line' : Nat) (op' : Bool), r = .b (false, 0, false, [], j, (line' : Int), op') ∧ line' ≤ l.length + 1 ∧ ∀ num b out, scanG (l.drop i) line op ⟨num, b, ws⟩ out = .bad line')
theorem EntP.step {l : List UInt8} {i i' line line2 : Nat} {op op2 : Bool} {ws ws2 : List Wd} {r} (h : EntP l i' line2 op2 ws2 r) (hi : i < i')
    (he : ∀ num b out, scanG (l.drop i) line op ⟨num, b, ws⟩ out = scanG (l.drop i') line2 op2 ⟨num, b, ws2⟩ out) : EntP l i line op ws r := by
  rcases h with ⟨ws', j, line', op', e, ⟨h1, h2, h3, h4, h5, h6⟩, h7⟩ | ⟨j, line', op', e, h1, h7⟩
  · exact .inl ⟨ws', j, line', op', e, ⟨by omega, by omega, h3, h4, h5, h6⟩, fun num b out => (he num b out).trans (h7 num b out)⟩
  · exact .inr ⟨j, line', op', e, h1, fun num b out => (he num b out).trans (h7 num b out)⟩
theorem EntP.bad {l : List UInt8} {i line : Nat} {op : Bool} {ws : List Wd} (j : Int) (op' : Bool) (hl : line ≤ l.length + 1) (he : ∀ num b out, scanG (l.drop i) line op ⟨num, b, ws⟩ out = .bad line) :
    EntP l i line op ws (.b (false, 0, false, [], j, (line : Int), op')) := .inr ⟨j, line, op', rfl, hl, he⟩
theorem addLn_nil (out : List Ln) (n : Nat) (b : Bool) : addLn out ⟨n, b, []⟩ = out := by simp [addLn]
theorem blk_iff (c : UInt8) : blk c = true ↔ c = 32 ∨ c = 9 := by simp [blk]
theorem map_snoc (ws : List Wd) (a : List UInt8) (b : Bool) : ws.map rw1 ++ [(⟨a, b⟩ : Rw1)] = (ws ++ [(⟨a, b⟩ : Wd)]).map rw1 := by simp [rw1]
theorem addI_n1 (i : Nat) (h : i + 1 ≤ 9223372036854775807) : addI .i64 (i : Int) 1 = ((i + 1 : Nat) : Int) := addI_l i 1 h
theorem entry_L0_eq (N : Nat) (l : List UInt8) (hl : l.length ≤ 100000) (hN : l.length < N) (p3 p4) : ∀ (n i line : Nat) (op : Bool) (ws : List Wd), i ≤ l.length → l.length < i + n → line ≤ i + 1 → ws.length ≤ i →
    ∃ r, master_scanner_entry_L0 N n 0 false [] p3 p4 (ws.map rw1) l (i : Int) (line : Int) op = some r ∧ EntP l i line op ws r := by
  intro n
  induction n with
  | zero => intro i line op ws hi hn; omega
  | succ n ih =>
    intro i line op ws hi hn hli hws
    unfold master_scanner_entry_L0
    rcases at_cases l i (by omega) with ⟨h0, h, h1, _⟩ | ⟨c, hc, hd, hlt, h1, _, hs⟩
    · rw [h1]
      refine ⟨_, rfl, .inl ⟨ws, i, line, op, rfl, ⟨by omega, by omega, by omega, by omega, by omega, by omega⟩, fun num b out => ?_⟩⟩
      rw [h0, scanG_nil, scanG_nil, addLn_nil]
      cases op <;> rfl
    · rw [h1]
      have hcom := master_scanner_comment_eq N l hl hN i hi (line : Int) op
      have hr : room1 (ws.map rw1) 1 24 = true := room1_ok _ _ _ (by rw [List.length_map]; omega) (by rw [List.length_map]; omega)
      simp only [Nat.reduceLT, atI_n, hc, Option.bind_some, cond_true, eqI_bv, master_plain_eq, hs, addI_n1 line (by omega)]
      have tw := tw_cons (fun b => decide (b ≠ 10)) c (l.drop (i + 1))
      by_cases c10 : c = 10
      · subst c10
        cases op with
        | true =>
          obtain ⟨r, e, q⟩ := ih (i + 1) (line + 1) true ws (by omega) (by omega) (by omega) (by omega)
          exact ⟨r, e, q.step (by omega) fun num b out => by rw [hd, scanG_cons]; rfl⟩
        | false =>
          refine ⟨_, rfl, .inl ⟨ws, i + 1, line + 1, false, rfl, ⟨by omega, by omega, by omega, by omega, by omega, by simp⟩, fun num b out => ?_⟩⟩
          rw [hd, scanG_cons]
          rfl
      by_cases c32 : c = 32
      · subst c32
        obtain ⟨r, e, q⟩ := ih (i + 1) line op ws (by omega) (by omega) (by omega) (by omega)
        exact ⟨r, e, q.step (by omega) fun num b out => by rw [hd, scanG_cons]; rfl⟩
      by_cases c9 : c = 9
      · subst c9
        obtain ⟨r, e, q⟩ := ih (i + 1) line op ws (by omega) (by omega) (by omega) (by omega)
        exact ⟨r, e, q.step (by omega) fun num b out => by rw [hd, scanG_cons]; rfl⟩
      have hb : blk c = false := by simp [blk, c32, c9]
      by_cases c59 : c = 59
      · subst c59
        have hle := tw_le (fun b : UInt8 => decide (b ≠ 10)) (l.drop i)
        rw [List.length_drop] at hle
        have hp : 0 < ((l.drop i).takeWhile (fun b : UInt8 => decide (b ≠ 10))).length := by rw [hd, tw]; simp
        obtain ⟨r, e, q⟩ := ih (i + ((l.drop i).takeWhile (fun b : UInt8 => decide (b ≠ 10))).length) line op ws (by omega) (by omega) (by omega) (by omega)
        refine ⟨r, ?_, q.step (by omega) fun num b out => ?_⟩
        · cases op <;> simp only [hcom, Option.bind_some] <;> exact e
        · rw [← List.drop_drop, drop_tw, hd, scanG_cons, List.dropWhile_cons]
          simp [blk]
      by_cases c40 : c = 40 ∧ op = false
      · obtain ⟨rfl, rfl⟩ := c40
        obtain ⟨r, e, q⟩ := ih (i + 1) line true ws (by omega) (by omega) (by omega) (by omega)
        exact ⟨r, e, q.step (by omega) fun num b out => by rw [hd, scanG_cons]; simp [blk]⟩
      by_cases c41 : c = 41 ∧ op = true
      · obtain ⟨rfl, rfl⟩ := c41
        obtain ⟨r, e, q⟩ := ih (i + 1) line false ws (by omega) (by omega) (by omega) (by omega)
        exact ⟨r, e, q.step (by omega) fun num b out => by rw [hd, scanG_cons]; simp [blk]⟩
      by_cases c34 : c = 34
      · subst c34
        have hsc : ∀ num b out, scanG (l.drop i) line op ⟨num, b, ws⟩ out = (match quoAt l i with | none => .bad line | some (w, r) => scanG r line op ⟨num, b, ws ++ [⟨w, true⟩]⟩ out) := fun num b out => by
          rw [hd, scanG_cons]; simp [blk, quoAt]
        rcases master_scanner_quoted_eq N l hl hN i hlt (line : Int) op with ⟨o, j, q1, q2, q3, q4⟩ | ⟨q1, q4⟩
        · obtain ⟨r, e, q⟩ := ih j line op (ws ++ [⟨o, true⟩]) (by omega) (by omega) (by omega) (by rw [List.length_append, List.length_singleton]; omega)
          refine ⟨r, ?_, q.step (by omega) fun num b out => ?_⟩
          · rw [← map_snoc] at e
            cases op <;> simp [q4, hr, e]
          · rw [hsc, q1]
        · refine ⟨.b (false, 0, false, [], (i : Int), (line : Int), op), ?_, EntP.bad _ _ (by omega) fun num b out => ?_⟩
          · cases op <;> simp [q4]
          · rw [hsc, q1]
      have hsc : ∀ num b out, scanG (l.drop i) line op ⟨num, b, ws⟩ out = if pln c = true then scanG ((l.drop (i + 1)).dropWhile pln) line op ⟨num, b, ws ++ [⟨c :: (l.drop (i + 1)).takeWhile pln, false⟩]⟩ out else .bad line := fun num b out => by
        rw [hd, scanG_cons, if_neg c10, if_neg (by rw [hb]; simp), if_neg c59, if_neg c40, if_neg c41, if_neg c34]
      cases hp : pln c with
      | false =>
        refine ⟨.b (false, 0, false, [], (i : Int), (line : Int), op), ?_, EntP.bad _ _ (by omega) fun num b out => ?_⟩
        · by_cases d40 : c = 40
          · cases op with
            | false => exact absurd ⟨d40, rfl⟩ c40
            | true => subst d40; rfl
          by_cases d41 : c = 41
          · cases op with
            | true => exact absurd ⟨d41, rfl⟩ c41
            | false => subst d41; rfl
          simp only [c10, c32, c9, c59, d40, d41, c34, hp, decide_false, cond_false]
        · rw [hsc, hp]; rfl
      | true =>
        have d40 : c ≠ 40 := by intro e; subst e; revert hp; decide
        have d41 : c ≠ 41 := by intro e; subst e; revert hp; decide
        have hle := tw_le pln (l.drop i)
        rw [List.length_drop] at hle
        have hpos : 0 < ((l.drop i).takeWhile pln).length := by rw [hd, tw_cons, hp]; simp
        obtain ⟨r, e, q⟩ := ih (i + ((l.drop i).takeWhile pln).length) line op (ws ++ [⟨(l.drop i).takeWhile pln, false⟩]) (by omega) (by omega) (by omega) (by rw [List.length_append, List.length_singleton]; omega)
        refine ⟨r, ?_, q.step (by omega) fun num b out => ?_⟩
        · rw [← map_snoc] at e
          cases op <;> simp only [c10, c32, c9, c59, d40, d41, c34, hp, decide_false, cond_false, cond_true, master_scanner_unquoted_eq N l hl hN i hi, Option.bind_some, hr] <;> exact e
        · have hdd : l.drop (i + ((l.drop i).takeWhile pln).length) = (l.drop i).dropWhile pln := by rw [← List.drop_drop, drop_tw]
          rw [hsc, hp, if_pos rfl, hdd, hd, List.dropWhile_cons, List.takeWhile_cons, hp]
          simp
end Go.Ev
/- Scan and its reference, whole. Condition: none. -/
namespace Go.Ev
set_option linter.all false
set_option maxHeartbeats 4000000
theorem entry_eq (N : Nat) (l : List UInt8) (hl : l.length ≤ 100000) (hN : l.length < N) (i line : Nat) (hi : i < l.length) (hli : line ≤ i + 1) :
    (∃ (ws : List Wd) (j line' : Nat), master_scanner_entry N l (i : Int) (line : Int) false = some ((line : Int), blkAt (l.drop i), ws.map rw1, true, (j : Int), (line' : Int), false) ∧ (i < j ∧ j ≤ l.length ∧ line' ≤ j + 1 ∧ ws.length ≤ j) ∧
      ∀ num b out, scanG (l.drop i) line false ⟨num, b, []⟩ out = scanG (l.drop j) line' false ⟨line', blkAt (l.drop j), []⟩ (addLn out ⟨num, b, ws⟩)) ∨
    (∃ (a : Int) (b : Bool) (c : List Rw1) (j : Int) (line' : Nat) (op' : Bool), master_scanner_entry N l (i : Int) (line : Int) false = some (a, b, c, false, j, (line' : Int), op') ∧ line' ≤ l.length + 1 ∧ ∀ num b out, scanG (l.drop i) line false ⟨num, b, []⟩ out = .bad line') := by
  have key : ∀ b : Bool, ∃ r, Option.bind (master_scanner_entry_L0 N N 0 false [] (line : Int) b [] l (i : Int) (line : Int) false) (O2.el
      (fun o2 =>
        bif ltI o2.2.1 (ln l) then
          some ((line : Int), b, o2.1, true, o2.2.1, o2.2.2.1, o2.2.2.2)
        else
        bif o2.2.2.2 then
          some ((line : Int), b, o2.1, false, o2.2.1, o2.2.2.1, true)
        else
          some ((line : Int), b, o2.1, true, o2.2.1, o2.2.2.1, false))
      (fun o3 =>
        some (o3.2.1, o3.2.2.1, o3.2.2.2.1, o3.1, o3.2.2.2.2.1, o3.2.2.2.2.2.1, o3.2.2.2.2.2.2))) = some r ∧
      ((∃ (ws : List Wd) (j line' : Nat), r = ((line : Int), b, ws.map rw1, true, (j : Int), (line' : Int), false) ∧ (i < j ∧ j ≤ l.length ∧ line' ≤ j + 1 ∧ ws.length ≤ j) ∧
        ∀ num b out, scanG (l.drop i) line false ⟨num, b, []⟩ out = scanG (l.drop j) line' false ⟨line', blkAt (l.drop j), []⟩ (addLn out ⟨num, b, ws⟩)) ∨
      (∃ (a : Int) (b : Bool) (c : List Rw1) (j : Int) (line' : Nat) (op' : Bool), r = (a, b, c, false, j, (line' : Int), op') ∧ line' ≤ l.length + 1 ∧ ∀ num b out, scanG (l.drop i) line false ⟨num, b, []⟩ out = .bad line')) := by
    intro b
    obtain ⟨r, e, q⟩ := entry_L0_eq N l hl hN (line : Int) b N i line false [] (by omega) (by omega) hli (by simp)
    simp only [List.map_nil] at e
    rw [e]
    rcases q with ⟨ws, j, line', op', rfl, ⟨h1, h2, h3, h4, h5, h6⟩, h7⟩ | ⟨j, line', op', rfl, h1, h7⟩
    · simp only [Option.bind_some, O2.el]
      cases op' with
      | true =>
        rw [ltI_f (by unfold ln; rw [h6 rfl]; omega)]
        exact ⟨_, rfl, .inr ⟨_, _, _, _, line', _, rfl, by omega, fun num b out => by rw [h7]; rfl⟩⟩
      | false =>
        refine ⟨((line : Int), b, ws.map rw1, true, (j : Int), (line' : Int), false), ?_, .inl ⟨ws, j, line', rfl, ⟨h2 hi, h3, h4, h5⟩, fun num b out => by rw [h7]; rfl⟩⟩
        cases ltI (j : Int) (ln l) <;> rfl
    · exact ⟨_, rfl, .inr ⟨_, _, _, _, line', _, rfl, h1, h7⟩⟩
  unfold master_scanner_entry
  rcases at_cases l i (by omega) with ⟨_, h, _, _⟩ | ⟨c, hc, hd, hlt, h1, _, hs⟩
  · omega
  · simp only [h1, cond_true, atI_n, hc, Option.bind_some, eqI_bv, Nat.reduceLT]
    have hb : blkAt (l.drop i) = blk c := by rw [hd]; rfl
    obtain ⟨r, e, q⟩ := key (blk c)
    rw [hb]
    have : (blk c = true ∧ (c = 32 ∨ c = 9)) ∨ (blk c = false ∧ c ≠ 32 ∧ c ≠ 9) := by
      cases hbc : blk c with
      | true => exact .inl ⟨rfl, (blk_iff c).1 hbc⟩
      | false => exact .inr ⟨rfl, (fun e => by rw [(blk_iff c).2 (.inl e)] at hbc; cases hbc), (fun e => by rw [(blk_iff c).2 (.inr e)] at hbc; cases hbc)⟩
    rcases this with ⟨hbc, hc32 | hc9⟩ | ⟨hbc, n32, n9⟩
    · rw [hbc] at e q ⊢
      subst hc32
      simp only [decide_true, cond_true]
      rw [e]
      rcases q with ⟨ws, j, line', rfl, q⟩ | ⟨a, b, cc, j, line', op', rfl, q⟩
      · exact .inl ⟨ws, j, line', rfl, q⟩
      · exact .inr ⟨a, b, cc, j, line', op', rfl, q⟩
    · rw [hbc] at e q ⊢
      subst hc9
      simp only [decide_true, cond_true, show decide ((9 : UInt8) = 32) = false by decide, cond_false]
      rw [e]
      rcases q with ⟨ws, j, line', rfl, q⟩ | ⟨a, b, cc, j, line', op', rfl, q⟩
      · exact .inl ⟨ws, j, line', rfl, q⟩
      · exact .inr ⟨a, b, cc, j, line', op', rfl, q⟩
    · rw [hbc] at e q ⊢
      simp only [n32, n9, decide_false, cond_false]
      rw [e]
      rcases q with ⟨ws, j, line', rfl, q⟩ | ⟨a, b, cc, j, line', op', rfl, q⟩
      · exact .inl ⟨ws, j, line', rfl, q⟩
      · exact .inr ⟨a, b, cc, j, line', op', rfl, q⟩
theorem rw0_len (ws : List Wd) (n : Nat) (b : Bool) (out : List Ln) : (bif ltI 0 (ln (ws.map rw1)) then out.map rw0 ++ [(⟨(n : Int), b, ws.map rw1⟩ : Rw0)] else out.map rw0) = (addLn out ⟨n, b, ws⟩).map rw0 := by
  cases ws with
  | nil => rw [ltI_f (by simp [ln])]; simp [addLn]
  | cons w ws => rw [ltI_t (by unfold ln; simp only [List.map_cons, List.length_cons]; omega)]; simp [addLn, rw0]
theorem addLn_len (out : List Ln) (x : Ln) : (addLn out x).length ≤ out.length + 1 := by
  unfold addLn
  split
  · omega
  · simp
theorem master_Scan_L0_eq (N : Nat) (l : List UInt8) (hl : l.length ≤ 100000) (hN : l.length < N) : ∀ (n i line : Nat) (out : List Ln), i ≤ l.length → l.length < i + n → line ≤ i + 1 → out.length ≤ i →
    ∃ r, master_Scan_L0 N n l (out.map rw0) l (i : Int) (line : Int) false = some r ∧
      ((∃ (k : Nat), r = .a ([], (k : Int), 30) ∧ scanG (l.drop i) line false ⟨line, blkAt (l.drop i), []⟩ out = .bad k) ∨
       (∃ (res : List Ln), r = .b (res.map rw0) ∧ scanG (l.drop i) line false ⟨line, blkAt (l.drop i), []⟩ out = .ok res)) := by
  intro n
  induction n with
  | zero => intro i line out hi hn; omega
  | succ n ih =>
    intro i line out hi hn hli ho
    unfold master_Scan_L0
    rcases at_cases l i (by omega) with ⟨h0, h, h1, _⟩ | ⟨c, hc, hd, hlt, h1, _, hs⟩
    · rw [h1]
      exact ⟨_, rfl, .inr ⟨out, rfl, by rw [h0, scanG_nil, addLn_nil]; rfl⟩⟩
    · rw [h1]
      simp only [cond_true, cond_false]
      rcases entry_eq N l hl hN i line hlt hli with ⟨ws, j, line', e, ⟨q1, q2, q3, q4⟩, q5⟩ | ⟨a, b, cc, j, line', op', e, q1, q5⟩
      · rw [e, q5]
        simp only [Option.bind_some, cond_true]
        have ho2 := addLn_len out ⟨line, blkAt (l.drop i), ws⟩
        obtain ⟨r, e2, q⟩ := ih j line' (addLn out ⟨line, blkAt (l.drop i), ws⟩) (by omega) (by omega) (by omega) (by omega)
        rw [← rw0_len] at e2
        have hr : room1 (out.map rw0) 1 40 = true := room1_ok _ _ _ (by rw [List.length_map]; omega) (by rw [List.length_map]; omega)
        refine ⟨r, ?_, q⟩
        rw [hr]
        cases hw : ltI 0 (ln (ws.map rw1)) <;> rw [hw] at e2 <;> exact e2
      · rw [e, q5]
        exact ⟨_, rfl, .inl ⟨line', rfl, rfl⟩⟩
def scanOf (l : List UInt8) : Scn := scanG l 1 false ⟨1, blkAt l, []⟩ []
def outS : Scn → List Rw0 × Int × Int
  | .bad n => ([], (n : Int), 30)
  | .ok res => (res.map rw0, 0, 0)
def scanR (l : List UInt8) : List Rw0 × Int × Int := if 65536 < l.length then ([], 0, 9) else outS (scanOf l)
theorem master_Scan_eq (N : Nat) (l : List UInt8) (hN : 100000 < N) : master_Scan N l = some (scanR l) := by
  unfold master_Scan scanR
  by_cases h : 65536 < l.length
  · rw [ltI_t (by unfold ln; omega), if_pos h]; rfl
  · rw [ltI_f (by unfold ln; omega), if_neg h]
    obtain ⟨r, e, q⟩ := master_Scan_L0_eq N l (by omega) (by omega) N 0 1 [] (by omega) (by omega) (by omega) (by simp)
    have e : master_Scan_L0 N N l [] l 0 1 false = some r := e
    rw [e]
    rw [List.drop_zero] at q
    rcases q with ⟨k, rfl, q⟩ | ⟨res, rfl, q⟩
    · have : scanOf l = .bad k := q
      rw [this]; rfl
    · have : scanOf l = .ok res := q
      rw [this]; rfl
end Go.Ev
/- The reference's Scan, whole. Condition: none. -/
namespace Go.Ev
set_option linter.all false
set_option maxHeartbeats 4000000
def RefP (sc : Scn) (r : O2 (List Rw0 × Int × Int) (List Rw0 × Bool × Int × Int × Bool × List Rw1)) : Prop :=
  (∃ k : Nat, r = .a ([], (k : Int), 30) ∧ sc = .bad k) ∨
  (∃ (out' : List Ln) (op' : Bool) (n' : Nat) (x' : Ln), r = .b (out'.map rw0, op', (n' : Int), (x'.num : Int), x'.blank, x'.words.map rw1) ∧ sc = (if op' then .bad n' else .ok (addLn out' x')) ∧ out'.length ≤ 100000)
theorem r09_Scan_L2_eq (N : Nat) (l : List UInt8) (hl : l.length ≤ 100000) (hN : l.length < N) : ∀ (n i line : Nat) (op : Bool) (x : Ln) (out : List Ln), i ≤ l.length → l.length < i + n → line ≤ i + 1 → out.length ≤ i → x.words.length ≤ i →
    ∃ r, r09_Scan_L2 N n l (out.map rw0) op (line : Int) (i : Int) (x.num : Int) x.blank (x.words.map rw1) = some r ∧ RefP (scanG (l.drop i) line op x out) r := by
  intro n
  induction n with
  | zero => intro i line op x out hi hn; omega
  | succ n ih =>
    intro i line op x out hi hn hli ho hx
    obtain ⟨num, b, ws⟩ := x
    simp only at hx ⊢
    unfold r09_Scan_L2
    rcases at_cases l i (by omega) with ⟨h0, h, h1, _⟩ | ⟨c, hc, hd, hlt, h1, _, hs⟩
    · rw [h1]
      refine ⟨_, rfl, .inr ⟨out, op, line, ⟨num, b, ws⟩, rfl, ?_, by omega⟩⟩
      rw [h0, scanG_nil]
    · rw [h1]
      have hb : blkAt (l.drop i) = blk c := by rw [hd]; rfl
      have hr : room1 (ws.map rw1) 1 24 = true := room1_ok _ _ _ (by rw [List.length_map]; omega) (by rw [List.length_map]; omega)
      have hr2 : room1 (out.map rw0) 1 40 = true := room1_ok _ _ _ (by rw [List.length_map]; omega) (by rw [List.length_map]; omega)
      simp only [Nat.reduceLT, atI_n, hc, Option.bind_some, cond_true, eqI_bv, r09_plain_eq, hs, addI_n1 line (by omega), r09_blank_eq N l i hl, r09_blank_eq N l (i + 1) hl, hb,
        r09_Scan_L1_eq N l hl _ _ _ _ _ _ N i hi (by omega), r09_Scan_L0_eq N l hl _ _ _ _ _ _ _ N i hi (by omega), cut_tw pln l i hi, hr, hr2]
      by_cases c10 : c = 10
      · subst c10
        cases op with
        | true =>
          obtain ⟨r, e, q⟩ := ih (i + 1) (line + 1) true ⟨num, b, ws⟩ out (by omega) (by omega) (by omega) (by omega) (by simp only; omega)
          exact ⟨r, e, by rw [hd, scanG_cons]; exact q⟩
        | false =>
          have ho2 := addLn_len out ⟨num, b, ws⟩
          obtain ⟨r, e, q⟩ := ih (i + 1) (line + 1) false ⟨line + 1, blkAt (l.drop (i + 1)), []⟩ (addLn out ⟨num, b, ws⟩) (by omega) (by omega) (by omega) (by omega) (by simp)
          refine ⟨r, ?_, by rw [hd, scanG_cons]; exact q⟩
          rw [← rw0_len] at e
          simp only [decide_true, cond_true, cond_false]
          cases hw : ltI 0 (ln (ws.map rw1)) <;> rw [hw] at e <;> exact e
      simp only [c10, decide_false, cond_false]
      cases hbc : blk c with
      | true =>
        obtain ⟨r, e, q⟩ := ih (i + 1) line op ⟨num, b, ws⟩ out (by omega) (by omega) (by omega) (by omega) (by simp only; omega)
        exact ⟨r, e, by rw [hd, scanG_cons, if_neg c10, if_pos hbc]; exact q⟩
      | false =>
      simp only [cond_false]
      by_cases c59 : c = 59
      · subst c59
        have tw := tw_cons (fun b => decide (b ≠ 10)) 59 (l.drop (i + 1))
        have hle := tw_le (fun b : UInt8 => decide (b ≠ 10)) (l.drop i)
        rw [List.length_drop] at hle
        have hp : 0 < ((l.drop i).takeWhile (fun b : UInt8 => decide (b ≠ 10))).length := by rw [hd, tw]; simp
        obtain ⟨r, e, q⟩ := ih (i + ((l.drop i).takeWhile (fun b : UInt8 => decide (b ≠ 10))).length) line op ⟨num, b, ws⟩ out (by omega) (by omega) (by omega) (by omega) (by simp only; omega)
        refine ⟨r, e, ?_⟩
        rw [← List.drop_drop, drop_tw, hd, List.dropWhile_cons] at q
        rw [hd, scanG_cons]
        simpa [blk] using q
      simp only [c59, decide_false, cond_false]
      by_cases c40 : c = 40 ∧ op = false
      · obtain ⟨rfl, rfl⟩ := c40
        obtain ⟨r, e, q⟩ := ih (i + 1) line true ⟨num, b, ws⟩ out (by omega) (by omega) (by omega) (by omega) (by simp only; omega)
        exact ⟨r, e, by rw [hd, scanG_cons]; simpa [blk] using q⟩
      by_cases c41 : c = 41 ∧ op = true
      · obtain ⟨rfl, rfl⟩ := c41
        obtain ⟨r, e, q⟩ := ih (i + 1) line false ⟨num, b, ws⟩ out (by omega) (by omega) (by omega) (by omega) (by simp only; omega)
        exact ⟨r, e, by rw [hd, scanG_cons]; simpa [blk] using q⟩
      by_cases c34 : c = 34
      · subst c34
        have hsc : scanG (l.drop i) line op ⟨num, b, ws⟩ out = (match quoAt l i with | none => .bad line | some (w, r) => scanG r line op ⟨num, b, ws ++ [⟨w, true⟩]⟩ out) := by
          rw [hd, scanG_cons]; simp [blk, quoAt]
          try rfl
        rcases r09_quoted_eq N l hl hN i hlt with ⟨o, j, q1, q2, q3, q4⟩ | ⟨q1, q4⟩
        · obtain ⟨r, e, q⟩ := ih j line op ⟨num, b, ws ++ [⟨o, true⟩]⟩ out (by omega) (by omega) (by omega) (by omega) (by simp only [List.length_append, List.length_singleton]; omega)
          refine ⟨r, ?_, by rw [hsc, q1]; exact q⟩
          simp only [← map_snoc] at e
          cases op <;> simp [q4, e]
        · refine ⟨.a ([], (line : Int), 30), ?_, .inl ⟨line, rfl, by rw [hsc, q1]⟩⟩
          cases op <;> simp [q4]
      have hsc : scanG (l.drop i) line op ⟨num, b, ws⟩ out = if pln c = true then scanG ((l.drop (i + 1)).dropWhile pln) line op ⟨num, b, ws ++ [⟨c :: (l.drop (i + 1)).takeWhile pln, false⟩]⟩ out else .bad line := by
        rw [hd, scanG_cons, if_neg c10, if_neg (by rw [hbc]; simp), if_neg c59, if_neg c40, if_neg c41, if_neg c34]
      cases hp : pln c with
      | false =>
        refine ⟨.a ([], (line : Int), 30), ?_, .inl ⟨line, rfl, by rw [hsc, hp]; rfl⟩⟩
        by_cases d40 : c = 40
        · cases op with
          | false => exact absurd ⟨d40, rfl⟩ c40
          | true => subst d40; rfl
        by_cases d41 : c = 41
        · cases op with
          | true => exact absurd ⟨d41, rfl⟩ c41
          | false => subst d41; rfl
        simp only [d40, d41, c34, decide_false, cond_false]
      | true =>
        have d40 : c ≠ 40 := by intro e; subst e; revert hp; decide
        have d41 : c ≠ 41 := by intro e; subst e; revert hp; decide
        have hle := tw_le pln (l.drop i)
        rw [List.length_drop] at hle
        have hpos : 0 < ((l.drop i).takeWhile pln).length := by rw [hd, tw_cons, hp]; simp
        obtain ⟨r, e, q⟩ := ih (i + ((l.drop i).takeWhile pln).length) line op ⟨num, b, ws ++ [⟨(l.drop i).takeWhile pln, false⟩]⟩ out (by omega) (by omega) (by omega) (by omega) (by simp only [List.length_append, List.length_singleton]; omega)
        refine ⟨r, ?_, ?_⟩
        · simp only [← map_snoc] at e
          simp only [d40, d41, c34, decide_false, cond_false, cond_true]
          exact e
        · have hdd : l.drop (i + ((l.drop i).takeWhile pln).length) = (l.drop i).dropWhile pln := by rw [← List.drop_drop, drop_tw]
          rw [hdd, hd, List.dropWhile_cons, List.takeWhile_cons, hp] at q
          rw [hsc, hp, if_pos rfl]
          simpa using q
theorem r09_Scan_eq (N : Nat) (l : List UInt8) (hN : 100000 < N) : r09_Scan N l = some (scanR l) := by
  unfold r09_Scan scanR
  by_cases h : 65536 < l.length
  · rw [ltI_t (by unfold ln; omega), if_pos h]; rfl
  · rw [ltI_f (by unfold ln; omega), if_neg h]
    obtain ⟨r, e, q⟩ := r09_Scan_L2_eq N l (by omega) (by omega) N 0 1 false ⟨1, blkAt l, []⟩ [] (by omega) (by omega) (by omega) (by simp) (by simp)
    have e : r09_Scan_L2 N N l [] false 1 0 1 (blkAt l) [] = some r := e
    have hb : r09_blank N l 0 = some (blkAt l) := r09_blank_eq N l 0 (by omega)
    simp only [cond_false, hb, Option.bind_some]
    rw [e]
    rw [List.drop_zero] at q
    have hs : scanG l 1 false ⟨1, blkAt l, []⟩ [] = scanOf l := rfl
    rw [hs] at q
    rcases q with ⟨k, rfl, q⟩ | ⟨out', op', n', ⟨num, b, ws⟩, rfl, q, ho⟩
    · rw [q]; rfl
    · rw [q]
      cases op' with
      | true => rfl
      | false =>
        have hr2 : room1 (out'.map rw0) 1 40 = true := room1_ok _ _ _ (by rw [List.length_map]; omega) (by rw [List.length_map]; omega)
        have := rw0_len ws num b out'
        simp only [Option.bind_some, O2.el, cond_false, hr2, cond_true, outS, Bool.false_eq_true, if_false, ← this]
        cases ltI 0 (ln (ws.map rw1)) <;> rfl
end Go.Ev
/- What holds of the entries of a text; texts one behind the other. Condition: none. -/
namespace Go.Ev
set_option linter.all false
set_option maxHeartbeats 4000000
def fdN (l : List UInt8) : Nat := l.count 10
theorem fdN_le (l : List UInt8) : fdN l ≤ l.length := List.count_le_length
theorem fdN_cons10 (t : List UInt8) : fdN (10 :: t) = fdN t + 1 := List.count_cons_self
theorem fdN_cons (c : UInt8) (t : List UInt8) (h : c ≠ 10) : fdN (c :: t) = fdN t := by
  unfold fdN
  rw [List.count_cons]
  simp [h]
theorem fdN_suf {r t : List UInt8} (h : r <:+ t) : fdN r ≤ fdN t := h.sublist.count_le 10
theorem fdN_run (p : UInt8 → Bool) (hp : p 10 = false) : ∀ t : List UInt8, fdN (t.dropWhile p) = fdN t
  | [] => rfl
  | c :: t => by
    rw [List.dropWhile_cons]
    split
    · rename_i h
      have : c ≠ 10 := by intro e; subst e; rw [hp] at h; cases h
      rw [fdN_cons c t this, fdN_run p hp t]
    · rfl
/-- The state at a text's end. -/
inductive Run where
  | st (n : Nat) (op : Bool) (x : Ln) (out : List Ln)
  | bad (n : Nat)
def runL : Nat → List UInt8 → Nat → Bool → Ln → List Ln → Run
  | _, [], n, op, x, out => .st n op x out
  | 0, _ :: _, n, op, x, out => .bad n
  | k + 1, c :: t, n, op, x, out =>
    if c = 10 then (if op then runL k t (n + 1) op x out else runL k t (n + 1) op ⟨n + 1, blkAt t, []⟩ (addLn out x)) else
    if blk c = true then runL k t n op x out else
    if c = 59 then runL k (t.dropWhile (· ≠ 10)) n op x out else
    if c = 40 ∧ op = false then runL k t n true x out else
    if c = 41 ∧ op = true then runL k t n false x out else
    if c = 34 then (match quoL t.length.succ [] t with | none => .bad n | some (w, r) => runL k r n op { x with words := x.words ++ [⟨w, true⟩] } out) else
    if pln c = true then runL k (t.dropWhile pln) n op { x with words := x.words ++ [⟨c :: t.takeWhile pln, false⟩] } out else .bad n
def fin : Run → Scn
  | .bad n => .bad n
  | .st n op x out => if op then .bad n else .ok (addLn out x)
theorem scanL_fin : ∀ (k : Nat) (l : List UInt8) (n : Nat) (op : Bool) (x : Ln) (out : List Ln), scanL k l n op x out = fin (runL k l n op x out)
  | k, [], n, op, x, out => by cases k <;> rfl
  | 0, c :: t, n, op, x, out => rfl
  | k + 1, c :: t, n, op, x, out => by
    simp only [scanL, runL, scanL_fin k]
    generalize quoL t.length.succ [] t = q
    cases q <;> (repeat' split) <;> simp_all [fin]
theorem quoL_suf : ∀ (k : Nat) (out l o r : List UInt8), quoL k out l = some (o, r) → r <:+ l
  | 0, out, l, o, r, h => by cases h
  | k + 1, out, [], o, r, h => by cases h
  | k + 1, out, c :: t, o, r, h => by
    rw [quoL_cons] at h
    split at h
    · cases h; exact List.suffix_cons _ _
    · split at h
      · split at h
        · cases h
        · exact ((quoL_suf k _ _ o r h).trans (List.drop_suffix _ _)).trans (List.suffix_cons _ _)
      · split at h
        · exact (quoL_suf k _ _ o r h).trans (List.suffix_cons _ _)
        · cases h
theorem escL_no10 {t : List UInt8} {b : UInt8} {k : Nat} (h : escL t = some (b, k)) : fdN (t.drop k) = fdN t := by
  cases t with
  | nil => cases h
  | cons a r =>
    have d10 : ∀ c : UInt8, dg c = true → c ≠ 10 := by intro c hc e; subst e; revert hc; decide
    rw [escL_cons] at h
    split at h
    · rename_i ha
      split at h
      · rename_i b' c' r'
        split at h
        · rename_i hh
          cases h
          rw [fdN_cons _ _ (d10 a ha), fdN_cons _ _ (d10 b' hh.1), fdN_cons _ _ (d10 c' hh.2.1)]
          rfl
        · cases h
      · cases h
    · split at h
      · rename_i hh
        cases h
        rw [fdN_cons _ _ (by intro e; subst e; revert hh; decide)]
        rfl
      · cases h
theorem quoL_no10 : ∀ (k : Nat) (out l o r : List UInt8), quoL k out l = some (o, r) → fdN r = fdN l
  | 0, out, l, o, r, h => by cases h
  | k + 1, out, [], o, r, h => by cases h
  | k + 1, out, c :: t, o, r, h => by
    rw [quoL_cons] at h
    split at h
    · rename_i h1
      subst h1
      cases h
      rw [fdN_cons _ _ (by decide)]
    · split at h
      · rename_i h1
        subst h1
        split at h
        · cases h
        · rename_i b n he
          rw [quoL_no10 k _ _ o r h, escL_no10 he, fdN_cons _ _ (by decide)]
      · split at h
        · rename_i hh
          rw [quoL_no10 k _ _ o r h, fdN_cons _ _ (by intro e; subst e; revert hh; decide)]
        · cases h
/-- The lines are counted. -/
def NumP (lo hi : Nat) : Run → Prop
  | .bad m => lo ≤ m ∧ m ≤ hi
  | .st m _ _ _ => m = hi
theorem NumP.mono {lo hi lo' hi' : Nat} {r : Run} (h : NumP lo' hi' r) (h1 : lo ≤ lo') (h2 : hi' = hi) : NumP lo hi r := by
  cases r with
  | bad m => exact ⟨by have := h.1; omega, by have := h.2; omega⟩
  | st m _ _ _ => exact (show m = hi' from h).trans h2
theorem runL_num : ∀ (k : Nat) (l : List UInt8) (n : Nat) (op : Bool) (x : Ln) (out : List Ln), NumP n (n + fdN l) (runL k l n op x out)
  | k, [], n, op, x, out => by cases k <;> rfl
  | 0, c :: t, n, op, x, out => ⟨Nat.le_refl _, by omega⟩
  | k + 1, c :: t, n, op, x, out => by
    by_cases c10 : c = 10
    · subst c10
      simp only [runL, if_true]
      rw [fdN_cons10]
      cases op
      · exact (runL_num k _ _ _ _ _).mono (by omega) (by omega)
      · exact (runL_num k _ _ _ _ _).mono (by omega) (by omega)
    · simp only [runL, if_neg c10]
      rw [fdN_cons c t c10]
      split
      · exact runL_num k _ _ _ _ _
      · split
        · exact (runL_num k _ _ _ _ _).mono (Nat.le_refl _) (by rw [fdN_run _ (by decide)])
        · split
          · exact runL_num k _ _ _ _ _
          · split
            · exact runL_num k _ _ _ _ _
            · split
              · split
                · exact ⟨Nat.le_refl _, by omega⟩
                · rename_i hq
                  exact (runL_num k _ _ _ _ _).mono (Nat.le_refl _) (by rw [quoL_no10 _ _ _ _ _ hq])
              · split
                · exact (runL_num k _ _ _ _ _).mono (Nat.le_refl _) (by rw [fdN_run _ (by decide)])
                · exact ⟨Nat.le_refl _, by omega⟩
/-- Entries that are entries. -/
def GoodX (x : Ln) : Prop := ∀ w ∈ x.words, w.q = false → w.text ≠ []
def GoodL (hi : Nat) (out : List Ln) : Prop := out.Pairwise (fun a b => a.num < b.num) ∧ ∀ y ∈ out, 1 ≤ y.num ∧ y.num < hi ∧ y.words ≠ [] ∧ GoodX y
theorem GoodL.add {x : Ln} {out : List Ln} {n : Nat} (h : GoodL x.num out) (hx : GoodX x) (h1 : 1 ≤ x.num) (h2 : x.num < n) : GoodL n (addLn out x) := by
  unfold addLn
  split
  · exact ⟨h.1, fun y hy => ⟨(h.2 y hy).1, by have := (h.2 y hy).2.1; omega, (h.2 y hy).2.2⟩⟩
  · rename_i hw
    refine ⟨List.pairwise_append.2 ⟨h.1, List.pairwise_singleton _ _, fun a ha b hb => ?_⟩, fun y hy => ?_⟩
    · rw [List.mem_singleton.1 hb]
      exact (h.2 a ha).2.1
    · rcases List.mem_append.1 hy with hy | hy
      · exact ⟨(h.2 y hy).1, by have := (h.2 y hy).2.1; omega, (h.2 y hy).2.2⟩
      · rw [List.mem_singleton.1 hy]
        exact ⟨h1, h2, hw, hx⟩
def GoodR : Run → Prop
  | .bad _ => True
  | .st n _ x out => GoodL x.num out ∧ GoodX x ∧ 1 ≤ x.num ∧ x.num ≤ n
theorem GoodX.snoc {num : Nat} {b : Bool} {ws : List Wd} {w : Wd} (h : GoodX ⟨num, b, ws⟩) (hw : w.q = false → w.text ≠ []) : GoodX ⟨num, b, ws ++ [w]⟩ := by
  intro v hv
  rcases List.mem_append.1 hv with hv | hv
  · exact h v hv
  · rw [List.mem_singleton.1 hv]; exact hw
theorem runL_good : ∀ (k : Nat) (l : List UInt8) (n : Nat) (op : Bool) (x : Ln) (out : List Ln), GoodL x.num out → GoodX x → 1 ≤ x.num → x.num ≤ n → GoodR (runL k l n op x out)
  | k, [], n, op, x, out, h, hx, h1, h2 => by cases k <;> exact ⟨h, hx, h1, h2⟩
  | 0, c :: t, n, op, x, out, h, hx, h1, h2 => trivial
  | k + 1, c :: t, n, op, ⟨num, b, ws⟩, out, h, hx, h1, h2 => by
    have h2 : num ≤ n := h2
    simp only [runL]
    repeat' split
    all_goals first
      | exact trivial
      | exact runL_good k _ _ _ _ _ h hx h1 (show num ≤ n + 1 by omega)
      | exact runL_good k _ _ _ _ _ h hx h1 h2
      | exact runL_good k _ _ _ _ _ (h.add hx h1 (show num < n + 1 by omega)) (fun w hw => by cases hw) (show 1 ≤ n + 1 by omega) (show n + 1 ≤ n + 1 by omega)
      | exact runL_good k _ _ _ _ _ h (hx.snoc fun e => Bool.noConfusion e) h1 h2
      | exact runL_good k _ _ _ _ _ h (hx.snoc fun _ => List.cons_ne_nil _ _) h1 h2
end Go.Ev
/- Texts one behind the other. Condition: none. -/
namespace Go.Ev
set_option linter.all false
set_option maxHeartbeats 4000000
/-- It ends with a line feed. -/
def EndN (t : List UInt8) : Prop := ∃ s, t = s ++ [10]
theorem EndN.tail {c : UInt8} {t : List UInt8} (h : EndN (c :: t)) (hc : c ≠ 10) : EndN t := by
  obtain ⟨s, hs⟩ := h
  cases s with
  | nil => simp at hs; exact absurd hs.1 hc
  | cons a s => simp at hs; exact ⟨s, hs.2⟩
theorem EndN.tail10 {t : List UInt8} (h : EndN (10 :: t)) : t = [] ∨ EndN t := by
  obtain ⟨s, hs⟩ := h
  cases s with
  | nil => simp at hs; exact .inl hs
  | cons a s => simp at hs; exact .inr ⟨s, hs.2⟩
theorem EndN.mem {t : List UInt8} (h : EndN t) : 10 ∈ t := by
  obtain ⟨s, rfl⟩ := h
  simp
theorem EndN.ne {t : List UInt8} (h : EndN t) : t ≠ [] := by
  obtain ⟨s, rfl⟩ := h
  simp
theorem EndN.suf {r t : List UInt8} (h : EndN t) (hr : r <:+ t) (hn : r ≠ []) : EndN r := by
  obtain ⟨s, rfl⟩ := h
  obtain ⟨p, hp⟩ := hr
  refine ⟨r.dropLast, ?_⟩
  have e := List.dropLast_concat_getLast hn
  rw [← e, ← List.append_assoc] at hp
  have := (List.append_inj' hp rfl).2
  rw [← this]
  exact e.symm
theorem dw_app (p : UInt8 → Bool) (hp : p 10 = false) (l2 : List UInt8) : ∀ t : List UInt8, 10 ∈ t → (t ++ l2).dropWhile p = t.dropWhile p ++ l2 ∧ (t ++ l2).takeWhile p = t.takeWhile p ∧ t.dropWhile p ≠ []
  | [], h => by cases h
  | c :: t, h => by
    rw [List.cons_append, List.dropWhile_cons, List.dropWhile_cons, List.takeWhile_cons, List.takeWhile_cons]
    cases hc : p c with
    | false => simp
    | true =>
      have : 10 ∈ t := by
        rcases List.mem_cons.1 h with e | h
        · subst e; rw [hp] at hc; cases hc
        · exact h
      obtain ⟨h1, h2, h3⟩ := dw_app p hp l2 t this
      simp [h1, h2, h3]
theorem esc_app (l2 : List UInt8) {t : List UInt8} (h : EndN t) : escL (t ++ l2) = escL t := by
  have d10 : dg 10 = false := by decide
  cases t with
  | nil => exact absurd rfl h.ne
  | cons a r =>
    rw [List.cons_append, escL_cons, escL_cons]
    cases hd : dg a with
    | false => rfl
    | true =>
      have ha : a ≠ 10 := by intro e; subst e; rw [d10] at hd; cases hd
      have hr := h.tail ha
      match r, hr with
      | [], hr => exact absurd rfl hr.ne
      | [b], hr =>
        obtain ⟨s, hs⟩ := hr
        have : b = 10 := by
          cases s with
          | nil => simp at hs; exact hs
          | cons x s => simp at hs
        subst this
        cases l2 with
        | nil => rfl
        | cons x l2 => simp [d10]
      | b :: c :: r', hr => rfl
theorem quo_app (l2 : List UInt8) : ∀ (k : Nat) (out t : List UInt8), EndN t → quoL k out (t ++ l2) = (quoL k out t).map (fun x => (x.1, x.2 ++ l2)) ∧ ∀ o r, quoL k out t = some (o, r) → EndN r
  | 0, out, t, h => ⟨rfl, fun _ _ h => by cases h⟩
  | k + 1, out, [], h => absurd rfl h.ne
  | k + 1, out, c :: t, h => by
    rw [List.cons_append, quoL_cons, quoL_cons]
    by_cases c34 : c = 34
    · rw [if_pos c34, if_pos c34]
      exact ⟨rfl, fun o r he => by cases he; exact h.tail (by rw [c34]; decide)⟩
    rw [if_neg c34, if_neg c34]
    by_cases c92 : c = 92
    · rw [if_pos c92, if_pos c92]
      have ht := h.tail (by rw [c92]; decide)
      rw [esc_app l2 ht]
      cases he : escL t with
      | none => exact ⟨rfl, fun _ _ h => by cases h⟩
      | some x =>
        obtain ⟨b, n⟩ := x
        have hp := escL_pos he
        have hd : (t ++ l2).drop n = t.drop n ++ l2 := List.drop_append_of_le_length hp.2
        have hn : EndN (t.drop n) := ht.suf (List.drop_suffix _ _) (fun e => by
          have h1 := escL_no10 he
          rw [e] at h1
          have : 0 < t.count 10 := List.count_pos_iff.2 ht.mem
          unfold fdN at h1
          simp at h1
          omega)
        simp only [hd]
        exact quo_app l2 k _ _ hn
    rw [if_neg c92, if_neg c92]
    by_cases hc : 32 ≤ c.toNat ∧ c.toNat ≤ 126
    · rw [if_pos hc, if_pos hc]
      exact quo_app l2 k _ _ (h.tail (by intro e; subst e; revert hc; decide))
    · rw [if_neg hc, if_neg hc]
      exact ⟨rfl, fun _ _ h => by cases h⟩
def CatP (l2 : List UInt8) (sc : Scn) : Run → Prop
  | .bad m => sc = .bad m
  | .st m op' x' out' => sc = scanG l2 m op' (if op' then x' else ⟨m, blkAt l2, []⟩) out' ∧ (op' = false → x'.words = [])
theorem blkAt_app {t : List UInt8} (h : t ≠ []) (l2 : List UInt8) : blkAt (t ++ l2) = blkAt t := by
  cases t with
  | nil => exact absurd rfl h
  | cons c t => rfl
theorem scan_cat (l2 : List UInt8) : ∀ (k : Nat) (t : List UInt8) (n : Nat) (op : Bool) (x : Ln) (out : List Ln), t.length ≤ k → EndN t → CatP l2 (scanG (t ++ l2) n op x out) (runL k t n op x out)
  | k, [], n, op, x, out, hk, h => absurd rfl h.ne
  | 0, c :: t, n, op, x, out, hk, h => by simp at hk
  | k + 1, c :: t, n, op, x, out, hk, h => by
    simp only [List.length_cons] at hk
    have hk : t.length ≤ k := by omega
    rw [List.cons_append, scanG_cons]
    simp only [runL]
    by_cases c10 : c = 10
    · subst c10
      simp only [if_true]
      rcases h.tail10 with e | ht
      · subst e
        cases op with
        | true => cases k <;> exact ⟨rfl, fun h => by cases h⟩
        | false => cases k <;> exact ⟨rfl, fun _ => rfl⟩
      · cases op with
        | true => exact scan_cat l2 k t (n + 1) true x out hk ht
        | false =>
          simp only [Bool.false_eq_true, if_false]
          rw [blkAt_app ht.ne]
          exact scan_cat l2 k t (n + 1) false _ _ hk ht
    have ht := h.tail c10
    rw [if_neg c10, if_neg c10]
    by_cases hb : blk c = true
    · rw [if_pos hb, if_pos hb]
      exact scan_cat l2 k t n op x out hk ht
    rw [if_neg hb, if_neg hb]
    by_cases c59 : c = 59
    · rw [if_pos c59, if_pos c59]
      obtain ⟨q1, _, q3⟩ := dw_app (fun b => decide (b ≠ 10)) (by decide) l2 t ht.mem
      rw [q1]
      exact scan_cat l2 k _ n op x out (Nat.le_trans (List.dropWhile_sublist _).length_le hk) (ht.suf (List.dropWhile_suffix _) q3)
    rw [if_neg c59, if_neg c59]
    by_cases c40 : c = 40 ∧ op = false
    · rw [if_pos c40, if_pos c40]
      exact scan_cat l2 k t n true x out hk ht
    rw [if_neg c40, if_neg c40]
    by_cases c41 : c = 41 ∧ op = true
    · rw [if_pos c41, if_pos c41]
      exact scan_cat l2 k t n false x out hk ht
    rw [if_neg c41, if_neg c41]
    by_cases c34 : c = 34
    · rw [if_pos c34, if_pos c34]
      obtain ⟨q1, q2⟩ := quo_app l2 t.length.succ [] t ht
      have e : quoL (t ++ l2).length.succ [] (t ++ l2) = quoL t.length.succ [] (t ++ l2) ∨ True := .inr trivial
      cases hq : quoL t.length.succ [] t with
      | none =>
        rw [hq] at q1
        have : quoL (t ++ l2).length.succ [] (t ++ l2) = none := by
          have := (quo_app l2 (t ++ l2).length.succ [] t ht).1
          rw [this, quoL_mono t.length.succ (t ++ l2).length.succ [] t (Nat.lt_succ_self _) (by rw [List.length_append]; omega), hq]
          rfl
        rw [this]
        rfl
      | some x2 =>
        obtain ⟨w, r⟩ := x2
        have : quoL (t ++ l2).length.succ [] (t ++ l2) = some (w, r ++ l2) := by
          have := (quo_app l2 (t ++ l2).length.succ [] t ht).1
          rw [this, quoL_mono t.length.succ (t ++ l2).length.succ [] t (Nat.lt_succ_self _) (by rw [List.length_append]; omega), hq]
          rfl
        rw [this]
        exact scan_cat l2 k r n op _ out (by have := quoL_len _ _ _ _ _ hq; omega) (q2 w r hq)
    rw [if_neg c34, if_neg c34]
    by_cases hp : pln c = true
    · rw [if_pos hp, if_pos hp]
      obtain ⟨q1, q2, q3⟩ := dw_app pln (by decide) l2 t ht.mem
      rw [q1, q2]
      exact scan_cat l2 k _ n op _ out (Nat.le_trans (List.dropWhile_sublist _).length_le hk) (ht.suf (List.dropWhile_suffix _) q3)
    · rw [if_neg hp, if_neg hp]
      rfl
/-! ### Lines that are counted from another number -/
def shX (d : Nat) (x : Ln) : Ln := ⟨x.num + d, x.blank, x.words⟩
def shS (d : Nat) (pre : List Ln) : Scn → Scn
  | .bad m => .bad (m + d)
  | .ok res => .ok (pre ++ res.map (shX d))
theorem addLn_sh (d : Nat) (pre out : List Ln) (x : Ln) : addLn (pre ++ out.map (shX d)) (shX d x) = pre ++ (addLn out x).map (shX d) := by
  unfold addLn
  by_cases h : x.words = []
  · rw [if_pos h, if_pos (show (shX d x).words = [] from h)]
  · rw [if_neg h, if_neg (show ¬ (shX d x).words = [] from h)]
    simp
theorem scan_sh (d : Nat) (pre : List Ln) : ∀ (k : Nat) (l : List UInt8) (n : Nat) (op : Bool) (x : Ln) (out : List Ln), scanL k l (n + d) op (shX d x) (pre ++ out.map (shX d)) = shS d pre (scanL k l n op x out)
  | k, [], n, op, x, out => by
    have h := addLn_sh d pre out x
    cases k <;> (simp only [scanL]; cases op <;> simp [shS, h])
  | 0, c :: t, n, op, x, out => rfl
  | k + 1, c :: t, n, op, x, out => by
    have h1 : scanL k t (n + d + 1) true (shX d x) (pre ++ out.map (shX d)) = shS d pre (scanL k t (n + 1) true x out) := by
      rw [show n + d + 1 = n + 1 + d by omega]; exact scan_sh d pre k t (n + 1) true x out
    have h2 : scanL k t (n + d + 1) false ⟨n + d + 1, blkAt t, []⟩ (addLn (pre ++ out.map (shX d)) (shX d x)) = shS d pre (scanL k t (n + 1) false ⟨n + 1, blkAt t, []⟩ (addLn out x)) := by
      rw [addLn_sh, show n + d + 1 = n + 1 + d by omega]; exact scan_sh d pre k t (n + 1) false ⟨n + 1, blkAt t, []⟩ (addLn out x)
    have h3 : ∀ (l : List UInt8) (op : Bool) (w : Wd), scanL k l (n + d) op { shX d x with words := (shX d x).words ++ [w] } (pre ++ out.map (shX d)) = shS d pre (scanL k l n op { x with words := x.words ++ [w] } out) := fun l op w => scan_sh d pre k l n op { x with words := x.words ++ [w] } out
    have h4 : ∀ (l : List UInt8) (op : Bool), scanL k l (n + d) op (shX d x) (pre ++ out.map (shX d)) = shS d pre (scanL k l n op x out) := fun l op => scan_sh d pre k l n op x out
    simp only [scanL]
    generalize quoL t.length.succ [] t = q
    cases op <;> cases q <;> simp only [h1, h2, h3, h4, Bool.false_eq_true, if_true, if_false] <;> (repeat' split) <;> rfl
end Go.Ev
/- The laws of Scan: MasterScans, MasterLines, MasterJoined. Condition: none. -/
namespace Go.Ev
set_option linter.all false
set_option maxHeartbeats 4000000
theorem w09_feeds_L0_eq (N : Nat) (l : List UInt8) (hl : l.length ≤ 140737488355328) : ∀ (n k i : Nat), i ≤ l.length → l.length < i + n → k ≤ i → w09_feeds_L0 N n l (k : Int) (i : Int) = some ((k + fdN (l.drop i) : Nat) : Int)
  | 0, k, i, hi, hn, hk => by omega
  | n + 1, k, i, hi, hn, hk => by
    unfold w09_feeds_L0
    rcases at_cases l i (by omega) with ⟨h0, h, h1, _⟩ | ⟨c, hc, hd, hlt, h1, _, hs⟩
    · rw [h0, h1]; rfl
    · rw [h1, hd, hs]
      simp only [Nat.reduceLT, atI_n, hc, Option.bind_some, cond_true, eqI_bv, addI_n1 k (by omega)]
      by_cases c10 : c = 10
      · subst c10
        simp only [decide_true, cond_true]
        rw [w09_feeds_L0_eq N l hl n (k + 1) (i + 1) (by omega) (by omega) (by omega), fdN_cons10]
        congr 2; omega
      · simp only [c10, decide_false, cond_false]
        rw [w09_feeds_L0_eq N l hl n k (i + 1) (by omega) (by omega) (by omega), fdN_cons c _ c10]
theorem w09_feeds_eq (N : Nat) (l : List UInt8) (hl : l.length ≤ 140737488355328) (hN : l.length < N) : w09_feeds N l = some (fdN l : Int) := by
  unfold w09_feeds
  have := w09_feeds_L0_eq N l hl N 0 0 (by omega) (by omega) (by omega)
  rw [List.drop_zero, Nat.zero_add] at this
  have this : w09_feeds_L0 N N l 0 0 = some (fdN l : Int) := this
  rw [this]; rfl
/-! ### Bounds -/
theorem inc_len : ∀ (out : List Ln) (lo hi : Nat), out.Pairwise (fun a b => a.num < b.num) → (∀ y ∈ out, lo ≤ y.num ∧ y.num < hi) → out.length ≤ hi - lo
  | [], lo, hi, _, _ => Nat.zero_le _
  | x :: out, lo, hi, h, hb => by
    rw [List.pairwise_cons] at h
    have hx := hb x (List.mem_cons_self ..)
    have := inc_len out (x.num + 1) hi h.2 fun y hy => ⟨h.1 y hy, (hb y (List.mem_cons_of_mem _ hy)).2⟩
    simp only [List.length_cons]
    omega
def WdsR (M : Nat) : Run → Prop
  | .bad _ => True
  | .st _ _ x out => x.words.length ≤ M ∧ ∀ y ∈ out, y.words.length ≤ M
theorem addLn_mem {M : Nat} {out : List Ln} {x : Ln} (h : ∀ y ∈ out, y.words.length ≤ M) (hx : x.words.length ≤ M) : ∀ y ∈ addLn out x, y.words.length ≤ M := by
  unfold addLn
  split
  · exact h
  · intro y hy
    rcases List.mem_append.1 hy with hy | hy
    · exact h y hy
    · rw [List.mem_singleton.1 hy]; exact hx
theorem runL_words (M : Nat) : ∀ (k : Nat) (l : List UInt8) (n : Nat) (op : Bool) (x : Ln) (out : List Ln), (∀ y ∈ out, y.words.length ≤ M) → x.words.length + l.length ≤ M → WdsR M (runL k l n op x out)
  | k, [], n, op, x, out, h, hx => by cases k <;> exact ⟨by simpa using hx, h⟩
  | 0, c :: t, n, op, x, out, h, hx => trivial
  | k + 1, c :: t, n, op, ⟨num, b, ws⟩, out, h, hx => by
    simp only [List.length_cons] at hx
    have h1 := (List.dropWhile_sublist (l := t) (fun b : UInt8 => decide (b ≠ 10))).length_le
    have h2 := (List.dropWhile_sublist (l := t) pln).length_le
    simp only [runL]
    by_cases c10 : c = 10
    · rw [if_pos c10]
      cases op
      · exact runL_words M k _ _ _ _ _ (addLn_mem h (by simp only; omega)) (by simp; omega)
      · exact runL_words M k _ _ _ _ _ h (by simp only; omega)
    rw [if_neg c10]
    split
    · exact runL_words M k _ _ _ _ _ h (by simp only; omega)
    split
    · exact runL_words M k _ _ _ _ _ h (by simp only; omega)
    split
    · exact runL_words M k _ _ _ _ _ h (by simp only; omega)
    split
    · exact runL_words M k _ _ _ _ _ h (by simp only; omega)
    split
    · split
      · trivial
      · rename_i hq
        have := quoL_len _ _ _ _ _ hq
        exact runL_words M k _ _ _ _ _ h (by simp only [List.length_append, List.length_singleton]; omega)
    split
    · exact runL_words M k _ _ _ _ _ h (by simp only [List.length_append, List.length_singleton]; omega)
    · trivial
/-- What is known of a result. -/
def GoodS (l : List UInt8) (res : List Ln) : Prop := GoodL (2 + fdN l) res ∧ ∀ y ∈ res, y.words.length ≤ l.length
theorem scanOf_cases (l : List UInt8) : (∃ m, scanOf l = .bad m ∧ 1 ≤ m ∧ m ≤ 1 + fdN l) ∨ ∃ res, scanOf l = .ok res ∧ GoodS l res := by
  have h1 := runL_num l.length l 1 false ⟨1, blkAt l, []⟩ []
  have h2 := runL_good l.length l 1 false ⟨1, blkAt l, []⟩ [] ⟨List.Pairwise.nil, fun y hy => by cases hy⟩ (fun w hw => by cases hw) (Nat.le_refl _) (Nat.le_refl _)
  have h3 := runL_words l.length l.length l 1 false ⟨1, blkAt l, []⟩ [] (fun y hy => by cases hy) (by simp)
  have h4 : scanOf l = fin (runL l.length l 1 false ⟨1, blkAt l, []⟩ []) := scanL_fin _ _ _ _ _ _
  rw [h4]
  cases hr : runL l.length l 1 false ⟨1, blkAt l, []⟩ [] with
  | bad m =>
    rw [hr] at h1
    exact .inl ⟨m, rfl, h1.1, h1.2⟩
  | st m op x out =>
    rw [hr] at h1 h2 h3
    have h1 : m = 1 + fdN l := h1
    cases op with
    | true => exact .inl ⟨m, rfl, by omega, by omega⟩
    | false =>
      obtain ⟨g1, g2, g3, g4⟩ := h2
      exact .inr ⟨addLn out x, rfl, g1.add g2 g3 (by omega), addLn_mem h3.2 h3.1⟩
/-! ### Entries side by side -/
theorem rw0_at (res : List Ln) (i : Nat) {x : Ln} (h : res[i]? = some x) : (res.map rw0)[i]? = some (rw0 x) := by rw [List.getElem?_map, h]; rfl
theorem eqS_self (a : List UInt8) : eqS a a = true := by simp [eqS]
theorem w09_lines_L0_eq (N : Nat) (a b : List Rw0) (p2 : Int) (i : Nat) {e f : Rw0} (ha : a[i]? = some e) (hb : b[i]? = some f) (hef : e.c2 = f.c2) (he : e.c2.length ≤ 1000000) : ∀ (n k : Nat), k ≤ e.c2.length → e.c2.length < k + n → w09_lines_L0 N n a b p2 (i : Int) (k : Int) = some (.b ())
  | 0, k, hk, hn => by omega
  | n + 1, k, hk, hn => by
    unfold w09_lines_L0
    simp only [atI_n, ha, hb, Option.bind_some, ← hef]
    rcases at_cases e.c2 k (by omega) with ⟨h0, h, h1, _⟩ | ⟨c, hc, hd, hlt, h1, _, hs⟩
    · rw [h1]; rfl
    · rw [h1, hs]
      simp only [hc, Option.bind_some, cond_true, eqS_self]
      rw [w09_lines_L0_eq N a b p2 i ha hb hef he n (k + 1) (by omega) (by omega)]
      cases c.c1 <;> rfl
theorem w09_lines_L1_eq (N : Nat) (hN : 1000000 < N) (a : List Rw0) (hl : a.length ≤ 1000000) (ha : ∀ e ∈ a, 0 ≤ e.c0 ∧ e.c0 ≤ 1000000 ∧ e.c2.length ≤ 1000000) : ∀ (n i : Nat), i ≤ a.length → a.length < i + n → w09_lines_L1 N n a a 0 (i : Int) = some (.b ())
  | 0, i, hi, hn => by omega
  | n + 1, i, hi, hn => by
    unfold w09_lines_L1
    rcases at_cases a i (by omega) with ⟨h0, h, h1, _⟩ | ⟨e, he, hd, hlt, h1, _, hs⟩
    · rw [h1]; rfl
    · rw [h1, hs]
      obtain ⟨q1, q2, q3⟩ := ha e (List.mem_of_getElem? he)
      have h2 : eqI e.c0 (addI .i64 e.c0 0) = true := eqI_t (by rw [addI_i _ _ (by omega)]; omega)
      have h3 : eqI (ln e.c2) (ln e.c2) = true := eqI_t rfl
      have h4 : w09_lines_L0 N N a a 0 (i : Int) 0 = some (.b ()) := w09_lines_L0_eq N a a 0 i he he rfl q3 N 0 (by omega) (by omega)
      simp only [atI_n, he, Option.bind_some, cond_true, h2, h3, h4, O2.el]
      rw [w09_lines_L1_eq N hN a hl ha n (i + 1) (by omega) (by omega)]
      cases e.c1 <;> rfl
theorem w09_lines_eq (N : Nat) (hN : 1000000 < N) (a : List Rw0) (hl : a.length ≤ 1000000) (ha : ∀ e ∈ a, 0 ≤ e.c0 ∧ e.c0 ≤ 1000000 ∧ e.c2.length ≤ 1000000) : w09_lines N a a 0 = some true := by
  unfold w09_lines
  have h : w09_lines_L1 N N a a 0 0 = some (.b ()) := w09_lines_L1_eq N hN a hl ha N 0 (by omega) (by omega)
  rw [eqI_t rfl, h]; rfl
theorem scanR_small (l : List UInt8) : (scanR l).1.length ≤ 1000000 ∧ ∀ e ∈ (scanR l).1, 0 ≤ e.c0 ∧ e.c0 ≤ 1000000 ∧ e.c2.length ≤ 1000000 := by
  unfold scanR
  split
  · exact ⟨by simp, fun e he => by cases he⟩
  · rename_i hl
    have hf := fdN_le l
    rcases scanOf_cases l with ⟨m, e, h1, h2⟩ | ⟨res, e, ⟨⟨g1, g2⟩, g3⟩⟩
    · rw [e]
      exact ⟨by simp [outS], fun e he => by cases he⟩
    · rw [e]
      have := inc_len res 1 (2 + fdN l) g1 fun y hy => ⟨(g2 y hy).1, (g2 y hy).2.1⟩
      refine ⟨by simp only [outS, List.length_map]; omega, fun e he => ?_⟩
      obtain ⟨y, hy, rfl⟩ := List.mem_map.1 he
      have q := g2 y hy
      have := g3 y hy
      exact ⟨by simp only [rw0]; omega, by simp only [rw0]; omega, by simp only [rw0, List.length_map]; omega⟩
theorem scans_pure (l : List UInt8) : w09_MasterScans 2000000 l = some true := by
  unfold w09_MasterScans
  obtain ⟨h1, h2⟩ := scanR_small l
  rw [master_Scan_eq _ _ (by omega), r09_Scan_eq _ _ (by omega)]
  simp only [Option.bind_some, w09_lines_eq 2000000 (by omega) (scanR l).1 h1 h2, cond_true, eqI_t rfl]
  rfl
end Go.Ev
