/- PuB, NameP, NameV, NameW, PuC, RdA, RdT, RdV, AddrQ, AddrH, AddrD, AddrT, AddrU, WdA, WdB, WdC, WdD, joined. Condition: each part's own. -/
import Derived.Test.YtcnlfelalgaepaaGreatDoorShA
import Derived.Test.YtcnlfelalgaepaaGreatDoorShD
import Derived.Test.YtcnlfelalgaepaaGreatDoorShL
/- Reckoning with the words of the plain functions. Condition: none. -/
namespace Go.Ev
set_option linter.all false
section
variable {α β : Type}
theorem ltI_t {a b : Int} (h : a < b) : ltI a b = true := decide_eq_true h
theorem ltI_f {a b : Int} (h : b ≤ a) : ltI a b = false := decide_eq_false (by omega)
theorem leI_t {a b : Int} (h : a ≤ b) : leI a b = true := decide_eq_true h
theorem leI_f {a b : Int} (h : b < a) : leI a b = false := decide_eq_false (by omega)
theorem eqI_t {a b : Int} (h : a = b) : eqI a b = true := by unfold eqI; simp [h]
theorem eqI_f {a b : Int} (h : a ≠ b) : eqI a b = false := by unfold eqI; simp [h]
theorem ltI_iff {a b : Int} : ltI a b = true ↔ a < b := by simp [ltI]
theorem leI_iff {a b : Int} : leI a b = true ↔ a ≤ b := by simp [leI]
theorem eqI_iff {a b : Int} : eqI a b = true ↔ a = b := by simp [eqI]
theorem ltI_not {a b : Int} : ltI a b = false ↔ b ≤ a := by simp [ltI]
theorem leI_not {a b : Int} : leI a b = false ↔ b < a := by simp [leI]
theorem eqI_not {a b : Int} : eqI a b = false ↔ a ≠ b := by simp [eqI]
@[simp] theorem eqI_bv (c : UInt8) (k : Nat) (h : k < 256) : eqI (bv c) (no_index (OfNat.ofNat k)) = decide (c = OfNat.ofNat k) := by
  show (((c.toNat : Nat) : Int) == ((k : Nat) : Int)) = decide (c = UInt8.ofNat k)
  rw [Bool.eq_iff_iff, beq_iff_eq, decide_eq_true_iff]
  constructor
  · intro e
    apply UInt8.toNat_inj.1
    rw [UInt8.toNat_ofNat']
    omega
  · intro e
    rw [e, UInt8.toNat_ofNat']
    omega
@[simp] theorem leI_bv1 (c : UInt8) (k : Nat) : leI (no_index (OfNat.ofNat k)) (bv c) = decide (k ≤ c.toNat) := by
  show decide (((k : Nat) : Int) ≤ ((c.toNat : Nat) : Int)) = _
  rw [Bool.eq_iff_iff, decide_eq_true_iff, decide_eq_true_iff]
  omega
@[simp] theorem leI_bv2 (c : UInt8) (k : Nat) : leI (bv c) (no_index (OfNat.ofNat k)) = decide (c.toNat ≤ k) := by
  show decide (((c.toNat : Nat) : Int) ≤ ((k : Nat) : Int)) = _
  rw [Bool.eq_iff_iff, decide_eq_true_iff, decide_eq_true_iff]
  omega
@[simp] theorem ltI_bv1 (c : UInt8) (k : Nat) : ltI (no_index (OfNat.ofNat k)) (bv c) = decide (k < c.toNat) := by
  show decide (((k : Nat) : Int) < ((c.toNat : Nat) : Int)) = _
  rw [Bool.eq_iff_iff, decide_eq_true_iff, decide_eq_true_iff]
  omega
@[simp] theorem ltI_bv2 (c : UInt8) (k : Nat) : ltI (bv c) (no_index (OfNat.ofNat k)) = decide (c.toNat < k) := by
  show decide (((c.toNat : Nat) : Int) < ((k : Nat) : Int)) = _
  rw [Bool.eq_iff_iff, decide_eq_true_iff, decide_eq_true_iff]
  omega
@[simp] theorem atI_n (l : List α) (i : Nat) : atI l (i : Int) = l[i]? := by
  unfold atI
  rw [if_pos (by omega), Int.toNat_natCast]
@[simp] theorem atI_l (l : List α) (k : Nat) : atI l (no_index (OfNat.ofNat k)) = l[k]? := atI_n l k
theorem addI_n (i j : Nat) (h : i + j ≤ 9223372036854775807) : addI .i64 (i : Int) (j : Int) = ((i + j : Nat) : Int) := by
  unfold addI
  rw [IntWalk.i64_in _ (by omega)]
  omega
theorem addI_l (i k : Nat) (h : i + k ≤ 9223372036854775807) : addI .i64 (i : Int) (no_index (OfNat.ofNat k)) = ((i + k : Nat) : Int) := addI_n i k h
theorem addI_i (a b : Int) (h : -9223372036854775808 ≤ a + b ∧ a + b ≤ 9223372036854775807) : addI .i64 a b = a + b := IntWalk.i64_in _ h
theorem subI_i (a b : Int) (h : -9223372036854775808 ≤ a - b ∧ a - b ≤ 9223372036854775807) : subI .i64 a b = a - b := IntWalk.i64_in _ h
theorem mulI_i (a b : Int) (h : -9223372036854775808 ≤ a * b ∧ a * b ≤ 9223372036854775807) : mulI .i64 a b = a * b := IntWalk.i64_in _ h
theorem convI_i (a : Int) (h : -9223372036854775808 ≤ a ∧ a ≤ 9223372036854775807) : convI .i64 a = a := IntWalk.i64_in _ h
theorem subI_u8 (a b : Int) (h : 0 ≤ a - b ∧ a - b ≤ 255) : subI .u8 a b = a - b := IntWalk.u8_in _ h
theorem addI_u8 (a b : Int) (h : 0 ≤ a + b ∧ a + b ≤ 255) : addI .u8 a b = a + b := IntWalk.u8_in _ h
theorem convI_u8 (a : Int) (h : 0 ≤ a ∧ a ≤ 255) : convI .u8 a = a := IntWalk.u8_in _ h
@[simp] theorem convI_bv (b : UInt8) : convI .i64 (bv b) = bv b := convI_i _ (by have := bv_lo b; have := bv_hi b; omega)
@[simp] theorem isB_bv (b : UInt8) : isB (bv b) = true := by
  have := bv_lo b
  have := bv_hi b
  unfold isB
  rw [Bool.and_eq_true, decide_eq_true_iff, decide_eq_true_iff]
  exact ⟨by assumption, by assumption⟩
@[simp] theorem isB_l (k : Nat) (h : k < 256) : isB (no_index (OfNat.ofNat k)) = true := by
  show isB ((k : Nat) : Int) = true
  unfold isB
  rw [Bool.and_eq_true, decide_eq_true_iff, decide_eq_true_iff]
  omega
theorem room1_ok (l : List α) (k b : Nat) (h : (l.length + k) * b ≤ 140737488355328) (h2 : l.length + k ≤ 9223372036854775807) : room1 l k b = true := by
  unfold room1 roomN
  rw [Bool.and_eq_true, decide_eq_true_iff, decide_eq_true_iff]
  exact ⟨h, h2⟩
theorem room_ok (l : List α) (r : List β) (b : Nat) (h : (l.length + r.length) * b ≤ 140737488355328) (h2 : l.length + r.length ≤ 9223372036854775807) : room l r b = true := by
  unfold room roomN
  rw [Bool.and_eq_true, decide_eq_true_iff, decide_eq_true_iff]
  exact ⟨h, h2⟩
/-- What stands at a place. -/
theorem at_cases (l : List α) (i : Nat) (hl : l.length ≤ 9223372036854775806) : (l.drop i = [] ∧ l.length ≤ i ∧ ltI (i : Int) (ln l) = false ∧ leI (ln l) (i : Int) = true) ∨
    ∃ c, l[i]? = some c ∧ l.drop i = c :: l.drop (i + 1) ∧ i < l.length ∧ ltI (i : Int) (ln l) = true ∧ leI (ln l) (i : Int) = false ∧ addI .i64 (i : Int) 1 = ((i + 1 : Nat) : Int) := by
  rcases Nat.lt_or_ge i l.length with h | h
  · exact .inr ⟨l[i], List.getElem?_eq_getElem h, List.drop_eq_getElem_cons h, h, ltI_t (by unfold ln; omega), leI_f (by unfold ln; omega), addI_l i 1 (by omega)⟩
  · exact .inl ⟨List.drop_eq_nil_of_le h, h, ltI_f (by unfold ln; omega), leI_t (by unfold ln; omega)⟩
theorem cutI_n (l : List α) (i j : Nat) (h : i ≤ j) (h2 : j ≤ l.length) : cutI l (i : Int) (j : Int) = some ((l.take j).drop i) := by
  unfold cutI
  rw [if_pos (by omega)]
  simp
theorem cutI_to (l : List α) (j : Nat) (h2 : j ≤ l.length) : cutI l 0 (j : Int) = some (l.take j) := by
  have := cutI_n l 0 j (by omega) h2
  simpa using this
theorem cutI_from (l : List α) (i : Nat) (h : i ≤ l.length) : cutI l (i : Int) (ln l) = some (l.drop i) := by
  have := cutI_n l i l.length h (Nat.le_refl _)
  rw [List.take_length] at this
  exact this
theorem cutI_from_l (l : List α) (k : Nat) (h : k ≤ l.length) : cutI l (no_index (OfNat.ofNat k)) (ln l) = some (l.drop k) := cutI_from l k h
end
end Go.Ev
/- Names as lists of bytes: pieces between bytes, labels. Condition: none. -/
namespace Go.Ev
set_option linter.all false
/-- The pieces between the bytes b. -/
def splitB (b : UInt8) : List UInt8 → List (List UInt8)
  | [] => [[]]
  | c :: r => if c = b then [] :: splitB b r else (c :: (splitB b r).headD []) :: (splitB b r).tail
theorem splitB_ne (b : UInt8) : ∀ l, splitB b l ≠ []
  | [] => by simp [splitB]
  | c :: r => by unfold splitB; split <;> simp
theorem splitB_none (b : UInt8) : ∀ l, b ∉ l → splitB b l = [l]
  | [], _ => rfl
  | c :: r, h => by
    have h1 : c ≠ b := fun e => h (by simp [e])
    have h2 : b ∉ r := fun e => h (by simp [e])
    rw [splitB, if_neg h1, splitB_none b r h2]
    rfl
theorem splitB_app (b : UInt8) : ∀ p r, b ∉ p → splitB b (p ++ b :: r) = p :: splitB b r
  | [], r, _ => by simp [splitB]
  | c :: p, r, h => by
    have h1 : c ≠ b := fun e => h (by simp [e])
    have h2 : b ∉ p := fun e => h (by simp [e])
    rw [List.cons_append, splitB, if_neg h1, splitB_app b p r h2]
    rfl
theorem splitB_snoc (b : UInt8) : ∀ l, splitB b (l ++ [b]) = splitB b l ++ [[]]
  | [] => by simp [splitB]
  | c :: r => by
    by_cases h : c = b
    · rw [List.cons_append, splitB, if_pos h, splitB, if_pos h, splitB_snoc b r]
      rfl
    · rw [List.cons_append, splitB, if_neg h, splitB_snoc b r, splitB, if_neg h]
      cases hs : splitB b r with
      | nil => exact absurd hs (splitB_ne b r)
      | cons x t => rfl
theorem splitB_len (b : UInt8) : ∀ l, (splitB b l).length = l.count b + 1
  | [] => rfl
  | c :: r => by
    have ih := splitB_len b r
    by_cases h : c = b
    · rw [splitB, if_pos h, h, List.count_cons_self, List.length_cons, ih]
    · rw [splitB, if_neg h, List.count_cons_of_ne (by simpa using h), List.length_cons, List.length_tail, ih]
      rfl
theorem splitB_sum (b : UInt8) : ∀ l, ∀ x ∈ splitB b l, x.length ≤ l.length
  | [], x, h => by simp [splitB] at h; simp [h]
  | c :: r, x, h => by
    have ih := splitB_sum b r
    by_cases hc : c = b
    · rw [splitB, if_pos hc] at h
      rcases List.mem_cons.1 h with rfl | h
      · simp
      · have := ih x h; simp; omega
    · rw [splitB, if_neg hc] at h
      cases hs : splitB b r with
      | nil => exact absurd hs (splitB_ne b r)
      | cons y t =>
        rw [hs] at h ih
        rcases List.mem_cons.1 h with rfl | h
        · have := ih y (by simp); simp; omega
        · have := ih x (by simp_all); simp; omega
theorem ix_split (b : UInt8) : ∀ l, (∃ p r, l = p ++ b :: r ∧ b ∉ p ∧ Lib.indexByte l b = (p.length : Int)) ∨ (b ∉ l ∧ Lib.indexByte l b = -1)
  | [] => .inr ⟨by simp, rfl⟩
  | c :: r => by
    by_cases h : c = b
    · refine .inl ⟨[], r, by simp [h], by simp, ?_⟩
      unfold Lib.indexByte
      simp [h]
    · rcases ix_split b r with ⟨p, q, e, hp, hi⟩ | ⟨hn, hi⟩
      · refine .inl ⟨c :: p, q, by simp [e], by simp [hp]; exact fun x => h x.symm, ?_⟩
        unfold Lib.indexByte
        rw [hi]
        have h1 : (c == b) = false := by simpa using h
        have h2 : ((p.length : Int) == -1) = false := beq_eq_false_iff_ne.2 (by omega)
        simp only [h1, h2, Bool.false_eq_true, if_false, List.length_cons]
        omega
      · refine .inr ⟨by simp [hn]; exact fun x => h x.symm, ?_⟩
        unfold Lib.indexByte
        rw [hi]
        have h1 : (c == b) = false := by simpa using h
        simp [h1]
/-- The bytes of labels. -/
def labCh (c : UInt8) : Bool := (decide (97 ≤ c.toNat) && decide (c.toNat ≤ 122)) || (decide (48 ≤ c.toNat) && decide (c.toNat ≤ 57)) || c == 45 || c == 95
def labOk (l : List UInt8) : Bool := decide (1 ≤ l.length) && decide (l.length ≤ 63) && l.all labCh
def labsOk : Bool → List (List UInt8) → Bool
  | _, [] => true
  | f, x :: r => (labOk x || (f && x == [42])) && labsOk false r
/-- A name. -/
def nameOk (n : List UInt8) : Bool := n == [46] || (decide (n.length ≤ 254) && (n.getLast? == some 46 && labsOk true (splitB 46 n.dropLast)))
end Go.Ev
/- What a name is: the program's and the reference's answers. Condition: none. -/
namespace Go.Ev
set_option linter.all false
set_option maxHeartbeats 1000000
theorem eqI_n (c : UInt8) (k : Nat) : eqI (bv c) (no_index (OfNat.ofNat k)) = decide (c.toNat = k) := by
  show (((c.toNat : Nat) : Int) == ((k : Nat) : Int)) = _
  rw [Bool.eq_iff_iff, beq_iff_eq, decide_eq_true_iff]
  omega
theorem ixB_bv (l : List UInt8) (b : UInt8) : ixB l (bv b) = Lib.indexByte l b := by
  unfold ixB bv
  congr 1
  rw [Int.toNat_natCast]
  apply UInt8.toNat_inj.1
  simp
theorem ctB_bv (l : List UInt8) (b : UInt8) : ctB l (bv b) = ((l.count b : Nat) : Int) := by
  unfold ctB bv Lib.countByte
  congr 2
  rw [Int.toNat_natCast]
  apply UInt8.toNat_inj.1
  simp
theorem eqS_iff {a b : List UInt8} : eqS a b = true ↔ a = b := by simp [eqS]
theorem eqS_t (a : List UInt8) : eqS a a = true := eqS_iff.2 rfl
theorem eqS_f {a b : List UInt8} (h : a ≠ b) : eqS a b = false := by cases e : eqS a b with
  | false => rfl
  | true => exact absurd (eqS_iff.1 e) h
theorem eqS_d (a b : List UInt8) : eqS a b = decide (a = b) := by
  rw [Bool.eq_iff_iff, eqS_iff, decide_eq_true_iff]
theorem ln_one (b : UInt8) : ln [b] = 1 := rfl
theorem strings_Index_one (N : Nat) (l : List UInt8) (b : UInt8) : strings_Index N l [b] = some (Lib.indexByte l b) := by
  unfold strings_Index i_stringslite_Index i_stringslite_IndexByte
  rw [ln_one]
  by_cases h : [b] = l
  · subst h
    rw [eqS_t]
    unfold Lib.indexByte
    simp [eqI]
  · rw [eqS_f h]
    simp [eqI, ixB_bv]
theorem strings_Count_one (N : Nat) (l : List UInt8) (b : UInt8) : strings_Count N l [b] = some ((l.count b : Nat) : Int) := by
  unfold strings_Count
  rw [ln_one]
  simp [eqI, ctB_bv]
theorem genSplit_loop (N : Nat) (b : UInt8) (c : Nat) (hc : c ≤ 1000000000000) : ∀ (n : Nat) (l : List UInt8) (done : List (List UInt8)), l.count b < n → l.length ≤ 1000000000000 → done.length + l.count b = c →
    strings_genSplit_L0b N n l [b] 0 (c : Int) (c + 1) (done.length : Int) (done ++ List.replicate (l.count b + 1) []) = some ((splitB b l).getLast (splitB_ne b l), (c : Int), done ++ (splitB b l).dropLast ++ [[]])
  | 0, l, done, h, _, _ => by omega
  | n + 1, l, done, h, hl, hd => by
    unfold strings_genSplit_L0b
    rw [strings_Index_one]
    rcases ix_split b l with ⟨p, r, rfl, hp, hi⟩ | ⟨hn, hi⟩
    · have h0 : List.count b p = 0 := List.count_eq_zero.2 hp
      have h1 : List.count b (p ++ b :: r) = List.count b r + 1 := by rw [List.count_append, h0, List.count_cons_self]; omega
      rw [h1] at h hd
      rw [List.length_append, List.length_cons] at hl
      simp only [h1, hi, splitB_app b p r hp]
      have e1 : ltI (done.length : Int) (c : Int) = true := ltI_t (by omega)
      have e2 : ltI ((p.length : Nat) : Int) 0 = false := ltI_f (by omega)
      have e3 : addI .i64 ((p.length : Nat) : Int) 0 = (p.length : Int) := by rw [addI_i _ _ (by omega)]; omega
      have e4 : cutI (p ++ b :: r) 0 (p.length : Int) = some p := by rw [cutI_to _ _ (by rw [List.length_append]; omega), List.take_left]
      have e5 : inN (done.length : Int) (c + 1) = true := by unfold inN; rw [Bool.and_eq_true, decide_eq_true_iff, decide_eq_true_iff]; omega
      have e6 : setO (done ++ List.replicate (List.count b r + 1 + 1) []) 0 (done.length : Int) p = some ((done ++ [p]) ++ List.replicate (List.count b r + 1) []) := by
        unfold setO
        rw [Int.toNat_natCast, if_pos (by rw [List.length_append, List.length_replicate]; omega), Nat.zero_add, List.set_append_right _ _ (by omega), Nat.sub_self]
        rw [List.replicate_succ, List.set_cons_zero, List.append_assoc]
        rfl
      have e7 : addI .i64 ((p.length : Nat) : Int) (ln [b]) = ((p.length + 1 : Nat) : Int) := by rw [ln_one, addI_i _ _ (by omega)]; omega
      have e8 : cutI (p ++ b :: r) ((p.length + 1 : Nat) : Int) (ln (p ++ b :: r)) = some r := by
        rw [cutI_from _ _ (by rw [List.length_append, List.length_cons]; omega)]
        congr 1
        rw [List.drop_append, List.drop_of_length_le (by omega)]
        simp
      have e9 : addI .i64 (done.length : Int) 1 = (((done ++ [p]).length : Nat) : Int) := by rw [addI_i _ _ (by omega), List.length_append]; simp
      simp only [e1, e2, e3, e4, e5, e6, e7, e8, e9, cond_true, cond_false, Option.bind_some]
      have ih := genSplit_loop N b c hc n r (done ++ [p]) (by omega) (by omega) (by rw [List.length_append]; simp; omega)
      rw [ih]
      have hne := splitB_ne b r
      rw [List.dropLast_cons_of_ne_nil hne, List.getLast_cons hne]
      simp
    · have h0 : List.count b l = 0 := List.count_eq_zero.2 hn
      rw [h0] at hd
      have e1 : ltI (done.length : Int) (c : Int) = false := ltI_f (by omega)
      have e2 : done.length = c := by omega
      simp only [h0, splitB_none b l hn, e2, ltI_f (Int.le_refl _), cond_false]
      simp
theorem strings_Split_one (N : Nat) (l : List UInt8) (b : UInt8) (hN : l.length < N) (hl : l.length ≤ 1000000000000) : strings_Split N l [b] = some (.a (splitB b l)) := by
  have hc : List.count b l ≤ l.length := List.count_le_length ..
  unfold strings_Split strings_genSplit
  rw [strings_Count_one]
  have a1 : eqI (-1) 0 = false := rfl
  have a2 : eqS [b] ([] : List UInt8) = false := eqS_f (by simp)
  have a3 : ltI (-1) 0 = true := rfl
  have a4 : addI .i64 ((List.count b l : Nat) : Int) 1 = ((List.count b l + 1 : Nat) : Int) := addI_l _ 1 (by omega)
  have a5 : addI .i64 (ln l) 1 = ((l.length + 1 : Nat) : Int) := addI_l _ 1 (by omega)
  have a6 : mmI false ((List.count b l + 1 : Nat) : Int) ((l.length + 1 : Nat) : Int) = ((List.count b l + 1 : Nat) : Int) := by
    unfold mmI
    rw [if_neg (by simp)]
    split <;> omega
  have a7 : mkI ((List.count b l + 1 : Nat) : Int) 16 = some (List.count b l + 1) := by
    unfold mkI
    rw [if_pos (by omega), Int.toNat_natCast]
  have a8 : isZ (List.count b l + 1) = false := rfl
  have a9 : subI .i64 ((List.count b l + 1 : Nat) : Int) 1 = ((List.count b l : Nat) : Int) := by rw [subI_i _ _ (by omega)]; omega
  have b1 := genSplit_loop N b (List.count b l) (by omega) N l [] (by omega) hl (by simp)
  rw [List.nil_append, List.nil_append] at b1
  have b1' : strings_genSplit_L0b N N l [b] 0 ((List.count b l : Nat) : Int) (List.count b l + 1) 0 (List.replicate (List.count b l + 1) []) = some ((splitB b l).getLast (splitB_ne b l), ((List.count b l : Nat) : Int), (splitB b l).dropLast ++ [[]]) := b1
  have hsl := splitB_len b l
  have hdl : (splitB b l).dropLast.length = List.count b l := by rw [List.length_dropLast, hsl]; omega
  have b2 : inN ((List.count b l : Nat) : Int) (List.count b l + 1) = true := by unfold inN; rw [Bool.and_eq_true, decide_eq_true_iff, decide_eq_true_iff]; omega
  have b3 : setO ((splitB b l).dropLast ++ [[]]) 0 ((List.count b l : Nat) : Int) ((splitB b l).getLast (splitB_ne b l)) = some (splitB b l) := by
    unfold setO
    rw [if_pos (by rw [List.length_append, hdl]; simp), Int.toNat_natCast, Nat.zero_add, List.set_append_right _ _ (by omega), hdl, Nat.sub_self, List.set_cons_zero, List.dropLast_concat_getLast]
  have b4 : arrI0 ((List.count b l + 1 : Nat) : Int) (List.count b l + 1) = some (List.count b l + 1) := by unfold arrI0; rw [if_pos (by omega), Int.toNat_natCast]
  have b5 : winI (splitB b l) 0 (List.count b l + 1) = some (splitB b l) := by unfold winI; rw [if_pos (by omega), List.drop_zero, ← hsl, List.take_length]
  simp only [a1, a2, a3, cond_false, cond_true, Option.bind_some, a4, a5, a6, a7, a8, a9, b1', b2, b3, b4, b5, O2.el]
end Go.Ev
/- What a name is: the program's and the reference's answers are one. Condition: none. -/
namespace Go.Ev
set_option linter.all false
set_option maxHeartbeats 1000000
/-- The test of a byte, in the program's order. -/
theorem ord_ch {α : Type} (c : UInt8) (K A : α) : (bif ltI (bv c) 97 then (bif ltI (bv c) 48 then (bif eqI (bv c) 45 then K else bif eqI (bv c) 95 then K else A) else bif ltI 57 (bv c) then (bif eqI (bv c) 45 then K else bif eqI (bv c) 95 then K else A) else K)
    else bif ltI 122 (bv c) then (bif ltI (bv c) 48 then (bif eqI (bv c) 45 then K else bif eqI (bv c) 95 then K else A) else bif ltI 57 (bv c) then (bif eqI (bv c) 45 then K else bif eqI (bv c) 95 then K else A) else K) else K) = bif labCh c then K else A := by
  have e : labCh c = (!(decide (c.toNat < 97) || decide (122 < c.toNat)) || (!(decide (c.toNat < 48) || decide (57 < c.toNat)) || (decide (c.toNat = 45) || decide (c.toNat = 95)))) := by
    unfold labCh
    rw [show (c == 45) = decide (c.toNat = 45) by rw [Bool.eq_iff_iff, beq_iff_eq, decide_eq_true_iff, ← UInt8.toNat_inj]; rfl, show (c == 95) = decide (c.toNat = 95) by rw [Bool.eq_iff_iff, beq_iff_eq, decide_eq_true_iff, ← UInt8.toNat_inj]; rfl]
    rw [Bool.eq_iff_iff]
    simp
    omega
  simp only [ltI_bv1, ltI_bv2, eqI_n, e]
  cases decide (c.toNat < 97) <;> cases decide (122 < c.toNat) <;> cases decide (c.toNat < 48) <;> cases decide (57 < c.toNat) <;> cases decide (c.toNat = 45) <;> cases decide (c.toNat = 95) <;> rfl
theorem ref_ch {α : Type} (c : UInt8) (K A : α) : (bif leI 97 (bv c) then (bif leI (bv c) 122 then K else bif leI 48 (bv c) then (bif leI (bv c) 57 then K else bif eqI (bv c) 45 then K else bif eqI (bv c) 95 then K else A) else bif eqI (bv c) 45 then K else bif eqI (bv c) 95 then K else A)
    else bif leI 48 (bv c) then (bif leI (bv c) 57 then K else bif eqI (bv c) 45 then K else bif eqI (bv c) 95 then K else A) else bif eqI (bv c) 45 then K else bif eqI (bv c) 95 then K else A) = bif labCh c then K else A := by
  have e : labCh c = ((decide (97 ≤ c.toNat) && decide (c.toNat ≤ 122)) || ((decide (48 ≤ c.toNat) && decide (c.toNat ≤ 57)) || (decide (c.toNat = 45) || decide (c.toNat = 95)))) := by
    unfold labCh
    rw [show (c == 45) = decide (c.toNat = 45) by rw [Bool.eq_iff_iff, beq_iff_eq, decide_eq_true_iff, ← UInt8.toNat_inj]; rfl, show (c == 95) = decide (c.toNat = 95) by rw [Bool.eq_iff_iff, beq_iff_eq, decide_eq_true_iff, ← UInt8.toNat_inj]; rfl]
    simp only [Bool.or_assoc]
  simp only [leI_bv1, leI_bv2, eqI_n, e]
  cases decide (97 ≤ c.toNat) <;> cases decide (c.toNat ≤ 122) <;> cases decide (48 ≤ c.toNat) <;> cases decide (c.toNat ≤ 57) <;> cases decide (c.toNat = 45) <;> cases decide (c.toNat = 95) <;> rfl
theorem ordinary_loop (N : Nat) (l : List UInt8) (hl : l.length ≤ 1000) : ∀ (n i : Nat), i ≤ l.length → l.length < i + n → dname_ordinary_L0 N n l (ln l) (i : Int) = some (bif (l.drop i).all labCh then .b () else .a false)
  | 0, i, _, h => by omega
  | n + 1, i, hi, h => by
    unfold dname_ordinary_L0
    rcases at_cases l i (by omega) with ⟨h0, h1, h2, _⟩ | ⟨c, hc, hd, hlt, h2, _, h4⟩
    · rw [h2, h0]; rfl
    · rw [h2, cond_true, atI_n, hc, Option.bind_some, ord_ch, h4, ordinary_loop N l hl n (i + 1) (by omega) (by omega), hd, List.all_cons]
      cases labCh c <;> rfl
theorem isLabel_loop (N : Nat) (l : List UInt8) (hl : l.length ≤ 1000) : ∀ (n i : Nat), i ≤ l.length → l.length < i + n → r01_isLabel_L0 N n l (i : Int) = some (bif (l.drop i).all labCh then .b () else .a false)
  | 0, i, _, h => by omega
  | n + 1, i, hi, h => by
    unfold r01_isLabel_L0
    rcases at_cases l i (by omega) with ⟨h0, h1, h2, _⟩ | ⟨c, hc, hd, hlt, h2, _, h4⟩
    · rw [h2, h0]; rfl
    · rw [h2, cond_true, atI_n, hc, Option.bind_some, ref_ch, h4, isLabel_loop N l hl n (i + 1) (by omega) (by omega), hd, List.all_cons]
      cases labCh c <;> rfl
theorem dname_ordinary_eq (N : Nat) (l : List UInt8) (hN : 1000 < N) : dname_ordinary N l = some (labOk l) := by
  unfold dname_ordinary labOk
  by_cases h1 : l = []
  · subst h1; rfl
  · have h1' : 1 ≤ l.length := List.length_pos_iff.2 h1
    rw [eqS_f h1, cond_false, decide_eq_true h1']
    rcases Nat.lt_or_ge 63 l.length with h2 | h2
    · rw [ltI_t (by unfold ln; omega), cond_true, decide_eq_false (by omega)]; rfl
    · have := ordinary_loop N l (by omega) N 0 (by omega) (by omega)
      have this' : dname_ordinary_L0 N N l (ln l) 0 = _ := this
      rw [ltI_f (by unfold ln; omega), cond_false, this', decide_eq_true h2, List.drop_zero]
      cases l.all labCh <;> rfl
theorem r01_isLabel_eq (N : Nat) (l : List UInt8) (hN : 1000 < N) : r01_isLabel N l = some (l == [42] || labOk l) := by
  unfold r01_isLabel labOk
  rw [eqS_d]
  by_cases h1 : l = [42]
  · subst h1; rfl
  · rw [decide_eq_false h1, cond_false, show (l == [42]) = false by simpa using h1, Bool.false_or]
    rcases Nat.lt_or_ge l.length 1 with h2 | h2
    · rw [ltI_t (by unfold ln; omega), cond_true, decide_eq_false (by omega)]; rfl
    · rw [ltI_f (by unfold ln; omega), cond_false, decide_eq_true h2]
      rcases Nat.lt_or_ge 63 l.length with h3 | h3
      · rw [ltI_t (by unfold ln; omega), cond_true, decide_eq_false (by omega)]; rfl
      · have := isLabel_loop N l (by omega) N 0 (by omega) (by omega)
        have this' : r01_isLabel_L0 N N l 0 = _ := this
        rw [ltI_f (by unfold ln; omega), cond_false, this', decide_eq_true h3, List.drop_zero]
        cases l.all labCh <;> rfl
theorem valid_loop (N : Nat) (hN : 1000 < N) (L : List (List UInt8)) (hL : L.length ≤ 1000) : ∀ (n i : Nat), i ≤ L.length → L.length < i + n → dname_Valid_L0 N n L (ln L) (i : Int) = some (bif labsOk (i == 0) (L.drop i) then .b () else .a false)
  | 0, i, _, h => by omega
  | n + 1, i, hi, h => by
    unfold dname_Valid_L0
    rcases at_cases L i (by omega) with ⟨h0, h1, h2, _⟩ | ⟨c, hc, hd, hlt, h2, _, h4⟩
    · rw [h2, h0]; rfl
    · rw [h2, cond_true, atI_n, hc, Option.bind_some, dname_ordinary_eq N c hN, Option.bind_some, h4, valid_loop N hN L hL n (i + 1) (by omega) (by omega), hd, labsOk]
      have e0 : (i + 1 == 0) = false := rfl
      rw [e0, eqS_d]
      cases labOk c with
      | true => rfl
      | false =>
        cases i with
        | zero =>
          rw [ltI_f (by omega)]
          by_cases h42 : c = [42]
          · subst h42; rfl
          · rw [decide_eq_false h42]
            have : (c == [42]) = false := by simpa using h42
            rw [this]; rfl
        | succ i => rw [ltI_t (by omega)]; rfl
theorem suffix_dot (N : Nat) (n : List UInt8) (hl : n.length ≤ 1000000000) : strings_HasSuffix N n [46] = some (n.getLast? == some 46) := by
  unfold strings_HasSuffix i_stringslite_HasSuffix
  rw [ln_one]
  rcases List.eq_nil_or_concat n with rfl | ⟨p, x, rfl⟩
  · rfl
  · rw [List.concat_eq_append] at *
    have e1 : ln (p ++ [x]) = ((p.length + 1 : Nat) : Int) := by unfold ln; rw [List.length_append]; rfl
    have e2 : subI .i64 ((p.length + 1 : Nat) : Int) 1 = ((p.length : Nat) : Int) := by rw [subI_i _ _ (by rw [List.length_append] at hl; omega)]; omega
    have e3 : cutI (p ++ [x]) ((p.length : Nat) : Int) ((p.length + 1 : Nat) : Int) = some [x] := by
      rw [cutI_n _ _ _ (by omega) (by rw [List.length_append]; simp), List.take_of_length_le (by rw [List.length_append]; simp), List.drop_left]
    rw [e1, leI_t (by omega), cond_true, e2, e3, Option.bind_some, eqS_d, List.getLast?_concat]
    by_cases hx : x = 46
    · subst hx; rfl
    · rw [decide_eq_false (by simpa using hx)]
      have : (some x == some (46 : UInt8)) = false := by simpa using hx
      rw [this]; rfl
theorem dname_Valid_eq (N : Nat) (n : List UInt8) (hN : 1000 < N) : dname_Valid N n = some (nameOk n) := by
  unfold dname_Valid nameOk
  rw [eqS_d]
  by_cases h1 : n = [46]
  · subst h1; rfl
  · rw [decide_eq_false h1, cond_false, show (n == [46]) = false by simpa using h1, Bool.false_or]
    rcases Nat.lt_or_ge 254 n.length with h2 | h2
    · rw [leI_t (by unfold ln; omega), cond_true, decide_eq_false (by omega)]; rfl
    · rw [leI_f (by unfold ln; omega), cond_false, decide_eq_true h2, suffix_dot N n (by omega), Option.bind_some]
      cases hs : n.getLast? == some 46 with
      | false => rfl
      | true =>
        have hs' : n.getLast? = some 46 := by simpa using hs
        have hne : n ≠ [] := by intro e; subst e; cases hs'
        have h1' : 1 ≤ n.length := List.length_pos_iff.2 hne
        have e1 : subI .i64 (ln n) 1 = ((n.length - 1 : Nat) : Int) := by unfold ln; rw [subI_i _ _ (by omega)]; omega
        have e2 : cutI n 0 ((n.length - 1 : Nat) : Int) = some n.dropLast := by rw [cutI_to _ _ (by omega), List.dropLast_eq_take]
        have hdl : n.dropLast.length ≤ 254 := by rw [List.length_dropLast]; omega
        have hsl := splitB_len 46 n.dropLast
        have hcl : List.count 46 n.dropLast ≤ n.dropLast.length := List.count_le_length ..
        have := valid_loop N hN (splitB 46 n.dropLast) (by omega) N 0 (by omega) (by omega)
        have this' : dname_Valid_L0 N N (splitB 46 n.dropLast) (ln (splitB 46 n.dropLast)) 0 = _ := this
        simp only [cond_true, e1, e2, Option.bind_some, strings_Split_one N n.dropLast 46 (by omega) (by omega), O2.el, this', List.drop_zero]
        rw [show ((0 : Nat) == 0) = true from rfl]
        cases labsOk true (splitB 46 n.dropLast) <;> rfl
/-- The reference's way through a name. -/
theorem split_loop (N : Nat) (hN : 1000 < N) (q : List UInt8) (hq : q.length ≤ 300) : ∀ (m n : Nat) (p cur r : List UInt8) (acc : List (List UInt8)), r.length = m → q = p ++ cur ++ r → 46 ∉ cur → m < n → acc.length ≤ 300 - r.length →
    r01_split_L0 N n q acc (p.length : Int) ((p.length + cur.length : Nat) : Int) = some (bif labsOk (p.length == 0) (splitB 46 (cur ++ r)).dropLast then .b (acc ++ (splitB 46 (cur ++ r)).dropLast) else .a ([], false))
  | 0, n + 1, p, cur, r, acc, hr, hq', hc, hm, ha => by
    have : r = [] := List.length_eq_zero_iff.1 hr
    subst this
    unfold r01_split_L0
    have e1 : ln q = ((p.length + cur.length : Nat) : Int) := by unfold ln; rw [hq', List.length_append, List.length_append]; simp
    rw [e1, ltI_f (by omega), cond_false, List.append_nil, splitB_none 46 cur hc]
    simp [labsOk]
  | m + 1, n + 1, p, cur, r, acc, hr, hq', hc, hm, ha => by
    obtain ⟨x, r, rfl⟩ : ∃ x t, r = x :: t := by
      cases r with
      | nil => simp at hr
      | cons x t => exact ⟨x, t, rfl⟩
    have hlq : q.length = p.length + cur.length + (r.length + 1) := by rw [hq']; simp; omega
    have e1 : ln q = ((p.length + cur.length + (r.length + 1) : Nat) : Int) := by unfold ln; rw [hlq]
    have e2 : q[p.length + cur.length]? = some x := by
      rw [hq', List.getElem?_append_right (by rw [List.length_append]; omega), List.length_append, Nat.sub_self]
      rfl
    unfold r01_split_L0
    rw [e1, ltI_t (by omega), cond_true, atI_n, e2, Option.bind_some, eqI_n, addI_l _ 1 (by omega)]
    by_cases hx : x = 46
    · subst hx
      have e3 : cutI q (p.length : Int) ((p.length + cur.length : Nat) : Int) = some cur := by
        rw [cutI_n _ _ _ (by omega) (by omega), hq', List.take_append_of_le_length (by rw [List.length_append]; omega), List.take_of_length_le (by rw [List.length_append]; omega), List.drop_left]
      have e4 : (splitB 46 (cur ++ 46 :: r)).dropLast = cur :: (splitB 46 r).dropLast := by rw [splitB_app 46 cur r hc, List.dropLast_cons_of_ne_nil (splitB_ne 46 r)]
      have ih := split_loop N hN q hq m n (p ++ cur ++ [46]) [] r (acc ++ [cur]) (by simp at hr; exact hr) (by rw [hq']; simp) (by simp) (by omega) (by simp at ha ⊢; omega)
      have e5 : (((p ++ cur ++ [46]).length : Nat) : Int) = ((p.length + cur.length + 1 : Nat) : Int) := by simp only [List.length_append, List.length_cons, List.length_nil]; try omega
      have e6 : (((p ++ cur ++ [46]).length + ([] : List UInt8).length : Nat) : Int) = ((p.length + cur.length + 1 : Nat) : Int) := by simp only [List.length_append, List.length_cons, List.length_nil]; try omega
      have e7 : ((p ++ cur ++ [46]).length == 0) = false := by simp
      rw [e5, e6, e7, List.nil_append] at ih
      have er : room1 acc 1 16 = true := room1_ok acc 1 16 (by simp at ha; omega) (by simp at ha; omega)
      rw [show decide (((46 : UInt8)).toNat = 46) = true from rfl, cond_true, e3, Option.bind_some, r01_isLabel_eq N cur hN, Option.bind_some, ih, er, e4, eqS_d, labsOk]
      by_cases h42 : cur = [42]
      · subst h42
        cases p with
        | nil => simp [labOk, labCh, ltI]; try (cases labsOk false (splitB 46 r).dropLast <;> simp)
        | cons y p =>
          have hy : ltI 0 (((y :: p).length : Nat) : Int) = true := ltI_t (by simp only [List.length_cons]; omega)
          rw [hy]
          simp [labOk, labCh]
      · rw [decide_eq_false h42, show (cur == [42]) = false by simpa using h42]
        cases labOk cur with
        | false => simp
        | true => simp; try (cases labsOk false (splitB 46 r).dropLast <;> simp)
    · have hx' : ¬ x.toNat = 46 := fun e => hx (UInt8.toNat_inj.1 e)
      have ih := split_loop N hN q hq m n p (cur ++ [x]) r acc (by simp at hr; exact hr) (by rw [hq']; simp) (by simp [hc]; exact fun e => hx e.symm) (by omega) (by simp at ha ⊢; omega)
      rw [decide_eq_false hx', cond_false]
      have e5 : ((p.length + (cur ++ [x]).length : Nat) : Int) = ((p.length + cur.length + 1 : Nat) : Int) := by simp only [List.length_append, List.length_cons, List.length_nil]; try omega
      rw [e5, List.append_assoc] at ih
      exact ih
theorem r01_split_eq (N : Nat) (n : List UInt8) (hN : 1000 < N) : r01_split N n = some (if nameOk n then (if n = [46] then [] else splitB 46 n.dropLast, true) else ([], false)) := by
  unfold r01_split nameOk
  rw [eqS_d]
  by_cases h1 : n = [46]
  · subst h1; rfl
  · rw [decide_eq_false h1, cond_false, show (n == [46]) = false by simpa using h1, Bool.false_or, if_neg h1]
    rcases List.eq_nil_or_concat n with rfl | ⟨p, x, rfl⟩
    · rfl
    · rw [List.concat_eq_append] at *
      have e1 : ln (p ++ [x]) = ((p.length + 1 : Nat) : Int) := by unfold ln; rw [List.length_append]; rfl
      rcases Nat.lt_or_ge (p.length + 1) 2 with h2 | h2
      · have : p = [] := List.length_eq_zero_iff.1 (by omega)
        subst this
        rw [e1, ltI_t (by omega), cond_true]
        have hx : ¬ x = 46 := fun e => h1 (by rw [e]; rfl)
        simp [hx]
      · rw [e1, ltI_f (by omega), cond_false]
        rcases Nat.lt_or_ge 254 (p.length + 1) with h3 | h3
        · rw [ltI_t (by omega), cond_true, decide_eq_false (by rw [List.length_append]; simp; omega)]; rfl
        · have e2 : subI .i64 ((p.length + 1 : Nat) : Int) 1 = ((p.length : Nat) : Int) := by rw [subI_i _ _ (by omega)]; omega
          have e3 : (p ++ [x])[p.length]? = some x := by simp
          rw [ltI_f (by omega), cond_false, e2, atI_n, e3, Option.bind_some, decide_eq_true (by rw [List.length_append]; simp; omega), List.getLast?_concat, List.dropLast_concat, eqI_n]
          by_cases hx : x = 46
          · subst hx
            have := split_loop N hN (p ++ [46]) (by simp; try omega) (p ++ [46]).length N [] [] (p ++ [46]) [] rfl (by simp) (by simp) (by simp; try omega) (by simp; try omega)
            have this' : r01_split_L0 N N (p ++ [46]) [] 0 0 = _ := this
            rw [this', List.nil_append, splitB_snoc, List.dropLast_concat]
            simp
            cases labsOk true (splitB 46 p) <;> simp
          · have hx' : ¬ x.toNat = 46 := fun e => hx (UInt8.toNat_inj.1 e)
            rw [decide_eq_false hx', cond_false]
            simp [hx]
theorem r01_Valid_eq (N : Nat) (n : List UInt8) (hN : 1000 < N) : r01_Valid N n = some (nameOk n) := by
  unfold r01_Valid
  rw [r01_split_eq N n hN, Option.bind_some]
  cases nameOk n <;> rfl
end Go.Ev
/- More reckoning with the words of the plain functions. Condition: none. -/
namespace Go.Ev
set_option linter.all false
theorem catI_ok (a b : List UInt8) (h : a.length + b.length ≤ 1000000000000000) : catI a b = some (a ++ b) := by
  unfold catI
  rw [if_pos (by omega)]
theorem remI_n (k : IntKind) (a b : Nat) (hb : b ≠ 0) : remI k (a : Int) (b : Int) = some ((a % b : Nat) : Int) := by
  unfold remI
  rw [if_neg (by omega)]
  rfl
theorem remI_l (k : IntKind) (a b : Nat) (hb : b ≠ 0) : remI k (a : Int) (no_index (OfNat.ofNat b)) = some ((a % b : Nat) : Int) := remI_n k a b hb
theorem div_le (a b M : Nat) (h : a ≤ M) : a / b ≤ M := Nat.le_trans (Nat.div_le_self a b) h
theorem quoI_u64 (a b : Nat) (h : a ≤ 18446744073709551615) (hb : b ≠ 0) : quoI .u64 (a : Int) (no_index (OfNat.ofNat b)) = some ((a / b : Nat) : Int) := by
  show quoI .u64 (a : Int) ((b : Nat) : Int) = _
  unfold quoI
  rw [if_neg (by omega)]
  have := div_le a b _ h
  show some (IntKind.u64.wrap ((a / b : Nat) : Int)) = _
  generalize a / b = q at *
  rw [IntWalk.u64_in _ (by omega)]
theorem shrI_u64 (a s : Nat) (h : s ≤ 64) : shrI .u64 (a : Int) (s : Int) = some ((a / 2 ^ s : Nat) : Int) := by
  unfold shrI
  rw [if_neg (by omega), Int.toNat_natCast]
  have e : min s IntKind.u64.bits = s := Nat.min_eq_left h
  rw [e]
  congr 1
  show Int.fdiv (a : Int) (2 ^ s) = _
  rw [Int.fdiv_eq_ediv_of_nonneg _ (by exact Int.pow_nonneg (by omega))]
  rw [Int.natCast_ediv, Int.natCast_pow]
  rfl
theorem convI_u64 (a : Int) (h : 0 ≤ a ∧ a ≤ 18446744073709551615) : convI .u64 a = a := IntWalk.u64_in a h
theorem convI_u16 (a : Int) : convI .u16 a = a % 65536 := by
  unfold convI IntKind.wrap
  simp [IntKind.bits, IntKind.signed]
theorem addI_u64 (a b : Int) (h : 0 ≤ a + b ∧ a + b ≤ 18446744073709551615) : addI .u64 a b = a + b := IntWalk.u64_in _ h
theorem subI_u64 (a b : Int) (h : 0 ≤ a - b ∧ a - b ≤ 18446744073709551615) : subI .u64 a b = a - b := IntWalk.u64_in _ h
theorem mulI_u64 (a b : Int) (h : 0 ≤ a * b ∧ a * b ≤ 18446744073709551615) : mulI .u64 a b = a * b := IntWalk.u64_in _ h
theorem andI_u64 (a b : Nat) (ha : a ≤ 18446744073709551615) (hb : b ≤ 18446744073709551615) : andI .u64 (a : Int) (b : Int) = ((a &&& b : Nat) : Int) := by
  unfold andI
  have e : ∀ x : Nat, x ≤ 18446744073709551615 → (BitVec.ofInt IntKind.u64.bits (x : Int)).toNat = x := fun x hx => by
    show (BitVec.ofInt 64 (x : Int)).toNat = x
    rw [BitVec.toNat_ofInt]
    omega
  rw [BitVec.toNat_and, e a ha, e b hb]
  have : a &&& b ≤ a := Nat.and_le_left
  exact IntWalk.u64_in _ (by omega)
theorem orI_u64 (a b : Nat) (ha : a ≤ 18446744073709551615) (hb : b ≤ 18446744073709551615) : orI .u64 (a : Int) (b : Int) = ((a ||| b : Nat) : Int) := by
  unfold orI
  have e : ∀ x : Nat, x ≤ 18446744073709551615 → (BitVec.ofInt IntKind.u64.bits (x : Int)).toNat = x := fun x hx => by
    show (BitVec.ofInt 64 (x : Int)).toNat = x
    rw [BitVec.toNat_ofInt]
    omega
  rw [BitVec.toNat_or, e a ha, e b hb]
  have : a ||| b < 2 ^ 64 := Nat.or_lt_two_pow (Nat.lt_of_le_of_lt ha (by decide)) (Nat.lt_of_le_of_lt hb (by decide))
  exact IntWalk.u64_in _ (by omega)
theorem u8_n (n : Nat) : u8 (n : Int) = UInt8.ofNat n := by unfold u8; rw [Int.toNat_natCast]
theorem inN_t (i m : Nat) (h : i < m) : inN (i : Int) m = true := by unfold inN; rw [Bool.and_eq_true, decide_eq_true_iff, decide_eq_true_iff]; omega
theorem setO_n {α : Type} (l : List α) (i : Nat) (v : α) (h : i < l.length) : setO l 0 (i : Int) v = some (l.set i v) := by
  unfold setO
  rw [Int.toNat_natCast, Nat.zero_add, if_pos h]
theorem winI_ok {α : Type} (l : List α) (o m : Nat) (h : o + m ≤ l.length) : winI l o m = some ((l.drop o).take m) := by unfold winI; rw [if_pos h]
theorem arrI0_n (h m : Nat) (hh : h ≤ m) : arrI0 (h : Int) m = some h := by unfold arrI0; rw [if_pos (by omega), Int.toNat_natCast]
theorem arrI_n (lo hi m : Nat) (h : lo ≤ hi) (h2 : hi ≤ m) : arrI (lo : Int) (hi : Int) m = some (lo, hi - lo) := by unfold arrI; rw [if_pos (by omega), Int.toNat_natCast, Int.toNat_natCast]
theorem mkI_n (n b : Nat) (h : n * b ≤ 140737488355328) : mkI (n : Int) b = some n := by
  unfold mkI
  rw [if_pos ⟨by omega, by rw [← Int.natCast_mul]; exact Int.ofNat_le.2 h⟩, Int.toNat_natCast]
end Go.Ev
/- Types of records: the program's and the reference's answers. Condition: none. -/
namespace Go.Ev
set_option linter.all false
set_option maxHeartbeats 1000000
theorem eqI_comm (a b : Int) : eqI a b = eqI b a := by
  rw [Bool.eq_iff_iff, eqI_iff, eqI_iff]
  exact ⟨Eq.symm, Eq.symm⟩
theorem cond_some {α : Type} (b : Bool) (x y : α) : (bif b then some x else some y) = some (bif b then x else y) := by cases b <;> rfl
theorem cond_andR (b x : Bool) : (bif b then x else false) = (b && x) := by cases b <;> rfl
theorem cond_tf (b : Bool) : (bif b then true else false) = b := by cases b <;> rfl
theorem cond_ft (b : Bool) : (bif b then false else true) = !b := by cases b <;> rfl
theorem cond_nandR (b x : Bool) : (bif b then false else x) = (!b && x) := by cases b <;> rfl
theorem cond_same {α : Type} (b : Bool) (x : α) : (bif b then x else x) = x := by cases b <;> rfl
theorem eqI_self (a : Int) : eqI a a = true := eqI_t rfl
/-- The name of a type. -/
def mnL (t : Int) : List UInt8 := bif eqI t 1 then [65] else bif eqI t 2 then [78, 83] else bif eqI t 5 then [67, 78, 65, 77, 69] else bif eqI t 6 then [83, 79, 65] else bif eqI t 12 then [80, 84, 82] else bif eqI t 15 then [77, 88] else bif eqI t 16 then [84, 88, 84] else bif eqI t 28 then [65, 65, 65, 65] else bif eqI t 33 then [83, 82, 86] else bif eqI t 39 then [68, 78, 65, 77, 69] else bif eqI t 43 then [68, 83] else bif eqI t 46 then [82, 82, 83, 73, 71] else bif eqI t 47 then [78, 83, 69, 67] else bif eqI t 48 then [68, 78, 83, 75, 69, 89] else []
def knL (t : Int) : Bool := !eqS (mnL t) []
theorem r05_Mnemonic_eq (N : Nat) (t : Int) : r05_Mnemonic N t = some (mnL t) := by
  unfold r05_Mnemonic mnL
  simp only [cond_some]
theorem r05_Known_eq (N : Nat) (t : Int) : r05_Known N t = some (knL t) := by
  unfold r05_Known knL
  rw [r05_Mnemonic_eq, Option.bind_some]
  cases eqS (mnL t) [] <;> rfl
def findGo (t : Int) : List Rw3 → O2 (Bool × Int × List UInt8 × List UInt8) Unit
  | [] => .b ()
  | k :: r => bif eqI k.c0 t then .a (true, k.c0, k.c1, k.c2) else findGo t r
def findM (t : Int) : List Rw3 → List UInt8
  | [] => []
  | k :: r => bif eqI k.c0 t then k.c1 else findM t r
theorem find_loop (N : Nat) (t : Int) (K : List Rw3) (hK : K.length ≤ 1000) (a : Int) (b c : List UInt8) : ∀ (n i : Nat), i ≤ K.length → K.length < i + n → rdata_find_L0 N n t K (ln K) (i : Int) a b c = some (findGo t (K.drop i))
  | 0, i, _, h => by omega
  | n + 1, i, hi, h => by
    unfold rdata_find_L0
    rcases at_cases K i (by omega) with ⟨h0, h1, h2, _⟩ | ⟨k, hc, hd, hlt, h2, _, h4⟩
    · rw [h2, h0]; rfl
    · rw [h2, cond_true, atI_n, hc, Option.bind_some, h4, find_loop N t K hK a b c n (i + 1) (by omega) (by omega), hd, findGo]
      cases eqI k.c0 t <;> rfl
theorem findGo_M (t : Int) : ∀ K : List Rw3, (∀ k ∈ K, k.c1 ≠ []) → (∃ k, findGo t K = .a (true, k) ∧ k.2.1 = findM t K ∧ findM t K ≠ [] ∧ k.1 = t) ∨ (findGo t K = .b () ∧ findM t K = [])
  | [], _ => .inr ⟨rfl, rfl⟩
  | k :: r, h => by
    unfold findGo findM
    cases he : eqI k.c0 t with
    | true => exact .inl ⟨(k.c0, k.c1, k.c2), rfl, rfl, h k (by simp), eqI_iff.1 he⟩
    | false => exact findGo_M t r fun x hx => h x (by simp [hx])
def kindsL : List Rw3 := [(⟨1, ([65] : List UInt8), ([52] : List UInt8)⟩ : Rw3), (⟨2, ([78, 83] : List UInt8), ([104] : List UInt8)⟩ : Rw3), (⟨5, ([67, 78, 65, 77, 69] : List UInt8), ([104] : List UInt8)⟩ : Rw3), (⟨6, ([83, 79, 65] : List UInt8), ([104, 109, 118, 119, 120, 121, 122] : List UInt8)⟩ : Rw3), (⟨12, ([80, 84, 82] : List UInt8), ([104] : List UInt8)⟩ : Rw3), (⟨15, ([77, 88] : List UInt8), ([65, 104] : List UInt8)⟩ : Rw3), (⟨16, ([84, 88, 84] : List UInt8), ([116] : List UInt8)⟩ : Rw3), (⟨28, ([65, 65, 65, 65] : List UInt8), ([54] : List UInt8)⟩ : Rw3), (⟨33, ([83, 82, 86] : List UInt8), ([65, 66, 67, 104] : List UInt8)⟩ : Rw3), (⟨39, ([68, 78, 65, 77, 69] : List UInt8), ([104] : List UInt8)⟩ : Rw3), (⟨43, ([68, 83] : List UInt8), ([65, 98, 99, 114] : List UInt8)⟩ : Rw3), (⟨46, ([82, 82, 83, 73, 71] : List UInt8), ([65, 115, 98, 120, 121, 122, 70, 104, 114] : List UInt8)⟩ : Rw3), (⟨47, ([78, 83, 69, 67] : List UInt8), ([104, 110] : List UInt8)⟩ : Rw3), (⟨48, ([68, 78, 83, 75, 69, 89] : List UInt8), ([65, 98, 99, 114] : List UInt8)⟩ : Rw3)]
theorem kinds_M (t : Int) : findM t kindsL = mnL t := by
  unfold kindsL mnL
  simp only [findM, eqI_comm t]
theorem kinds_ne : ∀ k ∈ kindsL, k.c1 ≠ [] := by decide
theorem rdata_find_eq (N : Nat) (t : Int) (hN : 1000 < N) : ∃ r, rdata_find N t = some r ∧ r.2.1 = mnL t ∧ r.2.2.2 = knL t := by
  unfold rdata_find
  have e : rdata_kinds N = some kindsL := rfl
  have h := find_loop N t kindsL (by decide) 0 [] [] N 0 (by omega) (by show 14 < _; omega)
  have h' : rdata_find_L0 N N t kindsL (ln kindsL) 0 0 [] [] = _ := h
  rw [e, Option.bind_some, h', List.drop_zero, Option.bind_some]
  unfold knL
  rcases findGo_M t kindsL kinds_ne with ⟨k, h1, h2, h3, _⟩ | ⟨h1, h2⟩
  · rw [h1]
    rw [kinds_M] at h2 h3
    exact ⟨_, rfl, h2, by rw [eqS_f h3]; rfl⟩
  · rw [h1]
    rw [kinds_M] at h2
    exact ⟨_, rfl, h2.symm, by rw [h2]; rfl⟩
theorem rdata_Known_eq (N : Nat) (t : Int) (hN : 1000 < N) : rdata_Known N t = some (knL t) := by
  obtain ⟨r, h1, h2, h3⟩ := rdata_find_eq N t hN
  unfold rdata_Known
  rw [h1, Option.bind_some, h3]
theorem rdata_Mnemonic_eq (N : Nat) (t : Int) (hN : 1000 < N) : rdata_Mnemonic N t = some (mnL t) := by
  obtain ⟨r, h1, h2, h3⟩ := rdata_find_eq N t hN
  unfold rdata_Mnemonic
  rw [h1, Option.bind_some, h2]
/-- A name in data. -/
def hostOk (n : List UInt8) : Bool := nameOk n && !(n[0]? == some 42)
theorem nameOk_ne {n : List UInt8} (h : nameOk n = true) : ∃ c r, n = c :: r := by
  cases n with
  | nil => cases h
  | cons c r => exact ⟨c, r, rfl⟩
theorem r05_host_eq (N : Nat) (n : List UInt8) (hN : 1000 < N) : r05_host N n = some (hostOk n) := by
  unfold r05_host hostOk
  rw [r01_Valid_eq N n hN, Option.bind_some]
  cases h : nameOk n with
  | false => rfl
  | true =>
    obtain ⟨c, r, rfl⟩ := nameOk_ne h
    have e : atI (c :: r) 0 = some c := rfl
    rw [cond_true, e, Option.bind_some, eqI_n]
    by_cases hc : c = 42
    · subst hc; rfl
    · have hc' : ¬ c.toNat = 42 := fun e => hc (UInt8.toNat_inj.1 e)
      rw [decide_eq_false hc']
      have : (some c == some (42 : UInt8)) = false := by simpa using hc
      show some true = some (true && !(some c == some (42 : UInt8)))
      rw [this]; rfl
theorem rdata_host_eq (N : Nat) (n : List UInt8) (hN : 1000 < N) : rdata_host N n = some (hostOk n) := by
  unfold rdata_host hostOk
  rw [dname_Valid_eq N n hN, Option.bind_some]
  cases h : nameOk n with
  | false => rfl
  | true =>
    obtain ⟨c, r, rfl⟩ := nameOk_ne h
    unfold strings_HasPrefix i_stringslite_HasPrefix
    have e : cutI (c :: r) 0 1 = some [c] := by rw [show (1 : Int) = ((1 : Nat) : Int) from rfl, cutI_to _ _ (by simp)]; rfl
    have e2 : leI 1 (ln (c :: r)) = true := leI_t (by unfold ln; simp only [List.length_cons]; omega)
    rw [cond_true, ln_one, e2, cond_true, e, Option.bind_some, eqS_d]
    by_cases hc : c = 42
    · subst hc; rfl
    · rw [decide_eq_false (by simpa using hc)]
      have : (some c == some (42 : UInt8)) = false := by simpa using hc
      show some true = some (true && !(some c == some (42 : UInt8)))
      rw [this]; rfl
def inR (x m : Int) : Bool := leI 0 x && leI x m
def lenT (s : List UInt8) : Bool := leI 1 (ln s) && leI (ln s) 255
theorem within_eq (N : Nat) (x m : Int) : rdata_within N x m = some (inR x m) := by
  unfold rdata_within inR
  simp only [cond_some, cond_tf, cond_andR, Bool.and_true]
theorem in_eq (N : Nat) (x m : Int) : r05_in N x m = some (inR x m) := by
  unfold r05_in inR
  simp only [cond_some, cond_tf, cond_andR, Bool.and_true]
theorem long_eq (N : Nat) (s : List UInt8) : rdata_long N s = some (lenT s) := by
  unfold rdata_long lenT
  simp only [cond_some, cond_tf, cond_andR, Bool.and_true]
theorem text_eq (N : Nat) (s : List UInt8) : r05_text N s = some (lenT s) := by
  unfold r05_text lenT
  simp only [cond_some, cond_tf, cond_andR, Bool.and_true]
theorem lt_le32 (x : Int) : ltI x 4294967296 = leI x 4294967295 := by
  rw [Bool.eq_iff_iff, ltI_iff, leI_iff]
  omega
theorem serial_eq (N : Nat) (x : Int) : serial_Valid N x = some (inR x 4294967295) := by
  unfold serial_Valid inR
  simp only [cond_some, cond_tf, cond_andR, Bool.and_true, lt_le32]
theorem r04_eq (N : Nat) (x : Int) : r04_Valid N x = some (inR x 4294967295) := by
  unfold r04_Valid inR
  simp only [cond_some, cond_tf, cond_andR, Bool.and_true, lt_le32]
def adrOk (hi lo : Int) : Bool := eqI hi 0 && leI lo 4294967295
theorem adr_t (N : Nat) (hi lo : Int) : addr_Valid N true hi lo = some true := rfl
theorem adr_f (N : Nat) (hi lo : Int) : addr_Valid N false hi lo = some (adrOk hi lo) := by
  unfold addr_Valid adrOk
  simp only [cond_some, cond_tf, cond_andR, Bool.and_true, cond_false]
theorem r02_t (N : Nat) (hi lo : Int) : r02_Valid N true hi lo = some true := rfl
theorem r02_f (N : Nat) (hi lo : Int) : r02_Valid N false hi lo = some (adrOk hi lo) := by
  unfold r02_Valid adrOk
  simp only [cond_some, cond_tf, cond_andR, Bool.and_true, cond_false, lt_le32]
/-! ### Sets of types -/
def bitsOk (b : Nat) : Bool := (List.range 64).all fun j => !b.testBit j || knL (j : Int)
theorem bit_at (b j : Nat) (hb : b ≤ 18446744073709551615) (hj : j < 64) : ∃ x : Int, shrI .u64 (b : Int) (j : Int) = some x ∧ eqI (andI .u64 x 1) 1 = b.testBit j := by
  refine ⟨_, shrI_u64 b j (by omega), ?_⟩
  have e := andI_u64 (b / 2 ^ j) 1 (div_le _ _ _ hb) (by omega)
  have e' : andI .u64 ((b / 2 ^ j : Nat) : Int) 1 = (((b / 2 ^ j) &&& 1 : Nat) : Int) := e
  rw [e', Nat.and_one_is_mod, Nat.testBit_eq_decide_div_mod_eq, Bool.eq_iff_iff, eqI_iff, decide_eq_true_iff]
  omega
theorem all_loop (N b : Nat) (hb : b ≤ 18446744073709551615) : ∀ (m n i : Nat), i + m = 64 → m < n → r05_all_L0 N n (b : Int) (i : Int) = some (bif (List.range' i m).all (fun j => !b.testBit j || knL (j : Int)) then .b () else .a false)
  | 0, n + 1, i, hi, hn => by
    unfold r05_all_L0
    rw [ltI_f (by omega)]
    rfl
  | m + 1, n + 1, i, hi, hn => by
    obtain ⟨x, h1, h2⟩ := bit_at b i hb (by omega)
    unfold r05_all_L0
    rw [ltI_t (by omega), cond_true, convI_u64 _ (by omega), h1, Option.bind_some, h2, r05_Known_eq, Option.bind_some, addI_l i 1 (by omega), all_loop N b hb m n (i + 1) (by omega) (by omega), List.range'_succ, List.all_cons]
    cases b.testBit i <;> cases knL (i : Int) <;> rfl
theorem r05_all_eq (N b : Nat) (hb : b ≤ 18446744073709551615) (hN : 1000 < N) : r05_all N (b : Int) = some (bitsOk b) := by
  unfold r05_all bitsOk
  have h := all_loop N b hb 64 N 0 (by omega) (by omega)
  have h' : r05_all_L0 N N (b : Int) 0 = _ := h
  rw [h', List.range_eq_range', Option.bind_some]
  cases (List.range' 0 64).all (fun j => !b.testBit j || knL (j : Int)) <;> rfl
def allC : Nat := 501935916552294
theorem allC_bit : ∀ j, j < 64 → allC.testBit j = knL (j : Int) := by
  have : ∀ j : Fin 64, allC.testBit j.val = knL (j.val : Int) := by decide +kernel
  exact fun j h => this ⟨j, h⟩
def orGo : List Rw3 → Int → Option Int
  | [], acc => some acc
  | k :: r, acc => (shlI .u64 1 k.c0).bind fun x => orGo r (orI .u64 acc x)
theorem or_loop (N : Nat) (K : List Rw3) (hK : K.length ≤ 1000) : ∀ (n i : Nat) (acc : Int), i ≤ K.length → K.length < i + n → rdata_all_L0 N n acc K (ln K) (i : Int) = orGo (K.drop i) acc
  | 0, i, acc, _, h => by omega
  | n + 1, i, acc, hi, h => by
    unfold rdata_all_L0
    rcases at_cases K i (by omega) with ⟨h0, h1, h2, _⟩ | ⟨k, hc, hd, hlt, h2, _, h4⟩
    · rw [h2, h0]; rfl
    · rw [h2, cond_true, atI_n, hc, Option.bind_some, h4, hd, orGo]
      congr 1
      funext x
      exact or_loop N K hK n (i + 1) _ (by omega) (by omega)
theorem rdata_all_eq (N : Nat) (hN : 1000 < N) : rdata_all N = some (allC : Int) := by
  unfold rdata_all
  have e : rdata_kinds N = some kindsL := rfl
  have k : orGo kindsL 0 = some (allC : Int) := by decide +kernel
  have h := or_loop N kindsL (by decide) N 0 0 (by omega) (by show 14 < _; omega)
  have h' : rdata_all_L0 N N 0 kindsL (ln kindsL) 0 = _ := h
  rw [e, Option.bind_some, h', List.drop_zero, k]
  rfl
theorem andNot_zero (b : Nat) (hb : b ≤ 18446744073709551615) : eqI (andNotI .u64 (b : Int) (allC : Int)) 0 = bitsOk b := by
  have e : ∀ x : Nat, BitVec.ofInt IntKind.u64.bits (x : Int) = BitVec.ofNat 64 x := fun x => by
    show BitVec.ofInt 64 (x : Int) = _
    exact BitVec.ofInt_natCast ..
  unfold andNotI
  rw [e b, e allC]
  have hx : (BitVec.ofNat 64 b &&& ~~~BitVec.ofNat 64 allC).toNat < 2 ^ 64 := BitVec.isLt _
  have hw : IntKind.u64.wrap (((BitVec.ofNat 64 b &&& ~~~BitVec.ofNat 64 allC).toNat : Nat) : Int) = (((BitVec.ofNat 64 b &&& ~~~BitVec.ofNat 64 allC).toNat : Nat) : Int) := IntWalk.u64_in _ (by omega)
  show eqI (IntKind.u64.wrap (((BitVec.ofNat 64 b &&& ~~~BitVec.ofNat 64 allC).toNat : Nat) : Int)) 0 = _
  rw [hw, Bool.eq_iff_iff, eqI_iff]
  unfold bitsOk
  rw [List.all_eq_true]
  constructor
  · intro h j hj
    have hj := List.mem_range.1 hj
    have h0 : BitVec.ofNat 64 b &&& ~~~BitVec.ofNat 64 allC = 0#64 := BitVec.eq_of_toNat_eq (by simpa using h)
    have h1 := congrArg (fun v : BitVec 64 => v.getLsbD j) h0
    simp only [BitVec.getLsbD_and, BitVec.getLsbD_not, BitVec.getLsbD_ofNat, BitVec.getLsbD_zero, hj, decide_true, Bool.true_and, allC_bit j hj] at h1
    cases hb1 : b.testBit j <;> cases hk : knL (j : Int) <;> simp_all
  · intro h
    have h0 : BitVec.ofNat 64 b &&& ~~~BitVec.ofNat 64 allC = 0#64 := by
      apply BitVec.eq_of_getLsbD_eq
      intro j hj
      have h1 := h j (List.mem_range.2 hj)
      simp only [BitVec.getLsbD_and, BitVec.getLsbD_not, BitVec.getLsbD_ofNat, BitVec.getLsbD_zero, hj, decide_true, Bool.true_and, allC_bit j hj]
      cases hb1 : b.testBit j <;> cases hk : knL (j : Int) <;> simp_all
    rw [h0]
    rfl
end Go.Ev
/- The types of a set: the program's and the reference's answers. Condition: none. -/
namespace Go.Ev
set_option linter.all false
set_option maxHeartbeats 1000000
/-- The types of a set. -/
def knownT : List Nat := [1, 2, 5, 6, 12, 15, 16, 28, 33, 39, 43, 46, 47, 48]
def tysL (b : Nat) : List Nat := knownT.filter fun j => b.testBit j
theorem types_loop (N b : Nat) (hb : b ≤ 18446744073709551615) (K : List Rw3) (hK : K.length ≤ 64) (hk : ∀ k ∈ K, 0 ≤ k.c0 ∧ k.c0 < 64) : ∀ (n i : Nat) (out : List Int), i ≤ K.length → K.length < i + n → out.length ≤ i → rdata_Types_L0 N n (b : Int) out K (ln K) (i : Int) = some (out ++ ((K.drop i).filter fun k => b.testBit k.c0.toNat).map (·.c0))
  | 0, i, out, _, h, _ => by omega
  | n + 1, i, out, hi, h, ho => by
    unfold rdata_Types_L0
    rcases at_cases K i (by omega) with ⟨h0, h1, h2, _⟩ | ⟨k, hc, hd, hlt, h2, _, h4⟩
    · rw [h2, h0]; simp
    · have hk' := hk k (List.mem_of_getElem? hc)
      obtain ⟨x, e1, e2⟩ := bit_at b k.c0.toNat hb (by omega)
      rw [Int.toNat_of_nonneg hk'.1] at e1
      rw [h2, cond_true, atI_n, hc, Option.bind_some, e1, Option.bind_some, e2, h4, room1_ok out 1 8 (by omega) (by omega), cond_true, hd, List.filter_cons]
      cases ht : b.testBit k.c0.toNat with
      | true =>
        rw [cond_true, types_loop N b hb K hK hk n (i + 1) _ (by omega) (by omega) (by rw [List.length_append]; simp; omega)]
        simp
      | false =>
        rw [cond_false, types_loop N b hb K hK hk n (i + 1) _ (by omega) (by omega) (by omega)]
        simp
theorem rdata_Types_eq (N b : Nat) (hb : b ≤ 18446744073709551615) (hN : 1000 < N) : rdata_Types N (b : Int) = some ((tysL b).map Int.ofNat) := by
  unfold rdata_Types
  have e : rdata_kinds N = some kindsL := rfl
  have h := types_loop N b hb kindsL (by decide) (by decide) N 0 [] (by omega) (by show 14 < _; omega) (by simp)
  have h' : rdata_Types_L0 N N (b : Int) [] kindsL (ln kindsL) 0 = _ := h
  rw [e, Option.bind_some, h', Option.bind_some, List.drop_zero, List.nil_append]
  congr 1
  have hk2 : kindsL.map (·.c0) = knownT.map Int.ofNat := by decide
  have gen : ∀ (K : List Rw3) (L : List Nat), K.map (·.c0) = L.map Int.ofNat → (K.filter fun k => b.testBit k.c0.toNat).map (·.c0) = (L.filter fun j => b.testBit j).map Int.ofNat := by
    intro K
    induction K with
    | nil =>
      intro L hL
      cases L with
      | nil => rfl
      | cons _ _ => simp at hL
    | cons k K ih =>
      intro L hL
      cases L with
      | nil => simp at hL
      | cons j L =>
        simp only [List.map_cons, List.cons.injEq] at hL
        have ih' := ih L hL.2
        rw [List.filter_cons, List.filter_cons, hL.1]
        show (if b.testBit (Int.ofNat j).toNat = true then _ else _ : List Rw3).map _ = _
        have : (Int.ofNat j).toNat = j := rfl
        rw [this]
        cases b.testBit j
        · exact ih'
        · show k.c0 :: _ = Int.ofNat j :: _
          rw [hL.1]
          congr 1
  exact gen kindsL knownT hk2
theorem r05_types_loop (N b : Nat) (hb : b ≤ 18446744073709551615) : ∀ (m n i : Nat) (out : List Int), i + m = 64 → m < n → out.length ≤ i → r05_Types_L0 N n (b : Int) out (i : Int) = some (out ++ ((List.range' i m).filter fun j => b.testBit j && knL (j : Int)).map Int.ofNat)
  | 0, n + 1, i, out, hi, hn, ho => by
    unfold r05_Types_L0
    rw [ltI_f (by omega)]
    simp
  | m + 1, n + 1, i, out, hi, hn, ho => by
    obtain ⟨x, h1, h2⟩ := bit_at b i hb (by omega)
    unfold r05_Types_L0
    rw [ltI_t (by omega), cond_true, convI_u64 _ (by omega), h1, Option.bind_some, h2, r05_Known_eq, Option.bind_some, addI_l i 1 (by omega), room1_ok out 1 8 (by omega) (by omega), cond_true, List.range'_succ, List.filter_cons]
    have f1 := r05_types_loop N b hb m n (i + 1) (out ++ [(i : Int)]) (by omega) (by omega) (by rw [List.length_append]; simp; omega)
    have f2 := r05_types_loop N b hb m n (i + 1) out (by omega) (by omega) (by omega)
    rw [f1, f2]
    cases b.testBit i <;> cases knL (i : Int) <;> simp
theorem r05_Types_eq (N b : Nat) (hb : b ≤ 18446744073709551615) (hN : 1000 < N) : r05_Types N (b : Int) = some ((tysL b).map Int.ofNat) := by
  unfold r05_Types
  have h := r05_types_loop N b hb 64 N 0 [] (by omega) (by omega) (by simp)
  have h' : r05_Types_L0 N N (b : Int) [] 0 = _ := h
  rw [h', Option.bind_some, List.nil_append]
  congr 2
  unfold tysL
  have hk : knownT = (List.range' 0 64).filter (fun j : Nat => knL (j : Int)) := by decide +kernel
  rw [hk, List.filter_filter]
end Go.Ev
/- Valid data: the program's and the reference's answers. Condition: none. -/
namespace Go.Ev
set_option linter.all false
set_option maxHeartbeats 8000000
set_option maxRecDepth 10000
theorem eqI_0 (a : Int) : eqI 0 a = eqI a 0 := eqI_comm 0 a
theorem eqS_0 (a : List UInt8) : eqS [] a = eqS a [] := by
  rw [eqS_d, eqS_d]
  by_cases h : a = []
  · subst h; rfl
  · rw [decide_eq_false h, decide_eq_false fun e => h e.symm]
theorem cond_or (b x y : Bool) : (bif b then x else (y && x)) = ((b || y) && x) := by cases b <;> cases x <;> cases y <;> rfl
theorem eqI_lit (a b : Nat) : eqI (no_index (OfNat.ofNat a)) (no_index (OfNat.ofNat b)) = decide (a = b) := by
  show (((a : Nat) : Int) == ((b : Nat) : Int)) = _
  rw [Bool.eq_iff_iff, beq_iff_eq, decide_eq_true_iff]
  omega
/-- Valid data. -/
def validL (t : Int) (v : Bool) (hi lo : Int) (ho ma tx : List UInt8) (a b c d e f bi : Int) : Bool :=
  if t = 1 then eqS ho [] && (eqS ma [] && (eqS tx [] && (eqI a 0 && (eqI b 0 && (eqI c 0 && (eqI d 0 && (eqI e 0 && (eqI f 0 && (eqI bi 0 && (!v && (adrOk hi lo))))))))))) else
  if t = 28 then eqS ho [] && (eqS ma [] && (eqS tx [] && (eqI a 0 && (eqI b 0 && (eqI c 0 && (eqI d 0 && (eqI e 0 && (eqI f 0 && (eqI bi 0 && (v)))))))))) else
  if t = 2 then !v && (eqI hi 0 && (eqI lo 0 && (eqS ma [] && (eqS tx [] && (eqI a 0 && (eqI b 0 && (eqI c 0 && (eqI d 0 && (eqI e 0 && (eqI f 0 && (eqI bi 0 && (hostOk ho)))))))))))) else
  if t = 5 then !v && (eqI hi 0 && (eqI lo 0 && (eqS ma [] && (eqS tx [] && (eqI a 0 && (eqI b 0 && (eqI c 0 && (eqI d 0 && (eqI e 0 && (eqI f 0 && (eqI bi 0 && (hostOk ho)))))))))))) else
  if t = 12 then !v && (eqI hi 0 && (eqI lo 0 && (eqS ma [] && (eqS tx [] && (eqI a 0 && (eqI b 0 && (eqI c 0 && (eqI d 0 && (eqI e 0 && (eqI f 0 && (eqI bi 0 && (hostOk ho)))))))))))) else
  if t = 39 then !v && (eqI hi 0 && (eqI lo 0 && (eqS ma [] && (eqS tx [] && (eqI a 0 && (eqI b 0 && (eqI c 0 && (eqI d 0 && (eqI e 0 && (eqI f 0 && (eqI bi 0 && (hostOk ho)))))))))))) else
  if t = 6 then !v && (eqI hi 0 && (eqI lo 0 && (eqS tx [] && (eqI f 0 && (eqI bi 0 && (hostOk ho && (hostOk ma && (inR a 4294967295 && (inR b 2147483647 && (inR c 2147483647 && (inR d 2147483647 && (inR e 2147483647)))))))))))) else
  if t = 15 then !v && (eqI hi 0 && (eqI lo 0 && (eqS ma [] && (eqS tx [] && (eqI b 0 && (eqI c 0 && (eqI d 0 && (eqI e 0 && (eqI f 0 && (eqI bi 0 && (hostOk ho && (inR a 65535)))))))))))) else
  if t = 16 then !v && (eqI hi 0 && (eqI lo 0 && (eqS ho [] && (eqS ma [] && (eqI a 0 && (eqI b 0 && (eqI c 0 && (eqI d 0 && (eqI e 0 && (eqI f 0 && (eqI bi 0 && (leI (ln tx) 255)))))))))))) else
  if t = 33 then !v && (eqI hi 0 && (eqI lo 0 && (eqS ma [] && (eqS tx [] && (eqI d 0 && (eqI e 0 && (eqI f 0 && (eqI bi 0 && (hostOk ho && (inR a 65535 && (inR b 65535 && (inR c 65535)))))))))))) else
  if t = 43 then !v && (eqI hi 0 && (eqI lo 0 && (eqS ho [] && (eqS ma [] && (eqI d 0 && (eqI e 0 && (eqI f 0 && (eqI bi 0 && (lenT tx && (inR a 65535 && (inR b 255 && (inR c 255)))))))))))) else
  if t = 46 then !v && (eqI hi 0 && (eqI lo 0 && (eqS ma [] && (eqI bi 0 && (lenT tx && (hostOk ho && (knL a && (!eqI a 46 && (inR b 127 && (inR c 2147483647 && (inR d 4294967295 && (inR e 4294967295 && (inR f 65535))))))))))))) else
  if t = 47 then !v && (eqI hi 0 && (eqI lo 0 && (eqS ma [] && (eqS tx [] && (eqI a 0 && (eqI b 0 && (eqI c 0 && (eqI d 0 && (eqI e 0 && (eqI f 0 && (nameOk ho && (!eqI bi 0 && (bitsOk bi.toNat))))))))))))) else
  if t = 48 then !v && (eqI hi 0 && (eqI lo 0 && (eqS ho [] && (eqS ma [] && (eqI d 0 && (eqI e 0 && (eqI f 0 && (eqI bi 0 && (lenT tx && ((eqI a 256 || eqI a 257) && (eqI b 3 && (inR c 255)))))))))))) else
  false
theorem kn_cases (t : Int) : t = 1 ∨ t = 28 ∨ t = 2 ∨ t = 5 ∨ t = 12 ∨ t = 39 ∨ t = 6 ∨ t = 15 ∨ t = 16 ∨ t = 33 ∨ t = 43 ∨ t = 46 ∨ t = 47 ∨ t = 48 ∨ (t ≠ 1 ∧ t ≠ 28 ∧ t ≠ 2 ∧ t ≠ 5 ∧ t ≠ 12 ∧ t ≠ 39 ∧ t ≠ 6 ∧ t ≠ 15 ∧ t ≠ 16 ∧ t ≠ 33 ∧ t ≠ 43 ∧ t ≠ 46 ∧ t ≠ 47 ∧ t ≠ 48) := by omega
theorem validL_1 (v : Bool) (hi lo : Int) (ho ma tx : List UInt8) (a b c d e f bi : Int) : validL 1 v hi lo ho ma tx a b c d e f bi = (eqS ho [] && (eqS ma [] && (eqS tx [] && (eqI a 0 && (eqI b 0 && (eqI c 0 && (eqI d 0 && (eqI e 0 && (eqI f 0 && (eqI bi 0 && (!v && (adrOk hi lo)))))))))))) := rfl
theorem validL_28 (v : Bool) (hi lo : Int) (ho ma tx : List UInt8) (a b c d e f bi : Int) : validL 28 v hi lo ho ma tx a b c d e f bi = (eqS ho [] && (eqS ma [] && (eqS tx [] && (eqI a 0 && (eqI b 0 && (eqI c 0 && (eqI d 0 && (eqI e 0 && (eqI f 0 && (eqI bi 0 && (v))))))))))) := rfl
theorem validL_2 (v : Bool) (hi lo : Int) (ho ma tx : List UInt8) (a b c d e f bi : Int) : validL 2 v hi lo ho ma tx a b c d e f bi = (!v && (eqI hi 0 && (eqI lo 0 && (eqS ma [] && (eqS tx [] && (eqI a 0 && (eqI b 0 && (eqI c 0 && (eqI d 0 && (eqI e 0 && (eqI f 0 && (eqI bi 0 && (hostOk ho))))))))))))) := rfl
theorem validL_5 (v : Bool) (hi lo : Int) (ho ma tx : List UInt8) (a b c d e f bi : Int) : validL 5 v hi lo ho ma tx a b c d e f bi = (!v && (eqI hi 0 && (eqI lo 0 && (eqS ma [] && (eqS tx [] && (eqI a 0 && (eqI b 0 && (eqI c 0 && (eqI d 0 && (eqI e 0 && (eqI f 0 && (eqI bi 0 && (hostOk ho))))))))))))) := rfl
theorem validL_12 (v : Bool) (hi lo : Int) (ho ma tx : List UInt8) (a b c d e f bi : Int) : validL 12 v hi lo ho ma tx a b c d e f bi = (!v && (eqI hi 0 && (eqI lo 0 && (eqS ma [] && (eqS tx [] && (eqI a 0 && (eqI b 0 && (eqI c 0 && (eqI d 0 && (eqI e 0 && (eqI f 0 && (eqI bi 0 && (hostOk ho))))))))))))) := rfl
theorem validL_39 (v : Bool) (hi lo : Int) (ho ma tx : List UInt8) (a b c d e f bi : Int) : validL 39 v hi lo ho ma tx a b c d e f bi = (!v && (eqI hi 0 && (eqI lo 0 && (eqS ma [] && (eqS tx [] && (eqI a 0 && (eqI b 0 && (eqI c 0 && (eqI d 0 && (eqI e 0 && (eqI f 0 && (eqI bi 0 && (hostOk ho))))))))))))) := rfl
theorem validL_6 (v : Bool) (hi lo : Int) (ho ma tx : List UInt8) (a b c d e f bi : Int) : validL 6 v hi lo ho ma tx a b c d e f bi = (!v && (eqI hi 0 && (eqI lo 0 && (eqS tx [] && (eqI f 0 && (eqI bi 0 && (hostOk ho && (hostOk ma && (inR a 4294967295 && (inR b 2147483647 && (inR c 2147483647 && (inR d 2147483647 && (inR e 2147483647))))))))))))) := rfl
theorem validL_15 (v : Bool) (hi lo : Int) (ho ma tx : List UInt8) (a b c d e f bi : Int) : validL 15 v hi lo ho ma tx a b c d e f bi = (!v && (eqI hi 0 && (eqI lo 0 && (eqS ma [] && (eqS tx [] && (eqI b 0 && (eqI c 0 && (eqI d 0 && (eqI e 0 && (eqI f 0 && (eqI bi 0 && (hostOk ho && (inR a 65535))))))))))))) := rfl
theorem validL_16 (v : Bool) (hi lo : Int) (ho ma tx : List UInt8) (a b c d e f bi : Int) : validL 16 v hi lo ho ma tx a b c d e f bi = (!v && (eqI hi 0 && (eqI lo 0 && (eqS ho [] && (eqS ma [] && (eqI a 0 && (eqI b 0 && (eqI c 0 && (eqI d 0 && (eqI e 0 && (eqI f 0 && (eqI bi 0 && (leI (ln tx) 255))))))))))))) := rfl
theorem validL_33 (v : Bool) (hi lo : Int) (ho ma tx : List UInt8) (a b c d e f bi : Int) : validL 33 v hi lo ho ma tx a b c d e f bi = (!v && (eqI hi 0 && (eqI lo 0 && (eqS ma [] && (eqS tx [] && (eqI d 0 && (eqI e 0 && (eqI f 0 && (eqI bi 0 && (hostOk ho && (inR a 65535 && (inR b 65535 && (inR c 65535))))))))))))) := rfl
theorem validL_43 (v : Bool) (hi lo : Int) (ho ma tx : List UInt8) (a b c d e f bi : Int) : validL 43 v hi lo ho ma tx a b c d e f bi = (!v && (eqI hi 0 && (eqI lo 0 && (eqS ho [] && (eqS ma [] && (eqI d 0 && (eqI e 0 && (eqI f 0 && (eqI bi 0 && (lenT tx && (inR a 65535 && (inR b 255 && (inR c 255))))))))))))) := rfl
theorem validL_46 (v : Bool) (hi lo : Int) (ho ma tx : List UInt8) (a b c d e f bi : Int) : validL 46 v hi lo ho ma tx a b c d e f bi = (!v && (eqI hi 0 && (eqI lo 0 && (eqS ma [] && (eqI bi 0 && (lenT tx && (hostOk ho && (knL a && (!eqI a 46 && (inR b 127 && (inR c 2147483647 && (inR d 4294967295 && (inR e 4294967295 && (inR f 65535)))))))))))))) := rfl
theorem validL_47 (v : Bool) (hi lo : Int) (ho ma tx : List UInt8) (a b c d e f bi : Int) : validL 47 v hi lo ho ma tx a b c d e f bi = (!v && (eqI hi 0 && (eqI lo 0 && (eqS ma [] && (eqS tx [] && (eqI a 0 && (eqI b 0 && (eqI c 0 && (eqI d 0 && (eqI e 0 && (eqI f 0 && (nameOk ho && (!eqI bi 0 && (bitsOk bi.toNat)))))))))))))) := rfl
theorem validL_48 (v : Bool) (hi lo : Int) (ho ma tx : List UInt8) (a b c d e f bi : Int) : validL 48 v hi lo ho ma tx a b c d e f bi = (!v && (eqI hi 0 && (eqI lo 0 && (eqS ho [] && (eqS ma [] && (eqI d 0 && (eqI e 0 && (eqI f 0 && (eqI bi 0 && (lenT tx && ((eqI a 256 || eqI a 257) && (eqI b 3 && (inR c 255))))))))))))) := rfl
theorem rdata_Valid_eq (N : Nat) (t : Int) (v : Bool) (hi lo : Int) (ho ma tx : List UInt8) (a b c d e f : Int) (bn : Nat) (hN : 1000 < N) (hb : bn ≤ 18446744073709551615) : rdata_Valid N t v hi lo ho ma tx a b c d e f (bn : Int) = some (validL t v hi lo ho ma tx a b c d e f (bn : Int)) := by
  rcases kn_cases t with rfl | rfl | rfl | rfl | rfl | rfl | rfl | rfl | rfl | rfl | rfl | rfl | rfl | rfl | ⟨h1, h28, h2, h5, h12, h39, h6, h15, h16, h33, h43, h46, h47, h48⟩
  case inr.inr.inr.inr.inr.inr.inr.inr.inr.inr.inr.inr.inr.inr => unfold rdata_Valid validL; simp only [eqI_f h1, eqI_f h28, eqI_f h2, eqI_f h5, eqI_f h12, eqI_f h39, eqI_f h6, eqI_f h15, eqI_f h16, eqI_f h33, eqI_f h43, eqI_f h46, eqI_f h47, eqI_f h48, cond_false, h1, h28, h2, h5, h12, h39, h6, h15, h16, h33, h43, h46, h47, h48, if_false]
  all_goals (unfold rdata_Valid; cases v <;> simp only [validL_1, validL_28, validL_2, validL_5, validL_12, validL_39, validL_6, validL_15, validL_16, validL_33, validL_43, validL_46, validL_47, validL_48, eqI_lit, Nat.reduceEqDiff, decide_true, decide_false, cond_true, cond_false, Option.bind_some, cond_some, cond_tf, cond_ft, cond_andR, cond_nandR, cond_same, Bool.and_true, Bool.true_and, Bool.not_true, Bool.not_false, Bool.false_and, Bool.and_false, eqI_self, eqS_t, eqI_0, eqS_0, rdata_host_eq _ _ hN, r05_host_eq _ _ hN, within_eq, in_eq, long_eq, text_eq, serial_eq, r04_eq, adr_t, adr_f, r02_t, r02_f, dname_Valid_eq _ _ hN, r01_Valid_eq _ _ hN, rdata_Known_eq _ _ hN, r05_Known_eq, rdata_all_eq _ hN, andNot_zero bn hb, r05_all_eq _ bn hb hN, Int.toNat_natCast])
  all_goals first | rfl | ac_rfl | (simp only [cond_or, Bool.and_assoc]; try ac_rfl)
theorem r05_Valid_eq (N : Nat) (t : Int) (v : Bool) (hi lo : Int) (ho ma tx : List UInt8) (a b c d e f : Int) (bn : Nat) (hN : 1000 < N) (hb : bn ≤ 18446744073709551615) : r05_Valid N t v hi lo ho ma tx a b c d e f (bn : Int) = some (validL t v hi lo ho ma tx a b c d e f (bn : Int)) := by
  rcases kn_cases t with rfl | rfl | rfl | rfl | rfl | rfl | rfl | rfl | rfl | rfl | rfl | rfl | rfl | rfl | ⟨h1, h28, h2, h5, h12, h39, h6, h15, h16, h33, h43, h46, h47, h48⟩
  case inr.inr.inr.inr.inr.inr.inr.inr.inr.inr.inr.inr.inr.inr => have hk : knL t = false := (by unfold knL mnL; simp only [eqI_f h1, eqI_f h28, eqI_f h2, eqI_f h5, eqI_f h12, eqI_f h39, eqI_f h6, eqI_f h15, eqI_f h16, eqI_f h33, eqI_f h43, eqI_f h46, eqI_f h47, eqI_f h48, cond_false]; rfl); unfold r05_Valid validL; simp only [r05_Known_eq, hk, Option.bind_some, cond_false, h1, h28, h2, h5, h12, h39, h6, h15, h16, h33, h43, h46, h47, h48, if_false]
  all_goals (unfold r05_Valid; unfold r05_used; cases v <;> simp only [show knL 1 = true from rfl, show knL 28 = true from rfl, show knL 2 = true from rfl, show knL 5 = true from rfl, show knL 12 = true from rfl, show knL 39 = true from rfl, show knL 6 = true from rfl, show knL 15 = true from rfl, show knL 16 = true from rfl, show knL 33 = true from rfl, show knL 43 = true from rfl, show knL 46 = true from rfl, show knL 47 = true from rfl, show knL 48 = true from rfl, validL_1, validL_28, validL_2, validL_5, validL_12, validL_39, validL_6, validL_15, validL_16, validL_33, validL_43, validL_46, validL_47, validL_48, eqI_lit, Nat.reduceEqDiff, decide_true, decide_false, cond_true, cond_false, Option.bind_some, cond_some, cond_tf, cond_ft, cond_andR, cond_nandR, cond_same, Bool.and_true, Bool.true_and, Bool.not_true, Bool.not_false, Bool.false_and, Bool.and_false, eqI_self, eqS_t, eqI_0, eqS_0, rdata_host_eq _ _ hN, r05_host_eq _ _ hN, within_eq, in_eq, long_eq, text_eq, serial_eq, r04_eq, adr_t, adr_f, r02_t, r02_f, dname_Valid_eq _ _ hN, r01_Valid_eq _ _ hN, rdata_Known_eq _ _ hN, r05_Known_eq, rdata_all_eq _ hN, andNot_zero bn hb, r05_all_eq _ bn hb hN, Int.toNat_natCast])
  all_goals first | rfl | ac_rfl | (simp only [cond_or, Bool.and_assoc]; try ac_rfl)
end Go.Ev
/- The text of an address: the program's and the reference's answers. Condition: none. -/
namespace Go.Ev
set_option linter.all false
set_option maxHeartbeats 1000000
/-- The groups of an address. -/
def gp (h l k : Nat) : Nat := if k < 4 then h / 65536 ^ (3 - k) % 65536 else l / 65536 ^ (7 - k) % 65536
theorem gp_lt (h l k : Nat) : gp h l k < 65536 := by unfold gp; split <;> exact Nat.mod_lt _ (by decide)
def gps (h l : Nat) : List Nat := [gp h l 0, gp h l 1, gp h l 2, gp h l 3, gp h l 4, gp h l 5, gp h l 6, gp h l 7]
theorem gps_at (h l k : Nat) (hk : k < 8) : (gps h l)[k]? = some (gp h l k) := by
  match k, hk with
  | 0, _ => rfl
  | 1, _ => rfl
  | 2, _ => rfl
  | 3, _ => rfl
  | 4, _ => rfl
  | 5, _ => rfl
  | 6, _ => rfl
  | 7, _ => rfl
theorem sixteen (i : Nat) (hi : i < 4) : subI .i64 48 (mulI .i64 16 (i : Int)) = ((48 - 16 * i : Nat) : Int) ∧ 2 ^ (48 - 16 * i) = 65536 ^ (3 - i) := by
  match i, hi with
  | 0, _ => exact ⟨by decide, by decide⟩
  | 1, _ => exact ⟨by decide, by decide⟩
  | 2, _ => exact ⟨by decide, by decide⟩
  | 3, _ => exact ⟨by decide, by decide⟩
theorem groups_round (N n i h l : Nat) (v : Bool) (L L' : List Int) (hi : i < 4) (hL : L'.length = 8) : addr_groupsOf_L0 N (n + 1) (i : Int) v (h : Int) (l : Int) L L' =
    addr_groupsOf_L0 N n ((i + 1 : Nat) : Int) v (h : Int) (l : Int) L ((L'.set i (gp h l i : Int)).set (4 + i) (gp h l (4 + i) : Int)) := by
  obtain ⟨e1, e2⟩ := sixteen i hi
  have a1 : addI .i64 4 (i : Int) = ((4 + i : Nat) : Int) := by rw [addI_i _ _ (by omega)]; omega
  have b1 : (((h / 2 ^ (48 - 16 * i) : Nat) : Int) % 65536) = (gp h l i : Int) := by unfold gp; rw [if_pos hi, e2]; rfl
  have b2 : (((l / 2 ^ (48 - 16 * i) : Nat) : Int) % 65536) = (gp h l (4 + i) : Int) := by
    unfold gp; rw [if_neg (by omega), e2]
    have : 7 - (4 + i) = 3 - i := by omega
    rw [this]; rfl
  conv => lhs; unfold addr_groupsOf_L0
  rw [ltI_t (by omega), e1, shrI_u64 _ _ (by omega), shrI_u64 _ _ (by omega)]
  simp only [cond_true, Option.bind_some, inN_t i 8 (by omega), convI_u16, b1, b2]
  rw [setO_n _ _ _ (by omega), Option.bind_some, a1, inN_t (4 + i) 8 (by omega), cond_true, setO_n _ _ _ (by rw [List.length_set]; omega), Option.bind_some]
  rw [addI_l i 1 (by omega)]
theorem addr_groupsOf_eq (N h l : Nat) (v : Bool) (hN : 10 ≤ N) : addr_groupsOf N v (h : Int) (l : Int) = some ((gp h l 0 : Int), (gp h l 1 : Int), (gp h l 2 : Int), (gp h l 3 : Int), (gp h l 4 : Int), (gp h l 5 : Int), (gp h l 6 : Int), (gp h l 7 : Int)) := by
  obtain ⟨n, rfl⟩ : ∃ n, N = n + 5 := ⟨N - 5, by omega⟩
  unfold addr_groupsOf
  have e0 := groups_round (n + 5) (n + 4) 0 h l v [0, 0, 0, 0, 0, 0, 0, 0] [0, 0, 0, 0, 0, 0, 0, 0] (by omega) rfl
  have e1 := groups_round (n + 5) (n + 3) 1 h l v [0, 0, 0, 0, 0, 0, 0, 0] _ (by omega) (by rw [List.length_set, List.length_set]; rfl) |> e0.trans
  have e2 := groups_round (n + 5) (n + 2) 2 h l v [0, 0, 0, 0, 0, 0, 0, 0] _ (by omega) (by simp only [List.length_set]; rfl) |> e1.trans
  have e3 := groups_round (n + 5) (n + 1) 3 h l v [0, 0, 0, 0, 0, 0, 0, 0] _ (by omega) (by simp only [List.length_set]; rfl) |> e2.trans
  have e3' : addr_groupsOf_L0 (n + 5) (n + 5) 0 v (h : Int) (l : Int) [0, 0, 0, 0, 0, 0, 0, 0] [0, 0, 0, 0, 0, 0, 0, 0] = _ := e3
  rw [e3']
  unfold addr_groupsOf_L0
  rw [ltI_f (by omega)]
  rfl
theorem r02_part_loop (N : Nat) : ∀ (n x i : Nat), i ≤ 3 → 3 < i + n → x ≤ 18446744073709551615 → r02_part_L0 N n (x : Int) (i : Int) = some ((x / 65536 ^ (3 - i) : Nat) : Int)
  | 0, x, i, h, h2, _ => by omega
  | n + 1, x, i, h, h2, hx => by
    unfold r02_part_L0
    rcases Nat.lt_or_ge i 3 with hi | hi
    · rw [ltI_t (by omega), quoI_u64 x 65536 hx (by decide), addI_l i 1 (by omega)]
      simp only [cond_true, Option.bind_some]
      rw [r02_part_loop N n (x / 65536) (i + 1) (by omega) (by omega) (div_le _ _ _ hx), Nat.div_div_eq_div_mul]
      have : 65536 * 65536 ^ (3 - (i + 1)) = 65536 ^ (3 - i) := by
        have : 3 - i = (3 - (i + 1)) + 1 := by omega
        rw [this, Nat.pow_succ, Nat.mul_comm]
      rw [this]
    · obtain rfl : i = 3 := by omega
      rw [ltI_f (by omega)]
      simp
theorem r02_part_eq (N h l k : Nat) (v : Bool) (hN : 10 ≤ N) (hk : k < 8) (hh : h ≤ 18446744073709551615) (hl : l ≤ 18446744073709551615) : r02_part N v (h : Int) (l : Int) (k : Int) = some (gp h l k : Int) := by
  unfold r02_part gp
  rcases Nat.lt_or_ge k 4 with hi | hi
  · rw [leI_f (by omega), cond_false, r02_part_loop N N h k (by omega) (by omega) hh, Option.bind_some, remI_l _ _ 65536 (by decide), if_pos hi]
    rfl
  · have e : subI .i64 (k : Int) 4 = ((k - 4 : Nat) : Int) := by rw [subI_i _ _ (by omega)]; omega
    rw [leI_t (by omega), cond_true, e, r02_part_loop N N l (k - 4) (by omega) (by omega) hl, Option.bind_some, remI_l _ _ 65536 (by decide), if_neg (by omega)]
    have : 3 - (k - 4) = 7 - k := by omega
    rw [this]
    rfl
/-- The zeros that a list begins with. -/
def lead : List Nat → Nat
  | [] => 0
  | x :: r => if x = 0 then lead r + 1 else 0
theorem lead_le : ∀ l, lead l ≤ l.length
  | [] => Nat.le_refl _
  | x :: r => by
    have := lead_le r
    unfold lead
    split <;> simp <;> omega
def bestGo : List Nat → Nat → Nat → Nat → Nat × Nat
  | [], _, a, m => (a, m)
  | x :: r, i, a, m => if m < lead (x :: r) then bestGo r (i + 1) i (lead (x :: r)) else bestGo r (i + 1) a m
theorem bestGo_le : ∀ (l : List Nat) (i a m : Nat), a + m ≤ i + l.length → (bestGo l i a m).1 + (bestGo l i a m).2 ≤ i + l.length
  | [], i, a, m, h => by simpa [bestGo] using h
  | x :: r, i, a, m, h => by
    have hl := lead_le (x :: r)
    unfold bestGo
    rw [List.length_cons] at h hl ⊢
    have e : i + (r.length + 1) = i + 1 + r.length := by omega
    rw [e] at h ⊢
    split
    · exact bestGo_le r (i + 1) i _ (by omega)
    · exact bestGo_le r (i + 1) a m h
def ints (l : List Nat) : List Int := l.map Int.ofNat
theorem gps_int (h l k : Nat) (hk : k < 8) : (ints (gps h l))[k]? = some (gp h l k : Int) := by
  unfold ints
  rw [List.getElem?_map, gps_at h l k hk]
  rfl
theorem longest_in (N h l : Nat) (a b c : Int) (i : Nat) : ∀ (n j : Nat), i + j ≤ 8 → 8 < i + j + n → addr_groups_longest_L0 N n a b (i : Int) (j : Int) c (ints (gps h l)) = some ((j + lead ((gps h l).drop (i + j)) : Nat) : Int)
  | 0, j, h1, h2 => by omega
  | n + 1, j, h1, h2 => by
    unfold addr_groups_longest_L0
    rw [addI_n i j (by omega)]
    rcases Nat.lt_or_ge (i + j) 8 with hi | hi
    · have e : atO (ints (gps h l)) 0 ((i + j : Nat) : Int) = some (gp h l (i + j) : Int) := by
        unfold atO
        rw [Int.toNat_natCast, Nat.zero_add, gps_int h l _ hi]
      have ed : (gps h l).drop (i + j) = gp h l (i + j) :: (gps h l).drop (i + (j + 1)) := by
        have hl : i + j < (gps h l).length := hi
        rw [List.drop_eq_getElem_cons hl]
        have := gps_at h l (i + j) hi
        rw [List.getElem?_eq_getElem hl] at this
        injection this with this
        rw [this]
        rfl
      rw [ltI_t (by omega), inN_t _ 8 hi, e]
      simp only [cond_true, Option.bind_some]
      rw [ed, lead]
      by_cases hz : gp h l (i + j) = 0
      · rw [hz, eqI_t (by rfl), cond_true, addI_l j 1 (by omega), longest_in N h l a b c i n (j + 1) (by omega) (by omega), if_pos rfl]
        congr 2
        omega
      · rw [eqI_f (by omega), cond_false, if_neg hz]
        rfl
    · rw [ltI_f (by omega), cond_false, List.drop_of_length_le (by exact hi)]
      rfl
theorem run_in (N h l : Nat) (hN : 10 ≤ N) (hh : h ≤ 18446744073709551615) (hl : l ≤ 18446744073709551615) (a b : Int) (i : Nat) (v : Bool) : ∀ (n j : Nat), i + j ≤ 8 → 8 < i + j + n → r02_run_L0 N n a b (i : Int) (j : Int) v (h : Int) (l : Int) = some ((j + lead ((gps h l).drop (i + j)) : Nat) : Int)
  | 0, j, h1, h2 => by omega
  | n + 1, j, h1, h2 => by
    unfold r02_run_L0
    rw [addI_n i j (by omega)]
    rcases Nat.lt_or_ge (i + j) 8 with hi | hi
    · have ed : (gps h l).drop (i + j) = gp h l (i + j) :: (gps h l).drop (i + (j + 1)) := by
        have hl : i + j < (gps h l).length := hi
        rw [List.drop_eq_getElem_cons hl]
        have := gps_at h l (i + j) hi
        rw [List.getElem?_eq_getElem hl] at this
        injection this with this
        rw [this]
        rfl
      rw [ltI_t (by omega), r02_part_eq N h l (i + j) v hN hi hh hl]
      simp only [cond_true, Option.bind_some]
      rw [ed, lead]
      by_cases hz : gp h l (i + j) = 0
      · have e1 := run_in N h l hN hh hl a b i v n (j + 1) (by omega) (by omega)
        rw [if_pos hz, hz, eqI_t (by rfl), addI_l j 1 (by omega)]
        rw [cond_true, e1]
        congr 2
        omega
      · rw [eqI_f (by omega), if_neg hz]
        rfl
    · rw [ltI_f (by omega), cond_false, List.drop_of_length_le (by exact hi)]
      rfl
theorem gps_drop (h l i : Nat) (hi : i < 8) : (gps h l).drop i = gp h l i :: (gps h l).drop (i + 1) := by
  have hl : i < (gps h l).length := hi
  rw [List.drop_eq_getElem_cons hl]
  have := gps_at h l i hi
  rw [List.getElem?_eq_getElem hl] at this
  injection this with this
  rw [this]
def two (p : Nat × Nat) : Int × Int := ((p.1 : Int), (p.2 : Int))
theorem longest_out (N h l : Nat) (hN : 10 ≤ N) : ∀ (n i a m : Nat), i ≤ 8 → 8 < i + n → addr_groups_longest_L1 N n (a : Int) (m : Int) (i : Int) (ints (gps h l)) = some (two (bestGo ((gps h l).drop i) i a m))
  | 0, i, a, m, h1, h2 => by omega
  | n + 1, i, a, m, h1, h2 => by
    unfold addr_groups_longest_L1
    rcases Nat.lt_or_ge i 8 with hi | hi
    · have e := longest_in N h l (a : Int) (m : Int) (i : Int) i N 0 (by omega) (by omega)
      have e' : addr_groups_longest_L0 N N (a : Int) (m : Int) (i : Int) 0 (i : Int) (ints (gps h l)) = some ((lead ((gps h l).drop i) : Nat) : Int) := by
        rw [Nat.zero_add] at e
        exact e
      rw [ltI_t (by omega), cond_true, e', Option.bind_some, addI_l i 1 (by omega), gps_drop h l i hi, bestGo]
      split
      · rw [ltI_t (by omega), cond_true, longest_out N h l hN n (i + 1) i _ (by omega) (by omega)]
      · rw [ltI_f (by omega), cond_false, longest_out N h l hN n (i + 1) a m (by omega) (by omega)]
    · rw [ltI_f (by omega), cond_false, List.drop_of_length_le (by exact hi)]
      rfl
theorem run_out (N h l : Nat) (hN : 10 ≤ N) (hh : h ≤ 18446744073709551615) (hl : l ≤ 18446744073709551615) (v : Bool) : ∀ (n i a m : Nat), i ≤ 8 → 8 < i + n → r02_run_L1 N n (a : Int) (m : Int) (i : Int) v (h : Int) (l : Int) = some (two (bestGo ((gps h l).drop i) i a m))
  | 0, i, a, m, h1, h2 => by omega
  | n + 1, i, a, m, h1, h2 => by
    unfold r02_run_L1
    rcases Nat.lt_or_ge i 8 with hi | hi
    · have e := run_in N h l hN hh hl (a : Int) (m : Int) i v N 0 (by omega) (by omega)
      have e' : r02_run_L0 N N (a : Int) (m : Int) (i : Int) 0 v (h : Int) (l : Int) = some ((lead ((gps h l).drop i) : Nat) : Int) := by
        rw [Nat.zero_add] at e
        exact e
      rw [ltI_t (by omega), cond_true, e', Option.bind_some, addI_l i 1 (by omega), gps_drop h l i hi, bestGo]
      split
      · rw [ltI_t (by omega), cond_true, run_out N h l hN hh hl v n (i + 1) i _ (by omega) (by omega)]
      · rw [ltI_f (by omega), cond_false, run_out N h l hN hh hl v n (i + 1) a m (by omega) (by omega)]
    · rw [ltI_f (by omega), cond_false, List.drop_of_length_le (by exact hi)]
      rfl
end Go.Ev
/- The text of an address: digits and groups. Condition: none. -/
namespace Go.Ev
set_option linter.all false
set_option maxHeartbeats 1000000
def hexD (n : Nat) : UInt8 := if n < 10 then UInt8.ofNat (48 + n) else UInt8.ofNat (87 + n)
def hexF : Nat → Nat → List UInt8
  | 0, n => [hexD n]
  | k + 1, n => if n < 16 then [hexD n] else hexF k (n / 16) ++ [hexD (n % 16)]
/-- A group in hexadecimal. -/
def hexL (n : Nat) : List UInt8 := hexF 3 n
theorem hexF_len : ∀ k n, (hexF k n).length ≤ k + 1 ∧ 1 ≤ (hexF k n).length
  | 0, n => by simp [hexF]
  | k + 1, n => by
    have := hexF_len k (n / 16)
    unfold hexF
    split <;> simp <;> omega
theorem hexL_len (n : Nat) : (hexL n).length ≤ 4 ∧ 1 ≤ (hexL n).length := hexF_len 3 n
def dgs36 : List UInt8 := [48, 49, 50, 51, 52, 53, 54, 55, 56, 57, 97, 98, 99, 100, 101, 102, 103, 104, 105, 106, 107, 108, 109, 110, 111, 112, 113, 114, 115, 116, 117, 118, 119, 120, 121, 122]
theorem dgs36_at (v : Nat) (h : v < 16) : dgs36[v]? = some (hexD v) := by
  have : ∀ v : Fin 16, dgs36[v.val]? = some (hexD v.val) := by decide
  exact this ⟨v, h⟩
theorem set_drop {α : Type} (a : List α) (j : Nat) (c : α) (h : j < a.length) : (a.set j c).drop j = c :: a.drop (j + 1) := by
  rw [List.drop_eq_getElem_cons (by rw [List.length_set]; exact h), List.getElem_set_self]
  congr 1
  rw [List.drop_set_of_lt (by omega)]
theorem hexF_low (k u : Nat) (h : u < 16) : hexF k u = [hexD u] := by
  cases k with
  | zero => rfl
  | succ k => unfold hexF; rw [if_pos h]
theorem bits_loop (N : Nat) : ∀ (k u i n : Nat) (a : List UInt8), u < 16 ^ (k + 1) → u ≤ 18446744073709551615 → k < n → k < i → i ≤ 65 → a.length = 65 →
    ∃ (v j : Nat) (a' : List UInt8), i_strconv_formatBits_L1 N n [] (u : Int) false false [] [] (i : Int) 4 16 15 a = some ((v : Int), (j : Int), a') ∧ v < 16 ∧ 1 ≤ j ∧ j ≤ i ∧ a'.length = 65 ∧ (a'.set (j - 1) (hexD v)).drop (j - 1) = hexF k u ++ a.drop i
  | k, u, i, n + 1, a, hu, hb, hn, hk, hi, ha => by
    unfold i_strconv_formatBits_L1
    rcases Nat.lt_or_ge u 16 with h | h
    · rw [leI_f (by omega), cond_false]
      refine ⟨u, i, a, rfl, h, by omega, Nat.le_refl _, ha, ?_⟩
      rw [set_drop _ _ _ (by omega), hexF_low k u h]
      have : i - 1 + 1 = i := by omega
      rw [this]
      rfl
    · have e1 : andI .u64 (u : Int) 15 = ((u % 16 : Nat) : Int) := by
        have := andI_u64 u 15 hb (by omega)
        rw [Nat.and_two_pow_sub_one_eq_mod u 4] at this
        exact this
      have e2 : subI .i64 (i : Int) 1 = ((i - 1 : Nat) : Int) := by rw [subI_i _ _ (by omega)]; omega
      have e3 := shrI_u64 u 4 (by omega)
      have e4 : atI dgs36 ((u % 16 : Nat) : Int) = some (hexD (u % 16)) := by rw [atI_n, dgs36_at _ (Nat.mod_lt _ (by omega))]
      cases k with
      | zero => simp at hu; omega
      | succ k =>
        obtain ⟨v, j, a', h1, h2, h3, h4, h5, h6⟩ := bits_loop N k (u / 16) (i - 1) n (a.set (i - 1) (hexD (u % 16))) (by rw [Nat.pow_succ] at hu; omega) (by omega) (by omega) (by omega) (by omega) (by rw [List.length_set]; exact ha)
        refine ⟨v, j, a', ?_, h2, h3, by omega, h5, ?_⟩
        · rw [leI_t (by omega), cond_true, e1]
          have e4' := e4
          unfold dgs36 at e4'
          rw [e4', Option.bind_some, e2, inN_t _ 65 (by omega), cond_true, setO_n _ _ _ (by omega), Option.bind_some]
          have e3' : shrI .u64 (u : Int) 4 = some ((u / 16 : Nat) : Int) := e3
          rw [e3', Option.bind_some]
          exact h1
        · rw [h6, set_drop _ _ _ (by omega)]
          have : i - 1 + 1 = i := by omega
          rw [this]
          conv => rhs; unfold hexF
          rw [if_neg (by omega), List.append_assoc]
          rfl
theorem FormatUint16 (N u : Nat) (hN : 10 ≤ N) (hu : u < 65536) : strconv_FormatUint N (u : Int) 16 = some (hexL u) := by
  unfold strconv_FormatUint i_strconv_FormatUint i_strconv_formatBits i_strconv_isPowerOfTwo
  have c1 : eqI 16 10 = false := rfl
  have c2 : ltI 16 2 = false := rfl
  have c3 : ltI 36 16 = false := rfl
  have c4 : eqI (andI .i64 16 (subI .i64 16 1)) 0 = true := by decide
  have c5 : tzI N (convI .u64 16) = some 4 := by
    have : convI .u64 16 = 16 := by decide
    rw [this]
    rfl
  have c6 : convI .u64 16 = 16 := by decide
  have c7 : subI .u64 16 1 = 15 := by decide
  have c8 : convI .u64 4 = 4 := by decide
  simp only [c1, c2, c3, c4, c5, c6, c7, c8, cond_true, cond_false, Option.bind_some]
  have key : ∀ A : List UInt8, A.length = 65 → (((Option.bind (i_strconv_formatBits_L1 N N [] (u : Int) false false [] [] 65 4 16 15 A) fun o19 =>
    Option.bind (atI dgs36 o19.1) fun c20 =>
    bif inN (subI .i64 o19.2.1 1) 65 then
      Option.bind (setO o19.2.2 0 (subI .i64 o19.2.1 1) c20) fun l21 =>
      Option.bind (arrI (subI .i64 o19.2.1 1) (nI 65) 65) fun m23 =>
      bif isZ m23.2 then
        some (([] : List UInt8), ([] : List UInt8))
      else
      Option.bind (winI l21 m23.1 m23.2) fun l24 =>
      some (([] : List UInt8), l24)
    else
    none).bind fun r6 => some r6.2).bind fun r1 => some r1) = some (hexL u) := by
    intro A hAl
    obtain ⟨v, j, a', h1, h2, h3, h4, h5, h6⟩ := bits_loop N 3 u 65 N A (by omega) (by omega) (by omega) (by omega) (by omega) hAl
    have h1' : i_strconv_formatBits_L1 N N [] (u : Int) false false [] [] 65 4 16 15 A = some ((v : Int), (j : Int), a') := h1
    have e4 : atI dgs36 (v : Int) = some (hexD v) := by rw [atI_n, dgs36_at _ h2]
    have e2 : subI .i64 (j : Int) 1 = ((j - 1 : Nat) : Int) := by rw [subI_i _ _ (by omega)]; omega
    have e5 : arrI ((j - 1 : Nat) : Int) (nI 65) 65 = some (j - 1, 65 - (j - 1)) := arrI_n (j - 1) 65 65 (by omega) (by omega)
    have e6 : isZ (65 - (j - 1)) = false := by
      obtain ⟨q, hq⟩ : ∃ q, 65 - (j - 1) = q + 1 := ⟨64 - (j - 1), by omega⟩
      rw [hq]; rfl
    simp only [h1', e4, e2, e5, e6, Option.bind_some, inN_t (j - 1) 65 (by omega), cond_true, cond_false]
    rw [setO_n _ _ _ (by omega), Option.bind_some, winI_ok _ _ _ (by rw [List.length_set]; omega), Option.bind_some, h6]
    have : A.drop 65 = [] := List.drop_of_length_le (by omega)
    rw [this, List.append_nil, List.take_of_length_le]
    · rfl
    · have e7 := congrArg List.length h6
      rw [List.length_drop, List.length_set, h5, this, List.append_nil] at e7
      show (hexF 3 u).length ≤ _
      omega
  exact key _ rfl
theorem hexD_ref (N n : Nat) (h : n < 16) : r02_hex N (n : Int) = some [hexD n] := by
  have : ∀ n : Fin 16, r02_hex 0 (n.val : Int) = some [hexD n.val] := by decide +kernel
  exact this ⟨n, h⟩
theorem groupText_loop (N : Nat) : ∀ (k n i u : Nat) (out : List UInt8), i + k = 3 → k < n → u < 16 ^ k → out.length ≤ 100 + i → r02_groupText_L0 N n (u : Int) out (i : Int) = some ((if u = 0 then [] else hexF (k - 1) u) ++ out)
  | 0, n + 1, i, u, out, hi, hn, hu, ho => by
    unfold r02_groupText_L0
    have : u = 0 := by simp at hu; exact hu
    rw [ltI_f (by omega), cond_false, if_pos this]
    rfl
  | k + 1, n + 1, i, u, out, hi, hn, hu, ho => by
    unfold r02_groupText_L0
    by_cases hz : u = 0
    · rw [ltI_t (by omega), ltI_f (by omega), if_pos hz]
      rfl
    · have hm : u % 16 < 16 := Nat.mod_lt _ (by omega)
      have hu' : u / 16 < 16 ^ k := by rw [Nat.pow_succ] at hu; omega
      have hk4 : 16 ^ (k + 1) ≤ 16 ^ 3 := Nat.pow_le_pow_right (by omega) (by omega)
      rw [ltI_t (by omega), ltI_t (by omega), remI_l .u64 u 16 (by omega), quoI_u64 u 16 (by omega) (by omega)]
      simp only [cond_true, Option.bind_some]
      rw [hexD_ref N _ hm, Option.bind_some, catI_ok _ _ (by simp; omega), Option.bind_some, addI_l i 1 (by omega), groupText_loop N k n (i + 1) (u / 16) _ (by omega) (by omega) hu' (by simp; omega), if_neg hz]
      rw [Nat.add_sub_cancel]
      by_cases hz2 : u / 16 = 0
      · have : u < 16 := by omega
        rw [if_pos hz2, hexF_low k u this, Nat.mod_eq_of_lt this]
        rfl
      · rw [if_neg hz2]
        cases k with
        | zero => simp at hu; omega
        | succ k =>
          conv => rhs; unfold hexF
          rw [if_neg (by omega), Nat.add_sub_cancel, List.append_assoc]
theorem groupText_eq (N u : Nat) (hN : 10 ≤ N) (hu : u < 65536) : r02_groupText N (u : Int) = some (hexL u) := by
  unfold r02_groupText hexL
  have hm : u % 16 < 16 := Nat.mod_lt _ (by omega)
  rw [remI_l .u64 u 16 (by omega), Option.bind_some, hexD_ref N _ hm, Option.bind_some, quoI_u64 u 16 (by omega) (by omega), Option.bind_some]
  have := groupText_loop N 3 N 0 (u / 16) [hexD (u % 16)] (by omega) (by omega) (by omega) (by simp)
  have this' : r02_groupText_L0 N N ((u / 16 : Nat) : Int) [hexD (u % 16)] 0 = _ := this
  rw [this', Option.bind_some]
  by_cases hz : u / 16 = 0
  · have : u < 16 := by omega
    rw [if_pos hz, hexF_low 3 u this, Nat.mod_eq_of_lt this]
    rfl
  · rw [if_neg hz]
    conv => rhs; unfold hexF
    rw [if_neg (by omega)]
end Go.Ev
/- The text of an address: decimals below 256. Condition: none. -/
namespace Go.Ev
set_option linter.all false
set_option maxHeartbeats 1000000
/-! ### Decimals below 256 -/
def dec8 (u : Nat) : List UInt8 := digs 3 u
theorem dec8_len (u : Nat) : (dec8 u).length ≤ 3 := by
  unfold dec8 digs digs digs
  split
  · simp
  · split
    · simp
    · split <;> simp [digs]
theorem decimal_ref (N u : Nat) (h : u < 256) : r02_decimal N (u : Int) = some (dec8 u) := by
  have : ∀ n : Fin 256, r02_decimal 0 (n.val : Int) = some (dec8 n.val) := by decide +kernel
  exact this ⟨u, h⟩
theorem numDigits3 (N u : Nat) (h1 : 100 ≤ u) (h : u < 256) : i_strconv_numDigits N (u : Int) = some 3 := by
  have : ∀ n : Fin 256, 100 ≤ n.val → i_strconv_numDigits 0 (n.val : Int) = some 3 := by decide +kernel
  exact this ⟨u, h⟩ h1
theorem FormatUint10 (N u : Nat) (hN : 1 ≤ N) (h : u < 256) : strconv_FormatUint N (u : Int) 10 = some (dec8 u) := by
  have key : ∀ n : Fin 256, strconv_FormatUint 1 (n.val : Int) 10 = some (dec8 n.val) := by decide +kernel
  rw [← key ⟨u, h⟩]
  obtain ⟨n, rfl⟩ : ∃ n, N = n + 1 := ⟨N - 1, by omega⟩
  have s : ∀ x, i_strconv_small (n + 1) x = i_strconv_small 1 x := fun x => by unfold i_strconv_small; rfl
  have f : ∀ x l, i_strconv_formatBase10 (n + 1) 0 3 l x = i_strconv_formatBase10 1 0 3 l x := fun x l => by
    have e : leI 8 (nI 3) = false := rfl
    unfold i_strconv_formatBase10 i_strconv_formatBase10_L0
    simp only [e, cond_false]
  show strconv_FormatUint (n + 1) (u : Int) 10 = strconv_FormatUint 1 (u : Int) 10
  unfold strconv_FormatUint i_strconv_FormatUint
  have c1 : eqI 10 10 = true := rfl
  have c2 : arrI0 3 24 = some 3 := rfl
  rw [c1, cond_true, cond_true, s]
  rcases Nat.lt_or_ge u 100 with hu | hu
  · rw [ltI_t (by omega), cond_true, cond_true]
  · rw [ltI_f (by omega), numDigits3 _ u hu h, numDigits3 _ u hu h]
    simp only [cond_false, Option.bind_some, c2, f]
end Go.Ev
/- The text of an address: the whole of it. Condition: none. -/
namespace Go.Ev
set_option linter.all false
set_option maxHeartbeats 1000000
def pre (xs : List Nat) : List UInt8 := Lib.joinTail [58] (xs.map hexL)
def jn (xs : List Nat) : List UInt8 := Lib.join (xs.map hexL) [58]
theorem pre_nil : pre [] = [] := rfl
theorem jn_nil : jn [] = [] := rfl
theorem pre_cons (x : Nat) (r : List Nat) : pre (x :: r) = 58 :: (hexL x ++ pre r) := by simp [pre, Lib.joinTail]
theorem jn_cons (x : Nat) (r : List Nat) : jn (x :: r) = hexL x ++ pre r := by simp [jn, pre, Lib.join_cons]
theorem pre_len : ∀ xs : List Nat, (pre xs).length ≤ 5 * xs.length
  | [] => by simp [pre_nil]
  | x :: r => by
    have := pre_len r
    have := (hexL_len x).1
    rw [pre_cons]
    simp
    omega
theorem jn_len : ∀ xs : List Nat, (jn xs).length ≤ 5 * xs.length
  | [] => by simp [jn_nil]
  | x :: r => by
    have := pre_len r
    have := (hexL_len x).1
    rw [jn_cons]
    simp
    omega
theorem joinI_ok (N : Nat) (xs : List (List UInt8)) (sep : List UInt8) (h : xs.length ≤ 1000000000) (h2 : (Lib.join xs sep).length ≤ 100000000000000) : joinI N xs sep = some (Lib.join xs sep) := by
  unfold joinI
  rw [if_pos ⟨by omega, by omega⟩]
theorem text_loop (N : Nat) (hN : 10 ≤ N) (L : List Nat) (hb : ∀ x ∈ L, x < 65536) (h8 : L.length ≤ 8) : ∀ (n i : Nat), i ≤ L.length → L.length < i + n →
    addr_text_L0b N n (ints L) L.length (L.length : Int) (i : Int) ((L.take i).map hexL ++ List.replicate (L.length - i) []) = some (L.map hexL)
  | 0, i, h1, h2 => by omega
  | n + 1, i, h1, h2 => by
    unfold addr_text_L0b
    rcases Nat.lt_or_ge i L.length with hi | hi
    · have e : atI (ints L) (i : Int) = some ((L[i] : Nat) : Int) := by
        rw [atI_n]
        unfold ints
        rw [List.getElem?_map, List.getElem?_eq_getElem hi]
        rfl
      have hx := hb L[i] (List.getElem_mem hi)
      have hr : L.length - i = L.length - (i + 1) + 1 := by omega
      have ht : ((L.take i).map hexL).length = i := by rw [List.length_map, List.length_take]; omega
      rw [ltI_t (by omega), cond_true, e, Option.bind_some, convI_u64 _ (by omega), FormatUint16 N _ hN hx, Option.bind_some, inN_t i _ hi, cond_true, setO_n _ _ _ (by rw [List.length_append, ht, List.length_replicate]; omega), Option.bind_some]
      rw [List.set_append_right _ _ (by omega), ht, Nat.sub_self, hr, List.replicate_succ, List.set_cons_zero, addI_l i 1 (by omega)]
      have e2 : (L.take (i + 1)).map hexL = (L.take i).map hexL ++ [hexL L[i]] := by
        rw [List.take_succ_eq_append_getElem hi, List.map_append]
        rfl
      have ih := text_loop N hN L hb h8 n (i + 1) (by omega) (by omega)
      rw [e2, List.append_assoc] at ih
      exact ih
    · rw [ltI_f (by omega), cond_false, List.take_of_length_le hi]
      have : L.length - i = 0 := by omega
      rw [this, List.replicate_zero, List.append_nil]
theorem addr_text_eq (N : Nat) (hN : 10 ≤ N) (L : List Nat) (hb : ∀ x ∈ L, x < 65536) (h8 : L.length ≤ 8) : addr_text N (ints L) = some (jn L) := by
  unfold addr_text
  have hl : (ints L).length = L.length := List.length_map ..
  have e0 : ln (ints L) = (L.length : Int) := by unfold ln; rw [hl]
  have hj := jn_len L
  rw [e0, mkI_n _ _ (by omega), Option.bind_some]
  cases L with
  | nil =>
    have c1 : isZ ([] : List Nat).length = true := rfl
    rw [c1, cond_true]
    obtain ⟨n, rfl⟩ : ∃ n, N = n + 1 := ⟨N - 1, by omega⟩
    have e1 : addr_text_L0 (n + 1) (n + 1) (ints []) [] 0 0 = some () := rfl
    rw [e1, Option.bind_some, joinI_ok _ _ _ (by simp) (by simp [Lib.join_nil])]
    rfl
  | cons x r =>
    have c1 : isZ (x :: r).length = false := rfl
    have h0 := text_loop N hN (x :: r) hb h8 N 0 (by omega) (by omega)
    rw [List.take_zero, List.map_nil, List.nil_append, Nat.sub_zero] at h0
    have h0' : addr_text_L0b N N (ints (x :: r)) (x :: r).length (nI (x :: r).length) 0 (List.replicate (x :: r).length []) = _ := h0
    rw [c1, cond_false, h0', Option.bind_some, winI_ok _ _ _ (by rw [List.length_map]; omega), Option.bind_some, List.drop_zero, List.take_of_length_le (by rw [List.length_map]; omega)]
    rw [joinI_ok _ _ _ (by rw [List.length_map]; omega) (by show (jn (x :: r)).length ≤ _; omega), Option.bind_some]
    rfl
/-- What the reference's loop adds behind the gap. -/
theorem print_after (N h l : Nat) (hN : 10 ≤ N) (hh : h ≤ 18446744073709551615) (hl : l ≤ 18446744073709551615) (a c : Nat) (hac : a + c ≤ 8) (hc : 2 ≤ c) : ∀ (n k : Nat) (out : List UInt8), a + c ≤ k → k ≤ 8 → 8 < k + n → out.length ≤ 1000 * k →
    r02_Print_L0 N n (a : Int) (c : Int) out (k : Int) true (h : Int) (l : Int) = some (out ++ (if k = a + c then jn ((gps h l).drop k) else pre ((gps h l).drop k)))
  | 0, k, out, _, _, h3, _ => by omega
  | n + 1, k, out, h1, h2, h3, ho => by
    unfold r02_Print_L0
    rcases Nat.lt_or_ge k 8 with hk | hk
    · have hg := gp_lt h l k
      have hx := (hexL_len (gp h l k)).1
      rw [ltI_t (by omega), eqI_f (by omega), leI_t (by omega), addI_n a c (by omega), ltI_f (by omega), ltI_t (by omega), r02_part_eq N h l k true hN hk hh hl, gps_drop h l k hk, addI_l k 1 (by omega)]
      simp only [cond_true, cond_false, Option.bind_some, groupText_eq N _ hN hg]
      by_cases he : k = a + c
      · rw [eqI_t (by omega), cond_true, catI_ok _ _ (by omega), Option.bind_some, print_after N h l hN hh hl a c hac hc n (k + 1) _ (by omega) (by omega) (by omega) (by rw [List.length_append]; omega)]
        rw [if_neg (by omega), if_pos he, jn_cons, List.append_assoc]
      · rw [eqI_f (by omega), cond_false, catI_ok _ _ (by simp; omega), Option.bind_some, catI_ok _ _ (by simp; omega), Option.bind_some, print_after N h l hN hh hl a c hac hc n (k + 1) _ (by omega) (by omega) (by omega) (by simp; omega)]
        rw [if_neg (by omega), if_neg he, pre_cons]
        simp
    · have : (gps h l).drop k = [] := List.drop_of_length_le (by exact hk)
      rw [ltI_f (by omega), cond_false, this, pre_nil, jn_nil]
      simp
theorem print_mid (N h l : Nat) (hN : 10 ≤ N) (hh : h ≤ 18446744073709551615) (hl : l ≤ 18446744073709551615) (a c : Nat) (hac : a + c ≤ 8) (hc : 2 ≤ c) : ∀ (n k : Nat) (out : List UInt8), a < k → k ≤ a + c → 8 < k + n → out.length ≤ 1000 * k →
    r02_Print_L0 N n (a : Int) (c : Int) out (k : Int) true (h : Int) (l : Int) = some (out ++ jn ((gps h l).drop (a + c)))
  | 0, k, out, _, _, h3, _ => by omega
  | n + 1, k, out, h1, h2, h3, ho => by
    by_cases he : k = a + c
    · rw [print_after N h l hN hh hl a c hac hc (n + 1) k out (by omega) (by omega) h3 ho, if_pos he, he]
    · unfold r02_Print_L0
      rw [ltI_t (by omega), eqI_f (by omega), leI_t (by omega), addI_n a c (by omega), ltI_t (by omega), addI_l k 1 (by omega)]
      simp only [cond_true, cond_false]
      exact print_mid N h l hN hh hl a c hac hc n (k + 1) out (by omega) (by omega) (by omega) (by omega)
theorem print_before (N h l : Nat) (hN : 10 ≤ N) (hh : h ≤ 18446744073709551615) (hl : l ≤ 18446744073709551615) (a c : Nat) (hac : a + c ≤ 8) (hc : 2 ≤ c ∨ (a = 8 ∧ c = 0)) : ∀ (n k : Nat) (out : List UInt8), k ≤ a → 8 < k + n → out.length ≤ 1000 * k →
    r02_Print_L0 N n (a : Int) (c : Int) out (k : Int) true (h : Int) (l : Int) = some (out ++ ((if k = 0 then jn (((gps h l).take a).drop k) else pre (((gps h l).take a).drop k)) ++ (if a = 8 then [] else 58 :: 58 :: jn ((gps h l).drop (a + c)))))
  | 0, k, out, h1, h3, ho => by omega
  | n + 1, k, out, h1, h3, ho => by
    rcases Nat.lt_or_ge k a with hk | hk
    · have hk8 : k < 8 := by omega
      have hg := gp_lt h l k
      have hx := (hexL_len (gp h l k)).1
      have ed : ((gps h l).take a).drop k = gp h l k :: ((gps h l).take a).drop (k + 1) := by
        have hl : k < ((gps h l).take a).length := by rw [List.length_take]; show k < min a 8; omega
        rw [List.drop_eq_getElem_cons hl]
        congr 1
        rw [List.getElem_take]
        have := gps_at h l k hk8
        rw [List.getElem?_eq_getElem hk8] at this
        injection this
      unfold r02_Print_L0
      rw [ltI_t (by omega), eqI_f (by omega), leI_f (by omega), addI_n a c (by omega), r02_part_eq N h l k true hN hk8 hh hl, addI_l k 1 (by omega), ed]
      simp only [cond_true, cond_false, Option.bind_some, groupText_eq N _ hN hg]
      by_cases hz : k = 0
      · rw [ltI_f (by omega), cond_false, catI_ok _ _ (by omega), Option.bind_some, print_before N h l hN hh hl a c hac hc n (k + 1) _ (by omega) (by omega) (by rw [List.length_append]; omega)]
        rw [if_neg (by omega), if_pos hz, jn_cons]
        simp only [List.append_assoc]
      · rw [ltI_t (by omega), eqI_f (by omega)]
        simp only [cond_true, cond_false]
        rw [catI_ok _ _ (by simp; omega), Option.bind_some, catI_ok _ _ (by simp; omega), Option.bind_some, print_before N h l hN hh hl a c hac hc n (k + 1) _ (by omega) (by omega) (by simp; omega)]
        rw [if_neg (by omega), if_neg hz, pre_cons]
        simp
    · obtain rfl : k = a := by omega
      have ed : ((gps h l).take k).drop k = [] := List.drop_of_length_le (by rw [List.length_take]; omega)
      have ez : (if k = 0 then jn ([] : List Nat) else pre []) = [] := by split <;> rfl
      rw [ed, ez, List.nil_append]
      unfold r02_Print_L0
      rcases Nat.lt_or_ge k 8 with hk8 | hk8
      · rw [ltI_t (by omega), eqI_t (by omega), leI_t (by omega), addI_n k c (by omega), ltI_t (by omega), if_neg (by omega), addI_l k 1 (by omega)]
        simp only [cond_true]
        rw [catI_ok _ _ (by simp; omega), Option.bind_some, print_mid N h l hN hh hl k c hac (by omega) n (k + 1) _ (by omega) (by omega) (by omega) (by simp; omega)]
        simp
      · rw [ltI_f (by omega), cond_false, if_pos (by omega), List.append_nil]
/-- The text of an address. -/
def sixL (h l : Nat) : List UInt8 :=
  let b := bestGo (gps h l) 0 0 0
  if b.2 < 2 then jn (gps h l) else jn ((gps h l).take b.1) ++ 58 :: 58 :: jn ((gps h l).drop (b.1 + b.2))
def fourL (l : Nat) : List UInt8 := Lib.join [dec8 (l / 16777216), dec8 (l / 65536 % 256), dec8 (l / 256 % 256), dec8 (l % 256)] [46]
def addrL (v : Bool) (h l : Nat) : List UInt8 × Int := if v then (sixL h l, 0) else if h = 0 ∧ l ≤ 4294967295 then (fourL l, 0) else ([], 3)
theorem gps_lt (h l : Nat) : ∀ x ∈ gps h l, x < 65536 := by
  intro x hx
  unfold gps at hx
  simp only [List.mem_cons, List.not_mem_nil, or_false] at hx
  rcases hx with rfl | rfl | rfl | rfl | rfl | rfl | rfl | rfl <;> exact gp_lt ..
theorem ints_gps (h l : Nat) : ints (gps h l) = [(gp h l 0 : Int), (gp h l 1 : Int), (gp h l 2 : Int), (gp h l 3 : Int), (gp h l 4 : Int), (gp h l 5 : Int), (gp h l 6 : Int), (gp h l 7 : Int)] := rfl
theorem r02_Print_six (N h l : Nat) (hN : 10 ≤ N) (hh : h ≤ 18446744073709551615) (hl : l ≤ 18446744073709551615) : r02_Print N true (h : Int) (l : Int) = some (addrL true h l) := by
  unfold r02_Print addrL sixL
  have hV : r02_Valid N true (h : Int) (l : Int) = some true := rfl
  have hR : r02_run N true (h : Int) (l : Int) = some (two (bestGo (gps h l) 0 0 0)) := by
    unfold r02_run
    have := run_out N h l hN hh hl true N 0 0 0 (by omega) (by omega)
    have this' : r02_run_L1 N N 0 0 0 true (h : Int) (l : Int) = _ := this
    rw [this']
    rfl
  have hb := bestGo_le (gps h l) 0 0 0 (by omega)
  have h8 : (gps h l).length = 8 := rfl
  rw [h8] at hb
  rw [cond_true, hV, Option.bind_some, cond_true, hR, Option.bind_some]
  generalize bestGo (gps h l) 0 0 0 = b at *
  obtain ⟨a, c⟩ := b
  show (bif ltI (c : Int) 2 then _ else _) = _
  simp only at hb ⊢
  rcases Nat.lt_or_ge c 2 with hc | hc
  · rw [ltI_t (by omega), cond_true]
    have := print_before N h l hN hh hl 8 0 (by omega) (.inr ⟨rfl, rfl⟩) N 0 [] (by omega) (by omega) (by simp)
    have this' : r02_Print_L0 N N 8 0 [] 0 true (h : Int) (l : Int) = _ := this
    rw [this']
    simp [hc, List.take_of_length_le (Nat.le_of_eq h8)]
  · rw [ltI_f (by omega), cond_false]
    have := print_before N h l hN hh hl a c (by omega) (.inl hc) N 0 [] (by omega) (by omega) (by simp)
    have this' : r02_Print_L0 N N (two (a, c)).1 (two (a, c)).2 [] 0 true (h : Int) (l : Int) = _ := this
    have h1 : ¬ a = 8 := by omega
    have h2 : ¬ c < 2 := by omega
    rw [this']
    simp [h1, h2]
end Go.Ev
/- The text of an address: program and reference alike. Condition: none. -/
namespace Go.Ev
set_option linter.all false
set_option maxHeartbeats 1000000
theorem ints_take (L : List Nat) (k : Nat) : (ints L).take k = ints (L.take k) := by unfold ints; rw [List.map_take]
theorem ints_drop (L : List Nat) (k : Nat) : (ints L).drop k = ints (L.drop k) := by unfold ints; rw [List.map_drop]
theorem addr_Print_six (N h l : Nat) (hN : 10 ≤ N) : addr_Print N true (h : Int) (l : Int) = some (addrL true h l) := by
  unfold addr_Print addrL sixL
  rw [if_pos (rfl : true = true)]
  have hV : addr_Valid N true (h : Int) (l : Int) = some true := rfl
  have hR : addr_groups_longest N (gp h l 0 : Int) (gp h l 1 : Int) (gp h l 2 : Int) (gp h l 3 : Int) (gp h l 4 : Int) (gp h l 5 : Int) (gp h l 6 : Int) (gp h l 7 : Int) = some (two (bestGo (gps h l) 0 0 0)) := by
    unfold addr_groups_longest
    have := longest_out N h l hN N 0 0 0 (by omega) (by omega)
    have this' : addr_groups_longest_L1 N N 0 0 0 [(gp h l 0 : Int), (gp h l 1 : Int), (gp h l 2 : Int), (gp h l 3 : Int), (gp h l 4 : Int), (gp h l 5 : Int), (gp h l 6 : Int), (gp h l 7 : Int)] = _ := this
    rw [this']
    rfl
  have hb := bestGo_le (gps h l) 0 0 0 (by omega)
  have h8 : (gps h l).length = 8 := rfl
  have hlt := gps_lt h l
  rw [h8] at hb
  rw [cond_true, hV, Option.bind_some, cond_true, addr_groupsOf_eq N h l true hN, Option.bind_some]
  simp only [hR, Option.bind_some]
  rw [← ints_gps h l]
  generalize gps h l = G at *
  generalize bestGo G 0 0 0 = b at *
  obtain ⟨a, c⟩ := b
  have hi8 : (ints G).length = 8 := by unfold ints; rw [List.length_map, h8]
  have tx : ∀ k m, addr_text N (ints ((G.drop k).take m)) = some (jn ((G.drop k).take m)) := fun k m =>
    addr_text_eq N hN _ (fun x hx => hlt x (List.mem_of_mem_drop (List.mem_of_mem_take hx))) (by rw [List.length_take, List.length_drop]; omega)
  have tl : ∀ k m, (jn ((G.drop k).take m)).length ≤ 40 := fun k m => by
    have := jn_len ((G.drop k).take m)
    rw [List.length_take, List.length_drop] at this
    omega
  simp only [two] at hb ⊢
  rcases Nat.lt_or_ge c 2 with hc | hc
  · have e := tx 0 8
    rw [List.drop_zero, List.take_of_length_le (by omega)] at e
    rw [ltI_t (by omega), cond_true, winI_ok _ 0 8 (by omega), Option.bind_some, List.drop_zero, List.take_of_length_le (by omega), e, if_pos hc]
    rfl
  · have t0 : addr_text N [] = some [] := addr_text_eq N hN [] (by simp) (by simp)
    rw [ltI_f (by omega), cond_false, arrI0_n a 8 (by omega), Option.bind_some, addI_n a c (by omega), if_neg (by omega)]
    have ea : arrI ((a + c : Nat) : Int) (nI 8) 8 = some (a + c, 8 - (a + c)) := arrI_n (a + c) 8 8 (by omega) (by omega)
    have tail : ∀ (s : List UInt8), s.length ≤ 100 → (Option.bind (winI (ints G) (a + c) (8 - (a + c))) fun l11 => Option.bind (addr_text N l11) fun r12 => Option.bind (catI s r12) fun s13 => some (s13, (0 : Int))) = some (s ++ jn (G.drop (a + c)), 0) := fun s hs => by
      have e := tx (a + c) (8 - (a + c))
      have e2 := tl (a + c) (8 - (a + c))
      have e3 : (G.drop (a + c)).take (8 - (a + c)) = G.drop (a + c) := List.take_of_length_le (by rw [List.length_drop]; omega)
      rw [e3] at e e2
      rw [winI_ok _ _ _ (by omega), Option.bind_some, ints_drop, ints_take, e3, e, Option.bind_some, catI_ok _ _ (by omega), Option.bind_some]
    have tail0 : ∀ (s : List UInt8), s.length ≤ 100 → isZ (8 - (a + c)) = true → (Option.bind (catI s []) fun s10 => some (s10, (0 : Int))) = some (s ++ jn (G.drop (a + c)), 0) := fun s hs hz => by
      have : a + c = 8 := by
        have : 8 - (a + c) = 0 := by simpa [isZ] using hz
        omega
      rw [catI_ok _ _ (by simp; omega), Option.bind_some, List.drop_of_length_le (by omega), jn_nil]
    have head : ∀ m, (jn (G.take m)).length ≤ 40 := fun m => by
      have := tl 0 m
      rwa [List.drop_zero] at this
    cases hz : isZ a with
    | true =>
      have h0 : a = 0 := by simpa [isZ] using hz
      subst h0
      rw [cond_true, t0, Option.bind_some, catI_ok _ _ (by simp), Option.bind_some, ea, Option.bind_some]
      cases hz2 : isZ (8 - (0 + c)) with
      | true => rw [cond_true, tail0 _ (by simp) hz2]; rfl
      | false => rw [cond_false, tail _ (by simp)]; rfl
    | false =>
      have e := tx 0 a
      rw [List.drop_zero] at e
      have hh := head a
      rw [cond_false, winI_ok _ 0 a (by omega), Option.bind_some, List.drop_zero, ints_take, e, Option.bind_some, catI_ok _ _ (by simp; omega), Option.bind_some, ea, Option.bind_some]
      cases hz2 : isZ (8 - (a + c)) with
      | true => rw [cond_true, t0, Option.bind_some, tail0 _ (by simp; omega) hz2]; simp
      | false => rw [cond_false, tail _ (by simp; omega)]; simp
theorem addr_Valid_four (N h l : Nat) : addr_Valid N false (h : Int) (l : Int) = some (decide (h = 0 ∧ l ≤ 4294967295)) := by
  unfold addr_Valid
  by_cases h1 : h = 0
  · by_cases h2 : l ≤ 4294967295
    · rw [eqI_t (by omega), leI_t (by omega), decide_eq_true ⟨h1, h2⟩]; rfl
    · rw [eqI_t (by omega), leI_f (by omega), decide_eq_false (by omega)]; rfl
  · rw [eqI_f (by omega), decide_eq_false (by omega)]; rfl
theorem r02_Valid_four (N h l : Nat) : r02_Valid N false (h : Int) (l : Int) = some (decide (h = 0 ∧ l ≤ 4294967295)) := by
  unfold r02_Valid
  by_cases h1 : h = 0
  · by_cases h2 : l ≤ 4294967295
    · rw [eqI_t (by omega), ltI_t (by omega), decide_eq_true ⟨h1, h2⟩]; rfl
    · rw [eqI_t (by omega), ltI_f (by omega), decide_eq_false (by omega)]; rfl
  · rw [eqI_f (by omega), decide_eq_false (by omega)]; rfl
def oct (l i : Nat) : Nat := l / 2 ^ (24 - 8 * i) % 256
theorem oct_lt (l i : Nat) : oct l i < 256 := Nat.mod_lt _ (by decide)
theorem eight (i : Nat) (hi : i < 4) : subI .i64 24 (mulI .i64 8 (i : Int)) = ((24 - 8 * i : Nat) : Int) := by
  match i, hi with
  | 0, _ => decide
  | 1, _ => decide
  | 2, _ => decide
  | 3, _ => decide
theorem four_round (N n i h l : Nat) (hN : 10 ≤ N) (hl : l ≤ 18446744073709551615) (v : Bool) (L : List (List UInt8)) (hi : i < 4) (hL : L.length = 4) : addr_Print_L0 N (n + 1) 4 4 (i : Int) v (h : Int) (l : Int) L =
    addr_Print_L0 N n 4 4 ((i + 1 : Nat) : Int) v (h : Int) (l : Int) (L.set i (dec8 (oct l i))) := by
  have e1 : andI .u64 ((l / 2 ^ (24 - 8 * i) : Nat) : Int) 255 = ((oct l i : Nat) : Int) := by
    have := andI_u64 (l / 2 ^ (24 - 8 * i)) 255 (div_le _ _ _ hl) (by omega)
    rw [Nat.and_two_pow_sub_one_eq_mod _ 8] at this
    exact this
  conv => lhs; unfold addr_Print_L0
  rw [ltI_t (by omega), eight i hi, shrI_u64 _ _ (by omega), cond_true, Option.bind_some, e1, FormatUint10 N _ (by omega) (oct_lt l i), Option.bind_some, inN_t i 4 hi, cond_true, setO_n _ _ _ (by omega), Option.bind_some, addI_l i 1 (by omega)]
theorem addr_Print_four (N h l : Nat) (hN : 10 ≤ N) (hl : l ≤ 18446744073709551615) : addr_Print N false (h : Int) (l : Int) = some (addrL false h l) := by
  unfold addr_Print addrL
  rw [cond_false, addr_Valid_four, Option.bind_some]
  by_cases hc : h = 0 ∧ l ≤ 4294967295
  · obtain ⟨n, rfl⟩ : ∃ n, N = n + 5 := ⟨N - 5, by omega⟩
    have e0 := four_round (n + 5) (n + 4) 0 h l hN hl false [[], [], [], []] (by omega) rfl
    have e1 := four_round (n + 5) (n + 3) 1 h l hN hl false _ (by omega) (by rw [List.length_set]; rfl) |> e0.trans
    have e2 := four_round (n + 5) (n + 2) 2 h l hN hl false _ (by omega) (by simp only [List.length_set]; rfl) |> e1.trans
    have e3 := four_round (n + 5) (n + 1) 3 h l hN hl false _ (by omega) (by simp only [List.length_set]; rfl) |> e2.trans
    have e4 : addr_Print_L0 (n + 5) (n + 5) 4 (nI 4) 0 false (h : Int) (l : Int) (List.replicate 4 []) = addr_Print_L0 (n + 5) (n + 1) 4 4 4 false (h : Int) (l : Int) [dec8 (oct l 0), dec8 (oct l 1), dec8 (oct l 2), dec8 (oct l 3)] := e3
    have e5 : addr_Print_L0 (n + 5) (n + 1) 4 4 4 false (h : Int) (l : Int) [dec8 (oct l 0), dec8 (oct l 1), dec8 (oct l 2), dec8 (oct l 3)] = some [dec8 (oct l 0), dec8 (oct l 1), dec8 (oct l 2), dec8 (oct l 3)] := rfl
    have o0 : oct l 0 = l / 16777216 := by unfold oct; omega
    have o1 : oct l 1 = l / 65536 % 256 := by unfold oct; omega
    have o2 : oct l 2 = l / 256 % 256 := by unfold oct; omega
    have o3 : oct l 3 = l % 256 := by unfold oct; omega
    have m1 : mkI 4 16 = some 4 := rfl
    have m2 : isZ 4 = false := rfl
    have j1 : (fourL l).length ≤ 100 := by
      have := dec8_len (l / 16777216)
      have := dec8_len (l / 65536 % 256)
      have := dec8_len (l / 256 % 256)
      have := dec8_len (l % 256)
      unfold fourL
      simp [Lib.join_cons, Lib.joinTail]
      omega
    rw [decide_eq_true hc, cond_true, m1, Option.bind_some, m2, cond_false, e4, e5, Option.bind_some, winI_ok _ 0 4 (by simp), Option.bind_some, o0, o1, o2, o3]
    rw [if_neg (by simp), if_pos hc]
    show (Option.bind (joinI (n + 5) [dec8 (l / 16777216), dec8 (l / 65536 % 256), dec8 (l / 256 % 256), dec8 (l % 256)] [46]) fun r27 => some (r27, (0 : Int))) = _
    rw [joinI_ok _ _ _ (by simp) (by show (fourL l).length ≤ _; omega)]
    rfl
  · rw [decide_eq_false hc, cond_false, if_neg (by simp), if_neg hc]
theorem r02_Print_four (N h l : Nat) (hN : 10 ≤ N) (hl : l ≤ 18446744073709551615) : r02_Print N false (h : Int) (l : Int) = some (addrL false h l) := by
  unfold r02_Print addrL
  rw [cond_false, r02_Valid_four, Option.bind_some]
  by_cases hc : h = 0 ∧ l ≤ 4294967295
  · have d0 := dec8_len (l / 16777216)
    have d1 := dec8_len (l / 65536 % 256)
    have d2 := dec8_len (l / 256 % 256)
    have d3 := dec8_len (l % 256)
    rw [decide_eq_true hc, cond_true, if_neg (by simp), if_pos hc]
    rw [quoI_u64 l 16777216 hl (by decide), Option.bind_some, decimal_ref N _ (by omega), Option.bind_some, catI_ok _ _ (by simp; omega), Option.bind_some]
    rw [quoI_u64 l 65536 hl (by decide), Option.bind_some, remI_l _ _ 256 (by decide), Option.bind_some, decimal_ref N _ (by omega), Option.bind_some, catI_ok _ _ (by simp; omega), Option.bind_some, catI_ok _ _ (by simp; omega), Option.bind_some]
    rw [quoI_u64 l 256 hl (by decide), Option.bind_some, remI_l _ _ 256 (by decide), Option.bind_some, decimal_ref N _ (by omega), Option.bind_some, catI_ok _ _ (by simp; omega), Option.bind_some, catI_ok _ _ (by simp; omega), Option.bind_some]
    rw [remI_l _ _ 256 (by decide), Option.bind_some, decimal_ref N _ (by omega), Option.bind_some, catI_ok _ _ (by simp; omega), Option.bind_some]
    simp [fourL, Lib.join_cons, Lib.joinTail]
  · rw [decide_eq_false hc, cond_false, if_neg (by simp), if_neg hc]
theorem addr_Print_eq (N : Nat) (v : Bool) (h l : Nat) (hN : 10 ≤ N) (hl : l ≤ 18446744073709551615) : addr_Print N v (h : Int) (l : Int) = some (addrL v h l) := by
  cases v
  · exact addr_Print_four N h l hN hl
  · exact addr_Print_six N h l hN
theorem r02_Print_eq (N : Nat) (v : Bool) (h l : Nat) (hN : 10 ≤ N) (hh : h ≤ 18446744073709551615) (hl : l ≤ 18446744073709551615) : r02_Print N v (h : Int) (l : Int) = some (addrL v h l) := by
  cases v
  · exact r02_Print_four N h l hN hl
  · exact r02_Print_six N h l hN hh hl
end Go.Ev
/- The words of data: parts. Condition: none. -/
namespace Go.Ev
set_option linter.all false
set_option maxHeartbeats 1000000
theorem inR_iff {x m : Int} : inR x m = true ↔ 0 ≤ x ∧ x ≤ m := by
  unfold inR
  rw [Bool.and_eq_true, leI_iff, leI_iff]
theorem lenT_iff {s : List UInt8} : lenT s = true ↔ 1 ≤ s.length ∧ s.length ≤ 255 := by
  unfold lenT ln
  rw [Bool.and_eq_true, leI_iff, leI_iff]
  omega
theorem nameOk_len {n : List UInt8} (h : nameOk n = true) : n.length ≤ 254 := by
  unfold nameOk at h
  rw [Bool.or_eq_true] at h
  rcases h with h | h
  · have : n = [46] := by simpa using h
    subst this
    decide
  · rw [Bool.and_eq_true, decide_eq_true_iff] at h
    exact h.1
theorem hostOk_len {n : List UInt8} (h : hostOk n = true) : n.length ≤ 254 := by
  unfold hostOk at h
  rw [Bool.and_eq_true] at h
  exact nameOk_len h.1
theorem mnL_len (t : Int) : (mnL t).length ≤ 6 := by
  unfold mnL
  repeat' (first | (show List.length (cond _ _ _) ≤ 6; cases eqI t _ <;> simp only [cond_true, cond_false]) | decide)
def decS (x : Int) : List UInt8 := Lib.decDigits x.toNat
theorem decS_len {x : Int} (h : 0 ≤ x ∧ x ≤ 4294967295) : (decS x).length ≤ 10 := dec_len 10 _ (by omega) (by omega)
theorem itoaI_eq (N : Nat) (x : Int) (h : 0 ≤ x ∧ x ≤ 4294967295) : itoaI N x = some (decS x) := by
  unfold itoaI decS
  rw [if_pos (by omega)]
  have e : x = ((x.toNat : Nat) : Int) := by omega
  conv => lhs; rw [e, itoaB_nat _ (by omega)]
  rw [bs_data]
theorem decI_eq (N : Nat) (x : Int) (h : 0 ≤ x ∧ x ≤ 4294967295) : decI N x = some (decS x) := by
  unfold decI decS
  rw [if_pos (by omega)]
theorem numbers_loop (N : Nat) (L : List Int) (hL : L.length ≤ 100) (hb : ∀ x ∈ L, 0 ≤ x ∧ x ≤ 4294967295) : ∀ (n i : Nat) (out : List (List UInt8)), i ≤ L.length → L.length < i + n → out.length ≤ i → rtext_numbers_L0 N n out L (ln L) (i : Int) = some (out ++ (L.drop i).map decS)
  | 0, i, out, _, h, _ => by omega
  | n + 1, i, out, hi, h, ho => by
    unfold rtext_numbers_L0
    rcases at_cases L i (by omega) with ⟨h0, h1, h2, _⟩ | ⟨x, hc, hd, hlt, h2, _, h4⟩
    · rw [h2, h0]; simp
    · rw [h2, cond_true, atI_n, hc, Option.bind_some, itoaI_eq N x (hb x (List.mem_of_getElem? hc)), Option.bind_some, h4, room1_ok out 1 16 (by omega) (by omega), cond_true, numbers_loop N L hL hb n (i + 1) _ (by omega) (by omega) (by rw [List.length_append]; simp; omega), hd]
      simp
theorem numbers_eq (N : Nat) (L : List Int) (hN : 1000 < N) (hL : L.length ≤ 100) (hb : ∀ x ∈ L, 0 ≤ x ∧ x ≤ 4294967295) : rtext_numbers N L = some (L.map decS) := by
  unfold rtext_numbers
  have h := numbers_loop N L hL hb N 0 [] (by omega) (by omega) (by simp)
  have h' : rtext_numbers_L0 N N [] L (ln L) 0 = _ := h
  rw [h', Option.bind_some, List.drop_zero, List.nil_append]
/-- Bytes in hexadecimal. -/
def hx2 (b : UInt8) : List UInt8 := [hexD (b.toNat / 16), hexD (b.toNat % 16)]
def hexS (s : List UInt8) : List UInt8 := s.flatMap hx2
theorem hexS_len : ∀ s : List UInt8, (hexS s).length = 2 * s.length
  | [] => rfl
  | c :: r => by
    have := hexS_len r
    show (hx2 c ++ hexS r).length = _
    rw [List.length_append, this]
    simp [hx2]
    omega
def dgs16 : List UInt8 := [48, 49, 50, 51, 52, 53, 54, 55, 56, 57, 97, 98, 99, 100, 101, 102]
theorem dgs16_at (v : Nat) (h : v < 16) : atI dgs16 (v : Int) = some (hexD v) := by
  have : ∀ v : Fin 16, dgs16[v.val]? = some (hexD v.val) := by decide
  rw [atI_n]
  exact this ⟨v, h⟩
theorem hx_prog (c : UInt8) : shrI .u8 (bv c) 4 = some ((c.toNat / 16 : Nat) : Int) ∧ andI .u8 (bv c) 15 = ((c.toNat % 16 : Nat) : Int) :=
  byte_all (fun c => shrI .u8 (bv c) 4 = some ((c.toNat / 16 : Nat) : Int) ∧ andI .u8 (bv c) 15 = ((c.toNat % 16 : Nat) : Int)) (by decide +kernel) c
theorem hx_ref (c : UInt8) : quoI .u8 (bv c) 16 = some ((c.toNat / 16 : Nat) : Int) ∧ remI .u8 (bv c) 16 = some ((c.toNat % 16 : Nat) : Int) :=
  byte_all (fun c => quoI .u8 (bv c) 16 = some ((c.toNat / 16 : Nat) : Int) ∧ remI .u8 (bv c) 16 = some ((c.toNat % 16 : Nat) : Int)) (by decide +kernel) c
theorem digits_loop (N : Nat) (s : List UInt8) (hs : s.length ≤ 1000000) : ∀ (n i : Nat) (out : List UInt8), i ≤ s.length → s.length < i + n → out.length ≤ 2 * i → rtext_digits_L0 N n s out (i : Int) = some (out ++ hexS (s.drop i))
  | 0, i, out, _, h, _ => by omega
  | n + 1, i, out, hi, h, ho => by
    unfold rtext_digits_L0
    rcases at_cases s i (by omega) with ⟨h0, h1, h2, _⟩ | ⟨c, hc, hd, hlt, h2, _, h4⟩
    · rw [h2, h0]; simp [hexS]
    · have hc2 := UInt8.toNat_lt c
      have e1 := dgs16_at (c.toNat / 16) (by omega)
      have e2 := dgs16_at (c.toNat % 16) (by omega)
      unfold dgs16 at e1 e2
      rw [h2, cond_true, atI_n, hc, Option.bind_some, (hx_prog c).1, (hx_prog c).2, Option.bind_some, e1, Option.bind_some, e2, Option.bind_some, h4, room1_ok out 2 1 (by omega) (by omega), cond_true, digits_loop N s hs n (i + 1) _ (by omega) (by omega) (by rw [List.length_append]; simp; omega), hd]
      simp [hexS, hx2]
theorem digits_eq (N : Nat) (s : List UInt8) (hN : 1000 < N) (hs : s.length ≤ 500) : rtext_digits N s = some (hexS s) := by
  unfold rtext_digits
  have h := digits_loop N s (by omega) N 0 [] (by omega) (by omega) (by simp)
  have h' : rtext_digits_L0 N N s [] 0 = _ := h
  rw [h', Option.bind_some, List.drop_zero, List.nil_append]
theorem hex_loop (N : Nat) (s : List UInt8) (hs : s.length ≤ 1000000) : ∀ (n i : Nat) (out : List UInt8), i ≤ s.length → s.length < i + n → out.length ≤ 2 * i → r06_Hex_L0 N n s dgs16 out (i : Int) = some (out ++ hexS (s.drop i))
  | 0, i, out, _, h, _ => by omega
  | n + 1, i, out, hi, h, ho => by
    unfold r06_Hex_L0
    rcases at_cases s i (by omega) with ⟨h0, h1, h2, _⟩ | ⟨c, hc, hd, hlt, h2, _, h4⟩
    · rw [h2, h0]; simp [hexS]
    · have hc2 := UInt8.toNat_lt c
      have e1 := dgs16_at (c.toNat / 16) (by omega)
      have e2 := dgs16_at (c.toNat % 16) (by omega)
      rw [h2, cond_true, atI_n, hc, Option.bind_some, (hx_ref c).1, (hx_ref c).2, Option.bind_some, e1, Option.bind_some, Option.bind_some, e2, Option.bind_some, h4, room1_ok out 2 1 (by omega) (by omega), cond_true, hex_loop N s hs n (i + 1) _ (by omega) (by omega) (by rw [List.length_append]; simp; omega), hd]
      simp [hexS, hx2]
theorem hex_eq (N : Nat) (s : List UInt8) (hN : 1000 < N) (hs : s.length ≤ 500) : r06_Hex N s = some (hexS s) := by
  unfold r06_Hex
  have h := hex_loop N s (by omega) N 0 [] (by omega) (by omega) (by simp)
  have h' : r06_Hex_L0 N N s [48, 49, 50, 51, 52, 53, 54, 55, 56, 57, 97, 98, 99, 100, 101, 102] [] 0 = _ := h
  rw [h', Option.bind_some, List.drop_zero, List.nil_append]
theorem mnem_loop (N : Nat) (hN : 1000 < N) (L : List Int) (hL : L.length ≤ 100) : ∀ (n i : Nat) (out : List (List UInt8)), i ≤ L.length → L.length < i + n → out.length ≤ i → rtext_mnemonics_L0 N n out L (ln L) (i : Int) = some (out ++ (L.drop i).map mnL)
  | 0, i, out, _, h, _ => by omega
  | n + 1, i, out, hi, h, ho => by
    unfold rtext_mnemonics_L0
    rcases at_cases L i (by omega) with ⟨h0, h1, h2, _⟩ | ⟨x, hc, hd, hlt, h2, _, h4⟩
    · rw [h2, h0]; simp
    · rw [h2, cond_true, atI_n, hc, Option.bind_some, rdata_Mnemonic_eq N x hN, Option.bind_some, h4, room1_ok out 1 16 (by omega) (by omega), cond_true, mnem_loop N hN L hL n (i + 1) _ (by omega) (by omega) (by rw [List.length_append]; simp; omega), hd]
      simp
theorem mnem_ref (N : Nat) (L : List Int) (hL : L.length ≤ 100) : ∀ (n i : Nat) (out : List (List UInt8)), i ≤ L.length → L.length < i + n → out.length ≤ i + 10 → r06_Words_L0 N n out L (i : Int) = some (out ++ (L.drop i).map mnL)
  | 0, i, out, _, h, _ => by omega
  | n + 1, i, out, hi, h, ho => by
    unfold r06_Words_L0
    rcases at_cases L i (by omega) with ⟨h0, h1, h2, _⟩ | ⟨x, hc, hd, hlt, h2, _, h4⟩
    · rw [h2, h0]; simp
    · rw [h2, cond_true, atI_n, hc, Option.bind_some, r05_Mnemonic_eq N x, Option.bind_some, h4, room1_ok out 1 16 (by omega) (by omega), cond_true, mnem_ref N L hL n (i + 1) _ (by omega) (by omega) (by rw [List.length_append]; simp; omega), hd]
      simp
theorem tysL_len (b : Nat) : (tysL b).length ≤ 14 := List.length_filter_le ..
def tyW (b : Nat) : List (List UInt8) := ((tysL b).map Int.ofNat).map mnL
theorem tyW_len (b : Nat) : (tyW b).length ≤ 14 := by
  unfold tyW
  rw [List.length_map, List.length_map]
  exact tysL_len b
theorem mnemonics_eq (N b : Nat) (hb : b ≤ 18446744073709551615) (hN : 1000 < N) : rtext_mnemonics N (b : Int) = some (tyW b) := by
  unfold rtext_mnemonics
  have hl : ((tysL b).map Int.ofNat).length ≤ 100 := by rw [List.length_map]; have := tysL_len b; omega
  have h := mnem_loop N hN ((tysL b).map Int.ofNat) hl N 0 [] (by omega) (by omega) (by simp)
  have h' : rtext_mnemonics_L0 N N [] ((tysL b).map Int.ofNat) (ln ((tysL b).map Int.ofNat)) 0 = _ := h
  rw [rdata_Types_eq N b hb hN, Option.bind_some, h', Option.bind_some, List.drop_zero, List.nil_append]
  rfl
theorem addrL_len (v : Bool) (h l : Nat) : (addrL v h l).1.length ≤ 100 := by
  unfold addrL
  cases v with
  | false =>
    rw [if_neg (by simp)]
    split
    · have := dec8_len (l / 16777216)
      have := dec8_len (l / 65536 % 256)
      have := dec8_len (l / 256 % 256)
      have := dec8_len (l % 256)
      simp [fourL, Lib.join_cons, Lib.joinTail]
      omega
    · simp
  | true =>
    rw [if_pos rfl]
    have h8 : (gps h l).length = 8 := rfl
    unfold sixL
    simp only
    split
    · have := jn_len (gps h l)
      omega
    · have a1 := jn_len ((gps h l).take (bestGo (gps h l) 0 0 0).1)
      have a2 := jn_len ((gps h l).drop ((bestGo (gps h l) 0 0 0).1 + (bestGo (gps h l) 0 0 0).2))
      rw [List.length_take] at a1
      rw [List.length_drop] at a2
      simp only [List.length_append, List.length_cons]
      omega
end Go.Ev
/- The words of data: the program's and the reference's answers. Condition: none. -/
namespace Go.Ev
set_option linter.all false
set_option maxHeartbeats 4000000
set_option maxRecDepth 10000
/-- The words of valid data. -/
def wordsL (t : Int) (v : Bool) (h l : Nat) (ho ma tx : List UInt8) (a b c d e f : Int) (bn : Nat) : List (List UInt8) :=
  if t = 1 then [(addrL v h l).1] else
  if t = 28 then [(addrL v h l).1] else
  if t = 2 then [ho] else
  if t = 5 then [ho] else
  if t = 12 then [ho] else
  if t = 39 then [ho] else
  if t = 6 then [ho, ma, decS a, decS b, decS c, decS d, decS e] else
  if t = 15 then [decS a, ho] else
  if t = 16 then [tx] else
  if t = 33 then [decS a, decS b, decS c, ho] else
  if t = 43 then [decS a, decS b, decS c, hexS tx] else
  if t = 48 then [decS a, decS b, decS c, hexS tx] else
  if t = 46 then [mnL a, [50, 53, 51], decS b, decS c, decS d, decS e, decS f, ho, hexS tx] else
  if t = 47 then ho :: tyW bn else
  []
def wdL (x : UInt8) (v : Bool) (h l : Nat) (ho ma tx : List UInt8) (a b c d e f : Int) (bn : Nat) : List UInt8 :=
  if x = 110 then ho else if x = 109 then ma else if x = 97 then (addrL v h l).1 else if x = 116 then tx else if x = 120 then hexS tx else if x = 121 then mnL a else if x = 115 then [50, 53, 51] else
  if x = 65 then decS a else if x = 66 ∨ x = 98 then decS b else if x = 67 ∨ x = 99 then decS c else if x = 68 ∨ x = 100 then decS d else if x = 69 ∨ x = 101 then decS e else decS f
theorem words_loop (N : Nat) (t : Int) (v : Bool) (hi lo : Int) (ho ma tx : List UInt8) (a b c d e f bi : Int) (W : UInt8 → List UInt8) (s : List UInt8) (hs : s.length ≤ 100) (hw : ∀ x ∈ s, x ≠ 122 → r06_word N (bv x) v hi lo ho ma tx a b c d e f bi = some (W x)) :
    ∀ (n i : Nat) (out : List (List UInt8)), i ≤ s.length → s.length < i + n → out.length ≤ i → r06_Words_L1 N n t out s (i : Int) v hi lo ho ma tx a b c d e f bi = some (out ++ ((s.drop i).filter (· != 122)).map W)
  | 0, i, out, _, h, _ => by omega
  | n + 1, i, out, hi', h, hlen => by
    unfold r06_Words_L1
    rcases at_cases s i (by omega) with ⟨h0, h1, h2, _⟩ | ⟨x, hc, hd, hlt, h2, _, h4⟩
    · rw [h2, h0]; simp
    · rw [h2, cond_true, atI_n, hc, Option.bind_some, h4, eqI_n, hd, List.filter_cons]
      by_cases hx : x = 122
      · subst hx
        have := words_loop N t v hi lo ho ma tx a b c d e f bi W s hs hw n (i + 1) out (by omega) (by omega) (by omega)
        rw [show decide ((122 : UInt8).toNat = 122) = true from rfl, cond_true, this]
        simp
      · have hx' : ¬ x.toNat = 122 := fun e => hx (UInt8.toNat_inj.1 e)
        have hm := hw x (List.mem_of_getElem? hc) hx
        have := words_loop N t v hi lo ho ma tx a b c d e f bi W s hs hw n (i + 1) (out ++ [W x]) (by omega) (by omega) (by rw [List.length_append]; simp; omega)
        have hb : (x != 122) = true := by simpa using hx
        rw [decide_eq_false hx', cond_false, hb, hm, Option.bind_some, room1_ok out 1 16 (by omega) (by omega), cond_true, this]
        simp
theorem word_110 (N : Nat) (v : Bool) (hi lo : Int) (ho ma tx : List UInt8) (a b c d e f bi : Int) : r06_word N (bv 110) v hi lo ho ma tx a b c d e f bi = some ho := rfl
theorem word_109 (N : Nat) (v : Bool) (hi lo : Int) (ho ma tx : List UInt8) (a b c d e f bi : Int) : r06_word N (bv 109) v hi lo ho ma tx a b c d e f bi = some ma := rfl
theorem word_116 (N : Nat) (v : Bool) (hi lo : Int) (ho ma tx : List UInt8) (a b c d e f bi : Int) : r06_word N (bv 116) v hi lo ho ma tx a b c d e f bi = some tx := rfl
theorem word_115 (N : Nat) (v : Bool) (hi lo : Int) (ho ma tx : List UInt8) (a b c d e f bi : Int) : r06_word N (bv 115) v hi lo ho ma tx a b c d e f bi = some [50, 53, 51] := rfl
theorem word_97 (N : Nat) (v : Bool) (h l : Nat) (ho ma tx : List UInt8) (a b c d e f bi : Int) (hN : 10 ≤ N) (hh : h ≤ 18446744073709551615) (hl : l ≤ 18446744073709551615) : r06_word N (bv 97) v (h : Int) (l : Int) ho ma tx a b c d e f bi = some (addrL v h l).1 := by
  have e : r06_word N (bv 97) v (h : Int) (l : Int) ho ma tx a b c d e f bi = Option.bind (r02_Print N v (h : Int) (l : Int)) fun r => some r.1 := by cases v <;> rfl
  rw [e, r02_Print_eq N v h l hN hh hl]
  rfl
theorem word_120 (N : Nat) (v : Bool) (hi lo : Int) (ho ma tx : List UInt8) (a b c d e f bi : Int) (hN : 1000 < N) (ht : tx.length ≤ 500) : r06_word N (bv 120) v hi lo ho ma tx a b c d e f bi = some (hexS tx) := by
  have e : r06_word N (bv 120) v hi lo ho ma tx a b c d e f bi = Option.bind (r06_Hex N tx) fun r => some r := rfl
  rw [e, hex_eq N tx hN ht]
  rfl
theorem word_121 (N : Nat) (v : Bool) (hi lo : Int) (ho ma tx : List UInt8) (a b c d e f bi : Int) : r06_word N (bv 121) v hi lo ho ma tx a b c d e f bi = some (mnL a) := by
  have e : r06_word N (bv 121) v hi lo ho ma tx a b c d e f bi = Option.bind (r05_Mnemonic N a) fun r => some r := rfl
  rw [e, r05_Mnemonic_eq]
  rfl
theorem word_65 (N : Nat) (v : Bool) (hi lo : Int) (ho ma tx : List UInt8) (a b c d e f bi : Int) (hx : 0 ≤ a ∧ a ≤ 4294967295) : r06_word N (bv 65) v hi lo ho ma tx a b c d e f bi = some (decS a) := by
  have q : r06_word N (bv 65) v hi lo ho ma tx a b c d e f bi = Option.bind (decI N a) fun r => some r := by cases v <;> rfl
  rw [q, decI_eq N a hx]
  rfl
theorem word_66 (N : Nat) (v : Bool) (hi lo : Int) (ho ma tx : List UInt8) (a b c d e f bi : Int) (hx : 0 ≤ b ∧ b ≤ 4294967295) : r06_word N (bv 66) v hi lo ho ma tx a b c d e f bi = some (decS b) := by
  have q : r06_word N (bv 66) v hi lo ho ma tx a b c d e f bi = Option.bind (decI N b) fun r => some r := by cases v <;> rfl
  rw [q, decI_eq N b hx]
  rfl
theorem word_98 (N : Nat) (v : Bool) (hi lo : Int) (ho ma tx : List UInt8) (a b c d e f bi : Int) (hx : 0 ≤ b ∧ b ≤ 4294967295) : r06_word N (bv 98) v hi lo ho ma tx a b c d e f bi = some (decS b) := by
  have q : r06_word N (bv 98) v hi lo ho ma tx a b c d e f bi = Option.bind (decI N b) fun r => some r := by cases v <;> rfl
  rw [q, decI_eq N b hx]
  rfl
theorem word_67 (N : Nat) (v : Bool) (hi lo : Int) (ho ma tx : List UInt8) (a b c d e f bi : Int) (hx : 0 ≤ c ∧ c ≤ 4294967295) : r06_word N (bv 67) v hi lo ho ma tx a b c d e f bi = some (decS c) := by
  have q : r06_word N (bv 67) v hi lo ho ma tx a b c d e f bi = Option.bind (decI N c) fun r => some r := by cases v <;> rfl
  rw [q, decI_eq N c hx]
  rfl
theorem word_99 (N : Nat) (v : Bool) (hi lo : Int) (ho ma tx : List UInt8) (a b c d e f bi : Int) (hx : 0 ≤ c ∧ c ≤ 4294967295) : r06_word N (bv 99) v hi lo ho ma tx a b c d e f bi = some (decS c) := by
  have q : r06_word N (bv 99) v hi lo ho ma tx a b c d e f bi = Option.bind (decI N c) fun r => some r := by cases v <;> rfl
  rw [q, decI_eq N c hx]
  rfl
theorem word_68 (N : Nat) (v : Bool) (hi lo : Int) (ho ma tx : List UInt8) (a b c d e f bi : Int) (hx : 0 ≤ d ∧ d ≤ 4294967295) : r06_word N (bv 68) v hi lo ho ma tx a b c d e f bi = some (decS d) := by
  have q : r06_word N (bv 68) v hi lo ho ma tx a b c d e f bi = Option.bind (decI N d) fun r => some r := by cases v <;> rfl
  rw [q, decI_eq N d hx]
  rfl
theorem word_100 (N : Nat) (v : Bool) (hi lo : Int) (ho ma tx : List UInt8) (a b c d e f bi : Int) (hx : 0 ≤ d ∧ d ≤ 4294967295) : r06_word N (bv 100) v hi lo ho ma tx a b c d e f bi = some (decS d) := by
  have q : r06_word N (bv 100) v hi lo ho ma tx a b c d e f bi = Option.bind (decI N d) fun r => some r := by cases v <;> rfl
  rw [q, decI_eq N d hx]
  rfl
theorem word_69 (N : Nat) (v : Bool) (hi lo : Int) (ho ma tx : List UInt8) (a b c d e f bi : Int) (hx : 0 ≤ e ∧ e ≤ 4294967295) : r06_word N (bv 69) v hi lo ho ma tx a b c d e f bi = some (decS e) := by
  have q : r06_word N (bv 69) v hi lo ho ma tx a b c d e f bi = Option.bind (decI N e) fun r => some r := by cases v <;> rfl
  rw [q, decI_eq N e hx]
  rfl
theorem word_101 (N : Nat) (v : Bool) (hi lo : Int) (ho ma tx : List UInt8) (a b c d e f bi : Int) (hx : 0 ≤ e ∧ e ≤ 4294967295) : r06_word N (bv 101) v hi lo ho ma tx a b c d e f bi = some (decS e) := by
  have q : r06_word N (bv 101) v hi lo ho ma tx a b c d e f bi = Option.bind (decI N e) fun r => some r := by cases v <;> rfl
  rw [q, decI_eq N e hx]
  rfl
theorem word_70 (N : Nat) (v : Bool) (hi lo : Int) (ho ma tx : List UInt8) (a b c d e f bi : Int) (hx : 0 ≤ f ∧ f ≤ 4294967295) : r06_word N (bv 70) v hi lo ho ma tx a b c d e f bi = some (decS f) := by
  have q : r06_word N (bv 70) v hi lo ho ma tx a b c d e f bi = Option.bind (decI N f) fun r => some r := by cases v <;> rfl
  rw [q, decI_eq N f hx]
  rfl
theorem valid_1 (v : Bool) (h l : Nat) (ho ma tx : List UInt8) (a b c d e f : Int) (bn : Nat) (hv : validL 1 v (h : Int) (l : Int) ho ma tx a b c d e f (bn : Int) = true) : (eqS ho [] && (eqS ma [] && (eqS tx [] && (eqI a 0 && (eqI b 0 && (eqI c 0 && (eqI d 0 && (eqI e 0 && (eqI f 0 && (eqI (bn : Int) 0 && (!v && (adrOk (h : Int) (l : Int))))))))))))) = true := hv
theorem valid_28 (v : Bool) (h l : Nat) (ho ma tx : List UInt8) (a b c d e f : Int) (bn : Nat) (hv : validL 28 v (h : Int) (l : Int) ho ma tx a b c d e f (bn : Int) = true) : (eqS ho [] && (eqS ma [] && (eqS tx [] && (eqI a 0 && (eqI b 0 && (eqI c 0 && (eqI d 0 && (eqI e 0 && (eqI f 0 && (eqI (bn : Int) 0 && (v))))))))))) = true := hv
theorem valid_2 (v : Bool) (h l : Nat) (ho ma tx : List UInt8) (a b c d e f : Int) (bn : Nat) (hv : validL 2 v (h : Int) (l : Int) ho ma tx a b c d e f (bn : Int) = true) : (!v && (eqI (h : Int) 0 && (eqI (l : Int) 0 && (eqS ma [] && (eqS tx [] && (eqI a 0 && (eqI b 0 && (eqI c 0 && (eqI d 0 && (eqI e 0 && (eqI f 0 && (eqI (bn : Int) 0 && (hostOk ho))))))))))))) = true := hv
theorem valid_5 (v : Bool) (h l : Nat) (ho ma tx : List UInt8) (a b c d e f : Int) (bn : Nat) (hv : validL 5 v (h : Int) (l : Int) ho ma tx a b c d e f (bn : Int) = true) : (!v && (eqI (h : Int) 0 && (eqI (l : Int) 0 && (eqS ma [] && (eqS tx [] && (eqI a 0 && (eqI b 0 && (eqI c 0 && (eqI d 0 && (eqI e 0 && (eqI f 0 && (eqI (bn : Int) 0 && (hostOk ho))))))))))))) = true := hv
theorem valid_12 (v : Bool) (h l : Nat) (ho ma tx : List UInt8) (a b c d e f : Int) (bn : Nat) (hv : validL 12 v (h : Int) (l : Int) ho ma tx a b c d e f (bn : Int) = true) : (!v && (eqI (h : Int) 0 && (eqI (l : Int) 0 && (eqS ma [] && (eqS tx [] && (eqI a 0 && (eqI b 0 && (eqI c 0 && (eqI d 0 && (eqI e 0 && (eqI f 0 && (eqI (bn : Int) 0 && (hostOk ho))))))))))))) = true := hv
theorem valid_39 (v : Bool) (h l : Nat) (ho ma tx : List UInt8) (a b c d e f : Int) (bn : Nat) (hv : validL 39 v (h : Int) (l : Int) ho ma tx a b c d e f (bn : Int) = true) : (!v && (eqI (h : Int) 0 && (eqI (l : Int) 0 && (eqS ma [] && (eqS tx [] && (eqI a 0 && (eqI b 0 && (eqI c 0 && (eqI d 0 && (eqI e 0 && (eqI f 0 && (eqI (bn : Int) 0 && (hostOk ho))))))))))))) = true := hv
theorem valid_6 (v : Bool) (h l : Nat) (ho ma tx : List UInt8) (a b c d e f : Int) (bn : Nat) (hv : validL 6 v (h : Int) (l : Int) ho ma tx a b c d e f (bn : Int) = true) : (!v && (eqI (h : Int) 0 && (eqI (l : Int) 0 && (eqS tx [] && (eqI f 0 && (eqI (bn : Int) 0 && (hostOk ho && (hostOk ma && (inR a 4294967295 && (inR b 2147483647 && (inR c 2147483647 && (inR d 2147483647 && (inR e 2147483647))))))))))))) = true := hv
theorem valid_15 (v : Bool) (h l : Nat) (ho ma tx : List UInt8) (a b c d e f : Int) (bn : Nat) (hv : validL 15 v (h : Int) (l : Int) ho ma tx a b c d e f (bn : Int) = true) : (!v && (eqI (h : Int) 0 && (eqI (l : Int) 0 && (eqS ma [] && (eqS tx [] && (eqI b 0 && (eqI c 0 && (eqI d 0 && (eqI e 0 && (eqI f 0 && (eqI (bn : Int) 0 && (hostOk ho && (inR a 65535))))))))))))) = true := hv
theorem valid_16 (v : Bool) (h l : Nat) (ho ma tx : List UInt8) (a b c d e f : Int) (bn : Nat) (hv : validL 16 v (h : Int) (l : Int) ho ma tx a b c d e f (bn : Int) = true) : (!v && (eqI (h : Int) 0 && (eqI (l : Int) 0 && (eqS ho [] && (eqS ma [] && (eqI a 0 && (eqI b 0 && (eqI c 0 && (eqI d 0 && (eqI e 0 && (eqI f 0 && (eqI (bn : Int) 0 && (leI (ln tx) 255))))))))))))) = true := hv
theorem valid_33 (v : Bool) (h l : Nat) (ho ma tx : List UInt8) (a b c d e f : Int) (bn : Nat) (hv : validL 33 v (h : Int) (l : Int) ho ma tx a b c d e f (bn : Int) = true) : (!v && (eqI (h : Int) 0 && (eqI (l : Int) 0 && (eqS ma [] && (eqS tx [] && (eqI d 0 && (eqI e 0 && (eqI f 0 && (eqI (bn : Int) 0 && (hostOk ho && (inR a 65535 && (inR b 65535 && (inR c 65535))))))))))))) = true := hv
theorem valid_43 (v : Bool) (h l : Nat) (ho ma tx : List UInt8) (a b c d e f : Int) (bn : Nat) (hv : validL 43 v (h : Int) (l : Int) ho ma tx a b c d e f (bn : Int) = true) : (!v && (eqI (h : Int) 0 && (eqI (l : Int) 0 && (eqS ho [] && (eqS ma [] && (eqI d 0 && (eqI e 0 && (eqI f 0 && (eqI (bn : Int) 0 && (lenT tx && (inR a 65535 && (inR b 255 && (inR c 255))))))))))))) = true := hv
theorem valid_48 (v : Bool) (h l : Nat) (ho ma tx : List UInt8) (a b c d e f : Int) (bn : Nat) (hv : validL 48 v (h : Int) (l : Int) ho ma tx a b c d e f (bn : Int) = true) : (!v && (eqI (h : Int) 0 && (eqI (l : Int) 0 && (eqS ho [] && (eqS ma [] && (eqI d 0 && (eqI e 0 && (eqI f 0 && (eqI (bn : Int) 0 && (lenT tx && ((eqI a 256 || eqI a 257) && (eqI b 3 && (inR c 255))))))))))))) = true := hv
theorem valid_46 (v : Bool) (h l : Nat) (ho ma tx : List UInt8) (a b c d e f : Int) (bn : Nat) (hv : validL 46 v (h : Int) (l : Int) ho ma tx a b c d e f (bn : Int) = true) : (!v && (eqI (h : Int) 0 && (eqI (l : Int) 0 && (eqS ma [] && (eqI (bn : Int) 0 && (lenT tx && (hostOk ho && (knL a && (!eqI a 46 && (inR b 127 && (inR c 2147483647 && (inR d 4294967295 && (inR e 4294967295 && (inR f 65535)))))))))))))) = true := hv
theorem valid_47 (v : Bool) (h l : Nat) (ho ma tx : List UInt8) (a b c d e f : Int) (bn : Nat) (hv : validL 47 v (h : Int) (l : Int) ho ma tx a b c d e f (bn : Int) = true) : (!v && (eqI (h : Int) 0 && (eqI (l : Int) 0 && (eqS ma [] && (eqS tx [] && (eqI a 0 && (eqI b 0 && (eqI c 0 && (eqI d 0 && (eqI e 0 && (eqI f 0 && (nameOk ho && (!eqI (bn : Int) 0 && (bitsOk bn)))))))))))))) = true := hv
theorem rng_1 (v : Bool) (h l : Nat) (ho ma tx : List UInt8) (a b c d e f : Int) (bn : Nat) (hv : validL 1 v (h : Int) (l : Int) ho ma tx a b c d e f (bn : Int) = true) : v = false ∧ h = 0 ∧ l ≤ 4294967295 := by
  have hv := valid_1 v h l ho ma tx a b c d e f bn hv
  simp only [inR_iff, lenT_iff, Bool.and_eq_true, Bool.or_eq_true, Bool.not_eq_true', adrOk, eqI_iff, leI_iff, eqS_iff, eqI_not] at hv
  skip
  first | (refine ⟨?_, ?_⟩; all_goals (first | omega | simp_all)) | omega | simp_all
theorem rng_28 (v : Bool) (h l : Nat) (ho ma tx : List UInt8) (a b c d e f : Int) (bn : Nat) (hv : validL 28 v (h : Int) (l : Int) ho ma tx a b c d e f (bn : Int) = true) : v = true := by
  have hv := valid_28 v h l ho ma tx a b c d e f bn hv
  simp only [inR_iff, lenT_iff, Bool.and_eq_true, Bool.or_eq_true, Bool.not_eq_true', adrOk, eqI_iff, leI_iff, eqS_iff, eqI_not] at hv
  skip
  first | (refine ⟨?_, ?_⟩; all_goals (first | omega | simp_all)) | omega | simp_all
theorem rng_2 (v : Bool) (h l : Nat) (ho ma tx : List UInt8) (a b c d e f : Int) (bn : Nat) (hv : validL 2 v (h : Int) (l : Int) ho ma tx a b c d e f (bn : Int) = true) : hostOk ho = true := by
  have hv := valid_2 v h l ho ma tx a b c d e f bn hv
  simp only [inR_iff, lenT_iff, Bool.and_eq_true, Bool.or_eq_true, Bool.not_eq_true', adrOk, eqI_iff, leI_iff, eqS_iff, eqI_not] at hv
  skip
  first | (refine ⟨?_, ?_⟩; all_goals (first | omega | simp_all)) | omega | simp_all
theorem rng_5 (v : Bool) (h l : Nat) (ho ma tx : List UInt8) (a b c d e f : Int) (bn : Nat) (hv : validL 5 v (h : Int) (l : Int) ho ma tx a b c d e f (bn : Int) = true) : hostOk ho = true := by
  have hv := valid_5 v h l ho ma tx a b c d e f bn hv
  simp only [inR_iff, lenT_iff, Bool.and_eq_true, Bool.or_eq_true, Bool.not_eq_true', adrOk, eqI_iff, leI_iff, eqS_iff, eqI_not] at hv
  skip
  first | (refine ⟨?_, ?_⟩; all_goals (first | omega | simp_all)) | omega | simp_all
theorem rng_12 (v : Bool) (h l : Nat) (ho ma tx : List UInt8) (a b c d e f : Int) (bn : Nat) (hv : validL 12 v (h : Int) (l : Int) ho ma tx a b c d e f (bn : Int) = true) : hostOk ho = true := by
  have hv := valid_12 v h l ho ma tx a b c d e f bn hv
  simp only [inR_iff, lenT_iff, Bool.and_eq_true, Bool.or_eq_true, Bool.not_eq_true', adrOk, eqI_iff, leI_iff, eqS_iff, eqI_not] at hv
  skip
  first | (refine ⟨?_, ?_⟩; all_goals (first | omega | simp_all)) | omega | simp_all
theorem rng_39 (v : Bool) (h l : Nat) (ho ma tx : List UInt8) (a b c d e f : Int) (bn : Nat) (hv : validL 39 v (h : Int) (l : Int) ho ma tx a b c d e f (bn : Int) = true) : hostOk ho = true := by
  have hv := valid_39 v h l ho ma tx a b c d e f bn hv
  simp only [inR_iff, lenT_iff, Bool.and_eq_true, Bool.or_eq_true, Bool.not_eq_true', adrOk, eqI_iff, leI_iff, eqS_iff, eqI_not] at hv
  skip
  first | (refine ⟨?_, ?_⟩; all_goals (first | omega | simp_all)) | omega | simp_all
theorem rng_6 (v : Bool) (h l : Nat) (ho ma tx : List UInt8) (a b c d e f : Int) (bn : Nat) (hv : validL 6 v (h : Int) (l : Int) ho ma tx a b c d e f (bn : Int) = true) : (0 ≤ a ∧ a ≤ 4294967295) ∧ (0 ≤ b ∧ b ≤ 2147483647) ∧ (0 ≤ c ∧ c ≤ 2147483647) ∧ (0 ≤ d ∧ d ≤ 2147483647) ∧ (0 ≤ e ∧ e ≤ 2147483647) ∧ hostOk ho = true ∧ hostOk ma = true := by
  have hv := valid_6 v h l ho ma tx a b c d e f bn hv
  simp only [inR_iff, lenT_iff, Bool.and_eq_true, Bool.or_eq_true, Bool.not_eq_true', adrOk, eqI_iff, leI_iff, eqS_iff, eqI_not] at hv
  skip
  first | (refine ⟨?_, ?_⟩; all_goals (first | omega | simp_all)) | omega | simp_all
theorem rng_15 (v : Bool) (h l : Nat) (ho ma tx : List UInt8) (a b c d e f : Int) (bn : Nat) (hv : validL 15 v (h : Int) (l : Int) ho ma tx a b c d e f (bn : Int) = true) : (0 ≤ a ∧ a ≤ 65535) ∧ hostOk ho = true := by
  have hv := valid_15 v h l ho ma tx a b c d e f bn hv
  simp only [inR_iff, lenT_iff, Bool.and_eq_true, Bool.or_eq_true, Bool.not_eq_true', adrOk, eqI_iff, leI_iff, eqS_iff, eqI_not] at hv
  skip
  first | (refine ⟨?_, ?_⟩; all_goals (first | omega | simp_all)) | omega | simp_all
theorem rng_16 (v : Bool) (h l : Nat) (ho ma tx : List UInt8) (a b c d e f : Int) (bn : Nat) (hv : validL 16 v (h : Int) (l : Int) ho ma tx a b c d e f (bn : Int) = true) : tx.length ≤ 255 := by
  have hv := valid_16 v h l ho ma tx a b c d e f bn hv
  simp only [inR_iff, lenT_iff, Bool.and_eq_true, Bool.or_eq_true, Bool.not_eq_true', adrOk, eqI_iff, leI_iff, eqS_iff, eqI_not] at hv
  simp only [ln] at hv
  first | (refine ⟨?_, ?_⟩; all_goals (first | omega | simp_all)) | omega | simp_all
theorem rng_33 (v : Bool) (h l : Nat) (ho ma tx : List UInt8) (a b c d e f : Int) (bn : Nat) (hv : validL 33 v (h : Int) (l : Int) ho ma tx a b c d e f (bn : Int) = true) : (0 ≤ a ∧ a ≤ 65535) ∧ (0 ≤ b ∧ b ≤ 65535) ∧ (0 ≤ c ∧ c ≤ 65535) ∧ hostOk ho = true := by
  have hv := valid_33 v h l ho ma tx a b c d e f bn hv
  simp only [inR_iff, lenT_iff, Bool.and_eq_true, Bool.or_eq_true, Bool.not_eq_true', adrOk, eqI_iff, leI_iff, eqS_iff, eqI_not] at hv
  skip
  first | (refine ⟨?_, ?_⟩; all_goals (first | omega | simp_all)) | omega | simp_all
theorem rng_43 (v : Bool) (h l : Nat) (ho ma tx : List UInt8) (a b c d e f : Int) (bn : Nat) (hv : validL 43 v (h : Int) (l : Int) ho ma tx a b c d e f (bn : Int) = true) : (0 ≤ a ∧ a ≤ 65535) ∧ (0 ≤ b ∧ b ≤ 255) ∧ (0 ≤ c ∧ c ≤ 255) ∧ (1 ≤ tx.length ∧ tx.length ≤ 255) := by
  have hv := valid_43 v h l ho ma tx a b c d e f bn hv
  simp only [inR_iff, lenT_iff, Bool.and_eq_true, Bool.or_eq_true, Bool.not_eq_true', adrOk, eqI_iff, leI_iff, eqS_iff, eqI_not] at hv
  skip
  first | (refine ⟨?_, ?_⟩; all_goals (first | omega | simp_all)) | omega | simp_all
theorem rng_48 (v : Bool) (h l : Nat) (ho ma tx : List UInt8) (a b c d e f : Int) (bn : Nat) (hv : validL 48 v (h : Int) (l : Int) ho ma tx a b c d e f (bn : Int) = true) : (0 ≤ a ∧ a ≤ 257) ∧ (0 ≤ b ∧ b ≤ 3) ∧ (0 ≤ c ∧ c ≤ 255) ∧ (1 ≤ tx.length ∧ tx.length ≤ 255) := by
  have hv := valid_48 v h l ho ma tx a b c d e f bn hv
  simp only [inR_iff, lenT_iff, Bool.and_eq_true, Bool.or_eq_true, Bool.not_eq_true', adrOk, eqI_iff, leI_iff, eqS_iff, eqI_not] at hv
  skip
  first | (refine ⟨?_, ?_⟩; all_goals (first | omega | simp_all)) | omega | simp_all
theorem rng_46 (v : Bool) (h l : Nat) (ho ma tx : List UInt8) (a b c d e f : Int) (bn : Nat) (hv : validL 46 v (h : Int) (l : Int) ho ma tx a b c d e f (bn : Int) = true) : (0 ≤ b ∧ b ≤ 127) ∧ (0 ≤ c ∧ c ≤ 2147483647) ∧ (0 ≤ d ∧ d ≤ 4294967295) ∧ (0 ≤ e ∧ e ≤ 4294967295) ∧ (0 ≤ f ∧ f ≤ 65535) ∧ (1 ≤ tx.length ∧ tx.length ≤ 255) ∧ hostOk ho = true := by
  have hv := valid_46 v h l ho ma tx a b c d e f bn hv
  simp only [inR_iff, lenT_iff, Bool.and_eq_true, Bool.or_eq_true, Bool.not_eq_true', adrOk, eqI_iff, leI_iff, eqS_iff, eqI_not] at hv
  skip
  first | (refine ⟨?_, ?_⟩; all_goals (first | omega | simp_all)) | omega | simp_all
theorem rng_47 (v : Bool) (h l : Nat) (ho ma tx : List UInt8) (a b c d e f : Int) (bn : Nat) (hv : validL 47 v (h : Int) (l : Int) ho ma tx a b c d e f (bn : Int) = true) : nameOk ho = true := by
  have hv := valid_47 v h l ho ma tx a b c d e f bn hv
  simp only [inR_iff, lenT_iff, Bool.and_eq_true, Bool.or_eq_true, Bool.not_eq_true', adrOk, eqI_iff, leI_iff, eqS_iff, eqI_not] at hv
  skip
  first | (refine ⟨?_, ?_⟩; all_goals (first | omega | simp_all)) | omega | simp_all
end Go.Ev
/- The words of data: the program's and the reference's answers, by types. Condition: none. -/
namespace Go.Ev
set_option linter.all false
set_option maxHeartbeats 4000000
set_option maxRecDepth 10000
theorem wp_1 (N : Nat) (v : Bool) (h l : Nat) (ho ma tx : List UInt8) (a b c d e f : Int) (bn : Nat) (hN : 1000 < N) (hh : h ≤ 18446744073709551615) (hl : l ≤ 18446744073709551615) (hb : bn ≤ 18446744073709551615) (hv : validL 1 v (h : Int) (l : Int) ho ma tx a b c d e f (bn : Int) = true) : rtext_Words N 1 v (h : Int) (l : Int) ho ma tx a b c d e f (bn : Int) = some (wordsL 1 v h l ho ma tx a b c d e f bn, 0) := by
  have hr := rng_1 v h l ho ma tx a b c d e f bn hv
  have hV := rdata_Valid_eq N 1 v (h : Int) (l : Int) ho ma tx a b c d e f bn hN hb
  rw [hv] at hV
  have hp := addr_Print_eq N v h l (by omega) hl
  have h2 : (addrL v h l).2 = 0 := by
    obtain ⟨rfl, rfl, h3⟩ := hr
    unfold addrL
    rw [if_neg (by simp), if_pos ⟨rfl, h3⟩]
  unfold rtext_Words
  simp only [rdata_Known_eq _ _ hN, show knL 1 = true from rfl, eqI_lit, Nat.reduceEqDiff, decide_true, decide_false, cond_true, cond_false, Option.bind_some, hV, hp, h2]
  first | rfl | (unfold wordsL; simp)
theorem wp_28 (N : Nat) (v : Bool) (h l : Nat) (ho ma tx : List UInt8) (a b c d e f : Int) (bn : Nat) (hN : 1000 < N) (hh : h ≤ 18446744073709551615) (hl : l ≤ 18446744073709551615) (hb : bn ≤ 18446744073709551615) (hv : validL 28 v (h : Int) (l : Int) ho ma tx a b c d e f (bn : Int) = true) : rtext_Words N 28 v (h : Int) (l : Int) ho ma tx a b c d e f (bn : Int) = some (wordsL 28 v h l ho ma tx a b c d e f bn, 0) := by
  have hr := rng_28 v h l ho ma tx a b c d e f bn hv
  have hV := rdata_Valid_eq N 28 v (h : Int) (l : Int) ho ma tx a b c d e f bn hN hb
  rw [hv] at hV
  have hp := addr_Print_eq N v h l (by omega) hl
  have h2 : (addrL v h l).2 = 0 := by
    subst hr
    rfl
  unfold rtext_Words
  simp only [rdata_Known_eq _ _ hN, show knL 28 = true from rfl, eqI_lit, Nat.reduceEqDiff, decide_true, decide_false, cond_true, cond_false, Option.bind_some, hV, hp, h2]
  first | rfl | (unfold wordsL; simp)
theorem wp_2 (N : Nat) (v : Bool) (h l : Nat) (ho ma tx : List UInt8) (a b c d e f : Int) (bn : Nat) (hN : 1000 < N) (hh : h ≤ 18446744073709551615) (hl : l ≤ 18446744073709551615) (hb : bn ≤ 18446744073709551615) (hv : validL 2 v (h : Int) (l : Int) ho ma tx a b c d e f (bn : Int) = true) : rtext_Words N 2 v (h : Int) (l : Int) ho ma tx a b c d e f (bn : Int) = some (wordsL 2 v h l ho ma tx a b c d e f bn, 0) := by
  have hr := rng_2 v h l ho ma tx a b c d e f bn hv
  have hV := rdata_Valid_eq N 2 v (h : Int) (l : Int) ho ma tx a b c d e f bn hN hb
  rw [hv] at hV
  unfold rtext_Words
  simp only [rdata_Known_eq _ _ hN, show knL 2 = true from rfl, eqI_lit, Nat.reduceEqDiff, decide_true, decide_false, cond_true, cond_false, Option.bind_some, hV]
  first | rfl | (unfold wordsL; simp)
theorem wp_5 (N : Nat) (v : Bool) (h l : Nat) (ho ma tx : List UInt8) (a b c d e f : Int) (bn : Nat) (hN : 1000 < N) (hh : h ≤ 18446744073709551615) (hl : l ≤ 18446744073709551615) (hb : bn ≤ 18446744073709551615) (hv : validL 5 v (h : Int) (l : Int) ho ma tx a b c d e f (bn : Int) = true) : rtext_Words N 5 v (h : Int) (l : Int) ho ma tx a b c d e f (bn : Int) = some (wordsL 5 v h l ho ma tx a b c d e f bn, 0) := by
  have hr := rng_5 v h l ho ma tx a b c d e f bn hv
  have hV := rdata_Valid_eq N 5 v (h : Int) (l : Int) ho ma tx a b c d e f bn hN hb
  rw [hv] at hV
  unfold rtext_Words
  simp only [rdata_Known_eq _ _ hN, show knL 5 = true from rfl, eqI_lit, Nat.reduceEqDiff, decide_true, decide_false, cond_true, cond_false, Option.bind_some, hV]
  first | rfl | (unfold wordsL; simp)
theorem wp_12 (N : Nat) (v : Bool) (h l : Nat) (ho ma tx : List UInt8) (a b c d e f : Int) (bn : Nat) (hN : 1000 < N) (hh : h ≤ 18446744073709551615) (hl : l ≤ 18446744073709551615) (hb : bn ≤ 18446744073709551615) (hv : validL 12 v (h : Int) (l : Int) ho ma tx a b c d e f (bn : Int) = true) : rtext_Words N 12 v (h : Int) (l : Int) ho ma tx a b c d e f (bn : Int) = some (wordsL 12 v h l ho ma tx a b c d e f bn, 0) := by
  have hr := rng_12 v h l ho ma tx a b c d e f bn hv
  have hV := rdata_Valid_eq N 12 v (h : Int) (l : Int) ho ma tx a b c d e f bn hN hb
  rw [hv] at hV
  unfold rtext_Words
  simp only [rdata_Known_eq _ _ hN, show knL 12 = true from rfl, eqI_lit, Nat.reduceEqDiff, decide_true, decide_false, cond_true, cond_false, Option.bind_some, hV]
  first | rfl | (unfold wordsL; simp)
theorem wp_39 (N : Nat) (v : Bool) (h l : Nat) (ho ma tx : List UInt8) (a b c d e f : Int) (bn : Nat) (hN : 1000 < N) (hh : h ≤ 18446744073709551615) (hl : l ≤ 18446744073709551615) (hb : bn ≤ 18446744073709551615) (hv : validL 39 v (h : Int) (l : Int) ho ma tx a b c d e f (bn : Int) = true) : rtext_Words N 39 v (h : Int) (l : Int) ho ma tx a b c d e f (bn : Int) = some (wordsL 39 v h l ho ma tx a b c d e f bn, 0) := by
  have hr := rng_39 v h l ho ma tx a b c d e f bn hv
  have hV := rdata_Valid_eq N 39 v (h : Int) (l : Int) ho ma tx a b c d e f bn hN hb
  rw [hv] at hV
  unfold rtext_Words
  simp only [rdata_Known_eq _ _ hN, show knL 39 = true from rfl, eqI_lit, Nat.reduceEqDiff, decide_true, decide_false, cond_true, cond_false, Option.bind_some, hV]
  first | rfl | (unfold wordsL; simp)
theorem wp_6 (N : Nat) (v : Bool) (h l : Nat) (ho ma tx : List UInt8) (a b c d e f : Int) (bn : Nat) (hN : 1000 < N) (hh : h ≤ 18446744073709551615) (hl : l ≤ 18446744073709551615) (hb : bn ≤ 18446744073709551615) (hv : validL 6 v (h : Int) (l : Int) ho ma tx a b c d e f (bn : Int) = true) : rtext_Words N 6 v (h : Int) (l : Int) ho ma tx a b c d e f (bn : Int) = some (wordsL 6 v h l ho ma tx a b c d e f bn, 0) := by
  have hr := rng_6 v h l ho ma tx a b c d e f bn hv
  have hV := rdata_Valid_eq N 6 v (h : Int) (l : Int) ho ma tx a b c d e f bn hN hb
  rw [hv] at hV
  have hn : rtext_numbers N [a, b, c, d, e] = some (List.map decS [a, b, c, d, e]) := numbers_eq N _ hN (by simp) (by
    intro x hx
    simp only [List.mem_cons, List.not_mem_nil, or_false] at hx
    rcases hx with rfl | rfl | rfl | rfl | rfl <;> omega)
  have hro : room [(), ()] (List.map decS [a, b, c, d, e]) 16 = true := rfl
  unfold rtext_Words
  simp only [rdata_Known_eq _ _ hN, show knL 6 = true from rfl, eqI_lit, Nat.reduceEqDiff, decide_true, decide_false, cond_true, cond_false, Option.bind_some, hV, hn, hro]
  first | rfl | (unfold wordsL; simp)
theorem wp_15 (N : Nat) (v : Bool) (h l : Nat) (ho ma tx : List UInt8) (a b c d e f : Int) (bn : Nat) (hN : 1000 < N) (hh : h ≤ 18446744073709551615) (hl : l ≤ 18446744073709551615) (hb : bn ≤ 18446744073709551615) (hv : validL 15 v (h : Int) (l : Int) ho ma tx a b c d e f (bn : Int) = true) : rtext_Words N 15 v (h : Int) (l : Int) ho ma tx a b c d e f (bn : Int) = some (wordsL 15 v h l ho ma tx a b c d e f bn, 0) := by
  have hr := rng_15 v h l ho ma tx a b c d e f bn hv
  have hV := rdata_Valid_eq N 15 v (h : Int) (l : Int) ho ma tx a b c d e f bn hN hb
  rw [hv] at hV
  have hn : rtext_numbers N [a] = some (List.map decS [a]) := numbers_eq N _ hN (by simp) (by
    intro x hx
    simp only [List.mem_cons, List.not_mem_nil, or_false] at hx
    rcases hx with rfl <;> omega)
  have hro : room1 (List.map decS [a]) 1 16 = true := rfl
  unfold rtext_Words
  simp only [rdata_Known_eq _ _ hN, show knL 15 = true from rfl, eqI_lit, Nat.reduceEqDiff, decide_true, decide_false, cond_true, cond_false, Option.bind_some, hV, hn, hro]
  first | rfl | (unfold wordsL; simp)
theorem wp_16 (N : Nat) (v : Bool) (h l : Nat) (ho ma tx : List UInt8) (a b c d e f : Int) (bn : Nat) (hN : 1000 < N) (hh : h ≤ 18446744073709551615) (hl : l ≤ 18446744073709551615) (hb : bn ≤ 18446744073709551615) (hv : validL 16 v (h : Int) (l : Int) ho ma tx a b c d e f (bn : Int) = true) : rtext_Words N 16 v (h : Int) (l : Int) ho ma tx a b c d e f (bn : Int) = some (wordsL 16 v h l ho ma tx a b c d e f bn, 0) := by
  have hr := rng_16 v h l ho ma tx a b c d e f bn hv
  have hV := rdata_Valid_eq N 16 v (h : Int) (l : Int) ho ma tx a b c d e f bn hN hb
  rw [hv] at hV
  unfold rtext_Words
  simp only [rdata_Known_eq _ _ hN, show knL 16 = true from rfl, eqI_lit, Nat.reduceEqDiff, decide_true, decide_false, cond_true, cond_false, Option.bind_some, hV]
  first | rfl | (unfold wordsL; simp)
theorem wp_33 (N : Nat) (v : Bool) (h l : Nat) (ho ma tx : List UInt8) (a b c d e f : Int) (bn : Nat) (hN : 1000 < N) (hh : h ≤ 18446744073709551615) (hl : l ≤ 18446744073709551615) (hb : bn ≤ 18446744073709551615) (hv : validL 33 v (h : Int) (l : Int) ho ma tx a b c d e f (bn : Int) = true) : rtext_Words N 33 v (h : Int) (l : Int) ho ma tx a b c d e f (bn : Int) = some (wordsL 33 v h l ho ma tx a b c d e f bn, 0) := by
  have hr := rng_33 v h l ho ma tx a b c d e f bn hv
  have hV := rdata_Valid_eq N 33 v (h : Int) (l : Int) ho ma tx a b c d e f bn hN hb
  rw [hv] at hV
  have hn : rtext_numbers N [a, b, c] = some (List.map decS [a, b, c]) := numbers_eq N _ hN (by simp) (by
    intro x hx
    simp only [List.mem_cons, List.not_mem_nil, or_false] at hx
    rcases hx with rfl | rfl | rfl <;> omega)
  have hro : room1 (List.map decS [a, b, c]) 1 16 = true := rfl
  unfold rtext_Words
  simp only [rdata_Known_eq _ _ hN, show knL 33 = true from rfl, eqI_lit, Nat.reduceEqDiff, decide_true, decide_false, cond_true, cond_false, Option.bind_some, hV, hn, hro]
  first | rfl | (unfold wordsL; simp)
theorem wp_43 (N : Nat) (v : Bool) (h l : Nat) (ho ma tx : List UInt8) (a b c d e f : Int) (bn : Nat) (hN : 1000 < N) (hh : h ≤ 18446744073709551615) (hl : l ≤ 18446744073709551615) (hb : bn ≤ 18446744073709551615) (hv : validL 43 v (h : Int) (l : Int) ho ma tx a b c d e f (bn : Int) = true) : rtext_Words N 43 v (h : Int) (l : Int) ho ma tx a b c d e f (bn : Int) = some (wordsL 43 v h l ho ma tx a b c d e f bn, 0) := by
  have hr := rng_43 v h l ho ma tx a b c d e f bn hv
  have hV := rdata_Valid_eq N 43 v (h : Int) (l : Int) ho ma tx a b c d e f bn hN hb
  rw [hv] at hV
  have hn : rtext_numbers N [a, b, c] = some (List.map decS [a, b, c]) := numbers_eq N _ hN (by simp) (by
    intro x hx
    simp only [List.mem_cons, List.not_mem_nil, or_false] at hx
    rcases hx with rfl | rfl | rfl <;> omega)
  have hd := digits_eq N tx hN (by omega)
  have hro : room1 (List.map decS [a, b, c]) 1 16 = true := rfl
  unfold rtext_Words
  simp only [rdata_Known_eq _ _ hN, show knL 43 = true from rfl, eqI_lit, Nat.reduceEqDiff, decide_true, decide_false, cond_true, cond_false, Option.bind_some, hV, hn, hd, hro]
  first | rfl | (unfold wordsL; simp)
theorem wp_48 (N : Nat) (v : Bool) (h l : Nat) (ho ma tx : List UInt8) (a b c d e f : Int) (bn : Nat) (hN : 1000 < N) (hh : h ≤ 18446744073709551615) (hl : l ≤ 18446744073709551615) (hb : bn ≤ 18446744073709551615) (hv : validL 48 v (h : Int) (l : Int) ho ma tx a b c d e f (bn : Int) = true) : rtext_Words N 48 v (h : Int) (l : Int) ho ma tx a b c d e f (bn : Int) = some (wordsL 48 v h l ho ma tx a b c d e f bn, 0) := by
  have hr := rng_48 v h l ho ma tx a b c d e f bn hv
  have hV := rdata_Valid_eq N 48 v (h : Int) (l : Int) ho ma tx a b c d e f bn hN hb
  rw [hv] at hV
  have hn : rtext_numbers N [a, b, c] = some (List.map decS [a, b, c]) := numbers_eq N _ hN (by simp) (by
    intro x hx
    simp only [List.mem_cons, List.not_mem_nil, or_false] at hx
    rcases hx with rfl | rfl | rfl <;> omega)
  have hd := digits_eq N tx hN (by omega)
  have hro : room1 (List.map decS [a, b, c]) 1 16 = true := rfl
  unfold rtext_Words
  simp only [rdata_Known_eq _ _ hN, show knL 48 = true from rfl, eqI_lit, Nat.reduceEqDiff, decide_true, decide_false, cond_true, cond_false, Option.bind_some, hV, hn, hd, hro]
  first | rfl | (unfold wordsL; simp)
theorem wp_46 (N : Nat) (v : Bool) (h l : Nat) (ho ma tx : List UInt8) (a b c d e f : Int) (bn : Nat) (hN : 1000 < N) (hh : h ≤ 18446744073709551615) (hl : l ≤ 18446744073709551615) (hb : bn ≤ 18446744073709551615) (hv : validL 46 v (h : Int) (l : Int) ho ma tx a b c d e f (bn : Int) = true) : rtext_Words N 46 v (h : Int) (l : Int) ho ma tx a b c d e f (bn : Int) = some (wordsL 46 v h l ho ma tx a b c d e f bn, 0) := by
  have hr := rng_46 v h l ho ma tx a b c d e f bn hv
  have hV := rdata_Valid_eq N 46 v (h : Int) (l : Int) ho ma tx a b c d e f bn hN hb
  rw [hv] at hV
  have hn : rtext_numbers N [253, b, c, d, e, f] = some (List.map decS [253, b, c, d, e, f]) := numbers_eq N _ hN (by simp) (by
    intro x hx
    simp only [List.mem_cons, List.not_mem_nil, or_false] at hx
    rcases hx with rfl | rfl | rfl | rfl | rfl | rfl <;> omega)
  have hd := digits_eq N tx hN (by omega)
  have hro : room [()] (List.map decS [253, b, c, d, e, f]) 16 = true := rfl
  have hro2 : room1 (List.map decS [253, b, c, d, e, f]) 3 16 = true := rfl
  have hm := rdata_Mnemonic_eq N a hN
  have h253 : decS 253 = [50, 53, 51] := by decide +kernel
  unfold rtext_Words
  simp only [rdata_Known_eq _ _ hN, show knL 46 = true from rfl, eqI_lit, Nat.reduceEqDiff, decide_true, decide_false, cond_true, cond_false, Option.bind_some, hV, hn, hd, hro, hro2, hm]
  unfold wordsL; simp [h253]
theorem wp_47 (N : Nat) (v : Bool) (h l : Nat) (ho ma tx : List UInt8) (a b c d e f : Int) (bn : Nat) (hN : 1000 < N) (hh : h ≤ 18446744073709551615) (hl : l ≤ 18446744073709551615) (hb : bn ≤ 18446744073709551615) (hv : validL 47 v (h : Int) (l : Int) ho ma tx a b c d e f (bn : Int) = true) : rtext_Words N 47 v (h : Int) (l : Int) ho ma tx a b c d e f (bn : Int) = some (wordsL 47 v h l ho ma tx a b c d e f bn, 0) := by
  have hr := rng_47 v h l ho ma tx a b c d e f bn hv
  have hV := rdata_Valid_eq N 47 v (h : Int) (l : Int) ho ma tx a b c d e f bn hN hb
  rw [hv] at hV
  have hn := mnemonics_eq N bn hb hN
  have hro : room [()] (tyW bn) 16 = true := room_ok _ _ _ (by have := tyW_len bn; simp; omega) (by have := tyW_len bn; simp; omega)
  unfold rtext_Words
  simp only [rdata_Known_eq _ _ hN, show knL 47 = true from rfl, eqI_lit, Nat.reduceEqDiff, decide_true, decide_false, cond_true, cond_false, Option.bind_some, hV, hn, hro]
  first | rfl | (unfold wordsL; simp)
theorem wr_1 (N : Nat) (v : Bool) (h l : Nat) (ho ma tx : List UInt8) (a b c d e f : Int) (bn : Nat) (hN : 1000 < N) (hh : h ≤ 18446744073709551615) (hl : l ≤ 18446744073709551615) (hb : bn ≤ 18446744073709551615) (hv : validL 1 v (h : Int) (l : Int) ho ma tx a b c d e f (bn : Int) = true) : r06_Words N 1 v (h : Int) (l : Int) ho ma tx a b c d e f (bn : Int) = some (wordsL 1 v h l ho ma tx a b c d e f bn, 0) := by
  have hr := rng_1 v h l ho ma tx a b c d e f bn hv
  have hV := r05_Valid_eq N 1 v (h : Int) (l : Int) ho ma tx a b c d e f bn hN hb
  rw [hv] at hV
  have hw := words_loop N 1 v (h : Int) (l : Int) ho ma tx a b c d e f (bn : Int) (fun x => wdL x v h l ho ma tx a b c d e f bn) [97] (by simp) (by
    intro x hx hne
    simp only [List.mem_cons, List.not_mem_nil, or_false] at hx
    rcases hx with rfl
    · exact word_97 N v h l ho ma tx a b c d e f (bn : Int) (by omega) hh hl) N 0 [] (by omega) (by simp; omega) (by simp)
  have hw' : r06_Words_L1 N N 1 [] [97] 0 v (h : Int) (l : Int) ho ma tx a b c d e f (bn : Int) = _ := hw
  rw [List.drop_zero, List.nil_append] at hw'
  unfold r06_Words
  simp only [r05_Known_eq, show knL 1 = true from rfl, show r06_Fields N 1 = some [97] from rfl, hw', eqI_lit, Nat.reduceEqDiff, decide_true, decide_false, cond_true, cond_false, Option.bind_some, hV]
  first | rfl | (unfold wordsL; simp [tyW])
theorem wr_28 (N : Nat) (v : Bool) (h l : Nat) (ho ma tx : List UInt8) (a b c d e f : Int) (bn : Nat) (hN : 1000 < N) (hh : h ≤ 18446744073709551615) (hl : l ≤ 18446744073709551615) (hb : bn ≤ 18446744073709551615) (hv : validL 28 v (h : Int) (l : Int) ho ma tx a b c d e f (bn : Int) = true) : r06_Words N 28 v (h : Int) (l : Int) ho ma tx a b c d e f (bn : Int) = some (wordsL 28 v h l ho ma tx a b c d e f bn, 0) := by
  have hr := rng_28 v h l ho ma tx a b c d e f bn hv
  have hV := r05_Valid_eq N 28 v (h : Int) (l : Int) ho ma tx a b c d e f bn hN hb
  rw [hv] at hV
  have hw := words_loop N 28 v (h : Int) (l : Int) ho ma tx a b c d e f (bn : Int) (fun x => wdL x v h l ho ma tx a b c d e f bn) [97] (by simp) (by
    intro x hx hne
    simp only [List.mem_cons, List.not_mem_nil, or_false] at hx
    rcases hx with rfl
    · exact word_97 N v h l ho ma tx a b c d e f (bn : Int) (by omega) hh hl) N 0 [] (by omega) (by simp; omega) (by simp)
  have hw' : r06_Words_L1 N N 28 [] [97] 0 v (h : Int) (l : Int) ho ma tx a b c d e f (bn : Int) = _ := hw
  rw [List.drop_zero, List.nil_append] at hw'
  unfold r06_Words
  simp only [r05_Known_eq, show knL 28 = true from rfl, show r06_Fields N 28 = some [97] from rfl, hw', eqI_lit, Nat.reduceEqDiff, decide_true, decide_false, cond_true, cond_false, Option.bind_some, hV]
  first | rfl | (unfold wordsL; simp [tyW])
theorem wr_2 (N : Nat) (v : Bool) (h l : Nat) (ho ma tx : List UInt8) (a b c d e f : Int) (bn : Nat) (hN : 1000 < N) (hh : h ≤ 18446744073709551615) (hl : l ≤ 18446744073709551615) (hb : bn ≤ 18446744073709551615) (hv : validL 2 v (h : Int) (l : Int) ho ma tx a b c d e f (bn : Int) = true) : r06_Words N 2 v (h : Int) (l : Int) ho ma tx a b c d e f (bn : Int) = some (wordsL 2 v h l ho ma tx a b c d e f bn, 0) := by
  have hr := rng_2 v h l ho ma tx a b c d e f bn hv
  have hV := r05_Valid_eq N 2 v (h : Int) (l : Int) ho ma tx a b c d e f bn hN hb
  rw [hv] at hV
  have hw := words_loop N 2 v (h : Int) (l : Int) ho ma tx a b c d e f (bn : Int) (fun x => wdL x v h l ho ma tx a b c d e f bn) [110] (by simp) (by
    intro x hx hne
    simp only [List.mem_cons, List.not_mem_nil, or_false] at hx
    rcases hx with rfl
    · exact word_110 ..) N 0 [] (by omega) (by simp; omega) (by simp)
  have hw' : r06_Words_L1 N N 2 [] [110] 0 v (h : Int) (l : Int) ho ma tx a b c d e f (bn : Int) = _ := hw
  rw [List.drop_zero, List.nil_append] at hw'
  unfold r06_Words
  simp only [r05_Known_eq, show knL 2 = true from rfl, show r06_Fields N 2 = some [110] from rfl, hw', eqI_lit, Nat.reduceEqDiff, decide_true, decide_false, cond_true, cond_false, Option.bind_some, hV]
  first | rfl | (unfold wordsL; simp [tyW])
theorem wr_5 (N : Nat) (v : Bool) (h l : Nat) (ho ma tx : List UInt8) (a b c d e f : Int) (bn : Nat) (hN : 1000 < N) (hh : h ≤ 18446744073709551615) (hl : l ≤ 18446744073709551615) (hb : bn ≤ 18446744073709551615) (hv : validL 5 v (h : Int) (l : Int) ho ma tx a b c d e f (bn : Int) = true) : r06_Words N 5 v (h : Int) (l : Int) ho ma tx a b c d e f (bn : Int) = some (wordsL 5 v h l ho ma tx a b c d e f bn, 0) := by
  have hr := rng_5 v h l ho ma tx a b c d e f bn hv
  have hV := r05_Valid_eq N 5 v (h : Int) (l : Int) ho ma tx a b c d e f bn hN hb
  rw [hv] at hV
  have hw := words_loop N 5 v (h : Int) (l : Int) ho ma tx a b c d e f (bn : Int) (fun x => wdL x v h l ho ma tx a b c d e f bn) [110] (by simp) (by
    intro x hx hne
    simp only [List.mem_cons, List.not_mem_nil, or_false] at hx
    rcases hx with rfl
    · exact word_110 ..) N 0 [] (by omega) (by simp; omega) (by simp)
  have hw' : r06_Words_L1 N N 5 [] [110] 0 v (h : Int) (l : Int) ho ma tx a b c d e f (bn : Int) = _ := hw
  rw [List.drop_zero, List.nil_append] at hw'
  unfold r06_Words
  simp only [r05_Known_eq, show knL 5 = true from rfl, show r06_Fields N 5 = some [110] from rfl, hw', eqI_lit, Nat.reduceEqDiff, decide_true, decide_false, cond_true, cond_false, Option.bind_some, hV]
  first | rfl | (unfold wordsL; simp [tyW])
theorem wr_12 (N : Nat) (v : Bool) (h l : Nat) (ho ma tx : List UInt8) (a b c d e f : Int) (bn : Nat) (hN : 1000 < N) (hh : h ≤ 18446744073709551615) (hl : l ≤ 18446744073709551615) (hb : bn ≤ 18446744073709551615) (hv : validL 12 v (h : Int) (l : Int) ho ma tx a b c d e f (bn : Int) = true) : r06_Words N 12 v (h : Int) (l : Int) ho ma tx a b c d e f (bn : Int) = some (wordsL 12 v h l ho ma tx a b c d e f bn, 0) := by
  have hr := rng_12 v h l ho ma tx a b c d e f bn hv
  have hV := r05_Valid_eq N 12 v (h : Int) (l : Int) ho ma tx a b c d e f bn hN hb
  rw [hv] at hV
  have hw := words_loop N 12 v (h : Int) (l : Int) ho ma tx a b c d e f (bn : Int) (fun x => wdL x v h l ho ma tx a b c d e f bn) [110] (by simp) (by
    intro x hx hne
    simp only [List.mem_cons, List.not_mem_nil, or_false] at hx
    rcases hx with rfl
    · exact word_110 ..) N 0 [] (by omega) (by simp; omega) (by simp)
  have hw' : r06_Words_L1 N N 12 [] [110] 0 v (h : Int) (l : Int) ho ma tx a b c d e f (bn : Int) = _ := hw
  rw [List.drop_zero, List.nil_append] at hw'
  unfold r06_Words
  simp only [r05_Known_eq, show knL 12 = true from rfl, show r06_Fields N 12 = some [110] from rfl, hw', eqI_lit, Nat.reduceEqDiff, decide_true, decide_false, cond_true, cond_false, Option.bind_some, hV]
  first | rfl | (unfold wordsL; simp [tyW])
theorem wr_39 (N : Nat) (v : Bool) (h l : Nat) (ho ma tx : List UInt8) (a b c d e f : Int) (bn : Nat) (hN : 1000 < N) (hh : h ≤ 18446744073709551615) (hl : l ≤ 18446744073709551615) (hb : bn ≤ 18446744073709551615) (hv : validL 39 v (h : Int) (l : Int) ho ma tx a b c d e f (bn : Int) = true) : r06_Words N 39 v (h : Int) (l : Int) ho ma tx a b c d e f (bn : Int) = some (wordsL 39 v h l ho ma tx a b c d e f bn, 0) := by
  have hr := rng_39 v h l ho ma tx a b c d e f bn hv
  have hV := r05_Valid_eq N 39 v (h : Int) (l : Int) ho ma tx a b c d e f bn hN hb
  rw [hv] at hV
  have hw := words_loop N 39 v (h : Int) (l : Int) ho ma tx a b c d e f (bn : Int) (fun x => wdL x v h l ho ma tx a b c d e f bn) [110] (by simp) (by
    intro x hx hne
    simp only [List.mem_cons, List.not_mem_nil, or_false] at hx
    rcases hx with rfl
    · exact word_110 ..) N 0 [] (by omega) (by simp; omega) (by simp)
  have hw' : r06_Words_L1 N N 39 [] [110] 0 v (h : Int) (l : Int) ho ma tx a b c d e f (bn : Int) = _ := hw
  rw [List.drop_zero, List.nil_append] at hw'
  unfold r06_Words
  simp only [r05_Known_eq, show knL 39 = true from rfl, show r06_Fields N 39 = some [110] from rfl, hw', eqI_lit, Nat.reduceEqDiff, decide_true, decide_false, cond_true, cond_false, Option.bind_some, hV]
  first | rfl | (unfold wordsL; simp [tyW])
theorem wr_6 (N : Nat) (v : Bool) (h l : Nat) (ho ma tx : List UInt8) (a b c d e f : Int) (bn : Nat) (hN : 1000 < N) (hh : h ≤ 18446744073709551615) (hl : l ≤ 18446744073709551615) (hb : bn ≤ 18446744073709551615) (hv : validL 6 v (h : Int) (l : Int) ho ma tx a b c d e f (bn : Int) = true) : r06_Words N 6 v (h : Int) (l : Int) ho ma tx a b c d e f (bn : Int) = some (wordsL 6 v h l ho ma tx a b c d e f bn, 0) := by
  have hr := rng_6 v h l ho ma tx a b c d e f bn hv
  have hV := r05_Valid_eq N 6 v (h : Int) (l : Int) ho ma tx a b c d e f bn hN hb
  rw [hv] at hV
  have hw := words_loop N 6 v (h : Int) (l : Int) ho ma tx a b c d e f (bn : Int) (fun x => wdL x v h l ho ma tx a b c d e f bn) [110, 109, 65, 98, 99, 100, 101] (by simp) (by
    intro x hx hne
    simp only [List.mem_cons, List.not_mem_nil, or_false] at hx
    rcases hx with rfl | rfl | rfl | rfl | rfl | rfl | rfl
    · exact word_110 ..
    · exact word_109 ..
    · exact word_65 _ _ _ _ _ _ _ _ _ _ _ _ _ _ (by omega)
    · exact word_98 _ _ _ _ _ _ _ _ _ _ _ _ _ _ (by omega)
    · exact word_99 _ _ _ _ _ _ _ _ _ _ _ _ _ _ (by omega)
    · exact word_100 _ _ _ _ _ _ _ _ _ _ _ _ _ _ (by omega)
    · exact word_101 _ _ _ _ _ _ _ _ _ _ _ _ _ _ (by omega)) N 0 [] (by omega) (by simp; omega) (by simp)
  have hw' : r06_Words_L1 N N 6 [] [110, 109, 65, 98, 99, 100, 101] 0 v (h : Int) (l : Int) ho ma tx a b c d e f (bn : Int) = _ := hw
  rw [List.drop_zero, List.nil_append] at hw'
  unfold r06_Words
  simp only [r05_Known_eq, show knL 6 = true from rfl, show r06_Fields N 6 = some [110, 109, 65, 98, 99, 100, 101] from rfl, hw', eqI_lit, Nat.reduceEqDiff, decide_true, decide_false, cond_true, cond_false, Option.bind_some, hV]
  first | rfl | (unfold wordsL; simp [tyW])
theorem wr_15 (N : Nat) (v : Bool) (h l : Nat) (ho ma tx : List UInt8) (a b c d e f : Int) (bn : Nat) (hN : 1000 < N) (hh : h ≤ 18446744073709551615) (hl : l ≤ 18446744073709551615) (hb : bn ≤ 18446744073709551615) (hv : validL 15 v (h : Int) (l : Int) ho ma tx a b c d e f (bn : Int) = true) : r06_Words N 15 v (h : Int) (l : Int) ho ma tx a b c d e f (bn : Int) = some (wordsL 15 v h l ho ma tx a b c d e f bn, 0) := by
  have hr := rng_15 v h l ho ma tx a b c d e f bn hv
  have hV := r05_Valid_eq N 15 v (h : Int) (l : Int) ho ma tx a b c d e f bn hN hb
  rw [hv] at hV
  have hw := words_loop N 15 v (h : Int) (l : Int) ho ma tx a b c d e f (bn : Int) (fun x => wdL x v h l ho ma tx a b c d e f bn) [65, 110] (by simp) (by
    intro x hx hne
    simp only [List.mem_cons, List.not_mem_nil, or_false] at hx
    rcases hx with rfl | rfl
    · exact word_65 _ _ _ _ _ _ _ _ _ _ _ _ _ _ (by omega)
    · exact word_110 ..) N 0 [] (by omega) (by simp; omega) (by simp)
  have hw' : r06_Words_L1 N N 15 [] [65, 110] 0 v (h : Int) (l : Int) ho ma tx a b c d e f (bn : Int) = _ := hw
  rw [List.drop_zero, List.nil_append] at hw'
  unfold r06_Words
  simp only [r05_Known_eq, show knL 15 = true from rfl, show r06_Fields N 15 = some [65, 110] from rfl, hw', eqI_lit, Nat.reduceEqDiff, decide_true, decide_false, cond_true, cond_false, Option.bind_some, hV]
  first | rfl | (unfold wordsL; simp [tyW])
theorem wr_16 (N : Nat) (v : Bool) (h l : Nat) (ho ma tx : List UInt8) (a b c d e f : Int) (bn : Nat) (hN : 1000 < N) (hh : h ≤ 18446744073709551615) (hl : l ≤ 18446744073709551615) (hb : bn ≤ 18446744073709551615) (hv : validL 16 v (h : Int) (l : Int) ho ma tx a b c d e f (bn : Int) = true) : r06_Words N 16 v (h : Int) (l : Int) ho ma tx a b c d e f (bn : Int) = some (wordsL 16 v h l ho ma tx a b c d e f bn, 0) := by
  have hr := rng_16 v h l ho ma tx a b c d e f bn hv
  have hV := r05_Valid_eq N 16 v (h : Int) (l : Int) ho ma tx a b c d e f bn hN hb
  rw [hv] at hV
  have hw := words_loop N 16 v (h : Int) (l : Int) ho ma tx a b c d e f (bn : Int) (fun x => wdL x v h l ho ma tx a b c d e f bn) [116] (by simp) (by
    intro x hx hne
    simp only [List.mem_cons, List.not_mem_nil, or_false] at hx
    rcases hx with rfl
    · exact word_116 ..) N 0 [] (by omega) (by simp; omega) (by simp)
  have hw' : r06_Words_L1 N N 16 [] [116] 0 v (h : Int) (l : Int) ho ma tx a b c d e f (bn : Int) = _ := hw
  rw [List.drop_zero, List.nil_append] at hw'
  unfold r06_Words
  simp only [r05_Known_eq, show knL 16 = true from rfl, show r06_Fields N 16 = some [116] from rfl, hw', eqI_lit, Nat.reduceEqDiff, decide_true, decide_false, cond_true, cond_false, Option.bind_some, hV]
  first | rfl | (unfold wordsL; simp [tyW])
theorem wr_33 (N : Nat) (v : Bool) (h l : Nat) (ho ma tx : List UInt8) (a b c d e f : Int) (bn : Nat) (hN : 1000 < N) (hh : h ≤ 18446744073709551615) (hl : l ≤ 18446744073709551615) (hb : bn ≤ 18446744073709551615) (hv : validL 33 v (h : Int) (l : Int) ho ma tx a b c d e f (bn : Int) = true) : r06_Words N 33 v (h : Int) (l : Int) ho ma tx a b c d e f (bn : Int) = some (wordsL 33 v h l ho ma tx a b c d e f bn, 0) := by
  have hr := rng_33 v h l ho ma tx a b c d e f bn hv
  have hV := r05_Valid_eq N 33 v (h : Int) (l : Int) ho ma tx a b c d e f bn hN hb
  rw [hv] at hV
  have hw := words_loop N 33 v (h : Int) (l : Int) ho ma tx a b c d e f (bn : Int) (fun x => wdL x v h l ho ma tx a b c d e f bn) [65, 66, 67, 110] (by simp) (by
    intro x hx hne
    simp only [List.mem_cons, List.not_mem_nil, or_false] at hx
    rcases hx with rfl | rfl | rfl | rfl
    · exact word_65 _ _ _ _ _ _ _ _ _ _ _ _ _ _ (by omega)
    · exact word_66 _ _ _ _ _ _ _ _ _ _ _ _ _ _ (by omega)
    · exact word_67 _ _ _ _ _ _ _ _ _ _ _ _ _ _ (by omega)
    · exact word_110 ..) N 0 [] (by omega) (by simp; omega) (by simp)
  have hw' : r06_Words_L1 N N 33 [] [65, 66, 67, 110] 0 v (h : Int) (l : Int) ho ma tx a b c d e f (bn : Int) = _ := hw
  rw [List.drop_zero, List.nil_append] at hw'
  unfold r06_Words
  simp only [r05_Known_eq, show knL 33 = true from rfl, show r06_Fields N 33 = some [65, 66, 67, 110] from rfl, hw', eqI_lit, Nat.reduceEqDiff, decide_true, decide_false, cond_true, cond_false, Option.bind_some, hV]
  first | rfl | (unfold wordsL; simp [tyW])
theorem wr_43 (N : Nat) (v : Bool) (h l : Nat) (ho ma tx : List UInt8) (a b c d e f : Int) (bn : Nat) (hN : 1000 < N) (hh : h ≤ 18446744073709551615) (hl : l ≤ 18446744073709551615) (hb : bn ≤ 18446744073709551615) (hv : validL 43 v (h : Int) (l : Int) ho ma tx a b c d e f (bn : Int) = true) : r06_Words N 43 v (h : Int) (l : Int) ho ma tx a b c d e f (bn : Int) = some (wordsL 43 v h l ho ma tx a b c d e f bn, 0) := by
  have hr := rng_43 v h l ho ma tx a b c d e f bn hv
  have hV := r05_Valid_eq N 43 v (h : Int) (l : Int) ho ma tx a b c d e f bn hN hb
  rw [hv] at hV
  have hw := words_loop N 43 v (h : Int) (l : Int) ho ma tx a b c d e f (bn : Int) (fun x => wdL x v h l ho ma tx a b c d e f bn) [65, 66, 67, 120] (by simp) (by
    intro x hx hne
    simp only [List.mem_cons, List.not_mem_nil, or_false] at hx
    rcases hx with rfl | rfl | rfl | rfl
    · exact word_65 _ _ _ _ _ _ _ _ _ _ _ _ _ _ (by omega)
    · exact word_66 _ _ _ _ _ _ _ _ _ _ _ _ _ _ (by omega)
    · exact word_67 _ _ _ _ _ _ _ _ _ _ _ _ _ _ (by omega)
    · exact word_120 _ _ _ _ _ _ _ _ _ _ _ _ _ _ hN (by omega)) N 0 [] (by omega) (by simp; omega) (by simp)
  have hw' : r06_Words_L1 N N 43 [] [65, 66, 67, 120] 0 v (h : Int) (l : Int) ho ma tx a b c d e f (bn : Int) = _ := hw
  rw [List.drop_zero, List.nil_append] at hw'
  unfold r06_Words
  simp only [r05_Known_eq, show knL 43 = true from rfl, show r06_Fields N 43 = some [65, 66, 67, 120] from rfl, hw', eqI_lit, Nat.reduceEqDiff, decide_true, decide_false, cond_true, cond_false, Option.bind_some, hV]
  first | rfl | (unfold wordsL; simp [tyW])
theorem wr_48 (N : Nat) (v : Bool) (h l : Nat) (ho ma tx : List UInt8) (a b c d e f : Int) (bn : Nat) (hN : 1000 < N) (hh : h ≤ 18446744073709551615) (hl : l ≤ 18446744073709551615) (hb : bn ≤ 18446744073709551615) (hv : validL 48 v (h : Int) (l : Int) ho ma tx a b c d e f (bn : Int) = true) : r06_Words N 48 v (h : Int) (l : Int) ho ma tx a b c d e f (bn : Int) = some (wordsL 48 v h l ho ma tx a b c d e f bn, 0) := by
  have hr := rng_48 v h l ho ma tx a b c d e f bn hv
  have hV := r05_Valid_eq N 48 v (h : Int) (l : Int) ho ma tx a b c d e f bn hN hb
  rw [hv] at hV
  have hw := words_loop N 48 v (h : Int) (l : Int) ho ma tx a b c d e f (bn : Int) (fun x => wdL x v h l ho ma tx a b c d e f bn) [65, 66, 67, 120] (by simp) (by
    intro x hx hne
    simp only [List.mem_cons, List.not_mem_nil, or_false] at hx
    rcases hx with rfl | rfl | rfl | rfl
    · exact word_65 _ _ _ _ _ _ _ _ _ _ _ _ _ _ (by omega)
    · exact word_66 _ _ _ _ _ _ _ _ _ _ _ _ _ _ (by omega)
    · exact word_67 _ _ _ _ _ _ _ _ _ _ _ _ _ _ (by omega)
    · exact word_120 _ _ _ _ _ _ _ _ _ _ _ _ _ _ hN (by omega)) N 0 [] (by omega) (by simp; omega) (by simp)
  have hw' : r06_Words_L1 N N 48 [] [65, 66, 67, 120] 0 v (h : Int) (l : Int) ho ma tx a b c d e f (bn : Int) = _ := hw
  rw [List.drop_zero, List.nil_append] at hw'
  unfold r06_Words
  simp only [r05_Known_eq, show knL 48 = true from rfl, show r06_Fields N 48 = some [65, 66, 67, 120] from rfl, hw', eqI_lit, Nat.reduceEqDiff, decide_true, decide_false, cond_true, cond_false, Option.bind_some, hV]
  first | rfl | (unfold wordsL; simp [tyW])
theorem wr_46 (N : Nat) (v : Bool) (h l : Nat) (ho ma tx : List UInt8) (a b c d e f : Int) (bn : Nat) (hN : 1000 < N) (hh : h ≤ 18446744073709551615) (hl : l ≤ 18446744073709551615) (hb : bn ≤ 18446744073709551615) (hv : validL 46 v (h : Int) (l : Int) ho ma tx a b c d e f (bn : Int) = true) : r06_Words N 46 v (h : Int) (l : Int) ho ma tx a b c d e f (bn : Int) = some (wordsL 46 v h l ho ma tx a b c d e f bn, 0) := by
  have hr := rng_46 v h l ho ma tx a b c d e f bn hv
  have hV := r05_Valid_eq N 46 v (h : Int) (l : Int) ho ma tx a b c d e f bn hN hb
  rw [hv] at hV
  have hw := words_loop N 46 v (h : Int) (l : Int) ho ma tx a b c d e f (bn : Int) (fun x => wdL x v h l ho ma tx a b c d e f bn) [121, 115, 66, 67, 68, 69, 70, 110, 120] (by simp) (by
    intro x hx hne
    simp only [List.mem_cons, List.not_mem_nil, or_false] at hx
    rcases hx with rfl | rfl | rfl | rfl | rfl | rfl | rfl | rfl | rfl
    · exact word_121 ..
    · exact word_115 ..
    · exact word_66 _ _ _ _ _ _ _ _ _ _ _ _ _ _ (by omega)
    · exact word_67 _ _ _ _ _ _ _ _ _ _ _ _ _ _ (by omega)
    · exact word_68 _ _ _ _ _ _ _ _ _ _ _ _ _ _ (by omega)
    · exact word_69 _ _ _ _ _ _ _ _ _ _ _ _ _ _ (by omega)
    · exact word_70 _ _ _ _ _ _ _ _ _ _ _ _ _ _ (by omega)
    · exact word_110 ..
    · exact word_120 _ _ _ _ _ _ _ _ _ _ _ _ _ _ hN (by omega)) N 0 [] (by omega) (by simp; omega) (by simp)
  have hw' : r06_Words_L1 N N 46 [] [121, 115, 66, 67, 68, 69, 70, 110, 120] 0 v (h : Int) (l : Int) ho ma tx a b c d e f (bn : Int) = _ := hw
  rw [List.drop_zero, List.nil_append] at hw'
  unfold r06_Words
  simp only [r05_Known_eq, show knL 46 = true from rfl, show r06_Fields N 46 = some [121, 115, 66, 67, 68, 69, 70, 110, 120] from rfl, hw', eqI_lit, Nat.reduceEqDiff, decide_true, decide_false, cond_true, cond_false, Option.bind_some, hV]
  first | rfl | (unfold wordsL; simp [tyW])
theorem wr_47 (N : Nat) (v : Bool) (h l : Nat) (ho ma tx : List UInt8) (a b c d e f : Int) (bn : Nat) (hN : 1000 < N) (hh : h ≤ 18446744073709551615) (hl : l ≤ 18446744073709551615) (hb : bn ≤ 18446744073709551615) (hv : validL 47 v (h : Int) (l : Int) ho ma tx a b c d e f (bn : Int) = true) : r06_Words N 47 v (h : Int) (l : Int) ho ma tx a b c d e f (bn : Int) = some (wordsL 47 v h l ho ma tx a b c d e f bn, 0) := by
  have hr := rng_47 v h l ho ma tx a b c d e f bn hv
  have hV := r05_Valid_eq N 47 v (h : Int) (l : Int) ho ma tx a b c d e f bn hN hb
  rw [hv] at hV
  have hw := words_loop N 47 v (h : Int) (l : Int) ho ma tx a b c d e f (bn : Int) (fun x => wdL x v h l ho ma tx a b c d e f bn) [110, 122] (by simp) (by
    intro x hx hne
    simp only [List.mem_cons, List.not_mem_nil, or_false] at hx
    rcases hx with rfl | rfl
    · exact word_110 ..
    · exact absurd rfl hne) N 0 [] (by omega) (by simp; omega) (by simp)
  have hw' : r06_Words_L1 N N 47 [] [110, 122] 0 v (h : Int) (l : Int) ho ma tx a b c d e f (bn : Int) = _ := hw
  rw [List.drop_zero, List.nil_append] at hw'
  have hl2 : ((tysL bn).map Int.ofNat).length ≤ 100 := by rw [List.length_map]; have := tysL_len bn; omega
  have ht := mnem_ref N ((tysL bn).map Int.ofNat) hl2 N 0 [ho] (by omega) (by omega) (by simp)
  have ht' : r06_Words_L0 N N (List.map (fun x => wdL x v h l ho ma tx a b c d e f bn) (List.filter (· != 122) [110, 122])) ((tysL bn).map Int.ofNat) 0 = _ := ht
  unfold r06_Words
  simp only [r05_Known_eq, show knL 47 = true from rfl, show r06_Fields N 47 = some [110, 122] from rfl, hw', eqI_lit, Nat.reduceEqDiff, decide_true, decide_false, cond_true, cond_false, Option.bind_some, hV, r05_Types_eq N bn hb hN, ht']
  first | rfl | (unfold wordsL; simp [tyW])
theorem rtext_Words_eq (N : Nat) (t : Int) (v : Bool) (h l : Nat) (ho ma tx : List UInt8) (a b c d e f : Int) (bn : Nat) (hN : 1000 < N) (hh : h ≤ 18446744073709551615) (hl : l ≤ 18446744073709551615) (hb : bn ≤ 18446744073709551615) : rtext_Words N t v (h : Int) (l : Int) ho ma tx a b c d e f (bn : Int) = some (if knL t then (if validL t v (h : Int) (l : Int) ho ma tx a b c d e f (bn : Int) then (wordsL t v h l ho ma tx a b c d e f bn, 0) else ([], 5)) else ([], 4)) := by
  cases hv : validL t v (h : Int) (l : Int) ho ma tx a b c d e f (bn : Int) with
  | true =>
    rcases kn_cases t with rfl | rfl | rfl | rfl | rfl | rfl | rfl | rfl | rfl | rfl | rfl | rfl | rfl | rfl | ⟨h1, h28, h2, h5, h12, h39, h6, h15, h16, h33, h43, h46, h47, h48⟩
    · exact wp_1 N v h l ho ma tx a b c d e f bn hN hh hl hb hv
    · exact wp_28 N v h l ho ma tx a b c d e f bn hN hh hl hb hv
    · exact wp_2 N v h l ho ma tx a b c d e f bn hN hh hl hb hv
    · exact wp_5 N v h l ho ma tx a b c d e f bn hN hh hl hb hv
    · exact wp_12 N v h l ho ma tx a b c d e f bn hN hh hl hb hv
    · exact wp_39 N v h l ho ma tx a b c d e f bn hN hh hl hb hv
    · exact wp_6 N v h l ho ma tx a b c d e f bn hN hh hl hb hv
    · exact wp_15 N v h l ho ma tx a b c d e f bn hN hh hl hb hv
    · exact wp_16 N v h l ho ma tx a b c d e f bn hN hh hl hb hv
    · exact wp_33 N v h l ho ma tx a b c d e f bn hN hh hl hb hv
    · exact wp_43 N v h l ho ma tx a b c d e f bn hN hh hl hb hv
    · exact wp_46 N v h l ho ma tx a b c d e f bn hN hh hl hb hv
    · exact wp_47 N v h l ho ma tx a b c d e f bn hN hh hl hb hv
    · exact wp_48 N v h l ho ma tx a b c d e f bn hN hh hl hb hv
    · exfalso
      unfold validL at hv
      simp only [h1, h28, h2, h5, h12, h39, h6, h15, h16, h33, h43, h48, h46, h47, if_false] at hv
      cases hv
  | false =>
    have hV := rdata_Valid_eq N t v (h : Int) (l : Int) ho ma tx a b c d e f bn hN hb
    rw [hv] at hV
    unfold rtext_Words
    simp only [rdata_Known_eq _ _ hN, Option.bind_some, hV, cond_true, cond_false]
    cases knL t <;> rfl
theorem r06_Words_eq (N : Nat) (t : Int) (v : Bool) (h l : Nat) (ho ma tx : List UInt8) (a b c d e f : Int) (bn : Nat) (hN : 1000 < N) (hh : h ≤ 18446744073709551615) (hl : l ≤ 18446744073709551615) (hb : bn ≤ 18446744073709551615) : r06_Words N t v (h : Int) (l : Int) ho ma tx a b c d e f (bn : Int) = some (if knL t then (if validL t v (h : Int) (l : Int) ho ma tx a b c d e f (bn : Int) then (wordsL t v h l ho ma tx a b c d e f bn, 0) else ([], 5)) else ([], 4)) := by
  cases hv : validL t v (h : Int) (l : Int) ho ma tx a b c d e f (bn : Int) with
  | true =>
    rcases kn_cases t with rfl | rfl | rfl | rfl | rfl | rfl | rfl | rfl | rfl | rfl | rfl | rfl | rfl | rfl | ⟨h1, h28, h2, h5, h12, h39, h6, h15, h16, h33, h43, h46, h47, h48⟩
    · exact wr_1 N v h l ho ma tx a b c d e f bn hN hh hl hb hv
    · exact wr_28 N v h l ho ma tx a b c d e f bn hN hh hl hb hv
    · exact wr_2 N v h l ho ma tx a b c d e f bn hN hh hl hb hv
    · exact wr_5 N v h l ho ma tx a b c d e f bn hN hh hl hb hv
    · exact wr_12 N v h l ho ma tx a b c d e f bn hN hh hl hb hv
    · exact wr_39 N v h l ho ma tx a b c d e f bn hN hh hl hb hv
    · exact wr_6 N v h l ho ma tx a b c d e f bn hN hh hl hb hv
    · exact wr_15 N v h l ho ma tx a b c d e f bn hN hh hl hb hv
    · exact wr_16 N v h l ho ma tx a b c d e f bn hN hh hl hb hv
    · exact wr_33 N v h l ho ma tx a b c d e f bn hN hh hl hb hv
    · exact wr_43 N v h l ho ma tx a b c d e f bn hN hh hl hb hv
    · exact wr_46 N v h l ho ma tx a b c d e f bn hN hh hl hb hv
    · exact wr_47 N v h l ho ma tx a b c d e f bn hN hh hl hb hv
    · exact wr_48 N v h l ho ma tx a b c d e f bn hN hh hl hb hv
    · exfalso
      unfold validL at hv
      simp only [h1, h28, h2, h5, h12, h39, h6, h15, h16, h33, h43, h48, h46, h47, if_false] at hv
      cases hv
  | false =>
    have hV := r05_Valid_eq N t v (h : Int) (l : Int) ho ma tx a b c d e f bn hN hb
    rw [hv] at hV
    unfold r06_Words
    simp only [r05_Known_eq, Option.bind_some, hV, cond_true, cond_false]
    cases knL t <;> rfl
end Go.Ev
/- The law of the words of data. Condition: none. -/
namespace Go.Ev
set_option linter.all false
set_option maxHeartbeats 4000000
theorem same_loop (N : Nat) (L : List (List UInt8)) (hL : L.length ≤ 1000) : ∀ (n i : Nat), i ≤ L.length → L.length < i + n → w06_same_L0 N n L L (i : Int) = some (.b ())
  | 0, i, _, h => by omega
  | n + 1, i, hi, h => by
    unfold w06_same_L0
    rcases at_cases L i (by omega) with ⟨h0, h1, h2, _⟩ | ⟨x, hc, hd, hlt, h2, _, h4⟩
    · rw [h2]; rfl
    · rw [h2, cond_true, atI_n, hc, Option.bind_some, Option.bind_some, eqS_t, cond_true, h4, same_loop N L hL n (i + 1) (by omega) (by omega)]
theorem same_eq (N : Nat) (L : List (List UInt8)) (hN : 1000 < N) (hL : L.length ≤ 500) : w06_same N L L = some true := by
  unfold w06_same
  have h := same_loop N L (by omega) N 0 (by omega) (by omega)
  have h' : w06_same_L0 N N L L 0 = _ := h
  rw [eqI_t rfl, cond_true, h']
  rfl
theorem join_len (xs : List (List UInt8)) (h : ∀ w ∈ xs, w.length ≤ 600) : (Lib.join xs [32]).length ≤ 601 * xs.length ∧ (Lib.joinTail [32] xs).length ≤ 601 * xs.length := by
  have ht : ∀ xs : List (List UInt8), (∀ w ∈ xs, w.length ≤ 600) → (Lib.joinTail [32] xs).length ≤ 601 * xs.length := by
    intro xs
    induction xs with
    | nil => intro _; simp [Lib.joinTail]
    | cons x r ih =>
      intro h
      have := ih fun w hw => h w (by simp [hw])
      have := h x (by simp)
      simp only [Lib.joinTail, List.map_cons, List.flatten_cons, List.length_append, List.length_cons, List.length_nil] at this ⊢
      simp only [Lib.joinTail] at *
      omega
  refine ⟨?_, ht xs h⟩
  cases xs with
  | nil => simp [Lib.join_nil]
  | cons x r =>
    have := ht r fun w hw => h w (by simp [hw])
    have := h x (by simp)
    rw [Lib.join_cons, List.length_append, List.length_cons]
    omega
theorem print_loop (N : Nat) (L : List (List UInt8)) (hL : L.length ≤ 1000) (hw : ∀ w ∈ L, w.length ≤ 600) : ∀ (n i : Nat) (out : List UInt8), i ≤ L.length → L.length < i + n → out.length ≤ 601 * i → r06_Print_L0 N n L out (i : Int) = some (out ++ (if i = 0 then Lib.join L [32] else Lib.joinTail [32] (L.drop i)))
  | 0, i, out, _, h, _ => by omega
  | n + 1, i, out, hi, h, ho => by
    unfold r06_Print_L0
    rcases at_cases L i (by omega) with ⟨h0, h1, h2, _⟩ | ⟨x, hc, hd, hlt, h2, _, h4⟩
    · rw [h2, h0]
      by_cases hz : i = 0
      · subst hz
        have : L = [] := h0
        subst this
        simp [Lib.join_nil]
      · simp [hz, Lib.joinTail]
    · have hx := hw x (List.mem_of_getElem? hc)
      rw [h2, cond_true, h4]
      by_cases hz : i = 0
      · subst hz
        have hd' : L = x :: L.drop 1 := hd
        have ih := print_loop N L hL hw n 1 (out ++ x) (by omega) (by omega) (by rw [List.length_append]; omega)
        rw [if_neg (by omega)] at ih
        rw [ltI_f (by omega), cond_false, atI_n, hc, Option.bind_some, catI_ok _ _ (by omega), Option.bind_some, if_pos rfl]
        have ih' : r06_Print_L0 N n L (out ++ x) ((0 + 1 : Nat) : Int) = _ := ih
        rw [ih']
        conv => rhs; rw [hd', Lib.join_cons]
        simp
      · have ih := print_loop N L hL hw n (i + 1) (out ++ [32] ++ x) (by omega) (by omega) (by simp only [List.length_append, List.length_cons, List.length_nil]; omega)
        rw [if_neg (by omega)] at ih
        rw [ltI_t (by omega), cond_true, catI_ok _ _ (by simp; omega), Option.bind_some, atI_n, hc, Option.bind_some, catI_ok _ _ (by simp only [List.length_append, List.length_cons, List.length_nil]; omega), Option.bind_some, ih, if_neg hz, hd]
        simp [Lib.joinTail]
theorem words_len (t : Int) (v : Bool) (h l : Nat) (ho ma tx : List UInt8) (a b c d e f : Int) (bn : Nat) (hv : validL t v (h : Int) (l : Int) ho ma tx a b c d e f (bn : Int) = true) : (wordsL t v h l ho ma tx a b c d e f bn).length ≤ 20 ∧ ∀ w ∈ wordsL t v h l ho ma tx a b c d e f bn, w.length ≤ 600 := by
  by_cases h1 : t = 1
  · subst h1
    have hr := rng_1 v h l ho ma tx a b c d e f bn hv
    have := addrL_len v h l
    exact ⟨by unfold wordsL; simp, by
      intro w hw
      unfold wordsL at hw
      simp at hw
      subst hw
      omega⟩
  by_cases h28 : t = 28
  · subst h28
    have hr := rng_28 v h l ho ma tx a b c d e f bn hv
    have := addrL_len v h l
    exact ⟨by unfold wordsL; simp, by
      intro w hw
      unfold wordsL at hw
      simp at hw
      subst hw
      omega⟩
  by_cases h2 : t = 2
  · subst h2
    have hr := rng_2 v h l ho ma tx a b c d e f bn hv
    have hl := hostOk_len hr
    exact ⟨by unfold wordsL; simp, by
      intro w hw
      unfold wordsL at hw
      simp at hw
      rcases hw with rfl <;> first | omega | simp⟩
  by_cases h5 : t = 5
  · subst h5
    have hr := rng_5 v h l ho ma tx a b c d e f bn hv
    have hl := hostOk_len hr
    exact ⟨by unfold wordsL; simp, by
      intro w hw
      unfold wordsL at hw
      simp at hw
      rcases hw with rfl <;> first | omega | simp⟩
  by_cases h12 : t = 12
  · subst h12
    have hr := rng_12 v h l ho ma tx a b c d e f bn hv
    have hl := hostOk_len hr
    exact ⟨by unfold wordsL; simp, by
      intro w hw
      unfold wordsL at hw
      simp at hw
      rcases hw with rfl <;> first | omega | simp⟩
  by_cases h39 : t = 39
  · subst h39
    have hr := rng_39 v h l ho ma tx a b c d e f bn hv
    have hl := hostOk_len hr
    exact ⟨by unfold wordsL; simp, by
      intro w hw
      unfold wordsL at hw
      simp at hw
      rcases hw with rfl <;> first | omega | simp⟩
  by_cases h6 : t = 6
  · subst h6
    have hr := rng_6 v h l ho ma tx a b c d e f bn hv
    have hl := hostOk_len hr.2.2.2.2.2.1
    have hl2 := hostOk_len hr.2.2.2.2.2.2
    have la := decS_len (x := a) (by omega)
    have lb := decS_len (x := b) (by omega)
    have lc := decS_len (x := c) (by omega)
    have ld := decS_len (x := d) (by omega)
    have le := decS_len (x := e) (by omega)
    exact ⟨by unfold wordsL; simp, by
      intro w hw
      unfold wordsL at hw
      simp at hw
      rcases hw with rfl | rfl | rfl | rfl | rfl | rfl | rfl <;> first | omega | simp⟩
  by_cases h15 : t = 15
  · subst h15
    have hr := rng_15 v h l ho ma tx a b c d e f bn hv
    have hl := hostOk_len hr.2
    have la := decS_len (x := a) (by omega)
    exact ⟨by unfold wordsL; simp, by
      intro w hw
      unfold wordsL at hw
      simp at hw
      rcases hw with rfl | rfl <;> first | omega | simp⟩
  by_cases h16 : t = 16
  · subst h16
    have hr := rng_16 v h l ho ma tx a b c d e f bn hv
    exact ⟨by unfold wordsL; simp, by
      intro w hw
      unfold wordsL at hw
      simp at hw
      rcases hw with rfl <;> first | omega | simp⟩
  by_cases h33 : t = 33
  · subst h33
    have hr := rng_33 v h l ho ma tx a b c d e f bn hv
    have hl := hostOk_len hr.2.2.2
    have la := decS_len (x := a) (by omega)
    have lb := decS_len (x := b) (by omega)
    have lc := decS_len (x := c) (by omega)
    exact ⟨by unfold wordsL; simp, by
      intro w hw
      unfold wordsL at hw
      simp at hw
      rcases hw with rfl | rfl | rfl | rfl <;> first | omega | simp⟩
  by_cases h43 : t = 43
  · subst h43
    have hr := rng_43 v h l ho ma tx a b c d e f bn hv
    have hx := hexS_len tx
    have la := decS_len (x := a) (by omega)
    have lb := decS_len (x := b) (by omega)
    have lc := decS_len (x := c) (by omega)
    exact ⟨by unfold wordsL; simp, by
      intro w hw
      unfold wordsL at hw
      simp at hw
      rcases hw with rfl | rfl | rfl | rfl <;> first | omega | simp⟩
  by_cases h48 : t = 48
  · subst h48
    have hr := rng_48 v h l ho ma tx a b c d e f bn hv
    have hx := hexS_len tx
    have la := decS_len (x := a) (by omega)
    have lb := decS_len (x := b) (by omega)
    have lc := decS_len (x := c) (by omega)
    exact ⟨by unfold wordsL; simp, by
      intro w hw
      unfold wordsL at hw
      simp at hw
      rcases hw with rfl | rfl | rfl | rfl <;> first | omega | simp⟩
  by_cases h46 : t = 46
  · subst h46
    have hr := rng_46 v h l ho ma tx a b c d e f bn hv
    have hl := hostOk_len hr.2.2.2.2.2.2
    have hx := hexS_len tx
    have hm := mnL_len a
    have lb := decS_len (x := b) (by omega)
    have lc := decS_len (x := c) (by omega)
    have ld := decS_len (x := d) (by omega)
    have le := decS_len (x := e) (by omega)
    have lf := decS_len (x := f) (by omega)
    exact ⟨by unfold wordsL; simp, by
      intro w hw
      unfold wordsL at hw
      simp at hw
      rcases hw with rfl | rfl | rfl | rfl | rfl | rfl | rfl | rfl | rfl <;> first | omega | simp⟩
  by_cases h47 : t = 47
  · subst h47
    have hr := rng_47 v h l ho ma tx a b c d e f bn hv
    have hl := nameOk_len hr
    have ht := tyW_len bn
    have e : wordsL 47 v h l ho ma tx a b c d e f bn = ho :: tyW bn := rfl
    rw [e]
    refine ⟨by rw [List.length_cons]; omega, fun w hw => ?_⟩
    rcases List.mem_cons.1 hw with rfl | hw
    · omega
    · unfold tyW at hw
      obtain ⟨x, _, rfl⟩ := List.mem_map.1 hw
      have := mnL_len x
      omega
  exfalso
  unfold validL at hv
  simp only [h1, h28, h2, h5, h12, h39, h6, h15, h16, h33, h43, h48, h46, h47, if_false] at hv
  cases hv
def printL (t : Int) (v : Bool) (h l : Nat) (ho ma tx : List UInt8) (a b c d e f : Int) (bn : Nat) : List UInt8 := if t = 16 then quoteL tx else Lib.join (wordsL t v h l ho ma tx a b c d e f bn) [32]
theorem quoteI_eq (N : Nat) (s : List UInt8) (h : s.length ≤ 100000) : quoteI N s = some (quoteL s) := by unfold quoteI; rw [if_pos (by omega)]
theorem rtext_Print_eq (N : Nat) (t : Int) (v : Bool) (h l : Nat) (ho ma tx : List UInt8) (a b c d e f : Int) (bn : Nat) (hN : 1000 < N) (hh : h ≤ 18446744073709551615) (hl : l ≤ 18446744073709551615) (hb : bn ≤ 18446744073709551615) : rtext_Print N t v (h : Int) (l : Int) ho ma tx a b c d e f (bn : Int) = some (if knL t then (if validL t v (h : Int) (l : Int) ho ma tx a b c d e f (bn : Int) then (printL t v h l ho ma tx a b c d e f bn, 0) else ([], 5)) else ([], 4)) := by
  have hW := rtext_Words_eq N t v h l ho ma tx a b c d e f bn hN hh hl hb
  unfold rtext_Print
  cases hk : knL t with
  | false => rw [hk] at hW; cases v <;> simp only [cond_true, cond_false, hW, Option.bind_some] <;> rfl
  | true =>
    cases hv : validL t v (h : Int) (l : Int) ho ma tx a b c d e f (bn : Int) with
    | false => rw [hk, hv] at hW; cases v <;> simp only [cond_true, cond_false, hW, Option.bind_some] <;> rfl
    | true =>
      have hwl := words_len t v h l ho ma tx a b c d e f bn hv
      rw [hk, hv] at hW
      have hj := (join_len _ hwl.2).1
      have hjn := joinI_ok N (wordsL t v h l ho ma tx a b c d e f bn) [32] (by omega) (by omega)
      have e0 : eqI 0 0 = true := rfl
      unfold printL
      by_cases h16 : t = 16
      · subst h16
        have hr := rng_16 v h l ho ma tx a b c d e f bn hv
        have e1 : atI (wordsL 16 v h l ho ma tx a b c d e f bn) 0 = some tx := rfl
        have e2 : eqI 16 16 = true := rfl
        cases v <;> simp only [cond_true, cond_false, hW, Option.bind_some, if_true, e0, e1, e2, quoteI_eq N tx (by omega)]
      · cases v <;> simp only [cond_true, cond_false, hW, Option.bind_some, if_true, e0, eqI_f h16, hjn, h16, if_false]
theorem r06_Print_eq (N : Nat) (t : Int) (v : Bool) (h l : Nat) (ho ma tx : List UInt8) (a b c d e f : Int) (bn : Nat) (hN : 1000 < N) (hh : h ≤ 18446744073709551615) (hl : l ≤ 18446744073709551615) (hb : bn ≤ 18446744073709551615) : r06_Print N t v (h : Int) (l : Int) ho ma tx a b c d e f (bn : Int) = some (if knL t then (if validL t v (h : Int) (l : Int) ho ma tx a b c d e f (bn : Int) then (printL t v h l ho ma tx a b c d e f bn, 0) else ([], 5)) else ([], 4)) := by
  have hW := r06_Words_eq N t v h l ho ma tx a b c d e f bn hN hh hl hb
  unfold r06_Print
  cases hk : knL t with
  | false => rw [hk] at hW; cases v <;> simp only [cond_true, cond_false, hW, Option.bind_some] <;> rfl
  | true =>
    cases hv : validL t v (h : Int) (l : Int) ho ma tx a b c d e f (bn : Int) with
    | false => rw [hk, hv] at hW; cases v <;> simp only [cond_true, cond_false, hW, Option.bind_some] <;> rfl
    | true =>
      have hwl := words_len t v h l ho ma tx a b c d e f bn hv
      rw [hk, hv] at hW
      have hp := print_loop N (wordsL t v h l ho ma tx a b c d e f bn) (by omega) hwl.2 N 0 [] (by omega) (by omega) (by simp)
      have hp' : r06_Print_L0 N N (wordsL t v h l ho ma tx a b c d e f bn) [] 0 = _ := hp
      rw [if_pos rfl, List.nil_append] at hp'
      have e0 : eqI 0 0 = true := rfl
      unfold printL
      by_cases h16 : t = 16
      · subst h16
        have hr := rng_16 v h l ho ma tx a b c d e f bn hv
        have e2 : eqI 16 16 = true := rfl
        cases v <;> simp only [cond_true, cond_false, hW, Option.bind_some, if_true, e0, e2, quoteI_eq N tx (by omega)]
      · cases v <;> simp only [cond_true, cond_false, hW, Option.bind_some, if_true, e0, eqI_f h16, hp', h16, if_false]
theorem words_pure (N : Nat) (t : Int) (v : Bool) (h l : Nat) (ho ma tx : List UInt8) (a b c d e f : Int) (bn : Nat) (hN : 1000 < N) (hh : h ≤ 18446744073709551615) (hl : l ≤ 18446744073709551615) (hb : bn ≤ 18446744073709551615) : w06_RtextWords N t v (h : Int) (l : Int) ho ma tx a b c d e f (bn : Int) = some true := by
  have h1 := rtext_Words_eq N t v h l ho ma tx a b c d e f bn hN hh hl hb
  have h2 := r06_Words_eq N t v h l ho ma tx a b c d e f bn hN hh hl hb
  have h3 := rtext_Print_eq N t v h l ho ma tx a b c d e f bn hN hh hl hb
  have h4 := r06_Print_eq N t v h l ho ma tx a b c d e f bn hN hh hl hb
  generalize hR : (if knL t then (if validL t v (h : Int) (l : Int) ho ma tx a b c d e f (bn : Int) then (wordsL t v h l ho ma tx a b c d e f bn, (0 : Int)) else ([], 5)) else ([], 4)) = R at *
  have hlen : R.1.length ≤ 500 := by
    rw [← hR]
    cases hk : knL t with
    | false => simp
    | true =>
      cases hv : validL t v (h : Int) (l : Int) ho ma tx a b c d e f (bn : Int) with
      | false => simp
      | true =>
        have := (words_len t v h l ho ma tx a b c d e f bn hv).1
        simp
        omega
  have hs := same_eq N R.1 hN hlen
  have ha : w06_awake N = some true := rfl
  unfold w06_RtextWords
  cases v <;> simp only [cond_true, cond_false, h1, h2, h3, h4, Option.bind_some, hs, eqI_self, eqS_t, ha]
end Go.Ev
