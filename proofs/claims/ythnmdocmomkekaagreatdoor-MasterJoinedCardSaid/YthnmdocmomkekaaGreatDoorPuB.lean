/- Reckoning with the words of the plain functions. Condition: none. -/
import Derived.Test.YthnmdocmomkekaaGreatDoorShA
namespace Go.Ev
set_option linter.all false
section
variable {α β : Type}
theorem ltI_t {a b : Int} (h : a < b) : ltI a b = true := decide_eq_true h
theorem ltI_f {a b : Int} (h : b ≤ a) : ltI a b = false := decide_eq_false (by omega)
theorem leI_t {a b : Int} (h : a ≤ b) : leI a b = true := decide_eq_true h
theorem leI_f {a b : Int} (h : b < a) : leI a b = false := decide_eq_false (by omega)
theorem eqI_t {a b : Int} (h : a = b) : eqI a b = true := by unfold eqI; simp [h]
theorem eqI_f {a b : Int} (h : a ≠ b) : eqI a b = false := by unfold eqI; simp [h]
theorem ltI_iff {a b : Int} : ltI a b = true ↔ a < b := by simp [ltI]
theorem leI_iff {a b : Int} : leI a b = true ↔ a ≤ b := by simp [leI]
theorem eqI_iff {a b : Int} : eqI a b = true ↔ a = b := by simp [eqI]
theorem ltI_not {a b : Int} : ltI a b = false ↔ b ≤ a := by simp [ltI]
theorem leI_not {a b : Int} : leI a b = false ↔ b < a := by simp [leI]
theorem eqI_not {a b : Int} : eqI a b = false ↔ a ≠ b := by simp [eqI]
@[simp] theorem eqI_bv (c : UInt8) (k : Nat) (h : k < 256) : eqI (bv c) (no_index (OfNat.ofNat k)) = decide (c = OfNat.ofNat k) := by
  show (((c.toNat : Nat) : Int) == ((k : Nat) : Int)) = decide (c = UInt8.ofNat k)
  rw [Bool.eq_iff_iff, beq_iff_eq, decide_eq_true_iff]
  constructor
  · intro e
    apply UInt8.toNat_inj.1
    rw [UInt8.toNat_ofNat']
    omega
  · intro e
    rw [e, UInt8.toNat_ofNat']
    omega
@[simp] theorem leI_bv1 (c : UInt8) (k : Nat) : leI (no_index (OfNat.ofNat k)) (bv c) = decide (k ≤ c.toNat) := by
  show decide (((k : Nat) : Int) ≤ ((c.toNat : Nat) : Int)) = _
  rw [Bool.eq_iff_iff, decide_eq_true_iff, decide_eq_true_iff]
  omega
@[simp] theorem leI_bv2 (c : UInt8) (k : Nat) : leI (bv c) (no_index (OfNat.ofNat k)) = decide (c.toNat ≤ k) := by
  show decide (((c.toNat : Nat) : Int) ≤ ((k : Nat) : Int)) = _
  rw [Bool.eq_iff_iff, decide_eq_true_iff, decide_eq_true_iff]
  omega
@[simp] theorem ltI_bv1 (c : UInt8) (k : Nat) : ltI (no_index (OfNat.ofNat k)) (bv c) = decide (k < c.toNat) := by
  show decide (((k : Nat) : Int) < ((c.toNat : Nat) : Int)) = _
  rw [Bool.eq_iff_iff, decide_eq_true_iff, decide_eq_true_iff]
  omega
@[simp] theorem ltI_bv2 (c : UInt8) (k : Nat) : ltI (bv c) (no_index (OfNat.ofNat k)) = decide (c.toNat < k) := by
  show decide (((c.toNat : Nat) : Int) < ((k : Nat) : Int)) = _
  rw [Bool.eq_iff_iff, decide_eq_true_iff, decide_eq_true_iff]
  omega
@[simp] theorem atI_n (l : List α) (i : Nat) : atI l (i : Int) = l[i]? := by
  unfold atI
  rw [if_pos (by omega), Int.toNat_natCast]
@[simp] theorem atI_l (l : List α) (k : Nat) : atI l (no_index (OfNat.ofNat k)) = l[k]? := atI_n l k
theorem addI_n (i j : Nat) (h : i + j ≤ 9223372036854775807) : addI .i64 (i : Int) (j : Int) = ((i + j : Nat) : Int) := by
  unfold addI
  rw [IntWalk.i64_in _ (by omega)]
  omega
theorem addI_l (i k : Nat) (h : i + k ≤ 9223372036854775807) : addI .i64 (i : Int) (no_index (OfNat.ofNat k)) = ((i + k : Nat) : Int) := addI_n i k h
theorem addI_i (a b : Int) (h : -9223372036854775808 ≤ a + b ∧ a + b ≤ 9223372036854775807) : addI .i64 a b = a + b := IntWalk.i64_in _ h
theorem subI_i (a b : Int) (h : -9223372036854775808 ≤ a - b ∧ a - b ≤ 9223372036854775807) : subI .i64 a b = a - b := IntWalk.i64_in _ h
theorem mulI_i (a b : Int) (h : -9223372036854775808 ≤ a * b ∧ a * b ≤ 9223372036854775807) : mulI .i64 a b = a * b := IntWalk.i64_in _ h
theorem convI_i (a : Int) (h : -9223372036854775808 ≤ a ∧ a ≤ 9223372036854775807) : convI .i64 a = a := IntWalk.i64_in _ h
theorem subI_u8 (a b : Int) (h : 0 ≤ a - b ∧ a - b ≤ 255) : subI .u8 a b = a - b := IntWalk.u8_in _ h
theorem addI_u8 (a b : Int) (h : 0 ≤ a + b ∧ a + b ≤ 255) : addI .u8 a b = a + b := IntWalk.u8_in _ h
theorem convI_u8 (a : Int) (h : 0 ≤ a ∧ a ≤ 255) : convI .u8 a = a := IntWalk.u8_in _ h
@[simp] theorem convI_bv (b : UInt8) : convI .i64 (bv b) = bv b := convI_i _ (by have := bv_lo b; have := bv_hi b; omega)
@[simp] theorem isB_bv (b : UInt8) : isB (bv b) = true := by
  have := bv_lo b
  have := bv_hi b
  unfold isB
  rw [Bool.and_eq_true, decide_eq_true_iff, decide_eq_true_iff]
  exact ⟨by assumption, by assumption⟩
@[simp] theorem isB_l (k : Nat) (h : k < 256) : isB (no_index (OfNat.ofNat k)) = true := by
  show isB ((k : Nat) : Int) = true
  unfold isB
  rw [Bool.and_eq_true, decide_eq_true_iff, decide_eq_true_iff]
  omega
theorem room1_ok (l : List α) (k b : Nat) (h : (l.length + k) * b ≤ 140737488355328) (h2 : l.length + k ≤ 9223372036854775807) : room1 l k b = true := by
  unfold room1 roomN
  rw [Bool.and_eq_true, decide_eq_true_iff, decide_eq_true_iff]
  exact ⟨h, h2⟩
theorem room_ok (l : List α) (r : List β) (b : Nat) (h : (l.length + r.length) * b ≤ 140737488355328) (h2 : l.length + r.length ≤ 9223372036854775807) : room l r b = true := by
  unfold room roomN
  rw [Bool.and_eq_true, decide_eq_true_iff, decide_eq_true_iff]
  exact ⟨h, h2⟩
/-- What stands at a place. -/
theorem at_cases (l : List α) (i : Nat) (hl : l.length ≤ 9223372036854775806) : (l.drop i = [] ∧ l.length ≤ i ∧ ltI (i : Int) (ln l) = false ∧ leI (ln l) (i : Int) = true) ∨
    ∃ c, l[i]? = some c ∧ l.drop i = c :: l.drop (i + 1) ∧ i < l.length ∧ ltI (i : Int) (ln l) = true ∧ leI (ln l) (i : Int) = false ∧ addI .i64 (i : Int) 1 = ((i + 1 : Nat) : Int) := by
  rcases Nat.lt_or_ge i l.length with h | h
  · exact .inr ⟨l[i], List.getElem?_eq_getElem h, List.drop_eq_getElem_cons h, h, ltI_t (by unfold ln; omega), leI_f (by unfold ln; omega), addI_l i 1 (by omega)⟩
  · exact .inl ⟨List.drop_eq_nil_of_le h, h, ltI_f (by unfold ln; omega), leI_t (by unfold ln; omega)⟩
theorem cutI_n (l : List α) (i j : Nat) (h : i ≤ j) (h2 : j ≤ l.length) : cutI l (i : Int) (j : Int) = some ((l.take j).drop i) := by
  unfold cutI
  rw [if_pos (by omega)]
  simp
theorem cutI_to (l : List α) (j : Nat) (h2 : j ≤ l.length) : cutI l 0 (j : Int) = some (l.take j) := by
  have := cutI_n l 0 j (by omega) h2
  simpa using this
theorem cutI_from (l : List α) (i : Nat) (h : i ≤ l.length) : cutI l (i : Int) (ln l) = some (l.drop i) := by
  have := cutI_n l i l.length h (Nat.le_refl _)
  rw [List.take_length] at this
  exact this
theorem cutI_from_l (l : List α) (k : Nat) (h : k ≤ l.length) : cutI l (no_index (OfNat.ofNat k)) (ln l) = some (l.drop k) := cutI_from l k h
end
end Go.Ev
