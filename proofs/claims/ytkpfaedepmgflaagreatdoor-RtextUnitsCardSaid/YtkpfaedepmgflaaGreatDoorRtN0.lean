/- Decimal numbers: plain laws. Condition: none. -/
import Derived.Test.YtkpfaedepmgflaaGreatDoorRtB
import Derived.Lib.AtoiAll
import Derived.Lib.AtoiAllCases
import Derived.Lib.ItoaNum
namespace Go.Ev
set_option linter.all false
def dig (b : UInt8) : Bool := decide (48 ≤ b.toNat) && decide (b.toNat ≤ 57)
/-- Digits behind the number n; none: another byte, or too long. -/
def numGo : Nat → List UInt8 → Option Nat
  | n, [] => some n
  | n, b :: r => if dig b = true ∧ 10 * n + (b.toNat - 48) ≤ 9223372036854775807 then numGo (10 * n + (b.toNat - 48)) r else none
def numOf (l : List UInt8) : Option Nat := if 1 ≤ l.length ∧ l.length ≤ 19 ∧ ¬ (l[0]? = some 48 ∧ 1 < l.length) then numGo 0 l else none
def numTo (l : List UInt8) (most : Int) : Option Nat := (numOf l).bind fun v => if (v : Int) ≤ most then some v else none
def outN : Option Nat → List AV
  | some v => [.int .i64 v, .bool true]
  | none => [.int .i64 0, .bool false]
theorem numGo_le : ∀ (l : List UInt8) (n v : Nat), n ≤ 9223372036854775807 → numGo n l = some v → n ≤ v ∧ v ≤ 9223372036854775807
  | [], n, v, hn, h => by cases h; omega
  | b :: r, n, v, hn, h => by
    unfold numGo at h
    split at h
    · rename_i hc
      have := numGo_le r _ v hc.2 h
      omega
    · cases h
theorem parse_ge : ∀ (l : List UInt8) (n u : Nat), Lib.parseUint10 n l = .ok u → n ≤ u
  | [], n, u, h => by cases h; exact Nat.le_refl _
  | b :: r, n, u, h => by
    unfold Lib.parseUint10 at h
    split at h
    · split at h
      · cases h
      · split at h
        · cases h
        · have := parse_ge r _ u h
          omega
    · cases h
def okTo : Lib.NumEnd Nat → Option Nat
  | .ok u => if u ≤ 9223372036854775807 then some u else none
  | _ => none
theorem dig_iff (b : UInt8) : dig b = true ↔ 48 ≤ b.toNat ∧ b.toNat ≤ 57 := by simp [dig]
theorem parse_num : ∀ (l : List UInt8) (n : Nat), n ≤ 9223372036854775807 → numGo n l = okTo (Lib.parseUint10 n l)
  | [], n, hn => by simp [numGo, Lib.parseUint10, okTo, hn]
  | b :: r, n, hn => by
    unfold numGo Lib.parseUint10
    by_cases hd : dig b = true
    · rw [if_pos ((dig_iff b).1 hd)]
      have hd' := (dig_iff b).1 hd
      by_cases hb : 10 * n + (b.toNat - 48) ≤ 9223372036854775807
      · rw [if_pos ⟨hd, hb⟩, if_neg (by omega), if_neg (by omega), parse_num r _ hb, Nat.mul_comm n 10]
      · rw [if_neg (fun h => hb h.2)]
        split
        · rfl
        · split
          · rfl
          · cases hp : Lib.parseUint10 (n * 10 + (b.toNat - 48)) r with
            | ok u =>
              have := parse_ge r _ u hp
              unfold okTo
              simp only
              rw [if_neg (by omega)]
            | _ => rfl
    · rw [if_neg (fun h => hd h.1), if_neg (fun h => hd ((dig_iff b).2 h))]
      rfl
/-- What Atoi answers where the first byte is a digit. -/
theorem atoi_num (b : UInt8) (r : List UInt8) (hd : dig b = true) : (∃ v : Nat, Lib.atoiAll (b :: r) = .ok (v : Int) ∧ numGo 0 (b :: r) = some v) ∨ ((∀ v, Lib.atoiAll (b :: r) ≠ .ok v) ∧ numGo 0 (b :: r) = none) := by
  have hd' := (dig_iff b).1 hd
  have h := parse_num (b :: r) 0 (by omega)
  rw [Lib.atoiAll_plain b r (by omega) (by omega), Lib.parseMag, if_neg (by simp)]
  cases hp : Lib.parseUint10 0 (b :: r) with
  | ok u =>
    rw [hp] at h
    unfold okTo at h
    simp only at h
    unfold Lib.signless
    simp only
    by_cases hu : 9223372036854775808 ≤ u
    · rw [if_neg (by omega)] at h
      rw [if_pos hu]
      exact .inr ⟨(fun v e => by cases e), h⟩
    · rw [if_pos (by omega)] at h
      rw [if_neg hu]
      exact .inl ⟨u, rfl, h⟩
  | _ =>
    rw [hp] at h
    exact .inr ⟨(fun v e => by cases e), h⟩
theorem dec_snoc (n d : Nat) (hn : 0 < n) (hd : d < 10) : Lib.decDigits (10 * n + d) = Lib.decDigits n ++ [UInt8.ofNat (48 + d)] := by
  rw [Lib.decDigits, dif_neg (by omega), show (10 * n + d) / 10 = n by omega, show (10 * n + d) % 10 = d by omega]
theorem dig_back (b : UInt8) (h : dig b = true) : UInt8.ofNat (48 + (b.toNat - 48)) = b := by
  have := (dig_iff b).1 h
  rw [show 48 + (b.toNat - 48) = b.toNat by omega]
  exact UInt8.ofNat_toNat
theorem num_dec : ∀ (l : List UInt8) (n v : Nat), 0 < n → numGo n l = some v → Lib.decDigits v = Lib.decDigits n ++ l
  | [], n, v, hn, h => by cases h; simp
  | b :: r, n, v, hn, h => by
    unfold numGo at h
    split at h
    · rename_i hc
      have hd := (dig_iff b).1 hc.1
      rw [num_dec r _ v (by omega) h, dec_snoc n _ hn (by omega), dig_back b hc.1, List.append_assoc]
      rfl
    · cases h
theorem dec_ne : ∀ u, Lib.decDigits u ≠ [] := fun u h => by
  have := Lib.decDigits_length u
  rw [Lib.decDigits] at h
  split at h <;> simp at h
theorem dec_zero (u : Nat) (h : Lib.decDigits u = [48]) : u = 0 := by
  rw [Lib.decDigits] at h
  split at h
  · rename_i hu
    have e : UInt8.ofNat (48 + u) = 48 := by simpa using h
    have := congrArg UInt8.toNat e
    simp at this
    omega
  · have := congrArg List.length h
    have := dec_ne (u / 10)
    cases hx : Lib.decDigits (u / 10) with
    | nil => exact absurd hx this
    | cons a b => rw [hx] at h; simp at h
theorem dec_lead : ∀ (u : Nat) (r : List UInt8), Lib.decDigits u = 48 :: r → r = [] := fun u => by
  induction u using Nat.strongRecOn with
  | ind u ih =>
    intro r h
    rw [Lib.decDigits] at h
    split at h
    · simp at h; exact h.2
    · rename_i hu
      cases hx : Lib.decDigits (u / 10) with
      | nil => exact absurd hx (dec_ne _)
      | cons a q =>
        rw [hx] at h
        have ha : a = 48 := by simpa using (List.cons.inj h).1
        subst ha
        have hq := ih (u / 10) (by omega) q hx
        subst hq
        have := dec_zero _ hx
        omega
/-- A number is written as it is read exactly where no needless zero leads it. -/
theorem dec_same (b : UInt8) (r : List UInt8) (v : Nat) (h : numGo 0 (b :: r) = some v) : (Lib.decDigits v = b :: r) ↔ ¬ (b = 48 ∧ 0 < r.length) := by
  have h0 := h
  unfold numGo at h
  split at h
  · rename_i hc
    have hd := (dig_iff b).1 hc.1
    by_cases hb : b = 48
    · subst hb
      constructor
      · intro e hx
        have := dec_lead v r e
        subst this
        simp at hx
      · intro hx
        cases r with
        | nil =>
          cases h
          exact Lib.decDigits_one (by decide)
        | cons a r => exact absurd ⟨rfl, by simp⟩ hx
    · have hp : 0 < 10 * 0 + (b.toNat - 48) := by
        have : b.toNat ≠ 48 := fun e => hb (UInt8.toNat_inj.1 e)
        omega
      have := num_dec r _ v hp h
      rw [Lib.decDigits_one (i := 10 * 0 + (b.toNat - 48)) (by omega), show 48 + (10 * 0 + (b.toNat - 48)) = 48 + (b.toNat - 48) by omega, dig_back b hc.1] at this
      exact ⟨fun _ hx => hb hx.1, fun _ => this⟩
  · cases h
end Go.Ev
