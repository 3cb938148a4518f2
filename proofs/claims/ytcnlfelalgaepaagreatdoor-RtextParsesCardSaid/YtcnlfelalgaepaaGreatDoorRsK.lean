/- RsS0, RsN0, RsN, RsD0, RsD, RsE, joined. Condition: each part's own. -/
import Derived.Test.YtcnlfelalgaepaaGreatDoorLibT
import Derived.Test.YtcnlfelalgaepaaGreatDoorRtB
import Derived.Test.YtcnlfelalgaepaaGreatDoorLibN
import Derived.Lib.ItoaNum
import Derived.Lib.AtoiAll
import Derived.Lib.AtoiAllCases
/- Decimals of numbers. Condition: none. -/
namespace Go.Ev
set_option linter.all false
theorem call_given {T : Tab} {f : FuncId} {g : List AV → Mem → Nat → Option (List AV × Mem)} {args : List AV} {m : Mem} {l : Nat} {r : List AV × Mem} (hg : T.given f = some g) (h : g args m l = some r) : (sem T).call f args m l = some r := by
 apply sem_call
 unfold callBy
 rw [hg]
 exact h
theorem itoaB_nat (v : Nat) (h : v ≤ 9223372036854775807) : itoaB (v : Int) = bs (Lib.decDigits v) := by
 unfold itoaB
 rw [if_neg (by omega), Int.toNat_natCast, digs_eq 20 v (by omega) (by omega)]
 rfl
end Go.Ev
/- Decimal numbers: plain laws. Condition: none. -/
namespace Go.Ev
set_option linter.all false
def dig (b : UInt8) : Bool := decide (48 ≤ b.toNat) && decide (b.toNat ≤ 57)
def numGo : Nat → List UInt8 → Option Nat
 | n, [] => some n
 | n, b :: r => if dig b = true ∧ 10 * n + (b.toNat - 48) ≤ 9223372036854775807 then numGo (10 * n + (b.toNat - 48)) r else none
def numOf (l : List UInt8) : Option Nat := if 1 ≤ l.length ∧ l.length ≤ 19 ∧ ¬ (l[0]? = some 48 ∧ 1 < l.length) then numGo 0 l else none
def numTo (l : List UInt8) (most : Int) : Option Nat := (numOf l).bind fun v => if (v : Int) ≤ most then some v else none
def outN : Option Nat → List AV
 | some v => [.int .i64 v, .bool true]
 | none => [.int .i64 0, .bool false]
theorem numGo_le : ∀ (l : List UInt8) (n v : Nat), n ≤ 9223372036854775807 → numGo n l = some v → n ≤ v ∧ v ≤ 9223372036854775807
 | [], n, v, hn, h => by cases h; omega
 | b :: r, n, v, hn, h => by
   unfold numGo at h
   split at h
   ·rename_i hc
    have := numGo_le r _ v hc.2 h
    omega
   ·cases h
theorem parse_ge : ∀ (l : List UInt8) (n u : Nat), Lib.parseUint10 n l = .ok u → n ≤ u
 | [], n, u, h => by cases h; exact Nat.le_refl _
 | b :: r, n, u, h => by
   unfold Lib.parseUint10 at h
   split at h
   ·split at h
    ·cases h
    ·split at h
     ·cases h
     ·have := parse_ge r _ u h
      omega
   ·cases h
def okTo : Lib.NumEnd Nat → Option Nat
 | .ok u => if u ≤ 9223372036854775807 then some u else none
 | _ => none
theorem dig_iff (b : UInt8) : dig b = true ↔ 48 ≤ b.toNat ∧ b.toNat ≤ 57 := by simp [dig]
theorem parse_num : ∀ (l : List UInt8) (n : Nat), n ≤ 9223372036854775807 → numGo n l = okTo (Lib.parseUint10 n l)
 | [], n, hn => by simp [numGo, Lib.parseUint10, okTo, hn]
 | b :: r, n, hn => by
   unfold numGo Lib.parseUint10
   by_cases hd : dig b = true
   ·rw [if_pos ((dig_iff b).1 hd)]
    have hd' := (dig_iff b).1 hd
    by_cases hb : 10 * n + (b.toNat - 48) ≤ 9223372036854775807
    ·rw [if_pos ⟨hd, hb⟩, if_neg (by omega), if_neg (by omega), parse_num r _ hb, Nat.mul_comm n 10]
    ·rw [if_neg (fun h => hb h.2)]
     split
     ·rfl
     ·split
      ·rfl
      ·cases hp : Lib.parseUint10 (n * 10 + (b.toNat - 48)) r with
       | ok u =>
         have := parse_ge r _ u hp
         unfold okTo
         simp only
         rw [if_neg (by omega)]
       | _ => rfl
   ·rw [if_neg (fun h => hd h.1), if_neg (fun h => hd ((dig_iff b).2 h))]
    rfl
theorem atoi_num (b : UInt8) (r : List UInt8) (hd : dig b = true) : (∃ v : Nat, Lib.atoiAll (b :: r) = .ok (v : Int) ∧ numGo 0 (b :: r) = some v) ∨ ((∀ v, Lib.atoiAll (b :: r) ≠ .ok v) ∧ numGo 0 (b :: r) = none) := by
 have hd' := (dig_iff b).1 hd
 have h := parse_num (b :: r) 0 (by omega)
 rw [Lib.atoiAll_plain b r (by omega) (by omega), Lib.parseMag, if_neg (by simp)]
 cases hp : Lib.parseUint10 0 (b :: r) with
 | ok u =>
   rw [hp] at h
   unfold okTo at h
   simp only at h
   unfold Lib.signless
   simp only
   by_cases hu : 9223372036854775808 ≤ u
   ·rw [if_neg (by omega)] at h
    rw [if_pos hu]
    exact .inr ⟨(fun v e => by cases e), h⟩
   ·rw [if_pos (by omega)] at h
    rw [if_neg hu]
    exact .inl ⟨u, rfl, h⟩
 | _ =>
   rw [hp] at h
   exact .inr ⟨(fun v e => by cases e), h⟩
theorem dec_snoc (n d : Nat) (hn : 0 < n) (hd : d < 10) : Lib.decDigits (10 * n + d) = Lib.decDigits n ++ [UInt8.ofNat (48 + d)] := by
 rw [Lib.decDigits, dif_neg (by omega), show (10 * n + d) / 10 = n by omega, show (10 * n + d) % 10 = d by omega]
theorem dig_back (b : UInt8) (h : dig b = true) : UInt8.ofNat (48 + (b.toNat - 48)) = b := by
 have := (dig_iff b).1 h
 rw [show 48 + (b.toNat - 48) = b.toNat by omega]
 exact UInt8.ofNat_toNat
theorem num_dec : ∀ (l : List UInt8) (n v : Nat), 0 < n → numGo n l = some v → Lib.decDigits v = Lib.decDigits n ++ l
 | [], n, v, hn, h => by cases h; simp
 | b :: r, n, v, hn, h => by
   unfold numGo at h
   split at h
   ·rename_i hc
    have hd := (dig_iff b).1 hc.1
    rw [num_dec r _ v (by omega) h, dec_snoc n _ hn (by omega), dig_back b hc.1, List.append_assoc]
    rfl
   ·cases h
theorem dec_ne : ∀ u, Lib.decDigits u ≠ [] := fun u h => by
 have := Lib.decDigits_length u
 rw [Lib.decDigits] at h
 split at h <;> simp at h
theorem dec_zero (u : Nat) (h : Lib.decDigits u = [48]) : u = 0 := by
 rw [Lib.decDigits] at h
 split at h
 ·rename_i hu
  have e : UInt8.ofNat (48 + u) = 48 := by simpa using h
  have := congrArg UInt8.toNat e
  simp at this
  omega
 ·have := congrArg List.length h
  have := dec_ne (u / 10)
  cases hx : Lib.decDigits (u / 10) with
  | nil => exact absurd hx this
  | cons a b => rw [hx] at h; simp at h
theorem dec_lead : ∀ (u : Nat) (r : List UInt8), Lib.decDigits u = 48 :: r → r = [] := fun u => by
 induction u using Nat.strongRecOn with
 | ind u ih =>
   intro r h
   rw [Lib.decDigits] at h
   split at h
   ·simp at h; exact h.2
   ·rename_i hu
    cases hx : Lib.decDigits (u / 10) with
    | nil => exact absurd hx (dec_ne _)
    | cons a q =>
      rw [hx] at h
      have ha : a = 48 := by simpa using (List.cons.inj h).1
      subst ha
      have hq := ih (u / 10) (by omega) q hx
      subst hq
      have := dec_zero _ hx
      omega
theorem dec_same (b : UInt8) (r : List UInt8) (v : Nat) (h : numGo 0 (b :: r) = some v) : (Lib.decDigits v = b :: r) ↔ ¬ (b = 48 ∧ 0 < r.length) := by
 have h0 := h
 unfold numGo at h
 split at h
 ·rename_i hc
  have hd := (dig_iff b).1 hc.1
  by_cases hb : b = 48
  ·subst hb
   constructor
   ·intro e hx
    have := dec_lead v r e
    subst this
    simp at hx
   ·intro hx
    cases r with
    | nil =>
      cases h
      exact Lib.decDigits_one (by decide)
    | cons a r => exact absurd ⟨rfl, by simp⟩ hx
  ·have hp : 0 < 10 * 0 + (b.toNat - 48) := by
    have : b.toNat ≠ 48 := fun e => hb (UInt8.toNat_inj.1 e)
    omega
   have := num_dec r _ v hp h
   rw [Lib.decDigits_one (i := 10 * 0 + (b.toNat - 48)) (by omega), show 48 + (10 * 0 + (b.toNat - 48)) = 48 + (b.toNat - 48) by omega, dig_back b hc.1] at this
   exact ⟨fun _ hx => hb hx.1, fun _ => this⟩
 ·cases h
end Go.Ev
/- Number and its reference. Condition: none. -/
namespace Go.Ev
set_option linter.all false
theorem num_loop (l : List UInt8) (hl : l.length ≤ 100) (most : Int) (m : Mem) (lv : Nat) : ∀ (d i n : Nat), i + d = l.length → n ≤ 9223372036854775807 → ∀ s : St, s.mask [0, 1, 6, 7] [] = some ⟨66, lv, tmOf [(0, .str (bs l)), (1, .int .i64 most), (6, .int .i64 (n : Int)), (7, .int .i64 (i : Int))], bxOf [], m⟩ →
 (sem T).loop [0, 1, 6, 7] [] L112_0 s = some (match numGo n (l.drop i) with | some v => (.ex 0, ⟨66, lv, tmOf [(1, .int .i64 most), (6, .int .i64 (v : Int))], bxOf [], m⟩) | none => (.ret, ⟨66, lv, tmOf [(4, .int .i64 0), (5, .bool false)], bxOf [], m⟩))
 | 0, i, n, hd, hn, s, hs => by
   obtain rfl : i = l.length := by omega
   refine loop_to (loop_end (fl := .ex 0) hs ?_ (by intro e; cases e)) (by rw [List.drop_length]; rfl)
   simp [Ni_922337203685477580, L112_0]
 | d + 1, i, n, hd, hn, s, hs => by
   have hi : i < l.length := by omega
   have hw := IntWalk.i64_in ((i : Int) + 1) (by omega)
   have hdr : l.drop i = l[i] :: l.drop (i + 1) := List.drop_eq_getElem_cons hi
   obtain ⟨b, hb⟩ : ∃ b, l[i] = b := ⟨_, rfl⟩
   rw [hdr, hb, numGo]
   rcases le_or 48 (b.toNat : Int) with ⟨p, q⟩ | ⟨p, q⟩
   ·rcases le_or (b.toNat : Int) 57 with ⟨p2, q2⟩ | ⟨p2, q2⟩
    ·have p' := of_eq_true p
     have p2' := of_eq_true p2
     have hdg : dig b = true := (dig_iff b).2 (by omega)
     obtain ⟨e, he⟩ : ∃ e, b.toNat - 48 = e := ⟨_, rfl⟩
     have w1 : IntKind.u8.wrap ((b.toNat : Int) - 48) = (e : Int) := by rw [IntWalk.u8_in _ (by omega)]; omega
     have w2 := IntWalk.i64_in (e : Int) (by omega)
     rw [he]
     by_cases hc : 10 * n + e ≤ 9223372036854775807
     ·rw [if_pos ⟨hdg, hc⟩]
      have w3 := IntWalk.i64_in (10 * (n : Int)) (by omega)
      have w4 := IntWalk.i64_in (10 * (n : Int) + (e : Int)) (by omega)
      have k1 : (922337203685477580 < (n : Int)) = False := eq_false (by omega)
      refine loop_round hs ?_ (num_loop l hl most m lv d (i + 1) (10 * n + e) (by omega) hc)
      by_cases hn2 : n = 922337203685477580
      ·subst hn2
       have k3 : (7 < (e : Int)) = False := eq_false (by omega)
       simp at w4
       simp [Ni_922337203685477580, L112_0, hi, hb, hw, q, q2, w1, w2, w4, k3]
      ·have k2 : ((n : Int) = 922337203685477580) = False := eq_false (by omega)
       simp [Ni_922337203685477580, L112_0, hi, hb, hw, q, q2, w1, w2, w3, w4, k1, k2]
     ·rw [if_neg (fun h => hc h.2)]
      refine loop_end (fl := .ret) hs ?_ (by intro e; cases e)
      by_cases hn2 : n = 922337203685477580
      ·subst hn2
       have k3 : (7 < (e : Int)) = True := eq_true (by omega)
       simp [Ni_922337203685477580, L112_0, hi, hb, hw, q, q2, w1, w2, k3]
      ·have k1 : (922337203685477580 < (n : Int)) = True := eq_true (by omega)
       simp [Ni_922337203685477580, L112_0, hi, hb, hw, q, q2, w1, w2, k1]
    ·have hdg : ¬ dig b = true := fun h => by have := (dig_iff b).1 h; have := of_eq_true q2; omega
     rw [if_neg (fun h => hdg h.1)]
     refine loop_end (fl := .ret) hs ?_ (by intro e; cases e)
     simp [Ni_922337203685477580, L112_0, hi, hb, hw, q, q2]
   ·have hdg : ¬ dig b = true := fun h => by have := (dig_iff b).1 h; have := of_eq_true q; omega
    rw [if_neg (fun h => hdg h.1)]
    refine loop_end (fl := .ret) hs ?_ (by intro e; cases e)
    simp [Ni_922337203685477580, L112_0, hi, hb, hw, q]
theorem call15 (l : List UInt8) (most : Int) (m : Mem) (lv : Nat) : (sem T).call 112 [.str (bs l), .int .i64 most] m lv = some (outN (numTo l most), m) := by
 refine call_go rfl rfl rfl ?_
 cases l with
 | nil => simp [F112, numTo, numOf, outN]
 | cons b r =>
   obtain ⟨L, hL⟩ : ∃ L, b :: r = L := ⟨_, rfl⟩
   have h1 : (1 ≤ (L.length : Int)) = True ∧ ((L.length : Int) < 1) = False := is_le (by rw [← hL]; simp; omega)
   have hg : L[0]? = some b := by rw [← hL]; rfl
   have hlr : L.length = r.length + 1 := by rw [← hL]; simp
   unfold numTo numOf
   rw [hL]
   rcases le_or (L.length : Int) 19 with ⟨p, q⟩ | ⟨p, q⟩
   ·have p' := of_eq_true p
    have hl := num_loop L (by omega) most m lv L.length 0 0 (by omega) (by omega)
    simp only [List.drop_zero, Int.natCast_zero] at hl
    by_cases hz : b = 48
    ·rcases le_or (L.length : Int) 1 with ⟨p3, q3⟩ | ⟨p3, q3⟩
     ·have p3' := of_eq_true p3
      rw [if_pos ⟨by omega, by omega, fun h => by omega⟩]
      have hz2 : ((b.toNat : Int) = 48) = True := eq_true (by rw [hz]; rfl)
      cases hv : numGo 0 L with
      | none => rw [hv] at hl; simp [F112, h1.2, q, hg, hz2, q3, hl, outN]
      | some v =>
        rw [hv] at hl
        rcases le_or (v : Int) most with ⟨p4, q4⟩ | ⟨p4, q4⟩ <;> simp [F112, h1.2, q, hg, hz2, q3, hl, outN, p4, q4]
     ·have q3' := of_eq_true q3
      rw [if_neg (fun h => h.2.2 ⟨by rw [hg, hz], by omega⟩)]
      have hz2 : ((b.toNat : Int) = 48) = True := eq_true (by rw [hz]; rfl)
      simp [F112, h1.2, q, hg, hz2, q3, outN]
    ·have hz2 : ((b.toNat : Int) = 48) = False := eq_false (fun h => hz (UInt8.toNat_inj.1 (by have : (48 : UInt8).toNat = 48 := rfl; omega)))
     rw [if_pos ⟨by omega, by omega, fun h => hz (by rw [hg] at h; exact Option.some.inj h.1)⟩]
     cases hv : numGo 0 L with
     | none => rw [hv] at hl; simp [F112, h1.2, q, hg, hz2, hl, outN]
     | some v =>
       rw [hv] at hl
       rcases le_or (v : Int) most with ⟨p4, q4⟩ | ⟨p4, q4⟩ <;> simp [F112, h1.2, q, hg, hz2, hl, outN, p4, q4]
   ·have q' := of_eq_true q
    rw [if_neg (fun h => by omega)]
    simp [F112, h1.2, q, outN]
theorem call34 (v : Nat) (h : v ≤ 9223372036854775807) (m : Mem) (lv : Nat) : (sem T).call 50 [.int .i64 (v : Int)] m lv = some ([.str (bs (Lib.decDigits v))], m) := by
 refine call_given (g := gItoa) rfl ?_
 unfold gItoa
 simp only
 rw [if_pos (by omega), itoaB_nat v h]
theorem call33 (l : List UInt8) (hl : l.length ≤ 281474976710656) (m : Mem) (lv : Nat) : (sem T).call 100 [.str (bs l)] m lv = some (atoiG (bs l), m) := by
 refine call_given (g := gAtoi) rfl ?_
 unfold gAtoi
 simp only
 rw [if_pos (by simpa using hl)]
theorem atoiG_ok (l : List UInt8) (v : Nat) (h : Lib.atoiAll l = .ok (v : Int)) : atoiG (bs l) = [.int .i64 v, .ifc false] := by
 unfold atoiG
 rw [bs_data, h]
theorem atoiG_bad (l : List UInt8) (h : ∀ v, Lib.atoiAll l ≠ .ok v) : ∃ n, atoiG (bs l) = [.int .i64 n, .ifc true] := by
 unfold atoiG
 rw [bs_data]
 cases hx : Lib.atoiAll l with
 | ok v => exact absurd hx (h v)
 | _ => exact ⟨_, rfl⟩
theorem call14 (l : List UInt8) (most : Int) (m : Mem) (lv : Nat) : (sem T).call 68 [.str (bs l), .int .i64 most] m lv = some (outN (numTo l most), m) := by
 refine call_go rfl rfl rfl ?_
 cases l with
 | nil => simp [F68, numTo, numOf, outN]
 | cons b r =>
   have hdd := fun v => dec_same b r v
   have hat := atoi_num b r
   obtain ⟨L, hL⟩ : ∃ L, b :: r = L := ⟨_, rfl⟩
   have hne : (L == []) = false := by rw [← hL]; rfl
   have hg : L[0]? = some b := by rw [← hL]; rfl
   have hlr : L.length = r.length + 1 := by rw [← hL]; simp
   unfold numTo numOf
   rw [hL] at hdd hat ⊢
   rcases le_or (L.length : Int) 19 with ⟨p, q⟩ | ⟨p, q⟩
   ·have p' := of_eq_true p
    have c33 := call33 L (by omega)
    rcases le_or 48 (b.toNat : Int) with ⟨p2, q2⟩ | ⟨p2, q2⟩
    ·rcases le_or (b.toNat : Int) 57 with ⟨p3, q3⟩ | ⟨p3, q3⟩
     ·have hdg : dig b = true := (dig_iff b).2 (by have := of_eq_true p2; have := of_eq_true p3; omega)
      rcases hat hdg with ⟨v, h1, h2⟩ | ⟨h1, h2⟩
      ·have hv := (numGo_le L 0 v (by omega) h2).2
       rw [atoiG_ok L v h1] at c33
       have c34 := call34 v hv
       have hd := hdd v h2
       by_cases hz : b = 48 ∧ 0 < r.length
       ·rw [if_neg (fun h => h.2.2 ⟨by rw [hg, hz.1], by omega⟩)]
        have e : (Lib.decDigits v == L) = false := by rw [beq_eq_false_iff_ne]; exact fun h => (hd.1 h) hz
        simp [F68, hne, q, hg, q2, q3, c33, c34, e, outN]
       ·rw [if_pos ⟨by omega, by omega, fun h => hz ⟨by rw [hg] at h; exact Option.some.inj h.1, by omega⟩⟩]
        have e : Lib.decDigits v = L := hd.2 hz
        rw [e] at c34
        rcases le_or (v : Int) most with ⟨p4, q4⟩ | ⟨p4, q4⟩ <;> simp [F68, hne, q, hg, q2, q3, c33, c34, h2, outN, p4, q4]
      ·obtain ⟨n, hn⟩ := atoiG_bad L h1
       rw [hn] at c33
       have e : (if 1 ≤ L.length ∧ L.length ≤ 19 ∧ ¬(L[0]? = some 48 ∧ 1 < L.length) then numGo 0 L else none) = none := by split <;> first | exact h2 | rfl
       rw [e]
       simp [F68, hne, q, hg, q2, q3, c33, outN]
     ·have hdg : ¬ dig b = true := fun h => by have := (dig_iff b).1 h; have := of_eq_true q3; omega
      have e : numGo 0 L = none := by rw [← hL, numGo, if_neg (fun h => hdg h.1)]
      rw [e]
      simp [F68, hne, q, hg, q2, q3, outN]
    ·have hdg : ¬ dig b = true := fun h => by have := (dig_iff b).1 h; have := of_eq_true q2; omega
     have e : numGo 0 L = none := by rw [← hL, numGo, if_neg (fun h => hdg h.1)]
     rw [e]
     simp [F68, hne, q, hg, q2, outN]
   ·have q' := of_eq_true q
    rw [if_neg (fun h => by omega)]
    simp [F68, hne, q, outN]
end Go.Ev
/- Durations: plain laws. Condition: none. -/
namespace Go.Ev
set_option linter.all false
def pl (b : UInt8) : Nat := if b = 119 then 1 else if b = 100 then 2 else if b = 104 then 3 else if b = 109 then 4 else if b = 115 then 5 else 0
def sec (b : UInt8) : Nat := if b = 119 then 604800 else if b = 100 then 86400 else if b = 104 then 3600 else if b = 109 then 60 else 1
def durGo : List UInt8 → Nat → Nat → List UInt8 → Option Nat
 | cur, sum, last, [] => if cur = [] ∧ last ≠ 0 then some sum else none
 | cur, sum, last, b :: r => if dig b = true then durGo (cur ++ [b]) sum last r else
   match numTo cur 2147483647 with
   | none => none
   | some n => if pl b ≤ last then none else if 2147483647 < sum + n * sec b then none else durGo [] (sum + n * sec b) (pl b) r
def durOf (l : List UInt8) : Option Nat :=
 match numTo l 2147483647 with
 | some n => some n
 | none => durGo [] 0 0 l
theorem pl_le (b : UInt8) : pl b ≤ 5 := by unfold pl; repeat' (first | omega | split)
theorem sec_le (b : UInt8) : sec b ≤ 604800 ∧ 1 ≤ sec b := by unfold sec; repeat' (first | omega | split)
theorem numTo_le {l : List UInt8} {most : Int} {n : Nat} (h : numTo l most = some n) : l.length ≤ 19 ∧ (n : Int) ≤ most := by
 unfold numTo at h
 obtain ⟨v, h1, h2⟩ := Option.bind_eq_some_iff.1 h
 split at h2
 ·cases h2
  unfold numOf at h1
  split at h1
  ·rename_i h3 h4; exact ⟨h4.2.1, h3⟩
  ·cases h1
 ·cases h2
theorem durGo_len : ∀ (r cur : List UInt8) (sum last v : Nat), last ≤ 5 → durGo cur sum last r = some v → cur.length + r.length ≤ 20 * (5 - last)
 | [], cur, sum, last, v, hl, h => by
   unfold durGo at h
   split at h
   ·rename_i hc; rw [hc.1]; simp
   ·cases h
 | b :: r, cur, sum, last, v, hl, h => by
   unfold durGo at h
   split at h
   ·have := durGo_len r _ sum last v hl h
    simp only [List.length_append, List.length_cons, List.length_nil] at this ⊢
    omega
   ·split at h
    ·cases h
    ·rename_i n hn
     split at h
     ·cases h
     ·split at h
      ·cases h
      ·have h1 := durGo_len r _ _ _ v (pl_le b) h
       have h2 := (numTo_le hn).1
       have := pl_le b
       simp only [List.length_cons, List.length_nil] at h1 ⊢
       omega
end Go.Ev
/- Duration and its reference. Condition: none. -/
namespace Go.Ev
set_option linter.all false
def wdhms : List UInt8 := [119, 100, 104, 109, 115]
theorem call113 (l : List UInt8) (c : Int) (m : Mem) (lv : Nat) : (sem T).call 129 [.str (bs l), .int .u8 c] m lv = some ([.int .i64 (n2 .idxByte (bs l) c)], m) := by
 have h : ∀ m lv, (sem T).call 153 [.str (bs l), .int .u8 c] m lv = some ([.int .i64 (n2 .idxByte (bs l) c)], m) := fun m lv => call_go rfl rfl rfl (by simp [F153])
 refine call_go rfl rfl rfl ?_
 simp [F129, h]
theorem idx_pl (b : UInt8) : n2 .idxByte (bs wdhms) (b.toNat : Int) = (pl b : Int) - 1 := byte_all (fun b => n2 .idxByte (bs wdhms) (b.toNat : Int) = (pl b : Int) - 1) (by decide +kernel) b
theorem idx_out : ∀ (l : List UInt8) (c : UInt8), (∀ b ∈ l, b ≠ c) → Lib.indexByte l c = -1
 | [], c, h => rfl
 | b :: l, c, h => by
   have h1 : (b == c) = false := by rw [beq_eq_false_iff_ne]; exact h b (List.mem_cons_self ..)
   rw [Lib.indexByte, h1, idx_out l c (fun x hx => h x (List.mem_cons_of_mem _ hx))]
   rfl
theorem idx_hi (l : List UInt8) (q : UInt8) (hl : l.all (fun b => decide (b.toNat < 128)) = true) (hq : 128 ≤ q.toNat) : n2 .idxByte (bs l) (q.toNat : Int) = -1 := by
 show Lib.indexByte (bs l).data.toList ((q.toNat : Int)).toNat.toUInt8 = -1
 rw [bs_data, Int.toNat_natCast]
 have : q.toNat.toUInt8 = q := UInt8.ofNat_toNat
 rw [this]
 refine idx_out l q fun b hb e => ?_
 have := List.all_eq_true.1 hl b hb
 rw [decide_eq_true_eq, e] at this
 omega
set_option maxRecDepth 100000 in
theorem call114 (c : Nat) (h : Utf8.valid c = true) (m : Mem) (lv : Nat) : (sem T).call 130 [.int .i32 (c : Int)] m lv = some ([.bool true], m) := by
 refine call_go rfl rfl rfl ?_
 have h : c < 55296 ∨ (57344 ≤ c ∧ c ≤ 1114111) := by
  simp only [Utf8.valid, Bool.or_eq_true, Bool.and_eq_true, decide_eq_true_eq] at h
  omega
 rcases le_or 55296 (c : Int) with ⟨p, q⟩ | ⟨p, q⟩
 ·have h3 : (57343 < (c : Int)) = True := eq_true (by have := of_eq_true p; omega)
  have h4 : ((c : Int) ≤ 1114111) = True := eq_true (by have := of_eq_true p; omega)
  simp [F130, q, h3, h4]
 ·simp [F130, q]
theorem call67_lo (b : UInt8) (hb : b.toNat < 128) (m : Mem) (lv : Nat) : (sem T).call 101 [.str (bs wdhms), .int .i32 b.toNat] m lv = some ([.int .i64 ((pl b : Int) - 1)], m) := by
 refine call_go rfl rfl rfl ?_
 have h1 : ((b.toNat : Int) < 128) = True := eq_true (by omega)
 have h2 := IntWalk.u8_in (b.toNat : Int) (by omega)
 have h3 := call113 wdhms b.toNat
 rw [idx_pl] at h3
 simp [F101, h1, h2, h3]
theorem re_loop (m : Mem) (lv : Nat) : ∀ (d i : Nat), i + d = 5 → ∀ s : St, s.mask [175] [175] = some ⟨187, lv, tmOf [(175, .ptr lv 175 0)], bxOf [(175, some (.iter (bs wdhms) i))], m⟩ → (sem T).loop [175] [175] L101_4 s = some (.ex 9, ⟨187, lv, tmOf [], bxOf [], m⟩)
 | 0, i, hd, s, hs => by
   obtain rfl : i = 5 := by omega
   refine loop_end (fl := .ex 9) hs ?_ (by intro e; cases e)
   simp [L101_4, wdhms]
 | d + 1, i, hd, s, hs => by
   have hf : ∀ j : Fin 5, (Utf8.decode (bs wdhms) j.val).2 = 1 ∧ (Utf8.decode (bs wdhms) j.val).1 < 65533 := by decide +kernel
   have h1 : (Utf8.decode (bs wdhms) i).2 = 1 := (hf ⟨i, by omega⟩).1
   have h2 : (Utf8.decode (bs wdhms) i).1 < 65533 := (hf ⟨i, by omega⟩).2
   have h3 : (((Utf8.decode (bs wdhms) i).1 : Int) = 65533) = False := eq_false (by omega)
   have h4 : i < wdhms.length := by simp [wdhms]; omega
   refine loop_round hs ?_ (re_loop m lv d (i + 1) (by omega))
   generalize wdhms = w at *
   simp [L101_4, h1, h3, h4]
theorem enc_hi (c : Nat) (h : Utf8.valid c = true) (hc : 128 ≤ c) : ∃ p q, Utf8.encode c = bs (p ++ [q]) ∧ 1 ≤ p.length ∧ p.length ≤ 3 ∧ 128 ≤ q.toNat := by
 have hq : 128 ≤ (UInt8.ofNat (0x80 + c % 64)).toNat := by
  rw [UInt8.toNat_ofNat']
  omega
 unfold Utf8.encode
 simp only [h, if_true, Int.toNat_natCast]
 rw [if_neg (by omega)]
 split
 ·exact ⟨[_], _, rfl, by simp, by simp, hq⟩
 ·split
  ·exact ⟨[_, _], _, rfl, by simp, by simp, hq⟩
  ·exact ⟨[_, _, _], _, rfl, by simp, by simp, hq⟩
theorem call67_hi (c : Nat) (h : Utf8.valid c = true) (hc : 128 ≤ c) (m : Mem) (lv : Nat) : (sem T).call 101 [.str (bs wdhms), .int .i32 (c : Int)] m lv = some ([.int .i64 (-1)], m) := by
 refine call_go rfl rfl rfl ?_
 have h1 : ((c : Int) < 128) = False := eq_false (by omega)
 by_cases he : c = 65533
 ·subst he
  have hl := re_loop m lv 5 0 (by omega)
  simp [F101, hl]
 ·have h2 : ((c : Int) = 65533) = False := eq_false (by omega)
  have h3 := call114 c h
  obtain ⟨p, q, hp, hp1, hp3, hq⟩ := enc_hi c h hc
  obtain ⟨L, hL⟩ : ∃ L, p ++ [q] = L := ⟨_, rfl⟩
  have hLk : p.length < L.length := by rw [← hL]; simp
  have hLn : L.length = p.length + 1 := by rw [← hL]; simp
  have hLq : L[p.length] = q := by subst hL; simp
  obtain ⟨k, hk⟩ : ∃ k, p.length = k := ⟨_, rfl⟩
  simp only [hk] at hp1 hp3 hLk hLq hLn
  have hW5 : wdhms.length = 5 := rfl
  have hWk : k < wdhms.length := by omega
  obtain ⟨w, hw⟩ : ∃ w, wdhms[k] = w := ⟨_, rfl⟩
  have hall : wdhms.all (fun b => decide (b.toNat < 128)) = true := by decide
  have hwq : ((w.toNat : Int) = (q.toNat : Int)) = False := eq_false (fun e => by
   have := List.all_eq_true.1 hall w (by rw [← hw]; exact List.getElem_mem _)
   rw [decide_eq_true_eq] at this
   omega)
  have hd : n2 .idxByte (bs (wdhms.drop (k + 1))) (q.toNat : Int) = -1 := idx_hi _ q (by
   rw [List.all_eq_true] at hall ⊢
   exact fun x hx => hall x (List.mem_of_mem_drop hx)) hq
  have c1 := call113 (wdhms.drop (k + 1)) q.toNat
  rw [hd] at c1
  have w1 := IntWalk.i64_in ((k : Int) + 1) (by omega)
  have k0 : ((0 : Int) ≤ (k : Int) + 1) = True := eq_true (by omega)
  have k5 : ((k : Int) + 1 ≤ (wdhms.length : Int)) = True := eq_true (by omega)
  have k6 : ((wdhms.length : Int) < (k : Int) + 1) = False := eq_false (by omega)
  have hl : ∀ s : St, s.mask [0, 7, 8, 9] [] = some ⟨187, lv, tmOf [(0, .str (bs wdhms)), (7, .str (bs L)), (8, .int .i64 (k : Int)), (9, .int .i64 (k : Int))], bxOf [], m⟩ → (sem T).loop [0, 7, 8, 9] [] L101_3 s = some (.ret, ⟨187, lv, tmOf [(4, .int .i64 (-1))], bxOf [], m⟩) := by
   intro s hs
   refine loop_end (fl := .ret) hs ?_ (by intro e; cases e)
   simp [L101_3, hWk, hw, hLk, hLq, hwq, w1, k0, k5, k6, c1]
  rw [hL] at hp
  have w2 := IntWalk.i64_in (k : Int) (by omega)
  have w3 : IntKind.i64.wrap ((L.length : Int) - 1) = (k : Int) := by rw [IntWalk.i64_in _ (by omega)]; omega
  generalize wdhms = W at *
  simp [F101, h1, h2, h3, hp, hl, w2, w3]
theorem call35_lo (b : UInt8) (hb : b.toNat < 128) (m : Mem) (lv : Nat) : (sem T).call 69 [.int .i32 b.toNat] m lv = some ([.int .i64 (pl b : Int)], m) := by
 refine call_go rfl rfl rfl ?_
 have h := call67_lo b hb
 have hp := pl_le b
 have w : IntKind.i64.wrap (1 + ((pl b : Int) - 1)) = (pl b : Int) := by rw [IntWalk.i64_in _ (by omega)]; omega
 have e : bs [119, 100, 104, 109, 115] = bs wdhms := rfl
 simp [F69, e, h, w]
theorem call35_hi (c : Nat) (h : Utf8.valid c = true) (hc : 128 ≤ c) (m : Mem) (lv : Nat) : (sem T).call 69 [.int .i32 (c : Int)] m lv = some ([.int .i64 0], m) := by
 refine call_go rfl rfl rfl ?_
 have h := call67_hi c h hc
 have e : bs [119, 100, 104, 109, 115] = bs wdhms := rfl
 simp [F69, e, h]
theorem ne_of (b : UInt8) (k : Nat) (hk : k < 256) (h : b ≠ UInt8.ofNat k) : ((b.toNat : Int) = (k : Int)) = False := eq_false (fun e => h (by apply UInt8.toNat_inj.1; rw [UInt8.toNat_ofNat']; omega))
theorem unit_cases (b : UInt8) : b = 119 ∨ b = 100 ∨ b = 104 ∨ b = 109 ∨ b = 115 ∨ (pl b = 0 ∧ sec b = 1 ∧ ((b.toNat : Int) = 119) = False ∧ ((b.toNat : Int) = 100) = False ∧ ((b.toNat : Int) = 104) = False ∧ ((b.toNat : Int) = 109) = False ∧ ((b.toNat : Int) = 115) = False) := by
 by_cases h1 : b = 119
 ·exact .inl h1
 by_cases h2 : b = 100
 ·exact .inr (.inl h2)
 by_cases h3 : b = 104
 ·exact .inr (.inr (.inl h3))
 by_cases h4 : b = 109
 ·exact .inr (.inr (.inr (.inl h4)))
 by_cases h5 : b = 115
 ·exact .inr (.inr (.inr (.inr (.inl h5))))
 exact .inr (.inr (.inr (.inr (.inr ⟨by simp [pl, h1, h2, h3, h4, h5], by simp [sec, h1, h2, h3, h4], ne_of b 119 (by omega) h1, ne_of b 100 (by omega) h2, ne_of b 104 (by omega) h3, ne_of b 109 (by omega) h4, ne_of b 115 (by omega) h5⟩))))
theorem pl_hi (b : UInt8) (h : 128 ≤ b.toNat) : pl b = 0 := by
 rcases unit_cases b with rfl | rfl | rfl | rfl | rfl | ⟨h0, _⟩
 ·exact absurd h (by decide)
 ·exact absurd h (by decide)
 ·exact absurd h (by decide)
 ·exact absurd h (by decide)
 ·exact absurd h (by decide)
 ·exact h0
theorem call36 (b : UInt8) (m : Mem) (lv : Nat) : (sem T).call 70 [.int .i32 b.toNat] m lv = some ([.int .i64 (sec b : Int)], m) := by
 refine call_go rfl rfl rfl ?_
 rcases unit_cases b with rfl | rfl | rfl | rfl | rfl | ⟨_, h, h1, h2, h3, h4, h5⟩
 ·simp [F70, sec]
 ·simp [F70, sec]
 ·simp [F70, sec]
 ·simp [F70, sec]
 ·simp [F70, sec]
 ·simp [F70, h, h1, h2, h3, h4, h5]
def refU (b : UInt8) : List AV := if pl b = 0 then [.int .i64 0, .int .i64 (-1)] else [.int .i64 (sec b), .int .i64 ((pl b : Int) - 1)]
theorem call37 (b : UInt8) (m : Mem) (lv : Nat) : (sem T).call 138 [.int .u8 b.toNat] m lv = some (refU b, m) := by
 refine call_go rfl rfl rfl ?_
 rcases unit_cases b with rfl | rfl | rfl | rfl | rfl | ⟨h0, h, h1, h2, h3, h4, h5⟩
 ·simp [F138, refU, sec, pl]
 ·simp [F138, refU, sec, pl]
 ·simp [F138, refU, sec, pl]
 ·simp [F138, refU, sec, pl]
 ·simp [F138, refU, sec, pl]
 ·simp [F138, refU, h0, h, h1, h2, h3, h4, h5]
theorem dec_at (l : List UInt8) (i : Nat) (hi : i < l.length) : ((bs l).get! (i + 0)).toNat = l[i].toNat := by
 have : (bs l).get! i = l[i] := by
  show (bs l).data[i]! = _
  simp [hi]
 rw [Nat.add_zero, this]
theorem dec_lo (l : List UInt8) (i : Nat) (hi : i < l.length) (h : l[i].toNat < 128) : Utf8.decode (bs l) i = (l[i].toNat, 1) := by
 unfold Utf8.decode
 simp only [dec_at l i hi]
 rw [if_pos h]
theorem dec_hi (l : List UInt8) (i : Nat) (hi : i < l.length) (h : 128 ≤ l[i].toNat) : ∃ c n, Utf8.decode (bs l) i = (c, n) ∧ 128 ≤ c ∧ Utf8.valid c = true := by
 unfold Utf8.decode
 simp only [dec_at l i hi]
 rw [if_neg (by omega)]
 have e : 128 ≤ Utf8.runeError ∧ Utf8.valid (Utf8.runeError : Nat) = true := by decide
 split
 ·split
  ·rename_i h1
   refine ⟨_, _, rfl, h1, ?_⟩
   simp only [Utf8.valid, Bool.or_eq_true, Bool.and_eq_true, decide_eq_true_eq]
   omega
  ·exact ⟨_, _, rfl, e⟩
 ·split
  ·split
   ·rename_i h1
    simp only [Bool.and_eq_true, decide_eq_true_eq] at h1
    exact ⟨_, _, rfl, by omega, h1.2⟩
   ·exact ⟨_, _, rfl, e⟩
  ·split
   ·split
    ·rename_i h1
     simp only [Bool.and_eq_true, decide_eq_true_eq] at h1
     exact ⟨_, _, rfl, by omega, h1.2⟩
    ·exact ⟨_, _, rfl, e⟩
   ·exact ⟨_, _, rfl, e⟩
end Go.Ev
/- Duration and its reference: the loops. Condition: none. -/
namespace Go.Ev
set_option linter.all false
theorem piece_snoc {α : Type} (l : List α) (i st : Nat) (hi : i < l.length) (hs : st ≤ i) : (l.take (i + 1)).drop st = (l.take i).drop st ++ [l[i]] := by
 rw [List.take_succ_eq_append_getElem hi, List.drop_append_of_le_length (by rw [List.length_take]; omega)]
theorem piece_none {α : Type} (l : List α) (i : Nat) : (l.take i).drop i = [] := by
 apply List.eq_nil_of_length_eq_zero
 rw [List.length_drop, List.length_take]
 omega
theorem dur_loop (l : List UInt8) (hl : l.length ≤ 140737488355328) (m : Mem) (lv : Nat) : ∀ (d i st sum last : Nat), i + d = l.length → st ≤ i → (last = 0 ↔ st = 0) → sum ≤ 2147483647 → last ≤ 5 → ∀ s : St,
 s.mask [0, 6, 7, 8, 22] [22] = some ⟨70, lv, tmOf [(0, .str (bs l)), (6, .int .i64 (sum : Int)), (7, .int .i64 (st : Int)), (8, .int .i64 (last : Int)), (22, .ptr lv 22 0)], bxOf [(22, some (.iter (bs l) i))], m⟩ →
 ∃ r, (sem T).loop [0, 6, 7, 8, 22] [22] L31_0 s = some r ∧ ((r = (.ret, ⟨70, lv, tmOf [(2, .int .i64 0), (3, .bool false)], bxOf [], m⟩) ∧ durGo ((l.take i).drop st) sum last (l.drop i) = none) ∨
  ∃ sum' st' : Nat, r = (.ex 0, ⟨70, lv, tmOf [(0, .str (bs l)), (6, .int .i64 (sum' : Int)), (7, .int .i64 (st' : Int))], bxOf [], m⟩) ∧ st' ≤ l.length ∧ durGo ((l.take i).drop st) sum last (l.drop i) = if st' = l.length ∧ st' ≠ 0 then some sum' else none)
 | 0, i, st, sum, last, hd, hst, h0, hs, hla, s, hm => by
   obtain rfl : i = l.length := by omega
   refine ⟨_, loop_end (fl := .ex 0) (s' := ⟨70, lv, tmOf [(0, .str (bs l)), (6, .int .i64 (sum : Int)), (7, .int .i64 (st : Int))], bxOf [], m⟩) hm ?_ (by intro e; cases e), .inr ⟨sum, st, rfl, hst, ?_⟩⟩
   ·simp [L31_0]
   ·rw [List.drop_length, durGo, List.take_length]
    have : l.drop st = [] ↔ st = l.length := by
     rw [List.drop_eq_nil_iff]
     omega
    by_cases h1 : st = l.length ∧ st ≠ 0
    ·rw [if_pos h1, if_pos ⟨this.2 h1.1, fun e => h1.2 (h0.1 e)⟩]
    ·rw [if_neg h1, if_neg (fun h => h1 ⟨this.1 h.1, fun e => h.2 (h0.2 e)⟩)]
 | d + 1, i, st, sum, last, hd, hst, h0, hs, hla, s, hm => by
   have hi : i < l.length := by omega
   have hw := IntWalk.i64_in ((i : Int) + 1) (by omega)
   have hdr : l.drop i = l[i] :: l.drop (i + 1) := List.drop_eq_getElem_cons hi
   have hsn := piece_snoc l i st hi hst
   have k1 : ((st : Int) ≤ (i : Int)) = True := eq_true (by omega)
   have k2 : ((i : Int) ≤ (l.length : Int)) = True := eq_true (by omega)
   have k3 : ((i : Int) < (st : Int)) = False := eq_false (by omega)
   have k4 : ((l.length : Int) < (i : Int)) = False := eq_false (by omega)
   have k5 : st ≤ i := hst
   have k6 : i ≤ l.length := by omega
   have k7 : (i < st) = False := eq_false (by omega)
   have k8 : (l.length < i) = False := eq_false (by omega)
   have c14 := call14 ((l.take i).drop st) 2147483647
   by_cases hb : l[i].toNat < 128
   ·have hdec := dec_lo l i hi hb
    obtain ⟨b, hbe⟩ : ∃ b, l[i] = b := ⟨_, rfl⟩
    rw [hbe] at hdec hb hdr hsn
    rw [hdr]
    by_cases hdg : dig b = true
    ·have hd' := (dig_iff b).1 hdg
     have q1 : ((48 : Int) ≤ (b.toNat : Int)) = True := eq_true (by omega)
     have q2 : ((b.toNat : Int) ≤ 57) = True := eq_true (by omega)
     rw [durGo, if_pos hdg, ← hsn]
     refine loop_roundP hm ?_ (dur_loop l hl m lv d (i + 1) st sum last (by omega) (by omega) h0 hs hla)
     simp [L31_0, hi, hdec, q1, q2]
    ·have hq : (((48 : Int) ≤ (b.toNat : Int)) = False) ∨ (((48 : Int) ≤ (b.toNat : Int)) = True ∧ ((b.toNat : Int) ≤ 57) = False) := by
      rcases le_or 48 (b.toNat : Int) with ⟨p, q⟩ | ⟨p, q⟩
      ·refine .inr ⟨p, eq_false fun h => hdg ((dig_iff b).2 ?_)⟩
       have := of_eq_true p
       omega
      ·exact .inl p
     have c35 := call35_lo b hb
     have c36 := call36 b
     have hsec := sec_le b
     have hpl := pl_le b
     rw [durGo, if_neg hdg]
     cases hn : numTo ((l.take i).drop st) 2147483647 with
     | none =>
       rw [hn] at c14
       refine ⟨_, loop_end (fl := .ret) (s' := ⟨70, lv, tmOf [(2, .int .i64 0), (3, .bool false)], bxOf [], m⟩) hm ?_ (by intro e; cases e), .inl ⟨rfl, rfl⟩⟩
       rcases hq with q1 | ⟨q1, q2⟩
       ·simp [L31_0, hi, hdec, q1, k1, k2, k3, k4, k5, k6, k7, k8, c14, c35, outN]
       ·simp [L31_0, hi, hdec, q1, q2, k1, k2, k3, k4, k5, k6, k7, k8, c14, c35, outN]
     | some n =>
       have hn2 := (numTo_le hn).2
       rw [hn] at c14
       simp only
       by_cases hp : pl b ≤ last
       ·have p1 : ((pl b : Int) ≤ (last : Int)) = True := eq_true (by omega)
        rw [if_pos hp]
        refine ⟨_, loop_end (fl := .ret) (s' := ⟨70, lv, tmOf [(2, .int .i64 0), (3, .bool false)], bxOf [], m⟩) hm ?_ (by intro e; cases e), .inl ⟨rfl, rfl⟩⟩
        rcases hq with q1 | ⟨q1, q2⟩
        ·simp [L31_0, hi, hdec, q1, k1, k2, k3, k4, k5, k6, k7, k8, c14, c35, outN, p1, hp]
        ·simp [L31_0, hi, hdec, q1, q2, k1, k2, k3, k4, k5, k6, k7, k8, c14, c35, outN, p1, hp]
       ·have p1 : ((pl b : Int) ≤ (last : Int)) = False := eq_false (by omega)
        have p2 : (pl b ≤ last) = False := eq_false hp
        rw [if_neg hp]
        obtain ⟨e, he⟩ : ∃ e, n * sec b = e := ⟨_, rfl⟩
        have heb : e ≤ 2147483647 * 604800 := he ▸ Nat.mul_le_mul (by omega) hsec.1
        have hei : (n : Int) * (sec b : Int) = (e : Int) := by rw [← he]; simp
        have w1 := IntWalk.i64_in (e : Int) (by omega)
        have w2 := IntWalk.i64_in ((sum : Int) + (e : Int)) (by omega)
        rw [he]
        by_cases hx : 2147483647 < sum + e
        ·have x1 : ((2147483647 : Int) < (sum : Int) + (e : Int)) = True := eq_true (by omega)
         rw [if_pos hx]
         refine ⟨_, loop_end (fl := .ret) (s' := ⟨70, lv, tmOf [(2, .int .i64 0), (3, .bool false)], bxOf [], m⟩) hm ?_ (by intro e; cases e), .inl ⟨rfl, rfl⟩⟩
         rcases hq with q1 | ⟨q1, q2⟩
         ·simp [L31_0, hi, hdec, q1, k1, k2, k3, k4, k5, k6, k7, k8, c14, c35, c36, outN, p1, p2, hei, w1, w2, x1]
         ·simp [L31_0, hi, hdec, q1, q2, k1, k2, k3, k4, k5, k6, k7, k8, c14, c35, c36, outN, p1, p2, hei, w1, w2, x1]
        ·have x1 : ((2147483647 : Int) < (sum : Int) + (e : Int)) = False := eq_false (by omega)
         rw [if_neg hx]
         have hnx := dur_loop l hl m lv d (i + 1) (i + 1) (sum + e) (pl b) (by omega) (by omega) ⟨fun h => by omega, fun h => by omega⟩ (by omega) hpl
         rw [piece_none] at hnx
         refine loop_roundP hm ?_ hnx
         rcases hq with q1 | ⟨q1, q2⟩
         ·simp [L31_0, hi, hdec, q1, k1, k2, k3, k4, k5, k6, k7, k8, c14, c35, c36, outN, p1, p2, hei, w1, w2, x1, hw]
         ·simp [L31_0, hi, hdec, q1, q2, k1, k2, k3, k4, k5, k6, k7, k8, c14, c35, c36, outN, p1, p2, hei, w1, w2, x1, hw]
   ·obtain ⟨c, n, hdec, hc, hv⟩ := dec_hi l i hi (by omega)
    obtain ⟨b, hbe⟩ : ∃ b, l[i] = b := ⟨_, rfl⟩
    rw [hbe] at hb hdr
    rw [hdr]
    have c35 := call35_hi c hv hc
    have q1 : ((48 : Int) ≤ (c : Int)) = True := eq_true (by omega)
    have q2 : ((c : Int) ≤ 57) = False := eq_false (by omega)
    have hla0 : ((0 : Int) ≤ (last : Int)) = True := eq_true (by omega)
    have hno : durGo ((l.take i).drop st) sum last (b :: l.drop (i + 1)) = none := by
     rw [durGo, if_neg (fun h => by have := (dig_iff b).1 h; omega), pl_hi b (by omega)]
     split
     ·rfl
     ·rw [if_pos (by omega)]
    rw [hno]
    refine ⟨_, loop_end (fl := .ret) (s' := ⟨70, lv, tmOf [(2, .int .i64 0), (3, .bool false)], bxOf [], m⟩) hm ?_ (by intro e; cases e), .inl ⟨rfl, rfl⟩⟩
    cases hn : numTo ((l.take i).drop st) 2147483647 with
    | none =>
      rw [hn] at c14
      simp [L31_0, hi, hdec, q1, q2, k1, k2, k3, k4, k5, k6, k7, k8, c14, c35, outN]
    | some n =>
      rw [hn] at c14
      simp [L31_0, hi, hdec, q1, q2, k1, k2, k3, k4, k5, k6, k7, k8, c14, c35, outN, hla0]
theorem call16 (l : List UInt8) (hl : l.length ≤ 140737488355328) (m : Mem) (lv : Nat) : (sem T).call 31 [.str (bs l)] m lv = some (outN (durOf l), m) := by
 refine call_go rfl rfl rfl ?_
 have c14 := call14 l 2147483647
 unfold durOf
 cases hn : numTo l 2147483647 with
 | some n => rw [hn] at c14; simp [F31, c14, outN]
 | none =>
   rw [hn] at c14
   have h0 : (St.mk 70 lv (tmOf [(0, .str (bs l)), (6, .int .i64 0), (7, .int .i64 0), (8, .int .i64 0), (22, .ptr lv 22 0)]) (bxOf [(22, some (.iter (bs l) 0))]) m).mask [0, 6, 7, 8, 22] [22] = some ⟨70, lv, tmOf [(0, .str (bs l)), (6, .int .i64 0), (7, .int .i64 0), (8, .int .i64 0), (22, .ptr lv 22 0)], bxOf [(22, some (.iter (bs l) 0))], m⟩ := by simp
   have hx := dur_loop l hl m lv l.length 0 0 0 0 (by omega) (by omega) (by omega) (by omega) (by omega) _ h0
   obtain ⟨r, hr, h2⟩ := loop_all h0 hx
   rw [List.drop_zero, List.take_zero, List.drop_zero] at h2
   rcases h2 with ⟨rfl, h2⟩ | ⟨sum, st, rfl, hle, h2⟩
   ·rw [h2]
    simp [F31, c14, outN, hr]
   ·by_cases hc : st = l.length ∧ st ≠ 0
    ·rw [h2, if_pos hc]
     have e1 : ((st : Int) = (l.length : Int)) = True := eq_true (by omega)
     have e2 : ((st : Int) = 0) = False := eq_false (by omega)
     have e3 : (st = 0) = False := eq_false hc.2
     simp [F31, c14, outN, hr, e1, e2, e3, hc.1]
     exact fun e => hc.2 (by rw [hc.1, e]; rfl)
    ·rw [h2, if_neg hc]
     by_cases h1 : st = l.length
     ·have h2 : st = 0 := Classical.byContradiction fun h => hc ⟨h1, h⟩
      have h3 : l.length = 0 := by omega
      simp [F31, c14, outN, hr, h2, h3]
     ·have e1 : ((st : Int) = (l.length : Int)) = False := eq_false (by omega)
      simp [F31, c14, outN, hr, e1]
theorem ref_dur_loop (l : List UInt8) (hl : l.length ≤ 100) (m : Mem) (lv : Nat) : ∀ (d i st sum last : Nat), i + d = l.length → st ≤ i → (last = 0 ↔ st = 0) → sum ≤ 2147483647 → last ≤ 5 → ∀ s : St,
 s.mask [0, 6, 7, 8, 9] [] = some ⟨87, lv, tmOf [(0, .str (bs l)), (6, .int .i64 (sum : Int)), (7, .int .i64 ((last : Int) - 1)), (8, .int .i64 (st : Int)), (9, .int .i64 (i : Int))], bxOf [], m⟩ →
 ∃ r, (sem T).loop [0, 6, 7, 8, 9] [] L111_0 s = some r ∧ ((r = (.ret, ⟨87, lv, tmOf [(2, .int .i64 0), (3, .bool false)], bxOf [], m⟩) ∧ durGo ((l.take i).drop st) sum last (l.drop i) = none) ∨
  ∃ sum' st' last' : Nat, r = (.ex 0, ⟨87, lv, tmOf [(0, .str (bs l)), (6, .int .i64 (sum' : Int)), (7, .int .i64 ((last' : Int) - 1)), (8, .int .i64 (st' : Int))], bxOf [], m⟩) ∧ st' ≤ l.length ∧ durGo ((l.take i).drop st) sum last (l.drop i) = if st' = l.length ∧ last' ≠ 0 then some sum' else none)
 | 0, i, st, sum, last, hd, hst, h0, hs, hla, s, hm => by
   obtain rfl : i = l.length := by omega
   refine ⟨_, loop_end (fl := .ex 0) (s' := ⟨87, lv, tmOf [(0, .str (bs l)), (6, .int .i64 (sum : Int)), (7, .int .i64 ((last : Int) - 1)), (8, .int .i64 (st : Int))], bxOf [], m⟩) hm ?_ (by intro e; cases e), .inr ⟨sum, st, last, rfl, hst, ?_⟩⟩
   ·simp [L111_0]
   ·rw [List.drop_length, durGo, List.take_length]
    have : l.drop st = [] ↔ st = l.length := by
     rw [List.drop_eq_nil_iff]
     omega
    by_cases h1 : st = l.length ∧ last ≠ 0
    ·rw [if_pos h1, if_pos ⟨this.2 h1.1, h1.2⟩]
    ·rw [if_neg h1, if_neg (fun h => h1 ⟨this.1 h.1, h.2⟩)]
 | d + 1, i, st, sum, last, hd, hst, h0, hs, hla, s, hm => by
   have hi : i < l.length := by omega
   have hw := IntWalk.i64_in ((i : Int) + 1) (by omega)
   have hdr : l.drop i = l[i] :: l.drop (i + 1) := List.drop_eq_getElem_cons hi
   have hsn := piece_snoc l i st hi hst
   have k1 : ((st : Int) ≤ (i : Int)) = True := eq_true (by omega)
   have k2 : ((i : Int) ≤ (l.length : Int)) = True := eq_true (by omega)
   have k3 : ((i : Int) < (st : Int)) = False := eq_false (by omega)
   have k4 : ((l.length : Int) < (i : Int)) = False := eq_false (by omega)
   have k5 : st ≤ i := hst
   have k6 : i ≤ l.length := by omega
   have k7 : (i < st) = False := eq_false (by omega)
   have k8 : (l.length < i) = False := eq_false (by omega)
   have c15 := call15 ((l.take i).drop st) 2147483647
   obtain ⟨b, hbe⟩ : ∃ b, l[i] = b := ⟨_, rfl⟩
   rw [hbe] at hdr hsn
   rw [hdr]
   have c37 := call37 b
   by_cases hdg : dig b = true
   ·have hd' := (dig_iff b).1 hdg
    have q1 : ((48 : Int) ≤ (b.toNat : Int)) = True := eq_true (by omega)
    have q2 : ((b.toNat : Int) ≤ 57) = True := eq_true (by omega)
    rw [durGo, if_pos hdg, ← hsn]
    refine loop_roundP hm ?_ (ref_dur_loop l hl m lv d (i + 1) st sum last (by omega) (by omega) h0 hs hla)
    simp [L111_0, hi, hbe, q1, q2, hw]
   ·have hq : (((48 : Int) ≤ (b.toNat : Int)) = False) ∨ (((48 : Int) ≤ (b.toNat : Int)) = True ∧ ((b.toNat : Int) ≤ 57) = False) := by
     rcases le_or 48 (b.toNat : Int) with ⟨p, q⟩ | ⟨p, q⟩
     ·refine .inr ⟨p, eq_false fun h => hdg ((dig_iff b).2 ?_)⟩
      have := of_eq_true p
      omega
     ·exact .inl p
    have hsec := sec_le b
    have hpl := pl_le b
    rw [durGo, if_neg hdg]
    cases hn : numTo ((l.take i).drop st) 2147483647 with
    | none =>
      rw [hn] at c15
      refine ⟨_, loop_end (fl := .ret) (s' := ⟨87, lv, tmOf [(2, .int .i64 0), (3, .bool false)], bxOf [], m⟩) hm ?_ (by intro e; cases e), .inl ⟨rfl, rfl⟩⟩
      unfold refU at c37
      by_cases hp0 : pl b = 0
      ·rw [if_pos hp0] at c37
       rcases hq with q1 | ⟨q1, q2⟩
       ·simp [L111_0, hi, hbe, q1, k1, k2, k3, k4, k5, k6, k7, k8, c15, c37, outN]
       ·simp [L111_0, hi, hbe, q1, q2, k1, k2, k3, k4, k5, k6, k7, k8, c15, c37, outN]
      ·rw [if_neg hp0] at c37
       rcases hq with q1 | ⟨q1, q2⟩
       ·simp [L111_0, hi, hbe, q1, k1, k2, k3, k4, k5, k6, k7, k8, c15, c37, outN]
       ·simp [L111_0, hi, hbe, q1, q2, k1, k2, k3, k4, k5, k6, k7, k8, c15, c37, outN]
    | some n =>
      have hn2 := (numTo_le hn).2
      rw [hn] at c15
      simp only
      unfold refU at c37
      by_cases hp0 : pl b = 0
      ·rw [if_pos hp0] at c37
       rw [if_pos (by omega)]
       have p1 : ((-1 : Int) ≤ (last : Int) - 1) = True := eq_true (by omega)
       refine ⟨_, loop_end (fl := .ret) (s' := ⟨87, lv, tmOf [(2, .int .i64 0), (3, .bool false)], bxOf [], m⟩) hm ?_ (by intro e; cases e), .inl ⟨rfl, rfl⟩⟩
       rcases hq with q1 | ⟨q1, q2⟩
       ·simp [L111_0, hi, hbe, q1, k1, k2, k3, k4, k5, k6, k7, k8, c15, c37, outN, p1]
       ·simp [L111_0, hi, hbe, q1, q2, k1, k2, k3, k4, k5, k6, k7, k8, c15, c37, outN, p1]
      ·rw [if_neg hp0] at c37
       obtain ⟨x, hx0⟩ : ∃ x : Int, (pl b : Int) - 1 = x := ⟨_, rfl⟩
       obtain ⟨y, hy0⟩ : ∃ y : Int, (last : Int) - 1 = y := ⟨_, rfl⟩
       rw [hx0] at c37
       rw [hy0] at hm
       by_cases hp : pl b ≤ last
       ·have p1 : (x ≤ y) = True := eq_true (by omega)
        rw [if_pos hp]
        refine ⟨_, loop_end (fl := .ret) (s' := ⟨87, lv, tmOf [(2, .int .i64 0), (3, .bool false)], bxOf [], m⟩) hm ?_ (by intro e; cases e), .inl ⟨rfl, rfl⟩⟩
        rcases hq with q1 | ⟨q1, q2⟩
        ·simp [L111_0, hi, hbe, q1, k1, k2, k3, k4, k5, k6, k7, k8, c15, c37, outN, p1]
        ·simp [L111_0, hi, hbe, q1, q2, k1, k2, k3, k4, k5, k6, k7, k8, c15, c37, outN, p1]
       ·have p1 : (x ≤ y) = False := eq_false (by omega)
        rw [if_neg hp]
        obtain ⟨e, he⟩ : ∃ e, n * sec b = e := ⟨_, rfl⟩
        have heb : e ≤ 2147483647 * 604800 := he ▸ Nat.mul_le_mul (by omega) hsec.1
        have hei : (n : Int) * (sec b : Int) = (e : Int) := by rw [← he]; simp
        have w1 := IntWalk.i64_in (e : Int) (by omega)
        have w2 := IntWalk.i64_in ((sum : Int) + (e : Int)) (by omega)
        have w3 := IntWalk.i64_in (2147483647 - (sum : Int)) (by omega)
        rw [he]
        by_cases hx : 2147483647 < sum + e
        ·have x1 : ((2147483647 : Int) - (sum : Int) < (e : Int)) = True := eq_true (by omega)
         rw [if_pos hx]
         refine ⟨_, loop_end (fl := .ret) (s' := ⟨87, lv, tmOf [(2, .int .i64 0), (3, .bool false)], bxOf [], m⟩) hm ?_ (by intro e; cases e), .inl ⟨rfl, rfl⟩⟩
         rcases hq with q1 | ⟨q1, q2⟩
         ·simp [L111_0, hi, hbe, q1, k1, k2, k3, k4, k5, k6, k7, k8, c15, c37, outN, p1, hei, w1, w2, w3, x1]
         ·simp [L111_0, hi, hbe, q1, q2, k1, k2, k3, k4, k5, k6, k7, k8, c15, c37, outN, p1, hei, w1, w2, w3, x1]
        ·have x1 : ((2147483647 : Int) - (sum : Int) < (e : Int)) = False := eq_false (by omega)
         rw [if_neg hx]
         have hnx := ref_dur_loop l hl m lv d (i + 1) (i + 1) (sum + e) (pl b) (by omega) (by omega) ⟨fun h => by omega, fun h => by omega⟩ (by omega) hpl
         rw [piece_none, hx0] at hnx
         refine loop_roundP hm ?_ hnx
         rcases hq with q1 | ⟨q1, q2⟩
         ·simp [L111_0, hi, hbe, q1, k1, k2, k3, k4, k5, k6, k7, k8, c15, c37, outN, p1, hei, w1, w2, w3, x1, hw]
         ·simp [L111_0, hi, hbe, q1, q2, k1, k2, k3, k4, k5, k6, k7, k8, c15, c37, outN, p1, hei, w1, w2, w3, x1, hw]
theorem call17 (l : List UInt8) (m : Mem) (lv : Nat) : (sem T).call 111 [.str (bs l)] m lv = some (outN (durOf l), m) := by
 refine call_go rfl rfl rfl ?_
 have c15 := call15 l 2147483647
 unfold durOf
 cases hn : numTo l 2147483647 with
 | some n => rw [hn] at c15; simp [F111, c15, outN]
 | none =>
   rw [hn] at c15
   rcases le_or (l.length : Int) 100 with ⟨p, q⟩ | ⟨p, q⟩
   ·have p' := of_eq_true p
    have h0 : (St.mk 87 lv (tmOf [(0, .str (bs l)), (6, .int .i64 0), (7, .int .i64 (-1)), (8, .int .i64 0), (9, .int .i64 0)]) (bxOf []) m).mask [0, 6, 7, 8, 9] [] = some ⟨87, lv, tmOf [(0, .str (bs l)), (6, .int .i64 0), (7, .int .i64 (-1)), (8, .int .i64 0), (9, .int .i64 0)], bxOf [], m⟩ := by simp
    have hx := ref_dur_loop l (by omega) m lv l.length 0 0 0 0 (by omega) (by omega) (by omega) (by omega) (by omega) _ h0
    obtain ⟨r, hr, h2⟩ := loop_all h0 hx
    rw [List.drop_zero, List.take_zero, List.drop_zero] at h2
    rcases h2 with ⟨rfl, h2⟩ | ⟨sum, st, last, rfl, hle, h2⟩
    ·rw [h2]
     simp [F111, c15, outN, hr, q]
    ·obtain ⟨y, hy⟩ : ∃ y : Int, (last : Int) - 1 = y := ⟨_, rfl⟩
     rw [hy] at hr
     by_cases hl0 : last = 0
     ·have e1 : (y < 0) = True := eq_true (by omega)
      rw [h2, if_neg (fun h => h.2 hl0)]
      simp [F111, c15, outN, hr, q, e1]
     ·have e1 : (y < 0) = False := eq_false (by omega)
      by_cases h1 : st = l.length
      ·have e2 : ((st : Int) = (l.length : Int)) = True := eq_true (by omega)
       rw [h2, if_pos ⟨h1, hl0⟩]
       simp [F111, c15, outN, hr, q, e1, e2, h1]
      ·have e2 : ((st : Int) = (l.length : Int)) = False := eq_false (by omega)
       rw [h2, if_neg (fun h => h1 h.1)]
       simp [F111, c15, outN, hr, q, e1, e2, h1]
   ·have hno : durGo [] 0 0 l = none := by
     cases hd : durGo [] 0 0 l with
     | none => rfl
     | some v =>
       have := durGo_len l [] 0 0 v (by omega) hd
       have := of_eq_true q
       simp only [List.length_nil] at *
       omega
    rw [hno]
    simp [F111, c15, outN, q]
end Go.Ev
