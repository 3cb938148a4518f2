/- Number and its reference. Condition: none. -/
import Derived.Test.YtkpfaedepmgflaaGreatDoorRtA
import Derived.Test.YtkpfaedepmgflaaGreatDoorRtN0
namespace Go.Ev
set_option linter.all false
theorem call_given {T : Tab} {f : FuncId} {g : List AV → Mem → Nat → Option (List AV × Mem)} {args : List AV} {m : Mem} {l : Nat} {r : List AV × Mem} (hg : T.given f = some g) (h : g args m l = some r) : (sem T).call f args m l = some r := by
  apply sem_call
  unfold callBy
  rw [hg]
  exact h
theorem num_loop (l : List UInt8) (hl : l.length ≤ 100) (most : Int) (m : Mem) (lv : Nat) : ∀ (d i n : Nat), i + d = l.length → n ≤ 9223372036854775807 → ∀ s : St, s.mask [0, 1, 6, 7] [] = some ⟨66, lv, tmOf [(0, .str (bs l)), (1, .int .i64 most), (6, .int .i64 (n : Int)), (7, .int .i64 (i : Int))], bxOf [], m⟩ →
    (sem T).loop [0, 1, 6, 7] [] L15_0 s = some (match numGo n (l.drop i) with | some v => (.ex 0, ⟨66, lv, tmOf [(1, .int .i64 most), (6, .int .i64 (v : Int))], bxOf [], m⟩) | none => (.ret, ⟨66, lv, tmOf [(4, .int .i64 0), (5, .bool false)], bxOf [], m⟩))
  | 0, i, n, hd, hn, s, hs => by
    obtain rfl : i = l.length := by omega
    refine loop_to (loop_end (fl := .ex 0) hs ?_ (by intro e; cases e)) (by rw [List.drop_length]; rfl)
    simp [L15_0]
  | d + 1, i, n, hd, hn, s, hs => by
    have hi : i < l.length := by omega
    have hw := IntWalk.i64_in ((i : Int) + 1) (by omega)
    have hdr : l.drop i = l[i] :: l.drop (i + 1) := List.drop_eq_getElem_cons hi
    obtain ⟨b, hb⟩ : ∃ b, l[i] = b := ⟨_, rfl⟩
    rw [hdr, hb, numGo]
    rcases le_or 48 (b.toNat : Int) with ⟨p, q⟩ | ⟨p, q⟩
    · rcases le_or (b.toNat : Int) 57 with ⟨p2, q2⟩ | ⟨p2, q2⟩
      · have p' := of_eq_true p
        have p2' := of_eq_true p2
        have hdg : dig b = true := (dig_iff b).2 (by omega)
        obtain ⟨e, he⟩ : ∃ e, b.toNat - 48 = e := ⟨_, rfl⟩
        have w1 : IntKind.u8.wrap ((b.toNat : Int) - 48) = (e : Int) := by rw [IntWalk.u8_in _ (by omega)]; omega
        have w2 := IntWalk.i64_in (e : Int) (by omega)
        rw [he]
        by_cases hc : 10 * n + e ≤ 9223372036854775807
        · rw [if_pos ⟨hdg, hc⟩]
          have w3 := IntWalk.i64_in (10 * (n : Int)) (by omega)
          have w4 := IntWalk.i64_in (10 * (n : Int) + (e : Int)) (by omega)
          have k1 : (922337203685477580 < (n : Int)) = False := eq_false (by omega)
          refine loop_round hs ?_ (num_loop l hl most m lv d (i + 1) (10 * n + e) (by omega) hc)
          by_cases hn2 : n = 922337203685477580
          · subst hn2
            have k3 : (7 < (e : Int)) = False := eq_false (by omega)
            simp at w4
            simp [L15_0, hi, hb, hw, q, q2, w1, w2, w4, k3]
          · have k2 : ((n : Int) = 922337203685477580) = False := eq_false (by omega)
            simp [L15_0, hi, hb, hw, q, q2, w1, w2, w3, w4, k1, k2]
        · rw [if_neg (fun h => hc h.2)]
          refine loop_end (fl := .ret) hs ?_ (by intro e; cases e)
          by_cases hn2 : n = 922337203685477580
          · subst hn2
            have k3 : (7 < (e : Int)) = True := eq_true (by omega)
            simp [L15_0, hi, hb, hw, q, q2, w1, w2, k3]
          · have k1 : (922337203685477580 < (n : Int)) = True := eq_true (by omega)
            simp [L15_0, hi, hb, hw, q, q2, w1, w2, k1]
      · have hdg : ¬ dig b = true := fun h => by have := (dig_iff b).1 h; have := of_eq_true q2; omega
        rw [if_neg (fun h => hdg h.1)]
        refine loop_end (fl := .ret) hs ?_ (by intro e; cases e)
        simp [L15_0, hi, hb, hw, q, q2]
    · have hdg : ¬ dig b = true := fun h => by have := (dig_iff b).1 h; have := of_eq_true q; omega
      rw [if_neg (fun h => hdg h.1)]
      refine loop_end (fl := .ret) hs ?_ (by intro e; cases e)
      simp [L15_0, hi, hb, hw, q]
theorem call15 (l : List UInt8) (most : Int) (m : Mem) (lv : Nat) : (sem T).call 15 [.str (bs l), .int .i64 most] m lv = some (outN (numTo l most), m) := by
  refine call_go rfl rfl rfl ?_
  cases l with
  | nil => simp [F15, numTo, numOf, outN]
  | cons b r =>
    obtain ⟨L, hL⟩ : ∃ L, b :: r = L := ⟨_, rfl⟩
    have h1 : (1 ≤ (L.length : Int)) = True ∧ ((L.length : Int) < 1) = False := is_le (by rw [← hL]; simp; omega)
    have hg : L[0]? = some b := by rw [← hL]; rfl
    have hlr : L.length = r.length + 1 := by rw [← hL]; simp
    unfold numTo numOf
    rw [hL]
    rcases le_or (L.length : Int) 19 with ⟨p, q⟩ | ⟨p, q⟩
    · have p' := of_eq_true p
      have hl := num_loop L (by omega) most m lv L.length 0 0 (by omega) (by omega)
      simp only [List.drop_zero, Int.natCast_zero] at hl
      by_cases hz : b = 48
      · rcases le_or (L.length : Int) 1 with ⟨p3, q3⟩ | ⟨p3, q3⟩
        · have p3' := of_eq_true p3
          rw [if_pos ⟨by omega, by omega, fun h => by omega⟩]
          have hz2 : ((b.toNat : Int) = 48) = True := eq_true (by rw [hz]; rfl)
          cases hv : numGo 0 L with
          | none => rw [hv] at hl; simp [F15, h1.2, q, hg, hz2, q3, hl, outN]
          | some v =>
            rw [hv] at hl
            rcases le_or (v : Int) most with ⟨p4, q4⟩ | ⟨p4, q4⟩ <;> simp [F15, h1.2, q, hg, hz2, q3, hl, outN, p4, q4]
        · have q3' := of_eq_true q3
          rw [if_neg (fun h => h.2.2 ⟨by rw [hg, hz], by omega⟩)]
          have hz2 : ((b.toNat : Int) = 48) = True := eq_true (by rw [hz]; rfl)
          simp [F15, h1.2, q, hg, hz2, q3, outN]
      · have hz2 : ((b.toNat : Int) = 48) = False := eq_false (fun h => hz (UInt8.toNat_inj.1 (by have : (48 : UInt8).toNat = 48 := rfl; omega)))
        rw [if_pos ⟨by omega, by omega, fun h => hz (by rw [hg] at h; exact Option.some.inj h.1)⟩]
        cases hv : numGo 0 L with
        | none => rw [hv] at hl; simp [F15, h1.2, q, hg, hz2, hl, outN]
        | some v =>
          rw [hv] at hl
          rcases le_or (v : Int) most with ⟨p4, q4⟩ | ⟨p4, q4⟩ <;> simp [F15, h1.2, q, hg, hz2, hl, outN, p4, q4]
    · have q' := of_eq_true q
      rw [if_neg (fun h => by omega)]
      simp [F15, h1.2, q, outN]
theorem itoaB_nat (v : Nat) (h : v ≤ 9223372036854775807) : itoaB (v : Int) = bs (Lib.decDigits v) := by
  unfold itoaB
  rw [if_neg (by omega), Int.toNat_natCast, digs_eq 20 v (by omega) (by omega)]
  rfl
theorem call34 (v : Nat) (h : v ≤ 9223372036854775807) (m : Mem) (lv : Nat) : (sem T).call 34 [.int .i64 (v : Int)] m lv = some ([.str (bs (Lib.decDigits v))], m) := by
  refine call_given (g := gItoa) rfl ?_
  unfold gItoa
  simp only
  rw [if_pos (by omega), itoaB_nat v h]
theorem call33 (l : List UInt8) (hl : l.length ≤ 281474976710656) (m : Mem) (lv : Nat) : (sem T).call 33 [.str (bs l)] m lv = some (atoiG (bs l), m) := by
  refine call_given (g := gAtoi) rfl ?_
  unfold gAtoi
  simp only
  rw [if_pos (by simpa using hl)]
theorem atoiG_ok (l : List UInt8) (v : Nat) (h : Lib.atoiAll l = .ok (v : Int)) : atoiG (bs l) = [.int .i64 v, .ifc false] := by
  unfold atoiG
  rw [bs_data, h]
theorem atoiG_bad (l : List UInt8) (h : ∀ v, Lib.atoiAll l ≠ .ok v) : ∃ n, atoiG (bs l) = [.int .i64 n, .ifc true] := by
  unfold atoiG
  rw [bs_data]
  cases hx : Lib.atoiAll l with
  | ok v => exact absurd hx (h v)
  | _ => exact ⟨_, rfl⟩
theorem call14 (l : List UInt8) (most : Int) (m : Mem) (lv : Nat) : (sem T).call 14 [.str (bs l), .int .i64 most] m lv = some (outN (numTo l most), m) := by
  refine call_go rfl rfl rfl ?_
  cases l with
  | nil => simp [F14, numTo, numOf, outN]
  | cons b r =>
    have hdd := fun v => dec_same b r v
    have hat := atoi_num b r
    obtain ⟨L, hL⟩ : ∃ L, b :: r = L := ⟨_, rfl⟩
    have hne : (L == []) = false := by rw [← hL]; rfl
    have hg : L[0]? = some b := by rw [← hL]; rfl
    have hlr : L.length = r.length + 1 := by rw [← hL]; simp
    unfold numTo numOf
    rw [hL] at hdd hat ⊢
    rcases le_or (L.length : Int) 19 with ⟨p, q⟩ | ⟨p, q⟩
    · have p' := of_eq_true p
      have c33 := call33 L (by omega)
      rcases le_or 48 (b.toNat : Int) with ⟨p2, q2⟩ | ⟨p2, q2⟩
      · rcases le_or (b.toNat : Int) 57 with ⟨p3, q3⟩ | ⟨p3, q3⟩
        · have hdg : dig b = true := (dig_iff b).2 (by have := of_eq_true p2; have := of_eq_true p3; omega)
          rcases hat hdg with ⟨v, h1, h2⟩ | ⟨h1, h2⟩
          · have hv := (numGo_le L 0 v (by omega) h2).2
            rw [atoiG_ok L v h1] at c33
            have c34 := call34 v hv
            have hd := hdd v h2
            by_cases hz : b = 48 ∧ 0 < r.length
            · rw [if_neg (fun h => h.2.2 ⟨by rw [hg, hz.1], by omega⟩)]
              have e : (Lib.decDigits v == L) = false := by rw [beq_eq_false_iff_ne]; exact fun h => (hd.1 h) hz
              simp [F14, hne, q, hg, q2, q3, c33, c34, e, outN]
            · rw [if_pos ⟨by omega, by omega, fun h => hz ⟨by rw [hg] at h; exact Option.some.inj h.1, by omega⟩⟩]
              have e : Lib.decDigits v = L := hd.2 hz
              rw [e] at c34
              rcases le_or (v : Int) most with ⟨p4, q4⟩ | ⟨p4, q4⟩ <;> simp [F14, hne, q, hg, q2, q3, c33, c34, h2, outN, p4, q4]
          · obtain ⟨n, hn⟩ := atoiG_bad L h1
            rw [hn] at c33
            have e : (if 1 ≤ L.length ∧ L.length ≤ 19 ∧ ¬(L[0]? = some 48 ∧ 1 < L.length) then numGo 0 L else none) = none := by split <;> first | exact h2 | rfl
            rw [e]
            simp [F14, hne, q, hg, q2, q3, c33, outN]
        · have hdg : ¬ dig b = true := fun h => by have := (dig_iff b).1 h; have := of_eq_true q3; omega
          have e : numGo 0 L = none := by rw [← hL, numGo, if_neg (fun h => hdg h.1)]
          rw [e]
          simp [F14, hne, q, hg, q2, q3, outN]
      · have hdg : ¬ dig b = true := fun h => by have := (dig_iff b).1 h; have := of_eq_true q2; omega
        have e : numGo 0 L = none := by rw [← hL, numGo, if_neg (fun h => hdg h.1)]
        rw [e]
        simp [F14, hne, q, hg, q2, outN]
    · have q' := of_eq_true q
      rw [if_neg (fun h => by omega)]
      simp [F14, hne, q, outN]
end Go.Ev
