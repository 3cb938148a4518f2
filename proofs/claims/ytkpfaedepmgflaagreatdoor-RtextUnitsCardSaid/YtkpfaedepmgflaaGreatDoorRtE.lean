/- Duration and its reference: the loops. Condition: none. -/
import Derived.Test.YtkpfaedepmgflaaGreatDoorRtD
namespace Go.Ev
set_option linter.all false
theorem piece_snoc {α : Type} (l : List α) (i st : Nat) (hi : i < l.length) (hs : st ≤ i) : (l.take (i + 1)).drop st = (l.take i).drop st ++ [l[i]] := by
  rw [List.take_succ_eq_append_getElem hi, List.drop_append_of_le_length (by rw [List.length_take]; omega)]
theorem piece_none {α : Type} (l : List α) (i : Nat) : (l.take i).drop i = [] := by
  apply List.eq_nil_of_length_eq_zero
  rw [List.length_drop, List.length_take]
  omega
theorem dur_loop (l : List UInt8) (hl : l.length ≤ 140737488355328) (m : Mem) (lv : Nat) : ∀ (d i st sum last : Nat), i + d = l.length → st ≤ i → (last = 0 ↔ st = 0) → sum ≤ 2147483647 → last ≤ 5 → ∀ s : St,
    s.mask [0, 6, 7, 8, 22] [22] = some ⟨70, lv, tmOf [(0, .str (bs l)), (6, .int .i64 (sum : Int)), (7, .int .i64 (st : Int)), (8, .int .i64 (last : Int)), (22, .ptr lv 22 0)], bxOf [(22, some (.iter (bs l) i))], m⟩ →
    ∃ r, (sem T).loop [0, 6, 7, 8, 22] [22] L16_0 s = some r ∧ ((r = (.ret, ⟨70, lv, tmOf [(2, .int .i64 0), (3, .bool false)], bxOf [], m⟩) ∧ durGo ((l.take i).drop st) sum last (l.drop i) = none) ∨
      ∃ sum' st' : Nat, r = (.ex 0, ⟨70, lv, tmOf [(0, .str (bs l)), (6, .int .i64 (sum' : Int)), (7, .int .i64 (st' : Int))], bxOf [], m⟩) ∧ st' ≤ l.length ∧ durGo ((l.take i).drop st) sum last (l.drop i) = if st' = l.length ∧ st' ≠ 0 then some sum' else none)
  | 0, i, st, sum, last, hd, hst, h0, hs, hla, s, hm => by
    obtain rfl : i = l.length := by omega
    refine ⟨_, loop_end (fl := .ex 0) (s' := ⟨70, lv, tmOf [(0, .str (bs l)), (6, .int .i64 (sum : Int)), (7, .int .i64 (st : Int))], bxOf [], m⟩) hm ?_ (by intro e; cases e), .inr ⟨sum, st, rfl, hst, ?_⟩⟩
    · simp [L16_0]
    · rw [List.drop_length, durGo, List.take_length]
      have : l.drop st = [] ↔ st = l.length := by
        rw [List.drop_eq_nil_iff]
        omega
      by_cases h1 : st = l.length ∧ st ≠ 0
      · rw [if_pos h1, if_pos ⟨this.2 h1.1, fun e => h1.2 (h0.1 e)⟩]
      · rw [if_neg h1, if_neg (fun h => h1 ⟨this.1 h.1, fun e => h.2 (h0.2 e)⟩)]
  | d + 1, i, st, sum, last, hd, hst, h0, hs, hla, s, hm => by
    have hi : i < l.length := by omega
    have hw := IntWalk.i64_in ((i : Int) + 1) (by omega)
    have hdr : l.drop i = l[i] :: l.drop (i + 1) := List.drop_eq_getElem_cons hi
    have hsn := piece_snoc l i st hi hst
    have k1 : ((st : Int) ≤ (i : Int)) = True := eq_true (by omega)
    have k2 : ((i : Int) ≤ (l.length : Int)) = True := eq_true (by omega)
    have k3 : ((i : Int) < (st : Int)) = False := eq_false (by omega)
    have k4 : ((l.length : Int) < (i : Int)) = False := eq_false (by omega)
    have k5 : st ≤ i := hst
    have k6 : i ≤ l.length := by omega
    have k7 : (i < st) = False := eq_false (by omega)
    have k8 : (l.length < i) = False := eq_false (by omega)
    have c14 := call14 ((l.take i).drop st) 2147483647
    by_cases hb : l[i].toNat < 128
    · have hdec := dec_lo l i hi hb
      obtain ⟨b, hbe⟩ : ∃ b, l[i] = b := ⟨_, rfl⟩
      rw [hbe] at hdec hb hdr hsn
      rw [hdr]
      by_cases hdg : dig b = true
      · have hd' := (dig_iff b).1 hdg
        have q1 : ((48 : Int) ≤ (b.toNat : Int)) = True := eq_true (by omega)
        have q2 : ((b.toNat : Int) ≤ 57) = True := eq_true (by omega)
        rw [durGo, if_pos hdg, ← hsn]
        refine loop_roundP hm ?_ (dur_loop l hl m lv d (i + 1) st sum last (by omega) (by omega) h0 hs hla)
        simp [L16_0, hi, hdec, q1, q2]
      · have hq : (((48 : Int) ≤ (b.toNat : Int)) = False) ∨ (((48 : Int) ≤ (b.toNat : Int)) = True ∧ ((b.toNat : Int) ≤ 57) = False) := by
          rcases le_or 48 (b.toNat : Int) with ⟨p, q⟩ | ⟨p, q⟩
          · refine .inr ⟨p, eq_false fun h => hdg ((dig_iff b).2 ?_)⟩
            have := of_eq_true p
            omega
          · exact .inl p
        have c35 := call35_lo b hb
        have c36 := call36 b
        have hsec := sec_le b
        have hpl := pl_le b
        rw [durGo, if_neg hdg]
        cases hn : numTo ((l.take i).drop st) 2147483647 with
        | none =>
          rw [hn] at c14
          refine ⟨_, loop_end (fl := .ret) (s' := ⟨70, lv, tmOf [(2, .int .i64 0), (3, .bool false)], bxOf [], m⟩) hm ?_ (by intro e; cases e), .inl ⟨rfl, rfl⟩⟩
          rcases hq with q1 | ⟨q1, q2⟩
          · simp [L16_0, hi, hdec, q1, k1, k2, k3, k4, k5, k6, k7, k8, c14, c35, outN]
          · simp [L16_0, hi, hdec, q1, q2, k1, k2, k3, k4, k5, k6, k7, k8, c14, c35, outN]
        | some n =>
          have hn2 := (numTo_le hn).2
          rw [hn] at c14
          simp only
          by_cases hp : pl b ≤ last
          · have p1 : ((pl b : Int) ≤ (last : Int)) = True := eq_true (by omega)
            rw [if_pos hp]
            refine ⟨_, loop_end (fl := .ret) (s' := ⟨70, lv, tmOf [(2, .int .i64 0), (3, .bool false)], bxOf [], m⟩) hm ?_ (by intro e; cases e), .inl ⟨rfl, rfl⟩⟩
            rcases hq with q1 | ⟨q1, q2⟩
            · simp [L16_0, hi, hdec, q1, k1, k2, k3, k4, k5, k6, k7, k8, c14, c35, outN, p1, hp]
            · simp [L16_0, hi, hdec, q1, q2, k1, k2, k3, k4, k5, k6, k7, k8, c14, c35, outN, p1, hp]
          · have p1 : ((pl b : Int) ≤ (last : Int)) = False := eq_false (by omega)
            have p2 : (pl b ≤ last) = False := eq_false hp
            rw [if_neg hp]
            obtain ⟨e, he⟩ : ∃ e, n * sec b = e := ⟨_, rfl⟩
            have heb : e ≤ 2147483647 * 604800 := he ▸ Nat.mul_le_mul (by omega) hsec.1
            have hei : (n : Int) * (sec b : Int) = (e : Int) := by rw [← he]; simp
            have w1 := IntWalk.i64_in (e : Int) (by omega)
            have w2 := IntWalk.i64_in ((sum : Int) + (e : Int)) (by omega)
            rw [he]
            by_cases hx : 2147483647 < sum + e
            · have x1 : ((2147483647 : Int) < (sum : Int) + (e : Int)) = True := eq_true (by omega)
              rw [if_pos hx]
              refine ⟨_, loop_end (fl := .ret) (s' := ⟨70, lv, tmOf [(2, .int .i64 0), (3, .bool false)], bxOf [], m⟩) hm ?_ (by intro e; cases e), .inl ⟨rfl, rfl⟩⟩
              rcases hq with q1 | ⟨q1, q2⟩
              · simp [L16_0, hi, hdec, q1, k1, k2, k3, k4, k5, k6, k7, k8, c14, c35, c36, outN, p1, p2, hei, w1, w2, x1]
              · simp [L16_0, hi, hdec, q1, q2, k1, k2, k3, k4, k5, k6, k7, k8, c14, c35, c36, outN, p1, p2, hei, w1, w2, x1]
            · have x1 : ((2147483647 : Int) < (sum : Int) + (e : Int)) = False := eq_false (by omega)
              rw [if_neg hx]
              have hnx := dur_loop l hl m lv d (i + 1) (i + 1) (sum + e) (pl b) (by omega) (by omega) ⟨fun h => by omega, fun h => by omega⟩ (by omega) hpl
              rw [piece_none] at hnx
              refine loop_roundP hm ?_ hnx
              rcases hq with q1 | ⟨q1, q2⟩
              · simp [L16_0, hi, hdec, q1, k1, k2, k3, k4, k5, k6, k7, k8, c14, c35, c36, outN, p1, p2, hei, w1, w2, x1, hw]
              · simp [L16_0, hi, hdec, q1, q2, k1, k2, k3, k4, k5, k6, k7, k8, c14, c35, c36, outN, p1, p2, hei, w1, w2, x1, hw]
    · obtain ⟨c, n, hdec, hc, hv⟩ := dec_hi l i hi (by omega)
      obtain ⟨b, hbe⟩ : ∃ b, l[i] = b := ⟨_, rfl⟩
      rw [hbe] at hb hdr
      rw [hdr]
      have c35 := call35_hi c hv hc
      have q1 : ((48 : Int) ≤ (c : Int)) = True := eq_true (by omega)
      have q2 : ((c : Int) ≤ 57) = False := eq_false (by omega)
      have hla0 : ((0 : Int) ≤ (last : Int)) = True := eq_true (by omega)
      have hno : durGo ((l.take i).drop st) sum last (b :: l.drop (i + 1)) = none := by
        rw [durGo, if_neg (fun h => by have := (dig_iff b).1 h; omega), pl_hi b (by omega)]
        split
        · rfl
        · rw [if_pos (by omega)]
      rw [hno]
      refine ⟨_, loop_end (fl := .ret) (s' := ⟨70, lv, tmOf [(2, .int .i64 0), (3, .bool false)], bxOf [], m⟩) hm ?_ (by intro e; cases e), .inl ⟨rfl, rfl⟩⟩
      cases hn : numTo ((l.take i).drop st) 2147483647 with
      | none =>
        rw [hn] at c14
        simp [L16_0, hi, hdec, q1, q2, k1, k2, k3, k4, k5, k6, k7, k8, c14, c35, outN]
      | some n =>
        rw [hn] at c14
        simp [L16_0, hi, hdec, q1, q2, k1, k2, k3, k4, k5, k6, k7, k8, c14, c35, outN, hla0]
theorem call16 (l : List UInt8) (hl : l.length ≤ 140737488355328) (m : Mem) (lv : Nat) : (sem T).call 16 [.str (bs l)] m lv = some (outN (durOf l), m) := by
  refine call_go rfl rfl rfl ?_
  have c14 := call14 l 2147483647
  unfold durOf
  cases hn : numTo l 2147483647 with
  | some n => rw [hn] at c14; simp [F16, c14, outN]
  | none =>
    rw [hn] at c14
    have h0 : (St.mk 70 lv (tmOf [(0, .str (bs l)), (6, .int .i64 0), (7, .int .i64 0), (8, .int .i64 0), (22, .ptr lv 22 0)]) (bxOf [(22, some (.iter (bs l) 0))]) m).mask [0, 6, 7, 8, 22] [22] = some ⟨70, lv, tmOf [(0, .str (bs l)), (6, .int .i64 0), (7, .int .i64 0), (8, .int .i64 0), (22, .ptr lv 22 0)], bxOf [(22, some (.iter (bs l) 0))], m⟩ := by simp
    have hx := dur_loop l hl m lv l.length 0 0 0 0 (by omega) (by omega) (by omega) (by omega) (by omega) _ h0
    obtain ⟨r, hr, h2⟩ := loop_all h0 hx
    rw [List.drop_zero, List.take_zero, List.drop_zero] at h2
    rcases h2 with ⟨rfl, h2⟩ | ⟨sum, st, rfl, hle, h2⟩
    · rw [h2]
      simp [F16, c14, outN, hr]
    · by_cases hc : st = l.length ∧ st ≠ 0
      · rw [h2, if_pos hc]
        have e1 : ((st : Int) = (l.length : Int)) = True := eq_true (by omega)
        have e2 : ((st : Int) = 0) = False := eq_false (by omega)
        have e3 : (st = 0) = False := eq_false hc.2
        simp [F16, c14, outN, hr, e1, e2, e3, hc.1]
        exact fun e => hc.2 (by rw [hc.1, e]; rfl)
      · rw [h2, if_neg hc]
        by_cases h1 : st = l.length
        · have h2 : st = 0 := Classical.byContradiction fun h => hc ⟨h1, h⟩
          have h3 : l.length = 0 := by omega
          simp [F16, c14, outN, hr, h2, h3]
        · have e1 : ((st : Int) = (l.length : Int)) = False := eq_false (by omega)
          simp [F16, c14, outN, hr, e1]
/-- The reference's loop: its place is one less. -/
theorem ref_dur_loop (l : List UInt8) (hl : l.length ≤ 100) (m : Mem) (lv : Nat) : ∀ (d i st sum last : Nat), i + d = l.length → st ≤ i → (last = 0 ↔ st = 0) → sum ≤ 2147483647 → last ≤ 5 → ∀ s : St,
    s.mask [0, 6, 7, 8, 9] [] = some ⟨87, lv, tmOf [(0, .str (bs l)), (6, .int .i64 (sum : Int)), (7, .int .i64 ((last : Int) - 1)), (8, .int .i64 (st : Int)), (9, .int .i64 (i : Int))], bxOf [], m⟩ →
    ∃ r, (sem T).loop [0, 6, 7, 8, 9] [] L17_0 s = some r ∧ ((r = (.ret, ⟨87, lv, tmOf [(2, .int .i64 0), (3, .bool false)], bxOf [], m⟩) ∧ durGo ((l.take i).drop st) sum last (l.drop i) = none) ∨
      ∃ sum' st' last' : Nat, r = (.ex 0, ⟨87, lv, tmOf [(0, .str (bs l)), (6, .int .i64 (sum' : Int)), (7, .int .i64 ((last' : Int) - 1)), (8, .int .i64 (st' : Int))], bxOf [], m⟩) ∧ st' ≤ l.length ∧ durGo ((l.take i).drop st) sum last (l.drop i) = if st' = l.length ∧ last' ≠ 0 then some sum' else none)
  | 0, i, st, sum, last, hd, hst, h0, hs, hla, s, hm => by
    obtain rfl : i = l.length := by omega
    refine ⟨_, loop_end (fl := .ex 0) (s' := ⟨87, lv, tmOf [(0, .str (bs l)), (6, .int .i64 (sum : Int)), (7, .int .i64 ((last : Int) - 1)), (8, .int .i64 (st : Int))], bxOf [], m⟩) hm ?_ (by intro e; cases e), .inr ⟨sum, st, last, rfl, hst, ?_⟩⟩
    · simp [L17_0]
    · rw [List.drop_length, durGo, List.take_length]
      have : l.drop st = [] ↔ st = l.length := by
        rw [List.drop_eq_nil_iff]
        omega
      by_cases h1 : st = l.length ∧ last ≠ 0
      · rw [if_pos h1, if_pos ⟨this.2 h1.1, h1.2⟩]
      · rw [if_neg h1, if_neg (fun h => h1 ⟨this.1 h.1, h.2⟩)]
  | d + 1, i, st, sum, last, hd, hst, h0, hs, hla, s, hm => by
    have hi : i < l.length := by omega
    have hw := IntWalk.i64_in ((i : Int) + 1) (by omega)
    have hdr : l.drop i = l[i] :: l.drop (i + 1) := List.drop_eq_getElem_cons hi
    have hsn := piece_snoc l i st hi hst
    have k1 : ((st : Int) ≤ (i : Int)) = True := eq_true (by omega)
    have k2 : ((i : Int) ≤ (l.length : Int)) = True := eq_true (by omega)
    have k3 : ((i : Int) < (st : Int)) = False := eq_false (by omega)
    have k4 : ((l.length : Int) < (i : Int)) = False := eq_false (by omega)
    have k5 : st ≤ i := hst
    have k6 : i ≤ l.length := by omega
    have k7 : (i < st) = False := eq_false (by omega)
    have k8 : (l.length < i) = False := eq_false (by omega)
    have c15 := call15 ((l.take i).drop st) 2147483647
    obtain ⟨b, hbe⟩ : ∃ b, l[i] = b := ⟨_, rfl⟩
    rw [hbe] at hdr hsn
    rw [hdr]
    have c37 := call37 b
    by_cases hdg : dig b = true
    · have hd' := (dig_iff b).1 hdg
      have q1 : ((48 : Int) ≤ (b.toNat : Int)) = True := eq_true (by omega)
      have q2 : ((b.toNat : Int) ≤ 57) = True := eq_true (by omega)
      rw [durGo, if_pos hdg, ← hsn]
      refine loop_roundP hm ?_ (ref_dur_loop l hl m lv d (i + 1) st sum last (by omega) (by omega) h0 hs hla)
      simp [L17_0, hi, hbe, q1, q2, hw]
    · have hq : (((48 : Int) ≤ (b.toNat : Int)) = False) ∨ (((48 : Int) ≤ (b.toNat : Int)) = True ∧ ((b.toNat : Int) ≤ 57) = False) := by
        rcases le_or 48 (b.toNat : Int) with ⟨p, q⟩ | ⟨p, q⟩
        · refine .inr ⟨p, eq_false fun h => hdg ((dig_iff b).2 ?_)⟩
          have := of_eq_true p
          omega
        · exact .inl p
      have hsec := sec_le b
      have hpl := pl_le b
      rw [durGo, if_neg hdg]
      cases hn : numTo ((l.take i).drop st) 2147483647 with
      | none =>
        rw [hn] at c15
        refine ⟨_, loop_end (fl := .ret) (s' := ⟨87, lv, tmOf [(2, .int .i64 0), (3, .bool false)], bxOf [], m⟩) hm ?_ (by intro e; cases e), .inl ⟨rfl, rfl⟩⟩
        unfold refU at c37
        by_cases hp0 : pl b = 0
        · rw [if_pos hp0] at c37
          rcases hq with q1 | ⟨q1, q2⟩
          · simp [L17_0, hi, hbe, q1, k1, k2, k3, k4, k5, k6, k7, k8, c15, c37, outN]
          · simp [L17_0, hi, hbe, q1, q2, k1, k2, k3, k4, k5, k6, k7, k8, c15, c37, outN]
        · rw [if_neg hp0] at c37
          rcases hq with q1 | ⟨q1, q2⟩
          · simp [L17_0, hi, hbe, q1, k1, k2, k3, k4, k5, k6, k7, k8, c15, c37, outN]
          · simp [L17_0, hi, hbe, q1, q2, k1, k2, k3, k4, k5, k6, k7, k8, c15, c37, outN]
      | some n =>
        have hn2 := (numTo_le hn).2
        rw [hn] at c15
        simp only
        unfold refU at c37
        by_cases hp0 : pl b = 0
        · rw [if_pos hp0] at c37
          rw [if_pos (by omega)]
          have p1 : ((-1 : Int) ≤ (last : Int) - 1) = True := eq_true (by omega)
          refine ⟨_, loop_end (fl := .ret) (s' := ⟨87, lv, tmOf [(2, .int .i64 0), (3, .bool false)], bxOf [], m⟩) hm ?_ (by intro e; cases e), .inl ⟨rfl, rfl⟩⟩
          rcases hq with q1 | ⟨q1, q2⟩
          · simp [L17_0, hi, hbe, q1, k1, k2, k3, k4, k5, k6, k7, k8, c15, c37, outN, p1]
          · simp [L17_0, hi, hbe, q1, q2, k1, k2, k3, k4, k5, k6, k7, k8, c15, c37, outN, p1]
        · rw [if_neg hp0] at c37
          obtain ⟨x, hx0⟩ : ∃ x : Int, (pl b : Int) - 1 = x := ⟨_, rfl⟩
          obtain ⟨y, hy0⟩ : ∃ y : Int, (last : Int) - 1 = y := ⟨_, rfl⟩
          rw [hx0] at c37
          rw [hy0] at hm
          by_cases hp : pl b ≤ last
          · have p1 : (x ≤ y) = True := eq_true (by omega)
            rw [if_pos hp]
            refine ⟨_, loop_end (fl := .ret) (s' := ⟨87, lv, tmOf [(2, .int .i64 0), (3, .bool false)], bxOf [], m⟩) hm ?_ (by intro e; cases e), .inl ⟨rfl, rfl⟩⟩
            rcases hq with q1 | ⟨q1, q2⟩
            · simp [L17_0, hi, hbe, q1, k1, k2, k3, k4, k5, k6, k7, k8, c15, c37, outN, p1]
            · simp [L17_0, hi, hbe, q1, q2, k1, k2, k3, k4, k5, k6, k7, k8, c15, c37, outN, p1]
          · have p1 : (x ≤ y) = False := eq_false (by omega)
            rw [if_neg hp]
            obtain ⟨e, he⟩ : ∃ e, n * sec b = e := ⟨_, rfl⟩
            have heb : e ≤ 2147483647 * 604800 := he ▸ Nat.mul_le_mul (by omega) hsec.1
            have hei : (n : Int) * (sec b : Int) = (e : Int) := by rw [← he]; simp
            have w1 := IntWalk.i64_in (e : Int) (by omega)
            have w2 := IntWalk.i64_in ((sum : Int) + (e : Int)) (by omega)
            have w3 := IntWalk.i64_in (2147483647 - (sum : Int)) (by omega)
            rw [he]
            by_cases hx : 2147483647 < sum + e
            · have x1 : ((2147483647 : Int) - (sum : Int) < (e : Int)) = True := eq_true (by omega)
              rw [if_pos hx]
              refine ⟨_, loop_end (fl := .ret) (s' := ⟨87, lv, tmOf [(2, .int .i64 0), (3, .bool false)], bxOf [], m⟩) hm ?_ (by intro e; cases e), .inl ⟨rfl, rfl⟩⟩
              rcases hq with q1 | ⟨q1, q2⟩
              · simp [L17_0, hi, hbe, q1, k1, k2, k3, k4, k5, k6, k7, k8, c15, c37, outN, p1, hei, w1, w2, w3, x1]
              · simp [L17_0, hi, hbe, q1, q2, k1, k2, k3, k4, k5, k6, k7, k8, c15, c37, outN, p1, hei, w1, w2, w3, x1]
            · have x1 : ((2147483647 : Int) - (sum : Int) < (e : Int)) = False := eq_false (by omega)
              rw [if_neg hx]
              have hnx := ref_dur_loop l hl m lv d (i + 1) (i + 1) (sum + e) (pl b) (by omega) (by omega) ⟨fun h => by omega, fun h => by omega⟩ (by omega) hpl
              rw [piece_none, hx0] at hnx
              refine loop_roundP hm ?_ hnx
              rcases hq with q1 | ⟨q1, q2⟩
              · simp [L17_0, hi, hbe, q1, k1, k2, k3, k4, k5, k6, k7, k8, c15, c37, outN, p1, hei, w1, w2, w3, x1, hw]
              · simp [L17_0, hi, hbe, q1, q2, k1, k2, k3, k4, k5, k6, k7, k8, c15, c37, outN, p1, hei, w1, w2, w3, x1, hw]
theorem call17 (l : List UInt8) (m : Mem) (lv : Nat) : (sem T).call 17 [.str (bs l)] m lv = some (outN (durOf l), m) := by
  refine call_go rfl rfl rfl ?_
  have c15 := call15 l 2147483647
  unfold durOf
  cases hn : numTo l 2147483647 with
  | some n => rw [hn] at c15; simp [F17, c15, outN]
  | none =>
    rw [hn] at c15
    rcases le_or (l.length : Int) 100 with ⟨p, q⟩ | ⟨p, q⟩
    · have p' := of_eq_true p
      have h0 : (St.mk 87 lv (tmOf [(0, .str (bs l)), (6, .int .i64 0), (7, .int .i64 (-1)), (8, .int .i64 0), (9, .int .i64 0)]) (bxOf []) m).mask [0, 6, 7, 8, 9] [] = some ⟨87, lv, tmOf [(0, .str (bs l)), (6, .int .i64 0), (7, .int .i64 (-1)), (8, .int .i64 0), (9, .int .i64 0)], bxOf [], m⟩ := by simp
      have hx := ref_dur_loop l (by omega) m lv l.length 0 0 0 0 (by omega) (by omega) (by omega) (by omega) (by omega) _ h0
      obtain ⟨r, hr, h2⟩ := loop_all h0 hx
      rw [List.drop_zero, List.take_zero, List.drop_zero] at h2
      rcases h2 with ⟨rfl, h2⟩ | ⟨sum, st, last, rfl, hle, h2⟩
      · rw [h2]
        simp [F17, c15, outN, hr, q]
      · obtain ⟨y, hy⟩ : ∃ y : Int, (last : Int) - 1 = y := ⟨_, rfl⟩
        rw [hy] at hr
        by_cases hl0 : last = 0
        · have e1 : (y < 0) = True := eq_true (by omega)
          rw [h2, if_neg (fun h => h.2 hl0)]
          simp [F17, c15, outN, hr, q, e1]
        · have e1 : (y < 0) = False := eq_false (by omega)
          by_cases h1 : st = l.length
          · have e2 : ((st : Int) = (l.length : Int)) = True := eq_true (by omega)
            rw [h2, if_pos ⟨h1, hl0⟩]
            simp [F17, c15, outN, hr, q, e1, e2, h1]
          · have e2 : ((st : Int) = (l.length : Int)) = False := eq_false (by omega)
            rw [h2, if_neg (fun h => h1 h.1)]
            simp [F17, c15, outN, hr, q, e1, e2, h1]
    · have hno : durGo [] 0 0 l = none := by
        cases hd : durGo [] 0 0 l with
        | none => rfl
        | some v =>
          have := durGo_len l [] 0 0 v (by omega) hd
          have := of_eq_true q
          simp only [List.length_nil] at *
          omega
      rw [hno]
      simp [F17, c15, outN, q]
end Go.Ev
