/- Decimal, Span and its reference. Condition: none. -/
import Derived.Test.YtkpfaedepmgflaaGreatDoorRtD
namespace Go.Ev
set_option linter.all false
theorem dec_len : ∀ (k v : Nat), v < 10 ^ k → 0 < k → (Lib.decDigits v).length ≤ k
  | 0, v, h, hk => by omega
  | k + 1, v, h, _ => by
    rw [Lib.decDigits]
    split
    · simp
    · rename_i hv
      have hk : 0 < k := by
        rcases Nat.eq_zero_or_pos k with h0 | h0
        · subst h0; simp at h; omega
        · exact h0
      have := dec_len k (v / 10) (by rw [Nat.pow_succ] at h; omega) hk
      simp only [List.length_append, List.length_cons, List.length_nil]
      omega
theorem dec_loop (m : Mem) (lv : Nat) : ∀ (k n i : Nat) (out : List UInt8), n < 10 ^ k → n ≤ 9223372036854775807 → i + k ≤ 20 → out.length ≤ i → ∀ s : St, s.mask [0, 3, 4] [] = some ⟨31, lv, tmOf [(0, .int .i64 (n : Int)), (3, .str (bs out)), (4, .int .i64 (i : Int))], bxOf [], m⟩ →
    (sem T).loop [0, 3, 4] [] L38_0 s = some (.ex 0, ⟨31, lv, tmOf [(3, .str (bs (if n = 0 then out else Lib.decDigits n ++ out)))], bxOf [], m⟩)
  | 0, n, i, out, hn, hb, hi, ho, s, hs => by
    obtain rfl : n = 0 := by simpa using hn
    refine loop_end (fl := .ex 0) hs ?_ (by intro e; cases e)
    rcases le_or 20 (i : Int) with ⟨p, q⟩ | ⟨p, q⟩ <;> simp [L38_0, q]
  | k + 1, n, i, out, hn, hb, hi, ho, s, hs => by
    by_cases h0 : n = 0
    · subst h0
      refine loop_end (fl := .ex 0) hs ?_ (by intro e; cases e)
      rcases le_or 20 (i : Int) with ⟨p, q⟩ | ⟨p, q⟩ <;> simp [L38_0, q]
    · have q1 : ((i : Int) < 20) = True := eq_true (by omega)
      have q2 : ((0 : Int) < (n : Int)) = True := eq_true (by omega)
      have q3 : (0 < n) = True := eq_true (by omega)
      have hw := IntWalk.i64_in ((i : Int) + 1) (by omega)
      obtain ⟨r, hr⟩ : ∃ r, n % 10 = r := ⟨_, rfl⟩
      obtain ⟨e, he⟩ : ∃ e, n / 10 = e := ⟨_, rfl⟩
      have r1 : ((n : Int).tmod 10) = (r : Int) := by rw [Int.tmod_eq_emod_of_nonneg (by omega)]; omega
      have r2 : ((n : Int) % 10) = (r : Int) := by omega
      have e1 : ((n : Int).tdiv 10) = (e : Int) := by rw [Int.tdiv_eq_ediv_of_nonneg (by omega)]; omega
      have e2 : ((n : Int) / 10) = (e : Int) := by omega
      have w1 := IntWalk.i64_in (48 + (r : Int)) (by omega)
      have w2 := IntWalk.u8_in (48 + (r : Int)) (by omega)
      have w3 := IntWalk.i64_in (e : Int) (by omega)
      have t1 : (48 + (r : Int)).toNat = 48 + r := by omega
      have z1 : 1 + out.length ≤ 4611686018427387904 := by omega
      have ih := dec_loop m lv k e (i + 1) (UInt8.ofNat (48 + r) :: out) (by rw [Nat.pow_succ] at hn; omega) (by omega) (by omega) (by simp; omega)
      have eq : (if e = 0 then UInt8.ofNat (48 + r) :: out else Lib.decDigits e ++ UInt8.ofNat (48 + r) :: out) = (if n = 0 then out else Lib.decDigits n ++ out) := by
        rw [if_neg h0]
        by_cases hn10 : n < 10
        · rw [if_pos (by omega), Lib.decDigits_one hn10, show r = n by omega]
          rfl
        · rw [if_neg (by omega)]
          conv => rhs; rw [Lib.decDigits, dif_neg hn10, he, hr]
          simp
      rw [eq] at ih
      refine loop_round hs ?_ ih
      simp [L38_0, q1, q2, q3, hw, r1, r2, e1, e2, w1, w2, w3, t1, z1]
theorem call38 (n : Nat) (hn : n ≤ 9223372036854775807) (m : Mem) (lv : Nat) : (sem T).call 38 [.int .i64 (n : Int)] m lv = some ([.str (bs (Lib.decDigits n))], m) := by
  refine call_go rfl rfl rfl ?_
  rcases le_or 10 (n : Int) with ⟨p, q⟩ | ⟨p, q⟩
  · have p' := of_eq_true p
    have h := dec_loop m lv 20 n 0 [] (by omega) hn (by omega) (by simp)
    rw [if_neg (by omega), List.append_nil] at h
    simp only [Int.natCast_zero] at h
    simp [F38, q, h]
  · have q' := of_eq_true q
    have w1 := IntWalk.i64_in (48 + (n : Int)) (by omega)
    have w2 := IntWalk.u8_in (48 + (n : Int)) (by omega)
    have t1 : (48 + (n : Int)).toNat = 48 + n := by omega
    rw [Lib.decDigits_one (by omega)]
    simp [F38, q, w1, w2, t1]
def spanGo : Nat → List UInt8 → List UInt8 → List UInt8
  | _, out, [] => out
  | n, out, b :: r => if 0 < n / sec b then spanGo (n % sec b) (out ++ (Lib.decDigits (n / sec b) ++ [b])) r else spanGo n out r
def spanOf (n : Int) : List UInt8 := if n < 0 ∨ 2147483647 < n then [] else if n = 0 then [48, 115] else spanGo n.toNat [] wdhms
theorem spanGo_ne : ∀ (us : List UInt8) (n : Nat) (out : List UInt8), (out ≠ [] ∨ (0 < n ∧ ∃ b ∈ us, sec b = 1)) → spanGo n out us ≠ []
  | [], n, out, h => by
    rcases h with h | ⟨_, b, hb, _⟩
    · exact h
    · cases hb
  | b :: r, n, out, h => by
    unfold spanGo
    split
    · exact spanGo_ne r _ _ (.inl (by simp))
    · rename_i hc
      refine spanGo_ne r n out ?_
      rcases h with h | ⟨h1, x, hx, h2⟩
      · exact .inl h
      · rcases List.mem_cons.1 hx with rfl | hx
        · rw [h2, Nat.div_one] at hc
          exact absurd h1 hc
        · exact .inr ⟨h1, x, hx, h2⟩
theorem enc_lo (b : UInt8) (h : b.toNat < 128) : Utf8.encode (b.toNat : Int) = bs [b] := by
  unfold Utf8.encode
  have hv : Utf8.valid (b.toNat : Int) = true := by
    simp only [Utf8.valid, Bool.or_eq_true, Bool.and_eq_true, decide_eq_true_eq]
    omega
  simp only [hv, if_true, Int.toNat_natCast]
  rw [if_pos h, UInt8.ofNat_toNat]
  rfl
theorem wd_lo : ∀ (i : Nat) (h : i < wdhms.length), wdhms[i].toNat < 128 := fun i h => by
  have : ∀ j : Fin 5, (wdhms[j.val]'(j.isLt)).toNat < 128 := by decide
  exact this ⟨i, h⟩
theorem wd_pl : ∀ (i : Nat) (h : i < wdhms.length), pl (wdhms[i]) ≠ 0 := fun i h => by
  have : ∀ j : Fin 5, pl (wdhms[j.val]'(j.isLt)) ≠ 0 := by decide
  exact this ⟨i, h⟩
theorem span_loop (m : Mem) (lv : Nat) : ∀ (d i n : Nat) (out : List UInt8), i + d = wdhms.length → n ≤ 2147483647 → out.length ≤ 30 * i → ∀ s : St, s.mask [0, 3, 13] [13] = some ⟨37, lv, tmOf [(0, .int .i64 (n : Int)), (3, .str (bs out)), (13, .ptr lv 13 0)], bxOf [(13, some (.iter (bs wdhms) i))], m⟩ →
    (sem T).loop [0, 3, 13] [13] L18_0 s = some (.ex 0, ⟨37, lv, tmOf [(3, .str (bs (spanGo n out (wdhms.drop i))))], bxOf [], m⟩)
  | 0, i, n, out, hd, hn, ho, s, hs => by
    obtain rfl : i = wdhms.length := by omega
    refine loop_to (loop_end (fl := .ex 0) hs ?_ (by intro e; cases e)) (by rw [List.drop_length])
    simp [L18_0, spanGo]
  | d + 1, i, n, out, hd, hn, ho, s, hs => by
    have hi : i < wdhms.length := by omega
    have hi5 : i < 5 := hi
    have hlo := wd_lo i hi
    have hdec := dec_lo wdhms i hi hlo
    have hdr : wdhms.drop i = wdhms[i]'hi :: wdhms.drop (i + 1) := List.drop_eq_getElem_cons hi
    obtain ⟨b, hb⟩ : ∃ b, wdhms[i]'hi = b := ⟨_, rfl⟩
    rw [hb] at hdec hdr hlo
    rw [hdr, spanGo]
    have c36 := call36 b
    have hsec := sec_le b
    have henc := enc_lo b hlo
    obtain ⟨k, hk⟩ : ∃ k, n / sec b = k := ⟨_, rfl⟩
    obtain ⟨r, hr⟩ : ∃ r, n % sec b = r := ⟨_, rfl⟩
    have hkn : k ≤ n := hk ▸ Nat.div_le_self _ _
    have hrn : r ≤ n := hr ▸ Nat.mod_le _ _
    have k1 : ((n : Int).tdiv (sec b : Int)) = (k : Int) := by rw [Int.tdiv_eq_ediv_of_nonneg (by omega), ← hk]; simp
    have k2 : ((n : Int) / (sec b : Int)) = (k : Int) := by rw [← hk]; simp
    have r1 : ((n : Int).tmod (sec b : Int)) = (r : Int) := by rw [Int.tmod_eq_emod_of_nonneg (by omega), ← hr]; simp
    have r2 : ((n : Int) % (sec b : Int)) = (r : Int) := by rw [← hr]; simp
    have s1 : ((sec b : Int) = 0) = False := eq_false (by omega)
    have s2 : (sec b = 0) = False := eq_false (by omega)
    have w1 := IntWalk.i64_in (k : Int) (by omega)
    have c34 := call34 k (by omega)
    have hdl := dec_len 10 k (by omega) (by omega)
    have z1 : (Lib.decDigits k).length + 1 ≤ 4611686018427387904 := by omega
    have z2 : out.length + ((Lib.decDigits k).length + 1) ≤ 4611686018427387904 := by omega
    rw [hk, hr]
    by_cases h0 : 0 < k
    · have p1 : ((0 : Int) < (k : Int)) = True := eq_true (by omega)
      rw [if_pos h0]
      refine loop_round hs ?_ (span_loop m lv d (i + 1) r _ (by omega) (by omega) (by simp only [List.length_append, List.length_cons, List.length_nil]; omega))
      simp [L18_0, hi, hdec, c36, k1, k2, s1, s2, w1, p1, h0, c34, henc, z1, z2, r1, r2]
    · have p1 : ((0 : Int) < (k : Int)) = False := eq_false (by omega)
      rw [if_neg h0]
      refine loop_round hs ?_ (span_loop m lv d (i + 1) n out (by omega) hn (by omega))
      simp [L18_0, hi, hdec, c36, k1, k2, s1, s2, w1, p1, h0]
theorem call18 (n : Int) (m : Mem) (lv : Nat) : (sem T).call 18 [.int .i64 n] m lv = some ([.str (bs (spanOf n))], m) := by
  refine call_go rfl rfl rfl ?_
  unfold spanOf
  have ew : bs [119, 100, 104, 109, 115] = bs wdhms := rfl
  rcases le_or 0 n with ⟨p, q⟩ | ⟨p, q⟩
  · have p' := of_eq_true p
    rcases le_or n 2147483647 with ⟨p2, q2⟩ | ⟨p2, q2⟩
    · have p2' := of_eq_true p2
      obtain ⟨k, rfl⟩ : ∃ k : Nat, n = (k : Int) := ⟨n.toNat, by omega⟩
      have hl := span_loop m lv 5 0 k [] rfl (by omega) (by simp)
      rw [List.drop_zero] at hl
      rw [if_neg (by omega), Int.toNat_natCast]
      by_cases h0 : k = 0
      · subst h0
        have e0 : spanGo 0 [] wdhms = [] := by decide
        rw [e0] at hl
        simp only [Int.natCast_zero] at hl
        rw [if_pos (by rfl)]
        simp [F18, ew, hl]
      · have hne : (spanGo k [] wdhms == []) = false := by
          rw [beq_eq_false_iff_ne]
          exact spanGo_ne wdhms k [] (.inr ⟨by omega, 115, by decide, by decide⟩)
        rw [if_neg (by omega)]
        generalize spanGo k [] wdhms = R at *
        generalize wdhms = W at *
        simp [F18, ew, hl, q, q2, hne]
    · have q2' := of_eq_true q2
      rw [if_pos (.inr q2')]
      simp [F18, q, q2]
  · have q' := of_eq_true q
    rw [if_pos (.inl q')]
    simp [F18, q]
theorem sref_loop (m : Mem) (lv : Nat) : ∀ (d i n : Nat) (out : List UInt8), i + d = wdhms.length → n ≤ 2147483647 → out.length ≤ 30 * i → ∀ s : St, s.mask [0, 3, 4, 5] [] = some ⟨48, lv, tmOf [(0, .int .i64 (n : Int)), (3, .str (bs wdhms)), (4, .str (bs out)), (5, .int .i64 (i : Int))], bxOf [], m⟩ →
    (sem T).loop [0, 3, 4, 5] [] L19_0 s = some (.ex 0, ⟨48, lv, tmOf [(4, .str (bs (spanGo n out (wdhms.drop i))))], bxOf [], m⟩)
  | 0, i, n, out, hd, hn, ho, s, hs => by
    obtain rfl : i = wdhms.length := by omega
    refine loop_to (loop_end (fl := .ex 0) hs ?_ (by intro e; cases e)) (by rw [List.drop_length])
    simp [L19_0, spanGo]
  | d + 1, i, n, out, hd, hn, ho, s, hs => by
    have hi : i < wdhms.length := by omega
    have hi5 : i < 5 := hi
    have hdr : wdhms.drop i = wdhms[i]'hi :: wdhms.drop (i + 1) := List.drop_eq_getElem_cons hi
    have hpl := wd_pl i hi
    obtain ⟨b, hb⟩ : ∃ b, wdhms[i]'hi = b := ⟨_, rfl⟩
    have hx : (wdhms.take (i + 1)).drop i = [b] := by rw [List.drop_take, hdr, hb]; simp
    rw [hb] at hdr hpl
    rw [hdr, spanGo]
    have c37 := call37 b
    unfold refU at c37
    rw [if_neg hpl] at c37
    have hsec := sec_le b
    obtain ⟨k, hk⟩ : ∃ k, n / sec b = k := ⟨_, rfl⟩
    obtain ⟨r, hr⟩ : ∃ r, n % sec b = r := ⟨_, rfl⟩
    have hkn : k ≤ n := hk ▸ Nat.div_le_self _ _
    have hrn : r ≤ n := hr ▸ Nat.mod_le _ _
    have k1 : ((n : Int).tdiv (sec b : Int)) = (k : Int) := by rw [Int.tdiv_eq_ediv_of_nonneg (by omega), ← hk]; simp
    have k2 : ((n : Int) / (sec b : Int)) = (k : Int) := by rw [← hk]; simp
    have r1 : ((n : Int).tmod (sec b : Int)) = (r : Int) := by rw [Int.tmod_eq_emod_of_nonneg (by omega), ← hr]; simp
    have r2 : ((n : Int) % (sec b : Int)) = (r : Int) := by rw [← hr]; simp
    have s1 : ((sec b : Int) = 0) = False := eq_false (by omega)
    have s2 : (sec b = 0) = False := eq_false (by omega)
    have w1 := IntWalk.i64_in (k : Int) (by omega)
    have c38 := call38 k (by omega)
    have hdl := dec_len 10 k (by omega) (by omega)
    have hw := IntWalk.i64_in ((i : Int) + 1) (by omega)
    have z1 : out.length + (Lib.decDigits k).length ≤ 4611686018427387904 := by omega
    have z2 : out.length + (Lib.decDigits k).length + 1 ≤ 4611686018427387904 := by omega
    have z3 : out.length + ((Lib.decDigits k).length + 1) ≤ 4611686018427387904 := by omega
    have y1 : ((i : Int) ≤ (i : Int) + 1) = True := eq_true (by omega)
    have y2 : ((wdhms.length : Int) < (i : Int) + 1) = False := eq_false (by omega)
    have hkk : (sec b ≤ n) ↔ 0 < k := by rw [← hk]; exact ⟨fun h => Nat.div_pos h (by omega), fun h => Classical.byContradiction fun hc => by rw [Nat.div_eq_of_lt (by omega)] at h; omega⟩
    rw [hk, hr]
    by_cases h0 : 0 < k
    · have p1 : ((sec b : Int) ≤ (n : Int)) = True := eq_true (by have := hkk.2 h0; omega)
      have p2 : (sec b ≤ n) = True := eq_true (hkk.2 h0)
      rw [if_pos h0]
      refine loop_round hs ?_ (sref_loop m lv d (i + 1) r _ (by omega) (by omega) (by simp only [List.length_append, List.length_cons, List.length_nil]; omega))
      simp [L19_0, hi, hb, c37, k1, k2, s1, s2, w1, p1, p2, c38, hw, y1, y2, hx, z1, z2, z3, r1, r2]
    · have p1 : ((sec b : Int) ≤ (n : Int)) = False := eq_false (fun h => h0 (hkk.1 (by omega)))
      have p2 : (sec b ≤ n) = False := eq_false (fun h => h0 (hkk.1 h))
      rw [if_neg h0]
      refine loop_round hs ?_ (sref_loop m lv d (i + 1) n out (by omega) hn (by omega))
      simp [L19_0, hi, hb, c37, p1, p2, hw]
theorem call19 (n : Int) (m : Mem) (lv : Nat) : (sem T).call 19 [.int .i64 n] m lv = some ([.str (bs (spanOf n))], m) := by
  refine call_go rfl rfl rfl ?_
  unfold spanOf
  have ew : bs [119, 100, 104, 109, 115] = bs wdhms := rfl
  rcases le_or 0 n with ⟨p, q⟩ | ⟨p, q⟩
  · have p' := of_eq_true p
    rcases le_or n 2147483647 with ⟨p2, q2⟩ | ⟨p2, q2⟩
    · have p2' := of_eq_true p2
      obtain ⟨k, rfl⟩ : ∃ k : Nat, n = (k : Int) := ⟨n.toNat, by omega⟩
      have hl := sref_loop m lv 5 0 k [] rfl (by omega) (by simp)
      rw [List.drop_zero] at hl
      rw [if_neg (by omega), Int.toNat_natCast]
      by_cases h0 : k = 0
      · subst h0
        rw [if_pos (by rfl)]
        simp [F19]
      · have h1 : ((k : Int) = 0) = False := eq_false (by omega)
        rw [if_neg (by omega)]
        simp only [Int.natCast_zero] at hl
        generalize spanGo k [] wdhms = R at *
        generalize wdhms = W at *
        simp [F19, ew, hl, q, q2, h0, h1]
    · have q2' := of_eq_true q2
      rw [if_pos (.inr q2')]
      simp [F19, q, q2]
  · have q' := of_eq_true q
    rw [if_pos (.inl q')]
    simp [F19, q]
end Go.Ev
