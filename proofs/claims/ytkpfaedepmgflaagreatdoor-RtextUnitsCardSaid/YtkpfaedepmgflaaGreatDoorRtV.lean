/- Spans and Units. Condition: none. -/
import Derived.Test.YtkpfaedepmgflaaGreatDoorRtP
import Derived.Test.YtkpfaedepmgflaaGreatDoorRtE
namespace Go.Ev
set_option linter.all false
theorem spanGo_len : ∀ (us : List UInt8) (n : Nat) (out : List UInt8), n ≤ 2147483647 → (spanGo n out us).length ≤ out.length + 20 * us.length
  | [], n, out, h => by simp [spanGo]
  | b :: r, n, out, h => by
    have h1 := Nat.div_le_self n (sec b)
    have h2 := Nat.mod_le n (sec b)
    rw [spanGo]
    split
    · have := spanGo_len r (n % sec b) (out ++ (Lib.decDigits (n / sec b) ++ [b])) (by omega)
      have := dec_len 10 (n / sec b) (by omega) (by omega)
      simp only [List.length_append, List.length_cons, List.length_nil] at *
      omega
    · have := spanGo_len r n out h
      simp only [List.length_cons]
      omega
theorem spanOf_len (n : Nat) (h : n ≤ 2147483647) : (spanOf (n : Int)).length ≤ 200 := by
  unfold spanOf
  rw [if_neg (by omega)]
  split
  · simp
  · have := spanGo_len wdhms n [] h
    rw [Int.toNat_natCast]
    have e : wdhms.length = 5 := rfl
    simp only [List.length_nil] at this
    omega
theorem spans_spec (n : Int) : ∃ m, (sem T).call 8 [.int .i64 n] noMem 0 = some ([.bool true], m) := by
  obtain ⟨m0, haw⟩ := awake_spec
  have h18 := call18 n
  refine ⟨noMem, call_go rfl rfl rfl ?_⟩
  rcases le_or 0 n with ⟨p, q⟩ | ⟨p, q⟩
  · have p' := of_eq_true p
    rcases le_or n 2147483647 with ⟨p2, q2⟩ | ⟨p2, q2⟩
    · have p2' := of_eq_true p2
      obtain ⟨k, rfl⟩ : ∃ k : Nat, n = (k : Int) := ⟨n.toNat, by omega⟩
      have hk : k ≤ 2147483647 := by omega
      have h16 := call16 (spanOf (k : Int)) (by have := spanOf_len k hk; omega)
      rw [durOf_span k hk] at h16
      by_cases h0 : k = 0
      · subst h0
        have e : spanOf ((0 : Nat) : Int) = [48, 115] := by decide
        rw [e] at h18 h16
        simp only [Int.natCast_zero] at h18
        simp [F8, h18, h16, outN, haw]
      · have h1 : ((k : Int) = 0) = False := eq_false (by omega)
        have hne : (spanOf (k : Int) == []) = false := by
          rw [beq_eq_false_iff_ne]
          unfold spanOf
          rw [if_neg (by omega), if_neg (by omega)]
          exact spanGo_ne wdhms _ [] (.inr ⟨by omega, 115, by decide, by decide⟩)
        generalize spanOf (k : Int) = R at *
        simp [F8, h18, h16, outN, haw, q, q2, h0, h1, hne]
    · have q2' := of_eq_true q2
      have e : spanOf n = [] := by unfold spanOf; rw [if_pos (.inr q2')]
      rw [e] at h18
      simp [F8, h18, haw, q, q2]
  · have q' := of_eq_true q
    have e : spanOf n = [] := by unfold spanOf; rw [if_pos (.inl q')]
    rw [e] at h18
    simp [F8, h18, haw, q]
theorem dl_loop (m : Mem) (lv : Nat) : ∀ (k n i : Nat) (out : List UInt8), n < 10 ^ (k + 1) → n ≤ 9223372036854775807 → i + (k + 1) ≤ 5 → out.length ≤ i → ∀ s : St, s.mask [0, 3, 4] [] = some ⟨23, lv, tmOf [(0, .int .i64 (n : Int)), (3, .str (bs out)), (4, .int .i64 (i : Int))], bxOf [], m⟩ →
    (sem T).loop [0, 3, 4] [] L31_0 s = some (.ret, ⟨23, lv, tmOf [(2, .str (bs (Lib.decDigits n ++ out)))], bxOf [], m⟩) := by
  intro k
  induction k with
  | zero =>
    intro n i out hn hb hi ho s hs
    have q1 : ((i : Int) < 5) = True := eq_true (by omega)
    have q3 : (i < 5) = True := eq_true (by omega)
    have r1 : ((n : Int).tmod 10) = (n : Int) := by rw [Int.tmod_eq_emod_of_nonneg (by omega)]; omega
    have r2 : ((n : Int) % 10) = (n : Int) := by omega
    have e1 : ((n : Int).tdiv 10) = 0 := by rw [Int.tdiv_eq_ediv_of_nonneg (by omega)]; omega
    have e2 : ((n : Int) / 10) = 0 := by omega
    have w1 := IntWalk.i64_in (48 + (n : Int)) (by omega)
    have w2 := IntWalk.u8_in (48 + (n : Int)) (by omega)
    have t1 : (48 + (n : Int)).toNat = 48 + n := by omega
    have z1 : 1 + out.length ≤ 4611686018427387904 := by omega
    rw [Lib.decDigits_one (by omega)]
    refine loop_end (fl := .ret) hs ?_ (by intro e; cases e)
    simp [L31_0, q1, q3, r1, r2, e1, e2, w1, w2, t1, z1]
  | succ k ih =>
    intro n i out hn hb hi ho s hs
    have q1 : ((i : Int) < 5) = True := eq_true (by omega)
    have q3 : (i < 5) = True := eq_true (by omega)
    have hw := IntWalk.i64_in ((i : Int) + 1) (by omega)
    obtain ⟨r, hr⟩ : ∃ r, n % 10 = r := ⟨_, rfl⟩
    obtain ⟨e, he⟩ : ∃ e, n / 10 = e := ⟨_, rfl⟩
    have r1 : ((n : Int).tmod 10) = (r : Int) := by rw [Int.tmod_eq_emod_of_nonneg (by omega)]; omega
    have r2 : ((n : Int) % 10) = (r : Int) := by omega
    have e1 : ((n : Int).tdiv 10) = (e : Int) := by rw [Int.tdiv_eq_ediv_of_nonneg (by omega)]; omega
    have e2 : ((n : Int) / 10) = (e : Int) := by omega
    have w1 := IntWalk.i64_in (48 + (r : Int)) (by omega)
    have w2 := IntWalk.u8_in (48 + (r : Int)) (by omega)
    have w3 := IntWalk.i64_in (e : Int) (by omega)
    have t1 : (48 + (r : Int)).toNat = 48 + r := by omega
    have z1 : 1 + out.length ≤ 4611686018427387904 := by omega
    by_cases h0 : e = 0
    · have h1 : ((e : Int) = 0) = True := eq_true (by omega)
      rw [Lib.decDigits_one (show n < 10 by omega), show n = r by omega]
      refine loop_end (fl := .ret) hs ?_ (by intro e; cases e)
      subst h0
      simp at e1 e2 w3
      simp [L31_0, q1, q3, r1, r2, e1, e2, w1, w2, w3, t1, z1]
    · have h1 : ((e : Int) = 0) = False := eq_false (by omega)
      have hx := ih e (i + 1) (UInt8.ofNat (48 + r) :: out) (by rw [Nat.pow_succ] at hn; omega) (by omega) (by omega) (by simp; omega)
      have eq : Lib.decDigits e ++ UInt8.ofNat (48 + r) :: out = Lib.decDigits n ++ out := by
        conv => rhs; rw [Lib.decDigits, dif_neg (show ¬ n < 10 by omega), he, hr]
        simp
      rw [eq] at hx
      refine loop_round hs ?_ hx
      simp [L31_0, q1, q3, hw, r1, r2, e1, e2, w1, w2, w3, t1, z1, h0, h1]
theorem call31 (n : Nat) (hn : n < 100000) (m : Mem) (lv : Nat) : (sem T).call 31 [.int .i64 (n : Int)] m lv = some ([.str (bs (Lib.decDigits n))], m) := by
  refine call_go rfl rfl rfl ?_
  have h := dl_loop m lv 4 n 0 [] (by omega) (by omega) (by omega) (by simp)
  rw [List.append_nil] at h
  simp only [Int.natCast_zero] at h
  simp [F31, h]
theorem wd_sec : ∀ (i : Nat) (h : i < wdhms.length), cellAt [.int .i64 604800, .int .i64 86400, .int .i64 3600, .int .i64 60, .int .i64 1] i = some (.int .i64 (sec (wdhms[i]'h) : Int)) := fun i h => by
  have h5 : i < 5 := h
  match i, h5 with
  | 0, _ => rfl
  | 1, _ => rfl
  | 2, _ => rfl
  | 3, _ => rfl
  | 4, _ => rfl
theorem units_spec (A B I K : Nat) (hA : A ≤ 4294967295) (hB : B ≤ 4294967295) (hI : I ≤ 255) (hK : K ≤ 255) : ∃ m, (sem T).call 10 [.int .u32 (A : Int), .int .u32 (B : Int), .int .u8 (I : Int), .int .u8 (K : Int)] noMem 0 = some ([.bool true], m) := by
  obtain ⟨m0, haw⟩ := awake_spec
  refine ⟨noMem, call_go rfl rfl rfl ?_⟩
  obtain ⟨n, hn⟩ : ∃ n, A % 100000 = n := ⟨_, rfl⟩
  obtain ⟨k, hk⟩ : ∃ k, B % 100000 = k := ⟨_, rfl⟩
  obtain ⟨u, hu⟩ : ∃ u, I % 5 = u := ⟨_, rfl⟩
  obtain ⟨v, hv⟩ : ∃ v, K % 5 = v := ⟨_, rfl⟩
  have n1 : ((A : Int).tmod 100000) = (n : Int) := by rw [Int.tmod_eq_emod_of_nonneg (by omega)]; omega
  have n2 : ((A : Int) % 100000) = (n : Int) := by omega
  have k1 : ((B : Int).tmod 100000) = (k : Int) := by rw [Int.tmod_eq_emod_of_nonneg (by omega)]; omega
  have k2 : ((B : Int) % 100000) = (k : Int) := by omega
  have u1 : ((I : Int).tmod 5) = (u : Int) := by rw [Int.tmod_eq_emod_of_nonneg (by omega)]; omega
  have u2 : ((I : Int) % 5) = (u : Int) := by omega
  have v1 : ((K : Int).tmod 5) = (v : Int) := by rw [Int.tmod_eq_emod_of_nonneg (by omega)]; omega
  have v2 : ((K : Int) % 5) = (v : Int) := by omega
  have wn := IntWalk.i64_in (n : Int) (by omega)
  have wk := IntWalk.i64_in (k : Int) (by omega)
  have wu := IntWalk.i64_in (u : Int) (by omega)
  have wv := IntWalk.i64_in (v : Int) (by omega)
  have wu1 := IntWalk.i64_in ((u : Int) + 1) (by omega)
  have wv1 := IntWalk.i64_in ((v : Int) + 1) (by omega)
  have hu5 : u < wdhms.length := by show u < 5; omega
  have hv5 : v < wdhms.length := by show v < 5; omega
  obtain ⟨pu, su, du⟩ := wd_at u hu5
  obtain ⟨pv, sv, dv⟩ := wd_at v hv5
  have cu := wd_sec u hu5
  have cv := wd_sec v hv5
  have xu : (wdhms.take (u + 1)).drop u = [wdhms[u]'hu5] := by rw [List.drop_take, show u + 1 - u = 1 by omega, List.drop_eq_getElem_cons hu5]; rfl
  have xv : (wdhms.take (v + 1)).drop v = [wdhms[v]'hv5] := by rw [List.drop_take, show v + 1 - v = 1 by omega, List.drop_eq_getElem_cons hv5]; rfl
  generalize wdhms[u]'hu5 = a at *
  generalize wdhms[v]'hv5 = b at *
  have sa := sec_le a
  have sb := sec_le b
  have dln := dec_len 5 n (by omega) (by omega)
  have dlk := dec_len 5 k (by omega) (by omega)
  have c1 := call31 n (by omega)
  have c2 := call31 k (by omega)
  have c16 := call16 (Lib.decDigits n ++ a :: (Lib.decDigits k ++ [b])) (by simp only [List.length_append, List.length_cons, List.length_nil]; omega)
  rw [durOf_two n k a b (by omega) (by omega) du dv (by omega) (by omega)] at c16
  obtain ⟨p, hp⟩ : ∃ p, n * sec a = p := ⟨_, rfl⟩
  obtain ⟨q, hq⟩ : ∃ q, k * sec b = q := ⟨_, rfl⟩
  have hpb : p ≤ 100000 * 604800 := hp ▸ Nat.mul_le_mul (by omega) sa.1
  have hqb : q ≤ 100000 * 604800 := hq ▸ Nat.mul_le_mul (by omega) sb.1
  have pi : (n : Int) * (sec a : Int) = (p : Int) := by rw [← hp]; simp
  have qi : (k : Int) * (sec b : Int) = (q : Int) := by rw [← hq]; simp
  have wp := IntWalk.i64_in (p : Int) (by omega)
  have wq := IntWalk.i64_in (q : Int) (by omega)
  have wpq := IntWalk.i64_in ((p : Int) + (q : Int)) (by omega)
  have hW5 : wdhms.length = 5 := rfl
  have y1 : ((u : Int) ≤ (u : Int) + 1) = True := eq_true (by omega)
  have y2 : ((wdhms.length : Int) < (u : Int) + 1) = False := eq_false (by omega)
  have y3 : ((v : Int) ≤ (v : Int) + 1) = True := eq_true (by omega)
  have y4 : ((wdhms.length : Int) < (v : Int) + 1) = False := eq_false (by omega)
  have y5 : ((u : Int) + 1 ≤ (wdhms.length : Int)) = True := eq_true (by omega)
  have y6 : ((v : Int) + 1 ≤ (wdhms.length : Int)) = True := eq_true (by omega)
  have z1 : (Lib.decDigits n).length + 1 ≤ 4611686018427387904 := by omega
  have z2 : (Lib.decDigits n).length + 1 + (Lib.decDigits k).length ≤ 4611686018427387904 := by omega
  have z3 : (Lib.decDigits n).length + 1 + (Lib.decDigits k).length + 1 ≤ 4611686018427387904 := by omega
  have z4 : (Lib.decDigits n).length + ((Lib.decDigits k).length + 1) ≤ 4611686018427387904 := by omega
  have z5 : (Lib.decDigits n).length + ((Lib.decDigits k).length + 1) + 1 ≤ 4611686018427387904 := by omega
  have g1 : ((u : Int) < 5) = True := eq_true (by omega)
  have g2 : ((v : Int) < 5) = True := eq_true (by omega)
  have g3 : u < 5 := by omega
  have g4 : v < 5 := by omega
  have ew : bs [119, 100, 104, 109, 115] = bs wdhms := rfl
  rw [hp, hq] at c16
  generalize wdhms = W at *
  by_cases hc : pl a < pl b ∧ p + q ≤ 2147483647
  · rw [if_pos hc] at c16
    have f1 : ((v : Int) ≤ (u : Int)) = False := eq_false (by omega)
    have f2 : ((2147483647 : Int) < (p : Int) + (q : Int)) = False := eq_false (by omega)
    have f3 : (v ≤ u) = False := eq_false (by omega)
    simp only [outN] at c16
    simp [F10, haw, n1, n2, k1, k2, u1, u2, v1, v2, wn, wk, wu, wv, wu1, wv1, cu, cv, xu, xv, c1, c2, c16, pi, qi, wp, wq, wpq, y1, y2, y3, y4, y5, y6, z1, z2, z3, z4, z5, g1, g2, g3, g4, ew, f1, f2, f3]
  · rw [if_neg hc] at c16
    simp only [outN] at c16
    by_cases hc2 : v ≤ u
    · have f1 : ((v : Int) ≤ (u : Int)) = True := eq_true (by omega)
      simp [F10, haw, n1, n2, k1, k2, u1, u2, v1, v2, wn, wk, wu, wv, wu1, wv1, cu, cv, xu, xv, c1, c2, c16, pi, qi, wp, wq, wpq, y1, y2, y3, y4, y5, y6, z1, z2, z3, z4, z5, g1, g2, g3, g4, ew, f1, hc2]
    · have f1 : ((v : Int) ≤ (u : Int)) = False := eq_false (by omega)
      have f2 : ((2147483647 : Int) < (p : Int) + (q : Int)) = True := eq_true (by omega)
      simp [F10, haw, n1, n2, k1, k2, u1, u2, v1, v2, wn, wk, wu, wv, wu1, wv1, cu, cv, xu, xv, c1, c2, c16, pi, qi, wp, wq, wpq, y1, y2, y3, y4, y5, y6, z1, z2, z3, z4, z5, g1, g2, g3, g4, ew, f1, f2, hc2]
end Go.Ev
