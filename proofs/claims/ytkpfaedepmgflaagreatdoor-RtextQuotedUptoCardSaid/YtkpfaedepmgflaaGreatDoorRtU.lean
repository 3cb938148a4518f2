/- What is written between quotation marks is read back. Condition: none. -/
import Derived.Test.YtkpfaedepmgflaaGreatDoorRtQ
namespace Go.Ev
set_option linter.all false
theorem three_val (b : UInt8) : ∃ x y z : UInt8, three b = [x, y, z] ∧ ∃ p q r : Nat, x.toNat = 48 + p ∧ y.toNat = 48 + q ∧ z.toNat = 48 + r ∧ p ≤ 9 ∧ q ≤ 9 ∧ r ≤ 9 ∧ 10 * (10 * p + q) + r = b.toNat := by
  have h : (48 + b / 100 : UInt8).toNat = 48 + b.toNat / 100 ∧ (48 + b / 10 % 10 : UInt8).toNat = 48 + b.toNat / 10 % 10 ∧ (48 + b % 10 : UInt8).toNat = 48 + b.toNat % 10 :=
    byte_all (fun b => (48 + b / 100 : UInt8).toNat = 48 + b.toNat / 100 ∧ (48 + b / 10 % 10 : UInt8).toNat = 48 + b.toNat / 10 % 10 ∧ (48 + b % 10 : UInt8).toNat = 48 + b.toNat % 10) (by decide +kernel) b
  have hb := b.toNat_lt
  exact ⟨_, _, _, rfl, b.toNat / 100, b.toNat / 10 % 10, b.toNat % 10, h.1, h.2.1, h.2.2, by omega, by omega, by omega, by omega⟩
theorem unq_step (T0 : List UInt8) (hT : T0.length ≤ 140737488355328) (m : Mem) (lv : Nat) (R : List (List AV)) (i : Nat) (hi3 : i + 4 < T0.length) (k n dv : Nat) (c : UInt8) (hk : k < T0.length) (hki : k ≤ i + 3) (hc : T0[k] = c) (hv : c.toNat = 48 + dv) (hd : dv ≤ 9) (hn : n ≤ 99) {r : Fl × St}
    (hx : ∀ s : St, s.mask [0, 4, 5, 6, 7] [] = some ⟨137, lv, tmOf [(0, .str (bs T0)), (4, .sl (some 5) 1 R), (5, .int .i64 (i : Int)), (6, .int .i64 ((10 * n + dv : Nat) : Int)), (7, .int .i64 ((k + 1 : Nat) : Int))], bxOf [], m⟩ → (sem T).loop [0, 4, 5, 6, 7] [] L30_0 s = some r) :
    ∀ s : St, s.mask [0, 4, 5, 6, 7] [] = some ⟨137, lv, tmOf [(0, .str (bs T0)), (4, .sl (some 5) 1 R), (5, .int .i64 (i : Int)), (6, .int .i64 (n : Int)), (7, .int .i64 (k : Int))], bxOf [], m⟩ → (sem T).loop [0, 4, 5, 6, 7] [] L30_0 s = some r := by
  intro s hs
  have w1 := IntWalk.i64_in ((i : Int) + 3) (by omega)
  have w2 := IntWalk.i64_in ((k : Int) + 1) (by omega)
  have w3 := IntWalk.i64_in (10 * (n : Int)) (by omega)
  have w4 := IntWalk.i64_in (10 * (n : Int) + (dv : Int)) (by omega)
  have w5 : IntKind.u8.wrap ((c.toNat : Int) - 48) = (dv : Int) := by rw [IntWalk.u8_in _ (by omega)]; omega
  have w6 := IntWalk.i64_in (dv : Int) (by omega)
  have q1 : ((k : Int) ≤ (i : Int) + 3) = True := eq_true (by omega)
  have q2 : ((c.toNat : Int) < 48) = False := eq_false (by omega)
  have q3 : ((57 : Int) < (c.toNat : Int)) = False := eq_false (by omega)
  refine loop_round hs ?_ hx
  simp [L30_0, hk, hc, w1, w2, w3, w4, w5, w6, q1, q2, q3]
theorem unq_in (T0 : List UInt8) (hT : T0.length ≤ 140737488355328) (m : Mem) (lv : Nat) (R : List (List AV)) (i : Nat) (hi3 : i + 4 < T0.length) (x y z : UInt8) (p q r : Nat) (h1 : T0[i + 1]? = some x) (h2 : T0[i + 2]? = some y) (h3 : T0[i + 3]? = some z) (hp : x.toNat = 48 + p) (hq : y.toNat = 48 + q) (hr : z.toNat = 48 + r) (p9 : p ≤ 9) (q9 : q ≤ 9) (r9 : r ≤ 9) :
    ∀ s : St, s.mask [0, 4, 5, 6, 7] [] = some ⟨137, lv, tmOf [(0, .str (bs T0)), (4, .sl (some 5) 1 R), (5, .int .i64 (i : Int)), (6, .int .i64 0), (7, .int .i64 ((i : Int) + 1))], bxOf [], m⟩ →
      (sem T).loop [0, 4, 5, 6, 7] [] L30_0 s = some (.ex 2, ⟨137, lv, tmOf [(0, .str (bs T0)), (4, .sl (some 5) 1 R), (5, .int .i64 (i : Int)), (6, .int .i64 ((10 * (10 * p + q) + r : Nat) : Int))], bxOf [], m⟩) := by
  have e1 : T0[i + 1]'(by omega) = x := by rw [List.getElem?_eq_getElem (by omega)] at h1; exact Option.some.inj h1
  have e2 : T0[i + 1 + 1]'(by omega) = y := by rw [List.getElem?_eq_getElem (by omega)] at h2; exact Option.some.inj h2
  have e3 : T0[i + 1 + 1 + 1]'(by omega) = z := by rw [List.getElem?_eq_getElem (by omega)] at h3; exact Option.some.inj h3
  have hend : ∀ s : St, s.mask [0, 4, 5, 6, 7] [] = some ⟨137, lv, tmOf [(0, .str (bs T0)), (4, .sl (some 5) 1 R), (5, .int .i64 (i : Int)), (6, .int .i64 ((10 * (10 * (10 * 0 + p) + q) + r : Nat) : Int)), (7, .int .i64 ((i + 1 + 1 + 1 + 1 : Nat) : Int))], bxOf [], m⟩ →
      (sem T).loop [0, 4, 5, 6, 7] [] L30_0 s = some (.ex 2, ⟨137, lv, tmOf [(0, .str (bs T0)), (4, .sl (some 5) 1 R), (5, .int .i64 (i : Int)), (6, .int .i64 ((10 * (10 * p + q) + r : Nat) : Int))], bxOf [], m⟩) := by
    intro s hs
    rw [show 10 * (10 * (10 * 0 + p) + q) + r = 10 * (10 * p + q) + r by omega] at hs
    generalize 10 * (10 * p + q) + r = N at *
    have w1 := IntWalk.i64_in ((i : Int) + 3) (by omega)
    have q1 : (((i + 1 + 1 + 1 + 1 : Nat) : Int) ≤ (i : Int) + 3) = False := eq_false (by omega)
    obtain ⟨K, hK⟩ : ∃ K, i + 1 + 1 + 1 + 1 = K := ⟨_, rfl⟩
    rw [hK] at hs q1
    refine loop_end (fl := .ex 2) hs ?_ (by intro e; cases e)
    simp [L30_0, w1, q1]
  have s3 := unq_step T0 hT m lv R i hi3 (i + 1 + 1 + 1) (10 * (10 * 0 + p) + q) r z (by omega) (by omega) e3 hr r9 (by omega) hend
  have s2 := unq_step T0 hT m lv R i hi3 (i + 1 + 1) (10 * 0 + p) q y (by omega) (by omega) e2 hq q9 (by omega) s3
  have s1 := unq_step T0 hT m lv R i hi3 (i + 1) 0 p x (by omega) (by omega) e1 hp p9 (by omega) s2
  exact s1
theorem unq_loop (T0 : List UInt8) (hT : T0.length ≤ 140737488355328) (m : Mem) (lv : Nat) : ∀ (r : List UInt8) (i : Nat) (out : List UInt8), T0.drop i = r.flatMap escB ++ [34] → out.length ≤ i → ∀ s : St, s.mask [0, 4, 5] [] = some ⟨137, lv, tmOf [(0, .str (bs T0)), (4, .sl (some 5) 1 (out.map byteRow)), (5, .int .i64 (i : Int))], bxOf [], m⟩ →
    (sem T).loop [0, 4, 5] [] L30_1 s = some (.ex 0, ⟨137, lv, tmOf [(4, .sl (some 5) 1 ((out ++ r).map byteRow))], bxOf [], m⟩)
  | [], i, out, hd, ho, s, hs => by
    have hl := congrArg List.length hd
    simp at hl
    have w1 : IntKind.i64.wrap ((T0.length : Int) - 1) = (i : Int) := by rw [IntWalk.i64_in _ (by omega)]; omega
    refine loop_end (fl := .ex 0) hs ?_ (by intro e; cases e)
    simp [L30_1, w1]
  | b :: r, i, out, hd, ho, s, hs => by
    have hl := congrArg List.length hd
    rw [List.flatMap_cons, List.append_assoc] at hd
    rw [List.flatMap_cons, List.length_drop, List.length_append, List.length_append, List.length_cons, List.length_nil] at hl
    obtain ⟨M, hM⟩ : ∃ M, T0.length - 1 = M := ⟨_, rfl⟩
    obtain ⟨F, hF⟩ : ∃ F, r.flatMap escB ++ [34] = F := ⟨_, rfl⟩
    have wL : IntKind.i64.wrap ((T0.length : Int) - 1) = (M : Int) := by rw [IntWalk.i64_in _ (by omega)]; omega
    have w1 := IntWalk.i64_in ((i : Int) + 1) (by omega)
    have k0 : ((0 : Int) ≤ (i : Int) + 1) = True := eq_true (by omega)
    have at' : ∀ j x, (escB b ++ F)[j]? = some x → T0[i + j]? = some x := fun j x h => by
      rw [← List.getElem?_drop, hd, hF]
      exact h
    have z1 : out.length + 1 ≤ 140737488355328 := by omega
    have y1 : out.length + 1 ≤ 9223372036854775807 := by omega
    by_cases h1 : b = 34 ∨ b = 92
    · have e : escB b = [92, b] := by simp [escB, h1]
      have t0 : T0[i]? = some 92 := at' 0 92 (by rw [e]; rfl)
      have t1 := at' 1 b (by rw [e]; rfl)
      rw [e] at hl
      simp only [List.length_cons, List.length_nil] at hl
      have hi : i < T0.length := by omega
      have hi1 : i + 1 < T0.length := by omega
      have g0 : T0[i] = 92 := by rw [List.getElem?_eq_getElem hi] at t0; exact Option.some.inj t0
      have g1 : T0[i + 1] = b := by rw [List.getElem?_eq_getElem hi1] at t1; exact Option.some.inj t1
      have q0 : ((i : Int) < (M : Int)) = True := eq_true (by omega)
      have q1 : ((i : Int) + 1 < (M : Int)) = True := eq_true (by omega)
      have p0 : i < M := by omega
      have p1 : i + 1 < M := by omega
      have w2 := IntWalk.i64_in ((i : Int) + 1 + 1) (by omega)
      have w2' := IntWalk.i64_in ((i : Int) + 2) (by omega)
      have hd2 : T0.drop (i + 1 + 1) = r.flatMap escB ++ [34] := by
        rw [show i + 1 + 1 = i + 2 by omega, ← List.drop_drop, hd, e]
        rfl
      have hx := unq_loop T0 hT m lv r (i + 1 + 1) (out ++ [b]) hd2 (by rw [List.length_append, List.length_cons, List.length_nil]; omega)
      rw [List.append_assoc, List.singleton_append] at hx
      refine loop_round hs ?_ hx
      rcases h1 with rfl | rfl
      · simp [L30_1, hi, hi1, g0, g1, k0, wL, w1, w2, w2', q0, q1, p0, p1, z1, y1, byteRow]
      · simp [L30_1, hi, hi1, g0, g1, k0, wL, w1, w2, w2', q0, q1, p0, p1, z1, y1, byteRow]
    · have n34 : b ≠ 34 := fun h => h1 (.inl h)
      have n92 : b ≠ 92 := fun h => h1 (.inr h)
      by_cases h2 : b < 32 ∨ 126 < b
      · have e : escB b = 92 :: three b := by simp [escB, h1, h2]
        obtain ⟨x, y, z, e3, p, q, k, hp, hq, hk, p9, q9, k9, hv⟩ := three_val b
        rw [e3] at e
        have t0 : T0[i]? = some 92 := at' 0 92 (by rw [e]; rfl)
        have t1 := at' 1 x (by rw [e]; rfl)
        have t2 := at' 2 y (by rw [e]; rfl)
        have t3 := at' 3 z (by rw [e]; rfl)
        rw [e] at hl
        simp only [List.length_cons, List.length_nil] at hl
        have hi : i < T0.length := by omega
        have hi1 : i + 1 < T0.length := by omega
        have g0 : T0[i] = 92 := by rw [List.getElem?_eq_getElem hi] at t0; exact Option.some.inj t0
        have g1 : T0[i + 1] = x := by rw [List.getElem?_eq_getElem hi1] at t1; exact Option.some.inj t1
        have q0 : ((i : Int) < (M : Int)) = True := eq_true (by omega)
        have q1 : ((i : Int) + 1 < (M : Int)) = True := eq_true (by omega)
        have p0 : i < M := by omega
        have p1 : i + 1 < M := by omega
        have f1 : ((x.toNat : Int) = 34) = False := eq_false (by omega)
        have f2 : ((x.toNat : Int) = 92) = False := eq_false (by omega)
        have f3 : ((M : Int) ≤ (i : Int) + 3) = False := eq_false (by omega)
        have w3 := IntWalk.i64_in ((i : Int) + 3) (by omega)
        have w4 := IntWalk.i64_in ((i : Int) + 3 + 1) (by omega)
        have w4' := IntWalk.i64_in ((i : Int) + 4) (by omega)
        have hin := unq_in T0 hT m lv (out.map byteRow) i (by omega) x y z p q k t1 t2 t3 hp hq hk p9 q9 k9
        rw [hv] at hin
        have hd2 : T0.drop (i + 3 + 1) = r.flatMap escB ++ [34] := by
          rw [show i + 3 + 1 = i + 4 by omega, ← List.drop_drop, hd, e]
          rfl
        have hx := unq_loop T0 hT m lv r (i + 3 + 1) (out ++ [b]) hd2 (by rw [List.length_append, List.length_cons, List.length_nil]; omega)
        rw [List.append_assoc, List.singleton_append] at hx
        have hb := b.toNat_lt
        have v1 : ((255 : Int) < (b.toNat : Int)) = False := eq_false (by omega)
        have wb := IntWalk.u8_in (b.toNat : Int) (by omega)
        refine loop_round hs ?_ hx
        rcases h2 with h2 | h2
        · have v2 : ((32 : Int) ≤ (b.toNat : Int)) = False := eq_false (by have := UInt8.lt_iff_toNat_lt.1 h2; have e : (32 : UInt8).toNat = 32 := rfl; omega)
          simp [L30_1, hi, hi1, g0, g1, k0, wL, w1, w3, w4, w4', q0, q1, p0, p1, f1, f2, f3, hin, v1, v2, wb, z1, y1, byteRow]
        · have v2 : ((32 : Int) ≤ (b.toNat : Int)) = True := eq_true (by have := UInt8.lt_iff_toNat_lt.1 h2; have e : (126 : UInt8).toNat = 126 := rfl; omega)
          have v3 : ((b.toNat : Int) < 127) = False := eq_false (by have := UInt8.lt_iff_toNat_lt.1 h2; have e : (126 : UInt8).toNat = 126 := rfl; omega)
          simp [L30_1, hi, hi1, g0, g1, k0, wL, w1, w3, w4, w4', q0, q1, p0, p1, f1, f2, f3, hin, v1, v2, v3, wb, z1, y1, byteRow]
      · have e : escB b = [b] := by simp [escB, h1, h2]
        have t0 : T0[i]? = some b := at' 0 b (by rw [e]; rfl)
        rw [e] at hl
        simp only [List.length_cons, List.length_nil] at hl
        have hi : i < T0.length := by omega
        have g0 : T0[i] = b := by rw [List.getElem?_eq_getElem hi] at t0; exact Option.some.inj t0
        have q0 : ((i : Int) < (M : Int)) = True := eq_true (by omega)
        have p0 : i < M := by omega
        have m1 : ¬ b < 32 := fun h => h2 (.inl h)
        have m2 : ¬ 126 < b := fun h => h2 (.inr h)
        have v1 : ((b.toNat : Int) < 32) = False := eq_false (fun h => m1 (UInt8.lt_iff_toNat_lt.2 (by have e : (32 : UInt8).toNat = 32 := rfl; omega)))
        have v2 : ((126 : Int) < (b.toNat : Int)) = False := eq_false (fun h => m2 (UInt8.lt_iff_toNat_lt.2 (by have e : (126 : UInt8).toNat = 126 := rfl; omega)))
        have v3 : ((b.toNat : Int) = 34) = False := eq_false (fun h => n34 (by apply UInt8.toNat_inj.1; have : (34 : UInt8).toNat = 34 := rfl; omega))
        have v4 : ((b.toNat : Int) = 92) = False := eq_false (fun h => n92 (by apply UInt8.toNat_inj.1; have : (92 : UInt8).toNat = 92 := rfl; omega))
        have hd2 : T0.drop (i + 1) = r.flatMap escB ++ [34] := by
          rw [← List.drop_drop, hd, e]
          rfl
        have hx := unq_loop T0 hT m lv r (i + 1) (out ++ [b]) hd2 (by rw [List.length_append, List.length_cons, List.length_nil]; omega)
        rw [List.append_assoc, List.singleton_append] at hx
        refine loop_round hs ?_ hx
        simp [L30_1, hi, g0, wL, w1, q0, p0, v1, v2, v3, v4, z1, y1, byteRow]
theorem call30 (l : List UInt8) (hl : l.length ≤ 17592186044416) (m : Mem) (lv : Nat) : (sem T).call 30 [.str (bs (quoteL l))] m lv = some ([.str (bs l), .bool true], m) := by
  refine call_go rfl rfl rfl ?_
  have hes := escs_len l
  have h := unq_loop (quoteL l) (by unfold quoteL; simp only [List.length_append, List.length_cons, List.length_nil]; omega) m lv l 1 [] rfl (by simp)
  rw [List.nil_append] at h
  simp only [Int.natCast_one, List.map_nil] at h
  have hlen : 2 ≤ (quoteL l).length := by unfold quoteL; simp
  have h0 : 0 < (quoteL l).length := by omega
  have g0 : (quoteL l)[0] = 34 := rfl
  obtain ⟨M, hM⟩ : ∃ M, (quoteL l).length - 1 = M := ⟨_, rfl⟩
  have hML : M < (quoteL l).length := by omega
  have gM : (quoteL l)[M] = 34 := by
    have : (quoteL l)[M]? = some 34 := by
      rw [← hM, ← List.getLast?_eq_getElem?]
      exact List.getLast?_concat ..
    rw [List.getElem?_eq_getElem hML] at this
    exact Option.some.inj this
  have wL : IntKind.i64.wrap (((quoteL l).length : Int) - 1) = (M : Int) := by
    have : (quoteL l).length ≤ 4 * l.length + 2 := by unfold quoteL; simp only [List.length_append, List.length_cons, List.length_nil]; omega
    rw [IntWalk.i64_in _ (by omega)]; omega
  have q1 : (((quoteL l).length : Int) < 2) = False := eq_false (by omega)
  have q2 : ((quoteL l).length < 2) = False := eq_false (by omega)
  generalize quoteL l = Q at *
  simp [F30, h, q1, q2, h0, g0, hML, gM, wL]
theorem quoted_spec (l : List UInt8) (hl : l.length ≤ 17592186044416) : ∃ m, (sem T).call 9 [.str (bs l)] noMem 0 = some ([.bool true], m) := by
  obtain ⟨m0, haw⟩ := awake_spec
  have h1 := call11 l hl
  have h2 := call30 l hl
  refine ⟨noMem, call_go rfl rfl rfl ?_⟩
  simp [F9, h1, h2, haw]
end Go.Ev
