/- Strings that differ in one byte have different digests, and so under Mac do keys and strings. Condition: none but the row's own bound on the size of a string. -/
import Derived.Test.YtghhhpcdakdjjaaMDigestBytesx1
import Derived.Test.YtghhhpcdakdjjaaDg
import Derived.Test.YtghhhpcdakdjjaaChg
import Derived.Lib.Hide
import Derived.WideShapes
import Derived.Lib.SmallJoins
namespace Go.Proofs.Ytghhhpcdakdjjaa.Pure
open Go.RowKit Go.Proofs.Ytghhhpcdakdjjaa.MDigestBytes Go.Proofs.Ytghhhpcdakdjjaa.Dg Go.Proofs.Ytghhhpcdakdjjaa.Chg Go.Proofs.YtghhhpcdakdjjaaW.PrintWords Go.Proofs.YtghhhpcdakdjjaaW.PrintLast Go.Proofs.YtghhhpcdakdjjaaW.PrintMore
namespace OfDigestBytes
theorem bt_get (s : ByteArray) (i : Nat) (b : UInt8) (l : List UInt8) (h : s.data.toList.drop i = b :: l) : i < s.size ∧ bt s (i : Int) = (b.toNat : Int) ∧ s.data.toList.drop (i + 1) = l := by
  have hl : i < s.data.toList.length := by
    have := congrArg List.length h
    simp at this
    simp; omega
  have e := List.drop_eq_getElem_cons hl
  rw [h] at e
  injection e with e1 e2
  have hs : i < s.size := by simpa using hl
  refine ⟨hs, ?_, e2.symm⟩
  rw [← bt_at s i (by simpa using hs), e1]
  simp
  rfl
theorem at_end (s : ByteArray) (i : Nat) (h : s.data.toList.drop i = []) : ¬ (i : Int) < (s.size : Int) := by
  have := List.drop_eq_nil_iff.1 h
  simp at this
  have e : s.data.size = s.size := rfl
  omega
theorem wrap_inc (i n : Nat) (h : i < n) (hn : n ≤ 1000000000000000000) : wrap64 ((i : Int) + 1) = ((i + 1 : Nat) : Int) := by
  unfold wrap64; omega
theorem digest_Sum_l1 (k : Nat) (X : BitVec 64) : digest_Sum.l1 (k + 4) (X.toNat : Int) 0 = some ((dmix (dmix (dmix X))).toNat : Int) := by
  have r : ∀ (k : Nat) (i : Int) (Y : BitVec 64), i < 3 → digest_Sum.l1 (k + 1) (Y.toNat : Int) i = digest_Sum.l1 k ((dmix Y).toNat : Int) (wrap64 (i + 1)) := by
    intro k i Y hi
    simp only [digest_Sum.l1]
    rw [if_pos hi, mix_int]
  rw [r _ _ _ (by decide), show wrap64 (0 + 1) = 1 from by decide +kernel, r _ _ _ (by decide), show wrap64 (1 + 1) = 2 from by decide +kernel, r _ _ _ (by decide), show wrap64 (2 + 1) = 3 from by decide +kernel]
  simp only [digest_Sum.l1]
  rw [if_neg (by decide)]
theorem digest_Sum_l0 (s : ByteArray) (hn : s.size ≤ 1000000000000000000) : ∀ (l : List UInt8) (i : Nat) (X : BitVec 64) (k : Nat), s.data.toList.drop i = l → l.length + 5 ≤ k → digest_Sum.l0 k s (X.toNat : Int) (i : Int) = some ((dmix (dmix (dmix (l.foldl dstep X)))).toNat : Int) := by
  intro l
  induction l with
  | nil =>
    intro i X k h hk
    obtain ⟨k, rfl⟩ : ∃ m, k = m + 5 := ⟨k - 5, by simp at hk; omega⟩
    simp only [digest_Sum.l0]
    rw [if_neg (at_end s i h)]
    exact digest_Sum_l1 k X
  | cons b l ih =>
    intro i X k h hk
    obtain ⟨k, rfl⟩ : ∃ m, k = m + 1 := ⟨k - 1, by simp at hk; omega⟩
    obtain ⟨hi, hb, ht⟩ := bt_get s i b l h
    simp only [digest_Sum.l0]
    rw [if_pos (by omega), if_pos (by omega), hb, step_int, wrap_inc i s.size hi hn]
    exact ih (i + 1) (dstep X b) k ht (by simp at hk; omega)
theorem digest_Sum_all (s : ByteArray) (hn : s.size ≤ 1000000000000000000) (k : Nat) (hk : s.size + 5 ≤ k) : digest_Sum.f k s = some ((dsum s.data.toList).toNat : Int) :=
  by
  have h := digest_Sum_l0 s hn s.data.toList 0 14695981039346656037#64 k rfl (by simpa using hk)
  have e : ((14695981039346656037#64).toNat : Int) = 14695981039346656037 := by decide
  rw [e] at h
  exact h
theorem awake_at : ddilaw18_awake.f 30 = some true := by decide +kernel
theorem awake (k : Nat) (hk : 30 ≤ k) : ddilaw18_awake.f k = some true := at_rounds ddilaw18_awake.mono hk awake_at
/-- The eight bytes of a number. -/
def eight (n : Int) : List Int := [n / 72057594037927936 % 256, n / 281474976710656 % 256, n / 1099511627776 % 256, n / 4294967296 % 256, n / 16777216 % 256, n / 65536 % 256, n / 256 % 256, n % 256]
theorem digest_Text_at (n : Int) : digest_Text.f 9 n = some (strOfNums (eight n)) := by
  have e : digest_Text.f 9 n = some (strOfNums [n / 2 ^ 56 % 256, n / 2 ^ 48 % 256, n / 2 ^ 40 % 256, n / 2 ^ 32 % 256, n / 2 ^ 24 % 256, n / 2 ^ 16 % 256, n / 2 ^ 8 % 256, n / 2 ^ 0 % 256]) := by kernel_rfl
  rw [e, eight]
  simp
theorem digest_Text_all (n : Int) (k : Nat) (hk : 9 ≤ k) : digest_Text.f k n = some (strOfNums (eight n)) := at_rounds (digest_Text.mono n) hk (digest_Text_at n)
theorem eight_size (n : Int) : (strOfNums (eight n)).size = 8 := by simp [strOfNums, eight, ByteArray.size]
theorem digest_Mac_all (a b : ByteArray) (ha : a.size ≤ 140737488351232) (hb : b.size ≤ 140737488351232) (k : Nat) (hk : a.size + b.size + 20 ≤ k) :
    digest_Mac.f k a b = some (strOfNums (eight ((dsum (((strOfNums (eight (IntKind.u64.wrap (a.size : Int)))) ++ a) ++ b).data.toList).toNat : Int))) := by
  have h8 := eight_size (IntKind.u64.wrap (a.size : Int))
  unfold digest_Mac.f
  rw [digest_Text_all _ k (by omega)]
  simp only [Option.bind_some]
  rw [if_pos (by omega), if_pos (by simp only [ByteArray.size_append]; omega), digest_Sum_all _ (by simp only [ByteArray.size_append]; omega) k (by simp only [ByteArray.size_append]; omega)]
  simp only [Option.bind_some]
  rw [digest_Text_all _ k (by omega)]
  rfl
end OfDigestBytes
open OfDigestBytes
set_option maxHeartbeats 1000000 in
set_option maxRecDepth 100000 in
theorem bytes_at (key s t c : ByteArray) (a b x y : Int) (m n o : ByteArray) (k : Nat) (p q : Bool) (w : World)
    (ht : Hid (∀ w, Calls Try.prog 23 #[.string s, .int .u16 a, .int .u8 b] w fun e w' => e = .returned (.string t) ∧ Below w.heap.size w w'))
    (hc : Hid (∀ w, Calls Try.prog 23 #[.string key, .int .u16 a, .int .u8 b] w fun e w' => e = .returned (.string c) ∧ Below w.heap.size w w'))
    (f1 : Hid (digest_Sum.f k s = some x)) (f2 : Hid (digest_Sum.f k t = some y)) (f3 : Hid (digest_Mac.f k key s = some m)) (f4 : Hid (digest_Mac.f k key t = some n)) (f5 : Hid (digest_Mac.f k c s = some o))
    (f6 : Hid (ddilaw18_awake.f k = some true))
    (e1 : (x == y) = p) (e2 : (s.toList == t.toList) = p) (e3 : (m.toList == n.toList) = p) (e4 : (m.toList == o.toList) = q) (e5 : (key.toList == c.toList) = q) :
    Calls Try.prog 7 #[.string key, .string s, .int .u16 a, .int .u8 b] w fun e w' => e = .returned (.bool true) ∧ Below w.heap.size w w' := by
  cases p <;> cases q
  all_goals
    go_enter Try.func7, Try.ntmps7
    go_wp2_with fail
    refine (ht.out _).mono ?_
    rintro e w1 ⟨rfl, h1⟩
    go_wp2_with fail
    refine (hc.out _).mono ?_
    rintro e w2 ⟨rfl, h2⟩
    go_wp2_with fail
    refine (digest_Sum.calls k s x _ f1.out).mono ?_
    rintro e w3 ⟨rfl, h3⟩
    go_wp2_with fail
    refine (digest_Sum.calls k t y _ f2.out).mono ?_
    rintro e w4 ⟨rfl, h4⟩
    go_wp2_with fail
    refine (digest_Mac.calls k key s m _ f3.out).mono ?_
    rintro e w5 ⟨rfl, h5⟩
    go_wp2_with fail
    refine (digest_Mac.calls k key t n _ f4.out).mono ?_
    rintro e w6 ⟨rfl, h6⟩
    go_wp2_with fail
    refine (digest_Mac.calls k key s m _ f3.out).mono ?_
    rintro e w7 ⟨rfl, h7⟩
    go_wp2_with fail
    refine (digest_Mac.calls k c s o _ f5.out).mono ?_
    rintro e w8 ⟨rfl, h8⟩
    go_wp2_with fail
    refine (ddilaw18_awake.calls k true _ f6.out).mono ?_
    rintro e w9 ⟨rfl, h9⟩
    go_wp2
    go_ret
    exact ⟨rfl, below_step (below_step (below_step (below_step (below_step (below_step (below_step (below_step h1 h2) h3.below) h4.below) h5) h6) h7) h8) h9⟩
theorem ints_str (s : ByteArray) : strOfNums (ints s) = s := by
  have h : (strOfNums (ints s)).data.toList = s.data.toList := by
    simp only [strOfNums, ints, List.map_map]
    rw [List.map_congr_left (g := id) (fun b _ => by simp)]
    simp
  exact Go.WideShapes.bytes_inj h
/-- A string with one byte changed differs from it in one byte at most. -/
theorem chg_one (s : ByteArray) (a b : Int) : (chg s a b).size = s.size ∧ ∃ (p q : List UInt8) (c d : UInt8), (s.data.toList = p ++ c :: q ∧ (chg s a b).data.toList = p ++ d :: q) ∨ chg s a b = s := by
  unfold chg
  by_cases h : s.size = 0
  · rw [if_pos h]; exact ⟨rfl, [], [], 0, 0, .inr rfl⟩
  · rw [if_neg h]
    have j0 : 0 ≤ a % (s.size : Int) := Int.emod_nonneg _ (by omega)
    have j1 : a % (s.size : Int) < (s.size : Int) := Int.emod_lt_of_pos _ (by omega)
    generalize hj : (a % (s.size : Int)).toNat = j
    have hl : j < s.data.toList.length := by simp; have : s.data.size = s.size := rfl; omega
    generalize Go.bits .xor .u8 ((ints s).getD j 0) b = v
    refine ⟨?_, s.data.toList.take j, s.data.toList.drop (j + 1), s.data.toList[j], UInt8.ofNat v.toNat, .inl ⟨?_, ?_⟩⟩
    · show (List.map _ _).toArray.size = _
      simp [ints_length]
    · rw [List.getElem_cons_drop hl, List.take_append_drop]
    · have e : (strOfNums ((ints s).set j v)).data.toList = s.data.toList.set j (UInt8.ofNat v.toNat) := by
        simp only [strOfNums, ints, List.map_set, List.map_map]
        rw [List.map_congr_left (g := id) (fun b _ => by simp)]
        simp
      rw [e, List.set_eq_take_append_cons_drop, if_pos hl]
theorem sum_chg (u : List UInt8) (s : ByteArray) (a b : Int) (v : List UInt8) (e : dsum (u ++ s.data.toList ++ v) = dsum (u ++ (chg s a b).data.toList ++ v)) : s = chg s a b := by
  obtain ⟨_, p, q, c, d, ⟨h1, h2⟩ | h⟩ := chg_one s a b
  · rw [h1, h2, List.append_assoc, List.append_assoc, List.append_assoc, List.append_assoc, List.cons_append, List.cons_append, ← List.append_assoc, ← List.append_assoc] at e
    have hcd := sum_one _ _ _ _ e
    apply Go.WideShapes.bytes_inj
    rw [h1, h2, hcd]
  · exact h.symm
theorem eight_inj (x y : BitVec 64) (h : strOfNums (eight (x.toNat : Int)) = strOfNums (eight (y.toNat : Int))) : x = y := by
  have e : ∀ n : Int, (strOfNums (eight n)).data.toList = (eight n).map fun m => UInt8.ofNat m.toNat := fun n => rfl
  have h1 := congrArg (fun s : ByteArray => s.data.toList.map fun b => (b.toNat : Int)) h
  simp only [e, List.map_map] at h1
  have r : ∀ n : Int, 0 ≤ n → (eight n).map ((fun b : UInt8 => (b.toNat : Int)) ∘ fun m => UInt8.ofNat m.toNat) = eight n := by
    intro n _
    have id8 : ∀ m : Int, (((UInt8.ofNat (m % 256).toNat).toNat : Nat) : Int) = m % 256 := by
      intro m
      rw [UInt8.toNat_ofNat']
      omega
    simp only [eight, List.map_cons, List.map_nil, Function.comp, id8]
  rw [r _ (by omega), r _ (by omega)] at h1
  have hx := x.isLt
  have hy := y.isLt
  simp only [eight, List.cons.injEq, and_true] at h1
  apply BitVec.eq_of_toNat_eq
  omega
theorem wf16 {a : Int} (h : (Lit.int .u16 a).wf = true) : 0 ≤ a ∧ a ≤ 65535 := by
  simp [Lit.wf, IntKind.min, IntKind.max, IntKind.bits, IntKind.signed] at h
  omega
attribute [local irreducible] dsum eight strOfNums
theorem DigestBytes (key s : ByteArray) (a b : Int) (w : World) (hk : key.size ≤ 140737488351232) (hs : s.size ≤ 140737488351232) (a0 : 0 ≤ a) (a1 : a ≤ 65535) :
    Calls Try.prog 7 #[.string key, .string s, .int .u16 a, .int .u8 b] w fun e w' => e = .returned (.bool true) ∧ Below w.heap.size w w' := by
  obtain ⟨k, h⟩ : ∃ k, key.size + s.size + 40 ≤ k := ⟨_, Nat.le_refl _⟩
  have zs := (chg_one s a b).1
  have zk := (chg_one key a b).1
  have ts : ∀ x y : ByteArray, (x.toList == y.toList) = decide (x = y) := by
    intro x y
    rw [Go.ByteArray.toList_eq, Go.ByteArray.toList_eq]
    by_cases e : x = y
    · subst e; simp
    · rw [decide_eq_false e]
      exact beq_eq_false_iff_ne.2 fun c => e (Go.WideShapes.bytes_inj c)
  refine bytes_at key s (chg s a b) (chg key a b) a b _ _ _ _ _ k (decide (s = chg s a b)) (decide (key = chg key a b)) w (Lib.hid fun w => changed_calls s a b w hs a0 a1) (Lib.hid fun w => changed_calls key a b w hk a0 a1)
    (Lib.hid (digest_Sum_all s (by omega) k (by omega))) (Lib.hid (digest_Sum_all _ (by omega) k (by omega))) (Lib.hid (digest_Mac_all key s hk hs k (by omega))) (Lib.hid (digest_Mac_all key _ hk (by omega) k (by omega))) (Lib.hid (digest_Mac_all _ s (by omega) hs k (by omega)))
    (Lib.hid (awake k (by omega))) ?_ (ts _ _) ?_ ?_ (ts _ _)
  · rw [Bool.eq_iff_iff, beq_iff_eq, decide_eq_true_iff]
    constructor
    · intro e
      exact sum_chg [] s a b [] (by simpa using BitVec.eq_of_toNat_eq (Int.ofNat.inj e))
    · intro e; rw [← e]
  · rw [ts, Bool.eq_iff_iff, decide_eq_true_iff, decide_eq_true_iff]
    constructor
    · intro e
      have e2 := eight_inj _ _ e
      rw [ByteArray.data_append, ByteArray.data_append, Array.toList_append, Array.toList_append] at e2
      exact sum_chg ((strOfNums (eight (IntKind.u64.wrap (key.size : Int)))).data.toList ++ key.data.toList) s a b [] (by simpa using e2)
    · intro e; rw [← e]
  · rw [ts, Bool.eq_iff_iff, decide_eq_true_iff, decide_eq_true_iff, zk]
    constructor
    · intro e
      have e2 := eight_inj _ _ e
      rw [ByteArray.data_append, ByteArray.data_append, ByteArray.data_append, ByteArray.data_append, Array.toList_append, Array.toList_append, Array.toList_append, Array.toList_append] at e2
      exact sum_chg _ key a b _ e2
    · intro e; rw [← e]
end Go.Proofs.Ytghhhpcdakdjjaa.Pure
