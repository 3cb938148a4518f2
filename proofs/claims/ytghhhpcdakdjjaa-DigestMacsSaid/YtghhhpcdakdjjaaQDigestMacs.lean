/- Mac returns the bytes that the reference returns, for every key and string. Condition: none but the row's own bound on the size of a string. -/
import Derived.Test.YtghhhpcdakdjjaaMDigestMacsx2
import Derived.Test.YtghhhpcdakdjjaaDg
namespace Go.Proofs.Ytghhhpcdakdjjaa.Pure
open Go.RowKit Go.Proofs.Ytghhhpcdakdjjaa.MDigestMacs Go.Proofs.Ytghhhpcdakdjjaa.Dg Go.Proofs.YtghhhpcdakdjjaaW.PrintWords Go.Proofs.YtghhhpcdakdjjaaW.PrintLast Go.Proofs.YtghhhpcdakdjjaaW.PrintMore
namespace OfDigestMacs
theorem bt_get (s : ByteArray) (i : Nat) (b : UInt8) (l : List UInt8) (h : s.data.toList.drop i = b :: l) : i < s.size ∧ bt s (i : Int) = (b.toNat : Int) ∧ s.data.toList.drop (i + 1) = l := by
  have hl : i < s.data.toList.length := by
    have := congrArg List.length h
    simp at this
    simp; omega
  have e := List.drop_eq_getElem_cons hl
  rw [h] at e
  injection e with e1 e2
  have hs : i < s.size := by simpa using hl
  refine ⟨hs, ?_, e2.symm⟩
  rw [← bt_at s i (by simpa using hs), e1]
  simp
  rfl
theorem at_end (s : ByteArray) (i : Nat) (h : s.data.toList.drop i = []) : ¬ (i : Int) < (s.size : Int) := by
  have := List.drop_eq_nil_iff.1 h
  simp at this
  have e : s.data.size = s.size := rfl
  omega
theorem wrap_inc (i n : Nat) (h : i < n) (hn : n ≤ 1000000000000000000) : wrap64 ((i : Int) + 1) = ((i + 1 : Nat) : Int) := by
  unfold wrap64; omega
theorem digest_Sum_l1 (k : Nat) (X : BitVec 64) : digest_Sum.l1 (k + 4) (X.toNat : Int) 0 = some ((dmix (dmix (dmix X))).toNat : Int) := by
  have r : ∀ (k : Nat) (i : Int) (Y : BitVec 64), i < 3 → digest_Sum.l1 (k + 1) (Y.toNat : Int) i = digest_Sum.l1 k ((dmix Y).toNat : Int) (wrap64 (i + 1)) := by
    intro k i Y hi
    simp only [digest_Sum.l1]
    rw [if_pos hi, mix_int]
  rw [r _ _ _ (by decide), show wrap64 (0 + 1) = 1 from by decide +kernel, r _ _ _ (by decide), show wrap64 (1 + 1) = 2 from by decide +kernel, r _ _ _ (by decide), show wrap64 (2 + 1) = 3 from by decide +kernel]
  simp only [digest_Sum.l1]
  rw [if_neg (by decide)]
theorem digest_Sum_l0 (s : ByteArray) (hn : s.size ≤ 1000000000000000000) : ∀ (l : List UInt8) (i : Nat) (X : BitVec 64) (k : Nat), s.data.toList.drop i = l → l.length + 5 ≤ k → digest_Sum.l0 k s (X.toNat : Int) (i : Int) = some ((dmix (dmix (dmix (l.foldl dstep X)))).toNat : Int) := by
  intro l
  induction l with
  | nil =>
    intro i X k h hk
    obtain ⟨k, rfl⟩ : ∃ m, k = m + 5 := ⟨k - 5, by simp at hk; omega⟩
    simp only [digest_Sum.l0]
    rw [if_neg (at_end s i h)]
    exact digest_Sum_l1 k X
  | cons b l ih =>
    intro i X k h hk
    obtain ⟨k, rfl⟩ : ∃ m, k = m + 1 := ⟨k - 1, by simp at hk; omega⟩
    obtain ⟨hi, hb, ht⟩ := bt_get s i b l h
    simp only [digest_Sum.l0]
    rw [if_pos (by omega), if_pos (by omega), hb, step_int, wrap_inc i s.size hi hn]
    exact ih (i + 1) (dstep X b) k ht (by simp at hk; omega)
theorem digest_Sum_all (s : ByteArray) (hn : s.size ≤ 1000000000000000000) (k : Nat) (hk : s.size + 5 ≤ k) : digest_Sum.f k s = some ((dsum s.data.toList).toNat : Int) :=
  by
  have h := digest_Sum_l0 s hn s.data.toList 0 14695981039346656037#64 k rfl (by simpa using hk)
  have e : ((14695981039346656037#64).toNat : Int) = 14695981039346656037 := by decide
  rw [e] at h
  exact h
theorem awake_at : ddilaw18_awake.f 30 = some true := by decide +kernel
theorem awake (k : Nat) (hk : 30 ≤ k) : ddilaw18_awake.f k = some true := at_rounds ddilaw18_awake.mono hk awake_at
/-- The eight bytes of a number. -/
def eight (n : Int) : List Int := [n / 72057594037927936 % 256, n / 281474976710656 % 256, n / 1099511627776 % 256, n / 4294967296 % 256, n / 16777216 % 256, n / 65536 % 256, n / 256 % 256, n % 256]
theorem digest_Text_at (n : Int) : digest_Text.f 9 n = some (strOfNums (eight n)) := by
  have e : digest_Text.f 9 n = some (strOfNums [n / 2 ^ 56 % 256, n / 2 ^ 48 % 256, n / 2 ^ 40 % 256, n / 2 ^ 32 % 256, n / 2 ^ 24 % 256, n / 2 ^ 16 % 256, n / 2 ^ 8 % 256, n / 2 ^ 0 % 256]) := by kernel_rfl
  rw [e, eight]
  simp
theorem digest_Text_all (n : Int) (k : Nat) (hk : 9 ≤ k) : digest_Text.f k n = some (strOfNums (eight n)) := at_rounds (digest_Text.mono n) hk (digest_Text_at n)
theorem eight_size (n : Int) : (strOfNums (eight n)).size = 8 := by simp [strOfNums, eight, ByteArray.size]
theorem ddiref18_Sum_l1 (k : Nat) (X : BitVec 64) : ddiref18_Sum.l1 (k + 4) (X.toNat : Int) 0 = some ((dmix (dmix (dmix X))).toNat : Int) := by
  have r : ∀ (k : Nat) (i : Int) (Y : BitVec 64), i < 3 → ddiref18_Sum.l1 (k + 1) (Y.toNat : Int) i = ddiref18_Sum.l1 k ((dmix Y).toNat : Int) (wrap64 (i + 1)) := by
    intro k i Y hi
    simp only [ddiref18_Sum.l1]
    rw [if_pos hi, quo_int, mix_int]
  rw [r _ _ _ (by decide), show wrap64 (0 + 1) = 1 from by decide +kernel, r _ _ _ (by decide), show wrap64 (1 + 1) = 2 from by decide +kernel, r _ _ _ (by decide), show wrap64 (2 + 1) = 3 from by decide +kernel]
  simp only [ddiref18_Sum.l1]
  rw [if_neg (by decide)]
theorem ddiref18_Sum_l0 (s : ByteArray) (hn : s.size ≤ 1000000000000000000) : ∀ (l : List UInt8) (i : Nat) (X : BitVec 64) (k : Nat), s.data.toList.drop i = l → l.length + 5 ≤ k → ddiref18_Sum.l0 k s (X.toNat : Int) (i : Int) = some ((dmix (dmix (dmix (l.foldl dstep X)))).toNat : Int) := by
  intro l
  induction l with
  | nil =>
    intro i X k h hk
    obtain ⟨k, rfl⟩ : ∃ m, k = m + 5 := ⟨k - 5, by simp at hk; omega⟩
    simp only [ddiref18_Sum.l0]
    rw [if_neg (at_end s i h)]
    exact ddiref18_Sum_l1 k X
  | cons b l ih =>
    intro i X k h hk
    obtain ⟨k, rfl⟩ : ∃ m, k = m + 1 := ⟨k - 1, by simp at hk; omega⟩
    obtain ⟨hi, hb, ht⟩ := bt_get s i b l h
    simp only [ddiref18_Sum.l0]
    rw [if_pos (by omega), if_pos (by omega), hb, step_int, wrap_inc i s.size hi hn]
    exact ih (i + 1) (dstep X b) k ht (by simp at hk; omega)
theorem ddiref18_Sum_all (s : ByteArray) (hn : s.size ≤ 1000000000000000000) (k : Nat) (hk : s.size + 5 ≤ k) : ddiref18_Sum.f k s = some ((dsum s.data.toList).toNat : Int) :=
  by
  have h := ddiref18_Sum_l0 s hn s.data.toList 0 14695981039346656037#64 k rfl (by simpa using hk)
  have e : ((14695981039346656037#64).toNat : Int) = 14695981039346656037 := by decide
  rw [e] at h
  exact h
theorem digest_Mac_all (a b : ByteArray) (ha : a.size ≤ 140737488351232) (hb : b.size ≤ 140737488351232) (k : Nat) (hk : a.size + b.size + 20 ≤ k) :
    digest_Mac.f k a b = some (strOfNums (eight ((dsum (((strOfNums (eight (IntKind.u64.wrap (a.size : Int)))) ++ a) ++ b).data.toList).toNat : Int))) := by
  have h8 := eight_size (IntKind.u64.wrap (a.size : Int))
  unfold digest_Mac.f
  rw [digest_Text_all _ k (by omega)]
  simp only [Option.bind_some]
  rw [if_pos (by omega), if_pos (by simp only [ByteArray.size_append]; omega), digest_Sum_all _ (by simp only [ByteArray.size_append]; omega) k (by simp only [ByteArray.size_append]; omega)]
  simp only [Option.bind_some]
  rw [digest_Text_all _ k (by omega)]
  rfl
theorem ddiref18_Text_at (n : Int) (h0 : 0 ≤ n) (h1 : n < 18446744073709551616) : ddiref18_Text.f 9 n = some (strOfNums (eight n)) := by
  have q : ∀ m : Int, 0 ≤ m → m < 18446744073709551616 → IntKind.u64.wrap (Int.tdiv m 256) = m / 256 := fun m a b => IntWalk.u64_quo _ _ (by omega)
  have t : ∀ m : Int, 0 ≤ m → Int.tmod m 256 % 256 = m % 256 := fun m a => by rw [Int.tmod_eq_emod_of_nonneg a]; omega
  have r : ∀ (k : Nat) (m : Int) (l : List Int) (i : Nat) (j : Int), 0 ≤ m → m < 18446744073709551616 → l.length = 8 → i < 8 → wrap64 ((i : Int) - 1) = j → ddiref18_Text.l0 (k + 1) m l (i : Int) = ddiref18_Text.l0 k (m / 256) (l.set i (m % 256)) j := by
    intro k m l i j a b hl hi hj
    simp only [ddiref18_Text.l0]
    rw [if_pos (by omega), if_pos (by omega), if_pos (by omega), q m a b, t m a, hj]
    rfl
  unfold ddiref18_Text.f
  rw [if_pos (by decide)]
  have s7 := r 8 n (List.replicate 8 0) 7 6 h0 h1 (by simp) (by decide) (by decide +kernel)
  have s6 := r 7 (n / 256) [0, 0, 0, 0, 0, 0, 0, n % 256] 6 5 (by omega) (by omega) rfl (by decide) (by decide +kernel)
  have s5 := r 6 (n / 256 / 256) [0, 0, 0, 0, 0, 0, n / 256 % 256, n % 256] 5 4 (by omega) (by omega) rfl (by decide) (by decide +kernel)
  have s4 := r 5 (n / 256 / 256 / 256) [0, 0, 0, 0, 0, n / 256 / 256 % 256, n / 256 % 256, n % 256] 4 3 (by omega) (by omega) rfl (by decide) (by decide +kernel)
  have s3 := r 4 (n / 256 / 256 / 256 / 256) [0, 0, 0, 0, n / 256 / 256 / 256 % 256, n / 256 / 256 % 256, n / 256 % 256, n % 256] 3 2 (by omega) (by omega) rfl (by decide) (by decide +kernel)
  have s2 := r 3 (n / 256 / 256 / 256 / 256 / 256) [0, 0, 0, n / 256 / 256 / 256 / 256 % 256, n / 256 / 256 / 256 % 256, n / 256 / 256 % 256, n / 256 % 256, n % 256] 2 1 (by omega) (by omega) rfl (by decide) (by decide +kernel)
  have s1 := r 2 (n / 256 / 256 / 256 / 256 / 256 / 256) [0, 0, n / 256 / 256 / 256 / 256 / 256 % 256, n / 256 / 256 / 256 / 256 % 256, n / 256 / 256 / 256 % 256, n / 256 / 256 % 256, n / 256 % 256, n % 256] 1 0 (by omega) (by omega) rfl (by decide) (by decide +kernel)
  have s0 := r 1 (n / 256 / 256 / 256 / 256 / 256 / 256 / 256) [0, n / 256 / 256 / 256 / 256 / 256 / 256 % 256, n / 256 / 256 / 256 / 256 / 256 % 256, n / 256 / 256 / 256 / 256 % 256, n / 256 / 256 / 256 % 256, n / 256 / 256 % 256, n / 256 % 256, n % 256] 0 (-1) (by omega) (by omega) rfl (by decide) (by decide +kernel)
  refine s7.trans (s6.trans (s5.trans (s4.trans (s3.trans (s2.trans (s1.trans (s0.trans ?_)))))))
  have e : eight n = [n / 256 / 256 / 256 / 256 / 256 / 256 / 256 % 256, n / 256 / 256 / 256 / 256 / 256 / 256 % 256, n / 256 / 256 / 256 / 256 / 256 % 256, n / 256 / 256 / 256 / 256 % 256, n / 256 / 256 / 256 % 256, n / 256 / 256 % 256, n / 256 % 256, n % 256] := by
    unfold eight
    simp only [List.cons.injEq, and_true]
    repeat' constructor
    all_goals omega
  rw [e]
  rfl
theorem ddiref18_Text_all (n : Int) (h0 : 0 ≤ n) (h1 : n < 18446744073709551616) (k : Nat) (hk : 9 ≤ k) : ddiref18_Text.f k n = some (strOfNums (eight n)) := at_rounds (ddiref18_Text.mono n) hk (ddiref18_Text_at n h0 h1)
theorem ddiref18_Mac_all (a b : ByteArray) (ha : a.size ≤ 140737488351232) (hb : b.size ≤ 140737488351232) (k : Nat) (hk : a.size + b.size + 20 ≤ k) :
    ddiref18_Mac.f k a b = some (strOfNums (eight ((dsum (((strOfNums (eight (IntKind.u64.wrap (a.size : Int)))) ++ a) ++ b).data.toList).toNat : Int))) := by
  have h8 := eight_size (IntKind.u64.wrap (a.size : Int))
  unfold ddiref18_Mac.f
  rw [ddiref18_Text_all _ (w64_range _).1 (w64_range _).2 k (by omega)]
  simp only [Option.bind_some]
  rw [if_pos (by omega), if_pos (by simp only [ByteArray.size_append]; omega), ddiref18_Sum_all _ (by simp only [ByteArray.size_append]; omega) k (by simp only [ByteArray.size_append]; omega)]
  simp only [Option.bind_some]
  rw [ddiref18_Text_all _ (by omega) (by have := (dsum (((strOfNums (eight (IntKind.u64.wrap (a.size : Int)))) ++ a) ++ b).data.toList).isLt; omega) k (by omega)]
  rfl
end OfDigestMacs
open OfDigestMacs
theorem macs_of (a b : ByteArray) (k : Nat) (x : ByteArray) (h1 : digest_Mac.f k a b = some x) (h2 : ddiref18_Mac.f k a b = some x) (h3 : ddilaw18_awake.f k = some true) : ddilaw18_DigestMacs.f k a b = some true := by
  unfold ddilaw18_DigestMacs.f
  rw [h1, h2]
  simp only [Option.bind_some]
  rw [if_pos trivial, h3, Option.bind_some]
theorem DigestMacs : ddilaw18_DigestMacs.Pure := by
  intro a b ha hb
  obtain ⟨k, hk⟩ : ∃ k, a.size + b.size + 40 ≤ k := ⟨_, Nat.le_refl _⟩
  exact ⟨k, macs_of a b k _ (digest_Mac_all a b ha hb k (by omega)) (ddiref18_Mac_all a b ha hb k (by omega)) (awake k (by omega))⟩
end Go.Proofs.Ytghhhpcdakdjjaa.Pure
