/- Sum returns the digest that the reference returns, for every string. Condition: none but the row's own bound on the size of a string. -/
import Derived.Test.YtghhhpcdakdjjaaMDigestSumsx1
import Derived.Test.YtghhhpcdakdjjaaDg
namespace Go.Proofs.Ytghhhpcdakdjjaa.Pure
open Go.RowKit Go.Proofs.Ytghhhpcdakdjjaa.MDigestSums Go.Proofs.Ytghhhpcdakdjjaa.Dg Go.Proofs.YtghhhpcdakdjjaaW.PrintWords Go.Proofs.YtghhhpcdakdjjaaW.PrintLast Go.Proofs.YtghhhpcdakdjjaaW.PrintMore
namespace OfDigestSums
theorem bt_get (s : ByteArray) (i : Nat) (b : UInt8) (l : List UInt8) (h : s.data.toList.drop i = b :: l) : i < s.size ∧ bt s (i : Int) = (b.toNat : Int) ∧ s.data.toList.drop (i + 1) = l := by
  have hl : i < s.data.toList.length := by
    have := congrArg List.length h
    simp at this
    simp; omega
  have e := List.drop_eq_getElem_cons hl
  rw [h] at e
  injection e with e1 e2
  have hs : i < s.size := by simpa using hl
  refine ⟨hs, ?_, e2.symm⟩
  rw [← bt_at s i (by simpa using hs), e1]
  simp
  rfl
theorem at_end (s : ByteArray) (i : Nat) (h : s.data.toList.drop i = []) : ¬ (i : Int) < (s.size : Int) := by
  have := List.drop_eq_nil_iff.1 h
  simp at this
  have e : s.data.size = s.size := rfl
  omega
theorem wrap_inc (i n : Nat) (h : i < n) (hn : n ≤ 1000000000000000000) : wrap64 ((i : Int) + 1) = ((i + 1 : Nat) : Int) := by
  unfold wrap64; omega
theorem digest_Sum_l1 (k : Nat) (X : BitVec 64) : digest_Sum.l1 (k + 4) (X.toNat : Int) 0 = some ((dmix (dmix (dmix X))).toNat : Int) := by
  have r : ∀ (k : Nat) (i : Int) (Y : BitVec 64), i < 3 → digest_Sum.l1 (k + 1) (Y.toNat : Int) i = digest_Sum.l1 k ((dmix Y).toNat : Int) (wrap64 (i + 1)) := by
    intro k i Y hi
    simp only [digest_Sum.l1]
    rw [if_pos hi, mix_int]
  rw [r _ _ _ (by decide), show wrap64 (0 + 1) = 1 from by decide +kernel, r _ _ _ (by decide), show wrap64 (1 + 1) = 2 from by decide +kernel, r _ _ _ (by decide), show wrap64 (2 + 1) = 3 from by decide +kernel]
  simp only [digest_Sum.l1]
  rw [if_neg (by decide)]
theorem digest_Sum_l0 (s : ByteArray) (hn : s.size ≤ 1000000000000000000) : ∀ (l : List UInt8) (i : Nat) (X : BitVec 64) (k : Nat), s.data.toList.drop i = l → l.length + 5 ≤ k → digest_Sum.l0 k s (X.toNat : Int) (i : Int) = some ((dmix (dmix (dmix (l.foldl dstep X)))).toNat : Int) := by
  intro l
  induction l with
  | nil =>
    intro i X k h hk
    obtain ⟨k, rfl⟩ : ∃ m, k = m + 5 := ⟨k - 5, by simp at hk; omega⟩
    simp only [digest_Sum.l0]
    rw [if_neg (at_end s i h)]
    exact digest_Sum_l1 k X
  | cons b l ih =>
    intro i X k h hk
    obtain ⟨k, rfl⟩ : ∃ m, k = m + 1 := ⟨k - 1, by simp at hk; omega⟩
    obtain ⟨hi, hb, ht⟩ := bt_get s i b l h
    simp only [digest_Sum.l0]
    rw [if_pos (by omega), if_pos (by omega), hb, step_int, wrap_inc i s.size hi hn]
    exact ih (i + 1) (dstep X b) k ht (by simp at hk; omega)
theorem digest_Sum_all (s : ByteArray) (hn : s.size ≤ 1000000000000000000) (k : Nat) (hk : s.size + 5 ≤ k) : digest_Sum.f k s = some ((dsum s.data.toList).toNat : Int) :=
  by
  have h := digest_Sum_l0 s hn s.data.toList 0 14695981039346656037#64 k rfl (by simpa using hk)
  have e : ((14695981039346656037#64).toNat : Int) = 14695981039346656037 := by decide
  rw [e] at h
  exact h
theorem awake_at : ddilaw18_awake.f 30 = some true := by decide +kernel
theorem awake (k : Nat) (hk : 30 ≤ k) : ddilaw18_awake.f k = some true := at_rounds ddilaw18_awake.mono hk awake_at
theorem ddiref18_Sum_l1 (k : Nat) (X : BitVec 64) : ddiref18_Sum.l1 (k + 4) (X.toNat : Int) 0 = some ((dmix (dmix (dmix X))).toNat : Int) := by
  have r : ∀ (k : Nat) (i : Int) (Y : BitVec 64), i < 3 → ddiref18_Sum.l1 (k + 1) (Y.toNat : Int) i = ddiref18_Sum.l1 k ((dmix Y).toNat : Int) (wrap64 (i + 1)) := by
    intro k i Y hi
    simp only [ddiref18_Sum.l1]
    rw [if_pos hi, quo_int, mix_int]
  rw [r _ _ _ (by decide), show wrap64 (0 + 1) = 1 from by decide +kernel, r _ _ _ (by decide), show wrap64 (1 + 1) = 2 from by decide +kernel, r _ _ _ (by decide), show wrap64 (2 + 1) = 3 from by decide +kernel]
  simp only [ddiref18_Sum.l1]
  rw [if_neg (by decide)]
theorem ddiref18_Sum_l0 (s : ByteArray) (hn : s.size ≤ 1000000000000000000) : ∀ (l : List UInt8) (i : Nat) (X : BitVec 64) (k : Nat), s.data.toList.drop i = l → l.length + 5 ≤ k → ddiref18_Sum.l0 k s (X.toNat : Int) (i : Int) = some ((dmix (dmix (dmix (l.foldl dstep X)))).toNat : Int) := by
  intro l
  induction l with
  | nil =>
    intro i X k h hk
    obtain ⟨k, rfl⟩ : ∃ m, k = m + 5 := ⟨k - 5, by simp at hk; omega⟩
    simp only [ddiref18_Sum.l0]
    rw [if_neg (at_end s i h)]
    exact ddiref18_Sum_l1 k X
  | cons b l ih =>
    intro i X k h hk
    obtain ⟨k, rfl⟩ : ∃ m, k = m + 1 := ⟨k - 1, by simp at hk; omega⟩
    obtain ⟨hi, hb, ht⟩ := bt_get s i b l h
    simp only [ddiref18_Sum.l0]
    rw [if_pos (by omega), if_pos (by omega), hb, step_int, wrap_inc i s.size hi hn]
    exact ih (i + 1) (dstep X b) k ht (by simp at hk; omega)
theorem ddiref18_Sum_all (s : ByteArray) (hn : s.size ≤ 1000000000000000000) (k : Nat) (hk : s.size + 5 ≤ k) : ddiref18_Sum.f k s = some ((dsum s.data.toList).toNat : Int) :=
  by
  have h := ddiref18_Sum_l0 s hn s.data.toList 0 14695981039346656037#64 k rfl (by simpa using hk)
  have e : ((14695981039346656037#64).toNat : Int) = 14695981039346656037 := by decide
  rw [e] at h
  exact h
end OfDigestSums
open OfDigestSums
theorem sums_of (a : ByteArray) (k : Nat) (x : Int) (h1 : digest_Sum.f k a = some x) (h2 : ddiref18_Sum.f k a = some x) (h3 : ddilaw18_awake.f k = some true) : ddilaw18_DigestSums.f k a = some true := by
  unfold ddilaw18_DigestSums.f
  rw [h1, h2]
  simp only [Option.bind_some]
  rw [if_pos trivial, h3, Option.bind_some]
theorem DigestSums : ddilaw18_DigestSums.Pure := by
  intro a h
  obtain ⟨k, hk⟩ : ∃ k, a.size + 40 ≤ k := ⟨_, Nat.le_refl _⟩
  exact ⟨k, sums_of a k _ (digest_Sum_all a (by omega) k (by omega)) (ddiref18_Sum_all a (by omega) k (by omega)) (awake k (by omega))⟩
end Go.Proofs.Ytghhhpcdakdjjaa.Pure
