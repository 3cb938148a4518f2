/- Mac is Text of the digest of the length of the key, the key and the string. Condition: none but the row's own bound on the size of a string. -/
import Derived.Test.YtghhhpcdakdjjaaMDigestJoinedx1
import Derived.Test.YtghhhpcdakdjjaaDg
namespace Go.Proofs.Ytghhhpcdakdjjaa.Pure
open Go.RowKit Go.Proofs.Ytghhhpcdakdjjaa.MDigestJoined Go.Proofs.Ytghhhpcdakdjjaa.Dg Go.Proofs.YtghhhpcdakdjjaaW.PrintWords Go.Proofs.YtghhhpcdakdjjaaW.PrintLast Go.Proofs.YtghhhpcdakdjjaaW.PrintMore
namespace OfDigestJoined
theorem bt_get (s : ByteArray) (i : Nat) (b : UInt8) (l : List UInt8) (h : s.data.toList.drop i = b :: l) : i < s.size ∧ bt s (i : Int) = (b.toNat : Int) ∧ s.data.toList.drop (i + 1) = l := by
  have hl : i < s.data.toList.length := by
    have := congrArg List.length h
    simp at this
    simp; omega
  have e := List.drop_eq_getElem_cons hl
  rw [h] at e
  injection e with e1 e2
  have hs : i < s.size := by simpa using hl
  refine ⟨hs, ?_, e2.symm⟩
  rw [← bt_at s i (by simpa using hs), e1]
  simp
  rfl
theorem at_end (s : ByteArray) (i : Nat) (h : s.data.toList.drop i = []) : ¬ (i : Int) < (s.size : Int) := by
  have := List.drop_eq_nil_iff.1 h
  simp at this
  have e : s.data.size = s.size := rfl
  omega
theorem wrap_inc (i n : Nat) (h : i < n) (hn : n ≤ 1000000000000000000) : wrap64 ((i : Int) + 1) = ((i + 1 : Nat) : Int) := by
  unfold wrap64; omega
theorem digest_Sum_l1 (k : Nat) (X : BitVec 64) : digest_Sum.l1 (k + 4) (X.toNat : Int) 0 = some ((dmix (dmix (dmix X))).toNat : Int) := by
  have r : ∀ (k : Nat) (i : Int) (Y : BitVec 64), i < 3 → digest_Sum.l1 (k + 1) (Y.toNat : Int) i = digest_Sum.l1 k ((dmix Y).toNat : Int) (wrap64 (i + 1)) := by
    intro k i Y hi
    simp only [digest_Sum.l1]
    rw [if_pos hi, mix_int]
  rw [r _ _ _ (by decide), show wrap64 (0 + 1) = 1 from by decide +kernel, r _ _ _ (by decide), show wrap64 (1 + 1) = 2 from by decide +kernel, r _ _ _ (by decide), show wrap64 (2 + 1) = 3 from by decide +kernel]
  simp only [digest_Sum.l1]
  rw [if_neg (by decide)]
theorem digest_Sum_l0 (s : ByteArray) (hn : s.size ≤ 1000000000000000000) : ∀ (l : List UInt8) (i : Nat) (X : BitVec 64) (k : Nat), s.data.toList.drop i = l → l.length + 5 ≤ k → digest_Sum.l0 k s (X.toNat : Int) (i : Int) = some ((dmix (dmix (dmix (l.foldl dstep X)))).toNat : Int) := by
  intro l
  induction l with
  | nil =>
    intro i X k h hk
    obtain ⟨k, rfl⟩ : ∃ m, k = m + 5 := ⟨k - 5, by simp at hk; omega⟩
    simp only [digest_Sum.l0]
    rw [if_neg (at_end s i h)]
    exact digest_Sum_l1 k X
  | cons b l ih =>
    intro i X k h hk
    obtain ⟨k, rfl⟩ : ∃ m, k = m + 1 := ⟨k - 1, by simp at hk; omega⟩
    obtain ⟨hi, hb, ht⟩ := bt_get s i b l h
    simp only [digest_Sum.l0]
    rw [if_pos (by omega), if_pos (by omega), hb, step_int, wrap_inc i s.size hi hn]
    exact ih (i + 1) (dstep X b) k ht (by simp at hk; omega)
theorem digest_Sum_all (s : ByteArray) (hn : s.size ≤ 1000000000000000000) (k : Nat) (hk : s.size + 5 ≤ k) : digest_Sum.f k s = some ((dsum s.data.toList).toNat : Int) :=
  by
  have h := digest_Sum_l0 s hn s.data.toList 0 14695981039346656037#64 k rfl (by simpa using hk)
  have e : ((14695981039346656037#64).toNat : Int) = 14695981039346656037 := by decide
  rw [e] at h
  exact h
theorem awake_at : ddilaw18_awake.f 30 = some true := by decide +kernel
theorem awake (k : Nat) (hk : 30 ≤ k) : ddilaw18_awake.f k = some true := at_rounds ddilaw18_awake.mono hk awake_at
/-- The eight bytes of a number. -/
def eight (n : Int) : List Int := [n / 72057594037927936 % 256, n / 281474976710656 % 256, n / 1099511627776 % 256, n / 4294967296 % 256, n / 16777216 % 256, n / 65536 % 256, n / 256 % 256, n % 256]
theorem digest_Text_at (n : Int) : digest_Text.f 9 n = some (strOfNums (eight n)) := by
  have e : digest_Text.f 9 n = some (strOfNums [n / 2 ^ 56 % 256, n / 2 ^ 48 % 256, n / 2 ^ 40 % 256, n / 2 ^ 32 % 256, n / 2 ^ 24 % 256, n / 2 ^ 16 % 256, n / 2 ^ 8 % 256, n / 2 ^ 0 % 256]) := by kernel_rfl
  rw [e, eight]
  simp
theorem digest_Text_all (n : Int) (k : Nat) (hk : 9 ≤ k) : digest_Text.f k n = some (strOfNums (eight n)) := at_rounds (digest_Text.mono n) hk (digest_Text_at n)
theorem eight_size (n : Int) : (strOfNums (eight n)).size = 8 := by simp [strOfNums, eight, ByteArray.size]
theorem digest_Mac_all (a b : ByteArray) (ha : a.size ≤ 140737488351232) (hb : b.size ≤ 140737488351232) (k : Nat) (hk : a.size + b.size + 20 ≤ k) :
    digest_Mac.f k a b = some (strOfNums (eight ((dsum (((strOfNums (eight (IntKind.u64.wrap (a.size : Int)))) ++ a) ++ b).data.toList).toNat : Int))) := by
  have h8 := eight_size (IntKind.u64.wrap (a.size : Int))
  unfold digest_Mac.f
  rw [digest_Text_all _ k (by omega)]
  simp only [Option.bind_some]
  rw [if_pos (by omega), if_pos (by simp only [ByteArray.size_append]; omega), digest_Sum_all _ (by simp only [ByteArray.size_append]; omega) k (by simp only [ByteArray.size_append]; omega)]
  simp only [Option.bind_some]
  rw [digest_Text_all _ k (by omega)]
  rfl
end OfDigestJoined
open OfDigestJoined
theorem joined_of (a b c : ByteArray) (k : Nat) (x : ByteArray) (y : Int) (h1 : digest_Mac.f k a b = some x) (h2 : digest_Text.f k (IntKind.u64.wrap (a.size : Int)) = some c) (h4 : c.size + a.size + b.size ≤ 9223372036854775807)
    (h5 : digest_Sum.f k (c ++ a ++ b) = some y) (h6 : digest_Text.f k y = some x) (h3 : ddilaw18_awake.f k = some true) : ddilaw18_DigestJoined.f k a b = some true := by
  unfold ddilaw18_DigestJoined.f
  rw [h1, h2]
  simp only [Option.bind_some]
  rw [if_pos (by omega), if_pos (by simp only [ByteArray.size_append]; omega), h5]
  simp only [Option.bind_some]
  rw [h6]
  simp only [Option.bind_some]
  rw [if_pos trivial, h3, Option.bind_some]
theorem DigestJoined : ddilaw18_DigestJoined.Pure := by
  intro a b ha hb
  obtain ⟨k, hk⟩ : ∃ k, a.size + b.size + 40 ≤ k := ⟨_, Nat.le_refl _⟩
  have h8 := eight_size (IntKind.u64.wrap (a.size : Int))
  exact ⟨k, joined_of a b _ k _ _ (digest_Mac_all a b ha hb k (by omega)) (digest_Text_all _ k (by omega)) (by omega) (digest_Sum_all _ (by simp only [ByteArray.size_append]; omega) k (by simp only [ByteArray.size_append]; omega)) (digest_Text_all _ k (by omega)) (awake k (by omega))⟩
end Go.Proofs.Ytghhhpcdakdjjaa.Pure
