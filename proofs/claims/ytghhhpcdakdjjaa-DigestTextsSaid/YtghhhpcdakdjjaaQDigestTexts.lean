/- Text has eight bytes, and these are its number, the most significant one first. Condition: none but the row's own bound on the size of a string. -/
import Derived.Test.YtghhhpcdakdjjaaMDigestTextsx1
import Derived.Test.YtghhhpcdakdjjaaDg
namespace Go.Proofs.Ytghhhpcdakdjjaa.Pure
open Go.RowKit Go.Proofs.Ytghhhpcdakdjjaa.MDigestTexts Go.Proofs.Ytghhhpcdakdjjaa.Dg Go.Proofs.YtghhhpcdakdjjaaW.PrintWords Go.Proofs.YtghhhpcdakdjjaaW.PrintLast Go.Proofs.YtghhhpcdakdjjaaW.PrintMore
namespace OfDigestTexts
theorem bt_get (s : ByteArray) (i : Nat) (b : UInt8) (l : List UInt8) (h : s.data.toList.drop i = b :: l) : i < s.size ∧ bt s (i : Int) = (b.toNat : Int) ∧ s.data.toList.drop (i + 1) = l := by
  have hl : i < s.data.toList.length := by
    have := congrArg List.length h
    simp at this
    simp; omega
  have e := List.drop_eq_getElem_cons hl
  rw [h] at e
  injection e with e1 e2
  have hs : i < s.size := by simpa using hl
  refine ⟨hs, ?_, e2.symm⟩
  rw [← bt_at s i (by simpa using hs), e1]
  simp
  rfl
theorem at_end (s : ByteArray) (i : Nat) (h : s.data.toList.drop i = []) : ¬ (i : Int) < (s.size : Int) := by
  have := List.drop_eq_nil_iff.1 h
  simp at this
  have e : s.data.size = s.size := rfl
  omega
theorem wrap_inc (i n : Nat) (h : i < n) (hn : n ≤ 1000000000000000000) : wrap64 ((i : Int) + 1) = ((i + 1 : Nat) : Int) := by
  unfold wrap64; omega
theorem digest_Sum_l1 (k : Nat) (X : BitVec 64) : digest_Sum.l1 (k + 4) (X.toNat : Int) 0 = some ((dmix (dmix (dmix X))).toNat : Int) := by
  have r : ∀ (k : Nat) (i : Int) (Y : BitVec 64), i < 3 → digest_Sum.l1 (k + 1) (Y.toNat : Int) i = digest_Sum.l1 k ((dmix Y).toNat : Int) (wrap64 (i + 1)) := by
    intro k i Y hi
    simp only [digest_Sum.l1]
    rw [if_pos hi, mix_int]
  rw [r _ _ _ (by decide), show wrap64 (0 + 1) = 1 from by decide +kernel, r _ _ _ (by decide), show wrap64 (1 + 1) = 2 from by decide +kernel, r _ _ _ (by decide), show wrap64 (2 + 1) = 3 from by decide +kernel]
  simp only [digest_Sum.l1]
  rw [if_neg (by decide)]
theorem digest_Sum_l0 (s : ByteArray) (hn : s.size ≤ 1000000000000000000) : ∀ (l : List UInt8) (i : Nat) (X : BitVec 64) (k : Nat), s.data.toList.drop i = l → l.length + 5 ≤ k → digest_Sum.l0 k s (X.toNat : Int) (i : Int) = some ((dmix (dmix (dmix (l.foldl dstep X)))).toNat : Int) := by
  intro l
  induction l with
  | nil =>
    intro i X k h hk
    obtain ⟨k, rfl⟩ : ∃ m, k = m + 5 := ⟨k - 5, by simp at hk; omega⟩
    simp only [digest_Sum.l0]
    rw [if_neg (at_end s i h)]
    exact digest_Sum_l1 k X
  | cons b l ih =>
    intro i X k h hk
    obtain ⟨k, rfl⟩ : ∃ m, k = m + 1 := ⟨k - 1, by simp at hk; omega⟩
    obtain ⟨hi, hb, ht⟩ := bt_get s i b l h
    simp only [digest_Sum.l0]
    rw [if_pos (by omega), if_pos (by omega), hb, step_int, wrap_inc i s.size hi hn]
    exact ih (i + 1) (dstep X b) k ht (by simp at hk; omega)
theorem digest_Sum_all (s : ByteArray) (hn : s.size ≤ 1000000000000000000) (k : Nat) (hk : s.size + 5 ≤ k) : digest_Sum.f k s = some ((dsum s.data.toList).toNat : Int) :=
  by
  have h := digest_Sum_l0 s hn s.data.toList 0 14695981039346656037#64 k rfl (by simpa using hk)
  have e : ((14695981039346656037#64).toNat : Int) = 14695981039346656037 := by decide
  rw [e] at h
  exact h
theorem awake_at : ddilaw18_awake.f 30 = some true := by decide +kernel
theorem awake (k : Nat) (hk : 30 ≤ k) : ddilaw18_awake.f k = some true := at_rounds ddilaw18_awake.mono hk awake_at
/-- The eight bytes of a number. -/
def eight (n : Int) : List Int := [n / 72057594037927936 % 256, n / 281474976710656 % 256, n / 1099511627776 % 256, n / 4294967296 % 256, n / 16777216 % 256, n / 65536 % 256, n / 256 % 256, n % 256]
theorem digest_Text_at (n : Int) : digest_Text.f 9 n = some (strOfNums (eight n)) := by
  have e : digest_Text.f 9 n = some (strOfNums [n / 2 ^ 56 % 256, n / 2 ^ 48 % 256, n / 2 ^ 40 % 256, n / 2 ^ 32 % 256, n / 2 ^ 24 % 256, n / 2 ^ 16 % 256, n / 2 ^ 8 % 256, n / 2 ^ 0 % 256]) := by kernel_rfl
  rw [e, eight]
  simp
theorem digest_Text_all (n : Int) (k : Nat) (hk : 9 ≤ k) : digest_Text.f k n = some (strOfNums (eight n)) := at_rounds (digest_Text.mono n) hk (digest_Text_at n)
theorem eight_size (n : Int) : (strOfNums (eight n)).size = 8 := by simp [strOfNums, eight, ByteArray.size]
theorem or_byte (m b : Int) (h0 : 0 ≤ m) (h1 : m < 72057594037927936) (h2 : 0 ≤ b) (h3 : b < 256) : Go.bits .or .u64 (IntKind.u64.wrap (m * 256)) (IntKind.u64.wrap b) = m * 256 + b := by
  rw [IntWalk.u64_in (m * 256) (by omega), IntWalk.u64_in b (by omega)]
  have e : Go.bits .or .u64 (m * 256) b = IntKind.u64.wrap (((BitVec.ofInt 64 (m * 256) ||| BitVec.ofInt 64 b).toNat : Nat) : Int) := rfl
  obtain ⟨m, rfl⟩ := Int.eq_ofNat_of_zero_le h0
  obtain ⟨b, rfl⟩ := Int.eq_ofNat_of_zero_le h2
  have h : (BitVec.ofInt 64 ((m : Int) * 256) ||| BitVec.ofInt 64 (b : Int)).toNat = m * 256 + b := by
    rw [BitVec.toNat_or, BitVec.toNat_ofInt, BitVec.toNat_ofInt]
    have a1 : ((m : Int) * 256 % ((2 ^ 64 : Nat) : Int)).toNat = 2 ^ 8 * m := by omega
    have a2 : ((b : Int) % ((2 ^ 64 : Nat) : Int)).toNat = b := by omega
    rw [a1, a2, ← Nat.two_pow_add_eq_or_of_lt (by omega)]
    omega
  rw [e, h, IntWalk.u64_in _ (by omega)]
  omega
theorem bt_nums (xs : List Int) (i : Nat) (h : i < xs.length) : bt (strOfNums xs) (i : Int) = (((UInt8.ofNat (xs[i]).toNat).toNat : Nat) : Int) := by
  have hs : (strOfNums xs).size = xs.length := by simp [strOfNums, ByteArray.size]
  rw [← bt_at (strOfNums xs) i (by rw [hs]; simpa using h)]
  congr 2
  have e : (strOfNums xs).data = (List.map (fun n : Int => UInt8.ofNat n.toNat) xs).toArray := rfl
  simp [ByteArray.getElem_eq_getElem_data, e]
end OfDigestTexts
open OfDigestTexts
theorem round (k : Nat) (n m b : Int) (i : Nat) (hi : i < 8) (h0 : 0 ≤ m) (h1 : m < 72057594037927936) (hb : (eight n)[i]? = some b) (b0 : 0 ≤ b) (b1 : b < 256) :
    ddilaw18_DigestTexts.l0 (k + 1) n (strOfNums (eight n)) m (i : Int) = ddilaw18_DigestTexts.l0 k n (strOfNums (eight n)) (m * 256 + b) ((i + 1 : Nat) : Int) := by
  have hl : i < (eight n).length := by simpa [eight] using hi
  have hv : bt (strOfNums (eight n)) (i : Int) = b := by
    rw [bt_nums _ i hl]
    have : (eight n)[i] = b := by rw [List.getElem?_eq_getElem hl] at hb; exact Option.some.inj hb
    rw [this, UInt8.toNat_ofNat']
    omega
  simp only [ddilaw18_DigestTexts.l0]
  rw [eight_size, if_pos (by omega), if_pos (by omega), hv, or_byte m b h0 h1 b0 b1, wrap_inc i 8 hi (by omega)]
theorem texts_end (k : Nat) (n m : Int) (i : Nat) (hi : i = 8) (hm : m = n) (h3 : ddilaw18_awake.f k = some true) : ddilaw18_DigestTexts.l0 (k + 1) n (strOfNums (eight n)) m (i : Int) = some true := by
  simp only [ddilaw18_DigestTexts.l0]
  rw [eight_size, if_neg (by omega), if_pos (by decide), if_pos hm, h3, Option.bind_some]
theorem DigestTexts : ddilaw18_DigestTexts.Pure := by
  intro n hn
  obtain ⟨k, hk⟩ : ∃ k, 40 ≤ k := ⟨_, Nat.le_refl _⟩
  have hr : 0 ≤ n ∧ n < 18446744073709551616 := by
    simp [Lit.wf, IntKind.min, IntKind.max, IntKind.bits, IntKind.signed] at hn
    omega
  refine ⟨k + 9, ?_⟩
  unfold ddilaw18_DigestTexts.f
  rw [digest_Text_all _ _ (by omega), Option.bind_some]
  refine (round (k + 8) n 0 _ 0 (by omega) (by omega) (by omega) rfl (by omega) (by omega)).trans ?_
  refine (round (k + 7) n _ _ 1 (by omega) (by omega) (by omega) rfl (by omega) (by omega)).trans ?_
  refine (round (k + 6) n _ _ 2 (by omega) (by omega) (by omega) rfl (by omega) (by omega)).trans ?_
  refine (round (k + 5) n _ _ 3 (by omega) (by omega) (by omega) rfl (by omega) (by omega)).trans ?_
  refine (round (k + 4) n _ _ 4 (by omega) (by omega) (by omega) rfl (by omega) (by omega)).trans ?_
  refine (round (k + 3) n _ _ 5 (by omega) (by omega) (by omega) rfl (by omega) (by omega)).trans ?_
  refine (round (k + 2) n _ _ 6 (by omega) (by omega) (by omega) rfl (by omega) (by omega)).trans ?_
  refine (round (k + 1) n _ _ 7 (by omega) (by omega) (by omega) rfl (by omega) (by omega)).trans ?_
  exact texts_end k n _ 8 rfl (by omega) (awake k (by omega))
end Go.Proofs.Ytghhhpcdakdjjaa.Pure
