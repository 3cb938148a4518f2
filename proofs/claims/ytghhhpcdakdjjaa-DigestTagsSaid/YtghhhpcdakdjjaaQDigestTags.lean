/- Tag returns the checksum that the reference returns, for every string. Condition: none but the row's own bound on the size of a string. -/
import Derived.Test.YtghhhpcdakdjjaaMDigestTagsx1
import Derived.Test.YtghhhpcdakdjjaaDg
namespace Go.Proofs.Ytghhhpcdakdjjaa.Pure
open Go.RowKit Go.Proofs.Ytghhhpcdakdjjaa.MDigestTags Go.Proofs.Ytghhhpcdakdjjaa.Dg Go.Proofs.YtghhhpcdakdjjaaW.PrintWords Go.Proofs.YtghhhpcdakdjjaaW.PrintLast Go.Proofs.YtghhhpcdakdjjaaW.PrintMore
namespace OfDigestTags
theorem bt_get (s : ByteArray) (i : Nat) (b : UInt8) (l : List UInt8) (h : s.data.toList.drop i = b :: l) : i < s.size ∧ bt s (i : Int) = (b.toNat : Int) ∧ s.data.toList.drop (i + 1) = l := by
  have hl : i < s.data.toList.length := by
    have := congrArg List.length h
    simp at this
    simp; omega
  have e := List.drop_eq_getElem_cons hl
  rw [h] at e
  injection e with e1 e2
  have hs : i < s.size := by simpa using hl
  refine ⟨hs, ?_, e2.symm⟩
  rw [← bt_at s i (by simpa using hs), e1]
  simp
  rfl
theorem at_end (s : ByteArray) (i : Nat) (h : s.data.toList.drop i = []) : ¬ (i : Int) < (s.size : Int) := by
  have := List.drop_eq_nil_iff.1 h
  simp at this
  have e : s.data.size = s.size := rfl
  omega
theorem wrap_inc (i n : Nat) (h : i < n) (hn : n ≤ 1000000000000000000) : wrap64 ((i : Int) + 1) = ((i + 1 : Nat) : Int) := by
  unfold wrap64; omega
theorem digest_Sum_l1 (k : Nat) (X : BitVec 64) : digest_Sum.l1 (k + 4) (X.toNat : Int) 0 = some ((dmix (dmix (dmix X))).toNat : Int) := by
  have r : ∀ (k : Nat) (i : Int) (Y : BitVec 64), i < 3 → digest_Sum.l1 (k + 1) (Y.toNat : Int) i = digest_Sum.l1 k ((dmix Y).toNat : Int) (wrap64 (i + 1)) := by
    intro k i Y hi
    simp only [digest_Sum.l1]
    rw [if_pos hi, mix_int]
  rw [r _ _ _ (by decide), show wrap64 (0 + 1) = 1 from by decide +kernel, r _ _ _ (by decide), show wrap64 (1 + 1) = 2 from by decide +kernel, r _ _ _ (by decide), show wrap64 (2 + 1) = 3 from by decide +kernel]
  simp only [digest_Sum.l1]
  rw [if_neg (by decide)]
theorem digest_Sum_l0 (s : ByteArray) (hn : s.size ≤ 1000000000000000000) : ∀ (l : List UInt8) (i : Nat) (X : BitVec 64) (k : Nat), s.data.toList.drop i = l → l.length + 5 ≤ k → digest_Sum.l0 k s (X.toNat : Int) (i : Int) = some ((dmix (dmix (dmix (l.foldl dstep X)))).toNat : Int) := by
  intro l
  induction l with
  | nil =>
    intro i X k h hk
    obtain ⟨k, rfl⟩ : ∃ m, k = m + 5 := ⟨k - 5, by simp at hk; omega⟩
    simp only [digest_Sum.l0]
    rw [if_neg (at_end s i h)]
    exact digest_Sum_l1 k X
  | cons b l ih =>
    intro i X k h hk
    obtain ⟨k, rfl⟩ : ∃ m, k = m + 1 := ⟨k - 1, by simp at hk; omega⟩
    obtain ⟨hi, hb, ht⟩ := bt_get s i b l h
    simp only [digest_Sum.l0]
    rw [if_pos (by omega), if_pos (by omega), hb, step_int, wrap_inc i s.size hi hn]
    exact ih (i + 1) (dstep X b) k ht (by simp at hk; omega)
theorem digest_Sum_all (s : ByteArray) (hn : s.size ≤ 1000000000000000000) (k : Nat) (hk : s.size + 5 ≤ k) : digest_Sum.f k s = some ((dsum s.data.toList).toNat : Int) :=
  by
  have h := digest_Sum_l0 s hn s.data.toList 0 14695981039346656037#64 k rfl (by simpa using hk)
  have e : ((14695981039346656037#64).toNat : Int) = 14695981039346656037 := by decide
  rw [e] at h
  exact h
theorem awake_at : ddilaw18_awake.f 30 = some true := by decide +kernel
theorem awake (k : Nat) (hk : 30 ≤ k) : ddilaw18_awake.f k = some true := at_rounds ddilaw18_awake.mono hk awake_at
/-- The sum of bytes, those at even places taken 256 times. -/
def tg : Bool → List UInt8 → Int
  | _, [] => 0
  | e, b :: l => (if e then 256 * (b.toNat : Int) else (b.toNat : Int)) + tg (!e) l
/-- The checksum of a sum. -/
def fin (x : Int) : Int := (x + x / 65536 % 65536) % 65536
theorem and16 (x : Int) : Go.bits .and .i64 x 65535 = x % 65536 := by
  have e : Go.bits .and .i64 x 65535 = IntKind.i64.wrap (((BitVec.ofInt 64 x &&& BitVec.ofInt 64 65535).toNat : Nat) : Int) := rfl
  have h : (BitVec.ofInt 64 x &&& BitVec.ofInt 64 65535).toNat = (x % 65536).toNat := by
    rw [BitVec.toNat_and, show (BitVec.ofInt 64 65535).toNat = 2 ^ 16 - 1 from by decide, Nat.and_two_pow_sub_one_eq_mod, BitVec.toNat_ofInt]
    omega
  rw [e, h, IntWalk.i64_in _ (by omega)]
  omega
theorem digest_Tag_l0 (s : ByteArray) (hn : s.size ≤ 140737488351232) : ∀ (l : List UInt8) (i : Nat) (n : Int) (k : Nat), s.data.toList.drop i = l → i ≤ s.size → 0 ≤ n → n ≤ 65280 * i → l.length + 1 ≤ k → digest_Tag.l0 k s n (i : Int) = some (fin (n + tg (i % 2 == 0) l)) := by
  intro l
  induction l with
  | nil =>
    intro i n k h hs h0 h1 hk
    obtain ⟨k, rfl⟩ : ∃ m, k = m + 1 := ⟨k - 1, by simp at hk; omega⟩
    simp only [digest_Tag.l0]
    rw [if_neg (at_end s i h), tg, Int.add_zero]
    rw [and16, and16]
    unfold fin
    congr 2
    apply IntWalk.wrap64_in
    omega
  | cons b l ih =>
    intro i n k h hs h0 h1 hk
    obtain ⟨k, rfl⟩ : ∃ m, k = m + 1 := ⟨k - 1, by simp at hk; omega⟩
    obtain ⟨hi, hb, ht⟩ := bt_get s i b l h
    have hlt := b.toNat_lt
    simp only [digest_Tag.l0]
    rw [if_pos (by omega), if_pos (show (0 : Int) ≤ (i : Int) by omega), if_pos (show (0 : Int) ≤ (i : Int) by omega), hb, wrap_inc i s.size hi (by omega)]
    have p : Int.tmod (i : Int) 2 = 0 ↔ (i % 2 == 0) = true := by
      rw [Int.tmod_eq_emod_of_nonneg (by omega)]; simp; omega
    have q : ((i + 1) % 2 == 0) = !(i % 2 == 0) := by
      rcases Nat.mod_two_eq_zero_or_one i with e | e <;> rw [Nat.add_mod, e] <;> rfl
    have wb : wrap64 (b.toNat : Int) = b.toNat := IntWalk.wrap64_in _ (by omega)
    rw [wb]
    cases e : (i % 2 == 0) with
    | true =>
      rw [if_pos (p.2 e)]
      rw [show wrap64 (n + wrap64 ((b.toNat : Int) * 256)) = n + 256 * (b.toNat : Int) from by
        rw [IntWalk.wrap64_in ((b.toNat : Int) * 256) (by omega), IntWalk.wrap64_in _ (by omega)]; omega]
      rw [ih (i + 1) _ k ht (by omega) (by omega) (by omega) (by simp at hk; omega), q, e, tg]
      simp only [if_true, Bool.not_true, Int.add_assoc]
    | false =>
      rw [if_neg (fun h => by rw [p.1 h] at e; cases e)]
      rw [show wrap64 (n + (b.toNat : Int)) = n + (b.toNat : Int) from IntWalk.wrap64_in _ (by omega)]
      rw [ih (i + 1) _ k ht (by omega) (by omega) (by omega) (by simp at hk; omega), q, e, tg]
      simp only [Bool.false_eq_true, if_false, Bool.not_false, Int.add_assoc]
theorem digest_Tag_all (s : ByteArray) (hn : s.size ≤ 140737488351232) (k : Nat) (hk : s.size + 1 ≤ k) : digest_Tag.f k s = some (fin (tg true s.data.toList)) := by
  have h := digest_Tag_l0 s hn s.data.toList 0 0 k rfl (by omega) (by omega) (by omega) (by simpa using hk)
  rw [Int.zero_add] at h
  exact h
theorem ddiref18_Tag_l0 (s : ByteArray) (hn : s.size ≤ 140737488351232) : ∀ (l : List UInt8) (i : Nat) (n : Int) (k : Nat), s.data.toList.drop i = l → i ≤ s.size → 0 ≤ n → n ≤ 65280 * i → l.length + 1 ≤ k → ddiref18_Tag.l0 k s n (i : Int) = some (fin (n + tg (i % 2 == 0) l)) := by
  intro l
  induction l with
  | nil =>
    intro i n k h hs h0 h1 hk
    obtain ⟨k, rfl⟩ : ∃ m, k = m + 1 := ⟨k - 1, by simp at hk; omega⟩
    simp only [ddiref18_Tag.l0]
    rw [if_neg (at_end s i h), tg, Int.add_zero]
    unfold fin
    have a1 : Int.tdiv n 65536 = n / 65536 := Int.tdiv_eq_ediv_of_nonneg h0
    have a2 : Int.tmod (n / 65536) 65536 = n / 65536 % 65536 := Int.tmod_eq_emod_of_nonneg (by omega)
    have a3 : Int.tmod (n + n / 65536 % 65536) 65536 = (n + n / 65536 % 65536) % 65536 := Int.tmod_eq_emod_of_nonneg (by omega)
    rw [a1, IntWalk.wrap64_in (n / 65536) (by omega), a2, IntWalk.wrap64_in _ (by omega), a3]
  | cons b l ih =>
    intro i n k h hs h0 h1 hk
    obtain ⟨k, rfl⟩ : ∃ m, k = m + 1 := ⟨k - 1, by simp at hk; omega⟩
    obtain ⟨hi, hb, ht⟩ := bt_get s i b l h
    have hlt := b.toNat_lt
    simp only [ddiref18_Tag.l0]
    rw [if_pos (by omega), if_pos (show (0 : Int) ≤ (i : Int) by omega), if_pos (show (0 : Int) ≤ (i : Int) by omega), hb, wrap_inc i s.size hi (by omega)]
    have p : Int.tmod (i : Int) 2 = 0 ↔ (i % 2 == 0) = true := by
      rw [Int.tmod_eq_emod_of_nonneg (by omega)]; simp; omega
    have q : ((i + 1) % 2 == 0) = !(i % 2 == 0) := by
      rcases Nat.mod_two_eq_zero_or_one i with e | e <;> rw [Nat.add_mod, e] <;> rfl
    have wb : wrap64 (b.toNat : Int) = b.toNat := IntWalk.wrap64_in _ (by omega)
    rw [wb]
    cases e : (i % 2 == 0) with
    | true =>
      rw [if_pos (p.2 e)]
      rw [show wrap64 (n + wrap64 (256 * (b.toNat : Int))) = n + 256 * (b.toNat : Int) from by
        rw [IntWalk.wrap64_in (256 * (b.toNat : Int)) (by omega), IntWalk.wrap64_in _ (by omega)]]
      rw [ih (i + 1) _ k ht (by omega) (by omega) (by omega) (by simp at hk; omega), q, e, tg]
      simp only [if_true, Bool.not_true, Int.add_assoc]
    | false =>
      rw [if_neg (fun h => by rw [p.1 h] at e; cases e)]
      rw [show wrap64 (n + (b.toNat : Int)) = n + (b.toNat : Int) from IntWalk.wrap64_in _ (by omega)]
      rw [ih (i + 1) _ k ht (by omega) (by omega) (by omega) (by simp at hk; omega), q, e, tg]
      simp only [Bool.false_eq_true, if_false, Bool.not_false, Int.add_assoc]
theorem ddiref18_Tag_all (s : ByteArray) (hn : s.size ≤ 140737488351232) (k : Nat) (hk : s.size + 1 ≤ k) : ddiref18_Tag.f k s = some (fin (tg true s.data.toList)) := by
  have h := ddiref18_Tag_l0 s hn s.data.toList 0 0 k rfl (by omega) (by omega) (by omega) (by simpa using hk)
  rw [Int.zero_add] at h
  exact h
end OfDigestTags
open OfDigestTags
theorem tags_of (a : ByteArray) (k : Nat) (x : Int) (h1 : digest_Tag.f k a = some x) (h2 : ddiref18_Tag.f k a = some x) (h3 : ddilaw18_awake.f k = some true) : ddilaw18_DigestTags.f k a = some true := by
  unfold ddilaw18_DigestTags.f
  rw [h1, h2]
  simp only [Option.bind_some]
  rw [if_pos trivial, h3, Option.bind_some]
theorem DigestTags : ddilaw18_DigestTags.Pure := by
  intro a h
  obtain ⟨k, hk⟩ : ∃ k, a.size + 40 ≤ k := ⟨_, Nat.le_refl _⟩
  exact ⟨k, tags_of a k _ (digest_Tag_all a h k (by omega)) (ddiref18_Tag_all a h k (by omega)) (awake k (by omega))⟩
end Go.Proofs.Ytghhhpcdakdjjaa.Pure
