/- Zeros at the end and exchanges at an even distance change no tag. Condition: none but the row's own bound on the size of a string. -/
import Derived.Test.YtghhhpcdakdjjaaMDigestMovedx1
import Derived.Test.YtghhhpcdakdjjaaDg
import Derived.Test.YtghhhpcdakdjjaaChg
import Derived.Test.YtghhhpcdakdjjaaMv
import Derived.Lib.Hide
import Derived.WideShapes
import Derived.Lib.SmallJoins
namespace Go.Proofs.Ytghhhpcdakdjjaa.Pure
open Go.RowKit Go.Proofs.Ytghhhpcdakdjjaa.MDigestMoved Go.Proofs.Ytghhhpcdakdjjaa.Dg Go.Proofs.Ytghhhpcdakdjjaa.Chg Go.Proofs.YtghhhpcdakdjjaaW.PrintWords Go.Proofs.YtghhhpcdakdjjaaW.PrintLast Go.Proofs.YtghhhpcdakdjjaaW.PrintMore
namespace OfDigestMoved
theorem bt_get (s : ByteArray) (i : Nat) (b : UInt8) (l : List UInt8) (h : s.data.toList.drop i = b :: l) : i < s.size ∧ bt s (i : Int) = (b.toNat : Int) ∧ s.data.toList.drop (i + 1) = l := by
  have hl : i < s.data.toList.length := by
    have := congrArg List.length h
    simp at this
    simp; omega
  have e := List.drop_eq_getElem_cons hl
  rw [h] at e
  injection e with e1 e2
  have hs : i < s.size := by simpa using hl
  refine ⟨hs, ?_, e2.symm⟩
  rw [← bt_at s i (by simpa using hs), e1]
  simp
  rfl
theorem at_end (s : ByteArray) (i : Nat) (h : s.data.toList.drop i = []) : ¬ (i : Int) < (s.size : Int) := by
  have := List.drop_eq_nil_iff.1 h
  simp at this
  have e : s.data.size = s.size := rfl
  omega
theorem wrap_inc (i n : Nat) (h : i < n) (hn : n ≤ 1000000000000000000) : wrap64 ((i : Int) + 1) = ((i + 1 : Nat) : Int) := by
  unfold wrap64; omega
theorem digest_Sum_l1 (k : Nat) (X : BitVec 64) : digest_Sum.l1 (k + 4) (X.toNat : Int) 0 = some ((dmix (dmix (dmix X))).toNat : Int) := by
  have r : ∀ (k : Nat) (i : Int) (Y : BitVec 64), i < 3 → digest_Sum.l1 (k + 1) (Y.toNat : Int) i = digest_Sum.l1 k ((dmix Y).toNat : Int) (wrap64 (i + 1)) := by
    intro k i Y hi
    simp only [digest_Sum.l1]
    rw [if_pos hi, mix_int]
  rw [r _ _ _ (by decide), show wrap64 (0 + 1) = 1 from by decide +kernel, r _ _ _ (by decide), show wrap64 (1 + 1) = 2 from by decide +kernel, r _ _ _ (by decide), show wrap64 (2 + 1) = 3 from by decide +kernel]
  simp only [digest_Sum.l1]
  rw [if_neg (by decide)]
theorem digest_Sum_l0 (s : ByteArray) (hn : s.size ≤ 1000000000000000000) : ∀ (l : List UInt8) (i : Nat) (X : BitVec 64) (k : Nat), s.data.toList.drop i = l → l.length + 5 ≤ k → digest_Sum.l0 k s (X.toNat : Int) (i : Int) = some ((dmix (dmix (dmix (l.foldl dstep X)))).toNat : Int) := by
  intro l
  induction l with
  | nil =>
    intro i X k h hk
    obtain ⟨k, rfl⟩ : ∃ m, k = m + 5 := ⟨k - 5, by simp at hk; omega⟩
    simp only [digest_Sum.l0]
    rw [if_neg (at_end s i h)]
    exact digest_Sum_l1 k X
  | cons b l ih =>
    intro i X k h hk
    obtain ⟨k, rfl⟩ : ∃ m, k = m + 1 := ⟨k - 1, by simp at hk; omega⟩
    obtain ⟨hi, hb, ht⟩ := bt_get s i b l h
    simp only [digest_Sum.l0]
    rw [if_pos (by omega), if_pos (by omega), hb, step_int, wrap_inc i s.size hi hn]
    exact ih (i + 1) (dstep X b) k ht (by simp at hk; omega)
theorem digest_Sum_all (s : ByteArray) (hn : s.size ≤ 1000000000000000000) (k : Nat) (hk : s.size + 5 ≤ k) : digest_Sum.f k s = some ((dsum s.data.toList).toNat : Int) :=
  by
  have h := digest_Sum_l0 s hn s.data.toList 0 14695981039346656037#64 k rfl (by simpa using hk)
  have e : ((14695981039346656037#64).toNat : Int) = 14695981039346656037 := by decide
  rw [e] at h
  exact h
theorem awake_at : ddilaw18_awake.f 30 = some true := by decide +kernel
theorem awake (k : Nat) (hk : 30 ≤ k) : ddilaw18_awake.f k = some true := at_rounds ddilaw18_awake.mono hk awake_at
/-- The sum of bytes, those at even places taken 256 times. -/
def tg : Bool → List UInt8 → Int
  | _, [] => 0
  | e, b :: l => (if e then 256 * (b.toNat : Int) else (b.toNat : Int)) + tg (!e) l
/-- The checksum of a sum. -/
def fin (x : Int) : Int := (x + x / 65536 % 65536) % 65536
theorem and16 (x : Int) : Go.bits .and .i64 x 65535 = x % 65536 := by
  have e : Go.bits .and .i64 x 65535 = IntKind.i64.wrap (((BitVec.ofInt 64 x &&& BitVec.ofInt 64 65535).toNat : Nat) : Int) := rfl
  have h : (BitVec.ofInt 64 x &&& BitVec.ofInt 64 65535).toNat = (x % 65536).toNat := by
    rw [BitVec.toNat_and, show (BitVec.ofInt 64 65535).toNat = 2 ^ 16 - 1 from by decide, Nat.and_two_pow_sub_one_eq_mod, BitVec.toNat_ofInt]
    omega
  rw [e, h, IntWalk.i64_in _ (by omega)]
  omega
theorem digest_Tag_l0 (s : ByteArray) (hn : s.size ≤ 141000000000000) : ∀ (l : List UInt8) (i : Nat) (n : Int) (k : Nat), s.data.toList.drop i = l → i ≤ s.size → 0 ≤ n → n ≤ 65280 * i → l.length + 1 ≤ k → digest_Tag.l0 k s n (i : Int) = some (fin (n + tg (i % 2 == 0) l)) := by
  intro l
  induction l with
  | nil =>
    intro i n k h hs h0 h1 hk
    obtain ⟨k, rfl⟩ : ∃ m, k = m + 1 := ⟨k - 1, by simp at hk; omega⟩
    simp only [digest_Tag.l0]
    rw [if_neg (at_end s i h), tg, Int.add_zero]
    rw [and16, and16]
    unfold fin
    congr 2
    apply IntWalk.wrap64_in
    omega
  | cons b l ih =>
    intro i n k h hs h0 h1 hk
    obtain ⟨k, rfl⟩ : ∃ m, k = m + 1 := ⟨k - 1, by simp at hk; omega⟩
    obtain ⟨hi, hb, ht⟩ := bt_get s i b l h
    have hlt := b.toNat_lt
    simp only [digest_Tag.l0]
    rw [if_pos (by omega), if_pos (show (0 : Int) ≤ (i : Int) by omega), if_pos (show (0 : Int) ≤ (i : Int) by omega), hb, wrap_inc i s.size hi (by omega)]
    have p : Int.tmod (i : Int) 2 = 0 ↔ (i % 2 == 0) = true := by
      rw [Int.tmod_eq_emod_of_nonneg (by omega)]; simp; omega
    have q : ((i + 1) % 2 == 0) = !(i % 2 == 0) := by
      rcases Nat.mod_two_eq_zero_or_one i with e | e <;> rw [Nat.add_mod, e] <;> rfl
    have wb : wrap64 (b.toNat : Int) = b.toNat := IntWalk.wrap64_in _ (by omega)
    rw [wb]
    cases e : (i % 2 == 0) with
    | true =>
      rw [if_pos (p.2 e)]
      rw [show wrap64 (n + wrap64 ((b.toNat : Int) * 256)) = n + 256 * (b.toNat : Int) from by
        rw [IntWalk.wrap64_in ((b.toNat : Int) * 256) (by omega), IntWalk.wrap64_in _ (by omega)]; omega]
      rw [ih (i + 1) _ k ht (by omega) (by omega) (by omega) (by simp at hk; omega), q, e, tg]
      simp only [if_true, Bool.not_true, Int.add_assoc]
    | false =>
      rw [if_neg (fun h => by rw [p.1 h] at e; cases e)]
      rw [show wrap64 (n + (b.toNat : Int)) = n + (b.toNat : Int) from IntWalk.wrap64_in _ (by omega)]
      rw [ih (i + 1) _ k ht (by omega) (by omega) (by omega) (by simp at hk; omega), q, e, tg]
      simp only [Bool.false_eq_true, if_false, Bool.not_false, Int.add_assoc]
theorem digest_Tag_all (s : ByteArray) (hn : s.size ≤ 141000000000000) (k : Nat) (hk : s.size + 1 ≤ k) : digest_Tag.f k s = some (fin (tg true s.data.toList)) := by
  have h := digest_Tag_l0 s hn s.data.toList 0 0 k rfl (by omega) (by omega) (by omega) (by simpa using hk)
  rw [Int.zero_add] at h
  exact h
end OfDigestMoved
open OfDigestMoved
theorem wf16 {a : Int} (h : (Lit.int .u16 a).wf = true) : 0 ≤ a ∧ a ≤ 65535 := by
  simp [Lit.wf, IntKind.min, IntKind.max, IntKind.bits, IntKind.signed] at h
  omega
theorem wf8 {a : Int} (h : (Lit.int .u8 a).wf = true) : 0 ≤ a ∧ a ≤ 255 := by
  simp [Lit.wf, IntKind.min, IntKind.max, IntKind.bits, IntKind.signed] at h
  omega
theorem tg_zeros (m : Nat) : ∀ (e : Bool) (l : List UInt8), tg e (l ++ List.replicate m 0) = tg e l := by
  intro e l
  induction l generalizing e with
  | nil =>
    induction m generalizing e with
    | zero => rfl
    | succ m ih =>
      have h := ih (!e)
      simp only [List.nil_append, tg] at h ⊢
      rw [List.replicate_succ, tg, h]
      cases e <;> rfl
  | cons b l ih => rw [List.cons_append, tg, tg, ih]
/-- What a byte counts at a place. -/
def wt (e : Bool) (j : Nat) : Int := if e == (j % 2 == 0) then 256 else 1
theorem wt_succ (e : Bool) (j : Nat) : wt e (j + 1) = wt (!e) j := by
  have q : ((j + 1) % 2 == 0) = !(j % 2 == 0) := by
    rcases Nat.mod_two_eq_zero_or_one j with h | h <;> rw [Nat.add_mod, h] <;> rfl
  unfold wt
  rw [q]
  cases e <;> cases (j % 2 == 0) <;> rfl
theorem tg_set : ∀ (l : List UInt8) (e : Bool) (j : Nat) (v : UInt8) (h : j < l.length), tg e (l.set j v) = tg e l + wt e j * ((v.toNat : Int) - (l[j].toNat : Int))
  | b :: l, e, 0, v, _ => by
    simp only [List.set_cons_zero, tg, List.getElem_cons_zero, wt]
    cases e
    · simp; omega
    · simp; omega
  | b :: l, e, j + 1, v, h => by
    have hj : j < l.length := by simpa using h
    simp only [List.set_cons_succ, tg, List.getElem_cons_succ]
    rw [tg_set l (!e) j v hj, wt_succ]
    omega
theorem tg_swap (l : List UInt8) (x y : Nat) (hx : x < l.length) (hy : y < l.length) (hp : x % 2 = y % 2) : tg true ((l.set x l[y]).set y l[x]) = tg true l := by
  have hw : wt true x = wt true y := by unfold wt; rw [hp]
  rw [tg_set _ _ _ _ (by rw [List.length_set]; exact hy), tg_set _ _ _ _ hx, hw]
  by_cases e : x = y
  · subst e; simp
  · rw [List.getElem_set_ne e]
    generalize wt true y = W
    rw [Int.add_assoc, ← Int.mul_add]
    have z : (l[y].toNat : Int) - (l[x].toNat : Int) + ((l[x].toNat : Int) - (l[y].toNat : Int)) = 0 := by omega
    rw [z, Int.mul_zero, Int.add_zero]
theorem str_set (s : ByteArray) (x y : Nat) (hx : x < s.data.toList.length) (hy : y < s.data.toList.length) :
    (strOfNums (((ints s).set x ((ints s).getD y 0)).set y ((ints s).getD x 0))).data.toList = (s.data.toList.set x s.data.toList[y]).set y s.data.toList[x] := by
  have g : ∀ j (h : j < s.data.toList.length), UInt8.ofNat ((ints s).getD j 0).toNat = s.data.toList[j] := by
    intro j h
    rw [ints_getD s j (by simpa using h), List.getD_eq_getElem?_getD, List.getElem?_eq_getElem h]
    simp
  have e : (strOfNums (((ints s).set x ((ints s).getD y 0)).set y ((ints s).getD x 0))).data.toList = (((ints s).set x ((ints s).getD y 0)).set y ((ints s).getD x 0)).map fun n => UInt8.ofNat n.toNat := rfl
  rw [e, List.map_set, List.map_set, g y hy, g x hx]
  congr 2
  simp only [ints, List.map_map]
  rw [List.map_congr_left (g := id) (fun b _ => by simp)]
  simp
theorem str_size (l : List Int) : (strOfNums l).size = l.length := by simp [strOfNums, ByteArray.size]
theorem DigestMoved (s : ByteArray) (i j c : Int) (w : World) (hs : s.size ≤ 140737488351232) (i0 : 0 ≤ i) (i1 : i ≤ 65535) (j0 : 0 ≤ j) (j1 : j ≤ 65535) (c0 : 0 ≤ c) (c1 : c ≤ 255) :
    Calls Try.prog 9 #[.string s, .int .u16 i, .int .u16 j, .int .u8 c] w fun e w' => e = .returned (.bool true) ∧ Below w.heap.size w w' := by
  obtain ⟨k, h⟩ : ∃ k, s.size + 1000 ≤ k := ⟨_, Nat.le_refl _⟩
  have hz : (strOfNums (List.replicate c.toNat 0)).size = c.toNat := by simp [strOfNums, ByteArray.size]
  have f1 := digest_Tag_all s (by omega) k (by omega)
  have f2 := digest_Tag_all (s ++ strOfNums (List.replicate c.toNat 0)) (by simp only [ByteArray.size_append]; omega) k (by simp only [ByteArray.size_append]; omega)
  have ez : (strOfNums (List.replicate c.toNat 0)).data.toList = List.replicate c.toNat 0 := by simp [strOfNums]
  rw [ByteArray.data_append, Array.toList_append, ez, tg_zeros] at f2
  have fr : 0 ≤ fin (tg true s.data.toList) ∧ fin (tg true s.data.toList) ≤ 65535 := by unfold fin; omega
  have n0 : decide (fin (tg true s.data.toList) < 0) = false := decide_eq_false (by omega)
  have n1 : decide (65535 < fin (tg true s.data.toList)) = false := decide_eq_false (by omega)
  have f3 := awake k (by omega)
  by_cases hp : s.size = 0
  · refine Moved.none_ s i j c _ k w hs hp c0 c1 n0 n1 ?_ (Lib.hid f3) (Lib.hid f1) (Lib.hid f2)
    have : s.data.toList = [] := by apply List.eq_nil_of_length_eq_zero; simpa using hp
    rw [this]; rfl
  · have x0 : 0 ≤ i % (s.size : Int) := Int.emod_nonneg _ (by omega)
    have x1 : i % (s.size : Int) < (s.size : Int) := Int.emod_lt_of_pos _ (by omega)
    have y0 : 0 ≤ j % (s.size : Int) := Int.emod_nonneg _ (by omega)
    have y1 : j % (s.size : Int) < (s.size : Int) := Int.emod_lt_of_pos _ (by omega)
    have hl : s.data.toList.length = s.size := by simp
    by_cases par : (i % (s.size : Int) - j % (s.size : Int)).tmod 2 = 0
    · refine Moved.even s i j c _ k w hs (by omega) i0 i1 j0 j1 c0 c1 n0 n1 (by simp [par]) x0 x1 y0 y1 (Lib.hid ?_) (Lib.hid f3) (Lib.hid f1) (Lib.hid f2)
      have f4 := digest_Tag_all (strOfNums (((ints s).set (i % (s.size : Int)).toNat ((ints s).getD (j % (s.size : Int)).toNat 0)).set (j % (s.size : Int)).toNat ((ints s).getD (i % (s.size : Int)).toNat 0))) (by rw [str_size, List.length_set, List.length_set, ints_length]; omega) k (by rw [str_size, List.length_set, List.length_set, ints_length]; omega)
      rw [str_set s _ _ (by omega) (by omega), tg_swap _ _ _ (by omega) (by omega) (by
        have := Int.dvd_of_tmod_eq_zero par
        omega)] at f4
      exact f4
    · exact Moved.odd s i j c _ k w hs (by omega) i0 i1 j0 j1 c0 c1 n0 n1 (by simp [par]) x0 x1 y0 y1 (Lib.hid f3) (Lib.hid f1) (Lib.hid f2)
end Go.Proofs.Ytghhhpcdakdjjaa.Pure
