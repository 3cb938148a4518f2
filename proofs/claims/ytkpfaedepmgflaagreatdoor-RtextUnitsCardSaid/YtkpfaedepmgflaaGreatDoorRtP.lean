/- The duration of a span; of two units: plain laws. Condition: none. -/
import Derived.Test.YtkpfaedepmgflaaGreatDoorRtS
namespace Go.Ev
set_option linter.all false
theorem dec_digs : ∀ (u : Nat), (Lib.decDigits u).all dig = true := fun u => by
  induction u using Nat.strongRecOn with
  | ind u ih =>
    have hd : ∀ k, k < 10 → dig (UInt8.ofNat (48 + k)) = true := fun k hk => by
      rw [dig_iff, UInt8.toNat_ofNat']
      omega
    rw [Lib.decDigits]
    split
    · rw [List.all_cons, hd u (by assumption)]
      rfl
    · rw [List.all_append, ih (u / 10) (by omega), List.all_cons, hd (u % 10) (by omega)]
      rfl
theorem numGo_digs : ∀ (l : List UInt8) (n v : Nat), numGo n l = some v → l.all dig = true
  | [], n, v, h => rfl
  | b :: r, n, v, h => by
    unfold numGo at h
    split at h
    · rename_i hc
      rw [List.all_cons, hc.1, numGo_digs r _ v h]
      rfl
    · cases h
theorem numGo_app : ∀ (l r : List UInt8) (n : Nat), numGo n (l ++ r) = (numGo n l).bind fun v => numGo v r
  | [], r, n => rfl
  | b :: l, r, n => by
    rw [List.cons_append, numGo, numGo]
    split
    · exact numGo_app l r _
    · rfl
theorem numGo_dec (u : Nat) : u ≤ 9223372036854775807 → numGo 0 (Lib.decDigits u) = some u := by
  induction u using Nat.strongRecOn with
  | ind u ih =>
    intro h
    have hd : ∀ k, k < 10 → dig (UInt8.ofNat (48 + k)) = true := fun k hk => by
      rw [dig_iff, UInt8.toNat_ofNat']
      omega
    have hk : ∀ k, k < 10 → (UInt8.ofNat (48 + k)).toNat - 48 = k := fun k hk => by
      rw [UInt8.toNat_ofNat']
      omega
    rw [Lib.decDigits]
    split
    · rename_i h10
      rw [numGo, if_pos ⟨hd u h10, by rw [hk u h10]; omega⟩, numGo, hk u h10]
      simp
    · rw [numGo_app, ih (u / 10) (by omega) (by omega)]
      show numGo (u / 10) [UInt8.ofNat (48 + u % 10)] = some u
      rw [numGo, hk _ (by omega), if_pos ⟨hd _ (by omega), by omega⟩, numGo]
      congr 1
      omega
theorem numOf_dec (u : Nat) (h : u ≤ 9223372036854775807) : numOf (Lib.decDigits u) = some u := by
  unfold numOf
  have h1 := dec_ne u
  have h2 := dec_len 19 u (by omega) (by omega)
  have h3 : ¬ ((Lib.decDigits u)[0]? = some 48 ∧ 1 < (Lib.decDigits u).length) := fun h => by
    cases hx : Lib.decDigits u with
    | nil => exact h1 hx
    | cons a r =>
      rw [hx] at h
      have ha : a = 48 := by simpa using h.1
      subst ha
      have := dec_lead u r hx
      subst this
      simp at h
  have h4 : 1 ≤ (Lib.decDigits u).length := by
    cases hx : Lib.decDigits u with
    | nil => exact absurd hx h1
    | cons a r => simp
  rw [if_pos ⟨h4, h2, h3⟩, numGo_dec u h]
theorem numTo_dec (u : Nat) (most : Int) (h : u ≤ 9223372036854775807) (hm : (u : Int) ≤ most) : numTo (Lib.decDigits u) most = some u := by
  unfold numTo
  rw [numOf_dec u h]
  show (if (u : Int) ≤ most then some u else none) = some u
  rw [if_pos hm]
theorem numTo_bad (l : List UInt8) (most : Int) (h : l.all dig = false) : numTo l most = none := by
  unfold numTo
  cases hn : numOf l with
  | none => rfl
  | some v =>
    unfold numOf at hn
    split at hn
    · have := numGo_digs l 0 v hn
      rw [h] at this
      cases this
    · cases hn
theorem durGo_digs : ∀ (ds cur : List UInt8) (sum last : Nat) (r : List UInt8), ds.all dig = true → durGo cur sum last (ds ++ r) = durGo (cur ++ ds) sum last r
  | [], cur, sum, last, r, h => by simp
  | b :: ds, cur, sum, last, r, h => by
    rw [List.all_cons, Bool.and_eq_true] at h
    rw [List.cons_append, durGo, if_pos h.1, durGo_digs ds _ sum last r h.2]
    simp
/-- A number and a unit behind what is read. -/
theorem durGo_unit (k : Nat) (b : UInt8) (sum last : Nat) (r : List UInt8) (hk : k ≤ 2147483647) (hb : dig b = false) : durGo [] sum last (Lib.decDigits k ++ b :: r) = if pl b ≤ last then none else if 2147483647 < sum + k * sec b then none else durGo [] (sum + k * sec b) (pl b) r := by
  rw [durGo_digs _ [] sum last _ (dec_digs k), List.nil_append, durGo, hb, if_neg (by simp), numTo_dec k 2147483647 (by omega) (by omega)]
def bnd (i : Nat) : Nat := [0, 604800, 86400, 3600, 60, 1].getD i 0
theorem wd_at : ∀ (i : Nat) (h : i < wdhms.length), pl (wdhms[i]'h) = i + 1 ∧ sec (wdhms[i]'h) = bnd (i + 1) ∧ dig (wdhms[i]'h) = false := fun i h => by
  have : ∀ j : Fin 5, pl (wdhms[j.val]'(j.isLt)) = j.val + 1 ∧ sec (wdhms[j.val]'(j.isLt)) = bnd (j.val + 1) ∧ dig (wdhms[j.val]'(j.isLt)) = false := by decide
  exact this ⟨i, h⟩
theorem spanGo_acc : ∀ (us : List UInt8) (n : Nat) (out : List UInt8), spanGo n out us = out ++ spanGo n [] us
  | [], n, out => by simp [spanGo]
  | b :: r, n, out => by
    rw [spanGo, spanGo]
    split
    · rw [spanGo_acc r _ (out ++ _), spanGo_acc r _ ([] ++ _)]
      simp
    · exact spanGo_acc r n out
theorem span_dur : ∀ (d i n sum last : Nat), i + d = wdhms.length → last ≤ i → (i = 0 ∨ n < bnd i) → (last ≠ 0 ∨ 0 < n) → sum + n ≤ 2147483647 → durGo [] sum last (spanGo n [] (wdhms.drop i)) = some (sum + n)
  | 0, i, n, sum, last, hd, hl, hb, h0, hs => by
    obtain rfl : i = 5 := hd
    have hn : n = 0 := by
      rcases hb with hb | hb
      · omega
      · have : bnd 5 = 1 := rfl
        omega
    subst hn
    show durGo [] sum last [] = _
    rw [durGo, if_pos ⟨rfl, by omega⟩]
    rfl
  | d + 1, i, n, sum, last, hd, hl, hb, h0, hs => by
    have hi : i < wdhms.length := by omega
    have hdr : wdhms.drop i = wdhms[i]'hi :: wdhms.drop (i + 1) := List.drop_eq_getElem_cons hi
    obtain ⟨h1, h2, h3⟩ := wd_at i hi
    generalize wdhms[i]'hi = b at hdr h1 h2 h3
    have hsec := sec_le b
    rw [hdr, spanGo]
    by_cases hk : 0 < n / sec b
    · rw [if_pos hk, spanGo_acc, List.nil_append, List.append_assoc, List.singleton_append, durGo_unit _ b sum last _ (by have := Nat.div_le_self n (sec b); omega) h3, if_neg (by omega)]
      have hdm := Nat.div_add_mod n (sec b)
      have hm := Nat.mod_lt n (show sec b > 0 by omega)
      have hc : n / sec b * sec b = sec b * (n / sec b) := Nat.mul_comm _ _
      rw [if_neg (by omega), span_dur d (i + 1) (n % sec b) _ (pl b) (by omega) (by omega) (.inr (by omega)) (.inl (by omega)) (by omega)]
      congr 1
      omega
    · have hn : n < sec b := Classical.byContradiction fun h => hk (Nat.div_pos (by omega) (by omega))
      rw [if_neg hk, span_dur d (i + 1) n sum last (by omega) (by omega) (.inr (by omega)) h0 hs]
/-- What a span ends with is no digit. -/
theorem spanGo_bad : ∀ (us : List UInt8) (n : Nat) (out : List UInt8), us.all dig = false ∨ us = [] → (∀ b ∈ us, dig b = false) → spanGo n [] us ≠ [] → (spanGo n [] us).all dig = false
  | [], n, out, h, hu, hne => absurd rfl hne
  | b :: r, n, out, h, hu, hne => by
    rw [spanGo] at hne ⊢
    split
    · rw [spanGo_acc, List.all_append, List.nil_append, List.all_append]
      simp [hu b (List.mem_cons_self ..)]
    · rename_i hk
      rw [if_neg hk] at hne
      refine spanGo_bad r n out ?_ (fun x hx => hu x (List.mem_cons_of_mem _ hx)) hne
      cases r with
      | nil => exact .inr rfl
      | cons a r => exact .inl (by rw [List.all_cons, hu a (by simp)]; rfl)
theorem durOf_span (n : Nat) (h : n ≤ 2147483647) : durOf (spanOf (n : Int)) = some n := by
  unfold spanOf
  rw [if_neg (by omega), Int.toNat_natCast]
  by_cases h0 : n = 0
  · subst h0
    rw [if_pos (by rfl)]
    unfold durOf
    rw [numTo_bad _ _ (by decide)]
    show durGo [] 0 0 [48, 115] = some 0
    have := durGo_unit 0 115 0 0 [] (by omega) (by decide)
    rw [Lib.decDigits_one (by omega)] at this
    exact this
  · rw [if_neg (by omega)]
    have hne := spanGo_ne wdhms n [] (.inr ⟨by omega, 115, by decide, by decide⟩)
    unfold durOf
    rw [numTo_bad _ _ (spanGo_bad wdhms n [] (.inl (by decide)) (by decide) hne)]
    have := span_dur 5 0 n 0 0 rfl (by omega) (.inl rfl) (.inr (by omega)) (by omega)
    rw [List.drop_zero, Nat.zero_add] at this
    exact this
/-- Two numbers with units. -/
theorem durOf_two (n m : Nat) (a b : UInt8) (hn : n ≤ 2147483647) (hm : m ≤ 2147483647) (ha : dig a = false) (hb : dig b = false) (pa : pl a ≠ 0) (pb : pl b ≠ 0) :
    durOf (Lib.decDigits n ++ a :: (Lib.decDigits m ++ [b])) = if pl a < pl b ∧ n * sec a + m * sec b ≤ 2147483647 then some (n * sec a + m * sec b) else none := by
  unfold durOf
  rw [numTo_bad _ _ (by rw [List.all_append, List.all_cons, ha]; simp)]
  show durGo [] 0 0 _ = _
  rw [durGo_unit n a 0 0 _ hn ha, if_neg (by omega), Nat.zero_add]
  by_cases h1 : 2147483647 < n * sec a
  · rw [if_pos h1, if_neg (fun h => by omega)]
  · rw [if_neg h1, durGo_unit m b _ _ [] hm hb]
    by_cases h2 : pl b ≤ pl a
    · rw [if_pos h2, if_neg (fun h => by omega)]
    · rw [if_neg h2]
      by_cases h3 : 2147483647 < n * sec a + m * sec b
      · rw [if_pos h3, if_neg (fun h => by omega)]
      · rw [if_neg h3, if_pos ⟨by omega, by omega⟩, durGo, if_pos ⟨rfl, pb⟩]
end Go.Ev
