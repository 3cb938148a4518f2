/- Durations: plain laws. Condition: none. -/
import Derived.Test.YtkpfaedepmgflaaGreatDoorRtN0
namespace Go.Ev
set_option linter.all false
def pl (b : UInt8) : Nat := if b = 119 then 1 else if b = 100 then 2 else if b = 104 then 3 else if b = 109 then 4 else if b = 115 then 5 else 0
def sec (b : UInt8) : Nat := if b = 119 then 604800 else if b = 100 then 86400 else if b = 104 then 3600 else if b = 109 then 60 else 1
def durGo : List UInt8 → Nat → Nat → List UInt8 → Option Nat
  | cur, sum, last, [] => if cur = [] ∧ last ≠ 0 then some sum else none
  | cur, sum, last, b :: r => if dig b = true then durGo (cur ++ [b]) sum last r else
    match numTo cur 2147483647 with
    | none => none
    | some n => if pl b ≤ last then none else if 2147483647 < sum + n * sec b then none else durGo [] (sum + n * sec b) (pl b) r
def durOf (l : List UInt8) : Option Nat :=
  match numTo l 2147483647 with
  | some n => some n
  | none => durGo [] 0 0 l
theorem pl_le (b : UInt8) : pl b ≤ 5 := by unfold pl; repeat' (first | omega | split)
theorem sec_le (b : UInt8) : sec b ≤ 604800 ∧ 1 ≤ sec b := by unfold sec; repeat' (first | omega | split)
theorem numTo_le {l : List UInt8} {most : Int} {n : Nat} (h : numTo l most = some n) : l.length ≤ 19 ∧ (n : Int) ≤ most := by
  unfold numTo at h
  obtain ⟨v, h1, h2⟩ := Option.bind_eq_some_iff.1 h
  split at h2
  · cases h2
    unfold numOf at h1
    split at h1
    · rename_i h3 h4; exact ⟨h4.2.1, h3⟩
    · cases h1
  · cases h2
theorem durGo_len : ∀ (r cur : List UInt8) (sum last v : Nat), last ≤ 5 → durGo cur sum last r = some v → cur.length + r.length ≤ 20 * (5 - last)
  | [], cur, sum, last, v, hl, h => by
    unfold durGo at h
    split at h
    · rename_i hc; rw [hc.1]; simp
    · cases h
  | b :: r, cur, sum, last, v, hl, h => by
    unfold durGo at h
    split at h
    · have := durGo_len r _ sum last v hl h
      simp only [List.length_append, List.length_cons, List.length_nil] at this ⊢
      omega
    · split at h
      · cases h
      · rename_i n hn
        split at h
        · cases h
        · split at h
          · cases h
          · have h1 := durGo_len r _ _ _ v (pl_le b) h
            have h2 := (numTo_le hn).1
            have := pl_le b
            simp only [List.length_cons, List.length_nil] at h1 ⊢
            omega
end Go.Ev
