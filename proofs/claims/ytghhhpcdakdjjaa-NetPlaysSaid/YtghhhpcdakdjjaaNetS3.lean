/- An act done and followed: one answer. Condition: at most 600 items. -/
import Derived.Test.YtghhhpcdakdjjaaNetS2
namespace Go.Ev
set_option linter.all false
structure Act where
  kind : Int
  f1 : Bool
  f2 : Int
  f3 : Int
  t1 : Bool
  t2 : Int
  t3 : Int
  body : ByteArray
  i : Int
  size : Int
@[simp] def Act.av (a : Act) : List AV := [.int .u8 a.kind, .bool a.f1, .int .u64 a.f2, .int .u64 a.f3, .bool a.t1, .int .u64 a.t2, .int .u64 a.t3, .str a.body, .int .i64 a.i, .int .i64 a.size]
def Act.ok (a : Act) : Prop := 0 ≤ a.kind ∧ a.kind ≤ 255
/-- What an act comes to: the network, the message, the error. -/
def stepR (l : List Item) (a : Act) : List Item × Item × Int :=
  if a.kind.tmod 5 = 0 then if 512 ≤ l.length ∨ 65535 < a.body.size then ([], Item.zero, 9) else (l ++ [⟨a.f1, a.f2, a.f3, a.t1, a.t2, a.t3, a.body⟩], Item.zero, 0)
  else if a.kind.tmod 5 = 1 then if h : 0 ≤ a.i ∧ a.i.toNat < l.length then (l.eraseIdx a.i.toNat, l[a.i.toNat]'h.2, 0) else ([], Item.zero, 11)
  else if a.kind.tmod 5 = 2 then if h : 0 ≤ a.i ∧ a.i.toNat < l.length then (l.eraseIdx a.i.toNat, Item.zero, 0) else ([], Item.zero, 11)
  else if a.kind.tmod 5 = 3 then if h : 0 ≤ a.i ∧ a.i.toNat < l.length then if 512 ≤ l.length then ([], Item.zero, 9) else (l ++ [l[a.i.toNat]'h.2], Item.zero, 0) else ([], Item.zero, 11)
  else if h : 0 ≤ a.i ∧ a.i.toNat < l.length then (l.set a.i.toNat { l[a.i.toNat]'h.2 with body := cutB (l[a.i.toNat]'h.2).body a.size }, Item.zero, 0) else ([], Item.zero, 11)
theorem kind_or (a : Act) (h : a.ok) : a.kind.tmod 5 = 0 ∨ a.kind.tmod 5 = 1 ∨ a.kind.tmod 5 = 2 ∨ a.kind.tmod 5 = 3 ∨ a.kind.tmod 5 = 4 := by
  rw [Int.tmod_eq_emod_of_nonneg h.1]
  omega
theorem do_spec (l : List Item) (a : Act) (ha : a.ok) (m : Mem) (lv : Nat) (h : l.length ≤ 600) :
    (sem T).call 32 [.agg [.sl none 7 (l.map Item.av)], .agg a.av] m lv = some ([.agg [.sl none 7 ((stepR l a).1.map Item.av)], .agg (stepR l a).2.1.av, .int .i64 (stepR l a).2.2], m) := by
  obtain ⟨kind, f1, f2, f3, t1, t2, t3, body, i, size⟩ := a
  have hs := send_spec l f1 f2 f3 t1 t2 t3 body noMem 0 h
  rcases kind_or _ ha with hk | hk | hk | hk | hk <;> simp only at hk
  · by_cases hc : 512 ≤ l.length ∨ 65535 < body.size
    · rw [if_pos hc] at hs
      refine call_go rfl rfl rfl ?_
      simp [F32, stepR, hk, hs, hc, Item.zero]
    · rw [if_neg hc] at hs
      refine call_go rfl rfl rfl ?_
      simp [F32, stepR, hk, hs, hc, Item.zero]
  all_goals
    rcases has_or l i with ⟨k, rfl, hkl⟩ | ⟨hb, hn⟩
    · first
        | (obtain ⟨o, ho⟩ := take_yes l k hkl noMem 0 h
           refine call_go rfl rfl rfl ?_
           simp [F32, stepR, hk, ho, hkl, Item.zero]
           done)
        | (have ho := lose_yes l k hkl noMem 0 h
           refine call_go rfl rfl rfl ?_
           simp [F32, stepR, hk, ho, hkl, Item.zero]
           done)
        | (have ho := cut_yes l k hkl size noMem 0 h
           refine call_go rfl rfl rfl ?_
           simp [F32, stepR, hk, ho, hkl, Item.zero, -List.map_set]
           done)
        | (have ho := double_yes l k hkl noMem 0 h
           refine call_go rfl rfl rfl ?_
           by_cases h5 : 512 ≤ l.length
           · rw [if_pos h5] at ho
             simp [F32, stepR, hk, ho, hkl, h5, Item.zero]
           · rw [if_neg h5] at ho
             simp [F32, stepR, hk, ho, hkl, h5, Item.zero])
    · have hn2 : ¬ (0 ≤ i ∧ i.toNat < l.length) := by omega
      have q1 := take_no l i noMem 0 hb
      have q2 := lose_no l i noMem 0 hb
      have q3 := double_no l i noMem 0 hb
      have q4 := cut_no l i size noMem 0 hb
      refine call_go rfl rfl rfl ?_
      simp [F32, stepR, hk, q1, q2, q3, q4, hn2, Item.zero]
theorem follow_spec (l : List Item) (a : Act) (ha : a.ok) (m : Mem) (lv : Nat) (h : l.length ≤ 600) :
    (sem T).call 33 [.agg [.sl none 7 (l.map Item.av)], .agg a.av] m lv = some ([.agg [.sl none 7 ((stepR l a).1.map Item.av)], .agg (stepR l a).2.1.av, .int .i64 (stepR l a).2.2], m) := by
  obtain ⟨kind, f1, f2, f3, t1, t2, t3, body, i, size⟩ := a
  have hs := rsend_spec l f1 f2 f3 t1 t2 t3 body noMem 0 h
  rcases kind_or _ ha with hk | hk | hk | hk | hk <;> simp only at hk
  · by_cases hc : 512 ≤ l.length ∨ 65535 < body.size
    · rw [if_pos hc] at hs
      refine call_go rfl rfl rfl ?_
      simp [F33, stepR, hk, hs, hc, Item.zero]
    · rw [if_neg hc] at hs
      refine call_go rfl rfl rfl ?_
      simp [F33, stepR, hk, hs, hc, Item.zero]
  all_goals
    rcases has_or l i with ⟨k, rfl, hkl⟩ | ⟨hb, hn⟩
    · first
        | (have ho := rtake_yes l k hkl noMem 0 h
           refine call_go rfl rfl rfl ?_
           simp [F33, stepR, hk, ho, hkl, Item.zero]
           done)
        | (have ho := rlose_yes l k hkl noMem 0 h
           refine call_go rfl rfl rfl ?_
           simp [F33, stepR, hk, ho, hkl, Item.zero]
           done)
        | (obtain ⟨o, ho⟩ := rcut_yes l k hkl size noMem 0 h
           refine call_go rfl rfl rfl ?_
           simp [F33, stepR, hk, ho, hkl, Item.zero, -List.map_set]
           done)
        | (have ho := rdouble_yes l k hkl noMem 0 h
           refine call_go rfl rfl rfl ?_
           by_cases h5 : 512 ≤ l.length
           · rw [if_pos h5] at ho
             simp [F33, stepR, hk, ho, hkl, h5, Item.zero]
           · rw [if_neg h5] at ho
             simp [F33, stepR, hk, ho, hkl, h5, Item.zero])
    · have hn2 : ¬ (0 ≤ i ∧ i.toNat < l.length) := by omega
      have q1 := rtake_no l i noMem 0 hb
      have q2 := rlose_no l i noMem 0 hb
      have q3 := rdouble_no l i noMem 0 hb
      have q4 := rcut_no l i size noMem 0 hb
      refine call_go rfl rfl rfl ?_
      simp [F33, stepR, hk, q1, q2, q3, q4, hn2, Item.zero]
end Go.Ev
