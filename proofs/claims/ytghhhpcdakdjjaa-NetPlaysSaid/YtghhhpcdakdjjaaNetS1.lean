/- What net's functions answer, over lists of items. Condition: at most 600 items. -/
import Derived.Test.YtghhhpcdakdjjaaNetF
import Derived.Test.YtghhhpcdakdjjaaEvR
namespace Go.Ev
set_option linter.all false
def T : Tab := { fns := fns, given := fun _ => none }
structure Item where
  f1 : Bool
  f2 : Int
  f3 : Int
  t1 : Bool
  t2 : Int
  t3 : Int
  body : ByteArray
@[simp] def Item.av (x : Item) : List AV := [.bool x.f1, .int .u64 x.f2, .int .u64 x.f3, .bool x.t1, .int .u64 x.t2, .int .u64 x.t3, .str x.body]
def Item.zero : Item := ⟨false, 0, 0, false, 0, 0, ⟨#[]⟩⟩
theorem Item.av_len (x : Item) : x.av.length = 7 := rfl
theorem Item.av_data (x : Item) : ∀ c ∈ x.av, c.isData = true := by simp
theorem with_spec (l : List Item) (a1 : Bool) (a2 a3 : Int) (b1 : Bool) (b2 b3 : Int) (s : ByteArray) (m : Mem) (lv : Nat) (h : l.length ≤ 600) :
    (sem T).call 44 [.agg [.sl none 7 (l.map Item.av)], .agg [.bool a1, .int .u64 a2, .int .u64 a3, .bool b1, .int .u64 b2, .int .u64 b3, .str s]] m lv = some ([.agg [.sl (some 48) 7 ((l ++ [(⟨a1, a2, a3, b1, b2, b3, s⟩ : Item)]).map Item.av)]], m) := by
  have h1 : l.length ≤ 9223372036854775807 := by omega
  have h2 : l.length * 64 ≤ 140737488355328 := by omega
  have h3 : (l.length + 1) * 64 ≤ 140737488355328 := by omega
  have h4 : l.length ≤ 9223372036854775806 := by omega
  refine call_go rfl rfl rfl ?_
  simp [F44, h1, h2, h3, h4]
theorem has_spec (rows : List (List AV)) (i : Int) (m : Mem) (lv : Nat) :
    (sem T).call 41 [.agg [.sl none 7 rows], .int .i64 i] m lv = some ([.bool (decide (0 ≤ i) && decide (i < rows.length))], m) := by
  refine call_go rfl rfl rfl ?_
  by_cases hi : 0 ≤ i <;> simp [F41, hi]
theorem send_spec (l : List Item) (a1 : Bool) (a2 a3 : Int) (b1 : Bool) (b2 b3 : Int) (s : ByteArray) (m : Mem) (lv : Nat) (h : l.length ≤ 600) :
    (sem T).call 27 [.agg [.sl none 7 (l.map Item.av)], .agg [.bool a1, .int .u64 a2, .int .u64 a3], .agg [.bool b1, .int .u64 b2, .int .u64 b3], .str s] m lv =
    some (if 512 ≤ l.length ∨ 65535 < s.size then [.agg [.sl (some 48) 7 []], .int .i64 9] else [.agg [.sl (some 48) 7 ((l ++ [(⟨a1, a2, a3, b1, b2, b3, s⟩ : Item)]).map Item.av)], .int .i64 0], m) := by
  refine call_go rfl rfl rfl ?_
  rcases le_or 512 (l.length : Int) with ⟨p, q⟩ | ⟨p, q⟩
  · have : 512 ≤ l.length := by have := of_eq_true p; omega
    simp [F27, p, q, this]
  · have t1 : ¬ 512 ≤ l.length := by have := of_eq_true q; omega
    rcases le_or (s.size : Int) 65535 with ⟨p2, q2⟩ | ⟨p2, q2⟩
    · have t2 : ¬ 65535 < s.size := by have := of_eq_true p2; omega
      simp [F27, p, q, p2, q2, t1, t2, with_spec _ _ _ _ _ _ _ _ _ _ h]
    · have t2 : 65535 < s.size := by have := of_eq_true q2; omega
      simp [F27, p, q, p2, q2, t1, t2]
/-- Where an index stands. -/
theorem has_or (l : List Item) (i : Int) : (∃ k : Nat, i = (k : Int) ∧ k < l.length) ∨ ((decide (0 ≤ i) && decide (i < l.length)) = false ∧ ¬ (0 ≤ i ∧ i < l.length)) := by
  by_cases h : 0 ≤ i ∧ i < l.length
  · obtain ⟨k, rfl⟩ : ∃ k : Nat, i = (k : Int) := ⟨i.toNat, by omega⟩
    exact .inl ⟨k, rfl, by omega⟩
  · exact .inr ⟨by simpa using h, h⟩
theorem take_no (l : List Item) (i : Int) (m : Mem) (lv : Nat) (hi : (decide (0 ≤ i) && decide (i < l.length)) = false) :
    (sem T).call 26 [.agg [.sl none 7 (l.map Item.av)], .int .i64 i] m lv = some ([.agg [.sl (some 48) 7 []], .agg Item.zero.av, .int .i64 11], m) := by
  refine call_go rfl rfl rfl ?_
  simp [F26, has_spec, hi, Item.zero]
theorem take_yes (l : List Item) (k : Nat) (hk : k < l.length) (m : Mem) (lv : Nat) (h : l.length ≤ 600) :
    ∃ o, (sem T).call 26 [.agg [.sl none 7 (l.map Item.av)], .int .i64 (k : Int)] m lv = some ([.agg [.sl o 7 ((l.eraseIdx k).map Item.av)], .agg (l[k]).av, .int .i64 0], m) := by
  have hne : l ≠ [] := by intro e; subst e; simp at hk
  have hw := IntWalk.i64_in ((k : Int) + 1) (by omega)
  have hi : (k : Int) + 1 ≤ l.length := by omega
  have hle : ¬ l.length ≤ k := by omega
  have h1 : l.length ≤ 9223372036854775807 := by omega
  have h2 : l.length * 64 ≤ 140737488355328 := by omega
  by_cases h6 : l.length = 1
  · refine ⟨none, ?_⟩
    obtain ⟨y, rfl⟩ := List.length_eq_one_iff.1 h6
    obtain rfl : k = 0 := by simp at hk; omega
    refine call_go rfl rfl rfl ?_
    simp [F26, has_spec, hw, delCells]
  · refine ⟨some 48, ?_⟩
    have he : l.length - 1 = (l.eraseIdx k).length := by rw [List.length_eraseIdx_of_lt hk]
    refine call_go rfl rfl rfl ?_
    simp [F26, has_spec, flat_len Item.av_len, hw, hne, hi, hle, h1, h2, hk, h6, he, flat_del Item.av_len Item.av_data, flat_okPs Item.av_data, flat_frz Item.av_len Item.av_data, flat_frzd Item.av_data]
theorem cut_no (l : List Item) (i j : Int) (m : Mem) (lv : Nat) (hi : (decide (0 ≤ i) && decide (i < l.length)) = false) :
    (sem T).call 25 [.agg [.sl none 7 (l.map Item.av)], .int .i64 i, .int .i64 j] m lv = some ([.agg [.sl (some 48) 7 []], .int .i64 11], m) := by
  refine call_go rfl rfl rfl ?_
  simp [F25, has_spec, hi]
/-- The beginning of a body. -/
def cutB (s : ByteArray) (j : Int) : ByteArray := s.extract 0 (if j < 0 then 0 else if (s.size : Int) < j then s.size else j.toNat)
theorem cut_yes (l : List Item) (k : Nat) (hk : k < l.length) (j : Int) (m : Mem) (lv : Nat) (h : l.length ≤ 600) :
    (sem T).call 25 [.agg [.sl none 7 (l.map Item.av)], .int .i64 (k : Int), .int .i64 j] m lv = some ([.agg [.sl (some 48) 7 ((l.set k { l[k] with body := cutB l[k].body j }).map Item.av)], .int .i64 0], m) := by
  have hne : l ≠ [] := by intro e; subst e; simp at hk
  have hle : ¬ l.length ≤ k := by omega
  have h1 : l.length ≤ 9223372036854775807 := by omega
  have h2 : l.length * 64 ≤ 140737488355328 := by omega
  have hg := flat_cell Item.av_len l k hk 6 (by omega)
  have hs : ∀ (b : ByteArray), splice ((l.map Item.av).flatten) (k * 7 + 6) [.str b] = ((l.set k { l[k] with body := b }).map Item.av).flatten := fun b => flat_splice Item.av_len l k 6 [.str b] (by simp) (List.getElem?_eq_getElem hk) (by simp)
  have hl : k * 7 + 6 < l.length * 7 := by omega
  have hl1 : k * 7 + 6 + 1 ≤ l.length * 7 := by omega
  have hz := fun y => flat_frz Item.av_len Item.av_data (l.set k y)
  simp only [List.length_set] at hz
  refine call_go rfl rfl rfl ?_
  unfold cutB
  by_cases hj : j < 0
  · have e1 : ¬ ((l[k].body.size : Int) < j) := by omega
    have e2 : ¬ (0 < j) := by omega
    simp [F25, has_spec, flat_len Item.av_len, hne, hle, h1, h2, hk, hg, hl, hl1, hs, hj, e1, e2, hz, flat_okPs Item.av_data, flat_frzd Item.av_data, -List.map_set]
  · by_cases h3 : (l[k].body.size : Int) < j
    · by_cases h4 : l[k].body.size = 0
      · have e5 : 0 < j := by omega
        simp [F25, has_spec, flat_len Item.av_len, hne, hle, h1, h2, hk, hg, hl, hl1, hs, hj, h3, h4, e5, hz, flat_okPs Item.av_data, flat_frzd Item.av_data, -List.map_set]
      · have e2 : 0 < l[k].body.size := by omega
        simp [F25, has_spec, flat_len Item.av_len, hne, hle, h1, h2, hk, hg, hl, hl1, hs, hj, h3, e2, hz, flat_okPs Item.av_data, flat_frzd Item.av_data, -List.map_set]
    · have e3 : j ≤ l[k].body.size := by omega
      by_cases h4 : 0 < j
      · have e4 : 0 ≤ j := by omega
        simp [F25, has_spec, flat_len Item.av_len, hne, hle, h1, h2, hk, hg, hl, hl1, hs, hj, h3, h4, e3, e4, hz, flat_okPs Item.av_data, flat_frzd Item.av_data, -List.map_set]
      · obtain rfl : j = 0 := by omega
        simp [F25, has_spec, flat_len Item.av_len, hne, hle, h1, h2, hk, hg, hl, hl1, hs, h3, hz, flat_okPs Item.av_data, flat_frzd Item.av_data, -List.map_set]
theorem lose_no (l : List Item) (i : Int) (m : Mem) (lv : Nat) (hi : (decide (0 ≤ i) && decide (i < l.length)) = false) :
    (sem T).call 31 [.agg [.sl none 7 (l.map Item.av)], .int .i64 i] m lv = some ([.agg [.sl none 7 []], .int .i64 11], m) := by
  refine call_go rfl rfl rfl ?_
  simp [F31, take_no l i noMem 0 hi]
theorem lose_yes (l : List Item) (k : Nat) (hk : k < l.length) (m : Mem) (lv : Nat) (h : l.length ≤ 600) :
    (sem T).call 31 [.agg [.sl none 7 (l.map Item.av)], .int .i64 (k : Int)] m lv = some ([.agg [.sl none 7 ((l.eraseIdx k).map Item.av)], .int .i64 0], m) := by
  obtain ⟨o, ho⟩ := take_yes l k hk noMem 0 h
  refine call_go rfl rfl rfl ?_
  simp [F31, ho]
theorem double_no (l : List Item) (i : Int) (m : Mem) (lv : Nat) (hi : (decide (0 ≤ i) && decide (i < l.length)) = false) :
    (sem T).call 30 [.agg [.sl none 7 (l.map Item.av)], .int .i64 i] m lv = some ([.agg [.sl (some 48) 7 []], .int .i64 11], m) := by
  refine call_go rfl rfl rfl ?_
  simp [F30, has_spec, hi]
theorem double_yes (l : List Item) (k : Nat) (hk : k < l.length) (m : Mem) (lv : Nat) (h : l.length ≤ 600) :
    (sem T).call 30 [.agg [.sl none 7 (l.map Item.av)], .int .i64 (k : Int)] m lv = some (if 512 ≤ l.length then [.agg [.sl (some 48) 7 []], .int .i64 9] else [.agg [.sl (some 48) 7 ((l ++ [l[k]]).map Item.av)], .int .i64 0], m) := by
  have hle : ¬ l.length ≤ k := by omega
  refine call_go rfl rfl rfl ?_
  by_cases h5 : 512 ≤ l.length
  · have e : (512 : Int) ≤ l.length := by omega
    simp [F30, has_spec, hk, hle, h5, e]
  · have e : ¬ (512 : Int) ≤ l.length := by omega
    have e2 : (l.length : Int) < 512 := by omega
    simp [F30, has_spec, hk, hle, h5, e, e2, with_spec _ _ _ _ _ _ _ _ _ _ h]
end Go.Ev
