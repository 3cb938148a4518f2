/- What the reference's functions and the loops of layer 54 answer, over lists of items. Condition: at most 600 items. -/
import Derived.Test.YtghhhpcdakdjjaaNetS1
namespace Go.Ev
set_option linter.all false
theorem there_spec (rows : List (List AV)) (i : Int) (m : Mem) (lv : Nat) :
    (sem T).call 56 [.agg [.sl none 7 rows], .int .i64 i] m lv = some ([.bool (decide (0 ≤ i) && decide (i < rows.length))], m) := by
  refine call_go rfl rfl rfl ?_
  by_cases hi : 0 ≤ i <;> simp [F56, hi]
theorem add_spec (l : List Item) (a1 : Bool) (a2 a3 : Int) (b1 : Bool) (b2 b3 : Int) (s : ByteArray) (m : Mem) (lv : Nat) (h : l.length ≤ 600) :
    (sem T).call 55 [.agg [.sl none 7 (l.map Item.av)], .agg [.bool a1, .int .u64 a2, .int .u64 a3, .bool b1, .int .u64 b2, .int .u64 b3, .str s]] m lv = some ([.agg [.sl (some 62) 7 ((l ++ [(⟨a1, a2, a3, b1, b2, b3, s⟩ : Item)]).map Item.av)]], m) := by
  have h1 : l.length ≤ 9223372036854775807 := by omega
  have h2 : l.length * 64 ≤ 140737488355328 := by omega
  have h3 : (l.length + 1) * 64 ≤ 140737488355328 := by omega
  have h4 : l.length ≤ 9223372036854775806 := by omega
  refine call_go rfl rfl rfl ?_
  simp [F55, h1, h2, h3, h4]
theorem rsend_spec (l : List Item) (a1 : Bool) (a2 a3 : Int) (b1 : Bool) (b2 b3 : Int) (s : ByteArray) (m : Mem) (lv : Nat) (h : l.length ≤ 600) :
    (sem T).call 45 [.agg [.sl none 7 (l.map Item.av)], .agg [.bool a1, .int .u64 a2, .int .u64 a3], .agg [.bool b1, .int .u64 b2, .int .u64 b3], .str s] m lv =
    some (if 512 ≤ l.length ∨ 65535 < s.size then [.agg [.sl (some 62) 7 []], .int .i64 9] else [.agg [.sl (some 62) 7 ((l ++ [(⟨a1, a2, a3, b1, b2, b3, s⟩ : Item)]).map Item.av)], .int .i64 0], m) := by
  refine call_go rfl rfl rfl ?_
  rcases le_or 512 (l.length : Int) with ⟨p, q⟩ | ⟨p, q⟩
  · have : 512 ≤ l.length := by have := of_eq_true p; omega
    simp [F45, p, q, this]
  · have t1 : ¬ 512 ≤ l.length := by have := of_eq_true q; omega
    rcases le_or (s.size : Int) 65535 with ⟨p2, q2⟩ | ⟨p2, q2⟩
    · have t2 : ¬ 65535 < s.size := by have := of_eq_true p2; omega
      simp [F45, p, q, p2, q2, t1, t2, add_spec _ _ _ _ _ _ _ _ _ _ h]
    · have t2 : 65535 < s.size := by have := of_eq_true q2; omega
      simp [F45, p, q, p2, q2, t1, t2]
theorem rtake_no (l : List Item) (i : Int) (m : Mem) (lv : Nat) (hi : (decide (0 ≤ i) && decide (i < l.length)) = false) :
    (sem T).call 46 [.agg [.sl none 7 (l.map Item.av)], .int .i64 i] m lv = some ([.agg [.sl (some 62) 7 []], .agg Item.zero.av, .int .i64 11], m) := by
  refine call_go rfl rfl rfl ?_
  simp [F46, there_spec, hi, Item.zero]
theorem rtake_yes (l : List Item) (k : Nat) (hk : k < l.length) (m : Mem) (lv : Nat) (h : l.length ≤ 600) :
    (sem T).call 46 [.agg [.sl none 7 (l.map Item.av)], .int .i64 (k : Int)] m lv = some ([.agg [.sl (some 62) 7 ((l.eraseIdx k).map Item.av)], .agg (l[k]).av, .int .i64 0], m) := by
  have hw := IntWalk.i64_in ((k : Int) + 1) (by omega)
  have hi : (k : Int) + 1 ≤ l.length := by omega
  have hle : ¬ l.length ≤ k := by omega
  have hkl : k ≤ l.length := by omega
  have h0 : (0 : Int) ≤ (k : Int) + 1 := by omega
  have ht : ((k : Int) + 1).toNat = k + 1 := by omega
  have e1 : min k l.length = k := by omega
  have c1 : k * 64 ≤ 140737488355328 := by omega
  have c2 : k ≤ 9223372036854775807 := by omega
  have c3 : (k + (l.length - (k + 1))) * 64 ≤ 140737488355328 := by omega
  have c4 : k + (l.length - (k + 1)) ≤ 9223372036854775807 := by omega
  refine call_go rfl rfl rfl ?_
  simp [F46, there_spec, hw, hi, hle, hkl, h0, ht, hk, e1, c1, c2, c3, c4, List.eraseIdx_eq_take_drop_succ, List.map_take, List.map_drop, List.take_of_length_le]
theorem rlose_no (l : List Item) (i : Int) (m : Mem) (lv : Nat) (hi : (decide (0 ≤ i) && decide (i < l.length)) = false) :
    (sem T).call 47 [.agg [.sl none 7 (l.map Item.av)], .int .i64 i] m lv = some ([.agg [.sl none 7 []], .int .i64 11], m) := by
  refine call_go rfl rfl rfl ?_
  simp [F47, rtake_no l i noMem 0 hi]
theorem rlose_yes (l : List Item) (k : Nat) (hk : k < l.length) (m : Mem) (lv : Nat) (h : l.length ≤ 600) :
    (sem T).call 47 [.agg [.sl none 7 (l.map Item.av)], .int .i64 (k : Int)] m lv = some ([.agg [.sl none 7 ((l.eraseIdx k).map Item.av)], .int .i64 0], m) := by
  refine call_go rfl rfl rfl ?_
  simp [F47, rtake_yes l k hk noMem 0 h]
theorem rdouble_no (l : List Item) (i : Int) (m : Mem) (lv : Nat) (hi : (decide (0 ≤ i) && decide (i < l.length)) = false) :
    (sem T).call 48 [.agg [.sl none 7 (l.map Item.av)], .int .i64 i] m lv = some ([.agg [.sl (some 62) 7 []], .int .i64 11], m) := by
  refine call_go rfl rfl rfl ?_
  simp [F48, there_spec, hi]
theorem rdouble_yes (l : List Item) (k : Nat) (hk : k < l.length) (m : Mem) (lv : Nat) (h : l.length ≤ 600) :
    (sem T).call 48 [.agg [.sl none 7 (l.map Item.av)], .int .i64 (k : Int)] m lv = some (if 512 ≤ l.length then [.agg [.sl (some 62) 7 []], .int .i64 9] else [.agg [.sl (some 62) 7 ((l ++ [l[k]]).map Item.av)], .int .i64 0], m) := by
  have hle : ¬ l.length ≤ k := by omega
  refine call_go rfl rfl rfl ?_
  by_cases h5 : 512 ≤ l.length
  · have e : (512 : Int) ≤ l.length := by omega
    simp [F48, there_spec, hk, hle, h5, e]
  · have e : ¬ (512 : Int) ≤ l.length := by omega
    have e2 : (l.length : Int) < 512 := by omega
    simp [F48, there_spec, hk, hle, h5, e, e2, add_spec _ _ _ _ _ _ _ _ _ _ h]
theorem rcut_no (l : List Item) (i j : Int) (m : Mem) (lv : Nat) (hi : (decide (0 ≤ i) && decide (i < l.length)) = false) :
    (sem T).call 49 [.agg [.sl none 7 (l.map Item.av)], .int .i64 i, .int .i64 j] m lv = some ([.agg [.sl (some 62) 7 []], .int .i64 11], m) := by
  refine call_go rfl rfl rfl ?_
  simp [F49, there_spec, hi]
theorem cutB_all (b : ByteArray) (j : Int) (hj : 0 ≤ j) (h : (b.size : Int) ≤ j) : cutB b j = b := by
  unfold cutB
  rw [if_neg (by omega)]
  have : (if (b.size : Int) < j then b.size else j.toNat) = b.size := by split <;> omega
  rw [this]
  exact ByteArray.extract_zero_size
theorem rcut_yes (l : List Item) (k : Nat) (hk : k < l.length) (j : Int) (m : Mem) (lv : Nat) (h : l.length ≤ 600) :
    ∃ o, (sem T).call 49 [.agg [.sl none 7 (l.map Item.av)], .int .i64 (k : Int), .int .i64 j] m lv = some ([.agg [.sl o 7 ((l.set k { l[k] with body := cutB l[k].body j }).map Item.av)], .int .i64 0], m) := by
  have hne : l ≠ [] := by intro e; subst e; simp at hk
  have hle : ¬ l.length ≤ k := by omega
  have h1 : l.length ≤ 9223372036854775807 := by omega
  have h2 : l.length * 64 ≤ 140737488355328 := by omega
  have hg := flat_cell Item.av_len l k hk 6 (by omega)
  have hs : ∀ (b : ByteArray), splice ((l.map Item.av).flatten) (k * 7 + 6) [.str b] = ((l.set k { l[k] with body := b }).map Item.av).flatten := fun b => flat_splice Item.av_len l k 6 [.str b] (by simp) (List.getElem?_eq_getElem hk) (by simp)
  have hl : k * 7 + 6 < l.length * 7 := by omega
  have hl1 : k * 7 + 6 + 1 ≤ l.length * 7 := by omega
  have hz := fun y => flat_frz Item.av_len Item.av_data (l.set k y)
  have hz0 := flat_frz Item.av_len Item.av_data l
  simp only [List.length_set] at hz
  refine ⟨some 62, call_go rfl rfl rfl ?_⟩
  by_cases hj : j < 0
  · by_cases h4 : l[k].body.size = 0
    · have hc : cutB l[k].body j = l[k].body := by
        unfold cutB
        rw [if_pos hj]
        have := @ByteArray.extract_zero_size l[k].body
        rw [h4] at this
        exact this
      have hn : ¬ (0 < l[k].body.size) := by omega
      rw [hc, show ({ l[k] with body := l[k].body } : Item) = l[k] from rfl, List.set_getElem_self]
      simp [F49, there_spec, flat_len Item.av_len, hne, hle, h1, h2, hk, hg, hl, hl1, hs, hj, h4, hn, hz0, flat_okPs Item.av_data, flat_frzd Item.av_data]
    · have hn : 0 < l[k].body.size := by omega
      have hc : cutB l[k].body j = l[k].body.extract 0 0 := by unfold cutB; rw [if_pos hj]
      rw [hc]
      simp [F49, there_spec, flat_len Item.av_len, hne, hle, h1, h2, hk, hg, hl, hl1, hs, hj, h4, hn, hz, flat_okPs Item.av_data, flat_frzd Item.av_data, -List.map_set]
  · by_cases h3 : j < l[k].body.size
    · have hc : cutB l[k].body j = l[k].body.extract 0 j.toNat := by unfold cutB; rw [if_neg hj, if_neg (by omega)]
      have e1 : 0 ≤ j := by omega
      have e2 : j ≤ l[k].body.size := by omega
      rw [hc]
      simp [F49, there_spec, flat_len Item.av_len, hne, hle, h1, h2, hk, hg, hl, hl1, hs, hj, h3, e1, e2, hz, flat_okPs Item.av_data, flat_frzd Item.av_data, -List.map_set]
    · rw [cutB_all _ _ (by omega) (by omega), show ({ l[k] with body := l[k].body } : Item) = l[k] from rfl, List.set_getElem_self]
      simp [F49, there_spec, flat_len Item.av_len, hne, hle, h1, h2, hk, hg, hl, hl1, hs, hj, h3, hz0, flat_okPs Item.av_data, flat_frzd Item.av_data]
/-! ### Loops -/
theorem same_loop (l : List Item) (m : Mem) (lv : Nat) (h : l.length ≤ 1000) : ∀ (d i : Nat), i + d = l.length → ∀ s : St, s.mask [2, 3, 5] [2, 3] = some ⟨31, lv, tmOf [(2, .ptr lv 2 0), (3, .ptr lv 3 0), (5, .int .i64 (i : Int))], bxOf [(2, some (.cells 39 [.sl none 7 (l.map Item.av)])), (3, some (.cells 56 [.sl none 7 (l.map Item.av)]))], m⟩ →
    (sem T).loop [2, 3, 5] [2, 3] L28_0 s = some (.ex 0, ⟨31, lv, tmOf [], bxOf [], m⟩)
  | 0, i, hd, s, hs => by
    refine loop_end hs ?_ (by intro e; cases e)
    have e : ¬ (i < l.length) := by omega
    simp [L28_0, e]
  | d + 1, i, hd, s, hs => by
    have hk : i < l.length := by omega
    have hw := IntWalk.i64_in ((i : Int) + 1) (by omega)
    refine loop_round hs ?_ (same_loop l m lv h d (i + 1) (by omega))
    simp [L28_0, hk, hw]
theorem same_spec (l : List Item) (m : Mem) (lv : Nat) (h : l.length ≤ 1000) : (sem T).call 28 [.agg [.sl none 7 (l.map Item.av)], .agg [.sl none 7 (l.map Item.av)]] m lv = some ([.bool true], m) := by
  have hl := same_loop l m lv h l.length 0 (by omega)
  refine call_go rfl rfl rfl ?_
  simp [F28, hl]
theorem model_loop (l : List Item) (m : Mem) (lv : Nat) (h : l.length ≤ 600) : ∀ (d i : Nat), i + d = l.length → ∀ s : St, s.mask [1, 2, 3, 4] [1, 2] = some ⟨22, lv, tmOf [(1, .ptr lv 1 0), (2, .ptr lv 2 0), (3, .sl (some 62) 7 ((l.take i).map Item.av)), (4, .int .i64 (i : Int))], bxOf [(1, some (.cells 39 [.sl none 7 (l.map Item.av)])), (2, some (.cells 56 [.sl (some 62) 7 []]))], m⟩ →
    (sem T).loop [1, 2, 3, 4] [1, 2] L29_0 s = some (.ex 0, ⟨22, lv, tmOf [(2, .ptr lv 2 0), (3, .sl (some 62) 7 (l.map Item.av))], bxOf [(2, some (.cells 56 [.sl (some 62) 7 []]))], m⟩)
  | 0, i, hd, s, hs => by
    refine loop_end hs ?_ (by intro e; cases e)
    have e : ¬ (i < l.length) := by omega
    have e2 : l.take i = l := List.take_of_length_le (by omega)
    simp [L29_0, e, e2]
  | d + 1, i, hd, s, hs => by
    have hk : i < l.length := by omega
    have hw := IntWalk.i64_in ((i : Int) + 1) (by omega)
    refine loop_round hs ?_ (model_loop l m lv h d (i + 1) (by omega))
    have e1 : min i l.length = i := by omega
    have c1 : (i + 1) * 64 ≤ 140737488355328 := by omega
    have c2 : i ≤ 9223372036854775806 := by omega
    have ht : (l.take (i + 1)).map Item.av = (l.take i).map Item.av ++ [(l[i]).av] := by rw [List.take_succ_eq_append_getElem hk, List.map_append]; rfl
    simp only [Item.av] at ht
    rw [ht]
    simp [L29_0, hk, hw, e1, c1, c2, -List.map_take]
theorem model_spec (l : List Item) (m : Mem) (lv : Nat) (h : l.length ≤ 600) : (sem T).call 29 [.agg [.sl none 7 (l.map Item.av)]] m lv = some ([.agg [.sl (some 62) 7 (l.map Item.av)]], m) := by
  have hl := model_loop l m lv h l.length 0 (by omega)
  simp only [List.take_zero, List.map_nil] at hl
  refine call_go rfl rfl rfl ?_
  simp [F29, hl]
/-- The indexes below i of the items to an address. -/
def ixs (l : List Item) (a : Bool) (b c : Int) (i : Nat) : List Int := ((l.take i).zipIdx.filter fun p => (p.1.t1 == a) && ((p.1.t2 == b) && (p.1.t3 == c))).map fun p => (p.2 : Int)
def intRow (x : Int) : List AV := [.int .i64 x]
def idxs (l : List Item) (a : Bool) (b c : Int) (i : Nat) : List (List AV) := (ixs l a b c i).map intRow
theorem idxs_succ (l : List Item) (a : Bool) (b c : Int) (i : Nat) (h : i < l.length) : idxs l a b c (i + 1) = idxs l a b c i ++ if ((l[i]).t1 == a) && (((l[i]).t2 == b) && ((l[i]).t3 == c)) then [[.int .i64 (i : Int)]] else [] := by
  unfold idxs ixs
  rw [List.take_succ_eq_append_getElem h, List.zipIdx_append, List.filter_append, List.map_append, List.map_append]
  congr 1
  have : (l.take i).length = i := by rw [List.length_take]; omega
  simp only [List.zipIdx_cons, List.zipIdx_nil, List.filter_cons, List.filter_nil, this, Nat.zero_add]
  split <;> rfl
theorem idxs_len (l : List Item) (a : Bool) (b c : Int) (i : Nat) : (idxs l a b c i).length ≤ l.length := by
  unfold idxs ixs
  rw [List.length_map, List.length_map]
  refine Nat.le_trans (List.length_filter_le _ _) ?_
  rw [List.length_zipIdx, List.length_take]
  omega
theorem for_loop (l : List Item) (a : Bool) (b c : Int) (m : Mem) (lv : Nat) (h : l.length ≤ 600) : ∀ (d i : Nat), i + d = l.length → ∀ s : St, s.mask [3, 5, 9, 10, 11] [3] = some ⟨26, lv, tmOf [(3, .ptr lv 3 0), (5, .sl (some 3) 1 (idxs l a b c i)), (9, .sl none 7 (l.map Item.av)), (10, .int .i64 (l.length : Int)), (11, .int .i64 (i : Int))], bxOf [(3, some (.cells 41 [.bool a, .int .u64 b, .int .u64 c]))], m⟩ →
    (sem T).loop [3, 5, 9, 10, 11] [3] L34_0 s = some (.ex 0, ⟨26, lv, tmOf [(5, .sl (some 3) 1 (idxs l a b c l.length))], bxOf [], m⟩)
  | 0, i, hd, s, hs => by
    refine loop_end hs ?_ (by intro e; cases e)
    obtain rfl : i = l.length := by omega
    simp [L34_0]
  | d + 1, i, hd, s, hs => by
    have hk : i < l.length := by omega
    have hw := IntWalk.i64_in ((i : Int) + 1) (by omega)
    refine loop_round hs ?_ (for_loop l a b c m lv h d (i + 1) (by omega))
    have hn := idxs_len l a b c i
    have c1 : ((idxs l a b c i).length + 1) * 8 ≤ 140737488355328 := by omega
    have c2 : (idxs l a b c i).length ≤ 9223372036854775806 := by omega
    rw [idxs_succ l a b c i hk]
    by_cases hc : (l[i]).t1 = a ∧ (l[i]).t2 = b ∧ (l[i]).t3 = c
    · simp [L34_0, hk, hw, hc, c1, c2]
    · have hc2 : (((l[i]).t1 == a) && (((l[i]).t2 == b) && ((l[i]).t3 == c))) = false := by simpa using hc
      simp [L34_0, hk, hw, hc, hc2]
theorem for_spec (l : List Item) (a : Bool) (b c : Int) (m : Mem) (lv : Nat) (h : l.length ≤ 600) : (sem T).call 34 [.agg [.sl none 7 (l.map Item.av)], .agg [.bool a, .int .u64 b, .int .u64 c]] m lv = some ([.sl (some 3) 1 (idxs l a b c l.length)], m) := by
  have hl := for_loop l a b c m lv h l.length 0 (by omega)
  have h0 : idxs l a b c 0 = [] := by simp [idxs, ixs]
  rw [h0] at hl
  refine call_go rfl rfl rfl ?_
  simp [F34, hl]
theorem rfor_loop (l : List Item) (a : Bool) (b c : Int) (m : Mem) (lv : Nat) (h : l.length ≤ 600) : ∀ (d i : Nat), i + d = l.length → ∀ s : St, s.mask [2, 3, 5, 6] [2, 3] = some ⟨27, lv, tmOf [(2, .ptr lv 2 0), (3, .ptr lv 3 0), (5, .sl (some 3) 1 (idxs l a b c i)), (6, .int .i64 (i : Int))], bxOf [(2, some (.cells 56 [.sl none 7 (l.map Item.av)])), (3, some (.cells 41 [.bool a, .int .u64 b, .int .u64 c]))], m⟩ →
    (sem T).loop [2, 3, 5, 6] [2, 3] L35_0 s = some (.ex 0, ⟨27, lv, tmOf [(5, .sl (some 3) 1 (idxs l a b c l.length))], bxOf [], m⟩)
  | 0, i, hd, s, hs => by
    refine loop_end hs ?_ (by intro e; cases e)
    obtain rfl : i = l.length := by omega
    simp [L35_0]
  | d + 1, i, hd, s, hs => by
    have hk : i < l.length := by omega
    have hw := IntWalk.i64_in ((i : Int) + 1) (by omega)
    refine loop_round hs ?_ (rfor_loop l a b c m lv h d (i + 1) (by omega))
    have hn := idxs_len l a b c i
    have c1 : ((idxs l a b c i).length + 1) * 8 ≤ 140737488355328 := by omega
    have c2 : (idxs l a b c i).length ≤ 9223372036854775806 := by omega
    rw [idxs_succ l a b c i hk]
    by_cases hc : (l[i]).t1 = a ∧ (l[i]).t2 = b ∧ (l[i]).t3 = c
    · simp [L35_0, hk, hw, hc, c1, c2]
    · have hc2 : (((l[i]).t1 == a) && (((l[i]).t2 == b) && ((l[i]).t3 == c))) = false := by simpa using hc
      simp [L35_0, hk, hw, hc, hc2]
theorem rfor_spec (l : List Item) (a : Bool) (b c : Int) (m : Mem) (lv : Nat) (h : l.length ≤ 600) : (sem T).call 35 [.agg [.sl none 7 (l.map Item.av)], .agg [.bool a, .int .u64 b, .int .u64 c]] m lv = some ([.sl (some 3) 1 (idxs l a b c l.length)], m) := by
  have hl := rfor_loop l a b c m lv h l.length 0 (by omega)
  have h0 : idxs l a b c 0 = [] := by simp [idxs, ixs]
  rw [h0] at hl
  refine call_go rfl rfl rfl ?_
  simp [F35, hl]
end Go.Ev
