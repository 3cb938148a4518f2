/- The laws NetCalls and NetPlays answer true in the evaluator. Condition: none. -/
import Derived.Test.YtghhhpcdakdjjaaNetS3
namespace Go.Ev
set_option linter.all false
theorem aw24 : ((orc T 10).call 24 [] noMem 0).map (·.1) = some [.bool true] := by kernel_rfl
theorem awake_spec : ∃ m, (sem T).call 24 [] noMem 0 = some ([.bool true], m) := by
  obtain ⟨⟨rs, m⟩, h1, h2⟩ := Option.map_eq_some_iff.1 aw24
  have h2 : rs = [.bool true] := h2
  subst h2
  exact ⟨m, sem_call_iff.2 ⟨10, h1⟩⟩
theorem calls_loop (xs : List Int) (m : Mem) (lv : Nat) : ∀ (d i : Nat), i + d = xs.length → (hx : xs.length ≤ 1000) → ∀ s : St, s.mask [11, 12, 13] [] = some ⟨84, lv, tmOf [(11, .sl (some 3) 1 (xs.map intRow)), (12, .sl (some 3) 1 (xs.map intRow)), (13, .int .i64 (i : Int))], bxOf [], m⟩ →
    (sem T).loop [11, 12, 13] [] L13_0 s = some (.ex 0, ⟨84, lv, tmOf [], bxOf [], m⟩)
  | 0, i, hd, hx, s, hs => by
    refine loop_end hs ?_ (by intro e; cases e)
    obtain rfl : i = xs.length := by omega
    simp [L13_0]
  | d + 1, i, hd, hx, s, hs => by
    have hk : i < xs.length := by omega
    have hw := IntWalk.i64_in ((i : Int) + 1) (by omega)
    refine loop_round hs ?_ (calls_loop xs m lv d (i + 1) (by omega) hx)
    simp [L13_0, hk, hw, intRow]
theorem stepR_len (l : List Item) (a : Act) : (stepR l a).1.length ≤ l.length + 1 := by
  unfold stepR
  have h1 := fun i => List.length_eraseIdx_le l i
  repeat' split
  all_goals simp
  all_goals exact Nat.le_succ_of_le (h1 _)
theorem calls_spec (l : List Item) (a : Act) (ha : a.ok) : ∃ m, (sem T).call 13 [.agg [.sl none 7 (l.map Item.av)], .agg a.av] noMem 0 = some ([.bool true], m) := by
  obtain ⟨m0, haw⟩ := awake_spec
  refine ⟨noMem, call_go rfl rfl rfl ?_⟩
  by_cases h1 : 600 < l.length
  · have e1 : (600 : Int) < l.length := by omega
    simp [F13, haw, e1]
  · have e1 : ¬ (600 : Int) < l.length := by omega
    have e2 : (l.length : Int) ≤ 600 := by omega
    by_cases h2 : 70000 < a.body.size
    · have e3 : (70000 : Int) < a.body.size := by omega
      simp [F13, haw, e1, e2, e3]
    · have e3 : ¬ (70000 : Int) < a.body.size := by omega
      have h600 : l.length ≤ 600 := by omega
      have hd := do_spec l a ha noMem 0 h600
      have hf := follow_spec l a ha noMem 0 h600
      have hm := model_spec l noMem 0 h600
      have hs := same_spec (stepR l a).1 noMem 0 (by have := stepR_len l a; omega)
      have q1 := for_spec l a.t1 a.t2 a.t3 noMem 0 h600
      have q2 := rfor_spec l a.t1 a.t2 a.t3 noMem 0 h600
      have hx := idxs_len l a.t1 a.t2 a.t3 l.length
      have hlp := calls_loop (ixs l a.t1 a.t2 a.t3 l.length) noMem 0 _ 0 (by rw [Nat.zero_add]) (by unfold idxs at hx; rw [List.length_map] at hx; omega)
      unfold idxs at q1 q2
      simp only [Act.av, Item.av] at hd hf
      simp [F13, haw, e1, e2, e3, hd, hf, hm, hs, q1, q2, hlp]
/-- The loop of NetPlays ends, or returns true. -/
theorem plays_loop (acts : List Act) (hok : ∀ a ∈ acts, a.ok) (hlen : acts.length ≤ 60) (m : Mem) (lv : Nat) : ∀ (d i : Nat), i + d = acts.length → ∀ (l : List Item) (o1 o2 : Option TypeId), l.length ≤ i → ∀ s : St,
    s.mask [0, 3, 4, 5] [3, 4] = some ⟨68, lv, tmOf [(0, .sl none 10 (acts.map Act.av)), (3, .ptr lv 3 0), (4, .ptr lv 4 0), (5, .int .i64 (i : Int))], bxOf [(3, some (.cells 39 [.sl o1 7 (l.map Item.av)])), (4, some (.cells 56 [.sl o2 7 (l.map Item.av)]))], m⟩ →
    ∃ r, (sem T).loop [0, 3, 4, 5] [3, 4] L12_0 s = some r ∧ (r = (.ex 0, ⟨68, lv, tmOf [], bxOf [], m⟩) ∨ r = (.ret, ⟨68, lv, tmOf [(2, .bool true)], bxOf [], m⟩))
  | 0, i, hd, l, o1, o2, hl, s, hs => by
    refine ⟨_, loop_end (fl := .ex 0) hs ?_ (by intro e; cases e), .inl rfl⟩
    obtain rfl : i = acts.length := by omega
    simp [L12_0]
  | d + 1, i, hd, l, o1, o2, hl, s, hs => by
    have hk : i < acts.length := by omega
    have hw := IntWalk.i64_in ((i : Int) + 1) (by omega)
    by_cases hb : 70000 < (acts[i]).body.size
    · have e1 : (70000 : Int) < (acts[i]).body.size := by omega
      refine ⟨_, loop_end (fl := .ret) hs ?_ (by intro e; cases e), .inr rfl⟩
      simp [L12_0, hk, e1]
    · have e1 : ¬ (70000 : Int) < (acts[i]).body.size := by omega
      have h600 : l.length ≤ 600 := by omega
      have ha := hok _ (List.getElem_mem hk)
      have hdo := do_spec l acts[i] ha noMem 0 h600
      have hfo := follow_spec l acts[i] ha noMem 0 h600
      have hsl := stepR_len l acts[i]
      have hsame := same_spec (stepR l acts[i]).1 noMem 0 (by omega)
      simp only [Act.av, Item.av] at hdo hfo
      by_cases he : (stepR l acts[i]).2.2 = 0
      · refine loop_roundP hs ?_ (plays_loop acts hok hlen m lv d (i + 1) (by omega) (stepR l acts[i]).1 none none (by omega))
        simp [L12_0, hk, hw, e1, hdo, hfo, hsame, he]
      · refine loop_roundP hs ?_ (plays_loop acts hok hlen m lv d (i + 1) (by omega) l o1 o2 (by omega))
        simp [L12_0, hk, hw, e1, hdo, hfo, hsame, he]
theorem plays_spec (acts : List Act) (hok : ∀ a ∈ acts, a.ok) : ∃ m, (sem T).call 12 [.sl none 10 (acts.map Act.av)] noMem 0 = some ([.bool true], m) := by
  obtain ⟨m0, haw⟩ := awake_spec
  refine ⟨noMem, call_go rfl rfl rfl ?_⟩
  by_cases h1 : 60 < acts.length
  · have e1 : (60 : Int) < acts.length := by omega
    simp [F12, haw, e1]
  · have e1 : ¬ (60 : Int) < acts.length := by omega
    have hlp := plays_loop acts hok (by omega) noMem 0 _ 0 (by rw [Nat.zero_add]) [] (some 48) (some 62) (Nat.zero_le _)
    have key : ∀ s : St, s.mask [0, 3, 4, 5] [3, 4] = some ⟨68, 0, tmOf [(0, .sl none 10 (acts.map Act.av)), (3, .ptr 0 3 0), (4, .ptr 0 4 0), (5, .int .i64 (0 : Int))], bxOf [(3, some (.cells 39 [.sl (some 48) 7 []])), (4, some (.cells 56 [.sl (some 62) 7 []]))], noMem⟩ →
        leaveBy [.tmp 2] 0 (goR (sem T) ((sem T).loop [0, 3, 4, 5] [3, 4] L12_0 s) [.blk 0, .seq (.seq (.reg [⟨(.mov (.c (.bool true)) false), (some 2), none, .any⟩]) (.retK [2] []))]) = some ([.bool true], noMem) := fun s hs => by
      obtain ⟨r, hr, rfl | rfl⟩ := hlp s hs
      · rw [hr]
        simp
      · rw [hr]
        simp
    simp [F12, haw, e1, key]
end Go.Ev
