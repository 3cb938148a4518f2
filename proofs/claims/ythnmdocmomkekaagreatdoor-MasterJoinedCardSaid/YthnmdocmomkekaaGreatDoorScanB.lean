/- ScanK2, joined. Condition: each part's own. -/
import Derived.Test.YthnmdocmomkekaaGreatDoorScanA
/- The laws of Scan: MasterLines, MasterJoined. Condition: none. -/
namespace Go.Ev
set_option linter.all false
set_option maxHeartbeats 4000000
theorem w09_MasterLines_L0_eq (N : Nat) (a : List Rw0) (p1 p2 p3 : Int) (i : Nat) {e : Rw0} (ha : a[i]? = some e) (he : e.c2.length ≤ 1000000) (hg : ∀ w ∈ e.c2, w.c1 = false → w.c0 ≠ []) : ∀ (n k : Nat), k ≤ e.c2.length → e.c2.length < k + n → w09_MasterLines_L0 N n a p1 p2 p3 (i : Int) (k : Int) = some (.b ())
  | 0, k, hk, hn => by omega
  | n + 1, k, hk, hn => by
    unfold w09_MasterLines_L0
    simp only [atI_n, ha, Option.bind_some]
    rcases at_cases e.c2 k (by omega) with ⟨h0, h, h1, _⟩ | ⟨c, hc, hd, hlt, h1, _, hs⟩
    · rw [h1]; rfl
    · rw [h1, hs]
      simp only [hc, Option.bind_some, cond_true]
      rw [w09_MasterLines_L0_eq N a p1 p2 p3 i ha he hg n (k + 1) (by omega) (by omega)]
      cases hq : c.c1 with
      | true => rfl
      | false =>
        have : eqS c.c0 [] = false := by
          have := hg c (List.mem_of_getElem? hc) hq
          unfold eqS
          simp [this]
        rw [this]; rfl
theorem w09_MasterLines_L1_eq (N : Nat) (hN : 1000000 < N) (res : List Ln) (hl : res.length ≤ 1000000) (hi : Nat) (p1 : Int) (hr : ∀ y ∈ res, 1 ≤ y.num ∧ y.num < 1 + hi ∧ y.words ≠ [] ∧ GoodX y) (hw : ∀ y ∈ res, y.words.length ≤ 1000000) (hs' : res.Pairwise fun a b => a.num < b.num) :
    ∀ (n i last : Nat), i ≤ res.length → res.length < i + n → (∀ y ∈ res.drop i, last < y.num) → w09_MasterLines_L1 N n (res.map rw0) p1 (hi : Int) (last : Int) (i : Int) = some (.b ())
  | 0, i, last, hi', hn, _ => by omega
  | n + 1, i, last, hi', hn, hla => by
    unfold w09_MasterLines_L1
    have hlm : (res.map rw0).length = res.length := List.length_map ..
    rcases at_cases (res.map rw0) i (by omega) with ⟨h0, h, h1, _⟩ | ⟨e, he, hd, hlt, h1, _, hs⟩
    · rw [h1]; rfl
    · rw [h1, hs]
      rw [hlm] at hlt
      obtain ⟨y, hy⟩ : ∃ y, res[i]? = some y := ⟨_, List.getElem?_eq_getElem hlt⟩
      obtain rfl : e = rw0 y := by rw [rw0_at res i hy] at he; injection he with he; exact he.symm
      have hmem := List.mem_of_getElem? hy
      have hdr : res.drop i = y :: res.drop (i + 1) := by
        rw [List.drop_eq_getElem_cons hlt]
        rw [List.getElem?_eq_getElem hlt] at hy
        injection hy with hy
        rw [hy]
      have hnum := hla y (by rw [hdr]; exact List.mem_cons_self ..)
      obtain ⟨g1, g2, g3, g4⟩ := hr y hmem
      have t1 : leI (rw0 y).c0 (last : Int) = false := leI_f (by simp only [rw0]; omega)
      have t2 : ltI (hi : Int) (rw0 y).c0 = false := ltI_f (by simp only [rw0]; omega)
      have hwl := hw y hmem
      have hpos := List.length_pos_iff.2 g3
      have t3 : eqI (ln (rw0 y).c2) 0 = false := eqI_f (by unfold ln; simp only [rw0, List.length_map]; omega)
      have t4 : w09_MasterLines_L0 N N (res.map rw0) p1 (hi : Int) (rw0 y).c0 (i : Int) 0 = some (.b ()) := w09_MasterLines_L0_eq N (res.map rw0) p1 hi (rw0 y).c0 i he (by simp only [rw0, List.length_map]; omega) (fun w hw hq => by
        obtain ⟨v, hv, rfl⟩ := List.mem_map.1 hw
        exact g4 v hv hq) N 0 (by omega) (by simp only [rw0, List.length_map]; omega)
      simp only [atI_n, he, Option.bind_some, cond_true, cond_false, t1, t2, t3, t4, O2.el]
      have hp : ∀ z ∈ res.drop (i + 1), y.num < z.num := by
        have := hs'.sublist (List.drop_sublist i res)
        rw [hdr, List.pairwise_cons] at this
        exact this.1
      exact w09_MasterLines_L1_eq N hN res hl hi p1 hr hw hs' n (i + 1) y.num (by omega) (by omega) hp
theorem lines_pure (l : List UInt8) (hl : l.length ≤ 140737488355328) : w09_MasterLines (l.length + 2000000) l = some true := by
  unfold w09_MasterLines
  rw [master_Scan_eq _ _ (by omega), w09_feeds_eq _ _ hl (by omega)]
  have hf := fdN_le l
  have hadd : addI .i64 1 (fdN l : Int) = ((1 + fdN l : Nat) : Int) := addI_n 1 (fdN l) (by omega)
  simp only [Option.bind_some, hadd]
  unfold scanR
  by_cases h : 65536 < l.length
  · rw [if_pos h]
    simp only [eqI_f (show (9 : Int) ≠ 0 by omega), cond_false, eqI_t (show ln ([] : List Rw0) = 0 from rfl), cond_true, eqI_t (rfl : (9 : Int) = 9), eqI_t (rfl : (0 : Int) = 0), ltI_t (show (65536 : Int) < ln l by unfold ln; omega)]
    rfl
  · rw [if_neg h]
    rcases scanOf_cases l with ⟨m, e, h1, h2⟩ | ⟨res, e, ⟨⟨g1, g2⟩, g3⟩⟩
    · rw [e]
      simp only [outS, eqI_f (show (30 : Int) ≠ 0 by omega), cond_false, eqI_t (show ln ([] : List Rw0) = 0 from rfl), cond_true, eqI_f (show (30 : Int) ≠ 9 by omega), eqI_t (rfl : (30 : Int) = 30),
        leI_t (show (1 : Int) ≤ (m : Int) by omega), leI_t (show (m : Int) ≤ ((1 + fdN l : Nat) : Int) by omega), leI_t (show ln l ≤ 65536 by unfold ln; omega)]
      rfl
    · rw [e]
      have hlen := inc_len res 1 (2 + fdN l) g1 fun y hy => ⟨(g2 y hy).1, (g2 y hy).2.1⟩
      have := w09_MasterLines_L1_eq (l.length + 2000000) (by omega) res (by omega) (1 + fdN l) 0 (fun y hy => by
        have := g2 y hy
        exact ⟨this.1, by have := this.2.1; omega, this.2.2⟩) (fun y hy => by have := g3 y hy; omega) g1 (l.length + 2000000) 0 0 (by omega) (by omega) (fun y hy => by
        have := g2 y (List.mem_of_mem_drop hy)
        omega)
      have this : w09_MasterLines_L1 (l.length + 2000000) (l.length + 2000000) (res.map rw0) 0 ((1 + fdN l : Nat) : Int) 0 0 = some (.b ()) := this
      simp only [outS, eqI_t (rfl : (0 : Int) = 0), cond_true, this, Option.bind_some, O2.el]
      rfl
/-! ### Joined -/
theorem w09_MasterJoined_L0_eq (N : Nat) (p0 : List UInt8) (p1 p2 p3 : List Rw0) (p6 : Int) (p7 : Bool) (i : Nat) {e : Rw0} (ha : p3[i]? = some e) (he : e.c2.length ≤ 1000000) : ∀ (n k : Nat), k ≤ e.c2.length → e.c2.length < k + n → w09_MasterJoined_L0 N n p0 p1 p2 p3 (i : Int) (k : Int) p6 p7 e.c2 = some (.b ())
  | 0, k, hk, hn => by omega
  | n + 1, k, hk, hn => by
    unfold w09_MasterJoined_L0
    rcases at_cases e.c2 k (by omega) with ⟨h0, h, h1, _⟩ | ⟨c, hc, hd, hlt, h1, _, hs⟩
    · rw [h1]; rfl
    · rw [h1, hs]
      simp only [atI_n, ha, hc, Option.bind_some, cond_true, eqS_self]
      rw [w09_MasterJoined_L0_eq N p0 p1 p2 p3 p6 p7 i ha he n (k + 1) (by omega) (by omega)]
      cases c.c1 <;> rfl
theorem w09_MasterJoined_L1_eq (N : Nat) (hN : 1000000 < N) (s : List UInt8) (hs1 : s.length ≤ 1000000) (a b : List Ln) (hla : a.length ≤ 1000000) (hlb : b.length ≤ 1000000) (hna : ∀ y ∈ a, y.num ≤ 1000000 ∧ y.words.length ≤ 1000000) (hnb : ∀ y ∈ b, y.num ≤ 1000000 ∧ y.words.length ≤ 1000000) :
    ∀ (n i : Nat), i ≤ a.length + b.length → a.length + b.length < i + n → w09_MasterJoined_L1 N n s (a.map rw0) (b.map rw0) ((a ++ b.map (shX (fdN s))).map rw0) (i : Int) = some (.b ())
  | 0, i, hi, hn => by omega
  | n + 1, i, hi, hn => by
    unfold w09_MasterJoined_L1
    have hf := fdN_le s
    have hlc : ((a ++ b.map (shX (fdN s))).map rw0).length = a.length + b.length := by simp
    have hlm : (a.map rw0).length = a.length := List.length_map ..
    rcases at_cases ((a ++ b.map (shX (fdN s))).map rw0) i (by omega) with ⟨h0, h, h1, _⟩ | ⟨e, he, hd, hlt, h1, _, hs⟩
    · rw [h1]; rfl
    · rw [h1, hs]
      rw [hlc] at hlt
      have ih := w09_MasterJoined_L1_eq N hN s hs1 a b hla hlb hna hnb n (i + 1) (by omega) (by omega)
      simp only [cond_true, w09_feeds_eq N s (by omega) (by omega), Option.bind_some]
      by_cases hia : i < a.length
      · obtain ⟨y, hy⟩ : ∃ y, a[i]? = some y := ⟨_, List.getElem?_eq_getElem hia⟩
        obtain ⟨q1, q2⟩ := hna y (List.mem_of_getElem? hy)
        have hya := rw0_at a i hy
        have hyc : ((a ++ b.map (shX (fdN s))).map rw0)[i]? = some (rw0 y) := rw0_at _ i (by rw [List.getElem?_append_left hia]; exact hy)
        have t1 : ltI (i : Int) (ln (a.map rw0)) = true := ltI_t (by unfold ln; omega)
        have t2 : eqI (rw0 y).c0 (addI .i64 (rw0 y).c0 0) = true := eqI_t (by rw [addI_i _ _ (by simp only [rw0]; omega)]; omega)
        have t3 : eqI (ln (rw0 y).c2) (ln (rw0 y).c2) = true := eqI_t rfl
        have t4 : ∀ p7, w09_MasterJoined_L0 N N s (a.map rw0) (b.map rw0) ((a ++ b.map (shX (fdN s))).map rw0) (i : Int) 0 (rw0 y).c0 p7 (rw0 y).c2 = some (.b ()) := fun p7 => w09_MasterJoined_L0_eq N s _ _ _ (rw0 y).c0 p7 i hyc (by simp only [rw0, List.length_map]; omega) N 0 (by omega) (by simp only [rw0, List.length_map]; omega)
        simp only [t1, cond_true, atI_n, hya, hyc, Option.bind_some, t2, t3, t4, O2.el, ih]
        cases (rw0 y).c1 <;> rfl
      · obtain ⟨y, hy⟩ : ∃ y, b[i - a.length]? = some y := ⟨_, List.getElem?_eq_getElem (by omega)⟩
        obtain ⟨q1, q2⟩ := hnb y (List.mem_of_getElem? hy)
        have hya := rw0_at b (i - a.length) hy
        have hyc : ((a ++ b.map (shX (fdN s))).map rw0)[i]? = some (rw0 (shX (fdN s) y)) := rw0_at _ i (by rw [List.getElem?_append_right (by omega), List.getElem?_map, hy]; rfl)
        have t1 : ltI (i : Int) (ln (a.map rw0)) = false := ltI_f (by unfold ln; omega)
        have t0 : subI .i64 (i : Int) (ln (a.map rw0)) = ((i - a.length : Nat) : Int) := by rw [subI_i _ _ (by unfold ln; omega)]; unfold ln; omega
        have t2 : eqI (rw0 (shX (fdN s) y)).c0 (addI .i64 (rw0 y).c0 (fdN s : Int)) = true := eqI_t (by
          rw [addI_i _ _ (by simp only [rw0]; omega)]
          simp only [rw0, shX]
          omega)
        have tc : (rw0 (shX (fdN s) y)).c1 = (rw0 y).c1 := rfl
        have tw : (rw0 (shX (fdN s) y)).c2 = (rw0 y).c2 := rfl
        have t3 : eqI (ln (rw0 y).c2) (ln (rw0 y).c2) = true := eqI_t rfl
        have t4 : ∀ p7, w09_MasterJoined_L0 N N s (a.map rw0) (b.map rw0) ((a ++ b.map (shX (fdN s))).map rw0) (i : Int) 0 (rw0 y).c0 p7 (rw0 y).c2 = some (.b ()) := fun p7 => w09_MasterJoined_L0_eq N s _ _ _ (rw0 y).c0 p7 i hyc (by simp only [rw0, shX, List.length_map]; omega) N 0 (by omega) (by simp only [rw0, shX, List.length_map]; omega)
        simp only [t1, cond_false, t0, atI_n, hya, hyc, Option.bind_some, t2, cond_true, tc, tw, t3, t4, O2.el, ih]
        cases (rw0 y).c1 <;> rfl
theorem joined_cases (s t : List UInt8) (hs : EndN s) : (∃ m, scanOf s = .bad m ∧ (m = 1 + fdN s ∨ scanOf (s ++ t) = .bad m)) ∨
    (∃ res, scanOf s = .ok res ∧ scanOf (s ++ t) = shS (fdN s) res (scanOf t)) := by
  have h1 := runL_num s.length s 1 false ⟨1, blkAt s, []⟩ []
  have h2 := scan_cat t s.length s 1 false ⟨1, blkAt s, []⟩ [] (Nat.le_refl _) hs
  have h4 : scanOf s = fin (runL s.length s 1 false ⟨1, blkAt s, []⟩ []) := scanL_fin _ _ _ _ _ _
  have h5 : scanOf (s ++ t) = scanG (s ++ t) 1 false ⟨1, blkAt s, []⟩ [] := by unfold scanOf; rw [blkAt_app hs.ne]
  rw [h4, h5]
  cases hr : runL s.length s 1 false ⟨1, blkAt s, []⟩ [] with
  | bad m =>
    rw [hr] at h2
    exact .inl ⟨m, rfl, .inr h2⟩
  | st m op x out =>
    rw [hr] at h1 h2
    have h1 : m = 1 + fdN s := h1
    cases op with
    | true => exact .inl ⟨m, rfl, .inl h1⟩
    | false =>
      obtain ⟨q1, q2⟩ := h2
      refine .inr ⟨addLn out x, rfl, ?_⟩
      have hx : addLn out x = out := by unfold addLn; rw [if_pos (q2 rfl)]
      rw [hx, q1, h1]
      have := scan_sh (fdN s) out t.length t 1 false ⟨1, blkAt t, []⟩ []
      simp only [List.map_nil, List.append_nil] at this
      exact this
theorem joined_pure (s t : List UInt8) (hs1 : s.length ≤ 140737488355328) (ht1 : t.length ≤ 140737488355328) : w09_MasterJoined 2000000 s t = some true := by
  unfold w09_MasterJoined
  have hadd : addI .i64 (addI .i64 (ln s) (ln t)) 1 = ((s.length + t.length + 1 : Nat) : Int) := by
    have e1 : addI .i64 (ln s) (ln t) = ((s.length + t.length : Nat) : Int) := addI_n _ _ (by omega)
    rw [e1, addI_n1 _ (by omega)]
  rw [hadd]
  by_cases h : 65536 < s.length + t.length + 1
  · rw [ltI_t (by omega)]; rfl
  · rw [ltI_f (by omega)]
    have c1 : catI s [10] = some (s ++ [10]) := by unfold catI; rw [if_pos (by simp; omega)]
    have hsl : (s ++ [10]).length = s.length + 1 := by simp
    have c2 : catI (s ++ [10]) t = some (s ++ [10] ++ t) := by unfold catI; rw [if_pos (by omega)]
    obtain ⟨S, hS⟩ : ∃ S, s ++ [10] = S := ⟨_, rfl⟩
    rw [hS] at c1 c2 hsl
    have hE : EndN S := ⟨s, hS.symm⟩
    have hf := fdN_le S
    simp only [cond_false, c1, c2, Option.bind_some, master_Scan_eq _ _ (show 100000 < 2000000 by omega), w09_feeds_eq 2000000 S (by omega) (by omega)]
    have r1 : scanR S = outS (scanOf S) := if_neg (by omega)
    have r2 : scanR t = outS (scanOf t) := if_neg (by omega)
    have r3 : scanR (S ++ t) = outS (scanOf (S ++ t)) := if_neg (by rw [List.length_append]; omega)
    have hadd2 : addI .i64 1 (fdN S : Int) = ((1 + fdN S : Nat) : Int) := addI_n 1 (fdN S) (by omega)
    rw [r1, r2, r3]
    have n30 : eqI 30 0 = false := eqI_f (by omega)
    have e30 : eqI 30 30 = true := eqI_t rfl
    have e00 : eqI 0 0 = true := eqI_t rfl
    rcases joined_cases S t hE with ⟨m, e, hm⟩ | ⟨res, e, he⟩
    · rw [e]
      simp only [outS, n30, cond_false, hadd2]
      rcases hm with hm | hm
      · rw [eqI_t (show (m : Int) = ((1 + fdN S : Nat) : Int) by rw [hm])]; rfl
      · rw [hm]
        simp only [e30, eqI_t (rfl : (m : Int) = (m : Int)), cond_true]
        cases eqI (m : Int) ((1 + fdN S : Nat) : Int) <;> rfl
    · rw [e, he]
      rcases scanOf_cases t with ⟨q, eq, q1, q2⟩ | ⟨rt, eq, ⟨⟨g1, g2⟩, g3⟩⟩
      · have hft := fdN_le t
        rw [eq]
        simp only [shS, outS, e00, n30, e30, cond_true, cond_false, addI_n q (fdN S) (by omega), eqI_t (rfl : ((q + fdN S : Nat) : Int) = ((q + fdN S : Nat) : Int))]
        rfl
      · have hft := fdN_le t
        obtain ⟨m', e', _⟩ | ⟨rs, ers, ⟨⟨k1, k2⟩, k3⟩⟩ := scanOf_cases S
        · rw [e] at e'; cases e'
        rw [e] at ers
        injection ers with ers
        subst ers
        have la := inc_len res 1 (2 + fdN S) k1 fun y hy => ⟨(k2 y hy).1, (k2 y hy).2.1⟩
        have lb := inc_len rt 1 (2 + fdN t) g1 fun y hy => ⟨(g2 y hy).1, (g2 y hy).2.1⟩
        have := w09_MasterJoined_L1_eq 2000000 (by omega) S (by omega) res rt (by omega) (by omega) (fun y hy => ⟨by have := (k2 y hy).2.1; omega, by have := k3 y hy; omega⟩) (fun y hy => ⟨by have := (g2 y hy).2.1; omega, by have := g3 y hy; omega⟩) 2000000 0 (by omega) (by omega)
        have this : w09_MasterJoined_L1 2000000 2000000 S (res.map rw0) (rt.map rw0) ((res ++ rt.map (shX (fdN S))).map rw0) 0 = some (.b ()) := this
        rw [eq]
        have hln : eqI (ln ((res ++ rt.map (shX (fdN S))).map rw0)) (addI .i64 (ln (res.map rw0)) (ln (rt.map rw0))) = true := eqI_t (by
          have e1 : addI .i64 (ln (res.map rw0)) (ln (rt.map rw0)) = (((res.map rw0).length + (rt.map rw0).length : Nat) : Int) := addI_n _ _ (by simp only [List.length_map]; omega)
          rw [e1]
          unfold ln
          simp)
        simp only [shS, outS, e00, cond_true, hln, this, Option.bind_some, O2.el]
        rfl
end Go.Ev
