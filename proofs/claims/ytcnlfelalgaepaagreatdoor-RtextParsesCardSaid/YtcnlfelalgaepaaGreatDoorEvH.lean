/- Functions: what the evaluator answers for a call, the code's call comes to. Condition: the table tells of the program's functions. -/
import Derived.Test.YtcnlfelalgaepaaGreatDoorEvG
namespace Go.Ev
set_option linter.all false
open Go.RowKit
section
variable {w0 w w' : World} {W0 : Base} {W W' : Nat → Own} {φ φ' : Nat → Nat → Option Blk} {s s' s1 : St} {a : Act} {P : Program} {O : Orc} {av : AV} {fl : Fl} {T : Tab}
def resSem (a : Act) : ResultVar → Sem Value
 | .tmp t => pure (a.tmps.getD t undef)
 | .cell c t => do loadVar t (← asAddr (a.tmps.getD c undef))
theorem resRest_ok (h : Rel w0 W0 s a φ W w) : ∀ (rvs : List RV) (rs : List ResultVar) (avs : List AV), rvs.length = rs.length → (∀ (i : Nat) rv r, rvs[i]? = some rv → rs[i]? = some r → ResOk P rv r) → resRest s rvs = some avs →
 ∃ vs : List Value, (rs.mapM (resSem a)).run P w = .ok vs w ∧ vs.length = avs.length ∧ ∀ (i : Nat) c v, avs[i]? = some c → vs[i]? = some v → VRel w φ W c v ∧ ∀ j e sz rows, c.part1 j ≠ some (.sl (some e) sz rows)
 | [], rs, avs, hl, hr, he => by
   obtain rfl : rs = [] := List.eq_nil_of_length_eq_zero (by simpa using hl.symm)
   simp only [resRest] at he
   injection he with he
   subst he
   exact ⟨[], rfl, rfl, fun i c v hc => by simp at hc⟩
 | rv :: rvs, rs, avs, hl, hr, he => by
   cases rs with
   | nil => cases hl
   | cons r rs =>
     simp only [resRest] at he
     obtain ⟨v0, h1, he⟩ := Option.bind_eq_some_iff.1 he
     obtain ⟨avs', h2, rfl⟩ := Option.map_eq_some_iff.1 he
     obtain ⟨u, q1, q2, _, _⟩ := resVal_ok h (hr 0 rv r rfl rfl) h1
     obtain ⟨us, k1, k2, k3⟩ := resRest_ok h rvs rs avs' (by simpa using hl) (fun i a b ha hb => hr (i + 1) a b (by simpa using ha) (by simpa using hb)) h2
     refine ⟨u :: us, ?_, by simp [k2], fun i c v hc hv => ?_⟩
     ·have q1' : (resSem a r).run P w = .ok u w := by cases r <;> exact q1
      rw [List.mapM_cons]
      simp only [Sem.run_bind, q1', Result.andThen_ok, k1, Sem.run_pure]
     ·cases i with
      | zero =>
        simp at hc hv
        subst hc hv
        exact ⟨q2.noOwnA, noOwnA_part1 v0⟩
      | succ i => exact k3 i c v (by simpa using hc) (by simpa using hv)
theorem part_val {c : AV} {u : Value} (h : VRel w φ W c u) (ht : c.isTup = false) {j : Nat} {e : TypeId} {sz : Nat} {rows : List (List AV)} (hp : c.part1 j = some (.sl (some e) sz rows)) : u.part 0 j = u.part1 j := by
 cases h <;> first | rfl | cases ht | skip
 simp only [AV.part1] at hp
 split at hp <;> cases hp
def frzW (lv : Nat) (ws : List AV) (W : Nat → Own) : Nat → Own := fun b =>
 match W b with
 | .box l sl =>
   if l = lv then
    match posAt lv sl ws 0 with
    | some (j, t) => .row (.tmp 0 0 j) t
    | none => .free
   else .box l sl
 | o => o
theorem frzW_st {lv : Nat} {ws : List AV} {b o : Nat} (h : stC W b o) : stC (frzW lv ws W) b o := by
 unfold stC at h
 cases hb : W b with
 | box l sl => rw [hb] at h; exact h.elim
 | _ => rw [hb] at h; unfold stC frzW; rw [hb]; exact h
theorem frzW_quiet {lv b : Nat} {ws : List AV} (h : (W b).quiet) : frzW lv ws W b = W b := by
 unfold frzW
 cases hb : W b <;> simp_all [Own.quiet]
theorem frzW_row {lv b t : Nat} {ws : List AV} {p : Pos} (h : W b = .row p t) : frzW lv ws W b = .row p t := by unfold frzW; rw [h]
theorem frzW_box {lv b l sl : Nat} {ws : List AV} (h : W b = .box l sl) (hl : l ≠ lv) : frzW lv ws W b = .box l sl := by unfold frzW; rw [h]; simp [hl]
theorem frz1_ok (h : Rel w0 W0 s a φ W w) {W1 : Nat → Own} (hst : ∀ b o, stC W b o → stC W1 b o) (hbox : ∀ b l sl, W b = .box l sl → W1 b = .box l sl) {ws : List AV} {j : Option Nat} {c c' : AV} {u : Value} (hv : VRel w φ W c u) (he : frz1 s ws j c = some c') :
 VRel w φ (frzW s.lv ws W1) c' u ∧ c'.one = c.one ∧ ∀ e sz rows, c' = .sl (some e) sz rows → c = .sl (some e) sz rows ∨ ∃ j0, j = some j0 ∧ OwnOk w (frzW s.lv ws W1) (.tmp 0 0 j0) e sz rows u := by
 have hmv : ∀ {c : AV} {u : Value}, VRel w φ W c u → VRel w φ (frzW s.lv ws W1) c u := fun hr => hr.mono (fun _ _ _ h => h) (fun b o v hs hc => ⟨frzW_st (hst b o hs), hc⟩)
 unfold frz1 frzRows frzData at he
 split at he
 case h_2 => injection he with he; subst he; exact ⟨hmv hv, rfl, fun e sz rows h => .inl h⟩
 rename_i l sl o n z
 split at he
 case isFalse => injection he with he; subst he; exact ⟨hmv hv, rfl, fun e sz rows h => .inl h⟩
 rename_i hl
 split at he
 case h_2 => cases he
 rename_i t cs hbx
 split at he
 case isFalse => cases he
 rename_i hc
 obtain ⟨hlen, hall, hpos⟩ := hc
 injection he with he
 subst he
 have hg : s.get s.lv sl = some (.cells t cs) := by unfold St.get; rw [if_pos rfl]; exact hbx
 obtain ⟨b, arr, k1, k2, k3, k4, k5, k6, k7, _⟩ := h.boxAt hg
 cases hv with
 | win _ _ _ _ _ cap b' hb' hn hcap hm hk =>
 rw [hl, k1] at hb'
 injection hb' with hb'
 subst hb'
 have hW1 : W1 b.1 = .box s.lv sl := hbox _ _ _ (h.phi s.lv sl b k1)
 have hW2 : frzW s.lv ws W1 b.1 = (match posAt s.lv sl ws 0 with | some (j, t) => .row (.tmp 0 0 j) t | none => .free : Own) := by
  unfold frzW
  rw [hW1]
  simp only [if_true]
 have hstc : ∀ k, k < o + n * z → stC (frzW s.lv ws W1) b.1 k := fun k hk => by
  unfold stC
  rw [hW2]
  cases hp : posAt s.lv sl ws 0 with
  | none => trivial
  | some p =>
    obtain ⟨j0, t0⟩ := p
    rw [hp] at hpos
    simp at hpos
    show k < t0
    omega
 have hsub : (sub cs o (n * z)).length = n * z := by unfold sub; rw [List.length_take, List.length_drop]; omega
 have hml : ((sub cs o (n * z)).map AV.noOwn1).length = n * z := by rw [List.length_map, hsub]
 have hsget : ∀ q c, ((sub cs o (n * z)).map AV.noOwn1)[q]? = some c → ∃ c0, cs[o + q]? = some c0 ∧ c = c0.noOwn1 ∧ c.isData = true := fun q c hq => by
  rw [List.getElem?_map] at hq
  obtain ⟨c0, hc0, rfl⟩ := Option.map_eq_some_iff.1 hq
  have hm := List.all_eq_true.1 hall c0 (List.mem_of_getElem? hc0)
  have hql := (List.getElem?_eq_some_iff.1 hc0).1
  unfold sub at hc0
  rw [List.getElem?_take, if_pos (by omega), List.getElem?_drop] at hc0
  exact ⟨c0, hc0, rfl, hm⟩
 have hpg : ∀ (i j : Nat) (r : List AV) c, (pieces z n ((sub cs o (n * z)).map AV.noOwn1))[i]? = some r → r[j]? = some c → ∃ c0, cs[o + (i * z + j)]? = some c0 ∧ c = c0.noOwn1 ∧ c.isData = true := fun i j r c hi hj => by
  obtain ⟨q1, q2, q3⟩ := pieces_get hml hi
  have hjl := (List.getElem?_eq_some_iff.1 hj).1
  rw [q3 j (by omega)] at hj
  exact hsget _ c hj
 have hfk : ∀ k (hk : k < arr.size), arr.getD k undef = arr[k] := fun k hk => by simp [hk]
 refine ⟨?_, rfl, fun e sz rows he => ?_⟩
 ·have hv2 := VRel.sl (w := w) (φ := φ) (W := frzW s.lv ws W1) (frzOwn (posAt s.lv sl ws 0) j o (n * z) t) z (pieces z n ((sub cs o (n * z)).map AV.noOwn1)) b.1 o cap (fun k => arr.getD (o + k) undef) (by rw [pieces_length]; exact hn) (by rw [pieces_length]; exact hcap) hm (fun r hr => by
   obtain ⟨i, hi⟩ := List.mem_iff_getElem?.1 hr
   exact (pieces_get hml hi).2.1) hk.1 (fun r hr c hc => by
   obtain ⟨i, hi⟩ := List.mem_iff_getElem?.1 hr
   obtain ⟨j, hj⟩ := List.mem_iff_getElem?.1 hc
   obtain ⟨_, _, _, q⟩ := hpg i j r c hi hj
   exact q) (fun k hk => by
   rw [pieces_length] at hk
   refine ⟨hstc _ (by omega), ?_⟩
   rw [cell_of_row w b.1 _ arr t (0, 0) k2]
   simp [Array.getElem?_eq_getElem (show o + k < arr.size by omega), show o + k < arr.size by omega]) (fun i j r c hi hj => by
   obtain ⟨c0, q1, rfl, _⟩ := hpg i j r c hi hj
   have hj := (List.getElem?_eq_some_iff.1 q1).1
   refine hmv (VRel.noOwn1 (k7 _ c0 _ q1 ?_).1)
   show arr[o + (i * z + j)]? = some (arr.getD (o + (i * z + j)) undef)
   rw [hfk _ (by omega)]
   exact Array.getElem?_eq_getElem _)
  rw [pieces_length] at hv2
  exact hv2
 ·right
  injection he with q1 q2 q3
  subst q2 q3
  unfold frzOwn at q1
  split at q1
  case h_2 => cases q1
  rename_i j0 t0 jj hp
  split at q1
  case isFalse => cases q1
  rename_i hcc
  obtain ⟨rfl, rfl, rfl⟩ := hcc
  injection q1 with q1
  subst q1
  refine ⟨j0, rfl, arr.toList.take (n * z), ?_, fun g hg => ?_⟩
  ·rw [pieces_length]
   have hsize : arr.size = cap * z := k3.1.trans (hk.2 rfl)
   have hmul : n * z ≤ cap * z := Nat.mul_le_mul_right _ hcap
   exact ⟨by rw [List.length_take, Array.length_toList, hsize]; omega, .inr ⟨b.1, cap, arr, rfl, Nat.zero_le _, k2, hcap, hm, hsize, rfl⟩⟩
  ·have : b.1 = g := by simpa [Value.ownBlock] using hg
   subst this
   rw [pieces_length, hW2, hp]
theorem frzs_get {ws : List AV} : ∀ {cs : List AV} {j : Option Nat} {cs' : List AV}, frzs s ws j cs = some cs' → cs'.length = cs.length ∧ ∀ (i : Nat) c', cs'[i]? = some c' → ∃ c, cs[i]? = some c ∧ frz1 s ws (j.map (· + i)) c = some c'
 | [], j, cs', he => by
   simp only [frzs] at he
   injection he with he
   subst he
   exact ⟨rfl, fun i c' hc => by simp at hc⟩
 | c :: r, j, cs', he => by
   simp only [frzs] at he
   obtain ⟨c1, h1, he⟩ := Option.bind_eq_some_iff.1 he
   obtain ⟨r1, h2, rfl⟩ := Option.map_eq_some_iff.1 he
   obtain ⟨q1, q2⟩ := frzs_get h2
   refine ⟨by simp [q1], fun i c' hc => ?_⟩
   cases i with
   | zero =>
     simp at hc
     subst hc
     refine ⟨c, rfl, ?_⟩
     have : j.map (· + 0) = j := by cases j <;> rfl
     rw [this]
     exact h1
   | succ i =>
     obtain ⟨c0, k1, k2⟩ := q2 i c' (by simpa using hc)
     refine ⟨c0, by simpa using k1, ?_⟩
     rw [Option.map_map] at k2
     have : j.map (· + (i + 1)) = j.map ((· + i) ∘ (· + 1)) := by
      cases j with
      | none => rfl
      | some j => simp; omega
     rw [this]
     exact k2
theorem frzA_ok (h : Rel w0 W0 s a φ W w) {W1 : Nat → Own} (hst : ∀ b o, stC W b o → stC W1 b o) (hbox : ∀ b l sl, W b = .box l sl → W1 b = .box l sl) {ws : List AV} {j : Option Nat} {v v' : AV} {u : Value} (hv : VRel w φ W v u) (he : frzA s ws j v = some v') :
 VRel w φ (frzW s.lv ws W1) v' u ∧ (v'.isTup = v.isTup) ∧ ∀ jj e sz rows cv, v'.part1 jj = some (.sl (some e) sz rows) → u.part1 jj = some cv → v.part1 jj = some (.sl (some e) sz rows) ∨ ∃ j0, j = some j0 ∧ OwnOk w (frzW s.lv ws W1) (.tmp 0 0 (j0 + jj)) e sz rows cv := by
 have one : ∀ {v v' : AV} {u : Value}, VRel w φ W v u → v.one = true → frz1 s ws j v = some v' → VRel w φ (frzW s.lv ws W1) v' u ∧ (v'.isTup = v.isTup) ∧ ∀ jj e sz rows cv, v'.part1 jj = some (.sl (some e) sz rows) → u.part1 jj = some cv → v.part1 jj = some (.sl (some e) sz rows) ∨ ∃ j0, j = some j0 ∧ OwnOk w (frzW s.lv ws W1) (.tmp 0 0 (j0 + jj)) e sz rows cv := by
  intro v v' u hv hone he
  obtain ⟨q1, q2, q3⟩ := frz1_ok h hst hbox hv he
  have hone' : v'.one = true := q2.trans hone
  have p1 : ∀ {x : AV} jj, x.one = true → x.part1 jj = if jj = 0 then some x else none := fun {x} jj hx => by cases x <;> first | rfl | cases hx
  refine ⟨q1, by cases v <;> cases v' <;> first | rfl | (simp_all [AV.one]; done), fun jj e sz rows cv hp hc => ?_⟩
  rw [p1 jj hone'] at hp
  split at hp
  case isFalse => cases hp
  rename_i hjj
  subst hjj
  injection hp with hp
  rw [p1 0 hone, if_pos rfl]
  have hcv : cv = u := by
   subst hp
   cases q1 <;> simpa [Value.part1] using hc.symm
  subst hcv
  rcases q3 e sz rows hp with q | ⟨j0, q, q'⟩
  ·exact .inl (by rw [q])
  ·exact .inr ⟨j0, q, q'⟩
 unfold frzA at he
 split at he
 ·rename_i cs
  obtain ⟨cs', hc, rfl⟩ := Option.map_eq_some_iff.1 he
  obtain ⟨q1, q2⟩ := frzs_get hc
  cases hv with
  | agg _ vs hl h1 h2 hv =>
  refine ⟨.agg cs' vs (by rw [q1]; exact hl) (fun c hc => ?_) h2 (fun i c v hc hv' => ?_), rfl, fun jj e sz rows cv hp hcv => ?_⟩
  ·obtain ⟨i, hi⟩ := List.mem_iff_getElem?.1 hc
   obtain ⟨c0, k1, k2⟩ := q2 i c hi
   have hil := (List.getElem?_eq_some_iff.1 k1).1
   have := (frz1_ok h hst hbox (hv i c0 (vs[i]'(by omega)) k1 (Array.getElem?_eq_getElem _)) k2).2.1
   rw [this]
   exact h1 c0 (List.mem_of_getElem? k1)
  ·obtain ⟨c0, k1, k2⟩ := q2 i c hc
   exact (frz1_ok h hst hbox (hv i c0 v k1 hv') k2).1
  ·have hp : cs'[jj]? = some (.sl (some e) sz rows) := hp
   have hcv : vs[jj]? = some cv := hcv
   obtain ⟨c0, k1, k2⟩ := q2 jj _ hp
   rcases (frz1_ok h hst hbox (hv jj c0 cv k1 hcv) k2).2.2 e sz rows rfl with q | ⟨j0, q, q'⟩
   ·exact .inl (by show cs[jj]? = _; rw [k1, q])
   ·cases j with
    | none => cases q
    | some j1 =>
      simp at q
      exact .inr ⟨j1, rfl, by rw [q]; exact q'⟩
 ·rename_i cs
  injection he with he
  subst he
  refine ⟨hv.mono (fun _ _ _ h => h) (fun b o v hs hc => ⟨frzW_st (hst b o hs), hc⟩), rfl, fun jj e sz rows cv hp hcv => .inl hp⟩
 ·rename_i hn1 hn2
  refine one hv ?_ he
  cases v <;> first | rfl | exact absurd rfl (hn1 _) | exact absurd rfl (hn2 _)
theorem frzRest_ok (h : Rel w0 W0 s a φ W w) {W1 : Nat → Own} (hst : ∀ b o, stC W b o → stC W1 b o) (hbox : ∀ b l sl, W b = .box l sl → W1 b = .box l sl) {ws : List AV} : ∀ {avs avs' : List AV} {vs : List Value}, frzRest s ws avs = some avs' → vs.length = avs.length → (∀ (i : Nat) c v, avs[i]? = some c → vs[i]? = some v → VRel w φ W c v) →
 avs'.length = avs.length ∧ ∀ (i : Nat) c v, avs'[i]? = some c → vs[i]? = some v → VRel w φ (frzW s.lv ws W1) c v ∧ ∀ j e sz rows, c.part1 j ≠ some (.sl (some e) sz rows)
 | [], avs', vs, he, hl, hv => by
   simp only [frzRest] at he
   injection he with he
   subst he
   exact ⟨rfl, fun i c v hc => by simp at hc⟩
 | c :: r, avs', vs, he, hl, hv => by
   simp only [frzRest] at he
   obtain ⟨c1, h1, he⟩ := Option.bind_eq_some_iff.1 he
   obtain ⟨r1, h2, rfl⟩ := Option.map_eq_some_iff.1 he
   cases vs with
   | nil => cases hl
   | cons v vs =>
     obtain ⟨q1, q2⟩ := frzRest_ok h hst hbox h2 (by simpa using hl) (fun i c v hc hv' => hv (i + 1) c v (by simpa using hc) (by simpa using hv'))
     refine ⟨by simp [q1], fun i c' v' hc hv' => ?_⟩
     cases i with
     | zero =>
       simp at hc hv'
       subst hc hv'
       exact ⟨(frzA_ok h hst hbox (hv 0 c v rfl rfl) h1).1.noOwnA, noOwnA_part1 c1⟩
     | succ i => exact q2 i c' v' (by simpa using hc) (by simpa using hv')
theorem resOf_ok (h : Rel w0 W0 s a φ W w) {rvs : List RV} {fn : Func} {avs : List AV} (hl : rvs.length = fn.results.size) (hr : ∀ (i : Nat) rv r, rvs[i]? = some rv → fn.results[i]? = some r → ResOk P rv r) (he : resOf s rvs = some avs) :
 ∃ v, (results fn a.tmps).run P w = .ok v w ∧ ∃ W2, (∀ b o, stC W b o → stC W2 b o) ∧ (∀ b, (W b).quiet → W2 b = W b) ∧ (∀ b l sl, l < s.lv → W b = .box l sl → W2 b = .box l sl) ∧ (∀ b l sl j t, l < s.lv → W b = .row (.box l sl j) t → W2 b = .row (.box l sl j) t) ∧
  VRel w φ W2 (retAV avs) v ∧ OwnAt w W2 (Pos.tmp 0) (retAV avs) v := by
 have hres : ∀ (vs : List Value), (fn.results.toList.mapM (resSem a)).run P w = .ok vs w → (results fn a.tmps).run P w = .ok (if h : vs.length = 1 then vs[0] else .tuple vs.toArray) w := fun vs hv => by
  have e : results fn a.tmps = (do let vs ← fn.results.mapM (resSem a); pure (if h : vs.size = 1 then vs[0] else .tuple vs)) := rfl
  rw [e, Array.mapM_eq_mapM_toList]
  simp only [Sem.run_bind, Sem.run_map, hv, Result.andThen_ok, Sem.run_pure, List.size_toArray]
  by_cases h1 : vs.length = 1
  ·simp [h1]
  ·simp [h1]
 unfold resOf at he
 obtain ⟨avs0, he0, he1⟩ := Option.bind_eq_some_iff.1 he
 cases rvs with
 | nil =>
   simp only [resOf0] at he0
   injection he0 with he0
   subst he0
   simp only [frzRes] at he1
   injection he1 with he1
   subst he1
   have hz : fn.results.toList = [] := List.eq_nil_of_length_eq_zero (by simpa using hl.symm)
   refine ⟨.tuple #[], ?_, W, fun _ _ h => h, fun _ _ => rfl, fun _ _ _ _ h => h, fun _ _ _ _ _ _ h => h, .tup [] #[] rfl (fun i c v hc => by simp at hc), .of_noFlag (by intro i j e sz rows; simp [retAV, AV.part])⟩
   have := hres [] (by rw [hz]; rfl)
   simpa using this
 | cons rv rvs =>
   simp only [resOf0] at he0
   obtain ⟨v0, h1, he0⟩ := Option.bind_eq_some_iff.1 he0
   obtain ⟨avs', h2, rfl⟩ := Option.map_eq_some_iff.1 he0
   simp only [frzRes] at he1
   obtain ⟨v1, h3, he1⟩ := Option.bind_eq_some_iff.1 he1
   obtain ⟨avs2, h4, rfl⟩ := Option.map_eq_some_iff.1 he1
   obtain ⟨r, rs, hrs⟩ : ∃ r rs, fn.results.toList = r :: rs := by
    cases hq : fn.results.toList with
    | nil => have := congrArg List.length hq; rw [Array.length_toList, List.length_nil] at this; rw [this, List.length_cons] at hl; omega
    | cons r rs => exact ⟨r, rs, rfl⟩
   have hget : ∀ i, fn.results[i]? = (r :: rs)[i]? := fun i => by rw [← hrs, Array.getElem?_toList]
   have hl2 : rvs.length = rs.length := by
    have := congrArg List.length hrs
    rw [Array.length_toList, List.length_cons] at this; rw [List.length_cons] at hl
    omega
   obtain ⟨u, q1, q2, q3, f, q4, q5⟩ := resVal_ok h (hr 0 rv r rfl (by rw [hget]; rfl)) h1
   obtain ⟨us, k1, k2, k3⟩ := resRest_ok (P := P) h rvs rs avs' hl2 (fun i a b ha hb => hr (i + 1) a b (by simpa using ha) (by rw [hget]; simpa using hb)) h2
   have q1' : (resSem a r).run P w = .ok u w := by cases r <;> exact q1
   have hrun := hres (u :: us) (by rw [hrs, List.mapM_cons]; simp only [Sem.run_bind, q1', Result.andThen_ok, k1, Sem.run_pure])
   have hst : ∀ b o, stC W b o → stC (relab f W) b o := fun b o hs => relab_stC.2 hs
   have hbx : ∀ b l sl, W b = .box l sl → relab f W b = .box l sl := fun b l sl hb => relab_box hb
   obtain ⟨p1, p2, p3⟩ := frzA_ok h hst hbx q2 h3
   obtain ⟨r1, r2⟩ := frzRest_ok h hst hbx (ws := v0.cells) h4 k2 (fun i c v hc hv => (k3 i c v hc hv).1)
   have hown : ∀ j e sz rows cv, v1.part1 j = some (.sl (some e) sz rows) → u.part1 j = some cv → v0.isTup = false → OwnOk w (frzW s.lv v0.cells (relab f W)) (.tmp 0 0 j) e sz rows cv := fun j e sz rows cv hp hc ht => by
    rcases p3 j e sz rows cv hp hc with hq | ⟨j0, hj0, hq⟩
    ·have hp' : v0.part 0 j = some (.sl (some e) sz rows) := by cases v0 <;> first | exact hq | cases ht
     have hc' : u.part 0 j = some cv := by rw [part_val q2 ht hq]; exact hc
     obtain ⟨xs, m1, m2⟩ := q5 0 j e sz rows cv hp' hc'
     exact ⟨xs, m1, fun g hg => frzW_row (m2 g hg)⟩
    ·injection hj0 with hj0
     subst hj0
     rw [Nat.zero_add] at hq
     exact hq
   refine ⟨_, hrun, frzW s.lv v0.cells (relab f W), fun b o hs => frzW_st (hst b o hs), fun b hb => ?_, fun b l sl hl hb => frzW_box (hbx b l sl hb) (by omega), fun b l sl j t hl hb => frzW_row ?_, ?_, ?_⟩
   ·rw [frzW_quiet (by rw [relab_quiet hb]; exact hb), relab_quiet hb]
   ·unfold relab
    rw [hb]
    simp only
    rw [q4 l sl j hl]
   ·cases avs2 with
    | nil =>
      obtain rfl : us = [] := List.eq_nil_of_length_eq_zero (by rw [k2, ← r1]; rfl)
      exact p1
    | cons c cs =>
      rw [dif_neg (by simp [k2, ← r1])]
      refine .tup _ _ (by simp [k2, ← r1]) (fun i c' v' hc hv => ?_)
      cases i with
      | zero =>
        simp at hc hv
        subst hc hv
        exact p1
      | succ i => exact (r2 i c' v' (by simpa using hc) (by simpa using hv)).1
   ·cases avs2 with
    | nil =>
      obtain rfl : us = [] := List.eq_nil_of_length_eq_zero (by rw [k2, ← r1]; rfl)
      show OwnAt w _ (Pos.tmp 0) v1 u
      cases ht : v0.isTup with
      | false =>
        intro i j e sz rows cv hp hc
        have hi : i = 0 := by
         rw [← p2] at ht
         cases v1 <;> simp [AV.part] at hp <;> first | exact hp.1 | cases ht
        subst hi
        rw [← p2] at ht
        have hp' : v1.part1 j = some (.sl (some e) sz rows) := by cases v1 <;> first | exact hp | cases ht
        exact hown j e sz rows cv hp' (by rw [← part_val p1 ht hp']; exact hc) (p2 ▸ ht)
      | true =>
        obtain ⟨vs, rfl⟩ : ∃ vs, v0 = .tup vs := by cases v0 <;> first | exact ⟨_, rfl⟩ | cases ht
        have : v1 = .tup vs := by simp only [frzA] at h3; injection h3 with h3; exact h3.symm
        subst this
        intro i j e sz rows cv hp hc
        obtain ⟨xs, m1, m2⟩ := q5 i j e sz rows cv hp hc
        exact ⟨xs, m1, fun g hg => frzW_row (m2 g hg)⟩
    | cons c cs =>
      rw [dif_neg (by simp [k2, ← r1])]
      intro i j e sz rows cv hp hc
      simp only [retAV, AV.part] at hp
      simp only [Value.part] at hc
      cases i with
      | zero =>
        simp at hp hc
        have hp0 : v1.isTup = false := by
         cases v1 <;> first | rfl | skip
         rename_i vs
         simp [AV.part1] at hp
        exact hown j e sz rows cv hp hc (by rw [← p2]; exact hp0)
      | succ i =>
        simp at hp
        cases hcc : (c :: cs)[i]? with
        | none => rw [hcc] at hp; cases hp
        | some c' =>
          rw [hcc] at hp
          have hil := (List.getElem?_eq_some_iff.1 hcc).1
          exact absurd hp ((r2 i c' _ hcc (List.getElem?_eq_getElem (by rw [k2, ← r1]; exact hil))).2 j e sz rows)
theorem body_gen {g : FuncId} {vs : List AV} {low : Mem} {lv : Nat} {w : World} {φ : Nat → Nat → Option Blk} {W : Nat → Own} {cargs : Array Value} {F : IFunc} {fn : Func} {c' : Code} (hent : EntryOk w φ W lv low vs cargs) (hnp : vs.length = F.np)
 (f1 : P.funcs[g]? = some fn) (f2 : fn.body = some c') (f4 : fn.ntmps = F.n) (f5 : F.np ≤ F.n) {fl : Bool → Fl} {S : Bool → St} {Post : Value → World → Prop}
 (hwp : ∀ (a : Act) (Q : Exit → Act → World → Prop), Rel w { lv := lv, own := W, phi := φ } (enter F vs low lv) a φ W w → (∀ k (a' : Act) w' φ' W', a'.tmps.size = a.tmps.size → Rel w { lv := lv, own := W, phi := φ } (S k) a' φ' W' w' → Q (fl k).exit a' w') → c'.wp P Q a w)
 (hfl : ∀ k, fl k = .norm ∨ fl k = .ret) (hex : ∀ k (a' : Act) w' φ' W', Rel w { lv := lv, own := W, phi := φ } (S k) a' φ' W' w' → ∃ v, (results fn a'.tmps).run P w' = .ok v w' ∧ Post v w') :
 Calls P g cargs w fun e w' => ∃ v, e = .returned v ∧ Post v w' := by
 have hsz : cargs.size ≤ fn.ntmps := by rw [hent.len, hnp, f4]; exact f5
 refine calls_of_wp f1 f2 ?_
 have hrel : Rel w { lv := lv, own := W, phi := φ } (enter F vs low lv) { tmps := cargs ++ Array.replicate (fn.ntmps - cargs.size) undef, defers := [] } φ W w := by
  refine ⟨?_, rfl, fun t => ?_, fun l sl B hB => ?_, fun l sl b hb => (hent.phi l sl b hb).2, fun l sl hn => ?_, Fr.refl w W, fun l sl b _ hb => hb, rfl, hent.gl⟩
  ·show (cargs ++ Array.replicate (fn.ntmps - cargs.size) undef).size = F.n
   simp
   omega
  ·show TmOk w φ W lv (Pos.tmp t) (vs.getD t .undef) ((cargs ++ Array.replicate (fn.ntmps - cargs.size) undef).getD t undef)
   by_cases ht : t < vs.length
   ·have hc : vs[t]? = some vs[t] := List.getElem?_eq_getElem ht
    have hv : cargs[t]? = some (cargs[t]'(by rw [hent.len]; exact ht)) := Array.getElem?_eq_getElem _
    obtain ⟨a1, a2, a3⟩ := hent.arg t _ _ hc hv
    have e1 : vs.getD t .undef = vs[t] := by simp [List.getD, hc]
    have e2 : (cargs ++ Array.replicate (fn.ntmps - cargs.size) undef).getD t undef = cargs[t]'(by rw [hent.len]; exact ht) := by
     rw [Array.getD_eq_getD_getElem?, Array.getElem?_append_left (by rw [hent.len]; exact ht), hv]
     rfl
    rw [e1, e2]
    refine ⟨a1, okP_mono (fun l sl hq => ?_) _ a2, .of_noFlag a3⟩
    simp only [decide_eq_true_eq] at hq
    simp only [lvOk, decide_eq_true_eq]
    omega
   ·have e1 : vs.getD t .undef = .undef := by simp [List.getD, List.getElem?_eq_none (Nat.le_of_not_lt ht)]
    rw [e1]
    exact ⟨.undef _, rfl, .of_noFlag (by intro i j e sz rows; simp [AV.part, AV.part1])⟩
  ·unfold St.get enter at hB
   simp only at hB
   split at hB
   ·cases hB
   ·split at hB
    ·rename_i hl
     exact hent.box l sl B hl hB
    ·cases hB
  ·cases hq : φ l sl with
   | none => rfl
   | some b =>
     have hl := (hent.phi l sl b hq).1
     unfold St.get enter at hn
     simp only at hn
     rw [if_neg (by omega), if_pos hl] at hn
     rw [hent.phn l sl hl hn] at hq
     cases hq
 refine hwp _ _ hrel fun k a' w' φ' W' hs h' => ?_
 obtain ⟨v, hr, hp⟩ := hex k a' w' φ' W' h'
 have hfk := hfl k
 rcases hfk with hfk | hfk <;> rw [hfk]
 ·exact ⟨h'.defs, v, hr, v, rfl, hp⟩
 ·exact ⟨h'.defs, v, hr, v, rfl, hp⟩
theorem body_ok {g : FuncId} {vs : List AV} {low : Mem} {lv : Nat} {rs : List AV} {low' : Mem} {w : World} {φ : Nat → Nat → Option Blk} {W : Nat → Own} {cargs : Array Value} {F : IFunc} {fn : Func} {c' : Code} (hent : EntryOk w φ W lv low vs cargs) (hnp : vs.length = F.np)
 (f1 : P.funcs[g]? = some fn) (f2 : fn.body = some c') (f4 : fn.ntmps = F.n) (f5 : F.np ≤ F.n) (f7 : F.results.length = fn.results.size) (f8 : ∀ (i : Nat) rv r, F.results[i]? = some rv → fn.results[i]? = some r → ResOk P rv r) {fl : Bool → Fl} {S : Bool → St}
 (hwp : ∀ (a : Act) (Q : Exit → Act → World → Prop), Rel w { lv := lv, own := W, phi := φ } (enter F vs low lv) a φ W w → (∀ k (a' : Act) w' φ' W', a'.tmps.size = a.tmps.size → Rel w { lv := lv, own := W, phi := φ } (S k) a' φ' W' w' → Q (fl k).exit a' w') → c'.wp P Q a w)
 (hfl : ∀ k, fl k = .norm ∨ fl k = .ret) (hrs : ∀ k, resOf (S k) F.results = some rs) (hlv : okPs (fun l _ => decide (l < lv)) rs = true) (hlow : ∀ k l, l < lv → (S k).low l = low' l) :
 Calls P g cargs w fun e w' => ∃ v φ' W', e = .returned v ∧ ExitOk w φ W lv low' rs v w' φ' W' := by
 refine (body_gen hent hnp f1 f2 f4 f5 hwp hfl (Post := fun v w' => ∃ φ' W', ExitOk w φ W lv low' rs v w' φ' W') fun k a' w' φ' W' h' => ?_).mono fun e w' ⟨v, he, φ', W', hx⟩ => ⟨v, φ', W', he, hx⟩
 obtain ⟨v, q1, W2, z1, z2, z3, z4, q2, q4⟩ := resOf_ok h' f7 f8 (hrs k)
 have hs1lv : (S k).lv = lv := h'.lvq
 have hgetl : ∀ l sl, l < lv → (S k).get l sl = low' l sl := fun l sl hl => by
  unfold St.get
  rw [if_neg (by omega), if_pos (by omega), hlow k l hl]
 let φ2 : Nat → Nat → Option Blk := fun l sl => if l < lv then φ' l sl else none
 have hφ : ∀ l sl b, decide (l < lv) = true → φ' l sl = some b → φ2 l sl = some b := fun l sl b hl hb => by
  show (if l < lv then φ' l sl else none) = _
  rw [if_pos (by simpa using hl)]; exact hb
 have hav : (retAV rs).okP (fun l _ => decide (l < lv)) = true := by
  unfold retAV
  split
  ·exact okPs_get _ hlv (List.mem_singleton.2 rfl)
  ·simpa [AV.okP] using hlv
 have hfr : Fr w W w' W2 := { h'.fr with own := fun b hb hf => by have e := h'.fr.own b hb hf; rw [z2 b (by rw [e]; exact hf), e], st := fun b o hb hs => z1 b o (h'.fr.st b o hb hs) }
 refine ⟨v, q1, φ2, W2, hfr, q2.move _ hφ (fun _ _ _ a b => ⟨a, b⟩) hav, hav, q4, fun l sl B hl hB => ?_, fun l sl b hb => ?_, fun l sl hl hn => ?_, fun l sl b hb => ?_⟩
 ·have hbx := h'.box l sl B (by rw [hgetl l sl hl]; exact hB)
  cases B with
  | iter _ _ =>
    obtain ⟨b, k1, k2⟩ := hbx
    exact ⟨b, hφ l sl b (by simpa using hl) k1, k2⟩
  | cells t cs =>
    obtain ⟨b, arr, k1, k2, k3, k4, k5, k6, k7⟩ := hbx
    refine ⟨b, arr, hφ l sl b (by simpa using hl) k1, k2, k3, k4, k5, k6, fun j c v hc hv => ⟨(k7 j c v hc hv).1.move _ hφ (fun b o _ hs hc => ⟨z1 b o hs, hc⟩) ?_, fun e sz rows he => ?_⟩⟩
    ·refine okP_mono (fun l' sl' hq => ?_) _ (okPs_get _ k4 (List.mem_of_getElem? hc))
     simp only [lvOk, decide_eq_true_eq] at hq ⊢
     omega
    ·obtain ⟨xs, m1, m2⟩ := (k7 j c v hc hv).2 e sz rows he
     exact ⟨xs, m1, fun g hg => z4 g l sl j _ (by omega) (m2 g hg)⟩
 ·have hb : (if l < lv then φ' l sl else none) = some b := hb
  split at hb
  ·rename_i hl
   exact ⟨hl, z3 _ _ _ (by omega) (h'.phi l sl b hb)⟩
  ·cases hb
 ·show (if l < lv then φ' l sl else none) = none
  rw [if_pos hl]
  exact h'.phn l sl (by rw [hgetl l sl hl]; exact hn)
 ·obtain ⟨hl, _⟩ := hent.phi l sl b hb
  exact hφ l sl b (by simpa using hl) (h'.ext l sl b (by rw [hs1lv]; exact hl) hb)
theorem body_okC {g : FuncId} {vs : List AV} {low : Mem} {lv : Nat} {w : World} {φ : Nat → Nat → Option Blk} {W : Nat → Own} {cargs : Array Value} {F : IFunc} {fn : Func} {c' : Code} (hent : EntryOk w φ W lv low vs cargs) (hnp : vs.length = F.np)
 (f1 : P.funcs[g]? = some fn) (f2 : fn.body = some c') (f4 : fn.ntmps = F.n) (f5 : F.np ≤ F.n) (f7 : F.results.length = fn.results.size) (f8 : ∀ (i : Nat) rv r, F.results[i]? = some rv → fn.results[i]? = some r → ResOk P rv r) {fl : Fl} {s1 : St}
 (hwp : ∀ (a : Act) (Q : Exit → Act → World → Prop), Rel w { lv := lv, own := W, phi := φ } (enter F vs low lv) a φ W w → (∀ (_ : Bool) (a' : Act) w' φ' W', a'.tmps.size = a.tmps.size → Rel w { lv := lv, own := W, phi := φ } s1 a' φ' W' w' → Q fl.exit a' w') → c'.wp P Q a w)
 (hfl : fl = .norm ∨ fl = .ret) {sl o n z : Nat} {t : TypeId} {cs : List AV} (hrs : resOf0 s1 F.results = some [.win lv sl o n z]) (hbx : s1.bx sl = some (.cells t cs)) (hcs : okPs (fun l _ => decide (l < lv)) cs = true) :
 Calls P g cargs w fun e w' => ∃ v φ' W' sl, e = .returned v ∧ ExitC w φ W lv s1.low (.cells t cs) o n z v w' φ' W' sl := by
 refine (body_gen hent hnp f1 f2 f4 f5 (fl := fun _ => fl) (S := fun _ => s1) hwp (fun _ => hfl) (Post := fun v w' => ∃ φ' W' sl, ExitC w φ W lv s1.low (.cells t cs) o n z v w' φ' W' sl) fun k a' w' φ' W' h' => ?_).mono fun e w' ⟨v, he, φ', W', sl, hx⟩ => ⟨v, φ', W', sl, he, hx⟩
 have hs1lv : s1.lv = lv := h'.lvq
 obtain ⟨v, q1, q2⟩ : ∃ v, (results fn a'.tmps).run P w' = .ok v w' ∧ VRel w' φ' W' (.win lv sl o n z) v := by
  cases hF : F.results with
  | nil => rw [hF] at hrs; simp [resOf0] at hrs
  | cons rv rvs =>
    rw [hF] at hrs f7 f8
    simp only [resOf0] at hrs
    obtain ⟨v0, h1, hrs⟩ := Option.bind_eq_some_iff.1 hrs
    obtain ⟨avs', h2, hrs⟩ := Option.map_eq_some_iff.1 hrs
    injection hrs with e1 e2
    subst e1 e2
    have hz : rvs = [] := by
     cases rvs with
     | nil => rfl
     | cons r rs =>
       simp only [resRest] at h2
       obtain ⟨v1, _, h2⟩ := Option.bind_eq_some_iff.1 h2
       obtain ⟨_, _, h2⟩ := Option.map_eq_some_iff.1 h2
       cases h2
    subst hz
    obtain ⟨r, hrr⟩ : ∃ r, fn.results.toList = [r] := by
     have hl : fn.results.toList.length = 1 := by rw [Array.length_toList]; simpa using f7.symm
     match hq : fn.results.toList with
     | [r] => exact ⟨r, rfl⟩
     | [] => rw [hq] at hl; cases hl
     | _ :: _ :: _ => rw [hq] at hl; simp at hl
    obtain ⟨u, q1, q2, _⟩ := resVal_ok (P := P) h' (f8 0 rv r rfl (by rw [← Array.getElem?_toList, hrr]; rfl)) h1
    refine ⟨u, ?_, q2⟩
    have q1' : (resSem a' r).run P w' = .ok u w' := by cases r <;> exact q1
    have e : results fn a'.tmps = (do let vs ← fn.results.mapM (resSem a'); pure (if h : vs.size = 1 then vs[0] else .tuple vs)) := rfl
    rw [e, Array.mapM_eq_mapM_toList, hrr]
    simp only [Sem.run_bind, Sem.run_map, List.mapM_cons, List.mapM_nil, q1', Result.andThen_ok, Sem.run_pure, List.size_toArray]
    rfl
 have hgetl : ∀ l sl, l < lv → s1.get l sl = s1.low l sl := fun l sl hl => by
  unfold St.get
  rw [if_neg (by omega), if_pos (by omega)]
 have hgets : s1.get lv sl = some (.cells t cs) := by
  unfold St.get
  rw [if_pos hs1lv.symm]
  exact hbx
 let φ2 : Nat → Nat → Option Blk := fun l s => if l < lv ∨ (l = lv ∧ s = sl) then φ' l s else none
 have hφ : ∀ l s b, decide (l < lv ∨ (l = lv ∧ s = sl)) = true → φ' l s = some b → φ2 l s = some b := fun l s b hl hb => by
  show (if l < lv ∨ (l = lv ∧ s = sl) then φ' l s else none) = _
  rw [if_pos (by simpa using hl)]; exact hb
 have hbxs : ∀ l s t cs, s1.get l s = some (.cells t cs) → (l < lv ∨ (l = lv ∧ s = sl)) → okPs (fun l _ => decide (l < lv)) cs = true → BoxOk w' φ2 W' l s (.cells t cs) := fun l s t cs hg hl hk => by
  obtain ⟨b, arr, k1, k2, k3, k4, k5, k6, k7⟩ := h'.box l s _ hg
  refine ⟨b, arr, hφ l s b (by simpa using hl) k1, k2, k3, k4, k5, k6, fun j c v hc hv => ⟨(k7 j c v hc hv).1.move _ hφ (fun _ _ _ a b => ⟨a, b⟩) (okP_mono (fun l' sl' hq => ?_) _ (okPs_get _ hk (List.mem_of_getElem? hc))), (k7 j c v hc hv).2⟩⟩
  simp only [decide_eq_true_eq] at hq ⊢
  exact .inl hq
 refine ⟨v, q1, φ2, W', sl, h'.fr, q2.move _ hφ (fun _ _ _ a b => ⟨a, b⟩) (by simp [AV.okP]), hbxs lv sl t cs hgets (.inr ⟨rfl, rfl⟩) hcs, fun t' cs' he => ?_, fun l sl B hl hB => ?_, fun l s b hb => ?_, fun l s hl hn => ?_, fun l s b hb => ?_, fun l s b hb => (hent.phi l s b hb).1, _, _, rfl⟩
 ·injection he with e1 e2
  subst e2
  exact hcs
 ·have hB' : s1.get l sl = some B := by rw [hgetl l sl hl]; exact hB
  cases B with
  | iter _ _ =>
    obtain ⟨b, k1, k2⟩ := h'.box l sl _ hB'
    exact ⟨b, hφ l sl b (by simpa using Or.inl hl) k1, k2⟩
  | cells t cs =>
    have hbx := h'.box l sl _ hB'
    obtain ⟨_, _, _, _, _, k4, _⟩ := hbx
    refine hbxs l sl t cs hB' (.inl hl) (okPs_mono (fun l' _ hq => ?_) _ k4)
    simp only [lvOk, decide_eq_true_eq] at hq ⊢
    omega
 ·have hb : (if l < lv ∨ (l = lv ∧ s = sl) then φ' l s else none) = some b := hb
  split at hb
  ·rename_i hl
   exact ⟨hl, h'.phi l s b hb⟩
  ·cases hb
 ·show (if l < lv ∨ (l = lv ∧ s = sl) then φ' l s else none) = none
  rw [if_pos (.inl hl)]
  exact h'.phn l s (by rw [hgetl l s hl]; exact hn)
 ·obtain ⟨hl, _⟩ := hent.phi l s b hb
  exact hφ l s b (by simpa using Or.inl hl) (h'.ext l s b (by rw [hs1lv]; exact hl) hb)
theorem callBy_ok (hm : P.follows .mixedOrders = true) (hT : TabOk P T) (hO : OrcOk P O) (hL : LoopOk P O.loop) : CallOk P (callBy T O) := by
 intro g vs low lv rs low' w φ W cargs he hent
 unfold callBy at he
 split at he
 ·rename_i gv hg
  exact hT.given g vs low lv rs low' w φ W cargs (by simp [hg, he]) hent
 ·split at he
  ·rename_i F hF
   split at he
   ·rename_i hnp
    obtain ⟨fn, c', f1, f2, f3, f4, f5, f6, f7, f8⟩ := (hT.fns g F hF).ex
    refine ⟨⟨fn, f1, by rw [f2]; rfl, f3⟩, ?_⟩
    unfold leave at he
    have key : ∀ (fl : Fl) (s1 : St), evC O F.body (enter F vs low lv) = some (fl, s1) → (fl = .norm ∨ fl = .ret) → resOf s1 F.results = some rs → okPs (fun l _ => decide (l < lv)) rs = true → s1.low = low' →
     Calls P g cargs w fun e w' => ∃ v φ' W', e = .returned v ∧ ExitOk w φ W lv low' rs v w' φ' W' := fun fl s1 hev hfl hrs hlv hlow =>
     body_ok hent hnp f1 f2 f4 f5 f7 f8 (fl := fun _ => fl) (S := fun _ => s1) (fun a Q hrel hQ => code_ok hm hO hL f6 rfl hrel hev (hQ true)) (fun _ => hfl) (fun _ => hrs) hlv (fun _ l _ => by rw [hlow])
    split at he
    ·rename_i s1 hev
     split at he
     ·rename_i rs' hrs
      split at he
      ·rename_i hlv
       injection he with he
       injection he with e1 e2
       subst e1
       exact key _ s1 hev (.inl rfl) hrs hlv e2
      ·cases he
     ·cases he
    ·rename_i s1 hev
     split at he
     ·rename_i rs' hrs
      split at he
      ·rename_i hlv
       injection he with he
       injection he with e1 e2
       subst e1
       exact key _ s1 hev (.inr rfl) hrs hlv e2
      ·cases he
     ·cases he
    ·cases he
   ·cases he
  ·cases he
theorem carryBy_ok (hm : P.follows .mixedOrders = true) (hT : TabOk P T) (hO : OrcOk P O) (hL : LoopOk P O.loop) : CarryOk P (carryBy T O) := by
 intro g vs low lv B o n z low' w φ W cargs he hent
 unfold carryBy at he
 split at he
 ·cases he
 ·split at he
  ·rename_i F hF
   split at he
   ·rename_i hnp
    obtain ⟨fn, c', f1, f2, f3, f4, f5, f6, f7, f8⟩ := (hT.fns g F hF).ex
    refine ⟨⟨fn, f1, by rw [f2]; rfl, f3⟩, ?_⟩
    have keyC : ∀ (fl : Fl) (s1 : St) (t : TypeId) (cs : List AV) (sl : Nat), evC O F.body (enter F vs low lv) = some (fl, s1) → (fl = .norm ∨ fl = .ret) → resOf0 s1 F.results = some [.win lv sl o n z] → s1.bx sl = some (.cells t cs) → okPs (fun l _ => decide (l < lv)) cs = true → B = some (.cells t cs) → s1.low = low' →
     Calls P g cargs w fun e w' => ∃ v φ' W', e = .returned v ∧ CarryPost w φ W lv low' B o n z v w' φ' W' := fun fl s1 t cs sl hev hfl hrs hbx hcs hB hlow => by
     subst hB hlow
     refine (body_okC hent hnp f1 f2 f4 f5 f7 f8 (fun a Q hrel hQ => code_ok hm hO hL f6 rfl hrel hev (hQ true)) hfl hrs hbx hcs).mono fun e w' hx => ?_
     obtain ⟨v, φ', W', sl, h1, h2⟩ := hx
     exact ⟨v, φ', W', h1, sl, h2⟩
    have keyN : ∀ (fl : Fl) (s1 : St) (ow : Option TypeId), evC O F.body (enter F vs low lv) = some (fl, s1) → (fl = .norm ∨ fl = .ret) → resOf0 s1 F.results = some [.sl ow z []] → B = none → s1.low = low' →
     Calls P g cargs w fun e w' => ∃ v φ' W', e = .returned v ∧ CarryPost w φ W lv low' B o n z v w' φ' W' := fun fl s1 ow hev hfl hrs hB hlow => by
     subst hB hlow
     have hrs' : resOf s1 F.results = some [.sl ow z []] := by unfold resOf; rw [hrs]; rfl
     refine (body_ok hent hnp f1 f2 f4 f5 f7 f8 (fl := fun _ => fl) (S := fun _ => s1) (fun a Q hrel hQ => code_ok hm hO hL f6 rfl hrel hev (hQ true)) (fun _ => hfl) (fun _ => hrs') rfl (fun _ _ _ => rfl)).mono fun e w' hx => ?_
     obtain ⟨v, φ', W', h1, h2⟩ := hx
     exact ⟨v, φ', W', h1, h2.fr, h2.rel.noOwn1, rfl, .of_noFlag (sl_noFlag _ _), h2.box, h2.phi, h2.phn, h2.ext⟩
    unfold leaveW at he
    split at he
    all_goals first
     | cases he
     | (rename_i s1 hev
        split at he
        case h_3 => cases he
        case h_2 =>
         rename_i ow zz hrs
         injection he with he
         injection he with e1 e2
         injection e2 with e2 e3
         injection e2 with e2 e4
         injection e4 with e4 e5
         subst e5
         first
          | exact keyN _ s1 ow hev (.inl rfl) hrs e1.symm e3
          | exact keyN _ s1 ow hev (.inr rfl) hrs e1.symm e3
        rename_i l sl o' n' z' hrs
        split at he
        case isFalse => cases he
        rename_i hl
        subst hl
        split at he
        case h_2 => cases he
        rename_i t cs hbx
        split at he
        case isFalse => cases he
        rename_i hcs
        injection he with he
        injection he with e1 e2
        injection e2 with e2 e3
        injection e2 with e2 e4
        injection e4 with e4 e5
        subst e2 e4 e5
        first
         | exact keyC _ s1 t cs sl hev (.inl rfl) hrs hbx hcs e1.symm e3
         | exact keyC _ s1 t cs sl hev (.inr rfl) hrs hbx hcs e1.symm e3)
   ·cases he
  ·cases he
theorem orc_ok (hm : P.follows .mixedOrders = true) (hT : TabOk P T) : ∀ n, OrcOk P (orc T n) ∧ LoopOk P (orc T n).loop
 | 0 => ⟨⟨fun g vs low lv rs low' w φ W cargs h => by simp [orc] at h, fun g vs low lv B o n z low' w φ W cargs h => by simp [orc] at h⟩, fun n kt kb c c' s fl s1 _ h => by simp [orc] at h⟩
 | n + 1 => by
   obtain ⟨h1, h2⟩ := orc_ok hm hT n
   exact ⟨⟨callBy_ok hm hT h1 h2, carryBy_ok hm hT h1 h2⟩, loopBy_ok hm h1 h2⟩
end
end Go.Ev
