/- The operations one by one: variables. Condition: none. -/
import Derived.Test.YtcnlfelalgaepaaGreatDoorEv5
namespace Go.Ev
set_option linter.all false
open Go.RowKit
section
variable {w0 w w' : World} {W0 : Base} {W W' : Nat → Own} {φ φ' : Nat → Nat → Option Blk} {s s' : St} {a : Act} {P : Program} {O : Orc} {d : Option Nat} {av : AV} {v : Value} {t : TypeId} {agg : Option Nat}
theorem run_isAgg' (hag : AggOk P t agg) : (isAgg t).run P w = .ok agg.isSome w := by
 obtain ⟨d, hu, hd, _⟩ := hag
 cases d <;> simp [isAgg, run_underlying hu, isAggDesc] at hd ⊢ <;> simp [hd]
def aggVal (agg : Option Nat) (f : Nat → Value) : Value :=
 match agg with
 | some n => .agg ((List.range n).map f).toArray
 | none => f 0
theorem run_loadVar_f (hag : AggOk P t agg) (b o : Nat) (f : Nat → Value) (hc : ∀ k, k < agg.getD 1 → w.cell? ⟨b, o + k, none⟩ = some (f k)) :
 (loadVar t ⟨b, o, none⟩).run P w = .ok (aggVal agg f) w := by
 have hi := run_isAgg' (w := w) hag
 obtain ⟨d, hu, hd, hs⟩ := hag
 cases agg with
 | none =>
   have h0 := hc 0 (by simp)
   simp only [Nat.add_zero] at h0
   simp [loadVar, hi, h0, aggVal]
 | some n =>
   obtain ⟨i, hi1, hi2⟩ := hs n rfl
   have := run_loadCells (P := P) w ⟨b, o, none⟩ n f (fun j hj => by rw [add_lit]; exact hc j (by simpa using hj))
   simp [loadVar, hi, sizeOf, typeInfo, hi1, hi2, this, aggVal]
theorem aggOr_rel {cs : List AV} {o : Nat} {f : Nat → Value} (he : aggOr agg cs o = some av) (h1 : ∀ c ∈ cs, c.one = true) (h2 : ∀ k, k < cs.length → (f k).oneCell' = true) (hv : ∀ (j : Nat) c, cs[j]? = some c → VRel w φ W c (f j)) :
 (∀ k, k < agg.getD 1 → o + k < cs.length) ∧ VRel w φ W av (aggVal agg fun k => f (o + k)) := by
 cases agg with
 | none =>
   simp only [aggOr] at he
   have := (List.getElem?_eq_some_iff.1 he).1
   exact ⟨fun k hk => by simp at hk; omega, hv o av he⟩
 | some n =>
   simp only [aggOr] at he
   split at he
   ·rename_i hle
    injection he with he
    subst he
    refine ⟨fun k hk => by simp at hk; omega, .agg _ _ (by simp [sub]; omega) (fun c hc => h1 c (List.mem_of_mem_drop (List.mem_of_mem_take hc))) (fun v hv' => ?_) (fun i c v hc hv' => ?_)⟩
    ·simp at hv'
     obtain ⟨k, hk, rfl⟩ := hv'
     exact h2 _ (by omega)
    ·unfold sub at hc
     rw [List.getElem?_take] at hc
     split at hc
     ·rw [List.getElem?_drop] at hc
      simp [*] at hv'
      subst hv'
      exact hv _ c hc
     ·cases hc
   ·cases he
theorem okPs_get (p : Nat → Nat → Bool) {cs : List AV} (h : okPs p cs = true) {c : AV} (hc : c ∈ cs) : c.okP p = true := (okPs_iff p cs).1 h c hc
theorem aggOr_okP {cs : List AV} {o : Nat} (p : Nat → Nat → Bool) (he : aggOr agg cs o = some av) (h : okPs p cs = true) : av.okP p = true := by
 cases agg with
 | none => exact okPs_get p h (List.mem_of_getElem? he)
 | some n =>
   simp only [aggOr] at he
   split at he
   ·injection he with he
    subst he
    simp only [AV.okP]
    exact (okPs_iff p _).2 fun c hc => okPs_get p h (List.mem_of_mem_drop (List.mem_of_mem_take hc))
   ·cases he
theorem noOwn_data {c : AV} (h : c.isData = true) : ∀ e z r, c ≠ .sl (some e) z r := by
 intro e z r hc
 subst hc
 simp [AV.isData] at h
theorem data_one {c : AV} (h : c.isData = true) : c.one = true := by
 cases c <;> simp_all [AV.isData, AV.one]
theorem aggOr_noFlag {cs : List AV} {o : Nat} (he : aggOr agg cs o = some av) (h : ∀ c ∈ cs, c.isData = true) : av.noFlag := by
 cases agg with
 | none =>
   have := h av (List.mem_of_getElem? he)
   exact noFlag_of_one (data_one this) (noOwn_data this)
 | some n =>
   simp only [aggOr] at he
   split at he
   ·injection he with he
    subst he
    intro i j e sz rows hp
    simp only [AV.part] at hp
    split at hp
    ·exact noOwn_data (h _ (List.mem_of_mem_drop (List.mem_of_mem_take (List.mem_of_getElem? hp)))) e sz rows rfl
    ·cases hp
   ·cases he
theorem VRel.oneCell {c : AV} (h : VRel w φ W c v) (hd : c.isData = true) : v.oneCell' = true := by
 cases h <;> simp_all [AV.isData, Value.oneCell']
theorem Rel.boxAt (h : Rel w0 W0 s a φ W w) {l sl : Nat} {t : TypeId} {cs : List AV} (hg : s.get l sl = some (.cells t cs)) :
 ∃ b arr, φ l sl = some b ∧ w.heap[b.1]? = some (.cells arr t (0, 0)) ∧ (arr.size = b.2 ∧ cs.length ≤ b.2) ∧ okPs (lvOk l) cs = true ∧ (∀ c ∈ cs, c.one = true) ∧ (∀ (j : Nat) v, j < cs.length → arr[j]? = some v → v.oneCell' = true) ∧
  (∀ (j : Nat) c v, cs[j]? = some c → arr[j]? = some v → VRel w φ W c v ∧ ∀ e sz rows, c = .sl (some e) sz rows → OwnOk w W (.box l sl j) e sz rows v) ∧ l ≤ s.lv := by
 obtain ⟨b, arr, h1⟩ := h.box l sl _ hg
 refine ⟨b, arr, h1.1, h1.2.1, h1.2.2.1, h1.2.2.2.1, h1.2.2.2.2.1, h1.2.2.2.2.2.1, h1.2.2.2.2.2.2, ?_⟩
 unfold St.get at hg
 split at hg
 ·omega
 ·split at hg
  ·omega
  ·cases hg
theorem lvOk_le {l lv : Nat} (h : l ≤ lv) : ∀ l' s', lvOk l l' s' = true → lvOk lv l' s' = true := by
 intro l' s' h'
 simp [lvOk] at h' ⊢
 omega
theorem splice_get (cs ds : List AV) (o j : Nat) (h : o + ds.length ≤ cs.length) : (splice cs o ds)[j]? = if o ≤ j ∧ j < o + ds.length then ds[j - o]? else cs[j]? := by
 have hl : (cs.take o).length = o := by rw [List.length_take]; omega
 unfold splice
 by_cases h1 : j < o
 ·rw [if_neg (by omega), List.append_assoc, List.getElem?_append_left (by omega), List.getElem?_take, if_pos h1]
 ·by_cases h2 : j < o + ds.length
  ·rw [if_pos ⟨by omega, h2⟩, List.append_assoc, List.getElem?_append_right (by omega), hl, List.getElem?_append_left (by omega)]
  ·rw [if_neg (by omega), List.getElem?_append_right (by rw [List.length_append, hl]; omega), List.getElem?_drop, List.length_append, hl]
   congr 1
   omega
theorem splice_length (cs ds : List AV) (o : Nat) (h : o + ds.length ≤ cs.length) : (splice cs o ds).length = cs.length := by
 unfold splice
 simp only [List.length_append, List.length_take, List.length_drop]
 omega
theorem splice_mem {cs ds : List AV} {o : Nat} {c : AV} (h : c ∈ splice cs o ds) : c ∈ cs ∨ c ∈ ds := by
 unfold splice at h
 rcases List.mem_append.1 h with h | h
 ·rcases List.mem_append.1 h with h | h
  ·exact .inl (List.mem_of_mem_take h)
  ·exact .inr h
 ·exact .inl (List.mem_of_mem_drop h)
theorem Rel.relabel (h : Rel w0 W0 s a φ W w) (f : Pos → Pos) (hf : ∀ t i j e sz rows, (s.tm t).part i j = some (.sl (some e) sz rows) → f (.tmp t i j) = .tmp t i j)
 (hb : ∀ l sl t cs, s.get l sl = some (.cells t cs) → ∀ (j : Nat) e sz rows, cs[j]? = some (.sl (some e) sz rows) → f (.box l sl j) = .box l sl j) : Rel w0 W0 s a φ (relab f W) w := by
 refine ⟨h.size, h.defs, fun t => ⟨(h.tm t).rel.relab f, (h.tm t).lvl, ?_⟩, fun l sl B hB => ?_, fun l sl b hb' => relab_box (h.phi l sl b hb'), h.phn, h.fr.relab f, h.ext, h.lvq, h.g0⟩
 ·intro i j e sz rows cv hp hc
  have := ((h.tm t).own i j e sz rows cv hp hc).relab f
  rwa [hf t i j e sz rows hp] at this
 ·have hk := h.box l sl B hB
  cases B with
  | iter _ _ => exact hk
  | cells t cs =>
    obtain ⟨b, arr, h1, h2, h3, h4, h5, h6, h7⟩ := hk
    refine ⟨b, arr, h1, h2, h3, h4, h5, h6, fun j c v hc hv => ⟨(h7 j c v hc hv).1.relab f, fun e sz rows he => ?_⟩⟩
    have := ((h7 j c v hc hv).2 e sz rows he).relab f
    rwa [hb l sl t cs hB j e sz rows (by rw [hc, he])] at this
theorem aggOr_cells {cs : List AV} {o : Nat} (he : aggOr agg cs o = some av) (h1 : ∀ c ∈ cs, c.one = true) : av.cells.length = agg.getD 1 ∧ o + agg.getD 1 ≤ cs.length ∧ (∀ j, j < agg.getD 1 → av.cells[j]? = cs[o + j]?) ∧ ∀ j c, av.part 0 j = some c → j < agg.getD 1 ∧ cs[o + j]? = some c := by
 cases agg with
 | none =>
   simp only [aggOr] at he
   have hlt := (List.getElem?_eq_some_iff.1 he).1
   have hone := h1 av (List.mem_of_getElem? he)
   have hc : av.cells = [av] := by cases av <;> simp_all [AV.cells, AV.one]
   refine ⟨by rw [hc]; rfl, by simp; omega, fun j hj => ?_, fun j c hp => ?_⟩
   ·obtain rfl : j = 0 := by simpa using hj
    rw [hc]
    simpa using he.symm
   ·have hp2 : av.part 0 j = if j = 0 then some av else none := by cases av <;> simp_all [AV.part, AV.part1, AV.one]
    rw [hp2] at hp
    split at hp
    ·rename_i hj
     subst hj
     injection hp with hp
     subst hp
     exact ⟨by simp, by simpa using he⟩
    ·cases hp
 | some n =>
   simp only [aggOr] at he
   split at he
   ·rename_i hle
    injection he with he
    subst he
    have hg : ∀ j, j < n → (sub cs o n)[j]? = cs[o + j]? := fun j hj => by unfold sub; rw [List.getElem?_take, if_pos hj, List.getElem?_drop]
    refine ⟨by simp [AV.cells, sub]; omega, by simpa using hle, fun j hj => hg j (by simpa using hj), fun j c hp => ?_⟩
    simp only [AV.part, AV.part1, if_true] at hp
    have hj : j < (sub cs o n).length := (List.getElem?_eq_some_iff.1 hp).1
    have hj2 : j < n := by simp [sub] at hj; omega
    exact ⟨by simpa using hj2, by rw [← hg j hj2]; exact hp⟩
   ·cases he
theorem setBox_lv (s : St) (l sl : Nat) (B : ABox) : (s.setBox l sl B).lv = s.lv := by unfold St.setBox; split <;> rfl
theorem get_setBox (s : St) (l sl : Nat) (B : ABox) (hl : l ≤ s.lv) (l' sl' : Nat) : (s.setBox l sl B).get l' sl' = if l' = l ∧ sl' = sl then some B else s.get l' sl' := by
 unfold St.setBox
 by_cases e1 : l = s.lv
 ·rw [if_pos e1]
  unfold St.get upd
  by_cases e2 : l' = s.lv
  ·simp [e1, e2]
  ·have : ¬ l' = l := fun e => e2 (e.trans e1)
   simp [e2, this]
 ·rw [if_neg e1]
  unfold St.get upd
  by_cases e2 : l' = s.lv
  ·have : ¬ s.lv = l := fun e => e1 e.symm
   simp [e2, this]
  ·by_cases e3 : l' = l
   ·subst e3
    have : l' < s.lv := by omega
    simp [e2, this]
   ·simp [e2, e3]
theorem globCells_get {g : Nat} : ∀ {n o : Nat} {cs : List AV}, globCells g o n = some cs → cs.length = n ∧ ∀ (k : Nat) c, cs[k]? = some c → glob g (o + k) = some c
 | 0, o, cs, h => by
   simp only [globCells] at h
   injection h with h
   subst h
   exact ⟨rfl, fun k c hc => by simp at hc⟩
 | n + 1, o, cs, h => by
   simp only [globCells] at h
   split at h
   ·rename_i v r h1 h2
    injection h with h
    subst h
    obtain ⟨q1, q2⟩ := globCells_get h2
    refine ⟨by simp [q1], fun k c hc => ?_⟩
    cases k with
    | zero => simp at hc; subst hc; exact h1
    | succ k =>
      have := q2 k c (by simpa using hc)
      rw [show o + (k + 1) = o + 1 + k by omega]
      exact this
   ·cases h
theorem glob_row (hg : GlobOk w W) {g o : Nat} {r : AV} (h : globAgg agg g o = some r) : ∃ cs, aggOr agg cs 0 = some r ∧ VRel w φ W (.row cs) (.pointer (some ⟨g, o, none⟩)) := by
 have key : ∀ cs : List AV, (∀ (k : Nat) c, cs[k]? = some c → glob g (o + k) = some c) → VRel w φ W (.row cs) (.pointer (some ⟨g, o, none⟩)) := fun cs hcs => by
  refine .row cs g o (fun k => (w.cell? ⟨g, o + k, none⟩).getD undef) (fun c hc => ?_) (fun k hk => ?_) (fun k c hc => ?_)
  ·obtain ⟨k, hk⟩ := List.mem_iff_getElem?.1 hc
   obtain ⟨v, _, _, _, _, h5⟩ := hg.cell g (o + k) c (hcs k c hk)
   exact h5
  ·obtain ⟨v, h1, h2, _⟩ := hg.cell g (o + k) _ (hcs k _ (List.getElem?_eq_getElem hk))
   exact ⟨h2, by rw [h1]; rfl⟩
  ·obtain ⟨v, h1, h2, h3, h4, h5⟩ := hg.cell g (o + k) c (hcs k c hc)
   rw [h1]
   exact h3.move (fun _ _ => false) (fun _ _ _ h => by cases h) (fun _ _ _ a b => ⟨a, b⟩) (okP_data _ h5)
 cases agg with
 | none =>
   refine ⟨[r], rfl, key _ fun k c hc => ?_⟩
   cases k with
   | zero => simp at hc; subst hc; exact h
   | succ k => simp at hc
 | some n =>
   simp only [globAgg] at h
   obtain ⟨cs, h1, rfl⟩ := Option.map_eq_some_iff.1 h
   obtain ⟨q1, q2⟩ := globCells_get h1
   refine ⟨cs, ?_, key cs q2⟩
   show (if 0 + n ≤ cs.length then some (AV.agg (sub cs 0 n)) else none) = _
   rw [if_pos (by omega)]
   unfold sub
   rw [List.drop_zero, ← q1, List.take_length]
theorem ok_load {o : Oper} {x : X} {x' : Operand} {tk : Bool} (ho : o.op = .load t x') (hag : AggOk P t agg) (hx : OpdOk x x') (h : Rel w0 W0 s a φ W w) (he : evVal O (.load x agg tk) o.dst s = some (av, s')) :
 Comes' P w0 W0 s' a o av w := by
 simp only [evVal] at he
 have hxv := (h.opd hx).1
 split at he
 ·rename_i l sl off hxx
  split at he
  ·rename_i t' cs hg
   split at he
   ·rename_i r hr
    obtain ⟨b, arr, h1, h2, h3, h4, h5, h6, h7, hle⟩ := h.boxAt hg
    have hcell : ∀ k, k < cs.length → w.cell? ⟨b.1, k, none⟩ = some (arr.getD k undef) := fun k hk => by
     rw [cell_of_row w b.1 k arr t' (0, 0) h2]
     simp [Array.getElem?_eq_getElem (show k < arr.size by omega), show k < arr.size by omega]
    have hfk : ∀ k (hk : k < arr.size), arr.getD k undef = arr[k] := fun k hk => by simp [hk]
    have hone : ∀ k, k < cs.length → (arr.getD k undef).oneCell' = true := fun k hk => by
     rw [hfk k (by omega)]; exact h6 k _ hk (Array.getElem?_eq_getElem _)
    have hvr : ∀ (j : Nat) c, cs[j]? = some c → VRel w φ W c (arr.getD j undef) := fun j c hc => by
     have hj := (List.getElem?_eq_some_iff.1 hc).1
     exact (h7 j c _ hc (by rw [hfk j (by omega)]; exact Array.getElem?_eq_getElem _)).1
    obtain ⟨k1, k2⟩ := aggOr_rel hr h5 hone hvr
    have hrun := run_loadVar_f (w := w) hag b.1 off (fun k => arr.getD (off + k) undef) (fun k hk => hcell _ (k1 k hk))
    rw [hxx] at hxv
    generalize hve : a.eval x' = xv at hxv
    cases hxv
    rename_i b' hb'
    rw [h1] at hb'
    injection hb' with hb'
    subst hb'
    have hrun2 : (execOp a.eval o).run P w = .ok (.value (aggVal agg fun k => arr.getD (off + k) undef)) w := by
     simp [execOp, ho, Instr.loadAt, Instr.sureAddr, hve, hrun]
    have hlv : r.okP (lvOk s.lv) = true := okP_mono (lvOk_le hle) _ (aggOr_okP _ hr h4)
    split at he
    ·-- with leave to append: it goes over from the variable to the slot
     have he : some (r, s.setBox l sl (.cells t' (splice cs off (r.cells.map AV.noOwn1)))) = some (av, s') := by
      split at he
      ·exact he
      ·cases he
     injection he with he
     injection he with e1 e2
     subst e1 e2
     refine ⟨_, w, .inl hrun2, ?_⟩
     obtain ⟨c1, c2, c3, c4⟩ := aggOr_cells hr h5
     have hsl : off + (r.cells.map AV.noOwn1).length ≤ cs.length := by rw [List.length_map, c1]; exact c2
     have hsg := fun j => splice_get cs (r.cells.map AV.noOwn1) off j hsl
     have hin : ∀ j, off ≤ j ∧ j < off + (r.cells.map AV.noOwn1).length → (splice cs off (r.cells.map AV.noOwn1))[j]? = (cs[j]?).map AV.noOwn1 := fun j hj => by
      rw [hsg, if_pos hj, List.getElem?_map, c3 _ (by rw [List.length_map, c1] at hj; omega)]
      congr 2
      omega
     have hr1 : Rel w0 W0 (s.setBox l sl (.cells t' (splice cs off (r.cells.map AV.noOwn1)))) a φ W w := by
      refine h.setBox hg h1 _ arr (World.grownBy.refl w _) h2 (by rw [splice_length _ _ _ hsl]; exact h3) ?_ ?_ (fun j v hj hv => h6 j v (by rw [splice_length _ _ _ hsl] at hj; exact hj) hv) (fun j c v hc hv => ?_)
      ·refine (okPs_iff _ _).2 fun c hc => ?_
       rcases splice_mem hc with hc | hc
       ·exact okPs_get _ h4 hc
       ·obtain ⟨c', hc', rfl⟩ := List.mem_map.1 hc
        rw [okP_noOwn1]
        obtain ⟨j, hj⟩ := List.mem_iff_getElem?.1 hc'
        have hjl := (List.getElem?_eq_some_iff.1 hj).1
        rw [c3 j (by omega)] at hj
        exact okPs_get _ h4 (List.mem_of_getElem? hj)
      ·intro c hc
       rcases splice_mem hc with hc | hc
       ·exact h5 c hc
       ·obtain ⟨c', hc', rfl⟩ := List.mem_map.1 hc
        rw [noOwn1_one]
        obtain ⟨j, hj⟩ := List.mem_iff_getElem?.1 hc'
        have hjl := (List.getElem?_eq_some_iff.1 hj).1
        rw [c3 j (by omega)] at hj
        exact h5 _ (List.mem_of_getElem? hj)
      ·by_cases hj : off ≤ j ∧ j < off + (r.cells.map AV.noOwn1).length
       ·rw [hin j hj] at hc
        obtain ⟨c', hc', rfl⟩ := Option.map_eq_some_iff.1 hc
        exact ⟨(h7 j c' v hc' hv).1.noOwn1, fun e sz rows he => absurd he (noOwn1_flag c' e sz rows)⟩
       ·rw [hsg, if_neg hj] at hc
        exact h7 j c v hc hv
     let f : Pos → Pos := fun p => match p with
      | .box l' sl' j => if l' = l ∧ sl' = sl ∧ off ≤ j ∧ j < off + (r.cells.map AV.noOwn1).length then .tmp (o.dst.getD 0) 0 (j - off) else .box l' sl' j
      | p => p
     have hr2 := hr1.relabel f (fun _ _ _ _ _ _ _ => rfl) (fun l' sl' t2 cs2 hg2 j e sz rows hj => by
      rw [get_setBox s l sl _ hle] at hg2
      show (if l' = l ∧ sl' = sl ∧ off ≤ j ∧ j < off + (r.cells.map AV.noOwn1).length then Pos.tmp (o.dst.getD 0) 0 (j - off) else .box l' sl' j) = _
      split at hg2
      ·rename_i hh
       injection hg2 with hg2
       injection hg2 with _ hg2
       subst hg2
       rw [if_neg]
       intro hh2
       rw [hin j hh2.2.2] at hj
       obtain ⟨c', _, hc'⟩ := Option.map_eq_some_iff.1 hj
       exact noOwn1_flag c' e sz rows hc'
      ·rename_i hh
       rw [if_neg (fun hh2 => hh ⟨hh2.1, hh2.2.1⟩)])
     refine ⟨φ, relab f W, hr2.clr o.dst, fun y hy => ⟨k2.relab f, by rw [setBox_lv]; exact hlv, fun i j e sz rows cv hp hc => ?_⟩⟩
     have hi0 : i = 0 := by
      cases r <;> simp [AV.part] at hp <;> first | exact hp.1 | skip
      rename_i vs
      have := aggOr_cells hr h5
      exact absurd (show (AV.tup vs).one = true ∨ agg.isSome = true from by
       cases agg with
       | none => exact .inl (h5 _ (List.mem_of_getElem? (by simpa [aggOr] using hr)))
       | some n => exact .inr rfl) (by
       rintro (hq | hq)
       ·cases hq
       ·cases agg with
        | none => cases hq
        | some n => simp only [aggOr] at hr; split at hr <;> cases hr)
     subst hi0
     obtain ⟨p1, p2⟩ := c4 j _ hp
     have hjl := (List.getElem?_eq_some_iff.1 p2).1
     have hcv : arr[off + j]? = some cv := by
      cases agg with
      | none =>
        obtain rfl : j = 0 := by simpa using p1
        have : (arr.getD (off + 0) undef).oneCell' = true := hone _ (by omega)
        have e2 : (arr.getD (off + 0) undef).part 0 0 = some (arr.getD (off + 0) undef) := by
         generalize arr.getD (off + 0) undef = q at this
         cases q <;> simp_all [Value.part, Value.part1, Value.oneCell']
        have hc' : (arr.getD (off + 0) undef).part 0 0 = some cv := hc
        rw [e2] at hc'
        injection hc' with hc'
        rw [← hc', hfk _ (by omega)]
        exact Array.getElem?_eq_getElem _
      | some n =>
        have hjn : j < n := by simpa using p1
        have hc' : (((List.range n).map fun k => arr.getD (off + k) undef).toArray)[j]? = some cv := by simpa [aggVal, Value.part, Value.part1] using hc
        simp [hjn] at hc'
        rw [← hc']
        have := hfk (off + j) (by omega)
        simp at this
        rw [Array.getElem?_eq_getElem (by omega)]
        simp
     have hown := ((h7 (off + j) _ cv p2 hcv).2 e sz rows rfl).relab f
     have hfe : f (.box l sl (off + j)) = .tmp y 0 j := by
      show (if l = l ∧ sl = sl ∧ off ≤ off + j ∧ off + j < off + (r.cells.map AV.noOwn1).length then Pos.tmp (o.dst.getD 0) 0 (off + j - off) else .box l sl (off + j)) = _
      rw [if_pos ⟨rfl, rfl, by omega, by rw [List.length_map, c1]; omega⟩, hy, Nat.add_sub_cancel_left]
      rfl
     rw [hfe] at hown
     exact hown
    ·injection he with he
     injection he with e1 e2
     subst e1 e2
     exact ⟨_, w, .inl hrun2, good_noOwn h k2 hlv⟩
   ·cases he
  ·cases he
 ·rename_i cs hxx
  obtain ⟨r, hr, hrr⟩ := Option.map_eq_some_iff.1 he
  injection hrr with e1 e2
  subst e1 e2
  rw [hxx] at hxv
  generalize hve : a.eval x' = xv at hxv
  cases hxv
  rename_i b off f hd hc hv
  obtain ⟨k1, k2⟩ := aggOr_rel (o := 0) (f := f) hr (fun c hc => data_one (hd c hc)) (fun k hk => (hv k _ (List.getElem?_eq_getElem hk)).oneCell (hd _ (List.getElem_mem _))) hv
  have hrun := run_loadVar_f (w := w) hag b off f (fun k hk => (hc k (by have := k1 k hk; omega)).2)
  refine ⟨_, w, .inl ?_, good_pure h k2 (aggOr_okP _ hr ((okPs_iff _ _).2 fun c hc => okP_data _ (hd c hc))) (aggOr_noFlag hr hd)⟩
  simp [execOp, ho, Instr.loadAt, Instr.sureAddr, hve, hrun]
 ·rename_i g og hxx
  obtain ⟨r, hr, hrr⟩ := Option.map_eq_some_iff.1 he
  injection hrr with e1 e2
  subst e1 e2
  rw [hxx] at hxv
  generalize hve : a.eval x' = xv at hxv
  cases hxv
  obtain ⟨cs, hr, hrow⟩ := glob_row (φ := φ) (h.fr.glob h.g0) hr
  obtain ⟨f, hd, hc, hv⟩ : ∃ f : Nat → Value, (∀ c ∈ cs, c.isData = true) ∧ (∀ k, k < cs.length → stC W g (og + k) ∧ w.cell? ⟨g, og + k, none⟩ = some (f k)) ∧ ∀ (k : Nat) c, cs[k]? = some c → VRel w φ W c (f k) := by
   cases hrow with
   | row _ _ _ f hd hc hv => exact ⟨f, hd, hc, hv⟩
  obtain ⟨k1, k2⟩ := aggOr_rel (o := 0) (f := f) hr (fun c hc => data_one (hd c hc)) (fun k hk => (hv k _ (List.getElem?_eq_getElem hk)).oneCell (hd _ (List.getElem_mem _))) hv
  have hrun := run_loadVar_f (w := w) hag g og f (fun k hk => (hc k (by have := k1 k hk; omega)).2)
  refine ⟨_, w, .inl ?_, good_pure h k2 (aggOr_okP _ hr ((okPs_iff _ _).2 fun c hc => okP_data _ (hd c hc))) (aggOr_noFlag hr hd)⟩
  simp [execOp, ho, Instr.loadAt, Instr.sureAddr, hve, hrun]
 ·cases he
end
end Go.Ev
