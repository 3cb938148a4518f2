/- The operations one by one: what the evaluator answers for an operation, the run comes to. Condition: none. -/
import Derived.Test.YtcnlfelalgaepaaGreatDoorEv2
import Derived.Maps.AppendAt
import Derived.Deep.AppendLies
import Derived.Laws.MakeOwn
import Derived.Laws.BytesArg
import Derived.Laws.StructEq
import Derived.Laws.Slices
import Derived.Tactics
namespace Go.Ev
set_option linter.all false
open Go.RowKit
def Good (w0 : World) (W0 : Base) (s' : St) (a : Act) (d : Option Nat) (av : AV) (w' : World) (v : Value) : Prop :=
 ∃ φ W, Rel w0 W0 (s'.put d .undef) a φ W w' ∧ ∀ x, d = some x → TmOk w' φ W s'.lv (Pos.tmp x) av v
structure CC (c : AV) (v : Value) : Prop where
 one : c.one = true
 cell : v.oneCell' = true
 lvl : ∀ p, c.okP p = true
 rel : ∀ (w : World) (φ : Nat → Nat → Option Blk) (W : Nat → Own), VRel w φ W c v
 own : ∀ (w : World) (W : Nat → Own) (p : Pos) e sz rows, c = .sl (some e) sz rows → OwnOk w W p e sz rows v
section
variable {w0 w w' : World} {W0 : Base} {W W' : Nat → Own} {φ φ' : Nat → Nat → Option Blk} {s : St} {a : Act} {P : Program} {row : Option Nat}
theorem noFlag_of_one {c : AV} (h1 : c.one = true) (h : ∀ e sz rows, c ≠ .sl (some e) sz rows) : c.noFlag := by
 intro i j e sz rows
 cases c <;> simp_all [AV.part, AV.part1, AV.one]
theorem Rel.get_lt (h : Rel w0 W0 s a φ W w) {l sl : Nat} {b : Blk} (hb : φ l sl = some b) : b.1 < w.heap.size := by
 cases hg : s.get l sl with
 | none => rw [h.phn l sl hg] at hb; cases hb
 | some B =>
   have hB := h.box l sl B hg
   cases B with
   | iter _ _ =>
     obtain ⟨b', h1, h2⟩ := hB
     rw [h1] at hb
     injection hb with hb
     subst hb
     exact (Array.getElem?_eq_some_iff.1 h2).1
   | cells t cs =>
     obtain ⟨b', arr, h1, h2, _⟩ := hB
     rw [h1] at hb
     injection hb with hb
     subst hb
     exact (Array.getElem?_eq_some_iff.1 h2).1
theorem OwnOk.keep {p : Pos} {e : TypeId} {sz : Nat} {rows : List (List AV)} {cv : Value} (h : OwnOk w W p e sz rows cv) {row : Option Nat} (hg : w.grownBy w' row)
 (hr : ∀ g, cv.ownBlock = some g → some g ≠ row) (hW : ∀ g, cv.ownBlock = some g → W' g = W g) : OwnOk w' W' p e sz rows cv := by
 obtain ⟨xs, h1, h2⟩ := h
 refine ⟨xs, h1.kept hg ?_, fun g hg' => (hW g hg').trans (h2 g hg')⟩
 cases ho : cv.ownBlock with
 | none => exact .inl rfl
 | some g => exact .inr (hr g ho)
theorem OwnOk.lt {p : Pos} {e : TypeId} {sz : Nat} {rows : List (List AV)} {cv : Value} (h : OwnOk w W p e sz rows cv) {g : Nat} (hg : cv.ownBlock = some g) : g < w.heap.size := by
 obtain ⟨xs, h1, _⟩ := h
 exact (h1.lt g hg).2
theorem OwnOk.atRow {p : Pos} {e : TypeId} {sz : Nat} {rows : List (List AV)} {cv : Value} (h : OwnOk w W p e sz rows cv) {g : Nat} (hg : cv.ownBlock = some g) : W g = .row p (rows.length * sz) := by
 obtain ⟨xs, _, h2⟩ := h
 exact h2 g hg
structure Step (w : World) (W : Nat → Own) (w' : World) (W' : Nat → Own) (row : Option Nat) : Prop where
 grown : w.grownBy w' row
 own : ∀ b, b < w.heap.size → some b ≠ row → W' b = W b
 rowst : ∀ b, row = some b → b < w.heap.size → ∀ o, stC W b o → stC W' b o ∧ ∀ v, w.cell? ⟨b, o, none⟩ = some v → w'.cell? ⟨b, o, none⟩ = some v
 nofree : ∀ b, row = some b → b < w.heap.size → ¬ (W b).quiet
theorem Step.st (h : Step w W w' W' row) {b o : Nat} (hb : b < w.heap.size) (hs : stC W b o) : stC W' b o := by
 by_cases hr : some b = row
 ·exact (h.rowst b hr.symm hb o hs).1
 ·unfold stC at hs ⊢; rw [h.own b hb hr]; exact hs
theorem Step.cell (h : Step w W w' W' row) {b o : Nat} {v : Value} (hs : stC W b o) (hc : w.cell? ⟨b, o, none⟩ = some v) : w'.cell? ⟨b, o, none⟩ = some v := by
 have hb : b < w.heap.size := World.block_lt_of_cell? w ⟨b, o, none⟩ hc
 by_cases hr : some b = row
 ·exact (h.rowst b hr.symm hb o hs).2 v hc
 ·exact h.grown.cell hc hr
theorem Step.vrel (h : Step w W w' W' row) (hφ : ∀ l s b, φ l s = some b → φ' l s = some b) {av : AV} {v : Value} (hv : VRel w φ W av v) : VRel w' φ' W' av v :=
 hv.mono hφ fun b o v hs hc => ⟨h.st (World.block_lt_of_cell? w ⟨b, o, none⟩ hc) hs, h.cell hs hc⟩
theorem Step.fr (h : Step w W w' W' row) : Fr w W w' W' where
 os := h.grown.os
 tape := h.grown.tape
 output := h.grown.output
 size := h.grown.size
 cell := fun b o v hb hs hc => h.cell hs hc
 blk := fun b hb hf => h.grown.block b hb fun hr => h.nofree b hr.symm hb hf
 own := fun b hb hf => h.own b hb fun hr => h.nofree b hr.symm hb hf
 st := fun b o hb hs => h.st hb hs
theorem Rel.step (h : Rel w0 W0 s a φ W w) {row : Option Nat} (hs : Step w W w' W' row)
 (hrow : ∀ g, row = some g → g < w.heap.size → ∃ d i j t, W g = .row (.tmp d i j) t ∧ (s.tm d).noFlag) : Rel w0 W0 s a φ W' w' := by
 have ownk : ∀ {p : Pos} {e : TypeId} {sz : Nat} {rows : List (List AV)} {cv : Value}, OwnOk w W p e sz rows cv → (∀ d i j, p = .tmp d i j → ¬ (s.tm d).noFlag) → OwnOk w' W' p e sz rows cv := by
  intro p e sz rows cv ho hp
  have key : ∀ g, cv.ownBlock = some g → some g ≠ row := fun g hg he => by
   obtain ⟨d, i, j, t, hw, hf⟩ := hrow g he.symm (ho.lt hg)
   rw [ho.atRow hg] at hw
   injection hw with hw _
   exact hp d i j hw hf
  exact ho.keep hs.grown key fun g hg => hs.own g (ho.lt hg) (key g hg)
 refine ⟨h.size, h.defs, fun t => ⟨hs.vrel (fun _ _ _ h => h) (h.tm t).rel, (h.tm t).lvl, fun i j e sz rows cv hp hc => ?_⟩, fun l sl B hB => ?_, fun l sl b hb => ?_, h.phn, h.fr.trans hs.fr, h.ext, h.lvq, h.g0⟩
 ·refine ownk ((h.tm t).own i j e sz rows cv hp hc) fun d i' j' he hf => ?_
  injection he with h1 h2 h3
  subst h1
  exact hf i j e sz rows hp
 ·have hb := h.box l sl B hB
  have key : ∀ b : Blk, φ l sl = some b → b.1 < w.heap.size → w'.heap[b.1]? = w.heap[b.1]? := fun b h1 hlt => by
   refine hs.grown.block b.1 hlt fun he => ?_
   obtain ⟨d, i, j, t, hw, _⟩ := hrow b.1 he.symm hlt
   rw [h.phi l sl b h1] at hw
   cases hw
  cases B with
  | iter _ _ =>
    obtain ⟨b, h1, h2⟩ := hb
    exact ⟨b, h1, by rw [key b h1 (Array.getElem?_eq_some_iff.1 h2).1]; exact h2⟩
  | cells t cs =>
    obtain ⟨b, arr, h1, h2, h3, h4, h5, h6, h7⟩ := hb
    have hlt : b.1 < w.heap.size := (Array.getElem?_eq_some_iff.1 h2).1
    have hne : some b.1 ≠ row := fun he => by
     obtain ⟨d, i, j, t, hw, _⟩ := hrow b.1 he.symm hlt
     rw [h.phi l sl b h1] at hw
     cases hw
    refine ⟨b, arr, h1, by rw [hs.grown.block b.1 hlt hne]; exact h2, h3, h4, h5, h6, fun j c v hc hv => ⟨hs.vrel (fun _ _ _ h => h) (h7 j c v hc hv).1, fun e sz rows he => ?_⟩⟩
    exact ownk ((h7 j c v hc hv).2 e sz rows he) fun d i' j' he => by cases he
 ·have hlt := h.get_lt hb
  have hne : some b.1 ≠ row := fun he => by
   obtain ⟨d, i, j, t, hw, _⟩ := hrow b.1 he.symm hlt
   rw [h.phi l sl b hb] at hw
   cases hw
  rw [hs.own b.1 hlt hne]
  exact h.phi l sl b hb
theorem Step.alloc (w : World) (W : Nat → Own) (o : Obj) (x : Own) : Step w W (w.alloc o) (upd W w.heap.size x) none where
 grown := World.grownBy_alloc w o none
 own := fun b hb _ => by unfold upd; rw [if_neg (by omega)]
 rowst := fun b hb => by cases hb
 nofree := fun b hb => by cases hb
theorem Step.drew (w : World) (W : Nat → Own) : Step w W w.drew W none where
 grown := ⟨rfl, rfl, rfl, Nat.le_refl _, fun _ _ _ => rfl⟩
 own := fun _ _ _ => rfl
 rowst := fun b hb => by cases hb
 nofree := fun b hb => by cases hb
theorem Rel.newB (h : Rel w0 W0 s a φ W w) {g n : Nat} (hg : w.heap.size ≤ g) (hgr : w.grownBy w' none) (d : Nat) (hn : s.bx d = none) (B : ABox) (hB0 : BoxOk w' (upd φ s.lv (upd (φ s.lv) d (some (g, n)))) (upd W g (.box s.lv d)) s.lv d B) :
 Rel w0 W0 { s with bx := upd s.bx d (some B) } a (upd φ s.lv (upd (φ s.lv) d (some (g, n)))) (upd W g (.box s.lv d)) w' := by
 have hst : Step w W w' (upd W g (.box s.lv d)) none := ⟨hgr, fun b hb _ => by unfold upd; rw [if_neg (by omega)], fun b hb => (by cases hb), fun b hb => (by cases hb)⟩
 have hr := h.step hst (fun g hg => by cases hg)
 have hgn : s.get s.lv d = none := by simp [St.get, hn]
 have hφ : ∀ l sl b, φ l sl = some b → (upd φ s.lv (upd (φ s.lv) d (some (g, n)))) l sl = some b := fun l sl b hb => by
  unfold upd
  by_cases h1 : l = s.lv
  ·subst h1
   rw [if_pos rfl]
   by_cases h2 : sl = d
   ·subst h2; rw [h.phn _ _ hgn] at hb; cases hb
   ·rw [if_neg h2]; exact hb
  ·rw [if_neg h1]; exact hb
 have hget : ∀ l sl, ({ s with bx := upd s.bx d (some B) } : St).get l sl = if l = s.lv ∧ sl = d then some B else s.get l sl := fun l sl => by
  unfold St.get upd
  by_cases h1 : l = s.lv
  ·simp [h1]
  ·simp [h1]
 refine ⟨hr.size, hr.defs, fun u => ⟨(hr.tm u).rel.mono hφ (fun _ _ _ a b => ⟨a, b⟩), (hr.tm u).lvl, (hr.tm u).own⟩, fun l sl B hB => ?_, fun l sl b hb => ?_, fun l sl hgn2 => ?_, hr.fr, fun l sl b hl hb => hφ l sl b (h.ext l sl b hl hb), h.lvq, h.g0⟩
 ·rw [hget] at hB
  by_cases hc : l = s.lv ∧ sl = d
  ·rw [if_pos hc] at hB
   injection hB with hB
   subst hB
   obtain ⟨rfl, rfl⟩ := hc
   exact hB0
  ·rw [if_neg hc] at hB
   have hb := hr.box l sl B hB
   cases B with
   | iter _ _ =>
     obtain ⟨b, k1, k2⟩ := hb
     exact ⟨b, hφ _ _ _ k1, k2⟩
   | cells t' cs' =>
     obtain ⟨b, arr', k1, k2, k3, k4, k5, k6, k7⟩ := hb
     exact ⟨b, arr', hφ _ _ _ k1, k2, k3, k4, k5, k6, fun j c v hc hv' => ⟨(k7 j c v hc hv').1.mono hφ (fun _ _ _ a b => ⟨a, b⟩), (k7 j c v hc hv').2⟩⟩
 ·unfold upd at hb
  by_cases h1 : l = s.lv
  ·subst h1
   rw [if_pos rfl] at hb
   by_cases h2 : sl = d
   ·subst h2
    rw [if_pos rfl] at hb
    injection hb with hb
    subst hb
    simp [upd]
   ·rw [if_neg h2] at hb
    exact hr.phi _ sl b hb
  ·rw [if_neg h1] at hb
   exact hr.phi l sl b hb
 ·rw [hget] at hgn2
  by_cases hc : l = s.lv ∧ sl = d
  ·rw [if_pos hc] at hgn2; cases hgn2
  ·rw [if_neg hc] at hgn2
   have := h.phn l sl hgn2
   unfold upd
   by_cases h1 : l = s.lv
   ·subst h1
    rw [if_pos rfl, if_neg (fun e => hc ⟨rfl, e⟩)]
    exact this
   ·rw [if_neg h1]; exact this
theorem Rel.newBoxG (h : Rel w0 W0 s a φ W w) {g : Nat} (hg : w.heap.size ≤ g) (hgr : w.grownBy w' none) (d : Nat) (hn : s.bx d = none) (t : TypeId) (cs : List AV) (arr : Array Value) (hh : w'.heap[g]? = some (.cells arr t (0, 0))) (hl : cs.length ≤ arr.size) (hlv : okPs (lvOk s.lv) cs = true) (h1 : ∀ c ∈ cs, c.one = true) (h2 : ∀ (j : Nat) v, j < cs.length → arr[j]? = some v → v.oneCell' = true)
 (hv : ∀ (j : Nat) c v, cs[j]? = some c → arr[j]? = some v → VRel w φ W c v ∧ ∀ e sz rows, c = .sl (some e) sz rows → OwnOk w W (.box s.lv d j) e sz rows v) :
 Rel w0 W0 { s with bx := upd s.bx d (some (.cells t cs)) } a (upd φ s.lv (upd (φ s.lv) d (some (g, arr.size)))) (upd W g (.box s.lv d)) w' := by
 have hst : Step w W w' (upd W g (.box s.lv d)) none := ⟨hgr, fun b hb _ => by unfold upd; rw [if_neg (by omega)], fun b hb => (by cases hb), fun b hb => (by cases hb)⟩
 have hgn : s.get s.lv d = none := by simp [St.get, hn]
 have hφ : ∀ l sl b, φ l sl = some b → (upd φ s.lv (upd (φ s.lv) d (some (g, arr.size)))) l sl = some b := fun l sl b hb => by
  unfold upd
  by_cases h1 : l = s.lv
  ·subst h1
   rw [if_pos rfl]
   by_cases h2 : sl = d
   ·subst h2; rw [h.phn _ _ hgn] at hb; cases hb
   ·rw [if_neg h2]; exact hb
  ·rw [if_neg h1]; exact hb
 refine h.newB hg hgr d hn _ ⟨(g, arr.size), arr, by simp [upd], hh, ⟨rfl, hl⟩, hlv, h1, h2, fun j c v hc hv' => ⟨hst.vrel hφ (hv j c v hc hv').1, fun e sz rows he => ?_⟩⟩
 exact ((hv j c v hc hv').2 e sz rows he).keep hst.grown (fun _ _ h => by cases h) (fun g hg => hst.own g (((hv j c v hc hv').2 e sz rows he).lt hg) (by simp))
theorem Rel.newBox (h : Rel w0 W0 s a φ W w) (d : Nat) (hn : s.bx d = none) (t : TypeId) (cs : List AV) (arr : Array Value) (hl : cs.length ≤ arr.size) (hlv : okPs (lvOk s.lv) cs = true) (h1 : ∀ c ∈ cs, c.one = true) (h2 : ∀ v ∈ arr, v.oneCell' = true)
 (hv : ∀ (j : Nat) c v, cs[j]? = some c → arr[j]? = some v → VRel w φ W c v ∧ ∀ e sz rows, c = .sl (some e) sz rows → OwnOk w W (.box s.lv d j) e sz rows v) :
 Rel w0 W0 { s with bx := upd s.bx d (some (.cells t cs)) } a (upd φ s.lv (upd (φ s.lv) d (some (w.heap.size, arr.size)))) (upd W w.heap.size (.box s.lv d)) (w.alloc (.cells arr t)) :=
 h.newBoxG (Nat.le_refl _) (Step.alloc w W (.cells arr t) (.box s.lv d)).grown d hn t cs arr (heap_alloc_new w _) hl hlv h1 (fun j v _ hj => h2 v (Array.mem_of_getElem? hj)) hv
theorem Rel.setBx (h : Rel w0 W0 s a φ W w) {l sl : Nat} {b : Blk} {B0 : ABox} (hg : s.get l sl = some B0) (hb : φ l sl = some b) (B' : ABox) (hgr : w.grownBy w' (some b.1))
 (hB0 : Step w W w' W (some b.1) → (∀ {p : Pos} {e : TypeId} {sz : Nat} {rows : List (List AV)} {cv : Value}, OwnOk w W p e sz rows cv → OwnOk w' W p e sz rows cv) → BoxOk w' φ W l sl B') :
 Rel w0 W0 (s.setBox l sl B') a φ W w' := by
 have hWb := h.phi l sl b hb
 have hlt := h.get_lt hb
 have hst : Step w W w' W (some b.1) := ⟨hgr, fun _ _ _ => rfl, fun b' hb' _ o ho => by
  injection hb' with hb'
  subst hb'
  unfold stC at ho
  rw [hWb] at ho
  exact ho.elim, fun b' hb' _ hf => by
  injection hb' with hb'
  subst hb'
  rw [hWb] at hf
  exact hf⟩
 have ownk : ∀ {p : Pos} {e : TypeId} {sz : Nat} {rows : List (List AV)} {cv : Value}, OwnOk w W p e sz rows cv → OwnOk w' W p e sz rows cv := by
  intro p e sz rows cv ho
  refine ho.keep hgr (fun g hg he => ?_) (fun _ _ => rfl)
  injection he with he
  subst he
  have := ho.atRow hg
  rw [hWb] at this
  cases this
 have hle : l = s.lv ∨ l < s.lv := by
  unfold St.get at hg
  by_cases e1 : l = s.lv
  ·exact .inl e1
  ·rw [if_neg e1] at hg
   by_cases e2 : l < s.lv
   ·exact .inr e2
   ·rw [if_neg e2] at hg; cases hg
 have hlv' : (s.setBox l sl B').lv = s.lv := by unfold St.setBox; split <;> rfl
 have htm : (s.setBox l sl B').tm = s.tm := by unfold St.setBox; split <;> rfl
 have hn : (s.setBox l sl B').n = s.n := by unfold St.setBox; split <;> rfl
 have hget : ∀ l' sl', (s.setBox l sl B').get l' sl' = if l' = l ∧ sl' = sl then some B' else s.get l' sl' := fun l' sl' => by
  unfold St.setBox
  by_cases e1 : l = s.lv
  ·rw [if_pos e1]
   unfold St.get upd
   by_cases e2 : l' = s.lv
   ·simp [e1, e2]
   ·have : ¬ l' = l := fun e => e2 (e.trans e1)
    simp [e2, this]
  ·rw [if_neg e1]
   have hlt' : l < s.lv := hle.resolve_left e1
   unfold St.get upd
   by_cases e2 : l' = s.lv
   ·have : ¬ l' = l := fun e => e1 (e.symm.trans e2)
    simp [e2, Ne.symm e1]
   ·by_cases e3 : l' = l
    ·subst e3; simp [e2, hlt']
    ·simp [e2, e3]
 refine ⟨by rw [hn]; exact h.size, h.defs, fun u => ?_, fun l' sl' B hB => ?_, h.phi, fun l' sl' hg' => ?_, h.fr.trans hst.fr, by rw [hlv']; exact h.ext, by rw [hlv']; exact h.lvq, h.g0⟩
 ·rw [hlv', htm]
  exact ⟨hst.vrel (fun _ _ _ h => h) (h.tm u).rel, (h.tm u).lvl, fun i j e sz rows cv hp hc => ownk ((h.tm u).own i j e sz rows cv hp hc)⟩
 ·rw [hget] at hB
  by_cases hc : l' = l ∧ sl' = sl
  ·rw [if_pos hc] at hB
   injection hB with hB
   subst hB
   obtain ⟨rfl, rfl⟩ := hc
   exact hB0 hst ownk
  ·rw [if_neg hc] at hB
   have hbx := h.box l' sl' B hB
   cases B with
   | iter _ _ =>
     obtain ⟨b', k1, k2⟩ := hbx
     have hne : b'.1 ≠ b.1 := fun e => by
      have := h.phi l' sl' b' k1
      rw [e, hWb] at this
      injection this with e1 e2
      exact hc ⟨e1.symm, e2.symm⟩
     refine ⟨b', k1, ?_⟩
     rw [hgr.block b'.1 (Array.getElem?_eq_some_iff.1 k2).1 (by simpa using hne)]
     exact k2
   | cells t' cs2 =>
     obtain ⟨b', arr2, k1, k2, k3, k4, k5, k6, k7⟩ := hbx
     have hne : b'.1 ≠ b.1 := fun e => by
      have := h.phi l' sl' b' k1
      rw [e, hWb] at this
      injection this with e1 e2
      exact hc ⟨e1.symm, e2.symm⟩
     refine ⟨b', arr2, k1, ?_, k3, k4, k5, k6, fun j c v hc hv' => ⟨hst.vrel (fun _ _ _ h => h) (k7 j c v hc hv').1, fun e sz rows he => ownk ((k7 j c v hc hv').2 e sz rows he)⟩⟩
     rw [hgr.block b'.1 (Array.getElem?_eq_some_iff.1 k2).1 (by simpa using hne)]
     exact k2
 ·rw [hget] at hg'
  by_cases hc : l' = l ∧ sl' = sl
  ·rw [if_pos hc] at hg'; cases hg'
  ·rw [if_neg hc] at hg'; exact h.phn l' sl' hg'
theorem Rel.setBox (h : Rel w0 W0 s a φ W w) {l sl : Nat} {b : Blk} {t : TypeId} {cs : List AV} (hg : s.get l sl = some (.cells t cs)) (hb : φ l sl = some b) (cs' : List AV) (arr' : Array Value) (hgr : w.grownBy w' (some b.1)) (hh : w'.heap[b.1]? = some (.cells arr' t (0, 0)))
 (hl : arr'.size = b.2 ∧ cs'.length ≤ b.2) (hlv : okPs (lvOk l) cs' = true) (h1 : ∀ c ∈ cs', c.one = true) (h2 : ∀ (j : Nat) v, j < cs'.length → arr'[j]? = some v → v.oneCell' = true)
 (hv : ∀ (j : Nat) c v, cs'[j]? = some c → arr'[j]? = some v → VRel w φ W c v ∧ ∀ e sz rows, c = .sl (some e) sz rows → OwnOk w W (.box l sl j) e sz rows v) :
 Rel w0 W0 (s.setBox l sl (.cells t cs')) a φ W w' := by
 refine h.setBx hg hb _ hgr fun hst ownk => ?_
 exact ⟨b, arr', hb, hh, hl, hlv, h1, h2, fun j c v hc hv' => ⟨hst.vrel (fun _ _ _ h => h) (hv j c v hc hv').1, fun e sz rows he => ownk ((hv j c v hc hv').2 e sz rows he)⟩⟩
end
end Go.Ev
