/- A state of the evaluator and the state of the run that it tells of; how both go on together. Condition: none. -/
import Derived.Test.YtcnlfelalgaepaaGreatDoorEv1
namespace Go.Ev
set_option linter.all false
open Go.RowKit
structure Fr (w0 : World) (W0 : Nat → Own) (w : World) (W : Nat → Own) : Prop where
 os : w.os = w0.os
 tape : w.tape = w0.tape
 output : w.output = w0.output
 size : w0.heap.size ≤ w.heap.size
 cell : ∀ b o v, b < w0.heap.size → stC W0 b o → w0.cell? ⟨b, o, none⟩ = some v → w.cell? ⟨b, o, none⟩ = some v
 blk : ∀ b, b < w0.heap.size → (W0 b).quiet → w.heap[b]? = w0.heap[b]?
 own : ∀ b, b < w0.heap.size → (W0 b).quiet → W b = W0 b
 st : ∀ b o, b < w0.heap.size → stC W0 b o → stC W b o
theorem Fr.refl (w : World) (W : Nat → Own) : Fr w W w W := ⟨rfl, rfl, rfl, Nat.le_refl _, fun _ _ _ _ _ h => h, fun _ _ _ => rfl, fun _ _ _ => rfl, fun _ _ _ h => h⟩
theorem Fr.glob {w0 w : World} {W0 W : Nat → Own} (h : Fr w0 W0 w W) (hg : GlobOk w0 W0) : GlobOk w W where
 cell g o av hgl := by
  obtain ⟨v, h1, h2, h3, h4, h5⟩ := hg.cell g o av hgl
  have hst : ∀ b o v, stC W0 b o → w0.cell? ⟨b, o, none⟩ = some v → stC W b o ∧ w.cell? ⟨b, o, none⟩ = some v := fun b o v hs hc =>
   ⟨h.st b o (World.block_lt_of_cell? w0 ⟨b, o, none⟩ hc) hs, h.cell b o v (World.block_lt_of_cell? w0 ⟨b, o, none⟩ hc) hs hc⟩
  obtain ⟨h6, h7⟩ := hst g o v h2 h1
  exact ⟨v, h7, h6, h3.mono (fun _ _ _ h => h) hst, h4, h5⟩
 size g n hgl := by
  obtain ⟨h1, cs, t, fz, h2, h3⟩ := hg.size g n hgl
  have hlt := (Array.getElem?_eq_some_iff.1 h2).1
  exact ⟨by rw [h.own g hlt h1]; exact h1, cs, t, fz, by rw [h.blk g hlt h1]; exact h2, h3⟩
 ints g hgl := by
  obtain ⟨m, h1, h2⟩ := hg.ints g hgl
  have hb := World.block_lt_of_cell? w0 ⟨g, 0, none⟩ h1
  exact ⟨m, h.cell g 0 _ hb h2 h1, h.st g 0 hb h2⟩
theorem Fr.trans {w0 w1 w2 : World} {W0 W1 W2 : Nat → Own} (h : Fr w0 W0 w1 W1) (k : Fr w1 W1 w2 W2) : Fr w0 W0 w2 W2 where
 os := k.os.trans h.os
 tape := k.tape.trans h.tape
 output := k.output.trans h.output
 size := Nat.le_trans h.size k.size
 cell := fun b o v hb hs hc => k.cell b o v (Nat.lt_of_lt_of_le hb h.size) (h.st b o hb hs) (h.cell b o v hb hs hc)
 blk := fun b hb hf => (k.blk b (Nat.lt_of_lt_of_le hb h.size) (by rw [h.own b hb hf]; exact hf)).trans (h.blk b hb hf)
 own := fun b hb hf => (k.own b (Nat.lt_of_lt_of_le hb h.size) (by rw [h.own b hb hf]; exact hf)).trans (h.own b hb hf)
 st := fun b o hb hs => k.st b o (Nat.lt_of_lt_of_le hb h.size) (h.st b o hb hs)
def lvOk (l : Nat) : Nat → Nat → Bool := fun l' _ => decide (l' ≤ l)
def BoxOk (w : World) (φ : Nat → Nat → Option Blk) (W : Nat → Own) (l sl : Nat) : ABox → Prop
 | .cells t cs => ∃ b arr, φ l sl = some b ∧ w.heap[b.1]? = some (.cells arr t (0, 0)) ∧ (arr.size = b.2 ∧ cs.length ≤ b.2) ∧ okPs (lvOk l) cs = true ∧ (∀ c ∈ cs, c.one = true) ∧ (∀ (j : Nat) v, j < cs.length → arr[j]? = some v → v.oneCell' = true) ∧
    ∀ (j : Nat) c v, cs[j]? = some c → arr[j]? = some v → VRel w φ W c v ∧ ∀ e sz rows, c = .sl (some e) sz rows → OwnOk w W (.box l sl j) e sz rows v
 | .iter s pos => ∃ b, φ l sl = some b ∧ w.heap[b.1]? = some (.stringIter s pos)
structure TmOk (w : World) (φ : Nat → Nat → Option Blk) (W : Nat → Own) (lv : Nat) (pos : Nat → Nat → Pos) (av : AV) (v : Value) : Prop where
 rel : VRel w φ W av v
 lvl : av.okP (lvOk lv) = true
 own : OwnAt w W pos av v
structure Base where
 lv : Nat
 own : Nat → Own
 phi : Nat → Nat → Option Blk
structure Rel (w0 : World) (W0 : Base) (s : St) (a : Act) (φ : Nat → Nat → Option Blk) (W : Nat → Own) (w : World) : Prop where
 size : a.tmps.size = s.n
 defs : a.defers = []
 tm : ∀ t, TmOk w φ W s.lv (Pos.tmp t) (s.tm t) (a.tmps.getD t undef)
 box : ∀ l sl B, s.get l sl = some B → BoxOk w φ W l sl B
 phi : ∀ l sl b, φ l sl = some b → W b.1 = .box l sl
 phn : ∀ l sl, s.get l sl = none → φ l sl = none
 fr : Fr w0 W0.own w W
 ext : ∀ l sl b, l < s.lv → W0.phi l sl = some b → φ l sl = some b
 lvq : s.lv = W0.lv
 g0 : GlobOk w0 W0.own
theorem getD_set {α : Type} (xs : Array α) (i j : Nat) (v d : α) (hi : i < xs.size) : (xs.setIfInBounds i v).getD j d = if j = i then v else xs.getD j d := by
 by_cases h : j = i
 ·subst h; simp [hi]
 ·rw [if_neg h]
  simp [Array.getD_eq_getD_getElem?, Array.getElem?_setIfInBounds_ne (Ne.symm h)]
theorem Rel.put {w0 : World} {W0 : Base} {s : St} {a : Act} {φ : Nat → Nat → Option Blk} {W : Nat → Own} {w : World} (h : Rel w0 W0 s a φ W w) (d : Option Nat) {av : AV} {v : Value}
 (hd : ∀ x, d = some x → x < s.n ∧ TmOk w φ W s.lv (Pos.tmp x) av v) : Rel w0 W0 (s.put d av) (a.put d v) φ W w := by
 cases d with
 | none => exact h
 | some d =>
   obtain ⟨hn, hv⟩ := hd d rfl
   refine ⟨by have := h.size; simp [Act.put]; exact this, h.defs, fun t => ?_, h.box, h.phi, h.phn, h.fr, h.ext, h.lvq, h.g0⟩
   show TmOk w φ W s.lv (Pos.tmp t) (upd s.tm d av t) ((a.tmps.setIfInBounds d v).getD t undef)
   rw [getD_set _ _ _ _ _ (by rw [h.size]; exact hn)]
   unfold upd
   by_cases hj : t = d
   ·subst hj; rw [if_pos rfl, if_pos rfl]; exact hv
   ·rw [if_neg hj, if_neg hj]; exact h.tm t
theorem TmOk.of_noFlag {w : World} {φ : Nat → Nat → Option Blk} {W : Nat → Own} {lv : Nat} {pos : Nat → Nat → Pos} {av : AV} {v : Value} (h : VRel w φ W av v) (hl : av.okP (lvOk lv) = true) (hf : av.noFlag) : TmOk w φ W lv pos av v :=
 ⟨h, hl, .of_noFlag hf⟩
theorem Rel.setTm {w0 : World} {W0 : Base} {s : St} {a : Act} {φ : Nat → Nat → Option Blk} {W : Nat → Own} {w : World} (h : Rel w0 W0 s a φ W w) (n : Nat) {av : AV}
 (hv : TmOk w φ W s.lv (Pos.tmp n) av (a.tmps.getD n undef)) : Rel w0 W0 { s with tm := upd s.tm n av } a φ W w := by
 refine ⟨h.size, h.defs, fun t => ?_, h.box, h.phi, h.phn, h.fr, h.ext, h.lvq, h.g0⟩
 show TmOk w φ W s.lv (Pos.tmp t) (upd s.tm n av t) (a.tmps.getD t undef)
 unfold upd
 by_cases hj : t = n
 ·subst hj; rw [if_pos rfl]; exact hv
 ·rw [if_neg hj]; exact h.tm t
def relab (f : Pos → Pos) (W : Nat → Own) : Nat → Own := fun b =>
 match W b with
 | .row p t => .row (f p) t
 | o => o
theorem relab_stC {f : Pos → Pos} {W : Nat → Own} {b o : Nat} : stC (relab f W) b o ↔ stC W b o := by
 unfold stC relab
 cases W b <;> exact Iff.rfl
theorem relab_quiet {f : Pos → Pos} {W : Nat → Own} {b : Nat} (h : (W b).quiet) : relab f W b = W b := by unfold relab; cases hb : W b <;> simp_all [Own.quiet]
theorem relab_box {f : Pos → Pos} {W : Nat → Own} {b l sl : Nat} (h : W b = .box l sl) : relab f W b = .box l sl := by unfold relab; rw [h]
theorem VRel.relab {w : World} {φ : Nat → Nat → Option Blk} {W : Nat → Own} {av : AV} {v : Value} (h : VRel w φ W av v) (f : Pos → Pos) : VRel w φ (relab f W) av v :=
 h.mono (fun _ _ _ h => h) (fun _ _ _ hs hc => ⟨relab_stC.2 hs, hc⟩)
theorem OwnOk.relab {w : World} {W : Nat → Own} {p : Pos} {e : TypeId} {sz : Nat} {rows : List (List AV)} {cv : Value} (h : OwnOk w W p e sz rows cv) (f : Pos → Pos) : OwnOk w (relab f W) (f p) e sz rows cv := by
 obtain ⟨xs, h1, h2⟩ := h
 exact ⟨xs, h1, fun g hg => by unfold Ev.relab; rw [h2 g hg]⟩
theorem OwnAt.relab {w : World} {W : Nat → Own} {pos : Nat → Nat → Pos} {av : AV} {v : Value} (h : OwnAt w W pos av v) (f : Pos → Pos) : OwnAt w (relab f W) (fun i j => f (pos i j)) av v :=
 fun i j e sz rows cv hp hc => (h i j e sz rows cv hp hc).relab f
theorem Fr.relab {w0 w : World} {W0 W : Nat → Own} (h : Fr w0 W0 w W) (f : Pos → Pos) : Fr w0 W0 w (relab f W) :=
 { h with own := fun b hb hf => by have e := h.own b hb hf; rw [relab_quiet (by rw [e]; exact hf), e], st := fun b o hb hs => relab_stC.2 (h.st b o hb hs) }
theorem BoxOk.relab {w : World} {φ : Nat → Nat → Option Blk} {W : Nat → Own} {l sl : Nat} {B : ABox} (h : BoxOk w φ W l sl B) (f : Pos → Pos) (hf : ∀ j, f (.box l sl j) = .box l sl j) : BoxOk w φ (relab f W) l sl B := by
 cases B with
 | iter s p => exact h
 | cells t cs =>
   obtain ⟨b, arr, h1, h2, h3, h4, h5, h6, h7⟩ := h
   exact ⟨b, arr, h1, h2, h3, h4, h5, h6, fun j c v hc hv => ⟨(h7 j c v hc hv).1.relab f, fun e sz rows he => by
    have := ((h7 j c v hc hv).2 e sz rows he).relab f
    rwa [hf j] at this⟩⟩
def toQ (n : Nat) (q : Nat → Nat → Pos) : Pos → Pos
 | .tmp t i j => if t = n then q i j else .tmp t i j
 | p => p
theorem Rel.take {w0 : World} {W0 : Base} {s : St} {a : Act} {φ : Nat → Nat → Option Blk} {W : Nat → Own} {w : World} (h : Rel w0 W0 s a φ W w) (n : Nat) (q : Nat → Nat → Pos) :
 Rel w0 W0 (s.use (.t n)) a φ (relab (toQ n q) W) w ∧ TmOk w φ (relab (toQ n q) W) s.lv q (s.tm n) (a.tmps.getD n undef) := by
 refine ⟨⟨h.size, h.defs, fun t => ?_, fun l sl B hB => (h.box l sl B hB).relab _ (fun j => rfl), fun l sl b hb => relab_box (h.phi l sl b hb), h.phn, h.fr.relab _, h.ext, h.lvq, h.g0⟩, ?_⟩
 ·show TmOk w φ _ s.lv (Pos.tmp t) (upd s.tm n (s.tm n).noOwn t) (a.tmps.getD t undef)
  unfold upd
  by_cases hj : t = n
  ·subst hj
   rw [if_pos rfl]
   exact ⟨(h.tm t).rel.noOwn.relab _, by rw [okP_noOwn]; exact (h.tm t).lvl, .of_noFlag (noOwn_noFlag _)⟩
  ·rw [if_neg hj]
   have ht := h.tm t
   refine ⟨ht.rel.relab _, ht.lvl, ?_⟩
   have := ht.own.relab (toQ n q)
   simpa [toQ, hj] using this
 ·have ht := h.tm n
  refine ⟨ht.rel.relab _, ht.lvl, ?_⟩
  have := ht.own.relab (toQ n q)
  simpa [toQ] using this
def OpdOk (x : X) (o : Operand) : Prop :=
 match x with
 | .t n => o = .tmp n
 | .c av => ∀ (a : Act) (w : World) (φ : Nat → Nat → Option Blk) (W : Nat → Own) (lv : Nat) (pos : Nat → Nat → Pos), TmOk w φ W lv pos av (a.eval o)
def OpdsOk (xs : List X) (os : List Operand) : Prop := xs.length = os.length ∧ ∀ (i : Nat) x o, xs[i]? = some x → os[i]? = some o → OpdOk x o
theorem Rel.opd {w0 : World} {W0 : Base} {s : St} {a : Act} {φ : Nat → Nat → Option Blk} {W : Nat → Own} {w : World} (h : Rel w0 W0 s a φ W w) {x : X} {o : Operand} (hx : OpdOk x o) :
 VRel w φ W (s.evX x) (a.eval o) ∧ (s.evX x).okP (lvOk s.lv) = true := by
 cases x with
 | c av => exact ⟨(hx a w φ W s.lv (fun _ _ => .tmp 0 0 0)).rel, (hx a w φ W s.lv (fun _ _ => .tmp 0 0 0)).lvl⟩
 | t n =>
   obtain rfl : o = .tmp n := hx
   exact ⟨(h.tm n).rel, (h.tm n).lvl⟩
theorem Rel.opdTake {w0 : World} {W0 : Base} {s : St} {a : Act} {φ : Nat → Nat → Option Blk} {W : Nat → Own} {w : World} (h : Rel w0 W0 s a φ W w) {x : X} {o : Operand} (hx : OpdOk x o) (q : Nat → Nat → Pos) :
 ∃ f, Rel w0 W0 (s.use x) a φ (relab f W) w ∧ TmOk w φ (relab f W) s.lv q (s.evX x) (a.eval o) ∧ (∀ l sl j, f (.box l sl j) = .box l sl j) ∧ ∀ t i j, x ≠ .t t → f (.tmp t i j) = .tmp t i j := by
 cases x with
 | c av =>
   refine ⟨id, ?_, hx a w φ _ s.lv q, fun _ _ _ => rfl, fun _ _ _ _ => rfl⟩
   have e : relab id W = W := by
    funext b
    unfold relab
    cases W b <;> rfl
   rw [e]; exact h
 | t n =>
   obtain rfl : o = .tmp n := hx
   obtain ⟨h1, h2⟩ := h.take n q
   exact ⟨toQ n q, h1, h2, fun _ _ _ => rfl, fun t i j ht => by simp only [toQ]; rw [if_neg (fun e => ht (by rw [e]))]⟩
end Go.Ev
