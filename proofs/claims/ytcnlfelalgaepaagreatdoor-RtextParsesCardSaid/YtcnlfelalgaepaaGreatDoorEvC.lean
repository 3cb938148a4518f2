/- Calls: what the evaluator's call answers, the code's call comes to. Condition: none. -/
import Derived.Test.YtcnlfelalgaepaaGreatDoorEvB
namespace Go.Ev
set_option linter.all false
open Go.RowKit
def hide (W : Nat → Own) : Nat → Own := fun b =>
 match W b with
 | .row (.tmp _ _ _) t => .lim t
 | o => o
def hideAll (W : Nat → Own) : Nat → Own := fun b =>
 match W b with
 | .row _ t => .lim t
 | .box _ _ => .lim 0
 | o => o
theorem hide_stC {W : Nat → Own} {b o : Nat} : stC (hide W) b o ↔ stC W b o := by
 unfold stC hide
 cases W b with
 | row p t => cases p <;> exact Iff.rfl
 | _ => exact Iff.rfl
theorem hide_quiet {W : Nat → Own} (b : Nat) (h : (W b).quiet) : (hide W b).quiet := by
 unfold hide
 cases hw : W b <;> rw [hw] at h <;> first | exact h | exact h.elim
theorem hideAll_stC {W : Nat → Own} {b o : Nat} : stC (hideAll W) b o ↔ stC W b o := by
 unfold stC hideAll
 cases W b <;> simp
theorem hideAll_quiet (W : Nat → Own) (b : Nat) : (hideAll W b).quiet := by
 unfold hideAll
 cases W b <;> trivial
structure EntryOk (w : World) (φ : Nat → Nat → Option Blk) (W : Nat → Own) (lv : Nat) (low : Mem) (vs : List AV) (cargs : Array Value) : Prop where
 len : cargs.size = vs.length
 arg : ∀ (i : Nat) c v, vs[i]? = some c → cargs[i]? = some v → VRel w φ W c v ∧ c.okP (fun l _ => decide (l < lv)) = true ∧ c.noFlag
 box : ∀ l sl B, l < lv → low l sl = some B → BoxOk w φ W l sl B
 phi : ∀ l sl b, φ l sl = some b → l < lv ∧ W b.1 = .box l sl
 phn : ∀ l sl, l < lv → low l sl = none → φ l sl = none
 gl : GlobOk w W
structure ExitOk (w : World) (φ : Nat → Nat → Option Blk) (W : Nat → Own) (lv : Nat) (low' : Mem) (rs : List AV) (v : Value) (w' : World) (φ' : Nat → Nat → Option Blk) (W' : Nat → Own) : Prop where
 fr : Fr w W w' W'
 rel : VRel w' φ' W' (retAV rs) v
 lvl : (retAV rs).okP (fun l _ => decide (l < lv)) = true
 own : OwnAt w' W' (Pos.tmp 0) (retAV rs) v
 box : ∀ l sl B, l < lv → low' l sl = some B → BoxOk w' φ' W' l sl B
 phi : ∀ l sl b, φ' l sl = some b → l < lv ∧ W' b.1 = .box l sl
 phn : ∀ l sl, l < lv → low' l sl = none → φ' l sl = none
 ext : ∀ l sl b, φ l sl = some b → φ' l sl = some b
structure ExitC (w : World) (φ : Nat → Nat → Option Blk) (W : Nat → Own) (lv : Nat) (low' : Mem) (B : ABox) (o n z : Nat) (v : Value) (w' : World) (φ' : Nat → Nat → Option Blk) (W' : Nat → Own) (sl : Nat) : Prop where
 fr : Fr w W w' W'
 rel : VRel w' φ' W' (.win lv sl o n z) v
 cell : BoxOk w' φ' W' lv sl B
 cellv : ∀ t cs, B = .cells t cs → okPs (fun l _ => decide (l < lv)) cs = true
 box : ∀ l sl B, l < lv → low' l sl = some B → BoxOk w' φ' W' l sl B
 phi : ∀ l s b, φ' l s = some b → (l < lv ∨ (l = lv ∧ s = sl)) ∧ W' b.1 = .box l s
 phn : ∀ l sl, l < lv → low' l sl = none → φ' l sl = none
 ext : ∀ l sl b, φ l sl = some b → φ' l sl = some b
 old : ∀ l sl b, φ l sl = some b → l < lv
 isc : ∃ t cs, B = .cells t cs
def CarryPost (w : World) (φ : Nat → Nat → Option Blk) (W : Nat → Own) (lv : Nat) (low' : Mem) (B : Option ABox) (o n z : Nat) (v : Value) (w' : World) (φ' : Nat → Nat → Option Blk) (W' : Nat → Own) : Prop :=
 match B with
 | some B => ∃ sl, ExitC w φ W lv low' B o n z v w' φ' W' sl
 | none => ExitOk w φ W lv low' [.sl none z []] v w' φ' W'
def CarryOk (P : Program) (C : FuncId → List AV → Mem → Nat → Option (Option ABox × (Nat × Nat × Nat) × Mem)) : Prop :=
 ∀ g vs low lv B o n z low' w φ W cargs, C g vs low lv = some (B, (o, n, z), low') → EntryOk w φ W lv low vs cargs →
  (∃ fn, P.funcs[g]? = some fn ∧ fn.body.isNone = false ∧ (fn.name == "runtime.NumGoroutine") = false) ∧
  Calls P g cargs w fun e w' => ∃ v φ' W', e = .returned v ∧ CarryPost w φ W lv low' B o n z v w' φ' W'
def CallOk (P : Program) (C : FuncId → List AV → Mem → Nat → Option (List AV × Mem)) : Prop :=
 ∀ g vs low lv rs low' w φ W cargs, C g vs low lv = some (rs, low') → EntryOk w φ W lv low vs cargs →
  (∃ fn, P.funcs[g]? = some fn ∧ fn.body.isNone = false ∧ (fn.name == "runtime.NumGoroutine") = false) ∧
  Calls P g cargs w fun e w' => ∃ v φ' W', e = .returned v ∧ ExitOk w φ W lv low' rs v w' φ' W'
section
variable {w0 w w' : World} {W0 : Base} {W W' : Nat → Own} {φ φ' : Nat → Nat → Option Blk} {s s' : St} {a : Act} {P : Program} {O : Orc} {d : Option Nat} {av : AV} {v : Value} {t : TypeId} {agg : Option Nat}
theorem OwnOk.of_block {p p' : Pos} {e : TypeId} {sz : Nat} {rows : List (List AV)} {cv : Value} (h : OwnOk w W p e sz rows cv) (hh : ∀ g, cv.ownBlock = some g → g < w.heap.size → W g = .row p (rows.length * sz) → w'.heap[g]? = w.heap[g]? ∧ W' g = .row p' (rows.length * sz)) : OwnOk w' W' p' e sz rows cv := by
 obtain ⟨xs, ⟨h1, h2⟩, h3⟩ := h
 refine ⟨xs, ⟨h1, ?_⟩, fun g hg => ?_⟩
 ·rcases h2 with h2 | ⟨g, cap, cur, rfl, hb, hg, rest⟩
  ·exact .inl h2
  ·refine .inr ⟨g, cap, cur, rfl, hb, ?_, rest⟩
   rw [(hh g rfl (Array.getElem?_eq_some_iff.1 hg).1 (h3 g rfl)).1]
   exact hg
 ·refine (hh g hg ?_ (h3 g hg)).2
  exact (World.ownsRow.lt (base := 0) ⟨h1, h2⟩ g hg).2
def resPos (d : Nat) : Pos → Pos
 | .tmp t i j => if t = 0 then .tmp d i j else .tmp t i j
 | p => p
theorem run_call {o : Oper} {f' : Operand} {args' : Array Operand} {ts : Array TypeId} (ho : o.op = .call { callee := .value f', args := args', argTypes := ts }) {g : FuncId} {cv : Array Value} (hf : a.eval f' = .func (.func g) #[] cv) {fn : Func}
 (h1 : P.funcs[g]? = some fn) (h2 : fn.body.isNone = false) (h3 : (fn.name == "runtime.NumGoroutine") = false) : (execOp a.eval o).run P w = .ok (.enter g (args'.map a.eval ++ cv)) w := by
 simp only [execOp, ho, resolve, hf, Deferred.ofValue]
 have h2' : ¬ fn.body = none := fun h => by rw [h] at h2; cases h2
 have h3' : ¬ fn.name = "runtime.NumGoroutine" := by simpa using h3
 simp [invoke, callFunc, h1, h2', h3']
theorem args_get {args : List X} {args' : Array Operand} (hx : OpdsOk args args'.toList) {caps : List AV} {cv : Array Value} (hl : cv.size = caps.length) (h : Rel w0 W0 s a φ W w) (hv : ∀ (i : Nat) c v, caps[i]? = some c → cv[i]? = some v → VRel w φ W c v) (hk : okPs (lvOk s.lv) caps = true) :
 (args'.map a.eval ++ cv).size = (args.map (fun x => (s.evX x).noOwn) ++ caps.map AV.noOwn).length ∧ ∀ (i : Nat) c v, (args.map (fun x => (s.evX x).noOwn) ++ caps.map AV.noOwn)[i]? = some c → (args'.map a.eval ++ cv)[i]? = some v → VRel w φ W c v ∧ c.okP (lvOk s.lv) = true ∧ c.noFlag := by
 have hlen : args.length = args'.size := by simpa using hx.1
 refine ⟨by simp [hlen, hl], fun i c v hc hv' => ?_⟩
 by_cases hi : i < args.length
 ·rw [List.getElem?_append_left (by simpa using hi), List.getElem?_map] at hc
  obtain ⟨x, hx1, rfl⟩ := Option.map_eq_some_iff.1 hc
  rw [Array.getElem?_append_left (by simp; omega), Array.getElem?_map] at hv'
  obtain ⟨o', ho', rfl⟩ := Option.map_eq_some_iff.1 hv'
  have := h.opd (hx.2 i x o' hx1 (by simpa using ho'))
  exact ⟨this.1.noOwn, by rw [okP_noOwn]; exact this.2, noOwn_noFlag _⟩
 ·rw [List.getElem?_append_right (by simp; omega), List.getElem?_map] at hc
  obtain ⟨c', hc1, rfl⟩ := Option.map_eq_some_iff.1 hc
  rw [Array.getElem?_append_right (by simp; omega)] at hv'
  simp only [List.length_map, Array.size_map] at hc1 hv'
  rw [← hlen] at hv'
  exact ⟨(hv _ c' v hc1 hv').noOwn, by rw [okP_noOwn]; exact okPs_get _ hk (List.mem_of_getElem? hc1), noOwn_noFlag _⟩
theorem entry_of (h : Rel w0 W0 s a φ W w) {vs : List AV} {cargs : Array Value} (ha1 : cargs.size = vs.length) (ha2 : ∀ (i : Nat) c v, vs[i]? = some c → cargs[i]? = some v → VRel w φ W c v ∧ c.okP (lvOk s.lv) = true ∧ c.noFlag) :
 (∀ l sl : Nat, lvOk s.lv l sl = decide (l < s.lv + 1)) ∧ (∀ {av v}, VRel w φ W av v → VRel w φ (hide W) av v) ∧ (∀ l sl b, φ l sl = some b → l < s.lv + 1) ∧ EntryOk w φ (hide W) (s.lv + 1) s.mem vs cargs := by
 have hlv : ∀ l sl : Nat, lvOk s.lv l sl = decide (l < s.lv + 1) := fun l sl => by simp [lvOk, Nat.lt_succ_iff]
 have hmono : ∀ {av v}, VRel w φ W av v → VRel w φ (hide W) av v := fun hv => hv.mono (fun _ _ _ h => h) (fun b o v hs hc => ⟨hide_stC.2 hs, hc⟩)
 have hget : ∀ l sl, l < s.lv + 1 → s.mem l sl = s.get l sl := fun l sl hl => by
  show (if l = s.lv then s.bx else if l < s.lv then s.low l else fun _ => none) sl = _
  unfold St.get
  by_cases h1 : l = s.lv
  ·rw [if_pos h1, if_pos h1]
  ·rw [if_neg h1, if_neg h1, if_pos (by omega), if_pos (by omega)]
 have hphi : ∀ l sl b, φ l sl = some b → l < s.lv + 1 := fun l sl b hb => by
  cases hg : s.get l sl with
  | none => rw [h.phn l sl hg] at hb; cases hb
  | some B =>
    unfold St.get at hg
    split at hg
    ·omega
    ·split at hg
     ·omega
     ·cases hg
 have hent : EntryOk w φ (hide W) (s.lv + 1) s.mem vs cargs := by
  refine ⟨ha1, fun i c v hc hv' => ?_, fun l sl B hl hB => ?_, fun l sl b hb => ⟨hphi l sl b hb, ?_⟩, fun l sl hl hg => ?_, (h.fr.glob h.g0).same (fun b o hs => hide_stC.2 hs) hide_quiet⟩
  ·obtain ⟨q1, q2, q3⟩ := ha2 i c v hc hv'
   exact ⟨hmono q1, okP_mono (fun l sl hp => by rwa [← hlv l sl]) _ q2, q3⟩
  ·have hB : s.get l sl = some B := (hget l sl hl).symm.trans hB
   have hbx := h.box l sl B hB
   cases B with
   | iter _ _ => exact hbx
   | cells t cs =>
     obtain ⟨b, arr, k1, k2, k3, k4, k5, k6, k7⟩ := hbx
     refine ⟨b, arr, k1, k2, k3, k4, k5, k6, fun j c v hc hv => ⟨hmono (k7 j c v hc hv).1, fun e sz rows he => ?_⟩⟩
     exact ((k7 j c v hc hv).2 e sz rows he).of_block fun g hg hlt hw => ⟨rfl, by unfold hide; rw [hw]⟩
  ·unfold hide
   rw [h.phi l sl b hb]
  ·exact h.phn l sl ((hget l sl hl).symm.trans hg)
 exact ⟨hlv, hmono, hphi, hent⟩
theorem after_call (h : Rel w0 W0 s a φ W w) (hmono : ∀ {av v}, VRel w φ W av v → VRel w φ (hide W) av v) (hlv : ∀ l sl : Nat, lvOk s.lv l sl = decide (l < s.lv + 1)) (hphi : ∀ l sl b, φ l sl = some b → l < s.lv + 1) {low' : Mem} {rs : List AV} {v : Value}
 (hex : ExitOk w φ (hide W) (s.lv + 1) low' rs v w' φ' W') (d : Nat) : ∃ W2, Rel w0 W0 (s.after low') a φ' W2 w' ∧ (∀ b o', stC W' b o' → stC W2 b o') ∧ (∀ g p t, W' g = .row p t → W2 g = .row (resPos d p) t) ∧ ∀ g l sl, W' g = .box l sl → W2 g = .box l sl := by
 let hid : Nat → Prop := fun b => b < w.heap.size ∧ ∃ t i j q, W b = .row (.tmp t i j) q
 let W2 : Nat → Own := fun b => @ite _ (hid b) (Classical.propDecidable _) (W b) (relab (resPos d) W' b)
 have hW2a : ∀ b, hid b → W2 b = W b := fun b hb => if_pos hb
 have hW2b : ∀ b, ¬ hid b → W2 b = relab (resPos d) W' b := fun b hb => if_neg hb
 have hidq : ∀ b, hid b → (hide W b).quiet := fun b hb => by
  obtain ⟨_, t, i, j, q, hw⟩ := hb
  unfold hide; rw [hw]; trivial
 have hidn : ∀ b, b < w.heap.size → ¬ hid b → hide W b = W b := fun b hb hn => by
  unfold hide
  cases hw : W b with
  | row p t =>
    cases p with
    | tmp t' i j => exact absurd ⟨hb, t', i, j, t, hw⟩ hn
    | box l s' j => rfl
  | _ => rfl
 have hstc : ∀ b o', stC W' b o' → stC W2 b o' := fun b o' hs => by
  by_cases hb : hid b
  ·have e := hex.fr.own b hb.1 (hidq b hb)
   have hs2 : stC (hide W) b o' := by unfold stC at hs ⊢; rw [← e]; exact hs
   have := hide_stC.1 hs2
   unfold stC at this ⊢
   rw [hW2a b hb]; exact this
  ·have := (relab_stC (f := resPos d)).2 hs
   unfold stC at this ⊢
   rw [hW2b b hb]; exact this
 have hold : ∀ b o' v, stC W b o' → w.cell? ⟨b, o', none⟩ = some v → stC W2 b o' ∧ w'.cell? ⟨b, o', none⟩ = some v := fun b o' v hs hc => by
  have hb : b < w.heap.size := World.block_lt_of_cell? w ⟨b, o', none⟩ hc
  have hs' := hide_stC.2 hs
  exact ⟨hstc b o' (hex.fr.st b o' hb hs'), hex.fr.cell b o' v hb hs' hc⟩
 have hfr : Fr w W w' W2 := by
  refine ⟨hex.fr.os, hex.fr.tape, hex.fr.output, hex.fr.size, fun b o' v hb hs hc => (hold b o' v hs hc).2, fun b hb hq => ?_, fun b hb hq => ?_, fun b o' hb hs => hstc b o' (hex.fr.st b o' hb (hide_stC.2 hs))⟩
  ·have hn : ¬ hid b := fun hh => by
    obtain ⟨_, t, i, j, q, hw⟩ := hh
    rw [hw] at hq
    exact hq
   exact hex.fr.blk b hb (by rw [hidn b hb hn]; exact hq)
  ·have hn : ¬ hid b := fun hh => by
    obtain ⟨_, t, i, j, q, hw⟩ := hh
    rw [hw] at hq
    exact hq
   have e := hex.fr.own b hb (by rw [hidn b hb hn]; exact hq)
   rw [hW2b b hn, relab_quiet (by rw [e, hidn b hb hn]; exact hq), e, hidn b hb hn]
 have hrel : Rel w0 W0 (s.after low') a φ' W2 w' := by
  have hg2 : ∀ l sl, (s.after low').get l sl = if l < s.lv + 1 then low' l sl else none := fun l sl => by
   unfold St.get St.after
   by_cases h1 : l = s.lv
   ·subst h1; simp
   ·by_cases h2 : l < s.lv
    ·simp [h1, h2, show l < s.lv + 1 by omega]
    ·simp [h1, h2, show ¬ l < s.lv + 1 by omega]
  refine ⟨h.size, h.defs, fun u => ⟨(h.tm u).rel.mono hex.ext hold, (h.tm u).lvl, fun i j e sz rows cv hp hc => ?_⟩, fun l sl B hB => ?_, fun l sl b hb => ?_, fun l sl hg => ?_, h.fr.trans hfr, fun l sl b hl hb => hex.ext l sl b (h.ext l sl b hl hb), h.lvq, h.g0⟩
  ·refine ((h.tm u).own i j e sz rows cv hp hc).of_block fun g hg hlt hw => ?_
   have hh : hid g := ⟨hlt, u, i, j, _, hw⟩
   exact ⟨hex.fr.blk g hlt (hidq g hh), by rw [hW2a g hh]; exact hw⟩
  ·rw [hg2] at hB
   split at hB
   ·rename_i hl
    have hbx := hex.box l sl B hl hB
    cases B with
    | iter _ _ => exact hbx
    | cells t cs =>
      obtain ⟨b, arr, k1, k2, k3, k4, k5, k6, k7⟩ := hbx
      refine ⟨b, arr, k1, k2, k3, k4, k5, k6, fun j c v hc hv => ⟨(k7 j c v hc hv).1.mono (fun _ _ _ h => h) (fun b o' v hs hc => ⟨hstc b o' hs, hc⟩), fun e sz rows he => ?_⟩⟩
      refine ((k7 j c v hc hv).2 e sz rows he).of_block fun g hg hlt hw => ⟨rfl, ?_⟩
      have hn : ¬ hid g := fun hh => by
       have e := hex.fr.own g hh.1 (hidq g hh)
       have hq := hidq g hh
       rw [← e, hw] at hq
       exact hq
      rw [hW2b g hn]
      unfold relab
      rw [hw]
      rfl
   ·cases hB
  ·obtain ⟨q1, q2⟩ := hex.phi l sl b hb
   have hn : ¬ hid b.1 := fun hh => by
    have e := hex.fr.own b.1 hh.1 (hidq b.1 hh)
    have hq := hidq b.1 hh
    rw [← e, q2] at hq
    exact hq
   rw [hW2b b.1 hn]
   exact relab_box q2
  ·rw [hg2] at hg
   split at hg
   ·rename_i hl
    exact hex.phn l sl hl hg
   ·rename_i hl
    cases hq : φ' l sl with
    | none => rfl
    | some b => exact absurd (hex.phi l sl b hq).1 hl
 have hnh : ∀ g, ¬ (W' g).quiet → ¬ hid g := fun g hq hh => by
  have e := hex.fr.own g hh.1 (hidq g hh)
  have hq2 := hidq g hh
  rw [← e] at hq2
  exact hq hq2
 refine ⟨W2, hrel, hstc, fun g p t hw => ?_, fun g l sl hw => ?_⟩
 ·rw [hW2b g (hnh g (by rw [hw]; exact id))]
  unfold relab
  rw [hw]
 ·rw [hW2b g (hnh g (by rw [hw]; exact id))]
  unfold relab
  rw [hw]
theorem ok_call (hO : CallOk P O.call) {o : Oper} {pure : Bool} {f : X} {f' : Operand} {args : List X} {args' : Array Operand} {ts : Array TypeId} (ho : o.op = .call { callee := .value f', args := args', argTypes := ts }) (hf : OpdOk f f') (hx : OpdsOk args args'.toList)
 (h : Rel w0 W0 s a φ W w) (he : evVal O (.call pure f args) o.dst s = some (av, s')) (hn : ∀ x, o.dst = some x → x < a.tmps.size) {K : Act → World → Prop} {Q : Exit → Act → World → Prop}
 (hK : ∀ (a' : Act) w' φ W, a'.tmps.size = a.tmps.size → Rel w0 W0 (s'.put o.dst av) a' φ W w' → K a' w') : o.wp P a w K Q := by
 simp only [evVal] at he
 have hfv := h.opd hf
 split at he
 ·rename_i g caps hff
  rw [hff] at hfv
  obtain ⟨hfr, hfl⟩ := hfv
  generalize hfe : a.eval f' = fv at hfr
  cases hfr
  rename_i cv hl hv
  obtain ⟨ha1, ha2⟩ := args_get hx hl h hv (by simpa [AV.okP] using hfl)
  split at he
  ·split at he
   case isFalse => cases he
   rename_i hpl
   obtain ⟨⟨rs, low'⟩, hc, hr⟩ := Option.map_eq_some_iff.1 he
   injection hr with e1 e2
   subst e1 e2
   have hent : EntryOk w (fun _ _ => none) (hideAll W) 0 noMem (args.map (fun x => (s.evX x).noOwn) ++ caps.map AV.noOwn) (args'.map a.eval ++ cv) := by
    refine ⟨ha1, fun i c v hc hv' => ?_, (fun l sl B hl => by omega), (fun l sl b hb => by cases hb), (fun l sl hl => by omega), (h.fr.glob h.g0).same (fun b o hs => hideAll_stC.2 hs) (fun b _ => hideAll_quiet W b)⟩
    obtain ⟨q1, q2, q3⟩ := ha2 i c v hc hv'
    have hp : c.okP (fun _ _ => false) = true := okPs_get _ hpl (List.mem_of_getElem? hc)
    exact ⟨q1.move (fun _ _ => false) (fun _ _ _ h => by cases h) (fun b o v hs hc => ⟨hideAll_stC.2 hs, hc⟩) hp, okP_mono (fun _ _ h => by cases h) _ hp, q3⟩
   obtain ⟨⟨fn, f1, f2, f3⟩, hcall⟩ := hO g _ noMem 0 rs low' w _ _ _ hc hent
   unfold Oper.wp
   rw [run_call ho hfe f1 f2 f3]
   show Calls P g _ w _
   refine hcall.mono fun e w' hex => ?_
   obtain ⟨v, φ', W', rfl, hex⟩ := hex
   let W2 : Nat → Own := fun b => if b < w.heap.size then W b else relab (resPos (o.dst.getD 0)) W' b
   have hst : Step w W w' W2 none := by
    refine ⟨⟨hex.fr.os, hex.fr.tape, hex.fr.output, hex.fr.size, fun k hk _ => hex.fr.blk k hk (hideAll_quiet W k)⟩, fun b hb _ => ?_, (fun b hb => by cases hb), (fun b hb => by cases hb)⟩
    show (if b < w.heap.size then W b else _) = _
    rw [if_pos hb]
   have hr := (h.step hst (fun g hg => by cases hg)).clr o.dst
   have hW' : ∀ b, b < w.heap.size → W' b = hideAll W b := fun b hb => hex.fr.own b hb (hideAll_quiet W b)
   have hgood : Good w0 W0 s a o.dst (retAV rs) w' v := by
    refine ⟨φ, W2, hr, fun x hx => ?_⟩
    have hp : (retAV rs).okP (fun _ _ => false) = true := okP_mono (fun l _ h => by simp at h) _ hex.lvl
    refine ⟨hex.rel.move (fun _ _ => false) (fun _ _ _ h => by cases h) (fun b q v hs hc => ⟨?_, hc⟩) hp, okP_mono (fun _ _ h => by cases h) _ hp, fun i j e sz rows cv hp hc => ?_⟩
    ·by_cases hb : b < w.heap.size
     ·unfold stC at hs
      rw [hW' b hb] at hs
      have hs : stC (hideAll W) b q := hs
      have := hideAll_stC.1 hs
      unfold stC at this ⊢
      show (match (if b < w.heap.size then W b else _ : Own) with | .free => True | .lim t => q < t | .row _ t => q < t | .box _ _ => False)
      rw [if_pos hb]
      exact this
     ·have := (relab_stC (f := resPos (o.dst.getD 0))).2 hs
      unfold stC at this ⊢
      show (match (if b < w.heap.size then W b else _ : Own) with | .free => True | .lim t => q < t | .row _ t => q < t | .box _ _ => False)
      rw [if_neg hb]
      exact this
    ·refine (hex.own i j e sz rows cv hp hc).of_block fun g hg hlt hw => ⟨rfl, ?_⟩
     have hb : ¬ g < w.heap.size := fun hb => by
      have := hideAll_quiet W g
      rw [← hW' g hb, hw] at this
      exact this
     show (if g < w.heap.size then W g else _) = _
     rw [if_neg hb]
     unfold relab
     rw [hw, hx]
     rfl
   obtain ⟨φ3, W3, hrel⟩ := hgood.put hn
   exact hK _ w' φ3 W3 (size_put a o.dst v) hrel
  ·obtain ⟨⟨rs, low'⟩, hc, hr⟩ := Option.map_eq_some_iff.1 he
   injection hr with e1 e2
   subst e1 e2
   obtain ⟨hlv, hmono, hphi, hent⟩ := entry_of h ha1 ha2
   obtain ⟨⟨fn, f1, f2, f3⟩, hcall⟩ := hO g _ _ (s.lv + 1) rs low' w _ _ _ hc hent
   unfold Oper.wp
   rw [run_call ho hfe f1 f2 f3]
   show Calls P g _ w _
   refine hcall.mono fun e w' hex => ?_
   obtain ⟨v, φ', W', rfl, hex⟩ := hex
   obtain ⟨W2, hrel, hstc, hrow, hbox⟩ := after_call h hmono hlv hphi hex (o.dst.getD 0)
   have hgood : Good w0 W0 (s.after low') a o.dst (retAV rs) w' v := by
    refine ⟨φ', W2, hrel.clr o.dst, fun x hx => ⟨hex.rel.mono (fun _ _ _ h => h) (fun b o' v hs hc => ⟨hstc b o' hs, hc⟩), okP_mono (fun l sl hp => by show lvOk s.lv l sl = true; rw [hlv l sl]; exact hp) _ hex.lvl, fun i j e sz rows cv hp hc => ?_⟩⟩
    refine (hex.own i j e sz rows cv hp hc).of_block fun g hg hlt hw => ⟨rfl, ?_⟩
    rw [hrow g _ _ hw, hx]
    rfl
   obtain ⟨φ3, W3, hrel3⟩ := hgood.put hn
   exact hK _ w' φ3 W3 (size_put a o.dst v) hrel3
 ·cases he
def adP (lv sl lv' d : Nat) : Pos → Pos
 | .box l s j => if l = lv ∧ s = sl then .box lv' d j else .box l s j
 | p => p
def adW (lv sl lv' d : Nat) (W : Nat → Own) : Nat → Own := fun b =>
 match W b with
 | .box l s => if l = lv ∧ s = sl then .box lv' d else .box l s
 | .row p t => .row (adP lv sl lv' d p) t
 | o => o
theorem adW_stC {lv sl lv' d : Nat} {b o : Nat} : stC (adW lv sl lv' d W) b o ↔ stC W b o := by
 unfold stC adW
 cases W b with
 | box l s => simp only; split <;> rename_i h <;> (split at h <;> first | exact Iff.rfl | cases h)
 | _ => exact Iff.rfl
theorem adW_quiet {lv sl lv' d b : Nat} (h : (W b).quiet) : adW lv sl lv' d W b = W b := by
 unfold adW
 cases hb : W b <;> simp_all [Own.quiet]
theorem adopt (h : Rel w0 W0 s a φ W w) {lv sl d : Nat} (hlv : s.lv < lv) (hd : s.bx d = none) {b : Blk} {φ' : Nat → Nat → Option Blk} {t : TypeId} {cs : List AV} (hb : φ' lv sl = some b) (hW : W b.1 = .box lv sl) (hsub : ∀ l s b, l < lv → φ' l s = some b → φ l s = some b)
 (hbx : BoxOk w φ' W lv sl (.cells t cs)) (hcs : okPs (fun l _ => decide (l < lv)) cs = true) (hlv1 : lv = s.lv + 1) {o n z : Nat} {v : Value} (hv : VRel w φ' W (.win lv sl o n z) v) :
 ∃ φ2 W2, Rel w0 W0 { s with bx := upd s.bx d (some (.cells t cs)) } a φ2 W2 w ∧ VRel w φ2 W2 (.win s.lv d o n z) v := by
 have hphid : φ s.lv d = none := h.phn s.lv d (by unfold St.get; rw [if_pos rfl]; exact hd)
 let φ2 : Nat → Nat → Option Blk := fun l s' => if l = s.lv ∧ s' = d then some b else φ l s'
 have e0 : φ2 s.lv d = some b := if_pos ⟨rfl, rfl⟩
 have e1 : ∀ l s', ¬ (l = s.lv ∧ s' = d) → φ2 l s' = φ l s' := fun l s' hn => if_neg hn
 have hφ : ∀ l s' b', φ l s' = some b' → φ2 l s' = some b' := fun l s' b' hb' => by
  by_cases hc : l = s.lv ∧ s' = d
  ·obtain ⟨rfl, rfl⟩ := hc
   rw [hphid] at hb'
   cases hb'
  ·rw [e1 _ _ hc]; exact hb'
 have hst : ∀ b o v, stC W b o → w.cell? ⟨b, o, none⟩ = some v → stC (adW lv sl s.lv d W) b o ∧ w.cell? ⟨b, o, none⟩ = some v := fun b o v hs hc => ⟨adW_stC.2 hs, hc⟩
 have hmono : ∀ {av v}, VRel w φ W av v → VRel w φ2 (adW lv sl s.lv d W) av v := fun hr => hr.mono hφ hst
 have hown : ∀ {p : Pos} {e : TypeId} {sz : Nat} {rows : List (List AV)} {cv : Value}, OwnOk w W p e sz rows cv → OwnOk w (adW lv sl s.lv d W) (adP lv sl s.lv d p) e sz rows cv := fun hr => by
  obtain ⟨xs, q1, q2⟩ := hr
  exact ⟨xs, q1, fun g hg => by unfold adW; rw [q2 g hg]⟩
 have hle : ∀ l s' B, s.get l s' = some B → l ≤ s.lv := fun l s' B hB => by
  unfold St.get at hB
  split at hB
  ·omega
  ·split at hB
   ·omega
   ·cases hB
 have hbxs : ∀ l s' B, l ≠ lv → BoxOk w φ W l s' B → BoxOk w φ2 (adW lv sl s.lv d W) l s' B := fun l s' B hl hB => by
  cases B with
  | iter _ _ =>
    obtain ⟨b, k1, k2⟩ := hB
    exact ⟨b, hφ _ _ _ k1, k2⟩
  | cells t cs =>
    obtain ⟨b, arr, k1, k2, k3, k4, k5, k6, k7⟩ := hB
    refine ⟨b, arr, hφ _ _ _ k1, k2, k3, k4, k5, k6, fun j c v hc hv => ⟨hmono (k7 j c v hc hv).1, fun e sz rows he => ?_⟩⟩
    have := hown ((k7 j c v hc hv).2 e sz rows he)
    simpa [adP, hl] using this
 refine ⟨φ2, adW lv sl s.lv d W, ⟨h.size, h.defs, fun u => ⟨hmono (h.tm u).rel, (h.tm u).lvl, fun i j e sz rows cv hp hc => ?_⟩, fun l s' B hB => ?_, fun l s' b' hb' => ?_, fun l s' hg => ?_, ?_, fun l s' b' hl hb' => hφ _ _ _ (h.ext l s' b' hl hb'), h.lvq, h.g0⟩, ?_⟩
 ·exact hown ((h.tm u).own i j e sz rows cv hp hc)
 ·by_cases hc : l = s.lv ∧ s' = d
  ·obtain ⟨rfl, rfl⟩ := hc
   have : B = .cells t cs := by
    unfold St.get at hB
    rw [if_pos rfl] at hB
    simp only [upd, if_true] at hB
    injection hB with hB
    exact hB.symm
   subst this
   obtain ⟨b', arr, k1, k2, k3, k4, k5, k6, k7⟩ := hbx
   rw [hb] at k1
   injection k1 with k1
   subst k1
   refine ⟨b, arr, e0, k2, k3, okPs_mono (fun l sl hp => ?_) _ hcs, k5, k6, fun j c v hc hv => ⟨?_, fun e sz rows he => ?_⟩⟩
   ·simp only [decide_eq_true_eq] at hp
    simp only [lvOk, decide_eq_true_eq]
    omega
   ·refine (k7 j c v hc hv).1.move (fun l _ => decide (l < lv)) (fun l s' b' hl hb' => ?_) hst (okPs_get _ hcs (List.mem_of_getElem? hc))
    exact hφ _ _ _ (hsub l s' b' (by simpa using hl) hb')
   ·have := hown ((k7 j c v hc hv).2 e sz rows he)
    simpa [adP] using this
  ·have hB' : s.get l s' = some B := by
    unfold St.get at hB ⊢
    simp only at hB
    split
    ·rename_i hl
     rw [if_pos hl] at hB
     unfold upd at hB
     rw [if_neg (fun e => hc ⟨hl, e⟩)] at hB
     exact hB
    ·rename_i hl
     rw [if_neg hl] at hB
     exact hB
   have hl := hle l s' B hB'
   exact hbxs l s' B (by omega) (h.box l s' B hB')
 ·by_cases hc : l = s.lv ∧ s' = d
  ·obtain ⟨rfl, rfl⟩ := hc
   rw [e0] at hb'
   injection hb' with hb'
   subst hb'
   unfold adW
   rw [hW]
   simp
  ·rw [e1 _ _ hc] at hb'
   have hl : l ≤ s.lv := by
    cases hg : s.get l s' with
    | none => rw [h.phn l s' hg] at hb'; cases hb'
    | some B => exact hle l s' B hg
   unfold adW
   rw [h.phi l s' b' hb']
   simp only
   rw [if_neg (by omega)]
 ·have hc : ¬ (l = s.lv ∧ s' = d) := fun hc => by
   obtain ⟨rfl, rfl⟩ := hc
   unfold St.get at hg
   simp [upd] at hg
  rw [e1 _ _ hc]
  refine h.phn l s' ?_
  unfold St.get at hg ⊢
  simp only at hg
  split
  ·rename_i hl
   rw [if_pos hl] at hg
   unfold upd at hg
   rw [if_neg (fun e => hc ⟨hl, e⟩)] at hg
   exact hg
  ·rename_i hl
   rw [if_neg hl] at hg
   exact hg
 ·exact { h.fr with own := fun b hb hf => by have e := h.fr.own b hb hf; rw [adW_quiet (by rw [e]; exact hf), e], st := fun b o hb hs => adW_stC.2 (h.fr.st b o hb hs) }
 ·cases hv with
  | win _ _ _ _ _ cap b' hb' hn hcap hm hk =>
    rw [hb] at hb'
    injection hb' with hb'
    subst hb'
    exact .win _ _ _ _ _ cap b e0 hn hcap hm hk
theorem ok_callA (hO : CarryOk P O.carry) {o : Oper} {f : X} {f' : Operand} {args : List X} {args' : Array Operand} {ts : Array TypeId} (ho : o.op = .call { callee := .value f', args := args', argTypes := ts }) (hf : OpdOk f f') (hx : OpdsOk args args'.toList)
 (h : Rel w0 W0 s a φ W w) (he : evVal O (.callA f args) o.dst s = some (av, s')) (hn : ∀ x, o.dst = some x → x < a.tmps.size) {K : Act → World → Prop} {Q : Exit → Act → World → Prop}
 (hK : ∀ (a' : Act) w' φ W, a'.tmps.size = a.tmps.size → Rel w0 W0 (s'.put o.dst av) a' φ W w' → K a' w') : o.wp P a w K Q := by
 simp only [evVal] at he
 have hfv := h.opd hf
 split at he
 case h_2 => cases he
 rename_i g caps dd hff hdd
 rw [hff] at hfv
 obtain ⟨hfr, hfl⟩ := hfv
 generalize hfe : a.eval f' = fv at hfr
 cases hfr
 rename_i cv hl hv
 obtain ⟨ha1, ha2⟩ := args_get hx hl h hv (by simpa [AV.okP] using hfl)
 obtain ⟨hlv, hmono, hphi, hent⟩ := entry_of h ha1 ha2
 split at he
 case h_3 => cases he
 case h_2 =>
  rename_i oo n z low' hc
  injection he with he
  injection he with e1 e2
  subst e1 e2
  obtain ⟨⟨fn, f1, f2, f3⟩, hcall⟩ := hO g _ _ (s.lv + 1) none oo n z low' w _ _ _ hc hent
  unfold Oper.wp
  rw [run_call ho hfe f1 f2 f3]
  show Calls P g _ w _
  refine hcall.mono fun e w' hex => ?_
  obtain ⟨v, φ', W', rfl, hex⟩ := hex
  have hex : ExitOk w φ (hide W) (s.lv + 1) low' [.sl none z []] v w' φ' W' := hex
  obtain ⟨W2, hrel, hstc, hrow, hbox⟩ := after_call h hmono hlv hphi hex 0
  have hgood : Good w0 W0 (s.after low') a o.dst (.sl none z []) w' v :=
   ⟨φ', W2, hrel.clr o.dst, fun y hy => .of_noFlag (hex.rel.mono (fun _ _ _ h => h) (fun b o' v hs hc => ⟨hstc b o' hs, hc⟩)) rfl (sl_noFlag _ _)⟩
  obtain ⟨φ4, W4, hrel4⟩ := hgood.put hn
  exact hK _ w' φ4 W4 (size_put a o.dst v) hrel4
 rename_i B oo n z low' hc
 split at he
 case isFalse => cases he
 rename_i hnone
 injection he with he
 injection he with e1 e2
 subst e1 e2
 obtain ⟨⟨fn, f1, f2, f3⟩, hcall⟩ := hO g _ _ (s.lv + 1) (some B) oo n z low' w _ _ _ hc hent
 unfold Oper.wp
 rw [run_call ho hfe f1 f2 f3]
 show Calls P g _ w _
 refine hcall.mono fun e w' hex => ?_
 obtain ⟨v, φ', W', rfl, sl, hex⟩ := hex
 let φ1 : Nat → Nat → Option Blk := fun l s' => if l < s.lv + 1 then φ' l s' else none
 have h1 : ∀ l s' b, decide (l < s.lv + 1) = true → φ' l s' = some b → φ1 l s' = some b := fun l s' b hl hb => by
  show (if l < s.lv + 1 then φ' l s' else none) = _
  rw [if_pos (by simpa using hl)]
  exact hb
 have hex1 : ExitOk w φ (hide W) (s.lv + 1) low' [.undef] undef w' φ1 W' := by
  refine ⟨hex.fr, .undef _, rfl, .of_noFlag (by intro i j e sz rows; simp [retAV, AV.part, AV.part1]), fun l sl B hl hB => ?_, fun l s' b hb => ?_, fun l s' hl hn => ?_, fun l s' b hb => h1 l s' b (by simpa using hex.old l s' b hb) (hex.ext l s' b hb)⟩
  ·have hbx := hex.box l sl B hl hB
   cases B with
   | iter _ _ =>
     obtain ⟨b, k1, k2⟩ := hbx
     exact ⟨b, h1 _ _ _ (by simpa using hl) k1, k2⟩
   | cells t cs =>
     obtain ⟨b, arr, k1, k2, k3, k4, k5, k6, k7⟩ := hbx
     refine ⟨b, arr, h1 _ _ _ (by simpa using hl) k1, k2, k3, k4, k5, k6, fun j c v hc hv => ⟨(k7 j c v hc hv).1.move _ h1 (fun _ _ _ a b => ⟨a, b⟩) (okP_mono (fun l' _ hp => ?_) _ (okPs_get _ k4 (List.mem_of_getElem? hc))), (k7 j c v hc hv).2⟩⟩
     simp only [lvOk, decide_eq_true_eq] at hp ⊢
     omega
  ·have hb : (if l < s.lv + 1 then φ' l s' else none) = some b := hb
   split at hb
   ·rename_i hl
    exact ⟨hl, (hex.phi l s' b hb).2⟩
   ·cases hb
  ·show (if l < s.lv + 1 then φ' l s' else none) = none
   rw [if_pos hl]
   exact hex.phn l s' hl hn
 obtain ⟨W2, hrel, hstc, hrow, hbox⟩ := after_call h hmono hlv hphi hex1 0
 have hbx := hex.cell
 obtain ⟨t, cs, rfl⟩ := hex.isc
 have hcs := hex.cellv t cs rfl
 obtain ⟨b, arr, k1, k2, k3, k4, k5, k6, k7⟩ := hbx
 have hst : ∀ b o' v, stC W' b o' → w'.cell? ⟨b, o', none⟩ = some v → stC W2 b o' ∧ w'.cell? ⟨b, o', none⟩ = some v := fun b o' v hs hc => ⟨hstc b o' hs, hc⟩
 have hbx2 : BoxOk w' φ' W2 (s.lv + 1) sl (.cells t cs) := by
  refine ⟨b, arr, k1, k2, k3, k4, k5, k6, fun j c v hc hv => ⟨(k7 j c v hc hv).1.mono (fun _ _ _ h => h) hst, fun e sz rows he => ?_⟩⟩
  exact ((k7 j c v hc hv).2 e sz rows he).of_block fun g hg hlt hw => ⟨rfl, hrow g _ _ hw⟩
 obtain ⟨φ3, W3, hrel3, hv3⟩ := adopt hrel (lv := s.lv + 1) (sl := sl) (d := dd) (Nat.lt_succ_self _) (show low' s.lv dd = none by simpa using hnone) k1 (hbox _ _ _ (hex.phi _ _ _ k1).2) (fun l s' b hl hb => h1 l s' b (by simpa using hl) hb) hbx2 hcs rfl (hex.rel.mono (fun _ _ _ h => h) hst)
 have hgood : Good w0 W0 { s.after low' with bx := upd (low' s.lv) dd (some (.cells t cs)) } a o.dst (.win s.lv dd oo n z) w' v :=
  ⟨φ3, W3, hrel3.clr o.dst, fun y hy => .of_noFlag hv3 (by simp [AV.okP, lvOk, St.after]) (one_noFlag rfl (fun _ _ _ h => by cases h))⟩
 obtain ⟨φ4, W4, hrel4⟩ := hgood.put hn
 exact hK _ w' φ4 W4 (size_put a o.dst v) hrel4
end
end Go.Ev
