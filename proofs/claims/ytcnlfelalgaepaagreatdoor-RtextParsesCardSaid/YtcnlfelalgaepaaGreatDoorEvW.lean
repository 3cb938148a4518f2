/- A call that sees nothing of the caller's own variables leaves them as they are. Condition: named in each. -/
import Derived.Test.YtcnlfelalgaepaaGreatDoorEvC
namespace Go.Ev
set_option linter.all false
def atLv (lv : Nat) : Own → Bool
 | .box l _ => decide (l = lv)
 | .row (.box l _ _) _ => decide (l = lv)
 | _ => false
def hidO (lv : Nat) (o : Own) : Own :=
 match o with
 | .box l s => if l = lv then .lim 0 else .box l s
 | .row (.box l s j) t => if l = lv then .lim t else .row (.box l s j) t
 | o => o
def hidW (lv : Nat) (W : Nat → Own) : Nat → Own := fun b => hidO lv (W b)
theorem hidO_stC {lv : Nat} {o : Own} {k : Nat} : (match hidO lv o with | .free => True | .lim t => k < t | .row _ t => k < t | .box _ _ => False) ↔ (match o with | .free => True | .lim t => k < t | .row _ t => k < t | .box _ _ => False) := by
 cases o with
 | free => exact Iff.rfl
 | lim t => exact Iff.rfl
 | box l s =>
   unfold hidO
   simp only
   by_cases h : l = lv
   ·rw [if_pos h]; simp
   ·rw [if_neg h]
 | row p t =>
   cases p with
   | tmp a b c => exact Iff.rfl
   | box l s j =>
     unfold hidO
     simp only
     by_cases h : l = lv
     ·rw [if_pos h]
     ·rw [if_neg h]
theorem hidW_stC {lv : Nat} {W : Nat → Own} {b o : Nat} : stC (hidW lv W) b o ↔ stC W b o := hidO_stC
theorem hidW_not {lv : Nat} {W : Nat → Own} {b : Nat} (h : atLv lv (W b) = false) : hidW lv W b = W b := by
 unfold hidW hidO
 unfold atLv at h
 cases hw : W b with
 | free => rfl
 | lim t => rfl
 | box l s => rw [hw] at h; simp at h; simp [h]
 | row p t =>
   cases p with
   | tmp a b c => rfl
   | box l s j => rw [hw] at h; simp at h; simp [h]
theorem hidW_at {lv : Nat} {W : Nat → Own} {b : Nat} (h : atLv lv (W b) = true) : (hidW lv W b).quiet := by
 unfold hidW hidO
 unfold atLv at h
 cases hw : W b with
 | free => trivial
 | lim t => trivial
 | box l s => rw [hw] at h; simp at h; simp [h, Own.quiet]
 | row p t =>
   cases p with
   | tmp a b c => rw [hw] at h; cases h
   | box l s j => rw [hw] at h; simp at h; simp [h, Own.quiet]
theorem quiet_at {lv : Nat} {o : Own} (h : o.quiet) : atLv lv o = false := by
 cases o <;> first | rfl | exact h.elim
section
variable {P : Program} {C : FuncId → List AV → Mem → Nat → Option (List AV × Mem)} {g : FuncId} {vs rs : List AV} {low low' : Mem} {w : World} {φ : Nat → Nat → Option Blk} {W : Nat → Own} {cargs : Array Value} {lv : Nat}
def hidPhi (lv : Nat) (φ : Nat → Nat → Option Blk) : Nat → Nat → Option Blk := fun l s => if l = lv then none else φ l s
theorem hid_entry (ent : EntryOk w φ W (lv + 1) low vs cargs) (hv : okPs (fun l _ => decide (l ≠ lv)) vs = true) : EntryOk w (hidPhi lv φ) (hidW lv W) (lv + 1) (hidMem lv low) vs cargs where
 len := ent.len
 arg i c v hc hv' := by
  obtain ⟨q1, q2, q3⟩ := ent.arg i c v hc hv'
  refine ⟨q1.move (fun l _ => decide (l ≠ lv)) (fun l s b hp hb => ?_) (fun b o v hs hc => ⟨hidW_stC.2 hs, hc⟩) (okPs_get _ hv (List.mem_of_getElem? hc)), q2, q3⟩
  unfold hidPhi
  rw [if_neg (of_decide_eq_true hp)]
  exact hb
 box l sl B hl hB := by
  unfold hidMem at hB
  by_cases hll : l = lv
  ·rw [if_pos hll] at hB; cases hB
  rw [if_neg hll] at hB
  have hbx := ent.box l sl B hl hB
  have hp : hidPhi lv φ l sl = φ l sl := if_neg hll
  cases B with
  | iter s pos =>
    obtain ⟨b, k1, k2⟩ := hbx
    exact ⟨b, hp.trans k1, k2⟩
  | cells t cs =>
    obtain ⟨b, arr, k1, k2, k3, k4, k5, k6, k7⟩ := hbx
    refine ⟨b, arr, hp.trans k1, k2, k3, k4, k5, k6, fun j c v hc hv => ⟨?_, fun e sz rows he => ?_⟩⟩
    ·refine (k7 j c v hc hv).1.move (lvOk l) (fun l' s' b' hp' hb' => ?_) (fun b o v hs hc => ⟨hidW_stC.2 hs, hc⟩) (okPs_get _ k4 (List.mem_of_getElem? hc))
     have : l' ≤ l := of_decide_eq_true hp'
     unfold hidPhi
     rw [if_neg (by omega)]
     exact hb'
    ·refine ((k7 j c v hc hv).2 e sz rows he).of_block fun g hg hlt hw => ⟨rfl, ?_⟩
     rw [hidW_not (by rw [hw]; simp [atLv, hll]), hw]
 phi l sl b hb := by
  unfold hidPhi at hb
  by_cases hll : l = lv
  ·rw [if_pos hll] at hb; cases hb
  rw [if_neg hll] at hb
  obtain ⟨h1, h2⟩ := ent.phi l sl b hb
  exact ⟨h1, by rw [hidW_not (by rw [h2]; simp [atLv, hll]), h2]⟩
 phn l sl hl hg := by
  unfold hidPhi
  by_cases hll : l = lv
  ·rw [if_pos hll]
  ·unfold hidMem at hg
   rw [if_neg hll] at hg ⊢
   exact ent.phn l sl hl hg
 gl := ent.gl.same (fun b o hs => hidW_stC.2 hs) (fun b hq => by rw [hidW_not (quiet_at hq)]; exact hq)
theorem hid_exit (ent : EntryOk w φ W (lv + 1) low vs cargs) {v : Value} {w' : World} {φ' : Nat → Nat → Option Blk} {W' : Nat → Own} (hex : ExitOk w (hidPhi lv φ) (hidW lv W) (lv + 1) low' rs v w' φ' W') (hr : (retAV rs).okP (fun l _ => decide (l ≠ lv)) = true) :
 ∃ φ2 W2, ExitOk w φ W (lv + 1) (backMem lv low low') rs v w' φ2 W2 := by
 let W2 : Nat → Own := fun b => if b < w.heap.size ∧ atLv lv (W b) = true then W b else W' b
 let φ2 : Nat → Nat → Option Blk := fun l s => if l = lv then φ lv s else φ' l s
 have hb : ∀ b, b < w.heap.size → atLv lv (W b) = true → w'.heap[b]? = w.heap[b]? ∧ W2 b = W b ∧ W' b = hidW lv W b := fun b h1 h2 => ⟨hex.fr.blk b h1 (hidW_at h2), if_pos ⟨h1, h2⟩, hex.fr.own b h1 (hidW_at h2)⟩
 have hn : ∀ b, ¬ (b < w.heap.size ∧ atLv lv (W b) = true) → W2 b = W' b := fun b h => if_neg h
 have hst : ∀ b o, stC W' b o → stC W2 b o := fun b o hs => by
  by_cases h : b < w.heap.size ∧ atLv lv (W b) = true
  ·obtain ⟨_, h2, h3⟩ := hb b h.1 h.2
   have : stC (hidW lv W) b o := by unfold stC at hs ⊢; rw [← h3]; exact hs
   have := hidW_stC.1 this
   unfold stC at this ⊢
   rw [h2]
   exact this
  ·unfold stC at hs ⊢
   rw [hn b h]
   exact hs
 have hnot : ∀ b p t, W' b = .row p t → W2 b = W' b := fun b p t hw => by
  refine hn b fun h => ?_
  have := hidW_at h.2
  rw [← (hb b h.1 h.2).2.2, hw] at this
  exact this
 have hnotb : ∀ b l s, W' b = .box l s → W2 b = W' b := fun b l s hw => by
  refine hn b fun h => ?_
  have := hidW_at h.2
  rw [← (hb b h.1 h.2).2.2, hw] at this
  exact this
 have hfr : Fr w W w' W2 := by
  refine ⟨hex.fr.os, hex.fr.tape, hex.fr.output, hex.fr.size, fun b o v h1 hs hc => hex.fr.cell b o v h1 (hidW_stC.2 hs) hc, fun b h1 hq => ?_, fun b h1 hq => ?_, fun b o h1 hs => hst b o (hex.fr.st b o h1 (hidW_stC.2 hs))⟩
  ·exact hex.fr.blk b h1 (by rw [hidW_not (quiet_at hq)]; exact hq)
  ·have hq' : (hidW lv W b).quiet := by rw [hidW_not (quiet_at hq)]; exact hq
   rw [hn b (fun h => by rw [quiet_at hq] at h; cases h.2), hex.fr.own b h1 hq', hidW_not (quiet_at hq)]
 have hmv : ∀ {av u}, VRel w φ W av u → VRel w' φ2 W2 av u := fun h => h.mono (fun l s b hp => by
  show (if l = lv then φ lv s else φ' l s) = some b
  by_cases hl : l = lv
  ·rw [if_pos hl, ← hl]; exact hp
  ·rw [if_neg hl]
   exact hex.ext l s b (by unfold hidPhi; rw [if_neg hl]; exact hp)) (fun b o u hs hc => ⟨hfr.st b o (World.block_lt_of_cell? w ⟨b, o, none⟩ hc) hs, hfr.cell b o u (World.block_lt_of_cell? w ⟨b, o, none⟩ hc) hs hc⟩)
 have hown : ∀ {s : Nat} {b : Blk}, φ lv s = some b → ∃ B, low lv s = some B ∧ b.1 < w.heap.size ∧ W b.1 = .box lv s := fun {s b} hp => by
  have hw := (ent.phi lv s b hp).2
  cases hB : low lv s with
  | none => rw [ent.phn lv s (Nat.lt_succ_self _) hB] at hp; cases hp
  | some B =>
    refine ⟨B, rfl, ?_, hw⟩
    have hbx := ent.box lv s B (Nat.lt_succ_self _) hB
    cases B with
    | iter s' pos =>
      obtain ⟨b', k1, k2⟩ := hbx
      rw [k1] at hp
      cases hp
      exact (Array.getElem?_eq_some_iff.1 k2).1
    | cells t cs =>
      obtain ⟨b', arr, k1, k2, _⟩ := hbx
      rw [k1] at hp
      cases hp
      exact (Array.getElem?_eq_some_iff.1 k2).1
 refine ⟨φ2, W2, ⟨hfr, ?_, hex.lvl, ?_, fun l sl B hl hB => ?_, fun l sl b hp => ?_, fun l sl hl hg => ?_, fun l sl b hp => ?_⟩⟩
 ·refine hex.rel.move (fun l _ => decide (l ≠ lv)) (fun l s b hp hb => ?_) (fun b o u hs hc => ⟨hst b o hs, hc⟩) hr
  show (if l = lv then φ lv s else φ' l s) = some b
  rw [if_neg (of_decide_eq_true hp)]
  exact hb
 ·intro i j e sz rows cv hp hc
  exact (hex.own i j e sz rows cv hp hc).of_block fun g hg hlt hw => ⟨rfl, by rw [hnot g _ _ hw, hw]⟩
 ·unfold backMem at hB
  by_cases hll : l = lv
  ·rw [if_pos hll] at hB
   subst hll
   have hp2 : φ2 l sl = φ l sl := if_pos rfl
   have hbx := ent.box l sl B (Nat.lt_succ_self _) hB
   cases B with
   | iter s pos =>
     obtain ⟨b, k1, k2⟩ := hbx
     obtain ⟨_, _, h1, h2⟩ := hown k1
     exact ⟨b, hp2.trans k1, (hb b.1 h1 (by rw [h2]; simp [atLv])).1.trans k2⟩
   | cells t cs =>
     obtain ⟨b, arr, k1, k2, k3, k4, k5, k6, k7⟩ := hbx
     obtain ⟨_, _, h1, h2⟩ := hown k1
     refine ⟨b, arr, hp2.trans k1, (hb b.1 h1 (by rw [h2]; simp [atLv])).1.trans k2, k3, k4, k5, k6, fun j c v hc hv => ⟨hmv (k7 j c v hc hv).1, fun e sz rows he => ?_⟩⟩
     refine ((k7 j c v hc hv).2 e sz rows he).of_block fun g hg hlt hw => ?_
     have ha : atLv l (W g) = true := by rw [hw]; simp [atLv]
     exact ⟨(hb g hlt ha).1, by rw [(hb g hlt ha).2.1, hw]⟩
  ·rw [if_neg hll] at hB
   have hp2 : φ2 l sl = φ' l sl := if_neg hll
   have hbx := hex.box l sl B hl hB
   cases B with
   | iter s pos =>
     obtain ⟨b, k1, k2⟩ := hbx
     exact ⟨b, hp2.trans k1, k2⟩
   | cells t cs =>
     obtain ⟨b, arr, k1, k2, k3, k4, k5, k6, k7⟩ := hbx
     refine ⟨b, arr, hp2.trans k1, k2, k3, k4, k5, k6, fun j c v hc hv => ⟨?_, fun e sz rows he => ?_⟩⟩
     ·refine (k7 j c v hc hv).1.move (lvOk l) (fun l' s' b' hp' hb' => ?_) (fun b o v hs hc => ⟨hst b o hs, hc⟩) (okPs_get _ k4 (List.mem_of_getElem? hc))
      have : l' ≤ l := of_decide_eq_true hp'
      show (if l' = lv then φ lv s' else φ' l' s') = some b'
      rw [if_neg (by omega)]
      exact hb'
     ·exact ((k7 j c v hc hv).2 e sz rows he).of_block fun g hg hlt hw => ⟨rfl, by rw [hnot g _ _ hw, hw]⟩
 ·have hp : (if l = lv then φ lv sl else φ' l sl) = some b := hp
  by_cases hll : l = lv
  ·rw [if_pos hll] at hp
   subst hll
   obtain ⟨_, _, h1, h2⟩ := hown hp
   exact ⟨Nat.lt_succ_self _, by rw [(hb b.1 h1 (by rw [h2]; simp [atLv])).2.1, h2]⟩
  ·rw [if_neg hll] at hp
   obtain ⟨h1, h2⟩ := hex.phi l sl b hp
   exact ⟨h1, by rw [hnotb _ _ _ h2, h2]⟩
 ·unfold backMem at hg
  show (if l = lv then φ lv sl else φ' l sl) = none
  by_cases hll : l = lv
  ·rw [if_pos hll] at hg ⊢
   exact ent.phn lv sl (Nat.lt_succ_self _) hg
  ·rw [if_neg hll] at hg ⊢
   exact hex.phn l sl hl hg
 ·show (if l = lv then φ lv sl else φ' l sl) = some b
  by_cases hll : l = lv
  ·rw [if_pos hll, ← hll]; exact hp
  ·rw [if_neg hll]
   exact hex.ext l sl b (by unfold hidPhi; rw [if_neg hll]; exact hp)
theorem hid_call (hO : CallOk P C) (hc : C g vs (hidMem lv low) (lv + 1) = some (rs, low')) (ent : EntryOk w φ W (lv + 1) low vs cargs) (hv : okPs (fun l _ => decide (l ≠ lv)) vs = true) (hr : (retAV rs).okP (fun l _ => decide (l ≠ lv)) = true) :
 (∃ fn, P.funcs[g]? = some fn ∧ fn.body.isNone = false ∧ (fn.name == "runtime.NumGoroutine") = false) ∧
 Calls P g cargs w fun e w' => ∃ v φ' W', e = .returned v ∧ ExitOk w φ W (lv + 1) (backMem lv low low') rs v w' φ' W' := by
 obtain ⟨h1, h2⟩ := hO g vs (hidMem lv low) (lv + 1) rs low' w _ _ cargs hc (hid_entry ent hv)
 refine ⟨h1, h2.mono fun e w' hex => ?_⟩
 obtain ⟨v, φ', W', he, hex⟩ := hex
 obtain ⟨φ2, W2, h⟩ := hid_exit ent hex hr
 exact ⟨v, φ2, W2, he, h⟩
end
section
variable {w0 w : World} {W0 : Base} {W : Nat → Own} {φ : Nat → Nat → Option Blk} {s s' : St} {a : Act} {P : Program} {O : Orc} {av : AV}
theorem ok_callH (hO : CallOk P O.call) {o : Oper} {f : X} {f' : Operand} {args : List X} {args' : Array Operand} {ts : Array TypeId} (ho : o.op = .call { callee := .value f', args := args', argTypes := ts }) (hf : OpdOk f f') (hx : OpdsOk args args'.toList)
 (h : Rel w0 W0 s a φ W w) (he : evVal O (.callH f args) o.dst s = some (av, s')) (hn : ∀ x, o.dst = some x → x < a.tmps.size) {K : Act → World → Prop} {Q : Exit → Act → World → Prop}
 (hK : ∀ (a' : Act) w' φ W, a'.tmps.size = a.tmps.size → Rel w0 W0 (s'.put o.dst av) a' φ W w' → K a' w') : o.wp P a w K Q := by
 simp only [evVal] at he
 have hfv := h.opd hf
 split at he
 ·rename_i g caps hff
  rw [hff] at hfv
  obtain ⟨hfr, hfl⟩ := hfv
  generalize hfe : a.eval f' = fv at hfr
  cases hfr
  rename_i cv hl hv
  obtain ⟨ha1, ha2⟩ := args_get hx hl h hv (by simpa [AV.okP] using hfl)
  obtain ⟨hlv, hmono, hphi, hent⟩ := entry_of h ha1 ha2
  split at he
  case isFalse => cases he
  rename_i hvs
  split at he
  case h_2 => cases he
  rename_i rs low' hc
  split at he
  case isFalse => cases he
  rename_i hrs
  injection he with he
  injection he with e1 e2
  subst e1 e2
  obtain ⟨⟨fn, f1, f2, f3⟩, hcall⟩ := hid_call hO hc hent hvs hrs
  have hsa : ({ s with low := fun l => if l < s.lv then low' l else s.low l } : St) = s.after (backMem s.lv s.mem low') := by
   unfold St.after backMem
   congr 1
   ·show s.bx = (if s.lv = s.lv then s.mem s.lv else low' s.lv)
    rw [if_pos rfl]
    unfold St.mem
    rw [if_pos rfl]
   ·funext l
    by_cases hl : l < s.lv
    ·rw [if_pos hl, if_pos hl, if_neg (by omega)]
    ·rw [if_neg hl, if_neg hl]
  rw [hsa] at hK
  unfold Oper.wp
  rw [run_call ho hfe f1 f2 f3]
  show Calls P g _ w _
  refine hcall.mono fun e w' hex => ?_
  obtain ⟨v, φ', W', rfl, hex⟩ := hex
  obtain ⟨W2, hrel, hstc, hrow, hbox⟩ := after_call h hmono hlv hphi hex (o.dst.getD 0)
  have hgood : Good w0 W0 (s.after (backMem s.lv s.mem low')) a o.dst (retAV rs) w' v := by
   refine ⟨φ', W2, hrel.clr o.dst, fun x hx => ⟨hex.rel.mono (fun _ _ _ h => h) (fun b o' v hs hc => ⟨hstc b o' hs, hc⟩), okP_mono (fun l sl hp => by show lvOk s.lv l sl = true; rw [hlv l sl]; exact hp) _ hex.lvl, fun i j e sz rows cv hp hc => ?_⟩⟩
   refine (hex.own i j e sz rows cv hp hc).of_block fun g hg hlt hw => ⟨rfl, ?_⟩
   rw [hrow g _ _ hw, hx]
   rfl
  obtain ⟨φ3, W3, hrel3⟩ := hgood.put hn
  exact hK _ w' φ3 W3 (size_put a o.dst v) hrel3
 ·cases he
end
end Go.Ev
