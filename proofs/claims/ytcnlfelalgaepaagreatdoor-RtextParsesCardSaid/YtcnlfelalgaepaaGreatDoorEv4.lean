/- The operations one by one: values alone. Condition: none. -/
import Derived.Test.YtcnlfelalgaepaaGreatDoorEv3
namespace Go.Ev
set_option linter.all false
open Go.RowKit
def isAggDesc : TypeDesc → Bool
 | .struct _ | .array _ _ => true
 | _ => false
def AggOk (P : Program) (t : TypeId) (agg : Option Nat) : Prop :=
 ∃ d, P.underlying t = some d ∧ isAggDesc d = agg.isSome ∧ ∀ n, agg = some n → ∃ i, P.info? t = some i ∧ i.size = n
def ZeroOk (P : Program) (t : TypeId) (cs : List AV) : Prop :=
 ∃ i z, P.info? t = some i ∧ i.zero = some z ∧ z.cells.size = cs.length ∧ ∀ (j : Nat) c v, cs[j]? = some c → z.cells[j]? = some v → CC c v
section
variable {w0 w w' : World} {W0 : Base} {W W' : Nat → Own} {φ φ' : Nat → Nat → Option Blk} {s s' : St} {a : Act} {P : Program} {O : Orc} {d : Option Nat} {av : AV} {v : Value}
theorem Rel.clr (h : Rel w0 W0 s a φ W w) (d : Option Nat) : Rel w0 W0 (s.put d .undef) a φ W w := by
 cases d with
 | none => exact h
 | some d => exact h.setTm d ⟨.undef _, rfl, .of_noFlag (by intro i j e sz rows; simp [AV.part, AV.part1])⟩
theorem put_put (s : St) (d : Option Nat) (u v : AV) : (s.put d u).put d v = s.put d v := by
 cases d with
 | none => rfl
 | some d =>
   have : upd (upd s.tm d u) d v = upd s.tm d v := by
    funext j
    unfold upd
    split <;> rfl
   simp only [St.put, this]
theorem put_lv (s : St) (d : Option Nat) (u : AV) : (s.put d u).lv = s.lv := by cases d <;> rfl
theorem Good.put (h : Good w0 W0 s' a d av w' v) (hd : ∀ x, d = some x → x < a.tmps.size) : ∃ φ W, Rel w0 W0 (s'.put d av) (a.put d v) φ W w' := by
 obtain ⟨φ, W, h1, h2⟩ := h
 refine ⟨φ, W, ?_⟩
 have := h1.put d (av := av) (v := v) (fun x hx => ⟨by rw [← h1.size]; exact hd x hx, by rw [put_lv]; exact h2 x hx⟩)
 rwa [put_put] at this
theorem good_pure (h : Rel w0 W0 s a φ W w) (hv : VRel w φ W av v) (hl : av.okP (lvOk s.lv) = true) (hf : av.noFlag) : Good w0 W0 s a d av w v :=
 ⟨φ, W, h.clr d, fun _ _ => .of_noFlag hv hl hf⟩
theorem good_noOwn (h : Rel w0 W0 s a φ W w) (hv : VRel w φ W av v) (hl : av.okP (lvOk s.lv) = true) : Good w0 W0 s a d av.noOwn w v :=
 good_pure h hv.noOwn (by rw [okP_noOwn]; exact hl) (noOwn_noFlag av)
theorem Rel.opdGood (h : Rel w0 W0 s a φ W w) {x : X} {o : Operand} (hx : OpdOk x o) : Good w0 W0 (s.use x) a d (s.evX x) w (a.eval o) := by
 obtain ⟨f, h1, h2, _⟩ := h.opdTake hx (Pos.tmp (d.getD 0))
 refine ⟨φ, relab f W, h1.clr d, fun y hy => ?_⟩
 subst hy
 have e : (s.use x).lv = s.lv := by cases x <;> rfl
 rw [e]
 exact h2
theorem wp_value {o : Oper} {K : Act → World → Prop} {Q : Exit → Act → World → Prop} (hr : (execOp a.eval o).run P w = .ok (.value v) w') (h : K (a.put o.dst v) w') : o.wp P a w K Q := by
 unfold Oper.wp; rw [hr]; exact h
theorem wp_skip' {o : Oper} {K : Act → World → Prop} {Q : Exit → Act → World → Prop} (hr : (execOp a.eval o).run P w = .ok .skip w') (h : K (a.put o.dst undef) w') : o.wp P a w K Q := by
 unfold Oper.wp; rw [hr]; exact h
theorem size_put (a : Act) (d : Option Tmp) (v : Value) : (a.put d v).tmps.size = a.tmps.size := by cases d <;> simp [Act.put]
def Comes' (P : Program) (w0 : World) (W0 : Base) (s' : St) (a : Act) (o : Oper) (av : AV) (w : World) : Prop :=
 ∃ v w', ((execOp a.eval o).run P w = .ok (.value v) w' ∨ (execOp a.eval o).run P w = .ok .skip w' ∧ v = undef) ∧ Good w0 W0 s' a o.dst av w' v
theorem Comes'.wp {o : Oper} {K : Act → World → Prop} {Q : Exit → Act → World → Prop} (h : Comes' P w0 W0 s' a o av w) (hn : ∀ x, o.dst = some x → x < a.tmps.size)
 (hK : ∀ (a' : Act) w' φ W, a'.tmps.size = a.tmps.size → Rel w0 W0 (s'.put o.dst av) a' φ W w' → K a' w') : o.wp P a w K Q := by
 obtain ⟨v, w', hr, hg⟩ := h
 obtain ⟨φ, W, hrel⟩ := hg.put hn
 rcases hr with hr | ⟨hr, rfl⟩
 ·exact wp_value hr (hK _ _ _ _ (size_put a o.dst v) hrel)
 ·exact wp_skip' hr (hK _ _ _ _ (size_put a o.dst undef) hrel)
theorem one_noFlag {c : AV} (h1 : c.one = true) (h : ∀ own sz rows, c ≠ .sl own sz rows) : c.noFlag := noFlag_of_one h1 fun e sz rows he => h _ _ _ he
theorem int_noFlag (k : IntKind) (n : Int) : (AV.int k n).noFlag := one_noFlag rfl (fun _ _ _ h => by cases h)
theorem bool_noFlag (b : Bool) : (AV.bool b).noFlag := one_noFlag rfl (fun _ _ _ h => by cases h)
theorem str_noFlag (b : ByteArray) : (AV.str b).noFlag := one_noFlag rfl (fun _ _ _ h => by cases h)
theorem ptr_noFlag (l sl o : Nat) : (AV.ptr l sl o).noFlag := one_noFlag rfl (fun _ _ _ h => by cases h)
theorem row_noFlag (cs : List AV) : (AV.row cs).noFlag := one_noFlag rfl (fun _ _ _ h => by cases h)
theorem sl_noFlag (z : Nat) (rows : List (List AV)) : (AV.sl none z rows).noFlag := noFlag_of_one rfl (fun _ _ _ h => by cases h)
theorem ok_mov {o : Oper} {x : X} {x' : Operand} {tk : Bool} (ho : o.op = .move x' ∨ o.op = .assign x') (hx : OpdOk x x') (h : Rel w0 W0 s a φ W w) (he : evVal O (.mov x tk) o.dst s = some (av, s')) :
 Comes' P w0 W0 s' a o av w := by
 refine ⟨a.eval x', w, .inl (by rcases ho with ho | ho <;> simp [execOp, ho]), ?_⟩
 simp only [evVal] at he
 split at he
 ·injection he with he
  injection he with h1 h2
  subst h1 h2
  exact h.opdGood hx
 ·injection he with he
  injection he with h1 h2
  subst h1 h2
  exact good_noOwn h (h.opd hx).1 (h.opd hx).2
theorem ok_pick {o : Oper} {c x y : X} {c' x' y' : Operand} (ho : o.op = .pick c' x' y') (hc : OpdOk c c') (hx : OpdOk x x') (hy : OpdOk y y') (h : Rel w0 W0 s a φ W w) (he : evVal O (.pick c x y) o.dst s = some (av, s')) :
 Comes' P w0 W0 s' a o av w := by
 simp only [evVal] at he
 split at he
 ·rename_i t hce
  injection he with he
  injection he with h1 h2
  subst h1 h2
  have hcv := (h.opd hc).1
  rw [hce] at hcv
  generalize hcc : a.eval c' = cv at hcv
  cases hcv
  refine ⟨if t then a.eval x' else a.eval y', w, .inl (by simp [execOp, ho, hcc, asBool]), ?_⟩
  cases t
  ·exact good_noOwn h (h.opd hy).1 (h.opd hy).2
  ·exact good_noOwn h (h.opd hx).1 (h.opd hx).2
 ·cases he
theorem ok_chk {o : Oper} {x : X} {x' : Operand} (ho : o.op = .nilCheck x') (hx : OpdOk x x') (h : Rel w0 W0 s a φ W w) (he : evVal O (.chk x) o.dst s = some (av, s')) : Comes' P w0 W0 s' a o av w := by
 simp only [evVal] at he
 have hv := h.opd hx
 generalize hcc : a.eval x' = xv at hv
 split at he
 ·rename_i l sl o' hce
  injection he with he
  injection he with h1 h2
  subst h1 h2
  rw [hce] at hv
  obtain ⟨hv, hl⟩ := hv
  cases hv
  rename_i b hb
  exact ⟨.pointer (some ⟨b.1, o', none⟩), w, .inl (by simp [execOp, ho, hcc]), good_pure h (.ptr l sl o' b hb) hl (ptr_noFlag _ _ _)⟩
 ·rename_i cs hce
  injection he with he
  injection he with h1 h2
  subst h1 h2
  rw [hce] at hv
  obtain ⟨hv, hl⟩ := hv
  cases hv
  rename_i b o' f hd hc hv'
  exact ⟨.pointer (some ⟨b, o', none⟩), w, .inl (by simp [execOp, ho, hcc]), good_pure h (.row cs b o' f hd hc hv') hl (row_noFlag _)⟩
 ·rename_i g o' hce
  injection he with he
  injection he with h1 h2
  subst h1 h2
  rw [hce] at hv
  obtain ⟨hv, hl⟩ := hv
  cases hv
  exact ⟨.pointer (some ⟨g, o', none⟩), w, .inl (by simp [execOp, ho, hcc]), good_pure h (.glob g o') hl (one_noFlag rfl (fun _ _ _ h => by cases h))⟩
 ·cases he
theorem run_binInt {op : BinOp} {k : IntKind} {x y : Int} {av : AV} (h : binInt op k x y = some av) (t : TypeId) : ∃ v, (binOp op t (.int k x) (.int k y)).run P w = .ok v w ∧ (∀ w φ W, VRel w φ W av v) ∧ av.one = true ∧ (∀ o z r, av ≠ .sl o z r) ∧ ∀ p, av.okP p = true := by
 cases op <;> simp only [binInt] at h
 case quo =>
  split at h
  ·cases h
  ·injection h with h
   subst h
   exact ⟨_, by simp [binOp, Op.intDiv, *], fun _ _ _ => .int .., rfl, (fun _ _ _ h => by cases h), fun _ => rfl⟩
 case rem =>
  split at h
  ·cases h
  ·injection h with h
   subst h
   exact ⟨_, by simp [binOp, Op.intDiv, *], fun _ _ _ => .int .., rfl, (fun _ _ _ h => by cases h), fun _ => rfl⟩
 case shl => cases h
 case shr => cases h
 all_goals
  injection h with h
  subst h
  exact ⟨_, (by simp only [binOp, ne_eq, not_true_eq_false, if_false]; rfl), (fun _ _ _ => by first | exact .int _ _ | exact .bool _), rfl, (fun _ _ _ h => by cases h), fun _ => rfl⟩
theorem run_binStr {op : BinOp} {x y : ByteArray} {av : AV} (h : binStr op x y = some av) (t : TypeId) : ∃ v, (binOp op t (.string x) (.string y)).run P w = .ok v w ∧ (∀ w φ W, VRel w φ W av v) ∧ av.one = true ∧ (∀ o z r, av ≠ .sl o z r) ∧ ∀ p, av.okP p = true := by
 cases op <;> simp only [binStr] at h
 case add =>
  split at h
  ·injection h with h
   subst h
   refine ⟨_, ?_, fun _ _ _ => .str _, rfl, (fun _ _ _ h => by cases h), fun _ => rfl⟩
   have : ¬ (((x.size + y.size : Nat) : Int) > IntKind.i64.max) := by
    have e : IntKind.i64.max = 9223372036854775807 := by decide
    rw [e]; omega
   simp only [binOp, Op.stringOp]
   rw [if_neg this]
   rfl
  ·cases h
 all_goals first
  | (cases h; done)
  | (injection h with h
     subst h
     exact ⟨_, by simp only [binOp, Op.stringOp]; rfl, fun _ _ _ => .bool .., rfl, (fun _ _ _ h => by cases h), fun _ => rfl⟩)
theorem run_guard_one (op : BinOp) (t : TypeId) (x y : Operand) (u v : Value) (hu : u ≠ .nilIface) (ha : ∀ c, u ≠ .agg c) : (eqGuard op t x y u v).run P w = .ok () w := by
 unfold eqGuard
 cases op <;> simp <;> cases u <;> simp_all <;> rfl
theorem ok_bin {o : Oper} {op : BinOp} {x y : X} {x' y' : Operand} {t t' : TypeId} (ho : o.op = .binOp op t x' y' t') (hx : OpdOk x x') (hy : OpdOk y y') (h : Rel w0 W0 s a φ W w) (he : evVal O (.bin op x y) o.dst s = some (av, s')) : Comes' P w0 W0 s' a o av w := by
 simp only [evVal, Option.map_eq_some_iff] at he
 obtain ⟨r, he, hr⟩ := he
 injection hr with h1 h2
 subst h1 h2
 have hxv := (h.opd hx).1
 have hyv := (h.opd hy).1
 have fin : ∀ v, (do eqGuard op t x' y' (a.eval x') (a.eval y'); binOp op t (a.eval x') (a.eval y') : Sem Value).run P w = .ok v w → (∀ w φ W, VRel w φ W r v) → r.one = true → (∀ o z q, r ≠ .sl o z q) → (∀ p, r.okP p = true) → Comes' P w0 W0 s a o r w := by
  intro v hv h1 h2 h3 h4
  refine ⟨v, w, .inl ?_, good_pure h (h1 _ _ _) (h4 _) (one_noFlag h2 h3)⟩
  simp only [execOp, ho]
  simp only [Sem.run_bind] at hv ⊢
  rw [hv]
  rfl
 generalize hxx : s.evX x = xa at he hxv
 generalize hyy : s.evX y = ya at he hyv
 unfold binAV at he
 split at he
 ·rename_i k n k' m
  generalize hxe : a.eval x' = xe at hxv fin
  generalize hye : a.eval y' = ye at hyv fin
  cases hxv
  cases hyv
  have hg := run_guard_one (P := P) (w := w) op t x' y' (.int k n) (.int k' m) (by simp) (by simp)
  split at he
  ·split at he
   ·cases he
   ·injection he with he
    subst he
    exact fin (.int k (k.wrap (n * 2 ^ min m.toNat k.bits))) (by simp [hg, binOp, Op.shift, *]) (fun _ _ _ => .int ..) rfl (fun _ _ _ h => by cases h) (fun _ => rfl)
  ·split at he
   ·cases he
   ·injection he with he
    subst he
    exact fin (.int k (n.fdiv (2 ^ min m.toNat k.bits))) (by simp [hg, binOp, Op.shift, *]) (fun _ _ _ => .int ..) rfl (fun _ _ _ h => by cases h) (fun _ => rfl)
  ·split at he
   ·subst k'
    obtain ⟨v, h1, h2, h3, h4, h5⟩ := run_binInt (P := P) (w := w) he t
    exact fin v (by simp [hg, h1]) h2 h3 h4 h5
   ·cases he
 ·rename_i b c
  generalize hxe : a.eval x' = xe at hxv fin
  generalize hye : a.eval y' = ye at hyv fin
  cases hxv
  cases hyv
  have hg := run_guard_one (P := P) (w := w) op t x' y' (.string b) (.string c) (by simp) (by simp)
  obtain ⟨v, h1, h2, h3, h4, h5⟩ := run_binStr (P := P) (w := w) he t
  exact fin v (by simp [hg, h1]) h2 h3 h4 h5
 ·cases he
theorem ok_eqb {o : Oper} {neg : Bool} {x y : X} {x' y' : Operand} {t t' : TypeId} (ho : o.op = .binOp (if neg then .neq else .eql) t x' y' t') (hx : OpdOk x x') (hy : OpdOk y y') (hu : P.underlying t = some .bool)
 (h : Rel w0 W0 s a φ W w) (he : evVal O (.eqb neg x y) o.dst s = some (av, s')) : Comes' P w0 W0 s' a o av w := by
 simp only [evVal] at he
 have hxv := (h.opd hx).1
 have hyv := (h.opd hy).1
 split at he
 ·rename_i b c h1 h2
  injection he with he
  injection he with e1 e2
  subst e1 e2
  rw [h1] at hxv
  rw [h2] at hyv
  generalize hxe : a.eval x' = xe at hxv
  generalize hye : a.eval y' = ye at hyv
  cases hxv
  cases hyv
  have heq : (Op.equal t (.bool b) (.bool c)).run P w = .ok (b == c) w := run_equalIn_bool' w 9999 t b c hu
  have hg := fun op => run_guard_one (P := P) (w := w) op t x' y' (.bool b) (.bool c) (by simp) (by simp)
  refine ⟨.bool (if neg then !(b == c) else b == c), w, .inl ?_, good_pure h (.bool ..) rfl (bool_noFlag _)⟩
  cases neg <;> simp [execOp, ho, hxe, hye, hg, binOp, heq]
 ·cases he
theorem ok_un {o : Oper} {op : UnOp} {x : X} {x' : Operand} {t : TypeId} (ho : o.op = .unOp op t x') (hx : OpdOk x x') (h : Rel w0 W0 s a φ W w) (he : evVal O (.un op x) o.dst s = some (av, s')) : Comes' P w0 W0 s' a o av w := by
 simp only [evVal, Option.map_eq_some_iff] at he
 obtain ⟨r, he, hr⟩ := he
 injection hr with h1 h2
 subst h1 h2
 have hxv := (h.opd hx).1
 generalize hxx : s.evX x = xa at he hxv
 generalize hxe : a.eval x' = xe at hxv
 unfold unAV at he
 split at he
 ·cases hxv
  split at he
  ·injection he with he
   subst he
   exact ⟨_, w, .inl (by simp [execOp, ho, hxe, Op.unary, Op.intArith]), good_pure h (.int ..) rfl (int_noFlag _ _)⟩
  ·injection he with he
   subst he
   exact ⟨_, w, .inl (by simp [execOp, ho, hxe, Op.unary, Op.intBits]), good_pure h (.int ..) rfl (int_noFlag _ _)⟩
  ·cases he
 ·cases hxv
  split at he
  ·injection he with he
   subst he
   exact ⟨_, w, .inl (by simp [execOp, ho, hxe, Op.unary]), good_pure h (.bool ..) rfl (bool_noFlag _)⟩
  ·cases he
 ·cases he
end
end Go.Ev
