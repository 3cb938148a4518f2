/- The evaluator as a machine whose steps are rewritings of known states only. Condition: none. -/
import Derived.Test.YtcnlfelalgaepaaGreatDoorEvS
namespace Go.Ev
set_option linter.all false
inductive K where
 | seq (b : IC)
 | blk (id : Nat)
section
variable (O : Orc)
def goK : List K → Fl → St → Option (Fl × St)
 | [], fl, s => some (fl, s)
 | .seq b :: ks, .norm, s => (evC O b s).bind fun r => goK ks r.1 r.2
 | .seq _ :: ks, .ret, s => goK ks .ret s
 | .seq _ :: ks, .ex i, s => goK ks (.ex i) s
 | .blk id :: ks, .ex i, s => if i = id then goK ks .norm s else goK ks (.ex i) s
 | .blk _ :: ks, .norm, s => goK ks .norm s
 | .blk _ :: ks, .ret, s => goK ks .ret s
def goC (c : IC) (s : St) (ks : List K) : Option (Fl × St) := (evC O c s).bind fun r => goK O ks r.1 r.2
def goOps (ops : List IOper) (so : Option St) (ks : List K) : Option (Fl × St) := so.bind fun s => (evOps O ops s).bind fun s' => goK O ks .norm s'
def goB (v : AV) (a b : IC) (s : St) (ks : List K) : Option (Fl × St) :=
 match v with
 | .bool t => if t then goC O a s ks else goC O b s ks
 | _ => none
def goR (r : Option (Fl × St)) (ks : List K) : Option (Fl × St) := r.bind fun r => goK O ks r.1 r.2
def goM (so : Option St) (fl : Fl) (ks : List K) : Option (Fl × St) := so.bind fun s => goK O ks fl s
end
section
variable {O : Orc} {n lv : Nat} {tm : Nat → AV} {bx : Nat → Option ABox} {low : Mem} {ks : List K}
theorem goC_top (c : IC) (s : St) : goC O c s [] = evC O c s := by
 unfold goC
 cases evC O c s <;> rfl
@[simp] theorem goC_skip : goC O .skip ⟨n, lv, tm, bx, low⟩ ks = goK O ks .norm ⟨n, lv, tm, bx, low⟩ := rfl
@[simp] theorem goC_ret : goC O .ret ⟨n, lv, tm, bx, low⟩ ks = goK O ks .ret ⟨n, lv, tm, bx, low⟩ := rfl
@[simp] theorem goC_exit (id : Nat) : goC O (.exit id) ⟨n, lv, tm, bx, low⟩ ks = goK O ks (.ex id) ⟨n, lv, tm, bx, low⟩ := rfl
@[simp] theorem goC_retK (kt kb : List Nat) : goC O (.retK kt kb) ⟨n, lv, tm, bx, low⟩ ks = goM O ((St.mk n lv tm bx low).mask kt kb) .ret ks := by
 unfold goC goM
 simp only [evC]
 cases (St.mk n lv tm bx low).mask kt kb <;> rfl
@[simp] theorem goC_exitK (id : Nat) (kt kb : List Nat) : goC O (.exitK id kt kb) ⟨n, lv, tm, bx, low⟩ ks = goM O ((St.mk n lv tm bx low).mask kt kb) (.ex id) ks := by
 unfold goC goM
 simp only [evC]
 cases (St.mk n lv tm bx low).mask kt kb <;> rfl
@[simp] theorem goC_reg (ops : List IOper) : goC O (.reg ops) ⟨n, lv, tm, bx, low⟩ ks = goOps O ops (some ⟨n, lv, tm, bx, low⟩) ks := by
 unfold goC goOps
 simp only [evC, Option.bind_some]
 cases evOps O ops ⟨n, lv, tm, bx, low⟩ <;> rfl
@[simp] theorem goC_seq (a b : IC) : goC O (.seq a b) ⟨n, lv, tm, bx, low⟩ ks = goC O a ⟨n, lv, tm, bx, low⟩ (.seq b :: ks) := by
 unfold goC
 simp only [evC]
 cases evC O a ⟨n, lv, tm, bx, low⟩ with
 | none => rfl
 | some r => obtain ⟨fl, s⟩ := r; cases fl <;> rfl
@[simp] theorem goC_blk (id : Nat) (c : IC) : goC O (.blk id c) ⟨n, lv, tm, bx, low⟩ ks = goC O c ⟨n, lv, tm, bx, low⟩ (.blk id :: ks) := by
 unfold goC
 simp only [evC]
 cases evC O c ⟨n, lv, tm, bx, low⟩ with
 | none => rfl
 | some r =>
   obtain ⟨fl, s⟩ := r
   cases fl with
   | norm => rfl
   | ret => rfl
   | ex i =>
     simp only [Option.bind_some, goK]
     split <;> rfl
@[simp] theorem goC_cond (x : X) (a b : IC) : goC O (.cond x a b) ⟨n, lv, tm, bx, low⟩ ks = goB O ((St.mk n lv tm bx low).evX x) a b ⟨n, lv, tm, bx, low⟩ ks := by
 unfold goC goB
 simp only [evC]
 cases (St.mk n lv tm bx low).evX x <;> try rfl
 rename_i t
 cases t <;> rfl
@[simp] theorem goC_loop (kt kb : List Nat) (c : IC) : goC O (.loop kt kb c) ⟨n, lv, tm, bx, low⟩ ks = goR O (O.loop kt kb c ⟨n, lv, tm, bx, low⟩) ks := rfl
@[simp] theorem goB_bool (t : Bool) (a b : IC) (s : St) : goB O (.bool t) a b s ks = if t then goC O a s ks else goC O b s ks := rfl
@[simp] theorem goR_some (fl : Fl) : goR O (some (fl, ⟨n, lv, tm, bx, low⟩)) ks = goK O ks fl ⟨n, lv, tm, bx, low⟩ := rfl
@[simp] theorem goR_none : goR O none ks = none := rfl
@[simp] theorem goM_some (fl : Fl) : goM O (some ⟨n, lv, tm, bx, low⟩) fl ks = goK O ks fl ⟨n, lv, tm, bx, low⟩ := rfl
@[simp] theorem goM_none (fl : Fl) : goM O none fl ks = none := rfl
@[simp] theorem goK_nil (fl : Fl) : goK O [] fl ⟨n, lv, tm, bx, low⟩ = some (fl, ⟨n, lv, tm, bx, low⟩) := rfl
@[simp] theorem goK_seq (b : IC) : goK O (.seq b :: ks) .norm ⟨n, lv, tm, bx, low⟩ = goC O b ⟨n, lv, tm, bx, low⟩ ks := rfl
@[simp] theorem goK_seqr (b : IC) : goK O (.seq b :: ks) .ret ⟨n, lv, tm, bx, low⟩ = goK O ks .ret ⟨n, lv, tm, bx, low⟩ := rfl
@[simp] theorem goK_seqx (b : IC) (i : Nat) : goK O (.seq b :: ks) (.ex i) ⟨n, lv, tm, bx, low⟩ = goK O ks (.ex i) ⟨n, lv, tm, bx, low⟩ := rfl
@[simp] theorem goK_blk (id : Nat) : goK O (.blk id :: ks) .norm ⟨n, lv, tm, bx, low⟩ = goK O ks .norm ⟨n, lv, tm, bx, low⟩ := rfl
@[simp] theorem goK_blkr (id : Nat) : goK O (.blk id :: ks) .ret ⟨n, lv, tm, bx, low⟩ = goK O ks .ret ⟨n, lv, tm, bx, low⟩ := rfl
@[simp] theorem goK_blkx (id i : Nat) : goK O (.blk id :: ks) (.ex i) ⟨n, lv, tm, bx, low⟩ = if i = id then goK O ks .norm ⟨n, lv, tm, bx, low⟩ else goK O ks (.ex i) ⟨n, lv, tm, bx, low⟩ := rfl
@[simp] theorem goOps_nil : goOps O [] (some ⟨n, lv, tm, bx, low⟩) ks = goK O ks .norm ⟨n, lv, tm, bx, low⟩ := rfl
@[simp] theorem goOps_none (ops : List IOper) : goOps O ops none ks = none := rfl
@[simp] theorem goOps_cons (o : IOper) (ops : List IOper) : goOps O (o :: ops) (some ⟨n, lv, tm, bx, low⟩) ks = goOps O ops (evOp O o ⟨n, lv, tm, bx, low⟩) ks := by
 unfold goOps
 simp only [Option.bind_some, evOps]
 cases evOp O o ⟨n, lv, tm, bx, low⟩ <;> rfl
@[simp] theorem map_ite' {α β : Type} (f : α → β) (c : Prop) [Decidable c] (a b : Option α) : (if c then a else b).map f = if c then a.map f else b.map f := by split <;> rfl
def leaveBy (rvs : List RV) (l : Nat) (r : Option (Fl × St)) : Option (List AV × Mem) := leave ⟨0, 0, rvs, .skip⟩ l r
def leaveS (rvs : List RV) (lv : Nat) (s : St) : Option (List AV × Mem) :=
 match resOf s rvs with
 | some rs => if okPs (fun l _ => decide (l < lv)) rs then some (rs, s.low) else none
 | none => none
theorem leaveS_eq (rvs : List RV) (l : Nat) : leaveS rvs l ⟨n, lv, tm, bx, low⟩ = match resOf ⟨n, lv, tm, bx, low⟩ rvs with
 | some rs => if okPs (fun l' _ => decide (l' < l)) rs then some (rs, low) else none
 | none => none := rfl
@[simp] theorem leaveBy_ite (rvs : List RV) (l : Nat) (c : Prop) [Decidable c] (a b : Option (Fl × St)) : leaveBy rvs l (if c then a else b) = if c then leaveBy rvs l a else leaveBy rvs l b := by split <;> rfl
@[simp] theorem leave_ret (rvs : List RV) (l : Nat) : leaveBy rvs l (some (.ret, ⟨n, lv, tm, bx, low⟩)) = leaveS rvs l ⟨n, lv, tm, bx, low⟩ := rfl
@[simp] theorem leave_norm (rvs : List RV) (l : Nat) : leaveBy rvs l (some (.norm, ⟨n, lv, tm, bx, low⟩)) = leaveS rvs l ⟨n, lv, tm, bx, low⟩ := rfl
@[simp] theorem leave_none (rvs : List RV) (l : Nat) : leaveBy rvs l none = none := rfl
attribute [simp] leaveS_eq
theorem call_go {T : Tab} {f : FuncId} {F : IFunc} {args : List AV} {m : Mem} {l : Nat} {r : List AV × Mem} (hg : T.given f = none) (hF : T.fns f = some F) (hn : args.length = F.np) (h : leaveBy F.results l (goC (sem T) F.body (enter F args m l) []) = some r) : (sem T).call f args m l = some r := by
 apply sem_call
 unfold callBy
 rw [hg, hF]
 simp only
 rw [if_pos hn, ← goC_top]
 exact h
theorem loop_end {T : Tab} {kt kb : List Nat} {c : IC} {s s1 : St} {fl : Fl} {s' : St} (hm : s.mask kt kb = some s1) (h : goC (sem T) c s1 [] = some (fl, s')) (hf : fl ≠ .norm) : (sem T).loop kt kb c s = some (fl, s') := by
 apply sem_loop
 unfold loopBy
 rw [hm]
 simp only
 rw [← goC_top, h]
 cases fl <;> first | rfl | exact absurd rfl hf
theorem loop_next {T : Tab} {kt kb : List Nat} {c : IC} {s s1 s2 : St} {r : Fl × St} (hm : s.mask kt kb = some s1) (h : goC (sem T) c s1 [] = some (.norm, s2)) (hn : (sem T).loop kt kb c s2 = some r) : (sem T).loop kt kb c s = some r := by
 apply sem_loop
 unfold loopBy
 rw [hm]
 simp only
 rw [← goC_top, h]
 exact hn
def maskN (kt kb : List Nat) : Option (Fl × St) → Option St
 | some (.norm, s) => s.mask kt kb
 | _ => none
@[simp] theorem maskN_norm (kt kb : List Nat) : maskN kt kb (some (.norm, ⟨n, lv, tm, bx, low⟩)) = (St.mk n lv tm bx low).mask kt kb := rfl
theorem loop_round {T : Tab} {kt kb : List Nat} {c : IC} {s s1 s2 : St} {r : Fl × St} (hm : s.mask kt kb = some s1) (h : maskN kt kb (goC (sem T) c s1 []) = some s2) (hn : ∀ s, s.mask kt kb = some s2 → (sem T).loop kt kb c s = some r) : (sem T).loop kt kb c s = some r := by
 cases hg : goC (sem T) c s1 [] with
 | none => rw [hg] at h; cases h
 | some q =>
   obtain ⟨fl, s'⟩ := q
   rw [hg] at h
   cases fl with
   | norm => exact loop_next hm hg (hn s' h)
   | ret => cases h
   | ex i => cases h
theorem loop_roundP {T : Tab} {kt kb : List Nat} {c : IC} {s s1 s2 : St} {p : Fl × St → Prop} (hm : s.mask kt kb = some s1) (h : maskN kt kb (goC (sem T) c s1 []) = some s2) (hn : ∀ s, s.mask kt kb = some s2 → ∃ r, (sem T).loop kt kb c s = some r ∧ p r) : ∃ r, (sem T).loop kt kb c s = some r ∧ p r := by
 cases hg : goC (sem T) c s1 [] with
 | none => rw [hg] at h; cases h
 | some q =>
   obtain ⟨fl, s'⟩ := q
   rw [hg] at h
   cases fl with
   | norm =>
     obtain ⟨r, h1, h2⟩ := hn s' h
     exact ⟨r, loop_next hm hg h1, h2⟩
   | ret => cases h
   | ex i => cases h
end
end Go.Ev
