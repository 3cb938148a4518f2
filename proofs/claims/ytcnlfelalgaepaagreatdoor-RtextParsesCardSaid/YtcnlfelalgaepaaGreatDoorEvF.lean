/- Regions: what the evaluator answers for a list of operations, the run comes to, in whatever order it is drawn. Condition: named in drawOk. -/
import Derived.Test.YtcnlfelalgaepaaGreatDoorEvE
import Derived.Test.YtcnlfelalgaepaaGreatDoorEvM
namespace Go.Ev
set_option linter.all false
open Go.RowKit
structure RegOk (P : Program) (n : Nat) (ops : Array Oper) (iops : List IOper) : Prop where
 size : iops.length = ops.size
 op : ∀ (i : Nat) o io, ops[i]? = some o → iops[i]? = some io → io.dst = o.dst ∧ OpOk P o.dst io.op o.op ∧ (∀ x, o.dst = some x → x < n) ∧
  ((o.guard = none ∧ io.guard = none) ∨ ∃ j want g, o.guard = some (j, want) ∧ (ops[j]?).bind (·.dst) = some g ∧ io.guard = some (g, want))
def evIdx (O : Orc) (iops : List IOper) : List Nat → St → Option St
 | [], s => some s
 | i :: r, s =>
   match iops[i]? with
   | some io => (evOp O io s).bind (evIdx O iops r)
   | none => evIdx O iops r s
theorem evOps_idx (O : Orc) (iops : List IOper) : ∀ (k : Nat) (s : St), evOps O (iops.drop k) s = evIdx O iops (List.range' k (iops.length - k)) s := by
 intro k
 induction hd : iops.length - k generalizing k with
 | zero =>
   intro s
   rw [List.drop_of_length_le (by omega)]
   rfl
 | succ m ih =>
   intro s
   have hk : k < iops.length := by omega
   rw [List.drop_eq_getElem_cons hk, List.range'_succ]
   simp only [evOps, evIdx, List.getElem?_eq_getElem hk]
   congr 1
   funext s'
   exact ih (k + 1) (by omega) s'
theorem evOps_range (O : Orc) (iops : List IOper) (s : St) : evOps O iops s = evIdx O iops (List.range iops.length) s := by
 have := evOps_idx O iops 0 s
 rw [List.drop_zero, Nat.sub_zero] at this
 rw [this, List.range_eq_range']
section
variable {w0 w w' : World} {W0 : Base} {W W' : Nat → Own} {φ φ' : Nat → Nat → Option Blk} {s s' s1 : St} {a : Act} {P : Program} {O : Orc} {av : AV}
theorem guard_rel (h : Rel w0 W0 s a φ W w) {ops : Array Oper} {j g : Nat} (hg : (ops[j]?).bind (·.dst) = some g) : (∀ b, s.tm g = .bool b → yielded ops a.tmps j = some b) ∧ (s.tm g = .tup [] → yielded ops a.tmps j = none) := by
 have hv := (h.tm g).rel
 refine ⟨fun b hb => ?_, fun hb => ?_⟩
 ·rw [hb] at hv
  generalize he : a.tmps.getD g undef = u at hv
  cases hv
  have : a.tmps[g]? = some (.bool b) := by
   cases hq : a.tmps[g]? with
   | none =>
     rw [Array.getD_eq_getD_getElem?, hq] at he
     simp [undef] at he
   | some u => rw [Array.getD_eq_getD_getElem?, hq] at he; simp at he; rw [he]
  unfold yielded
  rw [hg]
  simp [this]
 ·rw [hb] at hv
  generalize he : a.tmps.getD g undef = u at hv
  cases hv with
  | tup _ vs hl hv' =>
  unfold yielded
  rw [hg]
  cases hq : a.tmps[g]? with
  | none => simp [hq]
  | some u =>
    rw [Array.getD_eq_getD_getElem?, hq] at he
    simp at he
    subst he
    simp [hq]
theorem idx_ok (hO : OrcOk P O) {n : Nat} {ops : Array Oper} {iops : List IOper} (hr : RegOk P n ops iops) (hsn : s.n = n) {i : Nat} {io : IOper} (hi : iops[i]? = some io) (h : Rel w0 W0 s a φ W w) (he : evOp O io s = some s1) {K : Act → World → Prop} {Q : Exit → Act → World → Prop}
 (hK : ∀ (a' : Act) w' φ W, a'.tmps.size = a.tmps.size → Rel w0 W0 s1 a' φ W w' → K a' w') : wpOp P ops Q i K a w := by
 have hlt := (List.getElem?_eq_some_iff.1 hi).1
 obtain ⟨o, ho⟩ : ∃ o, ops[i]? = some o := ⟨_, Array.getElem?_eq_getElem (by rw [← hr.size]; exact hlt)⟩
 obtain ⟨hd, hop, hn, hgd⟩ := hr.op i _ io ho hi
 unfold evOp at he
 obtain ⟨⟨av, s'⟩, he2, hs1⟩ := Option.map_eq_some_iff.1 he
 clear he
 have he := he2
 clear he2
 subst hs1
 have hn' : ∀ x, o.dst = some x → x < a.tmps.size := fun x hx => by rw [h.size, hsn]; exact hn x hx
 have run : evG O io s = some (av, s') → o.wp P a w K Q := fun hv => by
  unfold evG at hv
  split at hv
  case isFalse => cases hv
  rw [hd] at hv hK
  exact op_ok hO hop h hv hn' hK
 have skip : av = .tup [] → s' = s → K (a.put o.dst undef) w := fun h1 h2 => by
  subst h1 h2
  refine hK _ _ φ W (size_put a o.dst undef) ?_
  rw [hd]
  refine h.put o.dst fun x hx => ⟨by rw [hsn]; exact hn x hx, ⟨.tup [] #[] rfl (fun i c v hc => by simp at hc), rfl, .of_noFlag (by intro i j e sz rows; simp [AV.part])⟩⟩
 unfold wpOp
 simp only [ho]
 unfold evO at he
 rcases hgd with ⟨g1, g2⟩ | ⟨j, want, g, g1, g2, g3⟩
 ·rw [g2] at he
  have : Region.wanted o (yielded ops a.tmps) = true := by unfold Region.wanted; rw [g1]
  rw [if_pos this]
  exact .inl (run he)
 ·rw [g3] at he
  obtain ⟨q1, q2⟩ := guard_rel h g2
  have hw : Region.wanted o (yielded ops a.tmps) = (yielded ops a.tmps j == some want) := by unfold Region.wanted; rw [g1]
  simp only at he
  split at he
  ·rename_i b hb
   rw [hw, q1 b hb]
   split at he
   ·rename_i hbw
    subst hbw
    rw [if_pos (by simp)]
    exact .inl (run he)
   ·rename_i hbw
    injection he with he
    injection he with e1 e2
    rw [if_neg (by simpa using hbw)]
    exact skip e1.symm e2.symm
  ·rename_i hb
   rw [hw, q2 hb]
   injection he with he
   injection he with e1 e2
   rw [if_neg (by simp)]
   exact skip e1.symm e2.symm
  ·cases he
theorem idxs_ok (hO : OrcOk P O) {n : Nat} {ops : Array Oper} {iops : List IOper} (hr : RegOk P n ops iops) {Q : Exit → Act → World → Prop} : ∀ (l : List Nat) (s : St) (a : Act) (φ : Nat → Nat → Option Blk) (W : Nat → Own) (w : World), (∀ i ∈ l, i < iops.length) → s.n = n → Rel w0 W0 s a φ W w → evIdx O iops l s = some s1 →
 (∀ (a' : Act) w' φ W, a'.tmps.size = a.tmps.size → Rel w0 W0 s1 a' φ W w' → Q .normal a' w') → wpOps P ops Q l a w
 | [], s, a, φ, W, w, _, _, h, he, hQ => by
   simp only [evIdx] at he
   injection he with he
   subst he
   exact hQ a w φ W rfl h
 | i :: l, s, a, φ, W, w, hl, hn, h, he, hQ => by
   have hi : iops[i]? = some (iops[i]'(hl i (List.mem_cons_self ..))) := List.getElem?_eq_getElem _
   simp only [evIdx, hi] at he
   obtain ⟨s2, h1, h2⟩ := Option.bind_eq_some_iff.1 he
   rw [wpOps_cons]
   exact idx_ok hO hr hn hi h h1 fun a' w' φ' W' hs h' => idxs_ok hO hr l s2 a' φ' W' w' (fun j hj => hl j (List.mem_cons_of_mem _ hj)) (by rw [← h'.size, hs, h.size, hn]) h' h2 fun a2 w2 φ2 W2 hs2 h2 => hQ a2 w2 φ2 W2 (hs2.trans hs) h2
theorem region_ok (hO : OrcOk P O) {n : Nat} {ops : Array Oper} {iops : List IOper} (hr : RegOk P n ops iops) {id : Nat} {Q : Exit → Act → World → Prop} (hn : s.n = n) (h : Rel w0 W0 s a φ W w) (he : evOps O iops s = some s1) (hQ : ∀ (a' : Act) w' φ W, a'.tmps.size = a.tmps.size → Rel w0 W0 s1 a' φ W w' → Q .normal a' w') :
 (Code.region id ops false).wp P Q a w := by
 refine wp_region ?_
 rw [← hr.size]
 rw [evOps_range] at he
 exact idxs_ok hO hr _ s a φ W w (fun i hi => List.mem_range.1 hi) hn h he hQ
def ioReads (o : IOper) : List Nat := o.op.reads ++ (match o.guard with | some (g, _) => [g] | none => [])
theorem put_none (s : St) (v : AV) : s.put none v = s := rfl
theorem put_some (s : St) (d : Nat) (v : AV) : s.put (some d) v = putT s d v := rfl
def IOper.fp (o : IOper) : H :=
 match o.op with
 | .load _ _ _ | .store _ _ _ | .del _ _ _ _ _ | .nxt _ | .strw _ | .copyA _ _ => o.hint
 | .callH _ _ => .out
 | .alloc _ _ | .box _ _ | .clone _ _ _ _ _ | .appW _ _ _ _ _ | .rng _ | .mkW _ _ _ _ =>
   match o.dst with
   | some d => .box d
   | none => .any
 | _ => .any
def H.has (h : H) (lv l sl : Nat) : Prop :=
 match h with
 | .any => True
 | .box b => l = lv ∧ sl = b
 | .out => l ≠ lv
def meets : H → H → Bool
 | .box a, .box b => a == b
 | .box _, .out => false
 | .out, .box _ => false
 | _, _ => true
theorem meets_ok {a b : H} {lv l sl : Nat} (h : meets a b = false) (h1 : a.has lv l sl) (h2 : b.has lv l sl) : False := by
 cases a <;> cases b <;> simp [meets, H.has] at h h1 h2
 ·exact h (h1.2.symm.trans h2.2)
 ·exact h2 h1.1
 ·exact h1 h2.1
theorem reach_has {o : IOper} {l sl : Nat} (hh : hintOk o.hint (o.op.addr.map s.evX) s.lv = true) (hr : o.op.reach o.dst s l sl) : o.fp.has s.lv l sl := by
 obtain ⟨op, dst, guard, hint⟩ := o
 cases op <;> try exact trivial
 case load x _ _ =>
  obtain ⟨k, hk⟩ := hr
  simp only [IOp.addr, Option.map_some, hk] at hh
  show hint.has _ _ _
  cases hint <;> simp [hintOk, H.has] at hh ⊢
  ·exact hh
  ·exact hh
 case store x _ _ =>
  obtain ⟨k, hk⟩ := hr
  simp only [IOp.addr, Option.map_some, hk] at hh
  show hint.has _ _ _
  cases hint <;> simp [hintOk, H.has] at hh ⊢
  ·exact hh
  ·exact hh
 case del x _ _ _ =>
  obtain ⟨k, n, z, hk⟩ := hr
  simp only [IOp.addr, Option.map_some, hk] at hh
  show hint.has _ _ _
  cases hint <;> simp [hintOk, H.has] at hh ⊢
  ·exact hh
  ·exact hh
 case nxt x =>
  obtain ⟨k, hk⟩ := hr
  simp only [IOp.addr, Option.map_some, hk] at hh
  show hint.has _ _ _
  cases hint <;> simp [hintOk, H.has] at hh ⊢
  ·exact hh
  ·exact hh
 case copyA x _ =>
  obtain ⟨k, n, z, hk⟩ := hr
  simp only [IOp.addr, Option.map_some, hk] at hh
  show hint.has _ _ _
  cases hint <;> simp [hintOk, H.has] at hh ⊢
  ·exact hh
  ·exact hh
 case strw x =>
  obtain ⟨k, n, z, hk⟩ := hr
  show hint.has _ _ _
  rcases hk with hk | hk <;> simp only [IOp.addr, Option.map_some, hk] at hh <;> cases hint <;> simp [hintOk, H.has] at hh ⊢ <;> exact hh
 case callH f as => exact hr
 all_goals
  obtain ⟨h1, h2⟩ := hr
  have h2 : dst = some sl := h2
  subst h2
  exact ⟨h1, rfl⟩
theorem addr_reads {op : IOp} {y : X} (h : op.addr = some y) : ∀ t ∈ xs1 y, t ∈ op.reads := by
 intro t ht
 cases op <;> simp [IOp.addr] at h
 all_goals
  subst h
  simp [IOp.reads, ht]
theorem addr_congr {op : IOp} {s2 : St} (h : ∀ t ∈ op.reads, s2.tm t = s.tm t) : op.addr.map s2.evX = op.addr.map s.evX := by
 cases ha : op.addr with
 | none => rfl
 | some y => simp only [Option.map_some]; rw [evX_congr fun t ht => h t (addr_reads ha t ht)]
theorem evG_iff {o : IOper} {r : AV × St} : evG O o s = some r ↔ hintOk o.hint (o.op.addr.map s.evX) s.lv = true ∧ evVal O o.op o.dst s = some r := by
 unfold evG
 split
 ·rename_i h; simp [h]
 ·rename_i h; simp [h]
theorem evG_put {o : IOper} {v : AV} (h : evG O o s = some (v, s')) {x : Nat} (hx : x ∉ o.op.reads) (u : AV) : evG O o (putT s x u) = some (v, putT s' x u) := by
 obtain ⟨h1, h2⟩ := evG_iff.1 h
 refine evG_iff.2 ⟨?_, put_frame h2 hx u⟩
 rw [addr_congr (s := s) (s2 := putT s x u)]
 ·exact h1
 ·intro t ht
  show upd s.tm x u t = _
  unfold upd
  rw [if_neg fun e => hx (by rw [← e]; exact ht)]
theorem evG_eff {o : IOper} {v : AV} (h : evG O o s = some (v, s')) : s'.lv = s.lv ∧ (∀ t, t ∉ o.op.takes → s'.tm t = s.tm t) ∧ ∀ l sl, (o.op.wmem = true → ¬ o.fp.has s.lv l sl) → s'.get l sl = s.get l sl := by
 obtain ⟨h1, h2⟩ := evG_iff.1 h
 obtain ⟨e1, e2, e3⟩ := op_eff h2
 exact ⟨e1, e2, fun l sl hw => e3 l sl fun hw' hr => hw hw' (reach_has h1 hr)⟩
theorem evG_obs {o : IOper} {v : AV} (ho : o.op.obs = true) (h : evG O o s = some (v, s')) : s' = s ∧ ∀ s2 : St, s2.lv = s.lv → (∀ t ∈ o.op.reads, s2.tm t = s.tm t) → (o.op.rmem = true → ∀ l sl, o.fp.has s.lv l sl → s2.get l sl = s.get l sl) → evG O o s2 = some (v, s2) := by
 obtain ⟨h1, h2⟩ := evG_iff.1 h
 obtain ⟨e1, e2⟩ := obs_frame ho h2
 refine ⟨e1, fun s2 hl hr hm => evG_iff.2 ⟨?_, e2 s2 hl hr fun hw l sl hre => hm hw l sl (reach_has h1 hre)⟩⟩
 rw [addr_congr hr, hl]
 exact h1
theorem evG_bx {o : IOper} {v : AV} (h : evG O o s = some (v, s')) {k : Nat} (hk : (o.op.rmem = true ∨ o.op.wmem = true) → ¬ o.fp.has s.lv s.lv k) (C : Option ABox) : evG O o (setB s k C) = some (v, setB s' k C) := by
 obtain ⟨h1, h2⟩ := evG_iff.1 h
 refine evG_iff.2 ⟨?_, bx_frame h2 (fun hm hr => hk hm (reach_has h1 hr)) C⟩
 rw [addr_congr (s := s) (s2 := setB s k C) fun t _ => rfl]
 exact h1
theorem evO_put {o : IOper} {v : AV} (h : evO O o s = some (v, s')) {x : Nat} (hx : x ∉ ioReads o) (u : AV) : evO O o (putT s x u) = some (v, putT s' x u) := by
 have hx1 : x ∉ o.op.reads := fun q => hx (by simp [ioReads, q])
 unfold evO at h ⊢
 cases hg : o.guard with
 | none =>
   rw [hg] at h
   exact evG_put h hx1 u
 | some gw =>
   obtain ⟨g, want⟩ := gw
   rw [hg] at h
   have hxg : (putT s x u).tm g = s.tm g := by
    show upd s.tm x u g = _
    unfold upd
    rw [if_neg (fun e => hx (by simp [ioReads, hg, e]))]
   try simp only at h
   try simp only [hxg]
   split at h
   ·split at h
    ·rename_i hw
     rw [if_pos hw]
     exact evG_put h hx1 u
    ·rename_i hw
     rw [if_neg hw]
     injection h with h; injection h with h1 h2; subst h1 h2; rfl
   ·injection h with h; injection h with h1 h2; subst h1 h2; rfl
   ·cases h
theorem evO_bx {o : IOper} {v : AV} (h : evO O o s = some (v, s')) {k : Nat} (hk : (o.op.rmem = true ∨ o.op.wmem = true) → ¬ o.fp.has s.lv s.lv k) (C : Option ABox) : evO O o (setB s k C) = some (v, setB s' k C) := by
 unfold evO at h ⊢
 cases hg : o.guard with
 | none =>
   rw [hg] at h
   exact evG_bx h hk C
 | some gw =>
   obtain ⟨g, want⟩ := gw
   rw [hg] at h
   have hxg : (setB s k C).tm g = s.tm g := rfl
   try simp only at h
   try simp only [hxg]
   split at h
   ·split at h
    ·rename_i hw
     rw [if_pos hw]
     exact evG_bx h hk C
    ·rename_i hw
     rw [if_neg hw]
     injection h with h; injection h with h1 h2; subst h1 h2; rfl
   ·injection h with h; injection h with h1 h2; subst h1 h2; rfl
   ·cases h
theorem evO_eff {o : IOper} {v : AV} (h : evO O o s = some (v, s')) : s'.lv = s.lv ∧ (∀ t, t ∉ o.op.takes → s'.tm t = s.tm t) ∧ ∀ l sl, (o.op.wmem = true → ¬ o.fp.has s.lv l sl) → s'.get l sl = s.get l sl := by
 unfold evO at h
 split at h
 ·exact evG_eff h
 ·try simp only at h
  split at h
  ·split at h
   ·exact evG_eff h
   ·injection h with h; injection h with h1 h2; subst h2; exact ⟨rfl, fun _ _ => rfl, fun _ _ _ => rfl⟩
  ·injection h with h; injection h with h1 h2; subst h2; exact ⟨rfl, fun _ _ => rfl, fun _ _ _ => rfl⟩
  ·cases h
theorem evO_obs {o : IOper} {v : AV} (ho : o.op.obs = true) (h : evO O o s = some (v, s')) : s' = s ∧ ∀ s2 : St, s2.lv = s.lv → (∀ t ∈ ioReads o, s2.tm t = s.tm t) → (o.op.rmem = true → ∀ l sl, o.fp.has s.lv l sl → s2.get l sl = s.get l sl) → evO O o s2 = some (v, s2) := by
 have hsub : ∀ t ∈ o.op.reads, t ∈ ioReads o := fun t ht => by simp [ioReads, ht]
 unfold evO at h ⊢
 cases hg : o.guard with
 | none =>
   rw [hg] at h
   obtain ⟨h1, h2⟩ := evG_obs ho h
   exact ⟨h1, fun s2 hl hr hm => h2 s2 hl (fun t ht => hr t (hsub t ht)) hm⟩
 | some gw =>
   obtain ⟨g, want⟩ := gw
   rw [hg] at h
   have hgr : g ∈ ioReads o := by simp [ioReads, hg]
   simp only at h ⊢
   split at h
   ·rename_i b hb
    split at h
    ·rename_i hw
     obtain ⟨h1, h2⟩ := evG_obs ho h
     refine ⟨h1, fun s2 hl hr hm => ?_⟩
     rw [hr g hgr, hb]
     simp only
     rw [if_pos hw]
     exact h2 s2 hl (fun t ht => hr t (hsub t ht)) hm
    ·rename_i hw
     injection h with h; injection h with h1 h2; subst h1 h2
     refine ⟨rfl, fun s2 hl hr hm => ?_⟩
     rw [hr g hgr, hb]
     simp only
     rw [if_neg hw]
   ·rename_i hb
    injection h with h; injection h with h1 h2; subst h1 h2
    refine ⟨rfl, fun s2 hl hr hm => ?_⟩
    rw [hr g hgr, hb]
   ·cases h
def IOper.own (o : IOper) : Option Nat :=
 match o.op with
 | .alloc _ _ | .clone _ _ _ _ _ | .mkW _ _ _ _ => o.dst
 | .del _ _ _ _ _ | .load _ _ true =>
   match o.hint with
   | .box b => some b
   | _ => none
 | _ => none
theorem get_own' (s : St) (k : Nat) : s.get s.lv k = s.bx k := if_pos rfl
theorem setB_self (s : St) (k : Nat) : setB s k (s.bx k) = s := by
 unfold setB
 simp only [upd_self]
theorem setB_setB (s : St) (k : Nat) (B C : Option ABox) : setB (setB s k B) k C = setB s k C := by
 unfold setB
 simp only [upd_upd]
theorem evO_own {o : IOper} {v : AV} {d : Nat} (ho : o.own = some d) (h : evO O o s = some (v, s')) : o.fp = .box d ∧ ∃ C, s' = setB s d C ∧ ∀ s2 : St, s2.lv = s.lv → (∀ t ∈ ioReads o, s2.tm t = s.tm t) → s2.bx d = s.bx d → evO O o s2 = some (v, setB s2 d C) := by
 obtain ⟨op, dst, guard, hint⟩ := o
 have hfp : IOper.fp ⟨op, dst, guard, hint⟩ = .box d := by
  cases op
  case alloc t cs =>
   have ho : dst = some d := ho
   subst ho; rfl
  case clone g x e sz by' =>
   have ho : dst = some d := ho
   subst ho; rfl
  case mkW e by' zero x =>
   have ho : dst = some d := ho
   subst ho; rfl
  case del g x i j sz =>
   show hint = .box d
   cases hint with
   | box b => have ho : some b = some d := ho; injection ho with ho; rw [ho]
   | _ => cases ho
  case load x agg tk =>
   cases tk with
   | false => cases ho
   | true =>
     show hint = .box d
     cases hint with
     | box b => have ho : some b = some d := ho; injection ho with ho; rw [ho]
     | _ => cases ho
  all_goals cases ho
 refine ⟨hfp, ?_⟩
 have go : ∀ {v : AV} {s' : St}, evG O ⟨op, dst, guard, hint⟩ s = some (v, s') → ∃ C, s' = setB s d C ∧ ∀ s2 : St, s2.lv = s.lv → (∀ t ∈ op.reads, s2.tm t = s.tm t) → s2.bx d = s.bx d → evG O ⟨op, dst, guard, hint⟩ s2 = some (v, setB s2 d C) := by
  intro v s' hg
  obtain ⟨h1, h2⟩ := evG_iff.1 hg
  cases op
  case alloc t cs =>
   have ho : dst = some d := ho
   subst ho
   simp only [evVal] at h2
   split at h2
   ·rename_i hc
    injection h2 with h2; injection h2 with e1 e2; subst e1 e2
    refine ⟨_, rfl, fun s2 hl _ hb => evG_iff.2 ⟨by rw [hl]; exact h1, ?_⟩⟩
    simp only [evVal, hb]
    rw [if_pos hc, ← hl]
    rfl
   ·cases h2
  case clone g x e sz by' =>
   have ho : dst = some d := ho
   subst ho
   simp only [evVal] at h2
   split at h2
   ·rename_i own z rows dd hy hdd
    injection hdd with hdd
    subst hdd
    split at h2
    ·rename_i hc
     split at h2
     ·rename_i h0
      injection h2 with h2; injection h2 with e1 e2; subst e1 e2
      refine ⟨s.bx d, (setB_self s d).symm, fun s2 hl hr hb => evG_iff.2 ⟨by rw [hl]; exact h1, ?_⟩⟩
      simp only [evVal, evX_congr hr, hy, hb]
      rw [if_pos hc, if_pos h0, ← hb, setB_self]
     ·rename_i h0
      injection h2 with h2; injection h2 with e1 e2; subst e1 e2
      refine ⟨_, rfl, fun s2 hl hr hb => evG_iff.2 ⟨by rw [hl]; exact h1, ?_⟩⟩
      simp only [evVal, evX_congr hr, hy, hb]
      rw [if_pos hc, if_neg h0, ← hl]
      rfl
    ·cases h2
   ·cases h2
  case mkW e by' zero x =>
   have ho : dst = some d := ho
   subst ho
   simp only [evVal] at h2
   split at h2
   ·rename_i k n dd hy hdd
    injection hdd with hdd
    subst hdd
    split at h2
    ·rename_i hc
     split at h2
     ·rename_i h0
      injection h2 with h2; injection h2 with e1 e2; subst e1 e2
      refine ⟨s.bx d, (setB_self s d).symm, fun s2 hl hr hb => evG_iff.2 ⟨by rw [hl]; exact h1, ?_⟩⟩
      simp only [evVal, evX_congr hr, hy, hb]
      rw [if_pos hc, if_pos h0, ← hb, setB_self]
     ·rename_i h0
      injection h2 with h2; injection h2 with e1 e2; subst e1 e2
      refine ⟨_, rfl, fun s2 hl hr hb => evG_iff.2 ⟨by rw [hl]; exact h1, ?_⟩⟩
      simp only [evVal, evX_congr hr, hy, hb]
      rw [if_pos hc, if_neg h0, ← hl]
      rfl
    ·cases h2
   ·cases h2
  case load x agg tk =>
   cases tk with
   | false => cases ho
   | true =>
   cases hint with
   | any => cases ho
   | out => cases ho
   | box b =>
   have ho : some b = some d := ho
   injection ho with ho
   subst ho
   simp only [evVal, if_true] at h2
   split at h2
   ·rename_i l sl o e1
    simp only [IOp.addr, Option.map_some, e1, hintOk, Bool.and_eq_true, beq_iff_eq] at h1
    obtain ⟨rfl, rfl⟩ := h1
    rw [get_own'] at h2
    split at h2
    ·rename_i t cs hbx
     split at h2
     ·rename_i v0 hv0
      split at h2
      ·rename_i hc
       injection h2 with h2; injection h2 with q1 q2; subst q1 q2
       refine ⟨_, by unfold St.setBox setB; rw [if_pos rfl], fun s2 hl hr hb => ?_⟩
       have r1 : s2.evX x = s.evX x := evX_congr fun t ht => hr t (by simp [IOp.reads, ht])
       refine evG_iff.2 ⟨by simp [IOp.addr, r1, e1, hintOk, hl], ?_⟩
       simp only [evVal, if_true, r1, e1]
       rw [← hl, get_own', hb, hbx]
       simp only
       rw [hv0]
       simp only
       rw [if_pos hc]
       unfold St.setBox setB
       rw [if_pos rfl]
      ·cases h2
     ·cases h2
    ·cases h2
   all_goals first | (rename_i e1; simp [IOp.addr, e1, hintOk] at h1; done) | cases h2
  case del g x i j sz =>
   cases hint with
   | any => cases ho
   | out => cases ho
   | box b =>
   have ho : some b = some d := ho
   injection ho with ho
   subst ho
   simp only [evVal] at h2
   split at h2
   ·rename_i l sl o n z a b2 e1 e2 e3
    simp only [IOp.addr, Option.map_some, e1, hintOk, Bool.and_eq_true, beq_iff_eq] at h1
    obtain ⟨rfl, rfl⟩ := h1
    rw [get_own'] at h2
    split at h2
    ·rename_i t cs hbx
     split at h2
     ·rename_i hc
      injection h2 with h2; injection h2 with q1 q2; subst q1 q2
      refine ⟨_, by unfold St.setBox setB; rw [if_pos rfl], fun s2 hl hr hb => ?_⟩
      have r1 : s2.evX x = s.evX x := evX_congr fun t ht => hr t (by simp [IOp.reads, ht])
      have r2 : s2.evX i = s.evX i := evX_congr fun t ht => hr t (by simp [IOp.reads, ht])
      have r3 : s2.evX j = s.evX j := evX_congr fun t ht => hr t (by simp [IOp.reads, ht])
      refine evG_iff.2 ⟨by simp [IOp.addr, r1, e1, hintOk, hl], ?_⟩
      simp only [evVal, r1, r2, r3, e1, e2, e3]
      rw [← hl, get_own', hb, hbx]
      simp only
      rw [if_pos hc]
      unfold St.setBox setB
      rw [if_pos rfl]
     ·cases h2
    ·cases h2
   ·cases h2
  all_goals cases ho
 unfold evO at h ⊢
 cases guard with
 | none =>
   obtain ⟨C, h1, h2⟩ := go h
   exact ⟨C, h1, fun s2 hl hr hb => h2 s2 hl (fun t ht => hr t (by simp [ioReads, ht])) hb⟩
 | some gw =>
   obtain ⟨g, want⟩ := gw
   simp only at h ⊢
   split at h
   ·rename_i b hb
    split at h
    ·rename_i hw
     obtain ⟨C, h1, h2⟩ := go h
     refine ⟨C, h1, fun s2 hl hr hbx => ?_⟩
     rw [hr g (by simp [ioReads]), hb]
     simp only
     rw [if_pos hw]
     exact h2 s2 hl (fun t ht => hr t (by simp [ioReads, ht])) hbx
    ·rename_i hw
     injection h with h; injection h with h1 h2; subst h1 h2
     refine ⟨s.bx d, (setB_self s d).symm, fun s2 hl hr hbx => ?_⟩
     rw [hr g (by simp [ioReads]), hb]
     simp only
     rw [if_neg hw, ← hbx, setB_self]
   ·rename_i hb
    injection h with h; injection h with h1 h2; subst h1 h2
    refine ⟨s.bx d, (setB_self s d).symm, fun s2 hl hr hbx => ?_⟩
    rw [hr g (by simp [ioReads]), hb, ← hbx, setB_self]
   ·cases h
def apart (x y : IOper) : Bool := (!y.op.rmem && !y.op.wmem) || !meets x.fp y.fp
def ldTake (o : IOper) : Bool :=
 match o.op with
 | .load _ _ true => true
 | _ => false
def ldKeep (o : IOper) : Bool :=
 match o.op with
 | .load _ _ false => true
 | _ => false
def plainB : ABox → ABox
 | .cells t cs => .cells t (cs.map AV.noOwn1)
 | b => b
theorem noOwn_noOwn1 (c : AV) : c.noOwn1.noOwn = c.noOwn := by cases c <;> rfl
theorem noOwn1_idem (c : AV) : c.noOwn1.noOwn1 = c.noOwn1 := by cases c <;> rfl
theorem ldKeep_obs {o : IOper} (h : ldKeep o = true) : o.op.obs = true := by
 obtain ⟨op, dst, guard, hint⟩ := o
 cases op <;> try cases h
 case load x agg tk => cases tk <;> first | rfl | cases h
theorem load_plain {x : X} {agg : Option Nat} {d : Option Nat} {s2 : St} {v : AV} (h : evVal O (.load x agg false) d s = some (v, s')) (hx : s2.evX x = s.evX x) (hb : ∀ l sl, (s2.get l sl).map plainB = (s.get l sl).map plainB) : evVal O (.load x agg false) d s2 = some (v, s2) := by
 simp only [evVal, Bool.false_eq_true, if_false] at h ⊢
 rw [hx]
 split at h
 ·rename_i l sl o hp
  have hbl := hb l sl
  split at h
  ·rename_i t cs hg
   rw [hg] at hbl
   cases hg2 : s2.get l sl with
   | none => rw [hg2] at hbl; cases hbl
   | some B =>
     rw [hg2] at hbl
     cases B with
     | iter _ _ => cases hbl
     | cells t2 cs2 =>
       injection hbl with hbl
       injection hbl with h1 h2
       have hlen : cs2.length = cs.length := by have := congrArg List.length h2; simpa using this
       split at h
       ·rename_i u hu
        injection h with h; injection h with e1 e2; subst e1
        cases agg with
        | none =>
          have hu : cs[o]? = some u := hu
          have hq : (cs2.map AV.noOwn1)[o]? = (cs.map AV.noOwn1)[o]? := by rw [h2]
          rw [List.getElem?_map, List.getElem?_map, hu] at hq
          obtain ⟨u2, k1, k2⟩ := Option.map_eq_some_iff.1 hq
          simp only [aggOr, k1]
          rw [← noOwn_noOwn1 u2, k2, noOwn_noOwn1]
        | some m =>
          simp only [aggOr] at hu ⊢
          rw [hlen]
          split at hu
          ·rename_i hm
           injection hu with hu
           subst hu
           rw [if_pos hm]
           have : (sub cs2 o m).map AV.noOwn1 = (sub cs o m).map AV.noOwn1 := by
            unfold sub
            rw [List.map_take, List.map_drop, h2, List.map_take, List.map_drop]
           simp only [AV.noOwn, AV.noOwnA, this]
          ·cases hu
       ·cases h
  ·cases h
 ·obtain ⟨q, hq, h⟩ := Option.map_eq_some_iff.1 h
  injection h with h1 h2; subst h1
  simp only [hq, Option.map_some]
 ·obtain ⟨q, hq, h⟩ := Option.map_eq_some_iff.1 h
  injection h with h1 h2; subst h1
  simp only [hq, Option.map_some]
 ·cases h
theorem keep_any {o : IOper} {v : AV} (hk : ldKeep o = true) (h : evO O o s = some (v, s')) : s' = s ∧ ∀ s2 : St, s2.lv = s.lv → (∀ t ∈ ioReads o, s2.tm t = s.tm t) → (∀ l sl, (s2.get l sl).map plainB = (s.get l sl).map plainB) → evO O o s2 = some (v, s2) := by
 refine ⟨(evO_obs (ldKeep_obs hk) h).1, fun s2 hl hr hb => ?_⟩
 obtain ⟨op, dst, guard, hint⟩ := o
 cases op <;> try cases hk
 case load x agg tk =>
 cases tk
 case true => cases hk
 have hrx : s2.evX x = s.evX x := evX_congr fun t ht => hr t (by simp [ioReads, IOp.reads, ht])
 have go : ∀ {v : AV} {s' : St}, evG O ⟨.load x agg false, dst, guard, hint⟩ s = some (v, s') → evG O ⟨.load x agg false, dst, guard, hint⟩ s2 = some (v, s2) := fun hg => by
  obtain ⟨h1, h2⟩ := evG_iff.1 hg
  refine evG_iff.2 ⟨?_, load_plain h2 hrx hb⟩
  simp only [IOp.addr, Option.map_some, hrx, hl] at h1 ⊢
  exact h1
 unfold evO at h ⊢
 cases guard with
 | none => exact go h
 | some gw =>
   obtain ⟨g, want⟩ := gw
   simp only at h ⊢
   rw [hr g (by simp [ioReads])]
   split at h
   ·rename_i b hb
    split at h
    ·rename_i hw
     rw [if_pos hw]
     exact go h
    ·rename_i hw
     injection h with h; injection h with h1 h2; subst h1
     rw [if_neg hw]
   ·injection h with h; injection h with h1 h2; subst h1; rfl
   ·cases h
theorem take_plain {o : IOper} {v : AV} (hk : ldTake o = true) (h : evO O o s = some (v, s')) : ∀ l sl, (s'.get l sl).map plainB = (s.get l sl).map plainB := by
 obtain ⟨op, dst, guard, hint⟩ := o
 cases op <;> try cases hk
 case load x agg tk =>
 cases tk
 case false => cases hk
 have go : ∀ {v : AV} {s' : St}, evG O ⟨.load x agg true, dst, guard, hint⟩ s = some (v, s') → ∀ l sl, (s'.get l sl).map plainB = (s.get l sl).map plainB := fun hg l2 sl2 => by
  obtain ⟨_, h2⟩ := evG_iff.1 hg
  simp only [evVal, if_true] at h2
  split at h2
  ·rename_i l sl o hp
   split at h2
   ·rename_i t cs hgt
    split at h2
    ·rename_i u hu
     split at h2
     case isFalse => cases h2
     rename_i hone0
     injection h2 with h2; injection h2 with e1 e2; subst e1 e2
     by_cases hne : l2 = l ∧ sl2 = sl
     ·obtain ⟨rfl, rfl⟩ := hne
      have hsame : (s.setBox l2 sl2 (.cells t (splice cs o (u.cells.map AV.noOwn1)))).get l2 sl2 = some (.cells t (splice cs o (u.cells.map AV.noOwn1))) := by
       unfold St.get at hgt
       unfold St.setBox St.get
       by_cases hl : l2 = s.lv
       ·simp [hl, upd]
       ·rw [if_neg hl] at hgt
        have hlt : l2 < s.lv := by
         by_cases hq : l2 < s.lv
         ·exact hq
         ·rw [if_neg hq] at hgt; cases hgt
        simp [hl, hlt, upd]
      rw [hsame, hgt]
      simp only [Option.map_some, plainB]
      congr 2
      have hsp : ∀ ds : List AV, ds.map AV.noOwn1 = (sub cs o ds.length).map AV.noOwn1 → o + ds.length ≤ cs.length → (splice cs o ds).map AV.noOwn1 = cs.map AV.noOwn1 := fun ds h1 h2 => by
       unfold splice
       rw [List.map_append, List.map_append, h1]
       unfold sub
       rw [← List.map_append, ← List.map_append, List.append_assoc, ← List.drop_drop, List.take_append_drop, List.take_append_drop]
      cases agg with
      | none =>
        have hu : cs[o]? = some u := hu
        have hlt := (List.getElem?_eq_some_iff.1 hu).1
        have hone : u.one = true := by simpa using hone0
        have hc1 : u.cells = [u] := by cases u <;> first | rfl | cases hone
        rw [hc1]
        refine hsp _ ?_ (by simp only [List.map_cons, List.map_nil, List.length_cons, List.length_nil]; omega)
        have : sub cs o 1 = [u] := by
         unfold sub
         rw [List.drop_eq_getElem_cons hlt, (List.getElem?_eq_some_iff.1 hu).2]
         rfl
        simp only [List.map_cons, List.map_nil, List.length_cons, List.length_nil, this, noOwn1_idem]
      | some m =>
        simp only [aggOr] at hu
        split at hu
        ·rename_i hm
         injection hu with hu
         subst hu
         have hl : (sub cs o m).length = m := by unfold sub; rw [List.length_take, List.length_drop]; omega
         refine hsp _ ?_ (by simp only [AV.cells, List.length_map, hl]; exact hm)
         simp only [AV.cells, List.length_map, hl, List.map_map]
         refine List.map_congr_left fun c _ => noOwn1_idem c
        ·cases hu
     ·rw [setBox_get _ fun e1 e2 => hne ⟨e1, e2⟩]
    ·cases h2
   ·cases h2
  ·obtain ⟨q, hq, h2⟩ := Option.map_eq_some_iff.1 h2
   injection h2 with e1 e2; subst e2
   rfl
  ·obtain ⟨q, hq, h2⟩ := Option.map_eq_some_iff.1 h2
   injection h2 with e1 e2; subst e2
   rfl
  ·cases h2
 unfold evO at h
 cases guard with
 | none => exact go h
 | some gw =>
   obtain ⟨g, want⟩ := gw
   simp only at h
   split at h
   ·split at h
    ·exact go h
    ·injection h with h; injection h with h1 h2; subst h2; exact fun _ _ => rfl
   ·injection h with h; injection h with h1 h2; subst h2; exact fun _ _ => rfl
   ·cases h
def indep (x y : IOper) : Bool :=
 x.dst.all (fun d => !(ioReads y).contains d && !y.op.takes.contains d) && y.dst.all (fun d => !(ioReads x).contains d && !x.op.takes.contains d && x.dst != some d) &&
 y.op.takes.all (fun t => !(ioReads x).contains t) && x.op.takes.all (fun t => !(ioReads y).contains t) &&
 ((x.op.obs && (!x.op.rmem || !y.op.wmem || !meets x.fp y.fp)) || (y.op.obs && (!y.op.rmem || !x.op.wmem || !meets x.fp y.fp)) || (x.own.isSome && apart x y) || (y.own.isSome && apart y x) || (ldTake x && ldKeep y) || (ldKeep x && ldTake y))
theorem putT_comm (s : St) {a b : Nat} (h : a ≠ b) (u v : AV) : putT (putT s a u) b v = putT (putT s b v) a u := by
 unfold putT
 simp only [upd_comm _ _ _ h]
theorem putT_putT (s : St) (a : Nat) (u v : AV) : putT (putT s a u) a v = putT s a v := by
 unfold putT
 simp only [upd_upd]
theorem putT_self (s : St) (a : Nat) : putT s a (s.tm a) = s := by
 unfold putT
 simp only [upd_self]
theorem put_putT (s : St) (d : Option Nat) {b : Nat} (h : d ≠ some b) (u v : AV) : (putT s b v).put d u = putT (s.put d u) b v := by
 cases d with
 | none => rfl
 | some a => exact putT_comm s (fun e => h (by rw [e])) v u
theorem put_tm (s : St) (d : Option Nat) (v : AV) {t : Nat} (h : d ≠ some t) : (s.put d v).tm t = s.tm t := by
 cases d with
 | none => rfl
 | some a =>
   show upd s.tm a v t = _
   unfold upd
   rw [if_neg (fun e => h (by rw [e]))]
theorem put_get (s : St) (d : Option Nat) (v : AV) (l sl : Nat) : (s.put d v).get l sl = s.get l sl := by cases d <;> rfl
theorem put_setB (s : St) (d : Option Nat) (v : AV) (k : Nat) (C : Option ABox) : (setB s k C).put d v = setB (s.put d v) k C := by cases d <;> rfl
theorem put_bx (s : St) (d : Option Nat) (v : AV) (k : Nat) : (s.put d v).bx k = s.bx k := by cases d <;> rfl
theorem get_own (s : St) (k : Nat) : s.get s.lv k = s.bx k := if_pos rfl
theorem upd_at {α : Type} (f : Nat → α) (i : Nat) (v : α) : upd f i v i = v := if_pos rfl
theorem apart_ok {x y : IOper} {d : Nat} (h : apart x y = true) (hx : x.fp = .box d) (lv : Nat) : (y.op.rmem = true ∨ y.op.wmem = true) → ¬ y.fp.has lv lv d := by
 intro hm hh
 unfold apart at h
 rw [Bool.or_eq_true] at h
 rcases h with h | h
 ·rcases hm with hm | hm <;> simp [hm] at h
 ·exact meets_ok (by simpa using h) (by rw [hx]; exact ⟨rfl, rfl⟩) hh
theorem swap_ok {x y : IOper} (hi : indep x y = true) {s2 : St} (h1 : evOp O x s = some s1) (h2 : evOp O y s1 = some s2) : ∃ s1', evOp O y s = some s1' ∧ evOp O x s1' = some s2 := by
 unfold indep at hi
 simp only [Bool.and_eq_true, Bool.or_eq_true] at hi
 obtain ⟨⟨⟨⟨hd, he⟩, hty⟩, htx⟩, hc⟩ := hi
 have hdx : ∀ d, x.dst = some d → d ∉ ioReads y ∧ d ∉ y.op.takes := fun d hd' => by rw [hd'] at hd; simpa using hd
 have hdy : ∀ d, y.dst = some d → (d ∉ ioReads x ∧ d ∉ x.op.takes) ∧ x.dst ≠ some d := fun d hd' => by rw [hd'] at he; simpa using he
 have htk : ∀ t ∈ ioReads x, t ∉ y.op.takes := fun t ht1 ht2 => by
  have := List.all_eq_true.1 hty t ht2
  simp at this
  exact this ht1
 have htk' : ∀ t ∈ ioReads y, t ∉ x.op.takes := fun t ht1 ht2 => by
  have := List.all_eq_true.1 htx t ht2
  simp at this
  exact this ht1
 unfold evOp at h1 h2 ⊢
 obtain ⟨⟨vx, t0⟩, hx, rfl⟩ := Option.map_eq_some_iff.1 h1
 obtain ⟨⟨vy, t1⟩, hy, rfl⟩ := Option.map_eq_some_iff.1 h2
 simp only at hy ⊢
 rcases hc with ((((⟨ho, hm⟩ | ⟨ho, hm⟩) | ⟨ho, hm⟩) | ⟨ho, hm⟩) | ⟨ho, hm⟩) | ⟨ho, hm⟩
 ·obtain ⟨rfl, hf⟩ := evO_obs ho hx
  obtain ⟨e1, e2, e3⟩ := evO_eff hy
  have hy' : ∃ t1', evO O y t0 = some (vy, t1') ∧ (∀ t, x.dst ≠ some t → t1'.tm t = t1.tm t) ∧ (∀ l sl, t1'.get l sl = t1.get l sl) ∧ t1'.lv = t1.lv ∧ t1'.put x.dst vx = t1 := by
   cases hxd : x.dst with
   | none =>
     rw [hxd] at hy
     exact ⟨t1, hy, fun _ _ => rfl, fun _ _ => rfl, rfl, rfl⟩
   | some a =>
     rw [hxd, put_some] at hy
     have := evO_put hy (hdx a hxd).1 (t0.tm a)
     rw [putT_putT, putT_self] at this
     have hta : t1.tm a = vx := by
      have := e2 a (hdx a hxd).2
      rw [this, hxd]
      show upd t0.tm a vx a = vx
      unfold upd
      rw [if_pos rfl]
     refine ⟨_, this, fun t ht => ?_, fun _ _ => rfl, rfl, ?_⟩
     ·show upd t1.tm a _ t = _
      unfold upd
      rw [if_neg (fun e => ht (by rw [e]))]
     ·rw [put_some, putT_putT, ← hta, putT_self]
  obtain ⟨t1', q1, q2, q3, q4, q5⟩ := hy'
  refine ⟨t1'.put y.dst vy, by rw [q1]; rfl, ?_⟩
  have hx2 := hf (t1'.put y.dst vy) (by rw [put_lv, q4, e1, put_lv]) (fun t ht1 => by
   have n1 : y.dst ≠ some t := fun e => (hdy t e).1.1 ht1
   rw [put_tm _ _ _ n1]
   by_cases hxt : x.dst = some t
   ·-- x reads the slot that it writes: what it held
    have := (evO_eff q1).2.1 t (htk t ht1)
    exact this
   ·rw [q2 t hxt, e2 t (htk t ht1), put_tm _ _ _ hxt]) (fun hr l sl hfp => by
   rw [put_get, q3, e3 l sl (fun hw hyf => by
    rcases hm with hm | hm
    ·rcases hm with hm | hm
     ·rw [hr] at hm; cases hm
     ·rw [hw] at hm; cases hm
    ·exact meets_ok (by simpa using hm) hfp (by rw [put_lv] at hyf; exact hyf)), put_get])
  rw [hx2]
  simp only [Option.map_some]
  congr 1
  cases hyd : y.dst with
  | none => exact q5
  | some b =>
    rw [put_some, put_putT _ _ (hdy b hyd).2, q5, put_some]
 ·obtain ⟨e0, hf⟩ := evO_obs ho hy
  subst e0
  obtain ⟨e1, e2, e3⟩ := evO_eff hx
  have hy2 := hf s (by rw [put_lv, e1]) (fun t ht1 => by
   have n1 : x.dst ≠ some t := fun e => (hdx t e).1 ht1
   rw [put_tm _ _ _ n1, e2 t (htk' t ht1)]) (fun hr l sl hfp => by
   rw [put_get, e3 l sl (fun hw hxf => by
    rcases hm with hm | hm
    ·rcases hm with hm | hm
     ·rw [hr] at hm; cases hm
     ·rw [hw] at hm; cases hm
    ·exact meets_ok (by simpa using hm) hxf (by rw [put_lv, e1] at hfp; exact hfp))])
  refine ⟨s.put y.dst vy, by rw [hy2]; rfl, ?_⟩
  cases hyd : y.dst with
  | none => rw [put_none, hx]; rfl
  | some b =>
    rw [put_some, evO_put hx (hdy b hyd).1.1 vy]
    simp only [Option.map_some]
    rw [put_putT _ _ (hdy b hyd).2, put_some]
 ·obtain ⟨d, hod⟩ := Option.isSome_iff_exists.1 ho
  obtain ⟨hfp, C, rfl, hf⟩ := evO_own hod hx
  have hap := apart_ok hm hfp
  obtain ⟨e1, e2, e3⟩ := evO_eff hy
  have hy' : ∃ t1', evO O y (setB s d C) = some (vy, t1') ∧ (∀ t, x.dst ≠ some t → t1'.tm t = t1.tm t) ∧ t1'.lv = t1.lv ∧ t1'.bx d = t1.bx d ∧ t1'.put x.dst vx = t1 := by
   cases hxd : x.dst with
   | none =>
     rw [hxd] at hy
     exact ⟨t1, hy, fun _ _ => rfl, rfl, rfl, rfl⟩
   | some a =>
     rw [hxd, put_some] at hy
     have := evO_put hy (hdx a hxd).1 ((setB s d C).tm a)
     rw [putT_putT, putT_self] at this
     have hta : t1.tm a = vx := by
      have := e2 a (hdx a hxd).2
      rw [this, hxd]
      show upd (setB s d C).tm a vx a = vx
      unfold upd
      rw [if_pos rfl]
     refine ⟨_, this, fun t ht => ?_, rfl, rfl, ?_⟩
     ·show upd t1.tm a _ t = _
      unfold upd
      rw [if_neg (fun e => ht (by rw [e]))]
     ·rw [put_some, putT_putT, ← hta, putT_self]
  obtain ⟨t1', q1, q2, q4, q6, q5⟩ := hy'
  have hbd : t1.bx d = C := by
   have := e3 t1.lv d (fun hw hh => hap _ (.inr hw) (by rw [e1] at hh; exact hh))
   rw [get_own, e1] at this
   rw [this, put_lv]
   have h3 := get_own ((setB s d C).put x.dst vx) d
   rw [put_lv] at h3
   rw [h3, put_bx]
   exact upd_at _ _ _
  have k2 := evO_bx q1 (k := d) (hap _) (s.bx d)
  rw [setB_setB, setB_self] at k2
  obtain ⟨f1, f2, f3⟩ := evO_eff k2
  refine ⟨_, by rw [k2]; rfl, ?_⟩
  have k3 := hf ((setB t1' d (s.bx d)).put y.dst vy) (by rw [put_lv]; exact f1) (fun t ht => by
   rw [put_tm _ _ _ fun e => (hdy t e).1.1 ht]
   exact f2 t (htk t ht)) (by rw [put_bx]; exact upd_at _ _ _)
  simp only
  rw [k3]
  simp only [Option.map_some]
  congr 1
  rw [put_setB t1' y.dst vy, setB_setB]
  have h5 : setB (t1'.put y.dst vy) d C = t1'.put y.dst vy := by
   have : (t1'.put y.dst vy).bx d = C := by rw [put_bx, q6, hbd]
   rw [← this, setB_self]
  rw [h5]
  cases hyd : y.dst with
  | none => rw [put_none, put_none]; exact q5
  | some b =>
    rw [put_some, put_putT _ _ (hdy b hyd).2, q5, put_some]
 ·obtain ⟨e1, e2, e3⟩ := evO_eff hx
  obtain ⟨d, hod⟩ := Option.isSome_iff_exists.1 ho
  obtain ⟨hfp, C, rfl, hf⟩ := evO_own hod hy
  have hap := apart_ok hm hfp
  have hbd : t0.bx d = s.bx d := by
   have := e3 s.lv d (fun hw hh => hap _ (.inr hw) hh)
   rw [get_own, ← e1, get_own] at this
   exact this
  have k1 := hf s (by rw [put_lv, e1]) (fun t ht => by
   rw [put_tm _ _ _ fun e => (hdx t e).1 ht, e2 t (htk' t ht)]) (by rw [put_bx, hbd])
  refine ⟨_, by rw [k1]; rfl, ?_⟩
  simp only
  have k4 := evO_bx hx (k := d) (hap _) C
  cases hyd : y.dst with
  | none =>
    rw [put_none, k4, put_none]
    simp only [Option.map_some]
    rw [put_setB]
  | some b =>
    obtain ⟨⟨g1, g2⟩, g3⟩ := hdy b hyd
    rw [put_some, evO_put k4 g1 vy]
    simp only [Option.map_some]
    rw [put_putT _ _ g3, put_setB, put_some]
 ·obtain ⟨e0, hf⟩ := keep_any hm hy
  subst e0
  obtain ⟨e1, e2, e3⟩ := evO_eff hx
  have hp := take_plain ho hx
  have hy2 := hf s (by rw [put_lv, e1]) (fun t ht1 => by
   have n1 : x.dst ≠ some t := fun e => (hdx t e).1 ht1
   rw [put_tm _ _ _ n1, e2 t (htk' t ht1)]) (fun l sl => by rw [put_get, hp])
  refine ⟨s.put y.dst vy, by rw [hy2]; rfl, ?_⟩
  cases hyd : y.dst with
  | none => rw [put_none, hx]; rfl
  | some b =>
    rw [put_some, evO_put hx (hdy b hyd).1.1 vy]
    simp only [Option.map_some]
    rw [put_putT _ _ (hdy b hyd).2, put_some]
 ·obtain ⟨rfl, hf⟩ := keep_any ho hx
  obtain ⟨e1, e2, e3⟩ := evO_eff hy
  have hp := take_plain hm hy
  have hy' : ∃ t1', evO O y t0 = some (vy, t1') ∧ (∀ t, x.dst ≠ some t → t1'.tm t = t1.tm t) ∧ (∀ l sl, t1'.get l sl = t1.get l sl) ∧ t1'.lv = t1.lv ∧ t1'.put x.dst vx = t1 := by
   cases hxd : x.dst with
   | none =>
     rw [hxd] at hy
     exact ⟨t1, hy, fun _ _ => rfl, fun _ _ => rfl, rfl, rfl⟩
   | some a =>
     rw [hxd, put_some] at hy
     have := evO_put hy (hdx a hxd).1 (t0.tm a)
     rw [putT_putT, putT_self] at this
     have hta : t1.tm a = vx := by
      have := e2 a (hdx a hxd).2
      rw [this, hxd]
      show upd t0.tm a vx a = vx
      unfold upd
      rw [if_pos rfl]
     refine ⟨_, this, fun t ht => ?_, fun _ _ => rfl, rfl, ?_⟩
     ·show upd t1.tm a _ t = _
      unfold upd
      rw [if_neg (fun e => ht (by rw [e]))]
     ·rw [put_some, putT_putT, ← hta, putT_self]
  obtain ⟨t1', q1, q2, q3, q4, q5⟩ := hy'
  refine ⟨t1'.put y.dst vy, by rw [q1]; rfl, ?_⟩
  have hx2 := hf (t1'.put y.dst vy) (by rw [put_lv, q4, e1, put_lv]) (fun t ht1 => by
   have n1 : y.dst ≠ some t := fun e => (hdy t e).1.1 ht1
   rw [put_tm _ _ _ n1]
   by_cases hxt : x.dst = some t
   ·have := (evO_eff q1).2.1 t (htk t ht1)
    exact this
   ·rw [q2 t hxt, e2 t (htk t ht1), put_tm _ _ _ hxt]) (fun l sl => by rw [put_get, q3, hp, put_get])
  rw [hx2]
  simp only [Option.map_some]
  congr 1
  cases hyd : y.dst with
  | none => exact q5
  | some b =>
    rw [put_some, put_putT _ _ (hdy b hyd).2, q5, put_some]
theorem front_ok {iops : List IOper} {i : Nat} {io : IOper} (hi : iops[i]? = some io) {post : List Nat} : ∀ (pre : List Nat) (s : St), (∀ j ∈ pre, ∃ jo, iops[j]? = some jo ∧ indep jo io = true) → evIdx O iops (pre ++ i :: post) s = some s1 → ∃ s2, evOp O io s = some s2 ∧ evIdx O iops (pre ++ post) s2 = some s1
 | [], s, _, h => by
   simp only [List.nil_append, evIdx, hi] at h ⊢
   exact Option.bind_eq_some_iff.1 h
 | j :: pre, s, hp, h => by
   obtain ⟨jo, hj, hind⟩ := hp j (List.mem_cons_self ..)
   simp only [List.cons_append, evIdx, hj] at h
   obtain ⟨s2, h1, h2⟩ := Option.bind_eq_some_iff.1 h
   obtain ⟨s3, h3, h4⟩ := front_ok hi pre s2 (fun k hk => hp k (List.mem_cons_of_mem _ hk)) h2
   obtain ⟨s4, h5, h6⟩ := swap_ok hind h1 h3
   refine ⟨s4, h5, ?_⟩
   simp only [List.cons_append, evIdx, hj]
   rw [h6]
   exact h4
def waits (ops : Array Oper) : Nat → Nat → Nat → Bool
 | 0, _, _ => false
 | k + 1, i, j =>
   match ops[i]? with
   | some o => o.after.toList.any fun e => Region.binds .any e && (e.on == j || waits ops k e.on j)
   | none => false
def Closed (ops : Array Oper) (listed : Array Bool) : Prop := ∀ (i : Nat) o, listed.getD i false = true → ops[i]? = some o → ∀ e ∈ o.after, Region.binds .any e = true → listed.getD e.on false = true
theorem waits_done {ops : Array Oper} {listed : Array Bool} (hc : Closed ops listed) : ∀ (k i j : Nat) o, ops[i]? = some o → (∀ e ∈ o.after, Region.binds .any e = true → listed.getD e.on false = true) → waits ops k i j = true → listed.getD j false = true
 | 0, _, _, _, _, _, h => by cases h
 | k + 1, i, j, o, ho, hall, h => by
   unfold waits at h
   rw [ho] at h
   obtain ⟨e, he, hq⟩ := List.any_eq_true.1 h
   rw [Bool.and_eq_true, Bool.or_eq_true] at hq
   have hl := hall e (by simpa using he) hq.1
   rcases hq.2 with h1 | h1
   ·rw [← (by simpa using h1 : e.on = j)]; exact hl
   ·cases ho2 : ops[e.on]? with
    | none =>
      cases k with
      | zero => cases h1
      | succ k => unfold waits at h1; rw [ho2] at h1; cases h1
    | some o2 => exact waits_done hc k e.on j o2 ho2 (hc e.on o2 hl ho2) h1
theorem closed_set {ops : Array Oper} {listed : Array Bool} (hc : Closed ops listed) {i : Nat} {o : Oper} (ho : ops[i]? = some o) (hall : ∀ e ∈ o.after, Region.binds .any e = true → listed.getD e.on false = true) : Closed ops (listed.setIfInBounds i true) := by
 have up : ∀ j, listed.getD j false = true → (listed.setIfInBounds i true).getD j false = true := fun j h => by
  by_cases hj : i = j
  ·subst hj
   have hlt : i < listed.size := Classical.byContradiction fun hn => by
    rw [Array.getD_eq_getD_getElem?, Array.getElem?_eq_none (by omega)] at h
    cases h
   simp [hlt]
  ·rw [Array.getD_eq_getD_getElem?, Array.getElem?_setIfInBounds_ne hj, ← Array.getD_eq_getD_getElem?]
   exact h
 intro k o2 hk ho2 e he hb
 by_cases hki : i = k
 ·subst hki
  rw [ho] at ho2
  injection ho2 with ho2
  subst ho2
  exact up _ (hall e he hb)
 ·rw [Array.getD_eq_getD_getElem?, Array.getElem?_setIfInBounds_ne hki, ← Array.getD_eq_getD_getElem?] at hk
  exact up _ (hc k o2 hk ho2 e he hb)
def drawOk (ops : Array Oper) (iops : List IOper) : Bool :=
 (List.range iops.length).all fun i =>
   match ops[i]?, iops[i]? with
   | some o, some io =>
     o.after.toList.all (fun e => !Region.binds .any e || decide (e.on < i)) &&
     (List.range i).all fun j =>
       waits ops 4 i j ||
       match iops[j]? with
       | some jo => indep jo io
       | none => false
   | _, _ => false
structure DrawOk (ops : Array Oper) (iops : List IOper) : Prop where
 edge : ∀ (i : Nat) o, ops[i]? = some o → i < iops.length → ∀ e ∈ o.after, Region.binds .any e = true → e.on < i
 pair : ∀ (i j : Nat) o io, ops[i]? = some o → iops[i]? = some io → j < i → waits ops 4 i j = true ∨ ∃ jo, iops[j]? = some jo ∧ indep jo io = true
theorem drawOk_ok {ops : Array Oper} {iops : List IOper} (h : drawOk ops iops = true) : DrawOk ops iops := by
 unfold drawOk at h
 rw [List.all_eq_true] at h
 have key : ∀ (i : Nat) o io, ops[i]? = some o → iops[i]? = some io → _ := fun i o io ho hio => by
  have := h i (List.mem_range.2 (List.getElem?_eq_some_iff.1 hio).1)
  rw [ho, hio] at this
  simp only [Bool.and_eq_true, List.all_eq_true] at this
  exact this
 refine ⟨fun i o ho hi e he hb => ?_, fun i j o io ho hio hj => ?_⟩
 ·have := (key i o _ ho (List.getElem?_eq_getElem hi)).1 e (by simpa using he)
  simpa [hb] using this
 ·have := (key i o io ho hio).2 j (List.mem_range.2 hj)
  rw [Bool.or_eq_true] at this
  rcases this with this | this
  ·exact .inl this
  ·right
   cases hjo : iops[j]? with
   | none => rw [hjo] at this; cases this
   | some jo => rw [hjo] at this; exact ⟨jo, rfl, this⟩
def rest (n : Nat) (listed : Array Bool) : List Nat := (List.range n).filter fun i => !listed.getD i true
theorem any_ok (hO : OrcOk P O) {n : Nat} {ops : Array Oper} {iops : List IOper} (hr : RegOk P n ops iops) (hd : DrawOk ops iops) {Q : Exit → Act → World → Prop} : ∀ (fuel : Nat) (listed : Array Bool) (s : St) (a : Act) (φ : Nat → Nat → Option Blk) (W : Nat → Own) (w : World),
 listed.size = ops.size → Closed ops listed → (rest ops.size listed).length ≤ fuel → s.n = n → Rel w0 W0 s a φ W w → evIdx O iops (rest ops.size listed) s = some s1 → (∀ (a' : Act) w' φ W, a'.tmps.size = a.tmps.size → Rel w0 W0 s1 a' φ W w' → Q .normal a' w') →
 wpAny P .any ops Q fuel listed a w := by
 intro fuel
 have done : ∀ (listed : Array Bool), listed.size = ops.size → Region.ready .any ops listed = [] → rest ops.size listed = [] := by
  intro listed hls hrd
  cases hq : rest ops.size listed with
  | nil => rfl
  | cons i l =>
    exfalso
    have hmem : i ∈ rest ops.size listed := by rw [hq]; exact List.mem_cons_self ..
    have hm := List.mem_filter.1 hmem
    have hi := List.mem_range.1 hm.1
    have hsorted : (rest ops.size listed).Pairwise (· < ·) := List.Pairwise.filter _ List.pairwise_lt_range
    have hin : i ∈ Region.ready .any ops listed := by
     refine mem_ready.2 ⟨by simpa using hm.2, ops[i], Array.getElem?_eq_getElem hi, fun e he hb => ?_⟩
     have hlt := hd.edge i ops[i] (Array.getElem?_eq_getElem hi) (by rw [hr.size]; exact hi) e he hb
     cases hl : listed.getD e.on true with
     | true =>
       cases hz : listed[e.on]? with
       | none =>
         exfalso
         rw [Array.getElem?_eq_none_iff] at hz
         omega
       | some b =>
         rw [Array.getD_eq_getD_getElem?, hz] at hl
         simp at hl
         subst hl
         simp [hz]
     | false =>
       exfalso
       have : e.on ∈ rest ops.size listed := List.mem_filter.2 ⟨List.mem_range.2 (by omega), by simpa using hl⟩
       rw [hq] at this hsorted
       rcases List.mem_cons.1 this with h | h
       ·omega
       ·have := (List.pairwise_cons.1 hsorted).1 e.on h
        omega
    rw [hrd] at hin
    cases hin
 induction fuel with
 | zero =>
   intro listed s a φ W w hls hcl hlen hn h he hQ
   have hnil : rest ops.size listed = [] := List.eq_nil_of_length_eq_zero (by omega)
   rw [hnil] at he
   simp only [evIdx] at he
   injection he with he
   subst he
   refine ⟨?_, hQ a w φ W rfl h⟩
   cases hq : Region.ready .any ops listed with
   | nil => rfl
   | cons i l =>
     exfalso
     have hin : i ∈ Region.ready .any ops listed := by rw [hq]; exact List.mem_cons_self ..
     obtain ⟨h0, o, ho, _⟩ := mem_ready.1 hin
     have : i ∈ rest ops.size listed := List.mem_filter.2 ⟨List.mem_range.2 (Array.getElem?_eq_some_iff.1 ho).1, by simpa using h0⟩
     rw [hnil] at this
     cases this
 | succ fuel ih =>
   intro listed s a φ W w hls hcl hlen hn h he hQ
   refine ⟨fun hrd => ?_, fun i hi => ?_⟩
   ·rw [done listed hls hrd] at he
    simp only [evIdx] at he
    injection he with he
    subst he
    exact hQ a w φ W rfl h
   ·obtain ⟨h0, o, ho, hall⟩ := mem_ready.1 hi
    have hil := (Array.getElem?_eq_some_iff.1 ho).1
    have hmem : i ∈ rest ops.size listed := List.mem_filter.2 ⟨List.mem_range.2 hil, by simpa using h0⟩
    obtain ⟨pre, post, hpp⟩ := List.append_of_mem hmem
    have hio : iops[i]? = some (iops[i]'(by rw [hr.size]; exact hil)) := List.getElem?_eq_getElem _
    have hsorted : (rest ops.size listed).Pairwise (· < ·) := List.Pairwise.filter _ List.pairwise_lt_range
    rw [hpp] at hsorted he hlen
    have hprelt : ∀ j ∈ pre, j < i := fun j hj => (List.pairwise_append.1 hsorted).2.2 j hj i (List.mem_cons_self ..)
    have hpostlt : ∀ j ∈ post, i < j := fun j hj => (List.pairwise_cons.1 (List.pairwise_append.1 hsorted).2.1).1 j hj
    obtain ⟨s2, e1, e2⟩ := front_ok hio pre s (fun j hj => by
     rcases hd.pair i j o _ ho hio (hprelt j hj) with hwt | hjo
     ·exfalso
      have hjm : j ∈ rest ops.size listed := by rw [hpp]; exact List.mem_append_left _ hj
      have hjl := (List.mem_filter.1 hjm).2
      have := waits_done hcl 4 i j o ho hall hwt
      cases hz : listed[j]? with
      | none => rw [Array.getD_eq_getD_getElem?, hz] at this; simp at this
      | some b =>
        rw [Array.getD_eq_getD_getElem?, hz] at this hjl
        simp at this hjl
        rw [this] at hjl
        cases hjl
     ·exact hjo) he
    refine idx_ok hO hr hn hio h e1 fun a' w' φ' W' hs h' => ?_
    have hrest : rest ops.size (listed.setIfInBounds i true) = pre ++ post := by
     have : rest ops.size (listed.setIfInBounds i true) = (rest ops.size listed).filter (· != i) := by
      unfold rest
      rw [List.filter_filter]
      apply List.filter_congr
      intro k hk
      by_cases hki : k = i
      ·subst hki
       simp [getD_set, show k < listed.size by rw [hls]; exact hil]
      ·have : (listed.setIfInBounds i true).getD k true = listed.getD k true := getD_set_ne true (fun e => hki e.symm)
       rw [this]
       simp [hki]
     rw [this, hpp, List.filter_append]
     have f1 : pre.filter (· != i) = pre := List.filter_eq_self.2 fun j hj => by have := hprelt j hj; simp; omega
     have f2 : (i :: post).filter (· != i) = post := by
      simp
      intro j hj
      have := hpostlt j hj
      omega
     rw [f1, f2]
    exact ih (listed.setIfInBounds i true) s2 a' φ' W' w' (by simpa using hls) (closed_set hcl ho hall) (by rw [hrest]; simp at hlen ⊢; omega) (by rw [← h'.size, hs, h.size, hn]) h' (by rw [hrest]; exact e2) fun a2 w2 φ2 W2 hs2 h2 => hQ a2 w2 φ2 W2 (hs2.trans hs) h2
theorem region_draw_ok (hm : P.follows .mixedOrders = true) (hO : OrcOk P O) {n : Nat} {ops : Array Oper} {iops : List IOper} (hr : RegOk P n ops iops) (hd : DrawOk ops iops) {id : Nat} {Q : Exit → Act → World → Prop} (hn : s.n = n) (h : Rel w0 W0 s a φ W w) (he : evOps O iops s = some s1)
 (hQ : ∀ (a' : Act) w' φ W, a'.tmps.size = a.tmps.size → Rel w0 W0 s1 a' φ W w' → Q .normal a' w') : (Code.region id ops true).wp P Q a w := by
 refine wp_region_any hm ?_
 have hw := h.step (Step.drew w W) (fun g hg => by cases hg)
 have hall : rest ops.size (Array.replicate ops.size false) = List.range iops.length := by
  unfold rest
  rw [hr.size]
  refine List.filter_eq_self.2 fun i hi => ?_
  have := List.mem_range.1 hi
  simp [this]
 rw [evOps_range, ← hall] at he
 exact any_ok hO hr hd ops.size _ s a φ W _ (by simp) (fun i o hk => by
  rw [Array.getD_eq_getD_getElem?] at hk
  by_cases hi : i < ops.size
  ·simp [hi] at hk
  ·rw [Array.getElem?_eq_none (by simpa using hi)] at hk
   cases hk) (by rw [hall, List.length_range, hr.size]; exact Nat.le_refl _) hn hw he hQ
end
end Go.Ev
