/- Operations that may change places: the evaluator's answer is the same in either order. Condition: named in indep. -/
import Derived.Test.YtcnlfelalgaepaaGreatDoorEv0
namespace Go.Ev
set_option linter.all false
def X.isC : X → Bool
 | .c _ => true
 | .t _ => false
def xs1 : X → List Nat
 | .t n => [n]
 | .c _ => []
def xso : Option X → List Nat
 | some x => xs1 x
 | none => []
def IOp.reads : IOp → List Nat
 | .mov x _ | .box _ x | .load x _ _ | .chk x | .un _ x | .nilq _ x | .clone _ x _ _ _ | .cloneV _ x _ _ _ | .conv _ x | .mks _ _ _ x | .faddr x _ | .field x _ _ | .ext x _ _ | .len x | .lenS x | .rng x | .nxt x | .mkW _ _ _ x | .strw x => xs1 x
 | .pick c a b => xs1 c ++ xs1 a ++ xs1 b
 | .alloc _ _ => []
 | .build _ ps => ps.flatMap fun p => xs1 p.2.2
 | .buildP _ ps => ps.flatMap fun p => xs1 p.2.2
 | .bslice _ _ _ ps => ps.flatMap fun p => xs1 p.2
 | .store x y _ | .bin _ x y | .mm _ x y | .nat2 _ x y | .eqb _ x y | .eq _ _ x y | .iaddrS x y _ | .iaddrA x y _ _ | .idxS x y | .idxA x y _ _ _ | .app x y _ _ _ | .appW x y _ _ _ => xs1 x ++ xs1 y
 | .slice x lo hi _ | .substr x lo hi => xs1 x ++ xso lo ++ xso hi
 | .call _ f as => xs1 f ++ as.flatMap xs1
 | .mkf _ as => as.flatMap xs1
 | .callA f as => xs1 f ++ as.flatMap xs1
 | .callH f as => xs1 f ++ as.flatMap xs1
 | .callS f as => xs1 f ++ as.flatMap xs1
 | .arrS x lo hi _ _ => xs1 x ++ xso lo ++ xso hi
 | .copyA x y => xs1 x ++ xs1 y
 | .del _ x i j _ => xs1 x ++ xs1 i ++ xs1 j
 | .fail => []
def IOp.obs : IOp → Bool
 | .mov _ tk => !tk
 | .load _ _ tk => !tk
 | .call p _ _ => p
 | .ext _ _ tk => !tk
 | .build _ ps => ps.all fun p => p.2.2.isC
 | .alloc _ _ | .box _ _ | .store _ _ _ | .app _ _ _ _ _ | .clone _ _ _ _ _ | .callA _ _ | .callH _ _ | .del _ _ _ _ _ | .appW _ _ _ _ _ | .rng _ | .nxt _ | .mkW _ _ _ _ | .copyA _ _ => false
 | _ => true
def IOp.rmem : IOp → Bool
 | .load _ _ _ | .store _ _ _ | .callA _ _ | .callH _ _ | .del _ _ _ _ _ | .nxt _ | .strw _ | .callS _ _ | .copyA _ _ => true
 | .call p _ _ => !p
 | _ => false
def IOp.wmem : IOp → Bool
 | .alloc _ _ | .box _ _ | .store _ _ _ | .clone _ _ _ _ _ | .callA _ _ | .callH _ _ | .del _ _ _ _ _ | .appW _ _ _ _ _ | .rng _ | .nxt _ | .mkW _ _ _ _ | .copyA _ _ => true
 | .load _ _ tk => tk
 | .call p _ _ => !p
 | _ => false
def IOp.takes : IOp → List Nat
 | .mov x tk => if tk then xs1 x else []
 | .box _ x => xs1 x
 | .ext x _ tk => if tk then xs1 x else []
 | .build _ ps => ps.flatMap fun p => xs1 p.2.2
 | .store _ y _ => xs1 y
 | .app x _ _ _ _ | .appW x _ _ _ _ => xs1 x
 | _ => []
def IOp.reach (op : IOp) (d : Option Nat) (s : St) (l sl : Nat) : Prop :=
 match op with
 | .load x _ _ => ∃ o, s.evX x = .ptr l sl o
 | .store x _ _ => ∃ o, s.evX x = .ptr l sl o
 | .del _ x _ _ _ => ∃ o n z, s.evX x = .win l sl o n z
 | .strw x => ∃ o n z, s.evX x = .win l sl o n z ∨ s.evX x = .asl l sl o n z
 | .copyA x _ => ∃ o n z, s.evX x = .asl l sl o n z
 | .nxt x => ∃ o, s.evX x = .ptr l sl o
 | .alloc _ _ | .box _ _ | .clone _ _ _ _ _ | .appW _ _ _ _ _ | .rng _ | .mkW _ _ _ _ => l = s.lv ∧ d = some sl
 | .callH _ _ => l ≠ s.lv
 | _ => True
def putT (s : St) (x : Nat) (u : AV) : St := { s with tm := upd s.tm x u }
section
variable {O : Orc} {s s' s2 : St} {v u : AV} {op : IOp} {d : Option Nat} {t : Nat}
theorem evX_congr {x : X} (h : ∀ t ∈ xs1 x, s2.tm t = s.tm t) : s2.evX x = s.evX x := by
 cases x with
 | c v => rfl
 | t n => exact h n (by simp [xs1])
theorem evXo_congr {x : Option X} (h : ∀ t ∈ xso x, s2.tm t = s.tm t) : x.map s2.evX = x.map s.evX := by
 cases x with
 | none => rfl
 | some x => simp only [Option.map_some]; rw [evX_congr h]
theorem map_congr' {as : List X} (f : AV → AV) (h : ∀ t ∈ as.flatMap xs1, s2.tm t = s.tm t) : as.map (fun x => f (s2.evX x)) = as.map (fun x => f (s.evX x)) := by
 apply List.map_congr_left
 intro x hx
 rw [evX_congr fun t ht => h t (List.mem_flatMap.2 ⟨x, hx, ht⟩)]
theorem fillRows_congr {n : Nat} : ∀ {ps : List (Nat × X)} {rows : List (List AV)}, (∀ t ∈ ps.flatMap fun p => xs1 p.2, s2.tm t = s.tm t) → fillRows s2 n rows ps = fillRows s n rows ps
 | [], rows, _ => rfl
 | (i, x) :: ps, rows, h => by
   have h1 : s2.evX x = s.evX x := evX_congr fun t ht => h t (by simp [ht])
   simp only [fillRows, h1]
   split
   ·exact fillRows_congr fun t ht => h t (by simp at ht ⊢; exact .inr ht)
   ·rfl
theorem fillParts_const : ∀ {ps : List (Nat × Nat × X)} {s s' : St} {cs r : List AV}, (ps.all fun p => p.2.2.isC) = true → fillParts s cs ps = some (r, s') → s' = s ∧ ∀ s2 : St, fillParts s2 cs ps = some (r, s2)
 | [], s, s', cs, r, _, h => by
   simp only [fillParts, Option.some.injEq, Prod.mk.injEq] at h
   obtain ⟨rfl, rfl⟩ := h
   exact ⟨rfl, fun _ => rfl⟩
 | (o, n, x) :: ps, s, s', cs, r, hc, h => by
   rw [List.all_cons, Bool.and_eq_true] at hc
   cases x with
   | t k => cases hc.1
   | c v =>
     simp only [fillParts] at h
     split at h
     ·rename_i hv
      obtain ⟨h1, h2⟩ := fillParts_const (s := s) hc.2 h
      refine ⟨h1, fun s2 => ?_⟩
      have hv2 : (s2.evX (X.c v)).cells.length = n ∧ (s2.evX (X.c v)).known = true ∧ o + n ≤ cs.length := hv
      simp only [fillParts]
      rw [if_pos hv2]
      exact h2 s2
     ·cases h
theorem plainA_noOwn {v : AV} (h : plainA v = true) : v.noOwn = v := by
 have h1 : ∀ {c : AV}, plain1 c = true → c.noOwn1 = c := fun {c} hc => by
  cases c <;> try rfl
  rename_i o _ _
  cases o <;> first | rfl | (simp [plain1] at hc; done)
 cases v with
 | agg cs =>
   show AV.agg (cs.map AV.noOwn1) = AV.agg cs
   congr 1
   conv => rhs; rw [← List.map_id cs]
   exact List.map_congr_left fun c hc => h1 (List.all_eq_true.1 h c hc)
 | tup cs => cases h
 | sl o z r => cases o <;> first | rfl | (simp [plainA, plain1] at h; done)
 | _ => rfl
theorem use_plain {s : St} {x : X} (h : plainA (s.evX x) = true) : s.use x = s := by
 cases x with
 | c v => rfl
 | t n =>
   show { s with tm := upd s.tm n (s.tm n).noOwn } = s
   have : upd s.tm n (s.tm n).noOwn = s.tm := by
    funext k
    unfold upd
    split
    ·rename_i e; subst e; exact plainA_noOwn h
    ·rfl
   rw [this]
theorem fill_plain : ∀ {ps : List (Nat × Nat × X)} {s s' : St} {cs r : List AV}, (ps.all fun p => plainA (s.evX p.2.2)) = true → fillParts s cs ps = some (r, s') → s' = s
 | [], s, s', cs, r, _, h => by
   simp only [fillParts, Option.some.injEq, Prod.mk.injEq] at h
   exact h.2.symm
 | (o, n, x) :: ps, s, s', cs, r, hc, h => by
   rw [List.all_cons, Bool.and_eq_true] at hc
   simp only [fillParts] at h
   split at h
   ·rw [use_plain hc.1] at h
    exact fill_plain hc.2 h
   ·cases h
theorem fill_congr {s2 : St} : ∀ {ps : List (Nat × Nat × X)} {s s' : St} {cs r : List AV}, (ps.all fun p => plainA (s.evX p.2.2)) = true → (∀ p ∈ ps, s2.evX p.2.2 = s.evX p.2.2) → fillParts s cs ps = some (r, s') → fillParts s2 cs ps = some (r, s2)
 | [], s, s', cs, r, _, _, h => by
   simp only [fillParts, Option.some.injEq, Prod.mk.injEq] at h
   rw [← h.1]
   rfl
 | (o, n, x) :: ps, s, s', cs, r, hc, he, h => by
   rw [List.all_cons, Bool.and_eq_true] at hc
   have h1 : s2.evX x = s.evX x := he (o, n, x) (List.mem_cons_self ..)
   simp only [fillParts] at h ⊢
   rw [h1]
   split at h
   ·rename_i hv
    rw [use_plain hc.1] at h
    rw [if_pos hv, use_plain (by rw [h1]; exact hc.1)]
    exact fill_congr hc.2 (fun p hp => he p (List.mem_cons_of_mem _ hp)) h
   ·cases h
theorem snaps_congr {s s2 : St} (h : ∀ l sl, s2.get l sl = s.get l sl) : ∀ vs, snaps s2 vs = snaps s vs
 | [] => rfl
 | v :: r => by
   have h1 : snap1 s2 v = snap1 s v := by
    cases v <;> try rfl
    all_goals
     rename_i l sl o n z
     simp only [snap1, h l sl]
   simp only [snaps, h1, snaps_congr h r]
theorem obs_frame (ho : op.obs = true) (h : evVal O op d s = some (v, s')) : s' = s ∧ ∀ s2 : St, s2.lv = s.lv → (∀ t ∈ op.reads, s2.tm t = s.tm t) → (op.rmem = true → ∀ l sl, op.reach d s l sl → s2.get l sl = s.get l sl) → evVal O op d s2 = some (v, s2) := by
 cases op with
 | mov x tk =>
   simp only [IOp.obs, Bool.not_eq_true'] at ho
   subst ho
   simp only [evVal, Bool.false_eq_true, if_false] at h ⊢
   injection h with h; injection h with h1 h2; subst h1 h2
   exact ⟨rfl, fun s2 _ hr _ => by rw [evX_congr hr]⟩
 | load x agg tk =>
   simp only [IOp.obs, Bool.not_eq_true'] at ho
   subst ho
   simp only [evVal, Bool.false_eq_true, if_false] at h ⊢
   have key : s' = s := by
    split at h
    ·split at h
     ·split at h
      ·injection h with h; injection h with h1 h2; exact h2.symm
      ·cases h
     ·cases h
    ·obtain ⟨q, _, h⟩ := Option.map_eq_some_iff.1 h
     injection h with h1 h2; exact h2.symm
    ·obtain ⟨q, _, h⟩ := Option.map_eq_some_iff.1 h
     injection h with h1 h2; exact h2.symm
    ·cases h
   subst key
   refine ⟨rfl, fun s2 hl hr hm => ?_⟩
   rw [evX_congr hr]
   split at h
   ·rename_i l sl o hx
    simp only [hm rfl l sl ⟨o, hx⟩]
    split at h
    ·split at h
     ·injection h with h; injection h with h1 h2; subst h1; rfl
     ·cases h
    ·cases h
   ·obtain ⟨q, hq, h⟩ := Option.map_eq_some_iff.1 h
    injection h with h1 h2; subst h1
    simp only [hq, Option.map_some]
   ·obtain ⟨q, hq, h⟩ := Option.map_eq_some_iff.1 h
    injection h with h1 h2; subst h1
    simp only [hq, Option.map_some]
   ·cases h
 | call p f as =>
   simp only [IOp.obs] at ho
   subst ho
   simp only [evVal, if_true] at h ⊢
   have key : s' = s := by
    split at h
    ·split at h
     ·obtain ⟨q, _, h⟩ := Option.map_eq_some_iff.1 h
      injection h with h1 h2; exact h2.symm
     ·cases h
    ·cases h
   subst key
   refine ⟨rfl, fun s2 hl hr hm => ?_⟩
   rw [evX_congr fun t ht => hr t (by simp [IOp.reads, ht]), map_congr' AV.noOwn fun t ht => hr t (by simp only [IOp.reads, List.mem_append]; exact .inr ht)]
   split at h
   ·split at h
    ·obtain ⟨q, hq, h⟩ := Option.map_eq_some_iff.1 h
     injection h with h1 h2; subst h1
     rw [if_pos (by assumption), hq]
     rfl
    ·cases h
   ·cases h
 | alloc => cases ho
 | box => cases ho
 | build zero ps =>
   simp only [evVal] at h ⊢
   obtain ⟨⟨q, s1⟩, hq, h⟩ := Option.map_eq_some_iff.1 h
   injection h with h1 h2
   subst h1 h2
   obtain ⟨rfl, hf⟩ := fillParts_const ho hq
   exact ⟨rfl, fun s2 _ _ _ => by rw [hf s2]; rfl⟩
 | store => cases ho
 | ext x i tk =>
   simp only [IOp.obs, Bool.not_eq_true'] at ho
   subst ho
   simp only [evVal] at h ⊢
   refine ⟨?_, fun s2 _ hr _ => ?_⟩
   ·split at h
    ·obtain ⟨q, hq, h⟩ := Option.bind_eq_some_iff.1 h
     simp only [Bool.false_eq_true, if_false] at h
     split at h
     ·cases h
     ·injection h with h; injection h with h1 h2; exact h2.symm
    ·cases h
   ·rw [evX_congr (x := x) fun t ht => hr t (by simp [IOp.reads, ht])]
    split at h
    ·obtain ⟨q, hq, h⟩ := Option.bind_eq_some_iff.1 h
     simp only [Bool.false_eq_true, if_false] at h
     split at h
     ·cases h
     ·rename_i hc
      injection h with h; injection h with h1 h2; subst h1
      simp_all
    ·cases h
 | app => cases ho
 | clone => cases ho
 | callA => cases ho
 | callH => cases ho
 | buildP zero ps =>
   simp only [evVal] at h ⊢
   split at h
   case isFalse => cases h
   rename_i hp
   obtain ⟨⟨q, s1⟩, hq, h⟩ := Option.map_eq_some_iff.1 h
   injection h with h1 h2
   subst h1 h2
   refine ⟨rfl, fun s2 _ hr _ => ?_⟩
   have he : ∀ p ∈ ps, s2.evX p.2.2 = s.evX p.2.2 := fun p hp => evX_congr fun t ht => hr t (List.mem_flatMap.2 ⟨p, hp, ht⟩)
   have hp2 : (ps.all fun p => plainA (s2.evX p.2.2)) = true := by
    rw [List.all_eq_true] at hp ⊢
    intro p hm
    rw [he p hm]
    exact hp p hm
   rw [if_pos hp2, fill_congr hp he hq]
   rfl
 | callS f as =>
   simp only [evVal] at h ⊢
   have key : s' = s := by
    split at h
    ·split at h
     ·split at h
      ·split at h
       ·split at h
        ·injection h with h; injection h with h1 h2; exact h2.symm
        ·cases h
       ·cases h
      ·cases h
     ·cases h
    ·cases h
   subst key
   refine ⟨rfl, fun s2 hl hr hm => ?_⟩
   rw [evX_congr fun t ht => hr t (by simp [IOp.reads, ht]), map_congr' AV.noOwn fun t ht => hr t (by simp only [IOp.reads, List.mem_append]; exact .inr ht)]
   simp only [snaps_congr fun l sl => hm rfl l sl trivial]
   split at h
   ·rename_i g caps hf
    split at h
    ·rename_i vs hvs
     split at h
     ·rename_i hp
      split at h
      ·rename_i rs low hc
       split at h
       ·rename_i hfl
        injection h with h; injection h with h5 h6; subst h5
        simp only [hf, hvs, hp, hc, hfl, if_true]
       ·cases h
      ·cases h
     ·cases h
    ·cases h
   ·cases h
 | appW => cases ho
 | del => cases ho
 | rng => cases ho
 | nxt => cases ho
 | mkW => cases ho
 | copyA => cases ho
 | strw x =>
   simp only [evVal] at h ⊢
   have key : s' = s := by
    split at h
    ·obtain ⟨q, _, h⟩ := Option.map_eq_some_iff.1 h
     injection h with h1 h2; exact h2.symm
    ·split at h
     ·split at h
      ·obtain ⟨q, _, h⟩ := Option.map_eq_some_iff.1 h
       injection h with h1 h2; exact h2.symm
      ·cases h
     ·cases h
    ·split at h
     ·split at h
      ·obtain ⟨q, _, h⟩ := Option.map_eq_some_iff.1 h
       injection h with h1 h2; exact h2.symm
      ·cases h
     ·cases h
    ·cases h
   subst key
   refine ⟨rfl, fun s2 hl hr hm => ?_⟩
   rw [evX_congr hr]
   split at h
   ·obtain ⟨q, hq, h⟩ := Option.map_eq_some_iff.1 h
    injection h with h1 h2; subst h1
    simp only [hq, Option.map_some]
   ·rename_i l sl o n z hx
    simp only [hm rfl l sl ⟨o, n, z, .inl hx⟩]
    split at h
    ·split at h
     ·rename_i hc
      obtain ⟨q, hq, h⟩ := Option.map_eq_some_iff.1 h
      injection h with h1 h2; subst h1
      rw [if_pos hc, hq]
      rfl
     ·cases h
    ·cases h
   ·rename_i l sl o n z hx
    simp only [hm rfl l sl ⟨o, n, z, .inr hx⟩]
    split at h
    ·split at h
     ·rename_i hc
      obtain ⟨q, hq, h⟩ := Option.map_eq_some_iff.1 h
      injection h with h1 h2; subst h1
      rw [if_pos hc, hq]
      rfl
     ·cases h
    ·cases h
   ·cases h
 | fail => simp only [evVal] at h; cases h
 | bslice e zero n ps =>
   simp only [evVal] at h ⊢
   obtain ⟨q, hq, h⟩ := Option.map_eq_some_iff.1 h
   injection h with h1 h2; subst h1 h2
   exact ⟨rfl, fun s2 _ hr _ => by rw [fillRows_congr hr, hq]; rfl⟩
 | mkf f as =>
   simp only [evVal] at h ⊢
   injection h with h; injection h with h1 h2; subst h1 h2
   exact ⟨rfl, fun s2 _ hr _ => by rw [map_congr' AV.noOwn hr]⟩
 | pick c a b =>
   simp only [evVal] at h ⊢
   split at h
   ·rename_i q hq
    injection h with h; injection h with h1 h2; subst h1 h2
    exact ⟨rfl, fun s2 _ hr _ => by
     rw [evX_congr (x := c) fun t ht => hr t (by simp [IOp.reads, ht]), evX_congr (x := a) fun t ht => hr t (by simp [IOp.reads, ht]), evX_congr (x := b) fun t ht => hr t (by simp [IOp.reads, ht]), hq]⟩
   ·cases h
 | slice x lo hi sz =>
   simp only [evVal] at h ⊢
   obtain ⟨q, hq, h⟩ := Option.map_eq_some_iff.1 h
   injection h with h1 h2; subst h1 h2
   exact ⟨rfl, fun s2 _ hr _ => by
    rw [evX_congr (x := x) fun t ht => hr t (by simp [IOp.reads, ht]), evXo_congr (x := lo) fun t ht => hr t (by simp [IOp.reads, ht]), evXo_congr (x := hi) fun t ht => hr t (by simp [IOp.reads, ht]), hq]; rfl⟩
 | arrS x lo hi n sz =>
   simp only [evVal] at h ⊢
   obtain ⟨q, hq, h⟩ := Option.map_eq_some_iff.1 h
   injection h with h1 h2; subst h1 h2
   exact ⟨rfl, fun s2 _ hr _ => by
    rw [evX_congr (x := x) fun t ht => hr t (by simp [IOp.reads, ht]), evXo_congr (x := lo) fun t ht => hr t (by simp [IOp.reads, ht]), evXo_congr (x := hi) fun t ht => hr t (by simp [IOp.reads, ht]), hq]; rfl⟩
 | substr x lo hi =>
   simp only [evVal] at h ⊢
   obtain ⟨q, hq, h⟩ := Option.map_eq_some_iff.1 h
   injection h with h1 h2; subst h1 h2
   exact ⟨rfl, fun s2 _ hr _ => by
    rw [evX_congr (x := x) fun t ht => hr t (by simp [IOp.reads, ht]), evXo_congr (x := lo) fun t ht => hr t (by simp [IOp.reads, ht]), evXo_congr (x := hi) fun t ht => hr t (by simp [IOp.reads, ht]), hq]; rfl⟩
 | nilq neg x | chk x | faddr x off | field x off agg | len x | lenS x | mks e b z x | cloneV g x e sz bytes =>
   simp only [evVal] at h ⊢
   refine ⟨?_, fun s2 _ hr _ => ?_⟩
   ·repeat' (split at h)
    all_goals first
     | cases h; done
     | (injection h with h; injection h with h1 h2; exact h2.symm)
     | (obtain ⟨q, _, h⟩ := Option.map_eq_some_iff.1 h; injection h with h1 h2; exact h2.symm)
   ·rw [evX_congr (x := x) fun t ht => hr t (by simp [IOp.reads, ht])]
    repeat' (split at h)
    all_goals first
     | cases h; done
     | (injection h with h; injection h with h1 h2; subst h1; simp_all)
     | (obtain ⟨q, hq, h⟩ := Option.map_eq_some_iff.1 h; injection h with h1 h2; subst h1; simp_all)
 | un op x | conv k x =>
   simp only [evVal] at h ⊢
   obtain ⟨q, hq, h⟩ := Option.map_eq_some_iff.1 h
   injection h with h1 h2; subst h1 h2
   exact ⟨rfl, fun s2 _ hr _ => by rw [evX_congr (x := x) fun t ht => hr t (by simp [IOp.reads, ht]), hq]; rfl⟩
 | bin op x y =>
   simp only [evVal] at h ⊢
   obtain ⟨q, hq, h⟩ := Option.map_eq_some_iff.1 h
   injection h with h1 h2; subst h1 h2
   exact ⟨rfl, fun s2 _ hr _ => by rw [evX_congr (x := x) fun t ht => hr t (by simp [IOp.reads, ht]), evX_congr (x := y) fun t ht => hr t (by simp [IOp.reads, ht]), hq]; rfl⟩
 | mm mx x y =>
   simp only [evVal] at h ⊢
   refine ⟨?_, fun s2 _ hr _ => ?_⟩
   ·split at h
    ·injection h with h; injection h with h1 h2; exact h2.symm
    ·cases h
   ·rw [evX_congr (x := x) fun t ht => hr t (by simp [IOp.reads, ht]), evX_congr (x := y) fun t ht => hr t (by simp [IOp.reads, ht])]
    split at h
    ·rename_i q1 q2
     injection h with h; injection h with h1 h2; subst h1
     rfl
    ·cases h
 | nat2 k x y | eqb neg x y | eq neg ks x y | iaddrS x y sz | iaddrA x y n sz | idxS x y | idxA x y n sz agg =>
   simp only [evVal] at h ⊢
   refine ⟨?_, fun s2 _ hr _ => ?_⟩
   ·repeat' (split at h)
    all_goals first
     | cases h; done
     | (injection h with h; injection h with h1 h2; exact h2.symm)
     | (obtain ⟨q, _, h⟩ := Option.map_eq_some_iff.1 h; injection h with h1 h2; exact h2.symm)
   ·rw [evX_congr (x := x) fun t ht => hr t (by simp [IOp.reads, ht]), evX_congr (x := y) fun t ht => hr t (by simp [IOp.reads, ht])]
    repeat' (split at h)
    all_goals first
     | cases h; done
     | (injection h with h; injection h with h1 h2; subst h1; simp_all)
     | (obtain ⟨q, hq, h⟩ := Option.map_eq_some_iff.1 h; injection h with h1 h2; subst h1; simp_all)
theorem upd_comm {α : Type} (f : Nat → α) {i j : Nat} (a b : α) (h : i ≠ j) : upd (upd f i a) j b = upd (upd f j b) i a := by
 funext k
 unfold upd
 by_cases h1 : k = j
 ·by_cases h2 : k = i
  ·exact absurd (h2.symm.trans h1) h
  ·simp [h1, h2]; intro h3; exact absurd h3.symm h
 ·simp [h1]
theorem upd_self {α : Type} (f : Nat → α) (i : Nat) : upd f i (f i) = f := by
 funext k
 unfold upd
 split
 ·rename_i h; rw [h]
 ·rfl
theorem upd_upd {α : Type} (f : Nat → α) (i : Nat) (a b : α) : upd (upd f i a) i b = upd f i b := by
 funext k
 unfold upd
 split <;> rfl
theorem putT_evX {x : Nat} {y : X} (h : x ∉ xs1 y) : (putT s x u).evX y = s.evX y := by
 cases y with
 | c v => rfl
 | t n =>
   show upd s.tm x u n = s.tm n
   unfold upd
   rw [if_neg (fun e => h (by simp [xs1, e]))]
theorem putT_use {x : Nat} {y : X} (h : x ∉ xs1 y) : (putT s x u).use y = putT (s.use y) x u := by
 cases y with
 | c v => rfl
 | t n =>
   have hn : x ≠ n := fun e => h (by simp [xs1, e])
   simp only [St.use, putT]
   have : upd s.tm x u n = s.tm n := by unfold upd; rw [if_neg (fun e => hn e.symm)]
   rw [this, upd_comm _ _ _ hn]
theorem putT_setBox (x : Nat) (l sl : Nat) (B : ABox) : (putT s x u).setBox l sl B = putT (s.setBox l sl B) x u := by
 unfold St.setBox putT
 split <;> rfl
theorem putT_fill {x : Nat} : ∀ {ps : List (Nat × Nat × X)} {s : St} {cs cs' : List AV} {s' : St}, x ∉ (ps.flatMap fun p => xs1 p.2.2) → fillParts s cs ps = some (cs', s') → fillParts (putT s x u) cs ps = some (cs', putT s' x u)
 | [], s, cs, cs', s', _, h => by
   simp only [fillParts] at h ⊢
   injection h with h; injection h with h1 h2; subst h1 h2; rfl
 | (o, n, y) :: ps, s, cs, cs', s', hx, h => by
   have h1 : x ∉ xs1 y := fun q => hx (by simp [q])
   simp only [fillParts] at h ⊢
   rw [putT_evX h1]
   split at h
   ·rename_i hc
    rw [if_pos hc, putT_use h1]
    exact putT_fill (fun q => hx (by simp at q ⊢; exact .inr q)) h
   ·cases h
theorem put_frame (h : evVal O op d s = some (v, s')) {x : Nat} (hx : x ∉ op.reads) (u : AV) : evVal O op d (putT s x u) = some (v, putT s' x u) := by
 by_cases ho : op.obs = true
 ·obtain ⟨rfl, hf⟩ := obs_frame ho h
  refine hf _ rfl (fun t ht => ?_) (fun _ _ _ _ => rfl)
  show upd s'.tm x u t = s'.tm t
  unfold upd
  rw [if_neg (show ¬ t = x from fun e => hx (by rw [← e]; exact ht))]
 ·cases op <;> simp only [IOp.obs, Bool.not_eq_true', Bool.not_eq_true, Bool.not_eq_false] at ho
  case mov y tk =>
   subst ho
   simp only [evVal, if_true] at h ⊢
   injection h with h; injection h with h1 h2; subst h1 h2
   rw [putT_evX hx, putT_use hx]
  case load y agg tk =>
   subst ho
   simp only [evVal, if_true] at h ⊢
   rw [putT_evX hx]
   split at h
   ·rename_i l sl o hy
    have hg : (putT s x u).get l sl = s.get l sl := rfl
    try simp only [hy]
    try rw [hg]
    split at h
    ·rename_i t' cs hb
     split at h
     ·rename_i r hr
      split at h
      ·rename_i hone
       injection h with h; injection h with h1 h2; subst h1 h2
       try simp only [hr]
       rw [putT_setBox]
       exact if_pos hone
      ·cases h
     ·cases h
    ·cases h
   ·obtain ⟨q, hq, h⟩ := Option.map_eq_some_iff.1 h
    injection h with h1 h2; subst h1 h2
    simp only [hq, Option.map_some]
   ·obtain ⟨q, hq, h⟩ := Option.map_eq_some_iff.1 h
    injection h with h1 h2; subst h1 h2
    simp only [hq, Option.map_some]
   ·cases h
  case call p f as =>
   subst ho
   simp only [evVal, Bool.false_eq_true, if_false] at h ⊢
   have hf : x ∉ xs1 f := fun q => hx (by simp [IOp.reads, q])
   rw [putT_evX hf]
   have has : as.map (fun y => ((putT s x u).evX y).noOwn) = as.map (fun y => (s.evX y).noOwn) := by
    apply List.map_congr_left
    intro y hy
    rw [putT_evX fun q => hx (by simp only [IOp.reads, List.mem_append, List.mem_flatMap]; exact .inr ⟨y, hy, q⟩)]
   split at h
   ·obtain ⟨q, hq, h⟩ := Option.map_eq_some_iff.1 h
    injection h with h1 h2; subst h1 h2
    rw [has]
    show Option.map _ (O.call _ _ _ _) = _
    have : (putT s x u).mem = s.mem := rfl
    rw [this]
    show Option.map _ (O.call _ _ _ (s.lv + 1)) = _
    rw [hq]
    rfl
   ·cases h
  case alloc t cs =>
   simp only [evVal] at h ⊢
   split at h
   ·split at h
    ·rename_i hc
     injection h with h; injection h with h1 h2; subst h1 h2
     exact if_pos hc
    ·cases h
   ·cases h
  case box t y =>
   simp only [evVal] at h ⊢
   rw [putT_evX hx, putT_use hx]
   split at h
   ·split at h
    ·rename_i hc
     injection h with h; injection h with h1 h2; subst h1 h2
     exact if_pos hc
    ·cases h
   ·cases h
  case build zero ps =>
   simp only [evVal] at h ⊢
   obtain ⟨⟨cs, s1⟩, hq, h⟩ := Option.map_eq_some_iff.1 h
   injection h with h1 h2; subst h1 h2
   rw [putT_fill hx hq]
   rfl
  case store y z sz =>
   simp only [evVal] at h ⊢
   have h1 : x ∉ xs1 y := fun q => hx (by simp [IOp.reads, q])
   have h2 : x ∉ xs1 z := fun q => hx (by simp [IOp.reads, q])
   rw [putT_evX h1, putT_evX h2, putT_use h2]
   split at h
   ·rename_i l sl o hy
    have hg : (putT s x u).get l sl = s.get l sl := rfl
    try simp only [hy]
    try rw [hg]
    split at h
    ·split at h
     ·rename_i hc
      injection h with h; injection h with h1 h2; subst h1 h2
      rw [putT_setBox]
      exact if_pos hc
     ·cases h
    ·cases h
   ·cases h
  case ext y i tk =>
   subst ho
   simp only [evVal, if_true] at h ⊢
   rw [putT_evX hx]
   split at h
   ·rename_i vs n hy
    obtain ⟨q, hq, h⟩ := Option.bind_eq_some_iff.1 h
    have hn : x ≠ n := fun e => hx (by simp [IOp.reads, xs1, e])
    simp only [hq, Option.bind_some]
    split at h
    ·cases h
    ·rename_i hc
     injection h with h; injection h with h1 h2; subst h1 h2
     rw [if_neg hc]
     simp only [putT]
     rw [upd_comm _ _ _ hn]
   ·cases h
  case app y z e sz by' =>
   simp only [evVal] at h ⊢
   have h1 : x ∉ xs1 y := fun q => hx (by simp [IOp.reads, q])
   have h2 : x ∉ xs1 z := fun q => hx (by simp [IOp.reads, q])
   rw [putT_evX h1, putT_evX h2, putT_use h1]
   split at h
   ·split at h
    ·rename_i hc
     injection h with h; injection h with h1 h2; subst h1 h2
     exact if_pos hc
    ·cases h
   ·cases h
  case appW y z e sz by' =>
   simp only [evVal] at h ⊢
   have h1 : x ∉ xs1 y := fun q => hx (by simp [IOp.reads, q])
   have h2 : x ∉ xs1 z := fun q => hx (by simp [IOp.reads, q])
   rw [putT_evX h1, putT_evX h2, putT_use h1]
   split at h
   ·split at h
    ·rename_i hc
     split at h
     ·rename_i h0
      injection h with h; injection h with h1 h2; subst h1 h2
      exact (if_pos hc).trans (if_pos h0)
     ·rename_i h0
      injection h with h; injection h with h1 h2; subst h1 h2
      exact (if_pos hc).trans (if_neg h0)
    ·cases h
   ·cases h
  case clone g y e sz by' =>
   simp only [evVal] at h ⊢
   rw [putT_evX hx]
   split at h
   ·split at h
    ·rename_i hc
     split at h
     ·rename_i h0
      injection h with h; injection h with h1 h2; subst h1 h2
      exact (if_pos hc).trans (if_pos h0)
     ·rename_i h0
      injection h with h; injection h with h1 h2; subst h1 h2
      exact (if_pos hc).trans (if_neg h0)
    ·cases h
   ·cases h
  case callH f as =>
   simp only [evVal] at h ⊢
   have hf : x ∉ xs1 f := fun q => hx (by simp [IOp.reads, q])
   rw [putT_evX hf]
   have has : as.map (fun y => ((putT s x u).evX y).noOwn) = as.map (fun y => (s.evX y).noOwn) := by
    apply List.map_congr_left
    intro y hy
    rw [putT_evX fun q => hx (by simp only [IOp.reads, List.mem_append, List.mem_flatMap]; exact .inr ⟨y, hy, q⟩)]
   split at h
   ·rw [has]
    show (if okPs (fun l _ => decide (l ≠ s.lv)) _ = true then (match O.call _ _ (hidMem s.lv s.mem) (s.lv + 1) with | some (rs, low') => _ | none => none) else none) = _
    split at h
    ·rename_i hv
     rw [if_pos hv]
     split at h
     ·rename_i hq
      rw [hq]
      split at h
      ·rename_i hc
       injection h with h; injection h with h1 h2; subst h1 h2
       exact if_pos hc
      ·cases h
     ·cases h
    ·cases h
   ·cases h
  case callA f as =>
   simp only [evVal] at h ⊢
   have hf : x ∉ xs1 f := fun q => hx (by simp [IOp.reads, q])
   rw [putT_evX hf]
   have has : as.map (fun y => ((putT s x u).evX y).noOwn) = as.map (fun y => (s.evX y).noOwn) := by
    apply List.map_congr_left
    intro y hy
    rw [putT_evX fun q => hx (by simp only [IOp.reads, List.mem_append, List.mem_flatMap]; exact .inr ⟨y, hy, q⟩)]
   split at h
   ·rw [has]
    show (match O.carry _ _ s.mem (s.lv + 1) with | some (some B, (o, n, z), low') => _ | some (none, (_, _, z), low') => _ | none => none) = _
    split at h
    ·rename_i hq
     rw [hq]
     split at h
     ·rename_i hc
      injection h with h; injection h with h1 h2; subst h1 h2
      exact if_pos hc
     ·cases h
    ·rename_i hq
     rw [hq]
     injection h with h; injection h with h1 h2; subst h1 h2
     rfl
    ·cases h
   ·cases h
  case copyA y z =>
   simp only [evVal] at h ⊢
   have h1 : x ∉ xs1 y := fun q => hx (by simp [IOp.reads, q])
   have h2 : x ∉ xs1 z := fun q => hx (by simp [IOp.reads, q])
   rw [putT_evX h1, putT_evX h2]
   split at h
   ·rename_i e1 e2
    injection h with h; injection h with q1 q2; subst q1 q2
    simp only [e1, e2]
   ·rename_i l sl o n zz own z' rows e1 e2
    have hg : (putT s x u).get l sl = s.get l sl := rfl
    simp only [e1, e2, hg]
    split at h
    ·split at h
     ·rename_i hc
      injection h with h; injection h with q1 q2; subst q1 q2
      rw [putT_setBox]
      exact if_pos hc
     ·cases h
    ·cases h
   ·cases h
  case del g y i j sz =>
   simp only [evVal] at h ⊢
   have h1 : x ∉ xs1 y := fun q => hx (by simp [IOp.reads, q])
   have h2 : x ∉ xs1 i := fun q => hx (by simp [IOp.reads, q])
   have h3 : x ∉ xs1 j := fun q => hx (by simp [IOp.reads, q])
   rw [putT_evX h1, putT_evX h2, putT_evX h3]
   split at h
   ·rename_i l sl o n z a b e1 e2 e3
    have hg : (putT s x u).get l sl = s.get l sl := rfl
    simp only [e1, e2, e3, hg]
    split at h
    ·split at h
     ·rename_i hc
      injection h with h; injection h with q1 q2; subst q1 q2
      rw [putT_setBox]
      exact if_pos hc
     ·cases h
    ·cases h
   ·cases h
  case rng y =>
   simp only [evVal] at h ⊢
   rw [putT_evX hx]
   split at h
   ·split at h
    ·rename_i hc
     injection h with h; injection h with h1 h2; subst h1 h2
     exact if_pos hc
    ·cases h
   ·cases h
  case nxt y =>
   simp only [evVal] at h ⊢
   rw [putT_evX hx]
   split at h
   ·rename_i l sl o hy
    have hg : (putT s x u).get l sl = s.get l sl := rfl
    try simp only [hy]
    try rw [hg]
    split at h
    ·split at h
     ·cases h
     rename_i h0
     split at h
     ·rename_i hc
      injection h with h; injection h with h1 h2; subst h1 h2
      rw [putT_setBox]
      exact (if_neg h0).trans (if_pos hc)
     ·rename_i hc
      injection h with h; injection h with h1 h2; subst h1 h2
      exact (if_neg h0).trans (if_neg hc)
    ·cases h
   ·cases h
  case mkW e by' zero y =>
   simp only [evVal] at h ⊢
   rw [putT_evX hx]
   split at h
   ·split at h
    ·rename_i hc
     split at h
     ·rename_i h0
      injection h with h; injection h with h1 h2; subst h1 h2
      exact (if_pos hc).trans (if_pos h0)
     ·rename_i h0
      injection h with h; injection h with h1 h2; subst h1 h2
      exact (if_pos hc).trans (if_neg h0)
    ·cases h
   ·cases h
  all_goals simp at ho
theorem use_tm {x : X} (ht : t ∉ xs1 x) : (s.use x).tm t = s.tm t := by
 cases x with
 | c v => rfl
 | t n =>
   show upd s.tm n _ t = _
   unfold upd
   rw [if_neg (fun e => ht (by simp [xs1, e]))]
theorem fill_eff : ∀ {ps : List (Nat × Nat × X)} {s : St} {cs cs' : List AV} {s' : St}, fillParts s cs ps = some (cs', s') → s'.lv = s.lv ∧ (∀ t, t ∉ (ps.flatMap fun p => xs1 p.2.2) → s'.tm t = s.tm t) ∧ ∀ l sl, s'.get l sl = s.get l sl
 | [], s, cs, cs', s', h => by
   simp only [fillParts] at h
   injection h with h; injection h with h1 h2; subst h1 h2
   exact ⟨rfl, fun _ _ => rfl, fun _ _ => rfl⟩
 | (o, n, y) :: ps, s, cs, cs', s', h => by
   simp only [fillParts] at h
   split at h
   ·obtain ⟨h1, h2, h3⟩ := fill_eff h
    have hlv : (s.use y).lv = s.lv := by cases y <;> rfl
    have hg : ∀ l sl, (s.use y).get l sl = s.get l sl := fun l sl => by cases y <;> rfl
    exact ⟨h1.trans hlv, fun t ht => (h2 t (fun q => ht (by simp at q ⊢; exact .inr q))).trans (use_tm fun q => ht (by simp [q])), fun l sl => (h3 l sl).trans (hg l sl)⟩
   ·cases h
theorem setBox_eff (s : St) (l sl : Nat) (B : ABox) : (s.setBox l sl B).lv = s.lv ∧ (s.setBox l sl B).tm = s.tm := by unfold St.setBox; split <;> exact ⟨rfl, rfl⟩
def setB (s : St) (k : Nat) (C : Option ABox) : St := { s with bx := upd s.bx k C }
theorem setB_get {l sl k : Nat} (C : Option ABox) (h : l = s.lv → sl = k → False) : (setB s k C).get l sl = s.get l sl := by
 unfold St.get setB
 simp only
 split
 ·rename_i hl
  unfold upd
  rw [if_neg fun e => h hl e]
 ·rfl
theorem setBox_get {l sl l2 sl2 : Nat} (B : ABox) (h : l2 = l → sl2 = sl → False) : (s.setBox l sl B).get l2 sl2 = s.get l2 sl2 := by
 unfold St.get St.setBox
 by_cases hl : l = s.lv
 ·rw [if_pos hl]
  simp only
  split
  ·rename_i h2
   unfold upd
   rw [if_neg fun e => h (h2.trans hl.symm) e]
  ·rfl
 ·rw [if_neg hl]
  simp only
  split
  ·rfl
  ·split
   ·unfold upd
    by_cases h3 : l2 = l
    ·rw [if_pos h3, if_neg fun e => h h3 e, h3]
    ·rw [if_neg h3]
   ·rfl
theorem op_eff (h : evVal O op d s = some (v, s')) : s'.lv = s.lv ∧ (∀ t, t ∉ op.takes → s'.tm t = s.tm t) ∧ (∀ l sl, (op.wmem = true → ¬ op.reach d s l sl) → s'.get l sl = s.get l sl) := by
 by_cases ho : op.obs = true
 ·obtain ⟨rfl, _⟩ := obs_frame ho h
  exact ⟨rfl, fun _ _ => rfl, fun _ _ _ => rfl⟩
 ·have ulv : ∀ y : X, (s.use y).lv = s.lv := fun y => by cases y <;> rfl
  have ug : ∀ (y : X) l sl, (s.use y).get l sl = s.get l sl := fun y l sl => by cases y <;> rfl
  cases op <;> simp only [IOp.obs, Bool.not_eq_true', Bool.not_eq_true, Bool.not_eq_false] at ho
  case mov y tk =>
   subst ho
   simp only [evVal, if_true] at h
   injection h with h; injection h with h1 h2; subst h1 h2
   exact ⟨ulv y, fun t ht => use_tm (by simpa [IOp.takes] using ht), fun l sl _ => ug y l sl⟩
  case load y agg tk =>
   subst ho
   simp only [evVal, if_true] at h
   split at h
   ·split at h
    ·split at h
     ·split at h
      ·injection h with h; injection h with h1 h2; subst h1 h2
       refine ⟨(setBox_eff _ _ _ _).1, fun t _ => by rw [(setBox_eff _ _ _ _).2], fun l2 sl2 hw => setBox_get _ fun e1 e2 => by subst e1 e2; exact hw rfl ⟨_, by assumption⟩⟩
      ·cases h
     ·cases h
    ·cases h
   ·obtain ⟨q, hq, h⟩ := Option.map_eq_some_iff.1 h
    injection h with h1 h2; subst h1 h2
    exact ⟨rfl, fun _ _ => rfl, fun _ _ _ => rfl⟩
   ·obtain ⟨q, hq, h⟩ := Option.map_eq_some_iff.1 h
    injection h with h1 h2; subst h1 h2
    exact ⟨rfl, fun _ _ => rfl, fun _ _ _ => rfl⟩
   ·cases h
  case call p f as =>
   subst ho
   simp only [evVal, Bool.false_eq_true, if_false] at h
   split at h
   ·obtain ⟨q, hq, h⟩ := Option.map_eq_some_iff.1 h
    injection h with h1 h2; subst h1 h2
    exact ⟨rfl, fun _ _ => rfl, fun l sl hw => absurd trivial (hw rfl)⟩
   ·cases h
  case alloc t cs =>
   simp only [evVal] at h
   split at h
   ·split at h
    ·injection h with h; injection h with h1 h2; subst h1 h2
     refine ⟨rfl, fun _ _ => rfl, fun l sl hw => setB_get _ fun e1 e2 => hw rfl ⟨e1, by rw [e2]⟩⟩
    ·cases h
   ·cases h
  case box t y =>
   simp only [evVal] at h
   split at h
   ·split at h
    ·injection h with h; injection h with h1 h2; subst h1 h2
     exact ⟨ulv y, fun t ht => use_tm (s := s) (by simpa [IOp.takes] using ht), fun l sl hw => by
      have hw' := hw rfl
      cases y with
      | c v => exact setB_get (s := s) _ fun e1 e2 => hw' ⟨e1, by rw [e2]⟩
      | t n => exact setB_get (s := s.use (.t n)) _ fun e1 e2 => hw' ⟨e1, by rw [e2]⟩⟩
    ·cases h
   ·cases h
  case build zero ps =>
   simp only [evVal] at h
   obtain ⟨⟨cs, s1⟩, hq, h⟩ := Option.map_eq_some_iff.1 h
   injection h with h1 h2; subst h1 h2
   obtain ⟨k1, k2, k3⟩ := fill_eff hq
   exact ⟨k1, k2, fun l sl _ => k3 l sl⟩
  case store y z sz =>
   simp only [evVal] at h
   split at h
   ·split at h
    ·split at h
     ·injection h with h; injection h with h1 h2; subst h1 h2
      refine ⟨(setBox_eff _ _ _ _).1.trans (ulv z), fun t ht => by rw [(setBox_eff _ _ _ _).2]; exact use_tm (by simpa [IOp.takes] using ht), fun l2 sl2 hw => (setBox_get _ fun e1 e2 => by subst e1 e2; exact hw rfl ⟨_, by assumption⟩).trans (ug z l2 sl2)⟩
     ·cases h
    ·cases h
   ·cases h
  case ext y i tk =>
   subst ho
   simp only [evVal, if_true] at h
   split at h
   ·rename_i vs n hy
    obtain ⟨q, hq, h⟩ := Option.bind_eq_some_iff.1 h
    split at h
    ·cases h
    ·injection h with h; injection h with h1 h2; subst h1 h2
     refine ⟨rfl, fun t ht => ?_, fun _ _ _ => rfl⟩
     show upd s.tm n _ t = _
     unfold upd
     rw [if_neg (fun e => ht (by simp [IOp.takes, xs1, e]))]
   ·cases h
  case app y z e sz by' =>
   simp only [evVal] at h
   split at h
   ·split at h
    ·injection h with h; injection h with h1 h2; subst h1 h2
     exact ⟨ulv y, fun t ht => use_tm (by simpa [IOp.takes] using ht), fun l sl _ => ug y l sl⟩
    ·cases h
   ·cases h
  case appW y z e sz by' =>
   simp only [evVal] at h
   split at h
   ·split at h
    ·split at h
     ·injection h with h; injection h with h1 h2; subst h1 h2
      exact ⟨ulv y, fun t ht => use_tm (by simpa [IOp.takes] using ht), fun l sl _ => ug y l sl⟩
     ·injection h with h; injection h with h1 h2; subst h1 h2
      exact ⟨ulv y, fun t ht => use_tm (s := s) (by simpa [IOp.takes] using ht), fun l sl hw => by
       have hw' := hw rfl
       cases y with
       | c v => exact setB_get (s := s) _ fun e1 e2 => hw' ⟨e1, by rw [e2]⟩
       | t n => exact setB_get (s := s.use (.t n)) _ fun e1 e2 => hw' ⟨e1, by rw [e2]⟩⟩
    ·cases h
   ·cases h
  case clone g y e sz by' =>
   simp only [evVal] at h
   split at h
   ·split at h
    ·split at h
     ·injection h with h; injection h with h1 h2; subst h1 h2
      exact ⟨rfl, fun _ _ => rfl, fun _ _ _ => rfl⟩
     ·injection h with h; injection h with h1 h2; subst h1 h2
      exact ⟨rfl, fun _ _ => rfl, fun l sl hw => setB_get _ fun e1 e2 => hw rfl ⟨e1, by rw [e2]⟩⟩
    ·cases h
   ·cases h
  case callH f as =>
   simp only [evVal] at h
   split at h
   ·split at h
    ·split at h
     ·split at h
      ·injection h with h; injection h with h1 h2; subst h1 h2
       refine ⟨rfl, fun _ _ => rfl, fun l sl hw => ?_⟩
       have hl : l = s.lv := Classical.byContradiction fun e => hw rfl e
       subst hl
       unfold St.get
       simp
      ·cases h
     ·cases h
    ·cases h
   ·cases h
  case callA f as =>
   simp only [evVal] at h
   split at h
   ·split at h
    ·split at h
     ·injection h with h; injection h with h1 h2; subst h1 h2
      exact ⟨rfl, fun _ _ => rfl, fun l sl hw => absurd trivial (hw rfl)⟩
     ·cases h
    ·injection h with h; injection h with h1 h2; subst h1 h2
     exact ⟨rfl, fun _ _ => rfl, fun l sl hw => absurd trivial (hw rfl)⟩
    ·cases h
   ·cases h
  case copyA y z =>
   simp only [evVal] at h
   split at h
   ·injection h with h; injection h with h1 h2; subst h1 h2
    exact ⟨rfl, fun _ _ => rfl, fun _ _ _ => rfl⟩
   ·split at h
    ·split at h
     ·injection h with h; injection h with h1 h2; subst h1 h2
      refine ⟨(setBox_eff _ _ _ _).1, fun t _ => by rw [(setBox_eff _ _ _ _).2], fun l2 sl2 hw => setBox_get _ fun e1 e2 => by subst e1 e2; exact hw rfl ⟨_, _, _, by assumption⟩⟩
     ·cases h
    ·cases h
   ·cases h
  case del g y i j sz =>
   simp only [evVal] at h
   split at h
   ·split at h
    ·split at h
     ·injection h with h; injection h with h1 h2; subst h1 h2
      refine ⟨(setBox_eff _ _ _ _).1, fun t _ => by rw [(setBox_eff _ _ _ _).2], fun l2 sl2 hw => setBox_get _ fun e1 e2 => by subst e1 e2; exact hw rfl ⟨_, _, _, by assumption⟩⟩
     ·cases h
    ·cases h
   ·cases h
  case rng y =>
   simp only [evVal] at h
   split at h
   ·split at h
    ·injection h with h; injection h with h1 h2; subst h1 h2
     exact ⟨rfl, fun _ _ => rfl, fun _ _ hw => setB_get _ fun e1 e2 => hw rfl ⟨e1, by rw [e2]⟩⟩
    ·cases h
   ·cases h
  case nxt y =>
   simp only [evVal] at h
   split at h
   ·split at h
    ·split at h
     ·cases h
     split at h
     ·injection h with h; injection h with h1 h2; subst h1 h2
      refine ⟨(setBox_eff _ _ _ _).1, fun t _ => by rw [(setBox_eff _ _ _ _).2], fun l2 sl2 hw => setBox_get _ fun e1 e2 => by subst e1 e2; exact hw rfl ⟨_, by assumption⟩⟩
     ·injection h with h; injection h with h1 h2; subst h1 h2
      exact ⟨rfl, fun _ _ => rfl, fun _ _ _ => rfl⟩
    ·cases h
   ·cases h
  case mkW e by' zero y =>
   simp only [evVal] at h
   split at h
   ·split at h
    ·split at h
     ·injection h with h; injection h with h1 h2; subst h1 h2
      exact ⟨rfl, fun _ _ => rfl, fun _ _ _ => rfl⟩
     ·injection h with h; injection h with h1 h2; subst h1 h2
      exact ⟨rfl, fun _ _ => rfl, fun _ _ hw => setB_get _ fun e1 e2 => hw rfl ⟨e1, by rw [e2]⟩⟩
    ·cases h
   ·cases h
  all_goals simp at ho
theorem setB_evX (k : Nat) (C : Option ABox) (y : X) : (setB s k C).evX y = s.evX y := by cases y <;> rfl
theorem setB_use (k : Nat) (C : Option ABox) (y : X) : (setB s k C).use y = setB (s.use y) k C := by cases y <;> rfl
theorem setB_setBox {k l sl : Nat} (C : Option ABox) (B : ABox) (h : l = s.lv → sl = k → False) : (setB s k C).setBox l sl B = setB (s.setBox l sl B) k C := by
 unfold St.setBox setB
 by_cases hl : l = s.lv
 ·rw [if_pos hl, if_pos hl]
  simp only
  rw [upd_comm _ _ _ (fun e => h hl e.symm)]
 ·rw [if_neg hl, if_neg hl]
theorem setB_fill {k : Nat} {C : Option ABox} : ∀ {ps : List (Nat × Nat × X)} {s : St} {cs cs' : List AV} {s' : St}, fillParts s cs ps = some (cs', s') → fillParts (setB s k C) cs ps = some (cs', setB s' k C)
 | [], s, cs, cs', s', h => by
   simp only [fillParts] at h ⊢
   injection h with h; injection h with h1 h2; subst h1 h2; rfl
 | (o, n, y) :: ps, s, cs, cs', s', h => by
   simp only [fillParts] at h ⊢
   rw [setB_evX]
   split at h
   ·rename_i hc
    rw [if_pos hc, setB_use]
    exact setB_fill h
   ·cases h
theorem bx_frame {k : Nat} (h : evVal O op d s = some (v, s')) (hk : (op.rmem = true ∨ op.wmem = true) → ¬ op.reach d s s.lv k) (C : Option ABox) : evVal O op d (setB s k C) = some (v, setB s' k C) := by
 by_cases ho : op.obs = true
 ·obtain ⟨rfl, hf⟩ := obs_frame ho h
  exact hf _ rfl (fun t ht => rfl) fun hr l sl hre => setB_get _ fun e1 e2 => by subst e1 e2; exact hk (.inl hr) hre
 ·cases op <;> simp only [IOp.obs, Bool.not_eq_true', Bool.not_eq_true, Bool.not_eq_false] at ho
  case mov y tk =>
   subst ho
   simp only [evVal, if_true] at h ⊢
   injection h with h; injection h with h1 h2; subst h1 h2
   rw [setB_evX, setB_use]
  case load y agg tk =>
   subst ho
   simp only [evVal, if_true] at h ⊢
   rw [setB_evX]
   split at h
   ·rename_i l sl o hy
    have hne : l = s.lv → sl = k → False := fun e1 e2 => by subst e1 e2; exact hk (.inl rfl) ⟨o, hy⟩
    have hg : (setB s k C).get l sl = s.get l sl := setB_get _ hne
    try simp only [hy]
    try rw [hg]
    split at h
    ·rename_i t' cs hb
     split at h
     ·rename_i r hr
      split at h
      ·rename_i hone
       injection h with h; injection h with h1 h2; subst h1 h2
       try simp only [hr]
       rw [setB_setBox _ _ hne]
       exact if_pos hone
      ·cases h
     ·cases h
    ·cases h
   ·obtain ⟨q, hq, h⟩ := Option.map_eq_some_iff.1 h
    injection h with h1 h2; subst h1 h2
    simp only [hq, Option.map_some]
   ·obtain ⟨q, hq, h⟩ := Option.map_eq_some_iff.1 h
    injection h with h1 h2; subst h1 h2
    simp only [hq, Option.map_some]
   ·cases h
  case call p f as =>
   subst ho
   exact absurd trivial (hk (.inl rfl))
  case alloc t cs =>
   simp only [evVal] at h ⊢
   split at h
   ·rename_i d
    have hne : d ≠ k := fun e => hk (.inr rfl) ⟨rfl, by rw [e]⟩
    split at h
    ·rename_i hc
     injection h with h; injection h with h1 h2; subst h1 h2
     have hb : (setB s k C).bx d = s.bx d := by
      show upd s.bx k C d = _
      unfold upd
      rw [if_neg hne]
     simp only [hb, hc, and_self, if_true]
     show some (AV.ptr s.lv d 0, ({ s with bx := upd (upd s.bx k C) d _ } : St)) = some (_, { s with bx := upd (upd s.bx d _) k C })
     rw [upd_comm _ _ _ (Ne.symm hne)]
    ·cases h
   ·cases h
  case box t y =>
   simp only [evVal] at h ⊢
   rw [setB_evX, setB_use]
   split at h
   ·rename_i d
    have hne : d ≠ k := fun e => hk (.inr rfl) ⟨rfl, by rw [e]⟩
    split at h
    ·rename_i hc
     injection h with h; injection h with h1 h2; subst h1 h2
     have hb : (setB s k C).bx d = s.bx d := by
      show upd s.bx k C d = _
      unfold upd
      rw [if_neg hne]
     simp only [hb]
     rw [if_pos hc]
     simp only [setB]
     rw [upd_comm _ _ _ (Ne.symm hne)]
    ·cases h
   ·cases h
  case build zero ps =>
   simp only [evVal] at h ⊢
   obtain ⟨⟨cs, s1⟩, hq, h⟩ := Option.map_eq_some_iff.1 h
   injection h with h1 h2; subst h1 h2
   rw [setB_fill hq]
   rfl
  case store y z sz =>
   simp only [evVal] at h ⊢
   rw [setB_evX, setB_evX, setB_use]
   split at h
   ·rename_i l sl o hy
    have hne : l = s.lv → sl = k → False := fun e1 e2 => by subst e1 e2; exact hk (.inl rfl) ⟨o, hy⟩
    have hne' : l = (s.use z).lv → sl = k → False := fun e1 e2 => hne (e1.trans (by cases z <;> rfl)) e2
    have hg : (setB s k C).get l sl = s.get l sl := setB_get _ hne
    try simp only [hy]
    try rw [hg]
    split at h
    ·split at h
     ·rename_i hc
      injection h with h; injection h with h1 h2; subst h1 h2
      rw [setB_setBox _ _ hne']
      exact if_pos hc
     ·cases h
    ·cases h
   ·cases h
  case ext y i tk =>
   subst ho
   simp only [evVal, if_true] at h ⊢
   rw [setB_evX]
   split at h
   ·rename_i vs n hy
    obtain ⟨q, hq, h⟩ := Option.bind_eq_some_iff.1 h
    simp only [hq, Option.bind_some]
    split at h
    ·cases h
    ·rename_i hc
     injection h with h; injection h with h1 h2; subst h1 h2
     rw [if_neg hc]
     rfl
   ·cases h
  case app y z e sz by' =>
   simp only [evVal] at h ⊢
   rw [setB_evX, setB_evX, setB_use]
   split at h
   ·split at h
    ·rename_i hc
     injection h with h; injection h with h1 h2; subst h1 h2
     exact if_pos hc
    ·cases h
   ·cases h
  case appW y z e sz by' =>
   simp only [evVal] at h ⊢
   rw [setB_evX, setB_evX, setB_use]
   split at h
   ·rename_i e0 z1 o2 z2 more dd hy1 hy2
    have hne : dd ≠ k := fun e => hk (.inr rfl) ⟨rfl, by rw [e]⟩
    have hb : (setB s k C).bx dd = s.bx dd := by
     show upd s.bx k C dd = _
     unfold upd
     rw [if_neg hne]
    split at h
    ·rename_i hc
     split at h
     ·rename_i h0
      injection h with h; injection h with h1 h2; subst h1 h2
      simp only [hb]
      exact (if_pos hc).trans (if_pos h0)
     ·rename_i h0
      injection h with h; injection h with h1 h2; subst h1 h2
      simp only [hb]
      refine (if_pos hc).trans ((if_neg h0).trans ?_)
      simp only [setB]
      rw [upd_comm _ _ _ (Ne.symm hne)]
    ·cases h
   ·cases h
  case clone g y e sz by' =>
   simp only [evVal] at h ⊢
   rw [setB_evX]
   split at h
   ·rename_i own z rows dd hy
    have hne : dd ≠ k := fun e => hk (.inr rfl) ⟨rfl, by rw [e]⟩
    have hb : (setB s k C).bx dd = s.bx dd := by
     show upd s.bx k C dd = _
     unfold upd
     rw [if_neg hne]
    split at h
    ·rename_i hc
     split at h
     ·rename_i h0
      injection h with h; injection h with h1 h2; subst h1 h2
      simp only [hy, hb]
      exact (if_pos hc).trans (if_pos h0)
     ·rename_i h0
      injection h with h; injection h with h1 h2; subst h1 h2
      simp only [hy, hb]
      refine ((if_pos hc).trans (if_neg h0)).trans ?_
      simp only [setB]
      rw [upd_comm _ _ _ (Ne.symm hne)]
    ·cases h
   ·cases h
  case callH f as =>
   simp only [evVal] at h ⊢
   rw [setB_evX]
   have has : as.map (fun y => ((setB s k C).evX y).noOwn) = as.map (fun y => (s.evX y).noOwn) := by
    apply List.map_congr_left
    intro y hy
    rw [setB_evX]
   have hm : hidMem (setB s k C).lv (setB s k C).mem = hidMem s.lv s.mem := by
    funext l
    show (if l = s.lv then fun _ => none else (setB s k C).mem l) = (if l = s.lv then fun _ => none else s.mem l)
    by_cases hl : l = s.lv
    ·rw [if_pos hl, if_pos hl]
    ·rw [if_neg hl, if_neg hl]
     unfold St.mem
     show (if l = s.lv then _ else _) = _
     rw [if_neg hl, if_neg hl]
     rfl
   split at h
   ·rw [has, hm]
    show (if okPs (fun l _ => decide (l ≠ s.lv)) _ = true then (match O.call _ _ (hidMem s.lv s.mem) (s.lv + 1) with | some (rs, low') => _ | none => none) else none) = _
    split at h
    ·rename_i hv
     rw [if_pos hv]
     split at h
     ·rename_i hq
      rw [hq]
      split at h
      ·rename_i hc
       injection h with h; injection h with h1 h2; subst h1 h2
       exact if_pos hc
      ·cases h
     ·cases h
    ·cases h
   ·cases h
  case callA f as =>
   exact absurd trivial (hk (.inl rfl))
  case copyA y z =>
   simp only [evVal] at h ⊢
   rw [setB_evX, setB_evX]
   split at h
   ·rename_i e1 e2
    injection h with h; injection h with q1 q2; subst q1 q2
    simp only [e1, e2]
   ·rename_i l sl o n zz own z' rows e1 e2
    have hne : l = s.lv → sl = k → False := fun q1 q2 => by subst q1 q2; exact hk (.inl rfl) ⟨o, n, zz, e1⟩
    have hg : (setB s k C).get l sl = s.get l sl := setB_get _ hne
    simp only [e1, e2, hg]
    split at h
    ·split at h
     ·rename_i hc
      injection h with h; injection h with q1 q2; subst q1 q2
      rw [setB_setBox _ _ hne]
      exact if_pos hc
     ·cases h
    ·cases h
   ·cases h
  case del g y i j sz =>
   simp only [evVal] at h ⊢
   rw [setB_evX, setB_evX, setB_evX]
   split at h
   ·rename_i l sl o n z a b e1 e2 e3
    have hne : l = s.lv → sl = k → False := fun q1 q2 => by subst q1 q2; exact hk (.inl rfl) ⟨o, n, z, e1⟩
    have hg : (setB s k C).get l sl = s.get l sl := setB_get _ hne
    simp only [e1, e2, e3, hg]
    split at h
    ·split at h
     ·rename_i hc
      injection h with h; injection h with q1 q2; subst q1 q2
      rw [setB_setBox _ _ hne]
      exact if_pos hc
     ·cases h
    ·cases h
   ·cases h
  case rng y =>
   simp only [evVal] at h ⊢
   rw [setB_evX]
   split at h
   ·rename_i b dd hy
    have hne : dd ≠ k := fun e => hk (.inr rfl) ⟨rfl, by rw [e]⟩
    have hb : (setB s k C).bx dd = s.bx dd := by
     show upd s.bx k C dd = _
     unfold upd
     rw [if_neg hne]
    split at h
    ·rename_i hc
     injection h with h; injection h with h1 h2; subst h1 h2
     simp only [hy, hb]
     refine (if_pos hc).trans ?_
     simp only [setB]
     rw [upd_comm _ _ _ (Ne.symm hne)]
    ·cases h
   ·cases h
  case nxt y =>
   simp only [evVal] at h ⊢
   rw [setB_evX]
   split at h
   ·rename_i l sl o hy
    have hne : l = s.lv → sl = k → False := fun q1 q2 => by subst q1 q2; exact hk (.inl rfl) ⟨o, hy⟩
    have hg : (setB s k C).get l sl = s.get l sl := setB_get _ hne
    try simp only [hy]
    try rw [hg]
    split at h
    ·split at h
     ·cases h
     rename_i h0
     split at h
     ·rename_i hc
      injection h with h; injection h with q1 q2; subst q1 q2
      rw [setB_setBox _ _ hne]
      exact (if_neg h0).trans (if_pos hc)
     ·rename_i hc
      injection h with h; injection h with q1 q2; subst q1 q2
      exact (if_neg h0).trans (if_neg hc)
    ·cases h
   ·cases h
  case mkW e by' zero y =>
   simp only [evVal] at h ⊢
   rw [setB_evX]
   split at h
   ·rename_i kk nn dd hy
    have hne : dd ≠ k := fun e => hk (.inr rfl) ⟨rfl, by rw [e]⟩
    have hb : (setB s k C).bx dd = s.bx dd := by
     show upd s.bx k C dd = _
     unfold upd
     rw [if_neg hne]
    split at h
    ·rename_i hc
     split at h
     ·rename_i h0
      injection h with h; injection h with h1 h2; subst h1 h2
      simp only [hy, hb]
      exact (if_pos hc).trans (if_pos h0)
     ·rename_i h0
      injection h with h; injection h with h1 h2; subst h1 h2
      simp only [hy, hb]
      refine ((if_pos hc).trans (if_neg h0)).trans ?_
      simp only [setB]
      rw [upd_comm _ _ _ (Ne.symm hne)]
    ·cases h
   ·cases h
  all_goals simp at ho
end
end Go.Ev
