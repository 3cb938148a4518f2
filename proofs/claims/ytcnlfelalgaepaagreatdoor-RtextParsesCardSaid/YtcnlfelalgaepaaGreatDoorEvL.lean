/- The evaluator without a bound on its depth: equations for its calls and loops. Condition: none. -/
import Derived.Test.YtcnlfelalgaepaaGreatDoorEvK
namespace Go.Ev
set_option linter.all false
open Go.RowKit
structure Orc.le (O O' : Orc) : Prop where
 call : ∀ f a m l r, O.call f a m l = some r → O'.call f a m l = some r
 carry : ∀ f a m l r, O.carry f a m l = some r → O'.carry f a m l = some r
 loop : ∀ kt kb c s r, O.loop kt kb c s = some r → O'.loop kt kb c s = some r
section
variable {O O' : Orc} {T : Tab}
theorem Orc.le.refl (O : Orc) : O.le O := ⟨fun _ _ _ _ _ h => h, fun _ _ _ _ _ h => h, fun _ _ _ _ _ h => h⟩
theorem Orc.le.trans {O1 O2 O3 : Orc} (h : O1.le O2) (k : O2.le O3) : O1.le O3 := ⟨fun f a m l r q => k.call f a m l r (h.call f a m l r q), fun f a m l r q => k.carry f a m l r (h.carry f a m l r q), fun kt kb c s r q => k.loop kt kb c s r (h.loop kt kb c s r q)⟩
theorem evVal_mono (h : O.le O') {op : IOp} {d : Option Nat} {s : St} {r : AV × St} (he : evVal O op d s = some r) : evVal O' op d s = some r := by
 cases op <;> try exact he
 case call pure f args =>
  simp only [evVal] at he ⊢
  split at he
  ·rename_i g caps hf
   split at he
   ·rename_i hp
    split at he
    ·rename_i hq
     obtain ⟨x, hx, hr⟩ := Option.map_eq_some_iff.1 he
     rw [if_pos hp, if_pos hq, h.call _ _ _ _ _ hx]
     simpa using hr
    ·cases he
   ·rename_i hp
    obtain ⟨x, hx, hr⟩ := Option.map_eq_some_iff.1 he
    rw [h.call _ _ _ _ _ hx]
    simpa [hp] using hr
  ·cases he
 case callH f args =>
  simp only [evVal] at he ⊢
  split at he
  ·split at he
   ·rename_i hv
    rw [if_pos hv]
    split at he
    ·rename_i hx
     rw [h.call _ _ _ _ _ hx]
     exact he
    ·cases he
   ·cases he
  ·cases he
 case callS f args =>
  simp only [evVal] at he ⊢
  split at he
  ·split at he
   ·split at he
    ·rename_i hp
     rw [if_pos hp]
     split at he
     ·rename_i hx
      rw [h.call _ _ _ _ _ hx]
      exact he
     ·cases he
    ·cases he
   ·cases he
  ·cases he
 case callA f args =>
  simp only [evVal] at he ⊢
  split at he
  ·split at he
   ·rename_i hx
    rw [h.carry _ _ _ _ _ hx]
    exact he
   ·rename_i hx
    rw [h.carry _ _ _ _ _ hx]
    exact he
   ·cases he
  ·cases he
theorem evG_mono (h : O.le O') {o : IOper} {s : St} {r : AV × St} (he : evG O o s = some r) : evG O' o s = some r := by
 obtain ⟨h1, h2⟩ := evG_iff.1 he
 exact evG_iff.2 ⟨h1, evVal_mono h h2⟩
theorem evOp_mono (h : O.le O') {o : IOper} {s : St} {r : St} (he : evOp O o s = some r) : evOp O' o s = some r := by
 unfold evOp at he ⊢
 obtain ⟨x, hx, hr⟩ := Option.map_eq_some_iff.1 he
 have : evO O' o s = some x := by
  unfold evO at hx ⊢
  split
  ·rename_i hg
   rw [hg] at hx
   exact evG_mono h hx
  ·rename_i g want hg
   rw [hg] at hx
   simp only at hx
   split at hx
   ·rename_i b hb
    try rw [hb]
    try simp only
    split at hx
    ·rename_i hw
     rw [if_pos hw]
     exact evG_mono h hx
    ·rename_i hw
     rw [if_neg hw]
     exact hx
   ·rename_i hb
    try rw [hb]
    exact hx
   ·cases hx
 rw [this, ← hr]
 rfl
theorem evOps_mono (h : O.le O') : ∀ {l : List IOper} {s r : St}, evOps O l s = some r → evOps O' l s = some r
 | [], s, r, he => he
 | o :: l, s, r, he => by
   simp only [evOps] at he ⊢
   obtain ⟨s2, h1, h2⟩ := Option.bind_eq_some_iff.1 he
   rw [evOp_mono h h1]
   exact evOps_mono h h2
theorem evC_mono (h : O.le O') : ∀ {c : IC} {s : St} {r : Fl × St}, evC O c s = some r → evC O' c s = some r
 | .skip, s, r, he => he
 | .ret, s, r, he => he
 | .exit _, s, r, he => he
 | .exitK _ _ _, s, r, he => he
 | .retK _ _, s, r, he => he
 | .reg ops, s, r, he => by
   simp only [evC] at he ⊢
   obtain ⟨x, hx, hr⟩ := Option.map_eq_some_iff.1 he
   rw [evOps_mono h hx, ← hr]
   rfl
 | .seq a b, s, r, he => by
   simp only [evC] at he ⊢
   split at he
   ·rename_i s2 h1
    rw [evC_mono h h1]
    exact evC_mono h he
   ·rename_i hne
    rw [evC_mono h he]
    split
    ·rename_i s2 h2
     injection h2 with h2
     subst h2
     exact absurd he (hne s2)
    ·rfl
 | .cond x a b, s, r, he => by
   simp only [evC] at he ⊢
   split at he
   ·rename_i t ht
    try rw [ht]
    try simp only
    cases t
    ·exact evC_mono h (by simpa using he)
    ·exact evC_mono h (by simpa using he)
   ·cases he
 | .blk id c, s, r, he => by
   simp only [evC] at he ⊢
   split at he
   ·rename_i i s2 h1
    rw [evC_mono h h1]
    exact he
   ·rename_i hne
    rw [evC_mono h he]
    split
    ·rename_i i s2 h2
     injection h2 with h2
     subst h2
     exact absurd he (hne i s2)
    ·rfl
 | .loop kt kb c, s, r, he => by
   simp only [evC] at he ⊢
   exact h.loop _ _ _ _ _ he
theorem callBy_mono (h : O.le O') {f : FuncId} {a : List AV} {m : Mem} {l : Nat} {r : List AV × Mem} (he : callBy T O f a m l = some r) : callBy T O' f a m l = some r := by
 unfold callBy at he ⊢
 split at he
 ·rename_i g hg
  try rw [hg]
  exact he
 ·rename_i hg
  try rw [hg]
  try simp only
  split at he
  ·rename_i F hF
   try rw [hF]
   try simp only
   split at he
   ·rename_i hn
    rw [if_pos hn]
    cases hq : evC O F.body (enter F a m l) with
    | none => rw [hq] at he; cases he
    | some x => rw [hq] at he; rw [evC_mono h hq]; exact he
   ·cases he
  ·cases he
theorem carryBy_mono (h : O.le O') {f : FuncId} {a : List AV} {m : Mem} {l : Nat} {r : Option ABox × (Nat × Nat × Nat) × Mem} (he : carryBy T O f a m l = some r) : carryBy T O' f a m l = some r := by
 unfold carryBy at he ⊢
 split at he
 ·cases he
 ·rename_i hg
  try rw [hg]
  try simp only
  split at he
  ·rename_i F hF
   try rw [hF]
   try simp only
   split at he
   ·rename_i hn
    rw [if_pos hn]
    cases hq : evC O F.body (enter F a m l) with
    | none => rw [hq] at he; cases he
    | some x => rw [hq] at he; rw [evC_mono h hq]; exact he
   ·cases he
  ·cases he
theorem loopBy_mono (h : O.le O') {kt kb : List Nat} {c : IC} {s : St} {r : Fl × St} (he : loopBy O kt kb c s = some r) : loopBy O' kt kb c s = some r := by
 unfold loopBy at he ⊢
 split at he
 ·rename_i s2 hm
  try rw [hm]
  try simp only
  split at he
  ·rename_i s3 h3
   rw [evC_mono h h3]
   exact h.loop _ _ _ _ _ he
  ·rename_i hne
   rw [evC_mono h he]
   split
   ·rename_i s3 h3
    injection h3 with h3
    subst h3
    exact absurd he (hne s3)
   ·rfl
 ·cases he
theorem orc_le_succ : ∀ n, (orc T n).le (orc T (n + 1))
 | 0 => ⟨(fun _ _ _ _ _ h => by cases h), (fun _ _ _ _ _ h => by cases h), (fun _ _ _ _ _ h => by cases h)⟩
 | n + 1 => ⟨fun _ _ _ _ _ h => callBy_mono (orc_le_succ n) h, fun _ _ _ _ _ h => carryBy_mono (orc_le_succ n) h, fun _ _ _ _ _ h => loopBy_mono (orc_le_succ n) h⟩
theorem orc_le {n m : Nat} (h : n ≤ m) : (orc T n).le (orc T m) := by
 induction h with
 | refl => exact .refl _
 | step _ ih => exact ih.trans (orc_le_succ _)
open Classical in
noncomputable def sem (T : Tab) : Orc where
 call f a m l := if h : ∃ r n, (orc T n).call f a m l = some r then some h.choose else none
 carry f a m l := if h : ∃ r n, (orc T n).carry f a m l = some r then some h.choose else none
 loop kt kb c s := if h : ∃ r n, (orc T n).loop kt kb c s = some r then some h.choose else none
theorem sem_call_iff {f : FuncId} {a : List AV} {m : Mem} {l : Nat} {r : List AV × Mem} : (sem T).call f a m l = some r ↔ ∃ n, (orc T n).call f a m l = some r := by
 unfold sem
 simp only
 constructor
 ·intro h
  split at h
  ·rename_i hh
   injection h with h
   rw [← h]
   exact hh.choose_spec
  ·cases h
 ·rintro ⟨n, hn⟩
  have hh : ∃ r n, (orc T n).call f a m l = some r := ⟨r, n, hn⟩
  rw [dif_pos hh]
  obtain ⟨k, hk⟩ := hh.choose_spec
  have h1 := (orc_le (T := T) (Nat.le_max_left n k)).call _ _ _ _ _ hn
  have h2 := (orc_le (T := T) (Nat.le_max_right n k)).call _ _ _ _ _ hk
  rw [h1] at h2
  injection h2 with h2
  rw [h2]
theorem sem_carry_iff {f : FuncId} {a : List AV} {m : Mem} {l : Nat} {r : Option ABox × (Nat × Nat × Nat) × Mem} : (sem T).carry f a m l = some r ↔ ∃ n, (orc T n).carry f a m l = some r := by
 unfold sem
 simp only
 constructor
 ·intro h
  split at h
  ·rename_i hh
   injection h with h
   rw [← h]
   exact hh.choose_spec
  ·cases h
 ·rintro ⟨n, hn⟩
  have hh : ∃ r n, (orc T n).carry f a m l = some r := ⟨r, n, hn⟩
  rw [dif_pos hh]
  obtain ⟨k, hk⟩ := hh.choose_spec
  have h1 := (orc_le (T := T) (Nat.le_max_left n k)).carry _ _ _ _ _ hn
  have h2 := (orc_le (T := T) (Nat.le_max_right n k)).carry _ _ _ _ _ hk
  rw [h1] at h2
  injection h2 with h2
  rw [h2]
theorem sem_loop_iff {kt kb : List Nat} {c : IC} {s : St} {r : Fl × St} : (sem T).loop kt kb c s = some r ↔ ∃ n, (orc T n).loop kt kb c s = some r := by
 unfold sem
 simp only
 constructor
 ·intro h
  split at h
  ·rename_i hh
   injection h with h
   rw [← h]
   exact hh.choose_spec
  ·cases h
 ·rintro ⟨n, hn⟩
  have hh : ∃ r n, (orc T n).loop kt kb c s = some r := ⟨r, n, hn⟩
  rw [dif_pos hh]
  obtain ⟨k, hk⟩ := hh.choose_spec
  have h1 := (orc_le (T := T) (Nat.le_max_left n k)).loop _ _ _ _ _ hn
  have h2 := (orc_le (T := T) (Nat.le_max_right n k)).loop _ _ _ _ _ hk
  rw [h1] at h2
  injection h2 with h2
  rw [h2]
theorem evVal_cont {op : IOp} {d : Option Nat} {s : St} {r : AV × St} (he : evVal (sem T) op d s = some r) : ∃ n, evVal (orc T n) op d s = some r := by
 cases op <;> try exact ⟨0, he⟩
 case call pure f args =>
  simp only [evVal] at he ⊢
  split at he
  ·rename_i g caps hf
   try simp only
   split at he
   ·rename_i hp
    split at he
    ·rename_i hq
     obtain ⟨x, hx, hr⟩ := Option.map_eq_some_iff.1 he
     obtain ⟨n, hn⟩ := sem_call_iff.1 hx
     exact ⟨n, by rw [if_pos hp, if_pos hq, hn]; simpa using hr⟩
    ·cases he
   ·rename_i hp
    obtain ⟨x, hx, hr⟩ := Option.map_eq_some_iff.1 he
    obtain ⟨n, hn⟩ := sem_call_iff.1 hx
    exact ⟨n, by rw [if_neg hp, hn]; simpa using hr⟩
  ·cases he
 case callH f args =>
  simp only [evVal] at he ⊢
  split at he
  ·split at he
   ·rename_i hv
    split at he
    ·rename_i hx
     obtain ⟨n, hn⟩ := sem_call_iff.1 hx
     exact ⟨n, by rw [if_pos hv, hn]; exact he⟩
    ·cases he
   ·cases he
  ·cases he
 case callS f args =>
  simp only [evVal] at he ⊢
  split at he
  ·split at he
   ·split at he
    ·rename_i hp
     split at he
     ·rename_i hx
      obtain ⟨n, hn⟩ := sem_call_iff.1 hx
      exact ⟨n, by rw [if_pos hp, hn]; exact he⟩
     ·cases he
    ·cases he
   ·cases he
  ·cases he
 case callA f args =>
  simp only [evVal] at he ⊢
  split at he
  ·split at he
   ·rename_i hx
    obtain ⟨n, hn⟩ := sem_carry_iff.1 hx
    exact ⟨n, by rw [hn]; exact he⟩
   ·rename_i hx
    obtain ⟨n, hn⟩ := sem_carry_iff.1 hx
    exact ⟨n, by rw [hn]; exact he⟩
   ·cases he
  ·cases he
theorem evG_cont {o : IOper} {s : St} {r : AV × St} (he : evG (sem T) o s = some r) : ∃ n, evG (orc T n) o s = some r := by
 obtain ⟨h1, h2⟩ := evG_iff.1 he
 obtain ⟨n, hn⟩ := evVal_cont h2
 exact ⟨n, evG_iff.2 ⟨h1, hn⟩⟩
theorem evOp_cont {o : IOper} {s : St} {r : St} (he : evOp (sem T) o s = some r) : ∃ n, evOp (orc T n) o s = some r := by
 unfold evOp at he ⊢
 obtain ⟨x, hx, hr⟩ := Option.map_eq_some_iff.1 he
 have : ∃ n, evO (orc T n) o s = some x := by
  unfold evO at hx ⊢
  split at hx
  ·exact evG_cont hx
  ·try simp only at hx ⊢
   split at hx
   ·split at hx
    ·rename_i hw
     obtain ⟨n, hn⟩ := evG_cont hx
     exact ⟨n, by rw [if_pos hw]; exact hn⟩
    ·rename_i hw
     exact ⟨0, by rw [if_neg hw]; exact hx⟩
   ·exact ⟨0, hx⟩
   ·cases hx
 obtain ⟨n, hn⟩ := this
 exact ⟨n, by rw [hn]; simpa using hr⟩
theorem evOps_cont : ∀ {l : List IOper} {s r : St}, evOps (sem T) l s = some r → ∃ n, evOps (orc T n) l s = some r
 | [], s, r, he => ⟨0, he⟩
 | o :: l, s, r, he => by
   simp only [evOps] at he ⊢
   obtain ⟨s2, h1, h2⟩ := Option.bind_eq_some_iff.1 he
   obtain ⟨n, hn⟩ := evOp_cont h1
   obtain ⟨k, hk⟩ := evOps_cont h2
   exact ⟨max n k, by rw [evOp_mono (orc_le (Nat.le_max_left n k)) hn]; exact evOps_mono (orc_le (Nat.le_max_right n k)) hk⟩
theorem evC_cont : ∀ {c : IC} {s : St} {r : Fl × St}, evC (sem T) c s = some r → ∃ n, evC (orc T n) c s = some r
 | .skip, s, r, he => ⟨0, he⟩
 | .ret, s, r, he => ⟨0, he⟩
 | .exit _, s, r, he => ⟨0, he⟩
 | .exitK _ _ _, s, r, he => ⟨0, he⟩
 | .retK _ _, s, r, he => ⟨0, he⟩
 | .reg ops, s, r, he => by
   simp only [evC] at he ⊢
   obtain ⟨x, hx, hr⟩ := Option.map_eq_some_iff.1 he
   obtain ⟨n, hn⟩ := evOps_cont hx
   exact ⟨n, by rw [hn, ← hr]; rfl⟩
 | .seq a b, s, r, he => by
   simp only [evC] at he
   split at he
   ·rename_i s2 h1
    obtain ⟨n, hn⟩ := evC_cont h1
    obtain ⟨k, hk⟩ := evC_cont he
    refine ⟨max n k, ?_⟩
    simp only [evC]
    rw [evC_mono (orc_le (Nat.le_max_left n k)) hn]
    exact evC_mono (orc_le (Nat.le_max_right n k)) hk
   ·rename_i hne
    obtain ⟨n, hn⟩ := evC_cont he
    refine ⟨n, ?_⟩
    simp only [evC]
    rw [hn]
    split
    ·rename_i s2 h2
     injection h2 with h2
     subst h2
     exact absurd he (hne s2)
    ·rfl
 | .cond x a b, s, r, he => by
   simp only [evC] at he ⊢
   split at he
   ·rename_i t ht
    try simp only
    cases t
    ·exact evC_cont (by simpa using he)
    ·exact evC_cont (by simpa using he)
   ·cases he
 | .blk id c, s, r, he => by
   simp only [evC] at he
   split at he
   ·rename_i i s2 h1
    obtain ⟨n, hn⟩ := evC_cont h1
    refine ⟨n, ?_⟩
    simp only [evC]
    rw [hn]
    exact he
   ·rename_i hne
    obtain ⟨n, hn⟩ := evC_cont he
    refine ⟨n, ?_⟩
    simp only [evC]
    rw [hn]
    split
    ·rename_i i s2 h2
     injection h2 with h2
     subst h2
     exact absurd he (hne i s2)
    ·rfl
 | .loop kt kb c, s, r, he => by
   simp only [evC] at he ⊢
   exact sem_loop_iff.1 he
theorem sem_call {f : FuncId} {a : List AV} {m : Mem} {l : Nat} {r : List AV × Mem} (h : callBy T (sem T) f a m l = some r) : (sem T).call f a m l = some r := by
 refine sem_call_iff.2 ?_
 unfold callBy at h
 split at h
 ·rename_i g hg
  exact ⟨1, by simp only [orc, callBy, hg]; exact h⟩
 ·rename_i hg
  split at h
  ·rename_i F hF
   split at h
   ·rename_i hn
    cases hq : evC (sem T) F.body (enter F a m l) with
    | none => rw [hq] at h; cases h
    | some x =>
      rw [hq] at h
      obtain ⟨n, hn'⟩ := evC_cont hq
      exact ⟨n + 1, by simp only [orc, callBy, hg, hF]; rw [if_pos hn, hn']; exact h⟩
   ·cases h
  ·cases h
theorem sem_loop {kt kb : List Nat} {c : IC} {s : St} {r : Fl × St} (h : loopBy (sem T) kt kb c s = some r) : (sem T).loop kt kb c s = some r := by
 refine sem_loop_iff.2 ?_
 unfold loopBy at h
 split at h
 ·rename_i s2 hm
  split at h
  ·rename_i s3 h3
   obtain ⟨n, hn⟩ := evC_cont h3
   obtain ⟨k, hk⟩ := sem_loop_iff.1 h
   refine ⟨max n k + 1, ?_⟩
   simp only [orc, loopBy, hm]
   rw [evC_mono (orc_le (Nat.le_max_left n k)) hn]
   exact (orc_le (Nat.le_max_right n k)).loop _ _ _ _ _ hk
  ·rename_i hne
   obtain ⟨n, hn⟩ := evC_cont h
   refine ⟨n + 1, ?_⟩
   simp only [orc, loopBy, hm]
   rw [hn]
   split
   ·rename_i s3 h3
    injection h3 with h3
    subst h3
    exact absurd h (hne s3)
   ·rfl
 ·cases h
theorem sem_calls {P : Program} (hm : P.follows .mixedOrders = true) (hT : TabOk P T) {f : FuncId} {vs : List AV} {rs : List AV} {m : Mem} (h : (sem T).call f vs noMem 0 = some (rs, m)) {w : World} {cargs : Array Value} (hl : cargs.size = vs.length)
 (hgl : GlobOk w (fun _ => .free))
 (ha : ∀ (i : Nat) c v, vs[i]? = some c → cargs[i]? = some v → VRel w (fun _ _ => none) (fun _ => .free) c v ∧ c.okP (fun _ _ => false) = true ∧ c.noFlag) :
 Calls P f cargs w fun e w' => ∃ v φ' W', e = .returned v ∧ VRel w' φ' W' (retAV rs) v ∧ Below w.heap.size w w' := by
 obtain ⟨n, hn⟩ := sem_call_iff.1 h
 have hent : EntryOk w (fun _ _ => none) (fun _ => .free) 0 noMem vs cargs :=
  ⟨hl, fun i c v hc hv => ⟨(ha i c v hc hv).1, okP_mono (fun _ _ h => by cases h) _ (ha i c v hc hv).2.1, (ha i c v hc hv).2.2⟩, (fun l sl B hl => by omega), (fun l sl b hb => by cases hb), (fun l sl hl => by omega), hgl⟩
 refine (((orc_ok hm hT n).1.1 f vs noMem 0 rs m w _ _ cargs hn hent).2).mono fun e w' hx => ?_
 obtain ⟨v, φ', W', he, hex⟩ := hx
 exact ⟨v, φ', W', he, hex.rel, ⟨hex.fr.os, hex.fr.tape, hex.fr.output, hex.fr.size, fun k hk => hex.fr.blk k hk trivial⟩⟩
end
end Go.Ev
