/- Functions that ask once whether a slice is nil: what they answer either way (slices.Clone). Condition: named in forkBy. -/
import Derived.Test.YtcnlfelalgaepaaGreatDoorEvL
namespace Go.Ev
set_option linter.all false
open Go.RowKit

/-- A function that begins, asks slot q, and goes one of two ways to its end. -/
structure Fork where
  F : IFunc
  a : IC
  b : IC
  q : Nat
  c : IC
  d : IC
  deriving Inhabited
def noO : Orc := { call := fun _ _ _ _ => none, carry := fun _ _ _ _ => none, loop := fun _ _ _ _ => none }
def sameRes : List AV → List AV → Bool
  | [.sl o z []], [.sl o' z' []] => decide (o = o' ∧ z = z')
  | _, _ => false
def leaveC (F : IFunc) (lv : Nat) (r : Option (Fl × St)) : Option (List AV × Mem) :=
  match r with
  | some (.ret, s) => leave F lv (some (.ret, s))
  | _ => none
def forkEnd (F : Fork) (lv : Nat) (s : St) : Option (List AV × Mem) :=
  match s.tm F.q with
  | .bool true => leaveC F.F lv (evC noO F.c s)
  | .bool false => leave F.F lv (evC noO F.d s)
  | .ub =>
    match leaveC F.F lv (evC noO F.c s), leave F.F lv (evC noO F.d s) with
    | some r, some r' => if sameRes r.1 r'.1 then some r else none
    | _, _ => none
  | _ => none
def forkBy (F : Fork) (args : List AV) (low : Mem) (lv : Nat) : Option (List AV × Mem) :=
  if lv = 0 ∧ args.length = F.F.np then
    match evC noO F.a (enter F.F args low lv) with
    | some (.norm, s0) =>
      match evC noO F.b s0 with
      | some (.norm, s1) => forkEnd F lv s1
      | _ => none
    | _ => none
  else none
theorem sameRes_ok {r r' : List AV} (h : sameRes r r' = true) : r = r' := by
  unfold sameRes at h
  split at h
  · have := of_decide_eq_true h
    rw [this.1, this.2]
  · cases h
structure ForkOk (P : Program) (f : FuncId) (F : Fork) : Prop where
  ex : ∃ fn A B C D, P.funcs[f]? = some fn ∧ fn.body = some (.seq A (.seq (.seq B (.cond (.tmp F.q) C .skip)) D)) ∧ (fn.name == "runtime.NumGoroutine") = false ∧ fn.ntmps = F.F.n ∧ F.F.np ≤ F.F.n ∧ CodeOk P F.F.n F.a A ∧ CodeOk P F.F.n F.b B ∧ CodeOk P F.F.n F.c C ∧ CodeOk P F.F.n F.d D ∧
    F.F.results.length = fn.results.size ∧ ∀ (i : Nat) rv r, F.F.results[i]? = some rv → fn.results[i]? = some r → ResOk P rv r
theorem noO_call (P : Program) : OrcOk P noO := ⟨fun g vs low lv rs low' w φ W cargs h => by simp [noO] at h, fun g vs low lv B o n z low' w φ W cargs h => by simp [noO] at h⟩
theorem noO_loop (P : Program) : LoopOk P noO.loop := fun n kt kb c c' s fl s1 _ h => by simp [noO] at h
theorem leave_inv {F : IFunc} {lv : Nat} {r : Option (Fl × St)} {rs : List AV} {m : Mem} (h : leave F lv r = some (rs, m)) : ∃ fl s, r = some (fl, s) ∧ (fl = .norm ∨ fl = .ret) ∧ resOf s F.results = some rs ∧ okPs (fun l _ => decide (l < lv)) rs = true ∧ s.low = m := by
  unfold leave at h
  split at h
  · rename_i s
    split at h
    · rename_i rs' hrs
      split at h
      · rename_i hk
        injection h with h
        injection h with e1 e2
        subst e1
        exact ⟨_, s, rfl, .inl rfl, hrs, hk, e2⟩
      · cases h
    · cases h
  · rename_i s
    split at h
    · rename_i rs' hrs
      split at h
      · rename_i hk
        injection h with h
        injection h with e1 e2
        subst e1
        exact ⟨_, s, rfl, .inr rfl, hrs, hk, e2⟩
      · cases h
    · cases h
  · cases h
theorem fork_ok {P : Program} (hm : P.follows .mixedOrders = true) {f : FuncId} {F : Fork} (hF : ForkOk P f F) {vs : List AV} {low : Mem} {lv : Nat} {rs : List AV} {low' : Mem} {w : World} {φ : Nat → Nat → Option Blk} {W : Nat → Own} {cargs : Array Value} (he : forkBy F vs low lv = some (rs, low')) (hent : EntryOk w φ W lv low vs cargs) :
    (∃ fn, P.funcs[f]? = some fn ∧ fn.body.isNone = false ∧ (fn.name == "runtime.NumGoroutine") = false) ∧ Calls P f cargs w fun e w' => ∃ v φ' W', e = .returned v ∧ ExitOk w φ W lv low' rs v w' φ' W' := by
  obtain ⟨fn, A, B, C, D, f1, f2, f3, f4, f5, hA, hB, hC, hD, f7, f8⟩ := hF.ex
  refine ⟨⟨fn, f1, by rw [f2]; rfl, f3⟩, ?_⟩
  unfold forkBy at he
  split at he
  case isFalse => cases he
  rename_i hc
  obtain ⟨hlv0, hnp⟩ := hc
  split at he
  case h_2 => cases he
  rename_i s0 h0
  split at he
  case h_2 => cases he
  rename_i s1 h1
  have leaveC_inv : ∀ {r : Option (Fl × St)} {rs : List AV} {m : Mem}, leaveC F.F lv r = some (rs, m) → ∃ s, r = some (.ret, s) ∧ resOf s F.F.results = some rs ∧ okPs (fun l _ => decide (l < lv)) rs = true ∧ s.low = m := by
    intro r rs m h
    unfold leaveC at h
    split at h
    · rename_i s
      obtain ⟨fl, s', e, _, h1, h2, h3⟩ := leave_inv h
      injection e with e
      injection e with e1 e2
      subst e2
      exact ⟨s, rfl, h1, h2, h3⟩
    · cases h
  have run : ∀ (fl : Bool → Fl) (S : Bool → St) (a : Act) (Q : Exit → Act → World → Prop), Rel w { lv := lv, own := W, phi := φ } (enter F.F vs low lv) a φ W w → (∀ k (a' : Act) w' φ' W', a'.tmps.size = a.tmps.size → Rel w { lv := lv, own := W, phi := φ } (S k) a' φ' W' w' → Q (fl k).exit a' w') →
      (∀ (a : Act) φ' W' w', Rel w { lv := lv, own := W, phi := φ } s1 a φ' W' w' → ∃ t, a.eval (.tmp F.q) = .bool t ∧ (t = true → evC noO F.c s1 = some (.ret, S true) ∧ fl true = .ret) ∧ (t = false → evC noO F.d s1 = some (fl false, S false))) → (Code.seq A (.seq (.seq B (.cond (.tmp F.q) C .skip)) D)).wp P Q a w := by
    intro fl S a Q hrel hQ hq
    refine wp_seq (code_ok hm (noO_call P) (noO_loop P) hA rfl hrel h0 fun a0 w0 φ0 W0 hs0 r0 => ?_)
    refine wp_seq (wp_seq (code_ok hm (noO_call P) (noO_loop P) hB (by rw [← r0.size, hs0, hrel.size]; rfl) r0 h1 fun a1 w1 φ1 W1 hs1 r1 => ?_))
    obtain ⟨t, ht, h2, h3⟩ := hq a1 φ1 W1 w1 r1
    cases t with
    | true =>
      obtain ⟨h2, hfl⟩ := h2 rfl
      refine wp_cond_true ht (code_ok hm (noO_call P) (noO_loop P) hC (by rw [← r1.size, hs1, hs0, hrel.size]; rfl) r1 h2 fun a2 w2 φ2 W2 hs2 r2 => ?_)
      have := hQ true a2 w2 φ2 W2 (hs2.trans (hs1.trans hs0)) r2
      rw [hfl] at this
      exact this
    | false =>
      refine wp_cond_false ht (wp_skip ?_)
      exact code_ok hm (noO_call P) (noO_loop P) hD (by rw [← r1.size, hs1, hs0, hrel.size]; rfl) r1 (h3 rfl) fun a2 w2 φ2 W2 hs2 r2 => hQ false a2 w2 φ2 W2 (hs2.trans (hs1.trans hs0)) r2
  unfold forkEnd at he
  split at he
  · rename_i hb
    obtain ⟨s2, h2, hrs, hk, hlow⟩ := leaveC_inv he
    refine body_ok hent hnp f1 f2 f4 f5 f7 f8 (fl := fun _ => .ret) (S := fun _ => s2) (fun a Q hrel hQ => run (fun _ => .ret) (fun _ => s2) a Q hrel hQ fun a' φ' W' w' r => ?_) (fun _ => .inr rfl) (fun _ => hrs) hk (fun _ l _ => by rw [hlow])
    have hv := (r.tm F.q).rel
    rw [hb] at hv
    have hv : VRel w' φ' W' (.bool true) (a'.eval (.tmp F.q)) := hv
    generalize hve : a'.eval (.tmp F.q) = u at hv
    cases hv
    exact ⟨true, rfl, fun _ => ⟨h2, rfl⟩, fun h => by cases h⟩
  · rename_i hb
    obtain ⟨fl, s2, h2, hfl, hrs, hk, hlow⟩ := leave_inv he
    refine body_ok hent hnp f1 f2 f4 f5 f7 f8 (fl := fun _ => fl) (S := fun _ => s2) (fun a Q hrel hQ => run (fun _ => fl) (fun _ => s2) a Q hrel hQ fun a' φ' W' w' r => ?_) (fun _ => hfl) (fun _ => hrs) hk (fun _ l _ => by rw [hlow])
    have hv := (r.tm F.q).rel
    rw [hb] at hv
    have hv : VRel w' φ' W' (.bool false) (a'.eval (.tmp F.q)) := hv
    generalize hve : a'.eval (.tmp F.q) = u at hv
    cases hv
    exact ⟨false, rfl, (fun h => by cases h), fun _ => h2⟩
  · rename_i hb
    split at he
    · rename_i r r' hr hr'
      split at he
      · rename_i hsame
        injection he with he
        subst he
        obtain ⟨s2, h2, hrs, hk, hlow⟩ := leaveC_inv hr
        obtain ⟨fl, s3, h3, hfl, hrs3, hk3, hlow3⟩ := leave_inv (rs := r'.1) (m := r'.2) hr'
        have hsm := sameRes_ok hsame
        refine body_ok hent hnp f1 f2 f4 f5 f7 f8 (fl := fun t => if t then .ret else fl) (S := fun t => if t then s2 else s3) (fun a Q hrel hQ => run _ _ a Q hrel hQ fun a' φ' W' w' r => ?_) (fun k => by cases k <;> simp [hfl]) (fun k => by cases k <;> simp [hrs, hrs3] <;> exact hsm.symm) hk (fun _ l hl => by omega)
        have hv := (r.tm F.q).rel
        rw [hb] at hv
        have hv : VRel w' φ' W' .ub (a'.eval (.tmp F.q)) := hv
        generalize hve : a'.eval (.tmp F.q) = u at hv
        cases hv
        rename_i t
        exact ⟨t, rfl, fun _ => ⟨h2, rfl⟩, fun _ => h3⟩
      · cases he
    · cases he
  · cases he
def cFork4 (P : Program) (n : Nat) (g : Nat → H) (A0 : Ann) (A B C D : Code) : Option (IC × IC × IC × IC) :=
  match cCode P n g A0 A, cCode P n g A0 B with
  | some a, some b =>
    match cCode P n g A0 C, cCode P n g A0 D with
    | some c, some d => some (a, b, c, d)
    | _, _ => none
  | _, _ => none
theorem cFork4_ok {P : Program} {A0 : Ann} (hA : ClonesOk P A0) {n : Nat} {g : Nat → H} {A B C D : Code} {r : IC × IC × IC × IC} (h : cFork4 P n g A0 A B C D = some r) : CodeOk P n r.1 A ∧ CodeOk P n r.2.1 B ∧ CodeOk P n r.2.2.1 C ∧ CodeOk P n r.2.2.2 D := by
  unfold cFork4 at h
  split at h
  · rename_i h1 h2
    split at h
    · rename_i h3 h4
      injection h with h
      subst h
      exact ⟨cCode_ok hA h1, cCode_ok hA h2, cCode_ok hA h3, cCode_ok hA h4⟩
    · cases h
  · cases h
def cFork (P : Program) (A0 : Ann) (fn : Func) : Option Fork :=
  if (fn.name == "runtime.NumGoroutine") = false ∧ fn.params.size + fn.nfree ≤ fn.ntmps then
    match fn.body with
    | some (.seq A (.seq (.seq B (.cond (.tmp q) C .skip)) D)) =>
      match cFork4 P fn.ntmps (hintAt (codeMks P (.seq A (.seq (.seq B (.cond (.tmp q) C .skip)) D))) (fn.params.size + fn.nfree) 8) A0 A B C D with
      | some r =>
        match cRes P fn.results.toList with
        | some rs => some ⟨⟨fn.ntmps, fn.params.size + fn.nfree, rs, .skip⟩, r.1, r.2.1, q, r.2.2.1, r.2.2.2⟩
        | none => none
      | none => none
    | _ => none
  else none
theorem cFork_ok {P : Program} {A0 : Ann} (hA : ClonesOk P A0) {f : FuncId} {fn : Func} {F : Fork} (hf : P.funcs[f]? = some fn) (h : cFork P A0 fn = some F) : ForkOk P f F := by
  unfold cFork at h
  split at h
  · rename_i hc
    split at h
    · rename_i A B q C D hb
      split at h
      · rename_i r hr
        split at h
        · rename_i rs h5
          injection h with h
          subst h
          obtain ⟨q1, q2⟩ := cRes_ok h5
          obtain ⟨h1, h2, h3, h4⟩ := cFork4_ok hA hr
          exact ⟨fn, A, B, C, D, hf, hb, hc.1, rfl, hc.2, h1, h2, h3, h4, by simpa using q1, fun i rv r hr hx => q2 i rv r hr (by simpa using hx)⟩
        · cases h
      · cases h
    · cases h
  · cases h
theorem forks_ok {P : Program} (hm : P.follows .mixedOrders = true) {t : FuncId → Option Fork} (ht : ∀ f F, t f = some F → ForkOk P f F) : CallOk P fun f args low lv => ((t f).map forkBy).bind fun g => g args low lv := by
  intro g vs low lv rs low' w φ W cargs h hent
  obtain ⟨gv, hg, he⟩ := Option.bind_eq_some_iff.1 h
  obtain ⟨F, hF, rfl⟩ := Option.map_eq_some_iff.1 hg
  exact fork_ok hm (ht g F hF) he hent
end Go.Ev
