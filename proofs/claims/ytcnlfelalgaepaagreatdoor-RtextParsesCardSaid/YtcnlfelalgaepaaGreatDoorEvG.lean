/- Code: what the evaluator answers for a text, the run comes to; and for a call. Condition: the table tells of the program's functions. -/
import Derived.Test.YtcnlfelalgaepaaGreatDoorEvF
import Derived.Scope
namespace Go.Ev
set_option linter.all false
open Go.RowKit
def deadReg : IC := .reg [⟨.fail, none, none, .any⟩]
theorem deadReg_ev (O : Orc) (s : St) : evC O deadReg s = none := rfl
inductive CodeOk (P : Program) (n : Nat) : IC → Code → Prop
 | skip : CodeOk P n .skip .skip
 | ret : CodeOk P n .ret .ret
 | exit (id : Nat) : CodeOk P n (.exit id) (.exit id)
 | retK (kt kb : List Nat) : CodeOk P n (.retK kt kb) .ret
 | exitK (id : Nat) (kt kb : List Nat) : CodeOk P n (.exitK id kt kb) (.exit id)
 | reg (id : Nat) (ops : Array Oper) (iops : List IOper) (draw : Bool) (hr : RegOk P n ops iops) (hd : draw = true → DrawOk ops iops) : CodeOk P n (.reg iops) (.region id ops draw)
 | seq (x y : IC) (x' y' : Code) (hx : CodeOk P n x x') (hy : CodeOk P n y y') : CodeOk P n (.seq x y) (.seq x' y')
 | cond (c : X) (c' : Operand) (x y : IC) (x' y' : Code) (hc : OpdOk c c') (hx : CodeOk P n x x') (hy : CodeOk P n y y') : CodeOk P n (.cond c x y) (.cond c' x' y')
 | blk (id : Nat) (x : IC) (x' : Code) (hx : CodeOk P n x x') : CodeOk P n (.blk id x) (.block id x')
 | loop (kt kb : List Nat) (x : IC) (x' : Code) (hx : CodeOk P n x x') : CodeOk P n (.loop kt kb x) (.loop x')
 | dead (c : Code) : CodeOk P n deadReg c
 | label (l : Nat) : CodeOk P n .skip (.label l)
 | scope (x : IC) (x' : Code) (hx : CodeOk P n x x') : CodeOk P n x (.scope x')
def Fl.exit : Fl → Exit
 | .norm => .normal
 | .ex id => .exit id
 | .ret => .ret
def LoopOk (P : Program) (L : List Nat → List Nat → IC → St → Option (Fl × St)) : Prop :=
 ∀ n kt kb c c' s fl s1, CodeOk P n c c' → L kt kb c s = some (fl, s1) → ∃ m, ∀ (w0 : World) (W0 : Base) (a : Act) φ W w (Q : Exit → Act → World → Prop), s.n = n → Rel w0 W0 s a φ W w →
  (∀ (a' : Act) w' φ W, a'.tmps.size = a.tmps.size → Rel w0 W0 s1 a' φ W w' → Q fl.exit a' w') → Code.rounds P c' Q m a w
section
variable {w0 w w' : World} {W0 : Base} {W W' : Nat → Own} {φ φ' : Nat → Nat → Option Blk} {s s' s1 : St} {a : Act} {P : Program} {O : Orc} {av : AV} {fl : Fl}
theorem tmOf_map (f : Nat → AV) : ∀ (l : List Nat) (t : Nat), tmOf (l.map fun k => (k, f k)) t = if t ∈ l then f t else .undef
 | [], t => by simp [tmOf]
 | k :: l, t => by
   simp only [List.map_cons, tmOf, tmOf_map f l t, List.mem_cons]
   by_cases h : t = k
   ·subst h; simp
   ·simp [h]
theorem bxOf_map (f : Nat → Option ABox) : ∀ (l : List Nat) (t : Nat), bxOf (l.map fun k => (k, f k)) t = if t ∈ l then f t else none
 | [], t => by simp [bxOf]
 | k :: l, t => by
   simp only [List.map_cons, bxOf, bxOf_map f l t, List.mem_cons]
   by_cases h : t = k
   ·subst h; simp
   ·simp [h]
theorem Rel.mask (h : Rel w0 W0 s a φ W w) {kt kb : List Nat} (he : s.mask kt kb = some s1) : ∃ φ', Rel w0 W0 s1 a φ' W w ∧ s1.n = s.n := by
 unfold St.mask at he
 simp only at he
 split at he
 ·rename_i hc
  injection he with he
  subst he
  rw [Bool.and_eq_true, List.all_eq_true, List.all_eq_true] at hc
  obtain ⟨h1, h2⟩ := hc
  have hg : ∀ l sl, ({ s with tm := tmOf (kt.map fun t => (t, s.tm t)), bx := bxOf (kb.map fun b => (b, s.bx b)) } : St).get l sl = if l = s.lv then (if sl ∈ kb then s.bx sl else none) else s.get l sl := fun l sl => by
   show (if l = s.lv then bxOf (kb.map fun b => (b, s.bx b)) sl else if l < s.lv then s.low l sl else none) = _
   rw [bxOf_map]
   unfold St.get
   by_cases q : l = s.lv
   ·simp [q]
   ·simp [q]
  let φ' : Nat → Nat → Option Blk := fun l sl => if l = s.lv ∧ ¬ sl ∈ kb then none else φ l sl
  have hφ : ∀ l sl b, (l != s.lv || kb.contains sl) = true → φ l sl = some b → φ' l sl = some b := fun l sl b hp hb => by
   show (if l = s.lv ∧ ¬ sl ∈ kb then none else φ l sl) = _
   rw [if_neg]
   ·exact hb
   ·rintro ⟨q1, q2⟩
    simp [q1] at hp
    exact q2 hp
  have hφ2 : ∀ l sl b, φ' l sl = some b → φ l sl = some b := fun l sl b hb => by
   have hb : (if l = s.lv ∧ ¬ sl ∈ kb then none else φ l sl) = some b := hb
   split at hb
   ·cases hb
   ·exact hb
  refine ⟨φ', ⟨h.size, h.defs, fun t => ?_, fun l sl B hB => ?_, fun l sl b hb => h.phi l sl b (hφ2 l sl b hb), fun l sl hn => ?_, h.fr, fun l sl b hl hb => ?_, h.lvq, h.g0⟩, rfl⟩
  ·show TmOk w φ' W s.lv (Pos.tmp t) (tmOf (kt.map fun t => (t, s.tm t)) t) _
   rw [tmOf_map]
   split
   ·rename_i ht
    have := h.tm t
    exact ⟨this.rel.move _ hφ (fun _ _ _ a b => ⟨a, b⟩) (h1 t ht), this.lvl, this.own⟩
   ·exact ⟨.undef _, rfl, .of_noFlag (by intro i j e sz rows; simp [AV.part, AV.part1])⟩
  ·rw [hg] at hB
   have key : ∀ l sl, s.get l sl = some B → ABox.okP (fun l sl => l != s.lv || kb.contains sl) B = true → (l = s.lv → sl ∈ kb) → BoxOk w φ' W l sl B := fun l sl hB hp hk => by
    have hbx := h.box l sl B hB
    cases B with
    | iter _ _ =>
      obtain ⟨b, k1, k2⟩ := hbx
      exact ⟨b, hφ l sl b (by
       by_cases q : l = s.lv
       ·simp [q]; exact hk q
       ·simp [q]) k1, k2⟩
    | cells t cs =>
      obtain ⟨b, arr, k1, k2, k3, k4, k5, k6, k7⟩ := hbx
      refine ⟨b, arr, hφ l sl b (by
       by_cases q : l = s.lv
       ·simp [q]; exact hk q
       ·simp [q]) k1, k2, k3, k4, k5, k6, fun j c v hc hv => ⟨(k7 j c v hc hv).1.move _ hφ (fun _ _ _ a b => ⟨a, b⟩) (okPs_get _ hp (List.mem_of_getElem? hc)), (k7 j c v hc hv).2⟩⟩
   split at hB
   ·rename_i hl
    split at hB
    ·rename_i hk
     have := h2 sl hk
     rw [hB] at this
     exact key l sl (by unfold St.get; rw [if_pos hl]; exact hB) (by simpa using this) fun _ => hk
    ·cases hB
   ·rename_i hl
    have hll : l < s.lv := by
     unfold St.get at hB
     rw [if_neg hl] at hB
     split at hB
     ·assumption
     ·cases hB
    refine key l sl hB ?_ fun q => absurd q hl
    have hbx := h.box l sl B hB
    cases B with
    | iter _ _ => rfl
    | cells t cs =>
      obtain ⟨b, arr, k1, k2, k3, k4, _⟩ := hbx
      refine okPs_mono (fun l' sl' hq => ?_) cs k4
      simp only [lvOk, decide_eq_true_eq] at hq
      simp [show ¬ l' = s.lv by omega]
  ·rw [hg] at hn
   show (if l = s.lv ∧ ¬ sl ∈ kb then none else φ l sl) = none
   split at hn
   ·rename_i hl
    split at hn
    ·rename_i hk
     rw [if_neg (fun q => q.2 hk)]
     exact h.phn l sl (by unfold St.get; rw [if_pos hl]; exact hn)
    ·rename_i hk
     rw [if_pos ⟨hl, hk⟩]
   ·rename_i hl
    rw [if_neg (fun q => hl q.1)]
    exact h.phn l sl hn
  ·have := h.ext l sl b hl hb
   have hl' : l < s.lv := hl
   show (if l = s.lv ∧ ¬ sl ∈ kb then none else φ l sl) = _
   rw [if_neg (fun q => by omega)]
   exact this
 ·cases he
theorem code_ok (hm : P.follows .mixedOrders = true) (hO : OrcOk P O) (hL : LoopOk P O.loop) {n : Nat} {c : IC} {c' : Code} (hc : CodeOk P n c c') : ∀ {s : St} {a : Act} {φ : Nat → Nat → Option Blk} {W : Nat → Own} {w : World} {fl : Fl} {s1 : St} {Q : Exit → Act → World → Prop}, s.n = n → Rel w0 W0 s a φ W w → evC O c s = some (fl, s1) →
 (∀ (a' : Act) w' φ W, a'.tmps.size = a.tmps.size → Rel w0 W0 s1 a' φ W w' → Q fl.exit a' w') → c'.wp P Q a w := by
 induction hc with
 | dead c =>
   intro s a φ W w fl s1 Q hn h he hQ
   rw [deadReg_ev] at he
   cases he
 | label l =>
   intro s a φ W w fl s1 Q hn h he hQ
   simp only [evC] at he
   injection he with he
   injection he with e1 e2
   subst e1 e2
   exact wp_label (hQ a w φ W rfl h)
 | scope x x' hx ih =>
   intro s a φ W w fl s1 Q hn h he hQ
   refine wp_scope_straight (ih hn h he fun a' w' φ W hz hr => ?_)
   have := hQ a' w' φ W hz hr
   cases fl <;> exact this
 | skip =>
   intro s a φ W w fl s1 Q hn h he hQ
   simp only [evC] at he
   injection he with he
   injection he with e1 e2
   subst e1 e2
   exact wp_skip (hQ a w φ W rfl h)
 | ret =>
   intro s a φ W w fl s1 Q hn h he hQ
   simp only [evC] at he
   injection he with he
   injection he with e1 e2
   subst e1 e2
   exact wp_ret (hQ a w φ W rfl h)
 | exit id =>
   intro s a φ W w fl s1 Q hn h he hQ
   simp only [evC] at he
   injection he with he
   injection he with e1 e2
   subst e1 e2
   exact wp_exit (hQ a w φ W rfl h)
 | retK kt kb =>
   intro s a φ W w fl s1 Q hn h he hQ
   simp only [evC] at he
   obtain ⟨s2, he2, h2⟩ := Option.map_eq_some_iff.1 he
   injection h2 with e1 e2
   subst e1 e2
   obtain ⟨φ', h', _⟩ := h.mask he2
   exact wp_ret (hQ a w φ' W rfl h')
 | exitK id kt kb =>
   intro s a φ W w fl s1 Q hn h he hQ
   simp only [evC] at he
   obtain ⟨s2, he2, h2⟩ := Option.map_eq_some_iff.1 he
   injection h2 with e1 e2
   subst e1 e2
   obtain ⟨φ', h', _⟩ := h.mask he2
   exact wp_exit (hQ a w φ' W rfl h')
 | reg id ops iops draw hr hd =>
   intro s a φ W w fl s1 Q hn h he hQ
   simp only [evC] at he
   obtain ⟨s2, he2, h2⟩ := Option.map_eq_some_iff.1 he
   clear he
   injection h2 with e1 e2
   subst e1 e2
   cases draw with
   | false => exact region_ok hO hr hn h he2 fun a' w' φ W hs h' => hQ a' w' φ W hs h'
   | true => exact region_draw_ok hm hO hr (hd rfl) hn h he2 fun a' w' φ W hs h' => hQ a' w' φ W hs h'
 | seq x y x' y' hx hy ihx ihy =>
   intro s a φ W w fl s1 Q hn h he hQ
   simp only [evC] at he
   split at he
   ·rename_i s2 h1
    refine wp_seq (ihx hn h h1 fun a' w' φ' W' hs h' => ?_)
    exact ihy (by rw [← h'.size, hs, h.size, hn]) h' he fun a2 w2 φ2 W2 hs2 h2 => hQ a2 w2 φ2 W2 (hs2.trans hs) h2
   ·rename_i r hne
    refine wp_seq (ihx hn h he fun a' w' φ' W' hs h' => ?_)
    have := hQ a' w' φ' W' hs h'
    cases fl with
    | norm => exact absurd he (hne s1)
    | ex id => exact this
    | ret => exact this
 | cond c c' x y x' y' hc hx hy ihx ihy =>
   intro s a φ W w fl s1 Q hn h he hQ
   simp only [evC] at he
   split at he
   ·rename_i t ht
    have hv := (h.opd hc).1
    rw [ht] at hv
    generalize hce : a.eval c' = u at hv
    cases hv
    cases t with
    | true => exact wp_cond_true hce (ihx hn h (by simpa using he) hQ)
    | false => exact wp_cond_false hce (ihy hn h (by simpa using he) hQ)
   ·cases he
 | blk id x x' hx ih =>
   intro s a φ W w fl s1 Q hn h he hQ
   simp only [evC] at he
   split at he
   ·rename_i i s2 h1
    refine wp_block (ih hn h h1 fun a' w' φ' W' hs h' => ?_)
    show (if i = id then Q .normal a' w' else Q (.exit i) a' w')
    split at he
    ·rename_i hi
     injection he with he
     injection he with e1 e2
     subst e1 e2
     rw [if_pos hi]
     exact hQ a' w' φ' W' hs h'
    ·rename_i hi
     injection he with he
     injection he with e1 e2
     subst e1 e2
     rw [if_neg hi]
     exact hQ a' w' φ' W' hs h'
   ·rename_i r hne
    refine wp_block (ih hn h he fun a' w' φ' W' hs h' => ?_)
    have := hQ a' w' φ' W' hs h'
    cases fl with
    | norm => exact this
    | ex i => exact absurd he (hne i s1)
    | ret => exact this
 | loop kt kb x x' hx ih =>
   intro s a φ W w fl s1 Q hn h he hQ
   simp only [evC] at he
   obtain ⟨m, hm⟩ := hL n kt kb x x' s fl s1 hx he
   exact wp_loop_rounds m (hm w0 W0 a φ W w Q hn h hQ)
theorem loopBy_ok (hm : P.follows .mixedOrders = true) (hO : OrcOk P O) (hL : LoopOk P O.loop) : LoopOk P (loopBy O) := by
 intro n kt kb c c' s fl s1 hc he
 unfold loopBy at he
 split at he
 ·rename_i s2 hmask
  split at he
  ·rename_i s3 h3
   obtain ⟨m, hm1⟩ := hL n kt kb c c' s3 fl s1 hc he
   refine ⟨m + 1, fun w0 W0 a φ W w Q hn h hQ => ?_⟩
   obtain ⟨φ2, h2, hn2⟩ := h.mask hmask
   show c'.wp P (Exit.then (Code.rounds P c' Q m) Q) a w
   refine code_ok hm hO hL hc (by rw [hn2, hn]) h2 h3 fun a' w' φ' W' hs h' => ?_
   exact hm1 w0 W0 a' φ' W' w' Q (by rw [← h'.size, hs, h.size, hn]) h' fun a2 w2 φ3 W3 hs2 h3 => hQ a2 w2 φ3 W3 (hs2.trans hs) h3
  ·rename_i r hne
   refine ⟨1, fun w0 W0 a φ W w Q hn h hQ => ?_⟩
   obtain ⟨φ2, h2, hn2⟩ := h.mask hmask
   show c'.wp P (Exit.then (Code.rounds P c' Q 0) Q) a w
   refine code_ok hm hO hL hc (by rw [hn2, hn]) h2 he fun a' w' φ' W' hs h' => ?_
   have := hQ a' w' φ' W' hs h'
   cases fl with
   | norm => exact absurd he (hne s1)
   | ex id => exact this
   | ret => exact this
 ·cases he
def ResOk (P : Program) (rv : RV) (r : ResultVar) : Prop :=
 match rv, r with
 | .tmp t, .tmp t' => t = t'
 | .cell t agg, .cell t' ty => t = t' ∧ AggOk P ty agg
 | _, _ => False
structure FuncOk (P : Program) (f : FuncId) (F : IFunc) : Prop where
 ex : ∃ fn c', P.funcs[f]? = some fn ∧ fn.body = some c' ∧ (fn.name == "runtime.NumGoroutine") = false ∧ fn.ntmps = F.n ∧ F.np ≤ F.n ∧ CodeOk P F.n F.body c' ∧ F.results.length = fn.results.size ∧
  ∀ (i : Nat) rv r, F.results[i]? = some rv → fn.results[i]? = some r → ResOk P rv r
structure TabOk (P : Program) (T : Tab) : Prop where
 fns : ∀ f F, T.fns f = some F → FuncOk P f F
 given : CallOk P fun f args low lv => (T.given f).bind fun g => g args low lv
theorem resVal_ok (h : Rel w0 W0 s a φ W w) {rv : RV} {r : ResultVar} (hr : ResOk P rv r) (he : resVal s rv = some av) :
 ∃ v, (match r with | .tmp t => (pure (a.tmps.getD t undef) : Sem Value) | .cell c t => do loadVar t (← asAddr (a.tmps.getD c undef)) : Sem Value).run P w = .ok v w ∧ VRel w φ W av v ∧ av.okP (lvOk s.lv) = true ∧
  ∃ f : Pos → Pos, (∀ l sl j, l < s.lv → f (.box l sl j) = .box l sl j) ∧ OwnAt w (relab f W) (Pos.tmp 0) av v := by
 cases rv with
 | tmp t =>
   cases r with
   | cell _ _ => exact hr.elim
   | tmp t' =>
     obtain rfl : t = t' := hr
     simp only [resVal] at he
     injection he with he
     subst he
     have ht := h.tm t
     refine ⟨_, rfl, ht.rel, ht.lvl, fun p => match p with | .tmp t' i j => if t' = t then .tmp 0 i j else .tmp t' i j | p => p, fun _ _ _ _ => rfl, ?_⟩
     have := ht.own.relab (fun p => match p with | .tmp t' i j => if t' = t then .tmp 0 i j else .tmp t' i j | p => p)
     simpa using this
 | cell t agg =>
   cases r with
   | tmp _ => exact hr.elim
   | cell t' ty =>
     obtain ⟨rfl, hag⟩ := hr
     simp only [resVal] at he
     split at he
     ·rename_i l sl o hp
      split at he
      ·rename_i hl
       split at he
       ·rename_i t2 cs hb
        have hg : s.get l sl = some (.cells t2 cs) := by unfold St.get; rw [if_pos hl]; exact hb
        obtain ⟨b, arr, h1, h2, h3, h4, h5, h6, h7, hle⟩ := h.boxAt hg
        have hv := (h.tm t).rel
        rw [hp] at hv
        generalize hte : a.tmps.getD t undef = u at hv
        cases hv
        rename_i b' hb'
        rw [h1] at hb'
        injection hb' with hb'
        subst hb'
        have hcell : ∀ k, k < cs.length → w.cell? ⟨b.1, k, none⟩ = some (arr.getD k undef) := fun k hk => by
         rw [cell_of_row w b.1 k arr t2 (0, 0) h2]
         simp [Array.getElem?_eq_getElem (show k < arr.size by omega), show k < arr.size by omega]
        have hfk : ∀ k (hk : k < arr.size), arr.getD k undef = arr[k] := fun k hk => by simp [hk]
        obtain ⟨k1, k2⟩ := aggOr_rel (f := fun k => arr.getD k undef) he h5 (fun k hk => by rw [hfk k (by omega)]; exact h6 k _ hk (Array.getElem?_eq_getElem _)) (fun j c hc => by
         have hj := (List.getElem?_eq_some_iff.1 hc).1
         exact (h7 j c _ hc (by rw [hfk j (by omega)]; exact Array.getElem?_eq_getElem _)).1)
        obtain ⟨c1, c2, c3, c4⟩ := aggOr_cells he h5
        have hrun := run_loadVar_f (w := w) hag b.1 o (fun k => arr.getD (o + k) undef) (fun k hk => hcell _ (k1 k hk))
        refine ⟨_, ?_, k2, okP_mono (lvOk_le hle) _ (aggOr_okP _ he h4), fun p => match p with | .box l' s' j => if l' = l ∧ s' = sl ∧ o ≤ j then .tmp 0 0 (j - o) else .box l' s' j | p => p, fun l' s' j hl' => ?_, fun i j e sz rows cv hp' hc => ?_⟩
        ·simp only [hte]
         simp [asAddr, hrun]
        ·show (if l' = l ∧ s' = sl ∧ o ≤ j then Pos.tmp 0 0 (j - o) else .box l' s' j) = _
         rw [if_neg]
         rintro ⟨q, _⟩
         omega
        ·have hi0 : i = 0 := by
          cases av <;> simp [AV.part] at hp' <;> first | exact hp'.1 | skip
          cases agg with
          | none => exact absurd (h5 _ (List.mem_of_getElem? (by simpa [aggOr] using he))) (by simp [AV.one])
          | some n => simp only [aggOr] at he; split at he <;> cases he
         subst hi0
         obtain ⟨p1, p2⟩ := c4 j _ hp'
         have hcv : arr[o + j]? = some cv := by
          have hjl := (List.getElem?_eq_some_iff.1 p2).1
          cases agg with
          | none =>
            obtain rfl : j = 0 := by simpa using p1
            have e0 : (arr.getD (o + 0) undef) = arr[o + 0]'(by omega) := hfk _ (by omega)
            have hone : (arr[o + 0]'(by omega)).oneCell' = true := h6 (o + 0) _ (by omega) (Array.getElem?_eq_getElem _)
            have hc' : (arr.getD (o + 0) undef).part 0 0 = some cv := hc
            rw [e0] at hc'
            rw [Array.getElem?_eq_getElem (by omega)]
            generalize (arr[o + 0]'(by omega)) = q at hone hc'
            cases q <;> simp_all [Value.part, Value.part1, Value.oneCell']
          | some n =>
            have hjn : j < n := by simpa using p1
            have hc' : (((List.range n).map fun k => arr.getD (o + k) undef).toArray)[j]? = some cv := by simpa [aggVal, Value.part, Value.part1] using hc
            simp [hjn] at hc'
            rw [← hc', Array.getElem?_eq_getElem (by omega)]
            simp
         have := ((h7 (o + j) _ cv p2 hcv).2 e sz rows rfl).relab (fun p => match p with | .box l' s' j => if l' = l ∧ s' = sl ∧ o ≤ j then .tmp 0 0 (j - o) else .box l' s' j | p => p)
         simpa using this
       ·cases he
      ·cases he
     ·cases he
end
end Go.Ev
