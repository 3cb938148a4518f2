/- slices.Clone, whatever the type: the same cells in a block of their own. Condition: the shape of its text, named in CloneText. -/
import Derived.Test.YtcnlfelalgaepaaGreatDoorEvC
namespace Go.Ev
set_option linter.all false
open Go.RowKit
structure CloneText (P : Program) (g : FuncId) (t e : TypeId) (i : TypeInfo) (z : Value) : Prop where
 ex : ∃ fn i0 i1 i2 i3 o0 m1 q1 o2 b3 m3 c3 a3 t1 t2 ty, P.funcs[g]? = some fn ∧ fn.name ≠ "runtime.NumGoroutine" ∧ fn.ntmps = 8 ∧ fn.results = #[.tmp 2] ∧
  fn.body = some (.seq (.region i0 #[o0] false) (.seq (.seq (.region i1 #[m1, q1] false) (.cond (.tmp 4) (.seq (.region i2 #[o2] false) .ret) .skip)) (.seq (.region i3 #[b3, m3, c3, a3] false) .ret))) ∧
  (o0.op = .assign (.const (.slice none 0 0)) ∧ o0.dst = some 2 ∧ o0.guard = none) ∧ (m1.op = .move (.tmp 0) ∧ m1.dst = some 3 ∧ m1.guard = none) ∧ (q1.op = .binOp .eql t (.tmp 3) (.const (.slice none 0 0)) t1 ∧ q1.dst = some 4 ∧ q1.guard = none) ∧
  (o2.op = .assign (.const (.slice none 0 0)) ∧ o2.dst = some 2 ∧ o2.guard = none) ∧ (b3.op = .buildSlice t 0 #[] ∧ b3.dst = some 5 ∧ b3.guard = none) ∧ (m3.op = .move (.tmp 0) ∧ m3.dst = some 6 ∧ m3.guard = none) ∧
  (c3.op = .call { callee := .builtin .append, args := #[.tmp 5, .tmp 6], argTypes := #[t, t] } ∧ c3.type = ty ∧ c3.dst = some 7 ∧ c3.guard = none) ∧ (a3.op = .assign (.tmp 7) ∧ a3.dst = some 2 ∧ a3.guard = none) ∧ t2 = ty
 ut : P.underlying t = some (.slice e)
 info : P.info? e = some i
 zero : i.zero = some z
 zsz : z.cells.size = i.size
 pos : 0 < i.size
def CloneOk (P : Program) (g : FuncId) (e : TypeId) (i : TypeInfo) : Prop :=
 (∃ fn, P.funcs[g]? = some fn ∧ fn.body.isNone = false ∧ (fn.name == "runtime.NumGoroutine") = false) ∧
 ∀ (w : World) (A : Option Addr) (n c : Nat) (xs : List Value), xs.length = n * i.size → (0 < n → ∃ b o, A = some ⟨b, o, none⟩ ∧ ∀ (j : Nat) u, xs[j]? = some u → w.cell? ⟨b, o + j, none⟩ = some u) → (∀ u ∈ xs, u.oneCell' = true) → n ≤ 9223372036854775807 → n * i.bytes ≤ 140737488355328 →
  Calls P g #[.slice A n c] w fun ex w' => ∃ v', ex = .returned v' ∧ w'.ownsRow w.heap.size e i.size v' n xs ∧ w.grownBy w' none
def at8 (v0 v1 v2 v3 v4 v5 v6 v7 : Value) : Act := { tmps := #[v0, v1, v2, v3, v4, v5, v6, v7], defers := [] }
section
variable {w0 w w' : World} {W0 : Base} {W W' : Nat → Own} {φ φ' : Nat → Nat → Option Blk} {s s' : St} {a : Act} {P : Program} {O : Orc} {d : Option Nat} {av : AV} {v : Value} {t : TypeId} {agg : Option Nat}
theorem flat_get (z : Nat) : ∀ (rows : List (List AV)), (∀ r ∈ rows, r.length = z) → 0 < z → rows.flatten.length = rows.length * z ∧ ∀ k, k < rows.length * z → ∃ r, rows[k / z]? = some r ∧ rows.flatten[k]? = r[k % z]?
 | [], _, _ => ⟨by simp, fun k hk => by simp at hk⟩
 | r :: rows, hz, hp => by
   obtain ⟨h1, h2⟩ := flat_get z rows (fun r hr => hz r (List.mem_cons_of_mem _ hr)) hp
   have hr := hz r (List.mem_cons_self ..)
   refine ⟨by simp [h1, hr, Nat.add_mul, Nat.add_comm], fun k hk => ?_⟩
   by_cases hkz : k < z
   ·refine ⟨r, by rw [Nat.div_eq_of_lt hkz]; rfl, ?_⟩
    rw [List.flatten_cons, List.getElem?_append_left (by omega), Nat.mod_eq_of_lt hkz]
   ·have hge : z ≤ k := Nat.le_of_not_lt hkz
    have hk' : k - z < rows.length * z := by simp [Nat.add_mul] at hk; omega
    obtain ⟨r', e1, e2⟩ := h2 (k - z) hk'
    have d1 : k / z = (k - z) / z + 1 := by rw [Nat.div_eq k z, if_pos ⟨hp, hge⟩]
    have d2 : k % z = (k - z) % z := Nat.mod_eq_sub_mod hge
    refine ⟨r', by rw [d1]; exact e1, ?_⟩
    rw [List.flatten_cons, List.getElem?_append_right (by omega), hr, e2, d2]
theorem ok_cloneV {g : FuncId} {e : TypeId} {i : TypeInfo} (hcl : CloneOk P g e i) (hsz : 0 < i.size) {o : Oper} {x : X} {x' : Operand} {ts : Array TypeId} (ho : o.op = .call { callee := .value (.func g), args := #[x'], argTypes := ts }) (hx : OpdOk x x')
 (h : Rel w0 W0 s a φ W w) (he : evVal O (.cloneV g x e i.size i.bytes) o.dst s = some (av, s')) (hn : ∀ x, o.dst = some x → x < a.tmps.size) {K : Act → World → Prop} {Q : Exit → Act → World → Prop}
 (hK : ∀ (a' : Act) w' φ W, a'.tmps.size = a.tmps.size → Rel w0 W0 (s'.put o.dst av) a' φ W w' → K a' w') : o.wp P a w K Q := by
 simp only [evVal] at he
 have hxv := (h.opd hx).1
 split at he
 case h_2 => cases he
 rename_i own z rows hxx
 split at he
 case isFalse => cases he
 rename_i hc
 obtain ⟨hds, rfl, hlen, hby⟩ := hc
 obtain ⟨dd, hdd⟩ := Option.isSome_iff_exists.1 hds
 rw [hxx] at hxv
 obtain ⟨A, cap, hve, hr⟩ := hxv.slice_inv
 obtain ⟨⟨fn, f1, f2, f3⟩, hcl⟩ := hcl
 have hcells : ∃ xs : List Value, xs.length = rows.length * i.size ∧ (0 < rows.length → ∃ b o, A = some ⟨b, o, none⟩ ∧ ∀ (j : Nat) u, xs[j]? = some u → w.cell? ⟨b, o + j, none⟩ = some u) ∧ (∀ u ∈ xs, u.oneCell' = true) ∧
  (∀ (k : Nat) c u, rows.flatten[k]? = some c → xs[k]? = some u → VRel w φ W c u ∧ c.isData = true) ∧ rows.flatten.length = rows.length * i.size := by
  rcases hr with hr | ⟨b, off, f, rfl, hn1, hcap, hm, hz, hp, hd, hcc, hv⟩
  ·subst hr
   exact ⟨[], by simp, (fun h => by simp at h), (fun u hu => by cases hu), (fun k c u hc => by simp at hc), by simp⟩
  ·obtain ⟨q1, q2⟩ := flat_get i.size rows hz hp
   have hdat : ∀ k, k < rows.length * i.size → ∃ c, rows.flatten[k]? = some c ∧ c.isData = true ∧ VRel w φ W c (f k) := fun k hk => by
    obtain ⟨r, e1, e2⟩ := q2 k hk
    have hrz := hz r (List.mem_of_getElem? e1)
    have hlt : k % i.size < r.length := by rw [hrz]; exact Nat.mod_lt _ hp
    refine ⟨r[k % i.size], by rw [e2]; exact List.getElem?_eq_getElem hlt, hd r (List.mem_of_getElem? e1) _ (List.getElem_mem hlt), ?_⟩
    have := hv (k / i.size) (k % i.size) r _ e1 (List.getElem?_eq_getElem hlt)
    rwa [Nat.mul_comm, Nat.div_add_mod] at this
   have hget : ∀ (j : Nat) u, ((List.range (rows.length * i.size)).map f)[j]? = some u → j < rows.length * i.size ∧ f j = u := fun j u hu => by
    have hj := (List.getElem?_eq_some_iff.1 hu).1
    simp at hj
    rw [List.getElem?_map, List.getElem?_range hj] at hu
    exact ⟨hj, by simpa using hu⟩
   refine ⟨(List.range (rows.length * i.size)).map f, by simp, fun _ => ⟨b, off, rfl, fun j u hu => ?_⟩, fun u hu => ?_, fun k c u hk hu => ?_, q1⟩
   ·obtain ⟨hj, rfl⟩ := hget j u hu
    exact (hcc j hj).2
   ·simp at hu
    obtain ⟨k, hk, rfl⟩ := hu
    obtain ⟨c, _, c2, c3⟩ := hdat k hk
    exact c3.oneCell c2
   ·obtain ⟨hj, rfl⟩ := hget k u hu
    obtain ⟨c', c1, c2, c3⟩ := hdat k hj
    rw [c1] at hk
    injection hk with hk
    subst hk
    exact ⟨c3, c2⟩
 obtain ⟨xs, x1, x2, x3, x4, x5⟩ := hcells
 have hzd : ∀ r ∈ rows, r.length = i.size ∧ ∀ c ∈ r, c.isData = true := fun r hrm => by
  rcases hr with hr | ⟨b, off, f, rfl, hn1, hcap, hm, hz, hp, hd, hcc, hv⟩
  ·subst hr; cases hrm
  ·exact ⟨hz r hrm, hd r hrm⟩
 injection he with he
 injection he with e1 e2
 subst e1 e2
 unfold Oper.wp
 rw [run_call ho (g := g) (cv := #[]) rfl f1 f2 f3]
 show Calls P g (#[x'].map a.eval ++ #[]) w _
 have hargs : (#[x'].map a.eval ++ #[] : Array Value) = #[.slice A rows.length cap] := by simp [hve]
 rw [hargs]
 refine (hcl w A rows.length cap xs x1 x2 x3 hlen hby).mono fun ex w' hex => ?_
 obtain ⟨v', rfl, how, hgr⟩ := hex
 have how0 : w'.ownsRow 0 e i.size v' rows.length xs := by
  obtain ⟨p1, p2⟩ := how
  refine ⟨p1, ?_⟩
  rcases p2 with p2 | ⟨g', cap', cur, rfl, _, rest⟩
  ·exact .inl p2
  ·exact .inr ⟨g', cap', cur, rfl, Nat.zero_le _, rest⟩
 have hnew : ∀ g', v'.ownBlock = some g' → w.heap.size ≤ g' := fun g' hg' => (how.lt g' hg').1
 let W2 : Nat → Own := fun b => if v'.ownBlock = some b then .row (.tmp dd 0 0) (rows.length * i.size) else W b
 have hst : Step w W w' W2 none := by
  refine ⟨hgr, fun b hb _ => ?_, (fun b hb => by cases hb), (fun b hb => by cases hb)⟩
  show (if v'.ownBlock = some b then _ else _) = _
  rw [if_neg]
  intro e
  have := hnew b e
  omega
 have hr2 := (h.step hst (fun g hg => by cases hg)).clr o.dst
 have hvr : VRel w' φ W2 (.sl (some e) i.size rows) v' := by
  refine vrel_own how0 hsz (fun r hr => (hzd r hr).1) (fun r hr => (hzd r hr).2) (fun g' hg' k hk => ?_) _ (fun p j r c u hp hj hu => ?_)
  ·unfold stC
   show (match (if v'.ownBlock = some g' then _ else _ : Own) with | .free => True | .lim t => k < t | .row _ t => k < t | .box _ _ => False)
   rw [if_pos hg']
   exact hk
  ·refine hst.vrel (fun _ _ _ h => h) (x4 (p * i.size + j) c u ?_ hu).1
   obtain ⟨q1, q2⟩ := flat_get i.size rows (fun r hr => (hzd r hr).1) hsz
   have hpl := (List.getElem?_eq_some_iff.1 hp).1
   have hjl := (List.getElem?_eq_some_iff.1 hj).1
   rw [(hzd r (List.mem_of_getElem? hp)).1] at hjl
   obtain ⟨r', e1, e2⟩ := q2 (p * i.size + j) (mul_add_lt hpl hjl)
   have d1 : (p * i.size + j) / i.size = p := by rw [Nat.mul_comm, Nat.mul_add_div hsz, Nat.div_eq_of_lt hjl, Nat.add_zero]
   have d2 : (p * i.size + j) % i.size = j := by rw [Nat.mul_comm, Nat.mul_add_mod, Nat.mod_eq_of_lt hjl]
   rw [d1, hp] at e1
   injection e1 with e1
   subst e1
   rw [e2, d2]
   exact hj
 have hgood : Good w0 W0 s a o.dst (.sl (some e) i.size rows) w' v' := by
  refine ⟨φ, W2, hr2, fun y hy => ⟨hvr, rfl, fun ii jj e' sz rows' cv hp' hc => ?_⟩⟩
  rw [hdd] at hy
  injection hy with hy
  subst hy
  simp only [AV.part, AV.part1] at hp'
  split at hp'
  case isFalse => cases hp'
  rename_i hi0
  split at hp'
  case isFalse => cases hp'
  rename_i hj0
  subst hi0 hj0
  injection hp' with hp'
  injection hp' with q1 q2 q3
  injection q1 with q1
  subst q1 q2 q3
  have hcv : cv = v' := by
   rcases how.2 with ⟨rfl, _⟩ | ⟨g', cap', cur, rfl, _⟩
   ·simpa [Value.part, Value.part1] using hc.symm
   ·simpa [Value.part, Value.part1] using hc.symm
  subst hcv
  refine ⟨xs, how0, fun g' hg' => ?_⟩
  show (if cv.ownBlock = some g' then _ else _) = _
  rw [if_pos hg']
 obtain ⟨φ3, W3, hrel⟩ := hgood.put hn
 exact hK _ w' φ3 W3 (size_put a o.dst v') hrel
theorem ok_clone {g : FuncId} {e : TypeId} {i : TypeInfo} (hcl : CloneOk P g e i) (hsz : 0 < i.size) {o : Oper} {x : X} {x' : Operand} {ts : Array TypeId} (ho : o.op = .call { callee := .value (.func g), args := #[x'], argTypes := ts }) (hx : OpdOk x x')
 (h : Rel w0 W0 s a φ W w) (he : evVal O (.clone g x e i.size i.bytes) o.dst s = some (av, s')) (hn : ∀ x, o.dst = some x → x < a.tmps.size) {K : Act → World → Prop} {Q : Exit → Act → World → Prop}
 (hK : ∀ (a' : Act) w' φ W, a'.tmps.size = a.tmps.size → Rel w0 W0 (s'.put o.dst av) a' φ W w' → K a' w') : o.wp P a w K Q := by
 simp only [evVal] at he
 have hxv := (h.opd hx).1
 split at he
 case h_2 => cases he
 rename_i own z rows dd hxx hdd
 split at he
 case isFalse => cases he
 rename_i hc
 obtain ⟨rfl, hlen, hby, hbn⟩ := hc
 rw [hxx] at hxv
 by_cases hrows : rows = []
 ·subst hrows
  rw [if_pos (by rfl)] at he
  injection he with he
  injection he with e1 e2
  subst e1 e2
  refine ok_cloneV (O := O) hcl hsz ho hx h ?_ hn hK
  simp [evVal, hxx, hdd]
 obtain ⟨A, cap, hve, hr⟩ := hxv.slice_inv
 obtain ⟨⟨fn, f1, f2, f3⟩, hcl⟩ := hcl
 have hcells : ∃ xs : List Value, xs.length = rows.length * i.size ∧ (0 < rows.length → ∃ b o, A = some ⟨b, o, none⟩ ∧ ∀ (j : Nat) u, xs[j]? = some u → w.cell? ⟨b, o + j, none⟩ = some u) ∧ (∀ u ∈ xs, u.oneCell' = true) ∧
  (∀ (k : Nat) c u, rows.flatten[k]? = some c → xs[k]? = some u → VRel w φ W c u ∧ c.isData = true) ∧ rows.flatten.length = rows.length * i.size := by
  rcases hr with hr | ⟨b, off, f, rfl, hn1, hcap, hm, hz, hp, hd, hcc, hv⟩
  ·subst hr
   exact ⟨[], by simp, (fun h => by simp at h), (fun u hu => by cases hu), (fun k c u hc => by simp at hc), by simp⟩
  ·obtain ⟨q1, q2⟩ := flat_get i.size rows hz hp
   have hdat : ∀ k, k < rows.length * i.size → ∃ c, rows.flatten[k]? = some c ∧ c.isData = true ∧ VRel w φ W c (f k) := fun k hk => by
    obtain ⟨r, e1, e2⟩ := q2 k hk
    have hrz := hz r (List.mem_of_getElem? e1)
    have hlt : k % i.size < r.length := by rw [hrz]; exact Nat.mod_lt _ hp
    refine ⟨r[k % i.size], by rw [e2]; exact List.getElem?_eq_getElem hlt, hd r (List.mem_of_getElem? e1) _ (List.getElem_mem hlt), ?_⟩
    have := hv (k / i.size) (k % i.size) r _ e1 (List.getElem?_eq_getElem hlt)
    rwa [Nat.mul_comm, Nat.div_add_mod] at this
   have hget : ∀ (j : Nat) u, ((List.range (rows.length * i.size)).map f)[j]? = some u → j < rows.length * i.size ∧ f j = u := fun j u hu => by
    have hj := (List.getElem?_eq_some_iff.1 hu).1
    simp at hj
    rw [List.getElem?_map, List.getElem?_range hj] at hu
    exact ⟨hj, by simpa using hu⟩
   refine ⟨(List.range (rows.length * i.size)).map f, by simp, fun _ => ⟨b, off, rfl, fun j u hu => ?_⟩, fun u hu => ?_, fun k c u hk hu => ?_, q1⟩
   ·obtain ⟨hj, rfl⟩ := hget j u hu
    exact (hcc j hj).2
   ·simp at hu
    obtain ⟨k, hk, rfl⟩ := hu
    obtain ⟨c, _, c2, c3⟩ := hdat k hk
    exact c3.oneCell c2
   ·obtain ⟨hj, rfl⟩ := hget k u hu
    obtain ⟨c', c1, c2, c3⟩ := hdat k hj
    rw [c1] at hk
    injection hk with hk
    subst hk
    exact ⟨c3, c2⟩
 obtain ⟨xs, x1, x2, x3, x4, x5⟩ := hcells
 unfold Oper.wp
 rw [run_call ho (g := g) (cv := #[]) rfl f1 f2 f3]
 show Calls P g (#[x'].map a.eval ++ #[]) w _
 have hargs : (#[x'].map a.eval ++ #[] : Array Value) = #[.slice A rows.length cap] := by simp [hve]
 rw [hargs]
 refine (hcl w A rows.length cap xs x1 x2 x3 hlen hby).mono fun ex w' hex => ?_
 obtain ⟨v', rfl, how, hgr⟩ := hex
 have hgood : Good w0 W0 s' a o.dst av w' v' := by
  split at he
  ·rename_i h0
   exact absurd (List.eq_nil_of_length_eq_zero h0) hrows
  ·rename_i h0
   injection he with he
   injection he with e1 e2
   subst e1 e2
   rcases how.2 with ⟨_, hbad⟩ | ⟨g', cap', cur, rfl, hbase, hg', hncap, hcm, hcs, htk⟩
   ·exact absurd hbad h0
   have hcur : ∀ (k : Nat) u, k < rows.length * i.size → cur[k]? = some u → xs[k]? = some u := fun k u hk hu => by
    rw [← htk, List.getElem?_take, if_pos hk, Array.getElem?_toList]
    exact hu
   have hflat : ∀ c ∈ rows.flatten, c.isData = true := fun c hc => by
    obtain ⟨k, hk⟩ := List.mem_iff_getElem?.1 hc
    have hkl := (List.getElem?_eq_some_iff.1 hk).1
    exact (x4 k c _ hk (List.getElem?_eq_getElem (by omega : k < xs.length))).2
   have hmul : rows.length * i.size ≤ cap' * i.size := Nat.mul_le_mul_right _ hncap
   have hr := h.newBoxG hbase hgr dd (by simpa using hbn) e rows.flatten cur hg' (by omega) ((okPs_iff _ _).2 fun c hc => okP_data _ (hflat c hc)) (fun c hc => by
    have := hflat c hc
    cases c <;> simp_all [AV.isData, AV.one]) (fun j u hj hu => x3 u (List.mem_of_getElem? (hcur j u (by omega) hu)))
    (fun j c u hc hu => ⟨(x4 j c u hc (hcur j u (by have := (List.getElem?_eq_some_iff.1 hc).1; omega) hu)).1, fun e sz rr heq => by
      have := hflat c (List.mem_of_getElem? hc)
      rw [heq] at this
      cases this⟩)
   refine ⟨_, _, hr.clr o.dst, fun y hy => .of_noFlag (.win _ _ _ _ _ cap' (g', cur.size) (by simp [upd]) (by omega) hncap hcm ⟨hsz, fun _ => hcs⟩) (by simp [AV.okP, lvOk]) (one_noFlag rfl (fun _ _ _ h => by cases h))⟩
 obtain ⟨φ3, W3, hrel⟩ := hgood.put hn
 exact hK _ w' φ3 W3 (size_put a o.dst v') hrel
theorem ok_appW {o : Oper} {x y : X} {x' y' : Operand} {e : TypeId} {i : TypeInfo} {z : Value} (ho : o.op = .call { callee := .builtin .append, args := #[x', y'], argTypes := #[t, t] }) (ht : P.underlying t = some (.slice e)) (hi : P.info? e = some i) (hz : i.zero = some z) (hzs : z.cells.size = i.size) (hsz : 0 < i.size)
 (hx : OpdOk x x') (hy : OpdOk y y') (h : Rel w0 W0 s a φ W w) (he : evVal O (.appW x y e i.size i.bytes) o.dst s = some (av, s')) : Comes' P w0 W0 s' a o av w := by
 simp only [evVal] at he
 split at he
 case h_2 => cases he
 rename_i e' z1 own z2 more dd hxx hyy hdd
 split at he
 case isFalse => cases he
 rename_i hc
 obtain ⟨rfl, rfl, rfl, hbytes, h63, hbn⟩ := hc
 have hbn : s.bx dd = none := by simpa using hbn
 obtain ⟨f, h1, h2, _⟩ := h.opdTake hx (Pos.tmp dd)
 rw [hxx] at h2
 have hyv := ((h.opd hy).1).relab f
 rw [hyy] at hyv
 have hr1 := h1.clr o.dst
 generalize hxe : a.eval x' = xv at h2
 have hxv := h2.rel
 have hpart : xv.part 0 0 = some xv := by
  obtain ⟨A, cap, hv, _⟩ := hxv.slice_inv
  rw [hv]; rfl
 obtain ⟨xs, hown, hW⟩ := h2.own 0 0 e' i.size [] xv rfl hpart
 obtain rfl : xs = [] := List.eq_nil_of_length_eq_zero (by simpa using hown.1)
 obtain ⟨A, cap, hye, hym⟩ := hyv.slice_inv
 by_cases h0 : more.length = 0
 ·rw [if_pos h0] at he
  injection he with he
  injection he with e1 e2
  subst e1 e2
  have hm0 : more = [] := List.eq_nil_of_length_eq_zero h0
  subst hm0
  have hrun : ∃ v' w', (Builtin.append_ #[t, t] o.type #[xv, .slice A 0 cap]).run P w = .ok v' w' ∧ w'.ownsRow 0 e' i.size v' 0 [] ∧ ((v'.ownBlock = xv.ownBlock ∧ w.grownBy w' xv.ownBlock) ∨ (v'.ownBlock = some w.heap.size ∧ w.grownBy w' none)) := by
   cases A with
   | none => exact ⟨xv, w, run_append_none ht hi hown cap o.type, by simpa using hown, .inl ⟨rfl, World.grownBy.refl w _⟩⟩
   | some ad =>
     obtain ⟨v', w', k1, k2, k3⟩ := run_append_more ht hi hz hzs hsz hown ad 0 cap [] (by simp) (fun j u hu => by simp at hu) (fun u hu => by cases hu) (by omega) (by simpa using hbytes) o.type
     exact ⟨v', w', k1, k2, k3⟩
  obtain ⟨v', w', k1, k2, k3⟩ := hrun
  have hstep : ∃ row, (row = none ∨ row = xv.ownBlock) ∧ Step w (relab f W) w' (relab f W) row := by
   rcases k3 with ⟨q1, q2⟩ | ⟨q1, q2⟩
   ·refine ⟨xv.ownBlock, .inr rfl, q2, fun b hb hne => rfl, fun b hb hlt o' ho' => ?_, fun b hb hlt hf => ?_⟩
    ·have hw := hW b hb
     unfold stC at ho'
     rw [hw] at ho'
     simp at ho'
    ·rw [hW b hb] at hf
     exact hf
   ·exact ⟨none, .inl rfl, q2, fun b hb _ => rfl, (fun b hb => by cases hb), (fun b hb => by cases hb)⟩
  obtain ⟨row, hrw, hstep⟩ := hstep
  have hr2 := hr1.step hstep (fun g hg hlt => by
   rcases hrw with rfl | rfl
   ·cases hg
   ·refine ⟨dd, 0, 0, _, hW g hg, ?_⟩
    rw [hdd]
    simp only [St.put, upd, if_true]
    intro p q e'' sz rr hp
    simp only [AV.part, AV.part1] at hp
    split at hp
    ·split at hp <;> cases hp
    ·cases hp)
  refine ⟨v', w', .inl ?_, φ, _, hr2, fun x2 hx2 => .of_noFlag ?_ rfl (sl_noFlag _ _)⟩
  ·simp only [execOp, ho, resolve, invoke, builtin]
   simp [hxe, hye, k1]
  ·rcases k2.2 with ⟨rfl, _⟩ | ⟨g', cap', cur, rfl, _⟩
   ·exact .slE ..
   ·exact .slE ..
 ·rw [if_neg h0] at he
  injection he with he
  injection he with e1 e2
  subst e1 e2
  rcases hym with rfl | ⟨b, off, g, rfl, hn, hcap, hm, hz2, hp2, hd2, hc2, hv2⟩
  ·simp at h0
  let news := (List.range (more.length * i.size)).map g
  have hnl : news.length = more.length * i.size := by simp [news]
  have hng : ∀ (j : Nat) u, news[j]? = some u → j < more.length * i.size ∧ u = g j := fun j u hu => by
   have hj := (List.getElem?_eq_some_iff.1 hu).1
   rw [hnl] at hj
   simp [news, hj] at hu
   exact ⟨hj, hu.symm⟩
  obtain ⟨fl1, fl2⟩ := flat_get i.size more hz2 hsz
  have hcellv : ∀ k, k < more.length * i.size → ∃ c, more.flatten[k]? = some c ∧ c.isData = true ∧ VRel w φ (relab f W) c (g k) := fun k hk => by
   obtain ⟨r, e1, e2⟩ := fl2 k hk
   have hrz := hz2 r (List.mem_of_getElem? e1)
   have hlt : k % i.size < r.length := by rw [hrz]; exact Nat.mod_lt _ hsz
   refine ⟨r[k % i.size], by rw [e2]; exact List.getElem?_eq_getElem hlt, hd2 r (List.mem_of_getElem? e1) _ (List.getElem_mem hlt), ?_⟩
   have := hv2 (k / i.size) (k % i.size) r _ e1 (List.getElem?_eq_getElem hlt)
   rwa [Nat.mul_comm, Nat.div_add_mod] at this
  have hcell1 : ∀ u ∈ news, u.oneCell' = true := fun u hu => by
   obtain ⟨k, hk, rfl⟩ := List.mem_map.1 hu
   obtain ⟨c, _, c2, c3⟩ := hcellv k (List.mem_range.1 hk)
   exact c3.oneCell c2
  obtain ⟨v', w', k1, k2, k3⟩ := run_append_more ht hi hz hzs hsz hown ⟨b, off, none⟩ more.length cap news hnl (fun j u hu => by
   obtain ⟨hj, rfl⟩ := hng j u hu
   rw [add_lit]
   exact (hc2 j hj).2) hcell1 (by simpa using h63) (by simpa using hbytes) o.type
  rw [List.nil_append, List.length_nil, Nat.zero_add] at k2
  rcases k2.2 with ⟨_, hbad⟩ | ⟨g', cap', cur, rfl, hbase, hg', hncap, hcm, hcs, htk⟩
  ·exact absurd hbad h0
  let W2 : Nat → Own := fun b => if b = g' then .box (s.lv + 1) 0 else relab f W b
  have hW2 : W2 g' = .box (s.lv + 1) 0 := if_pos rfl
  have hstep : ∃ row, (row = none ∨ row = xv.ownBlock) ∧ Step w (relab f W) w' W2 row := by
   rcases k3 with ⟨q1, q2⟩ | ⟨q1, q2⟩
   ·have hxg : xv.ownBlock = some g' := by rw [← q1]; rfl
    refine ⟨xv.ownBlock, .inr rfl, q2, fun b hb hne => ?_, fun b hb hlt o' ho' => ?_, fun b hb hlt hf => ?_⟩
    ·show (if b = g' then _ else _) = _
     rw [if_neg (fun e => hne (by rw [hxg, e]))]
    ·have hw := hW b hb
     unfold stC at ho'
     rw [hw] at ho'
     simp at ho'
    ·rw [hW b hb] at hf
     exact hf
   ·have hgs : g' = w.heap.size := by simpa [Value.ownBlock] using q1
    refine ⟨none, .inl rfl, q2, fun b hb _ => ?_, (fun b hb => by cases hb), (fun b hb => by cases hb)⟩
    show (if b = g' then _ else _) = _
    rw [if_neg (by omega)]
  obtain ⟨row, hrw, hstep⟩ := hstep
  have hr2 := hr1.step hstep (fun g hg hlt => by
   rcases hrw with rfl | rfl
   ·cases hg
   ·refine ⟨dd, 0, 0, _, hW g hg, ?_⟩
    rw [hdd]
    simp only [St.put, upd, if_true]
    intro p q e'' sz rr hp
    simp only [AV.part, AV.part1] at hp
    split at hp
    ·split at hp <;> cases hp
    ·cases hp)
  have hlv1 : ((s.use x).put o.dst AV.undef).lv = s.lv := by cases x <;> cases o.dst <;> rfl
  have hbx1 : ((s.use x).put o.dst AV.undef).bx = s.bx := by cases x <;> cases o.dst <;> rfl
  let φ1 : Nat → Nat → Option Blk := fun l s' => if l = s.lv + 1 ∧ s' = 0 then some (g', cur.size) else φ l s'
  have hφ1 : ∀ l s' b, φ l s' = some b → φ1 l s' = some b := fun l s' b hb => by
   show (if l = s.lv + 1 ∧ s' = 0 then _ else _) = _
   rw [if_neg]
   ·exact hb
   ·rintro ⟨rfl, rfl⟩
    have : s.get (s.lv + 1) 0 = none := by unfold St.get; rw [if_neg (by omega), if_neg (by omega)]
    rw [h.phn _ _ this] at hb
    cases hb
  have hcur : ∀ (k : Nat) u, k < more.length * i.size → cur[k]? = some u → u = g k := fun k u hk hu => by
   have : news[k]? = some u := by
    rw [← htk, List.getElem?_take, if_pos hk, Array.getElem?_toList]
    exact hu
   exact (hng k u this).2
  have hflat : ∀ c ∈ more.flatten, c.isData = true := fun c hc => by
   obtain ⟨k, hk⟩ := List.mem_iff_getElem?.1 hc
   have hkl := (List.getElem?_eq_some_iff.1 hk).1
   obtain ⟨c', q1, q2, _⟩ := hcellv k (by omega)
   rw [hk] at q1
   injection q1 with q1
   rw [q1]; exact q2
  have hmul : more.length * i.size ≤ cap' * i.size := Nat.mul_le_mul_right _ hncap
  have hbox : BoxOk w' φ1 W2 (s.lv + 1) 0 (.cells e' more.flatten) := by
   refine ⟨(g', cur.size), cur, if_pos ⟨rfl, rfl⟩, hg', ⟨rfl, by show _ ≤ cur.size; omega⟩, (okPs_iff _ _).2 fun c hc => okP_data _ (hflat c hc), fun c hc => ?_, fun j u hj hu => ?_, fun j c u hc hu => ⟨?_, fun e sz rr heq => ?_⟩⟩
   ·exact isData_one (hflat c hc)
   ·rw [fl1] at hj
    obtain ⟨c, _, c2, c3⟩ := hcellv j hj
    rw [hcur j u hj hu]
    exact c3.oneCell c2
   ·have hj := (List.getElem?_eq_some_iff.1 hc).1
    rw [fl1] at hj
    obtain ⟨c', q1, _, q3⟩ := hcellv j hj
    rw [hc] at q1
    injection q1 with q1
    subst q1
    rw [hcur j u hj hu]
    exact hstep.vrel hφ1 q3
   ·have := hflat c (List.mem_of_getElem? hc)
    rw [heq] at this
    cases this
  obtain ⟨φ3, W3, hrel3, hv3⟩ := adopt hr2 (lv := s.lv + 1) (sl := 0) (d := dd) (by rw [hlv1]; omega) (by rw [hbx1]; exact hbn) (b := (g', cur.size)) (φ' := φ1) (t := e') (cs := more.flatten) (if_pos ⟨rfl, rfl⟩) hW2 (fun l s' b hl hb => by
   have hb : (if l = s.lv + 1 ∧ s' = 0 then _ else _) = some b := hb
   rw [if_neg (by omega)] at hb
   exact hb) hbox ((okPs_iff _ _).2 fun c hc => okP_data _ (hflat c hc)) (by rw [hlv1]) (o := 0) (n := more.length) (z := i.size) (v := .slice (some ⟨g', 0, none⟩) more.length cap') (.win _ _ _ _ _ cap' (g', cur.size) (if_pos ⟨rfl, rfl⟩) (by omega) hncap hcm ⟨hsz, fun _ => hcs⟩)
  have hst : ({ s.use x with bx := upd s.bx dd (some (.cells e' more.flatten)) } : St).put o.dst AV.undef = { (s.use x).put o.dst AV.undef with bx := upd ((s.use x).put o.dst AV.undef).bx dd (some (.cells e' more.flatten)) } := by
   rw [hbx1]
   cases o.dst <;> rfl
  refine ⟨_, w', .inl ?_, φ3, W3, by rw [hst]; exact hrel3, fun x2 hx2 => .of_noFlag (by rw [hlv1] at hv3; exact hv3) ?_ (one_noFlag rfl (fun _ _ _ h => by cases h))⟩
  ·simp only [execOp, ho, resolve, invoke, builtin]
   simp [hxe, hye, k1]
  ·show lvOk (s.use x).lv s.lv dd = true
   have : (s.use x).lv = s.lv := by cases x <;> rfl
   rw [this]
   simp [lvOk]
def DeleteOk (P : Program) (g : FuncId) (i : TypeInfo) : Prop :=
 (∃ fn, P.funcs[g]? = some fn ∧ fn.body.isNone = false ∧ (fn.name == "runtime.NumGoroutine") = false) ∧
 ∀ (w : World) (b n cap k : Nat) (arr : Array Value) (t : TypeId), w.heap[b]? = some (.cells arr t (0, 0)) → arr.size = cap * i.size → k < n → n ≤ cap → cap ≤ maxLen → (∀ (q : Nat) v, q < n * i.size → arr[q]? = some v → v.oneCell' = true) →
  Calls P g #[.slice (some ⟨b, 0, none⟩) n cap, .int .i64 (k : Int), .int .i64 ((k : Int) + 1)] w fun ex w' => ex = .returned (.slice (some ⟨b, 0, none⟩) (n - 1) cap) ∧ w.grownBy w' (some b) ∧
   ∃ arr', w'.heap[b]? = some (.cells arr' t (0, 0)) ∧ arr'.size = arr.size ∧ ∀ q, q < (n - 1) * i.size → arr'[q]? = if q < k * i.size then arr[q]? else arr[q + i.size]?
theorem ok_del {g : FuncId} {i : TypeInfo} (hde : DeleteOk P g i) (hsz : 0 < i.size) {o : Oper} {x y z : X} {x' y' z' : Operand} {ts : Array TypeId} (ho : o.op = .call { callee := .value (.func g), args := #[x', y', z'], argTypes := ts }) (hx : OpdOk x x') (hy : OpdOk y y') (hz : OpdOk z z')
 (h : Rel w0 W0 s a φ W w) (he : evVal O (.del g x y z i.size) o.dst s = some (av, s')) (hn : ∀ x, o.dst = some x → x < a.tmps.size) {K : Act → World → Prop} {Q : Exit → Act → World → Prop}
 (hK : ∀ (a' : Act) w' φ W, a'.tmps.size = a.tmps.size → Rel w0 W0 (s'.put o.dst av) a' φ W w' → K a' w') : o.wp P a w K Q := by
 simp only [evVal, delCells] at he
 have hxv := (h.opd hx).1
 have hyv := (h.opd hy).1
 have hzv := (h.opd hz).1
 split at he
 case h_2 => cases he
 rename_i l sl oo n zz ai bi e1 e2 e3
 split at he
 case h_2 => cases he
 rename_i t cs hg
 split at he
 case isFalse => cases he
 rename_i hc
 obtain ⟨rfl, rfl, h0, rfl, hbn, hlen⟩ := hc
 injection he with he
 injection he with q1 q2
 subst q1 q2
 rw [e1] at hxv
 rw [e2] at hyv
 rw [e3] at hzv
 obtain ⟨b, arr, k1, k2, k3, k4, k5, k6, k7, hle⟩ := h.boxAt hg
 have hlvx : (AV.win l sl 0 n i.size).okP (lvOk s.lv) = true := by rw [← e1]; exact (h.opd hx).2
 generalize hvx : a.eval x' = vx at hxv
 generalize hvy : a.eval y' = vy at hyv
 generalize hvz : a.eval z' = vz at hzv
 cases hxv with
 | win _ _ _ _ _ cap b' hb' hn1 hcap hm hk =>
 rw [k1] at hb'
 injection hb' with hb'
 subst hb'
 cases hyv
 cases hzv
 obtain ⟨k, rfl⟩ : ∃ k : Nat, ai = k := ⟨ai.toNat, by omega⟩
 have hasz : arr.size = cap * i.size := k3.1.trans (hk.2 rfl)
 have hkn : k < n := by omega
 have hmul : (n - 1) * i.size = n * i.size - i.size := by rw [Nat.sub_mul, Nat.one_mul]
 have hmul1 : (k + 1) * i.size ≤ n * i.size := Nat.mul_le_mul_right _ hkn
 have hmul2 : (k + 1) * i.size = k * i.size + i.size := Nat.succ_mul _ _
 have hmul3 : n * i.size ≤ cap * i.size := Nat.mul_le_mul_right _ hcap
 obtain ⟨⟨fn, f1, f2, f3⟩, hde⟩ := hde
 unfold Oper.wp
 rw [run_call ho (g := g) (cv := #[]) rfl f1 f2 f3]
 show Calls P g (#[x', y', z'].map a.eval ++ #[]) w _
 have hargs : (#[x', y', z'].map a.eval ++ #[] : Array Value) = #[.slice (some ⟨b.1, 0, none⟩) n cap, .int .i64 (k : Int), .int .i64 ((k : Int) + 1)] := by simp [hvx, hvy, hvz]
 rw [hargs]
 refine (hde w b.1 n cap k arr t k2 hasz hkn hcap hm (fun q v hq hv => k6 q v (by omega) hv)).mono fun ex w' hex => ?_
 obtain ⟨rfl, hgr, arr', g1, g2, g3⟩ := hex
 have hcl : ((cs.take (k * i.size) ++ (cs.take (n * i.size)).drop ((k + 1) * i.size)).map AV.noOwn1).length = (n - 1) * i.size := by
  simp only [List.length_map, List.length_append, List.length_take, List.length_drop]
  omega
 have hcget : ∀ q c, ((cs.take (k * i.size) ++ (cs.take (n * i.size)).drop ((k + 1) * i.size)).map AV.noOwn1)[q]? = some c → q < (n - 1) * i.size ∧ ∃ c0, cs[if q < k * i.size then q else q + i.size]? = some c0 ∧ c = c0.noOwn1 := fun q c hq => by
  have hql := (List.getElem?_eq_some_iff.1 hq).1
  rw [hcl] at hql
  refine ⟨hql, ?_⟩
  rw [List.getElem?_map] at hq
  obtain ⟨c0, hc0, rfl⟩ := Option.map_eq_some_iff.1 hq
  refine ⟨c0, ?_, rfl⟩
  have htl : (cs.take (k * i.size)).length = k * i.size := by rw [List.length_take]; omega
  by_cases hqk : q < k * i.size
  ·rw [List.getElem?_append_left (by omega), List.getElem?_take, if_pos hqk] at hc0
   rw [if_pos hqk]
   exact hc0
  ·rw [List.getElem?_append_right (by omega), List.getElem?_drop, List.getElem?_take, htl] at hc0
   rw [if_neg hqk]
   split at hc0
   ·rw [← hc0]
    congr 1
    omega
   ·cases hc0
 have haget : ∀ q u, q < (n - 1) * i.size → arr'[q]? = some u → arr[if q < k * i.size then q else q + i.size]? = some u := fun q u hq hu => by
  rw [g3 q hq] at hu
  by_cases hqk : q < k * i.size
  ·rw [if_pos hqk] at hu ⊢; exact hu
  ·rw [if_neg hqk] at hu ⊢; exact hu
 have hidx : ∀ q, q < (n - 1) * i.size → (if q < k * i.size then q else q + i.size) < cs.length := fun q hq => by split <;> omega
 have hr := h.setBox hg k1 ((cs.take (k * i.size) ++ (cs.take (n * i.size)).drop ((k + 1) * i.size)).map AV.noOwn1) arr' hgr g1 ⟨g2.trans k3.1, by rw [hcl]; omega⟩ ((okPs_iff _ _).2 fun c hc => by
  obtain ⟨q, hq⟩ := List.mem_iff_getElem?.1 hc
  obtain ⟨_, c0, hc0, rfl⟩ := hcget q c hq
  rw [okP_noOwn1]
  exact okPs_get _ k4 (List.mem_of_getElem? hc0)) (fun c hc => by
  obtain ⟨q, hq⟩ := List.mem_iff_getElem?.1 hc
  obtain ⟨_, c0, hc0, rfl⟩ := hcget q c hq
  rw [noOwn1_one]
  exact k5 _ (List.mem_of_getElem? hc0)) (fun q u hq hu => by
  rw [hcl] at hq
  exact k6 _ u (hidx q hq) (haget q u hq hu)) (fun q c u hq hu => by
  obtain ⟨hql, c0, hc0, rfl⟩ := hcget q c hq
  exact ⟨((k7 _ c0 u hc0 (haget q u hql hu)).1).noOwn1, fun e sz rows he => absurd he (noOwn1_flag c0 e sz rows)⟩)
 have hgood : Good w0 W0 (s.setBox l sl (.cells t ((cs.take ((k : Int).toNat * i.size) ++ (cs.take (n * i.size)).drop (((k : Int).toNat + 1) * i.size)).map AV.noOwn1))) a o.dst (if n = 1 then .sl none i.size [] else .win l sl 0 (n - 1) i.size) w' (.slice (some ⟨b.1, 0, none⟩) (n - 1) cap) := by
  rw [Int.toNat_natCast]
  refine ⟨φ, W, hr.clr o.dst, fun y hy => ?_⟩
  split
  ·rename_i hn1'
   subst hn1'
   exact .of_noFlag (.slE ..) rfl (sl_noFlag _ _)
  ·exact .of_noFlag (.win _ _ _ _ _ cap b k1 (by omega) (by omega) hm ⟨hsz, hk.2⟩) (by rw [(setBox_lv s l sl _)]; exact hlvx) (one_noFlag rfl (fun _ _ _ h => by cases h))
 obtain ⟨φ3, W3, hrel⟩ := hgood.put hn
 exact hK _ w' φ3 W3 (size_put a o.dst _) hrel
theorem flat1_get : ∀ {rows : List (List AV)}, (∀ r ∈ rows, r.length = 1) → rows.flatten.length = rows.length ∧ ∀ (j : Nat) c, rows.flatten[j]? = some c → rows[j]? = some [c]
 | [], _ => ⟨rfl, fun j c h => by simp at h⟩
 | r :: rs, h => by
   obtain ⟨c0, rfl⟩ := List.length_eq_one_iff.1 (h r (by simp))
   obtain ⟨q1, q2⟩ := flat1_get (rows := rs) fun r hr => h r (by simp [hr])
   refine ⟨by simp [q1], fun j c hj => ?_⟩
   cases j with
   | zero => simpa using hj
   | succ j => simpa using q2 j c (by simpa using hj)
theorem ok_copyA {o : Oper} {x y : X} {x' y' : Operand} {t t' e : TypeId} {i : TypeInfo} (ho : o.op = .call { callee := .builtin .copy, args := #[x', y'], argTypes := #[t, t'] }) (ht : P.underlying t = some (.slice e)) (hi : P.info? e = some i) (hsz : i.size = 1) (hx : OpdOk x x') (hy : OpdOk y y')
 (h : Rel w0 W0 s a φ W w) (he : evVal O (.copyA x y) o.dst s = some (av, s')) (hn : ∀ x, o.dst = some x → x < a.tmps.size) {K : Act → World → Prop} {Q : Exit → Act → World → Prop}
 (hK : ∀ (a' : Act) w' φ W, a'.tmps.size = a.tmps.size → Rel w0 W0 (s'.put o.dst av) a' φ W w' → K a' w') : o.wp P a w K Q := by
 simp only [evVal] at he
 have hxv := (h.opd hx).1
 have hyv := (h.opd hy).1
 have lc0 : ∀ (A : Addr) (w : World), (loadCells A 0).run P w = .ok #[] w := fun A w => run_loadCells_list (P := P) w A [] (fun j v hj => by simp at hj)
 split at he
 ·rename_i e1 e2
  injection he with he
  injection he with q1 q2
  subst q1 q2
  rw [e1] at hxv
  rw [e2] at hyv
  obtain ⟨A, cap, hve, _⟩ := hxv.slice_inv
  obtain ⟨B, cap2, hve2, _⟩ := hyv.slice_inv
  refine Comes'.wp ⟨.int .i64 0, w, .inl ?_, good_pure h (.int ..) rfl (int_noFlag _ _)⟩ hn hK
  cases A <;> cases B <;> simp [execOp, ho, resolve, invoke, builtin, Builtin.copy_, Builtin.lenOf, Builtin.firstCells, run_underlying ht, hve, hve2, goInt, sizeOf, typeInfo, hi, lc0, storeCells]
 ·rename_i l sl off n z own z' rows e1 e2
  split at he
  case h_2 => cases he
  rename_i tb cs hg
  split at he
  case isFalse => cases he
  rename_i hc
  obtain ⟨rfl, rfl, hlen⟩ := hc
  injection he with he
  injection he with q1 q2
  subst q1 q2
  rw [e1] at hxv
  rw [e2] at hyv
  obtain ⟨b, arr, k1, k2, k3, k4, k5, k6, k7, hle⟩ := h.boxAt hg
  generalize hve : a.eval x' = xv at hxv
  cases hxv with
  | asl _ _ _ _ _ cap b' hb' hn1 hcap hm hk =>
  rw [k1] at hb'
  injection hb' with hb'
  subst hb'
  obtain ⟨A, cap2, hve2, hr⟩ := hyv.slice_inv
  have key : ∃ vs : List Value, (∀ v ∈ vs, v.oneCell' = true) ∧ vs.length = min rows.length n ∧ (rows.take n).flatten.length = vs.length ∧ (∀ (j : Nat) c v, (rows.take n).flatten[j]? = some c → vs[j]? = some v → VRel w φ W c v ∧ c.isData = true) ∧
   (execOp a.eval o).run P w = .ok (.value (.int .i64 ((min rows.length n : Nat) : Int))) (w.setRow b.1 (arr.toList.take off ++ vs ++ arr.toList.drop (off + vs.length)).toArray) := by
   rcases hr with rfl | ⟨b2, o2, f, rfl, hr1, hr2, hr3, hr4, hr5, hr6, hr7, hr8⟩
   ·refine ⟨[], by simp, by simp, by simp, fun j c v hc => by simp at hc, ?_⟩
    have e0 : (arr.toList.take off ++ ([] : List Value) ++ arr.toList.drop (off + ([] : List Value).length)).toArray = arr := by simp
    rw [e0, setRow_self w b.1 arr tb (0, 0) k2]
    cases A <;> simp [execOp, ho, resolve, invoke, builtin, Builtin.copy_, Builtin.lenOf, Builtin.firstCells, run_underlying ht, hve, hve2, goInt, sizeOf, typeInfo, hi, lc0, storeCells]
   ·obtain ⟨f1, f2⟩ := flat1_get (rows := rows.take n) fun r hr => hr4 r (List.mem_of_mem_take hr)
    have hvl : ((List.range (min rows.length n)).map f).length = min rows.length n := by simp
    have hcell : ∀ (j : Nat) c, (rows.take n).flatten[j]? = some c → j < min rows.length n ∧ rows[j]? = some [c] := fun j c hc => by
     have := f2 j c hc
     rw [List.getElem?_take] at this
     split at this
     ·exact ⟨by have := (List.getElem?_eq_some_iff.1 this).1; omega, this⟩
     ·cases this
    have hone : ∀ v ∈ (List.range (min rows.length n)).map f, v.oneCell' = true := fun v hv => by
     obtain ⟨j, hj, rfl⟩ := List.mem_map.1 hv
     rw [List.mem_range] at hj
     have hl : (rows[j]'(by omega)).length = 1 := hr4 _ (List.getElem_mem _)
     obtain ⟨c0, hc0⟩ := List.length_eq_one_iff.1 hl
     have hrj : rows[j]? = some [c0] := by rw [List.getElem?_eq_getElem (by omega), hc0]
     have hv := hr8 j 0 [c0] c0 hrj rfl
     rw [Nat.mul_one, Nat.add_zero] at hv
     have hd := hr6 [c0] (List.mem_of_getElem? hrj) c0 (by simp)
     exact hv.oneCell hd
    refine ⟨(List.range (min rows.length n)).map f, hone, hvl, by rw [f1, hvl, List.length_take, Nat.min_comm], fun j c v hc hv => ?_, ?_⟩
    ·obtain ⟨hj, hrj⟩ := hcell j c hc
     rw [List.getElem?_map, List.getElem?_range hj] at hv
     have hv : f j = v := by simpa using hv
     subst hv
     have hv := hr8 j 0 [c] c hrj rfl
     rw [Nat.mul_one, Nat.add_zero] at hv
     exact ⟨hv, hr6 [c] (List.mem_of_getElem? hrj) c (by simp)⟩
    ·have hmin : min rows.length n ≤ n := Nat.min_le_right _ _
     have hrun := run_copy_row (P := P) w t t' 0 e b.1 off n cap ⟨b2, o2, none⟩ rows.length cap2 arr tb ((List.range (min rows.length n)).map f) ht (by rw [hi]; exact congrArg some hsz) k2 (by rw [hvl]) (fun j v hj => by
      have hjl := (List.getElem?_eq_some_iff.1 hj).1
      rw [hvl] at hjl
      rw [List.getElem?_map, List.getElem?_range hjl] at hj
      have hj : f j = v := by simpa using hj
      subst hj
      rw [add_lit]
      exact (hr7 j (by omega)).2) (by rw [hvl]; omega) hone
     rw [hvl] at hrun ⊢
     have e0 : ∀ ty, (Builtin.copy_ #[t, t'] ty #[.slice (some ⟨b.1, off, none⟩) n cap, .slice (some ⟨b2, o2, none⟩) rows.length cap2]).run P w = (Builtin.copy_ #[t, t'] 0 #[.slice (some ⟨b.1, off, none⟩) n cap, .slice (some ⟨b2, o2, none⟩) rows.length cap2]).run P w := fun _ => rfl
     simp [execOp, ho, resolve, invoke, builtin, hve, hve2, e0, hrun, goInt]
  obtain ⟨vs, v1, v2, v3, v4, v5⟩ := key
  have hkn : vs.length ≤ n := by rw [v2]; exact Nat.min_le_right _ _
  have hcl : off + (rows.take n).flatten.length ≤ cs.length := by omega
  have hspl := fun j => splice_get cs (rows.take n).flatten off j hcl
  let arr' : Array Value := (arr.toList.take off ++ vs ++ arr.toList.drop (off + vs.length)).toArray
  have hag : ∀ j, arr'[j]? = if off ≤ j ∧ j < off + vs.length then vs[j - off]? else arr[j]? := fun j => by
   show ((arr.toList.take off ++ vs ++ arr.toList.drop (off + vs.length)).toArray)[j]? = _
   have hl1 : (arr.toList.take off).length = off := by rw [List.length_take, Array.length_toList]; omega
   rw [List.getElem?_toArray]
   by_cases q1 : j < off
   ·rw [if_neg (by omega), List.append_assoc, List.getElem?_append_left (by omega), List.getElem?_take, if_pos q1, Array.getElem?_toList]
   ·by_cases q2 : j < off + vs.length
    ·rw [if_pos ⟨by omega, q2⟩, List.append_assoc, List.getElem?_append_right (by omega), hl1, List.getElem?_append_left (by omega)]
    ·rw [if_neg (by omega), List.getElem?_append_right (by rw [List.length_append, hl1]; omega), List.getElem?_drop, List.length_append, hl1, Array.getElem?_toList]
     congr 1
     omega
  have hasz : arr'.size = arr.size := by
   show ((arr.toList.take off ++ vs ++ arr.toList.drop (off + vs.length)).toArray).size = _
   simp only [List.size_toArray, List.length_append, List.length_take, List.length_drop, Array.length_toList]
   omega
  have hdat : ∀ c ∈ (rows.take n).flatten, c.isData = true := fun c hc => by
   obtain ⟨j, hj⟩ := List.mem_iff_getElem?.1 hc
   have hjl := (List.getElem?_eq_some_iff.1 hj).1
   exact (v4 j c (vs[j]'(by omega)) hj (List.getElem?_eq_getElem _)).2
  have hr2 := h.setBox hg k1 (splice cs off (rows.take n).flatten) arr' (w' := w.setRow b.1 arr') ⟨rfl, rfl, rfl, by simp, fun k _ hk => setRow_other w b.1 k _ (fun e => hk (by rw [e]))⟩ (setRow_heap w b.1 arr arr' tb _ k2)
   (by rw [splice_length _ _ _ hcl, hasz]; exact k3)
   (by
     refine (okPs_iff _ _).2 fun c hc => ?_
     rcases splice_mem hc with hc | hc
     ·exact okPs_get _ k4 hc
     ·exact okP_data _ (hdat c hc))
   (fun c hc => by
     rcases splice_mem hc with hc | hc
     ·exact k5 c hc
     ·have := hdat c hc
      cases c <;> first | rfl | (simp [AV.isData] at this; done))
   (fun j u hj hu => by
     have := hag j
     rw [hu] at this
     split at this
     ·exact v1 _ (List.mem_of_getElem? this.symm)
     ·exact k6 j u (by rw [splice_length _ _ _ hcl] at hj; exact hj) this.symm)
   (fun j c u hc hu => by
     rw [hspl] at hc
     rw [hag] at hu
     by_cases q : off ≤ j ∧ j < off + vs.length
     ·rw [if_pos (by omega)] at hc
      rw [if_pos q] at hu
      obtain ⟨g1, g2⟩ := v4 _ c u hc hu
      refine ⟨g1, fun e sz rows he => ?_⟩
      subst he
      simp [AV.isData] at g2
     ·rw [if_neg (by omega)] at hc
      rw [if_neg q] at hu
      exact k7 j c u hc hu)
  refine Comes'.wp ⟨_, _, .inl v5, _, _, hr2.clr o.dst, fun z hz => .of_noFlag (.int ..) rfl (int_noFlag _ _)⟩ hn hK
 ·cases he
end
end Go.Ev
