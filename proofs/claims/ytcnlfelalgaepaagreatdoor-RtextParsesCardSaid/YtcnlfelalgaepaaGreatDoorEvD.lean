/- Equality of structs: what the evaluator answers, the run comes to. Condition: the fields are whole numbers, bools, strings, or structs of these. -/
import Derived.Test.YtcnlfelalgaepaaGreatDoorEvC
namespace Go.Ev
set_option linter.all false
open Go.RowKit
theorem eqCells_append : ∀ (ks ls : List CK) (a b c d : List AV), a.length = ks.length → b.length = ks.length → eqCells (ks ++ ls) (a ++ c) (b ++ d) = (eqCells ks a b).bind fun x => (eqCells ls c d).map (x && ·)
 | [], ls, [], [], c, d, _, _ => by simp [eqCells]
 | [], _, _ :: _, _, _, _, h, _ => by cases h
 | [], _, [], _ :: _, _, _, _, h => by cases h
 | _ :: _, _, [], _, _, _, h, _ => by cases h
 | _ :: _, _, _ :: _, [], _, _, _, h => by cases h
 | k :: ks, ls, x :: a, y :: b, c, d, h1, h2 => by
   have ih := eqCells_append ks ls a b c d (by simpa using h1) (by simpa using h2)
   cases k <;> cases x <;> cases y <;> simp [eqCells, ih] <;> (try split) <;> (try rfl) <;> (cases eqCells ks a b <;> simp) <;> (cases eqCells ls c d <;> simp [Bool.and_assoc])
def aggOf (P : Program) (t : TypeId) : Option Nat :=
 match P.underlying t with
 | some d => if isAggDesc d then some (P.cellsOf t) else none
 | none => none
def fieldKinds (P : Program) (F : TypeId → Option (List CK)) : Nat → List Field → Option (List CK)
 | _, [] => some []
 | o, f :: r =>
   if f.name != "_" && (P.info? f.type).isSome && f.offset == o then
    match F f.type with
    | some ks => (fieldKinds P F (o + ks.length) r).map (ks ++ ·)
    | none => none
   else none
def flatKinds (P : Program) : Nat → TypeId → Option (List CK)
 | 0, _ => none
 | d + 1, t =>
   match P.underlying t with
   | some .bool => if P.cellsOf t = 1 then some [.b] else none
   | some (.int k) => if P.cellsOf t = 1 then some [.i k] else none
   | some .string => if P.cellsOf t = 1 then some [.s] else none
   | some (.struct fs) =>
     if P.stoodInHeld t then none
     else match fieldKinds P (flatKinds P d) 0 fs.toList with
      | some ks => if ks.length = P.cellsOf t then some ks else none
      | none => none
   | _ => none
section
variable {w w0 : World} {φ : Nat → Nat → Option Blk} {W : Nat → Own} {P : Program} {W0 : Base} {s s' : St} {a : Act} {O : Orc} {av : AV}
theorem aggOf_ok {t : TypeId} {d : TypeDesc} {i : TypeInfo} (hu : P.underlying t = some d) (hi : P.info? t = some i) : AggOk P t (aggOf P t) := by
 refine ⟨d, hu, ?_, fun n hn => ?_⟩
 ·unfold aggOf; rw [hu]; cases hd : isAggDesc d <;> simp [hd]
 ·unfold aggOf at hn
  rw [hu] at hn
  cases hd : isAggDesc d <;> simp [hd] at hn
  exact ⟨i, hi, by rw [← hn]; simp [Program.cellsOf, hi]⟩
def CellsAt (w : World) (φ : Nat → Nat → Option Blk) (W : Nat → Own) (cs : List AV) (f : Nat → Value) : Prop := ∀ (j : Nat) c, cs[j]? = some c → VRel w φ W c (f j)
theorem CellsAt.sub {cs : List AV} {f : Nat → Value} (h : CellsAt w φ W cs f) (o n : Nat) : CellsAt w φ W (Ev.sub cs o n) (fun k => f (o + k)) := fun j y hj => by
 unfold Ev.sub at hj
 rw [List.getElem?_take] at hj
 split at hj
 ·rw [List.getElem?_drop] at hj
  exact h _ y hj
 ·cases hj
theorem flat_agg {d : Nat} {t : TypeId} {ks : List CK} (h : flatKinds P d t = some ks) : ks.length = P.cellsOf t ∧ (aggOf P t).getD 1 = P.cellsOf t ∧ ∃ u, P.underlying t = some u := by
 cases d with
 | zero => cases h
 | succ d =>
   unfold flatKinds at h
   unfold aggOf
   split at h
   ·rename_i hu
    split at h
    ·injection h with h; subst h; rw [hu]; exact ⟨by simpa using Eq.symm (by assumption), by simp [isAggDesc]; omega, _, rfl⟩
    ·cases h
   ·rename_i k hu
    split at h
    ·injection h with h; subst h; rw [hu]; exact ⟨by simpa using Eq.symm (by assumption), by simp [isAggDesc]; omega, _, rfl⟩
    ·cases h
   ·rename_i hu
    split at h
    ·injection h with h; subst h; rw [hu]; exact ⟨by simpa using Eq.symm (by assumption), by simp [isAggDesc]; omega, _, rfl⟩
    ·cases h
   ·rename_i fs hu
    split at h
    ·cases h
    ·split at h
     ·split at h
      ·injection h with h; subst h; rw [hu]; exact ⟨by assumption, by simp [isAggDesc], _, rfl⟩
      ·cases h
     ·cases h
   ·cases h
theorem part_range {t : TypeId} {agg : Option Nat} (hag : AggOk P t agg) (N o : Nat) (F : Nat → Value) (hle : o + agg.getD 1 ≤ N) : (part t ((List.range N).map F).toArray o).run P w = .ok (aggVal agg fun k => F (o + k)) w := by
 rw [run_part_agg (w := w) hag _ _ (by simpa using hle)]
 have hg : ∀ k, o + k < N → ((List.range N).map F).toArray.getD (o + k) undef = F (o + k) := fun k hk => by simp [hk]
 cases agg with
 | none => simp only [aggVal]; rw [hg 0 (by simp at hle; omega)]
 | some n =>
   simp only [aggVal]
   have : (List.range n).map (fun k => ((List.range N).map F).toArray.getD (o + k) undef) = (List.range n).map (fun k => F (o + k)) := by
    apply List.map_congr_left
    intro k hk
    have := List.mem_range.1 hk
    exact hg k (by simp at hle; omega)
   rw [this]
theorem run_equalIn_str (D : Nat) (t : TypeId) (a b : ByteArray) (h : P.underlying t = some .string) : (Op.equalIn (D + 1) t (.string a) (.string b)).run P w = .ok (a == b) w := by
 rw [run_equalIn_string w D t a b h, beq_toListBytes]
theorem eq_flat : ∀ (d : Nat) (t : TypeId) (ks : List CK), flatKinds P d t = some ks → ∀ (f g : Nat → Value) (cs ds : List AV) (r : Bool), cs.length = ks.length → ds.length = ks.length → CellsAt w φ W cs f → CellsAt w φ W ds g → eqCells ks cs ds = some r →
 ∀ D, d ≤ D → (Op.equalIn D t (aggVal (aggOf P t) f) (aggVal (aggOf P t) g)).run P w = .ok r w
 | 0, t, ks, h => by cases h
 | d + 1, t, ks, h => by
   intro f g cs ds r h1 h2 hc hd he D hD
   obtain ⟨D, rfl⟩ : ∃ m, D = m + 1 := ⟨D - 1, by omega⟩
   unfold flatKinds at h
   have scalar : ∀ u, P.underlying t = some u → isAggDesc u = false → aggOf P t = none := fun u hu ha => by unfold aggOf; rw [hu]; simp [ha]
   have one : ∀ k, ks = [k] → ∃ x y, cs = [x] ∧ ds = [y] := fun k hk => by
    subst hk
    obtain ⟨x, rfl⟩ := List.length_eq_one_iff.1 h1
    obtain ⟨y, rfl⟩ := List.length_eq_one_iff.1 h2
    exact ⟨x, y, rfl, rfl⟩
   split at h
   ·rename_i hu
    split at h
    ·injection h with h
     subst h
     obtain ⟨x, y, rfl, rfl⟩ := one _ rfl
     rw [scalar _ hu rfl]
     have hx := hc 0 x rfl
     have hy := hd 0 y rfl
     cases x <;> cases y <;> simp [eqCells] at he
     simp only [aggVal]
     generalize f 0 = u at hx
     generalize g 0 = v at hy
     cases hx
     cases hy
     rw [run_equalIn_bool w D t _ _ hu, he]
    ·cases h
   ·rename_i k hu
    split at h
    ·injection h with h
     subst h
     obtain ⟨x, y, rfl, rfl⟩ := one _ rfl
     rw [scalar _ hu rfl]
     have hx := hc 0 x rfl
     have hy := hd 0 y rfl
     cases x <;> cases y <;> simp [eqCells] at he
     obtain ⟨⟨rfl, rfl⟩, he⟩ := he
     simp only [aggVal]
     generalize f 0 = u at hx
     generalize g 0 = v at hy
     cases hx
     cases hy
     rw [run_equalIn_int w D t _ _ _ _ hu, he]
    ·cases h
   ·rename_i hu
    split at h
    ·injection h with h
     subst h
     obtain ⟨x, y, rfl, rfl⟩ := one _ rfl
     rw [scalar _ hu rfl]
     have hx := hc 0 x rfl
     have hy := hd 0 y rfl
     cases x <;> cases y <;> simp [eqCells] at he
     simp only [aggVal]
     generalize f 0 = u at hx
     generalize g 0 = v at hy
     cases hx
     cases hy
     rw [run_equalIn_str D t _ _ hu, he]
    ·cases h
   ·rename_i fs hu
    split at h
    ·cases h
    ·rename_i hp
     split at h
     ·rename_i ks' hk
      split at h
      ·rename_i hlen
       injection h with h
       subst h
       have hag : aggOf P t = some (P.cellsOf t) := by unfold aggOf; rw [hu]; simp [isAggDesc]
       have hfo : P.fieldsOf t = fs := by unfold Program.fieldsOf; rw [hu]
       rw [hag]
       simp only [aggVal]
       rw [run_equalIn_struct w D t _ _ (by rw [hfo]; exact hu) (by simpa using hp), hfo]
       have key : ∀ (l : List Field) (o : Nat) (ls : List CK), fieldKinds P (flatKinds P d) o l = some ls → o + ls.length ≤ P.cellsOf t → ∀ r, eqCells ls (sub cs o ls.length) (sub ds o ls.length) = some r →
        (Op.eqFields D ((List.range (P.cellsOf t)).map f).toArray ((List.range (P.cellsOf t)).map g).toArray l).run P w = .ok r w := by
        intro l
        induction l with
        | nil =>
          intro o ls hl _ r hr
          simp only [fieldKinds] at hl
          injection hl with hl
          subst hl
          simp [sub, eqCells] at hr
          subst hr
          simp [Op.eqFields]
        | cons x l ih =>
          intro o ls hl hle r hr
          simp only [fieldKinds] at hl
          split at hl
          ·rename_i hx
           simp only [Bool.and_eq_true, bne_iff_ne, beq_iff_eq] at hx
           obtain ⟨⟨hn, hxi⟩, hxo⟩ := hx
           split at hl
           ·rename_i kx hkx
            obtain ⟨lr, hlr, rfl⟩ := Option.map_eq_some_iff.1 hl
            obtain ⟨q1, q2, u, hux⟩ := flat_agg hkx
            obtain ⟨ix, hix⟩ := Option.isSome_iff_exists.1 hxi
            have hagx := aggOf_ok hux hix
            rw [List.length_append] at hle hr
            have es : ∀ c : List AV, sub c o (kx.length + lr.length) = sub c o kx.length ++ sub c (o + kx.length) lr.length := fun c => by
             unfold sub
             rw [← List.drop_drop, List.take_add]
            have l1 : ∀ c : List AV, c.length = ks'.length → (sub c o kx.length).length = kx.length := fun c hc => by unfold sub; rw [List.length_take, List.length_drop]; omega
            rw [es cs, es ds, eqCells_append _ _ _ _ _ _ (l1 cs h1) (l1 ds h2)] at hr
            obtain ⟨ra, hra, hr⟩ := Option.bind_eq_some_iff.1 hr
            obtain ⟨rb, hrb, rfl⟩ := Option.map_eq_some_iff.1 hr
            have gx : ∀ (F : Nat → Value), (part x.type ((List.range (P.cellsOf t)).map F).toArray x.offset).run P w = .ok (aggVal (aggOf P x.type) fun k => F (o + k)) w := fun F => by
             rw [hxo]; exact part_range hagx _ _ F (by omega)
            have hea := eq_flat d x.type kx hkx _ _ _ _ ra (l1 cs h1) (l1 ds h2) (hc.sub o kx.length) (hd.sub o kx.length) hra D (by omega)
            have ihr := ih _ lr hlr (by omega) rb hrb
            simp only [Op.eqFields]
            rw [if_pos hn]
            simp only [Sem.run_bind, gx, Result.andThen_ok, hea]
            cases ra
            ·simp
            ·simp [ihr]
           ·cases hl
          ·cases hl
       have full : ∀ c : List AV, c.length = ks'.length → sub c 0 ks'.length = c := fun c hc => by unfold sub; rw [List.drop_zero, List.take_of_length_le (by omega)]
       exact key fs.toList 0 ks' hk (by omega) r (by rw [full cs h1, full ds h2]; exact he)
      ·cases h
     ·cases h
   ·cases h
theorem eqCells_len : ∀ (ks : List CK) (cs ds : List AV) (r : Bool), eqCells ks cs ds = some r → cs.length = ks.length ∧ ds.length = ks.length
 | [], [], [], _, _ => ⟨rfl, rfl⟩
 | [], [], _ :: _, _, h => by simp [eqCells] at h
 | [], _ :: _, _, _, h => by simp [eqCells] at h
 | _ :: _, [], _, _, h => by simp [eqCells] at h
 | _ :: _, _ :: _, [], _, h => by simp [eqCells] at h
 | k :: ks, c :: cs, d :: ds, r, h => by
   have : ∃ r', eqCells ks cs ds = some r' := by
    cases hq : eqCells ks cs ds with
    | some r' => exact ⟨r', rfl⟩
    | none => exfalso; cases k <;> cases c <;> cases d <;> simp [eqCells, hq] at h
   obtain ⟨r', hr'⟩ := this
   obtain ⟨h1, h2⟩ := eqCells_len ks cs ds r' hr'
   exact ⟨by simp [h1], by simp [h2]⟩
theorem ok_eq {o : Oper} {neg : Bool} {ks : List CK} {x y : X} {x' y' : Operand} {t t' : TypeId} {i : TypeInfo} {fs : Array Field} {d : Nat} (ho : o.op = .binOp (if neg then .neq else .eql) t x' y' t') (hx : OpdOk x x') (hy : OpdOk y y') (hu : P.underlying t = some (.struct fs)) (hg : P.eqGuardType P.depth t = false)
 (hk : flatKinds P d t = some ks) (hd : d ≤ 10000) (h : Rel w0 W0 s a φ W w) (he : evVal O (.eq neg ks x y) o.dst s = some (av, s')) : Comes' P w0 W0 s' a o av w := by
 simp only [evVal] at he
 have hxv := (h.opd hx).1
 have hyv := (h.opd hy).1
 split at he
 ·rename_i cs ds h1 h2
  obtain ⟨r, heq0, hr⟩ := Option.map_eq_some_iff.1 he
  clear he
  injection hr with e1 e2
  subst e1 e2
  rw [h1] at hxv
  rw [h2] at hyv
  generalize hxe : a.eval x' = xe at hxv
  generalize hye : a.eval y' = ye at hyv
  cases hxv with
  | agg _ xs hl1 _ _ hv1 =>
  cases hyv with
  | agg _ ys hl2 _ _ hv2 =>
  obtain ⟨l1, l2⟩ := eqCells_len _ _ _ _ heq0
  obtain ⟨q1, _, _⟩ := flat_agg hk
  have hag : aggOf P t = some (P.cellsOf t) := by unfold aggOf; rw [hu]; simp [isAggDesc]
  have hcells : ∀ (cs : List AV) (xs : Array Value), xs.size = cs.length → (∀ (i : Nat) c v, cs[i]? = some c → xs[i]? = some v → VRel w φ W c v) → CellsAt w φ W cs fun k => xs.getD k undef := fun cs xs hl hv j c hc => by
   have hj := (List.getElem?_eq_some_iff.1 hc).1
   have := hv j c _ hc (Array.getElem?_eq_getElem (by omega))
   have e : xs.getD j undef = xs[j]'(by omega) := by simp [show j < xs.size by omega]
   show VRel w φ W c (xs.getD j undef)
   rw [e]
   exact this
  have heq := eq_flat d t ks hk _ _ cs ds r l1 l2 (hcells cs xs hl1 hv1) (hcells ds ys hl2 hv2) heq0 10000 hd
  have hagg : ∀ (xs : Array Value), xs.size = P.cellsOf t → aggVal (aggOf P t) (fun k => xs.getD k undef) = .agg xs := fun xs hs => by
   rw [hag]
   simp only [aggVal]
   congr 1
   apply Array.ext
   ·simp [hs]
   ·intro j h1 h2
    simp [h2]
  rw [hagg xs (by omega), hagg ys (by omega)] at heq
  refine ⟨.bool (if neg then !r else r), w, .inl ?_, good_pure h (.bool _) rfl (bool_noFlag _)⟩
  cases neg
  ·have hq := run_eqGuard_agg w .eql t x' y' xs ys hg
   simp only [execOp, ho, hxe, hye, Bool.false_eq_true, if_false]
   simp only [Sem.run_bind, hq, Result.andThen_ok, run_eql_struct, heq, Sem.run_pure]
  ·have hq := run_eqGuard_agg w .neq t x' y' xs ys hg
   simp only [execOp, ho, hxe, hye, if_true]
   simp only [Sem.run_bind, hq, Result.andThen_ok, run_neq_struct, heq, Sem.run_pure]
 ·cases he
end
end Go.Ev
