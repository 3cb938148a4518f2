/- The operations one by one: addresses, fields, conversions. Condition: none. -/
import Derived.Test.YtcnlfelalgaepaaGreatDoorEv7
import Derived.WideLaws
import Derived.Lib.ConvBytes
namespace Go.Ev
set_option linter.all false
open Go.RowKit
section
variable {w0 w w' : World} {W0 : Base} {W W' : Nat → Own} {φ φ' : Nat → Nat → Option Blk} {s s' : St} {a : Act} {P : Program} {O : Orc} {d : Option Nat} {av : AV} {v : Value} {t : TypeId} {agg : Option Nat}
theorem ok_faddr {o : Oper} {x : X} {x' : Operand} {k : Nat} {fs : Array Field} {fl : Field} {i : TypeInfo} (ho : o.op = .fieldAddr t x' k) (hu : P.underlying t = some (.struct fs)) (hf : fs[k]? = some fl) (hi : P.info? fl.type = some i) (hz : i.size ≠ 0)
 (hx : OpdOk x x') (h : Rel w0 W0 s a φ W w) (he : evVal O (.faddr x fl.offset) o.dst s = some (av, s')) : Comes' P w0 W0 s' a o av w := by
 simp only [evVal] at he
 have hxv := (h.opd hx).1
 have hlv := (h.opd hx).2
 split at he
 ·rename_i l sl off hxx
  injection he with he
  injection he with e1 e2
  subst e1 e2
  rw [hxx] at hxv hlv
  generalize hve : a.eval x' = xv at hxv
  cases hxv
  rename_i b hb
  refine ⟨.pointer (some ⟨b.1, off + fl.offset, none⟩), w, .inl ?_, good_pure h (.ptr _ _ _ _ hb) hlv (ptr_noFlag _ _ _)⟩
  simp [execOp, ho, Instr.fieldAt, run_underlying hu, hf, Instr.sureAddr, hve, fieldPlace, sizeOf, typeInfo, hi, hz, add_lit]
 ·rename_i cs hxx
  split at he
  ·rename_i hlt
   injection he with he
   injection he with e1 e2
   subst e1 e2
   rw [hxx] at hxv
   generalize hve : a.eval x' = xv at hxv
   cases hxv
   rename_i b off f hd hc hv
   have hget : ∀ (k : Nat) c, (cs.drop fl.offset)[k]? = some c → cs[fl.offset + k]? = some c := fun k c hk => by rwa [List.getElem?_drop] at hk
   refine ⟨.pointer (some ⟨b, off + fl.offset, none⟩), w, .inl ?_, good_pure h (.row _ _ _ (fun k => f (fl.offset + k)) (fun c hc => hd c (List.mem_of_mem_drop hc)) (fun k hk => ?_) (fun k c hk => hv _ c (hget k c hk))) rfl (row_noFlag _)⟩
   ·simp [execOp, ho, Instr.fieldAt, run_underlying hu, hf, Instr.sureAddr, hve, fieldPlace, sizeOf, typeInfo, hi, hz, add_lit]
   ·rw [List.length_drop] at hk
    have := hc (fl.offset + k) (by omega)
    rwa [← Nat.add_assoc] at this
  ·cases he
 ·rename_i g off hxx
  injection he with he
  injection he with e1 e2
  subst e1 e2
  rw [hxx] at hxv hlv
  generalize hve : a.eval x' = xv at hxv
  cases hxv
  refine ⟨.pointer (some ⟨g, off + fl.offset, none⟩), w, .inl ?_, good_pure h (.glob _ _) hlv (one_noFlag rfl (fun _ _ _ h => by cases h))⟩
  simp [execOp, ho, Instr.fieldAt, run_underlying hu, hf, Instr.sureAddr, hve, fieldPlace, sizeOf, typeInfo, hi, hz, add_lit]
 ·cases he
theorem run_part_agg (hag : AggOk P t agg) (cs : Array Value) (o : Nat) (hb : o + agg.getD 1 ≤ cs.size) : (part t cs o).run P w = .ok (aggVal agg fun k => cs.getD (o + k) undef) w := by
 have hi := run_isAgg' (w := w) hag
 obtain ⟨d, hu, hd, hs⟩ := hag
 cases agg with
 | none =>
   simp at hb
   simp [part, hi, aggVal, Array.getElem?_eq_getElem (show o < cs.size by omega), show o < cs.size by omega]
 | some n =>
   obtain ⟨i, hi1, hi2⟩ := hs n rfl
   simp at hb
   have e : cs.extract o (o + n) = ((List.range n).map fun k => cs.getD (o + k) undef).toArray := by
    apply Array.ext
    ·simp; omega
    ·intro j h1 h2
     simp at h1 h2 ⊢
     rw [Array.getElem?_eq_getElem (by omega)]
     rfl
   simp only [part, sizeOf, typeInfo, Sem.run_bind, hi, Result.andThen_ok, Option.isSome_some, if_true, run_program, hi1, hi2, Sem.run_pure, aggVal, e]
theorem aggCells {cs : List AV} (h : VRel w φ W (.agg cs) v) {o : Nat} (he : aggOr agg cs o = some av) : ∃ vs : Array Value, v = .agg vs ∧ o + agg.getD 1 ≤ vs.size ∧ VRel w φ W av (aggVal agg fun k => vs.getD (o + k) undef) := by
 cases h with
 | agg _ vs hl h1 h2 hv =>
   have hg : ∀ k (hk : k < vs.size), vs.getD k undef = vs[k] := fun k hk => by simp [hk]
   obtain ⟨_, c2, _, _⟩ := aggOr_cells he h1
   refine ⟨vs, rfl, by omega, (aggOr_rel he h1 (f := fun k => vs.getD k undef) (fun k hk => ?_) (fun j c hc => ?_)).2⟩
   ·rw [hg k (by omega)]; exact h2 _ (Array.getElem_mem _)
   ·have hj := (List.getElem?_eq_some_iff.1 hc).1
    exact hv j c _ hc (by rw [hg j (by omega)]; exact Array.getElem?_eq_getElem _)
theorem ok_field {o : Oper} {x : X} {x' : Operand} {k : Nat} {fs : Array Field} {fl : Field} (ho : o.op = .field t x' k) (hu : P.underlying t = some (.struct fs)) (hf : fs[k]? = some fl) (hag : AggOk P fl.type agg)
 (hx : OpdOk x x') (h : Rel w0 W0 s a φ W w) (he : evVal O (.field x fl.offset agg) o.dst s = some (av, s')) : Comes' P w0 W0 s' a o av w := by
 simp only [evVal] at he
 have hxv := (h.opd hx).1
 have hlv := (h.opd hx).2
 split at he
 ·rename_i cs hxx
  obtain ⟨r, hr, hrr⟩ := Option.map_eq_some_iff.1 he
  injection hrr with e1 e2
  subst e1 e2
  rw [hxx] at hxv hlv
  obtain ⟨vs, hve, hb, hv⟩ := aggCells hxv hr
  have := run_part_agg (w := w) hag vs fl.offset hb
  refine ⟨_, w, .inl ?_, good_noOwn h hv (aggOr_okP _ hr (by simpa [AV.okP] using hlv))⟩
  simp [execOp, ho, Instr.field, run_underlying hu, hf, asAgg, hve, this]
 ·cases he
theorem ok_idxA {o : Oper} {x y : X} {x' y' : Operand} {n : Nat} {e : TypeId} {i : TypeInfo} (ho : o.op = .index t x' y') (hu : P.underlying t = some (.array n e)) (hi : P.info? e = some i) (hag : AggOk P e agg)
 (hx : OpdOk x x') (hy : OpdOk y y') (h : Rel w0 W0 s a φ W w) (he : evVal O (.idxA x y n i.size agg) o.dst s = some (av, s')) : Comes' P w0 W0 s' a o av w := by
 simp only [evVal] at he
 have hxv := (h.opd hx).1
 have hlv := (h.opd hx).2
 have hyv := (h.opd hy).1
 split at he
 ·rename_i cs k m hxx hyy
  split at he
  ·rename_i hm
   obtain ⟨r, hr, hrr⟩ := Option.map_eq_some_iff.1 he
   injection hrr with e1 e2
   subst e1 e2
   rw [hxx] at hxv hlv
   rw [hyy] at hyv
   obtain ⟨vs, hve, hb, hv⟩ := aggCells hxv hr
   generalize hye : a.eval y' = yv at hyv
   cases hyv
   have := run_part_agg (w := w) hag vs (m.toNat * i.size) hb
   refine ⟨_, w, .inl ?_, good_noOwn h hv (aggOr_okP _ hr (by simpa [AV.okP] using hlv))⟩
   simp [execOp, ho, Instr.index, asIntOf, run_underlying hu, hve, hye, hm, sizeOf, typeInfo, hi, this]
  ·cases he
 ·cases he
theorem ok_iaddrA {o : Oper} {x y : X} {x' y' : Operand} {n : Nat} {e : TypeId} {i : TypeInfo} (ho : o.op = .indexAddr t x' y') (hu : P.underlying t = some (.array n e)) (hi : P.info? e = some i)
 (hx : OpdOk x x') (hy : OpdOk y y') (h : Rel w0 W0 s a φ W w) (he : evVal O (.iaddrA x y n i.size) o.dst s = some (av, s')) : Comes' P w0 W0 s' a o av w := by
 simp only [evVal] at he
 have hxv := (h.opd hx).1
 have hlv := (h.opd hx).2
 have hyv := (h.opd hy).1
 split at he
 ·rename_i l sl off k m hxx hyy
  split at he
  ·rename_i hm
   injection he with he
   injection he with e1 e2
   subst e1 e2
   rw [hxx] at hxv hlv
   rw [hyy] at hyv
   generalize hve : a.eval x' = xv at hxv
   generalize hye : a.eval y' = yv at hyv
   cases hxv
   cases hyv
   rename_i b hb
   refine ⟨.pointer (some ⟨b.1, off + m.toNat * i.size, none⟩), w, .inl ?_, good_pure h (.ptr _ _ _ _ hb) hlv (ptr_noFlag _ _ _)⟩
   simp [execOp, ho, Instr.indexAt, asIntOf, run_underlying hu, hve, hye, hm, sizeOf, typeInfo, hi, Instr.sureAddr, add_lit]
  ·cases he
 ·rename_i g off k m hxx hyy
  split at he
  ·rename_i hm
   injection he with he
   injection he with e1 e2
   subst e1 e2
   rw [hxx] at hxv hlv
   rw [hyy] at hyv
   generalize hve : a.eval x' = xv at hxv
   generalize hye : a.eval y' = yv at hyv
   cases hxv
   cases hyv
   refine ⟨.pointer (some ⟨g, off + m.toNat * i.size, none⟩), w, .inl ?_, good_pure h (.glob _ _) hlv (one_noFlag rfl (fun _ _ _ h => by cases h))⟩
   simp [execOp, ho, Instr.indexAt, asIntOf, run_underlying hu, hve, hye, hm, sizeOf, typeInfo, hi, Instr.sureAddr, add_lit]
  ·cases he
 ·cases he
theorem ok_iaddrS {o : Oper} {x y : X} {x' y' : Operand} {e : TypeId} {i : TypeInfo} (ho : o.op = .indexAddr t x' y') (hu : P.underlying t = some (.slice e)) (hi : P.info? e = some i)
 (hx : OpdOk x x') (hy : OpdOk y y') (h : Rel w0 W0 s a φ W w) (he : evVal O (.iaddrS x y i.size) o.dst s = some (av, s')) : Comes' P w0 W0 s' a o av w := by
 simp only [evVal] at he
 have hxv := (h.opd hx).1
 have hyv := (h.opd hy).1
 split at he
 ·rename_i own z rows k m hxx hyy
  split at he
  ·rename_i hm
   obtain ⟨hm0, hm1, rfl⟩ := hm
   injection he with he
   injection he with e1 e2
   subst e1 e2
   rw [hxx] at hxv
   rw [hyy] at hyv
   obtain ⟨A, cap, hve, hr⟩ := hxv.slice_inv
   generalize hye : a.eval y' = yv at hyv
   cases hyv
   have hlt : m.toNat < rows.length := by omega
   rcases hr with hr | ⟨b, off, f, rfl, hn, hcap, hmx, hz, hp, hd, hc, hv⟩
   ·subst hr; simp at hlt
   have hrow : rows.getD m.toNat [] = rows[m.toNat] := by simp [hlt]
   have hlen := hz _ (List.getElem_mem hlt)
   have hmul : m.toNat * i.size + i.size ≤ rows.length * i.size := by
    have : (m.toNat + 1) * i.size ≤ rows.length * i.size := Nat.mul_le_mul_right _ hlt
    rwa [Nat.add_mul, Nat.one_mul] at this
   refine ⟨.pointer (some ⟨b, off + m.toNat * i.size, none⟩), w, .inl ?_, good_pure h (.row _ _ _ (fun q => f (m.toNat * i.size + q)) (fun c hc => ?_) (fun q hq => ?_) (fun q c hq => ?_)) rfl (row_noFlag _)⟩
   ·simp [execOp, ho, Instr.indexAt, asIntOf, run_underlying hu, hve, hye, hm0, hm1, sizeOf, typeInfo, hi, add_lit]
   ·rw [hrow] at hc
    exact hd _ (List.getElem_mem hlt) c hc
   ·rw [hrow, hlen] at hq
    have := hc (m.toNat * i.size + q) (by omega)
    rwa [← Nat.add_assoc] at this
   ·rw [hrow] at hq
    exact hv m.toNat q _ c (List.getElem?_eq_getElem hlt) hq
  ·cases he
 ·rename_i l sl off n z k m hxx hyy
  split at he
  ·rename_i hm
   obtain ⟨hm0, hm1, rfl⟩ := hm
   injection he with he
   injection he with e1 e2
   subst e1 e2
   have hlv := (h.opd hx).2
   rw [hxx] at hxv hlv
   rw [hyy] at hyv
   generalize hve : a.eval x' = xv at hxv
   cases hxv with
   | win _ _ _ _ _ cap b hb hn hcap hmx hk =>
   generalize hye : a.eval y' = yv at hyv
   cases hyv
   refine ⟨.pointer (some ⟨b.1, off + m.toNat * i.size, none⟩), w, .inl ?_, good_pure h (.ptr _ _ _ b hb) hlv (ptr_noFlag _ _ _)⟩
   simp [execOp, ho, Instr.indexAt, asIntOf, run_underlying hu, hve, hye, hm0, hm1, sizeOf, typeInfo, hi, add_lit]
  ·cases he
 ·rename_i l sl off n z k m hxx hyy
  split at he
  ·rename_i hm
   obtain ⟨hm0, hm1, rfl⟩ := hm
   injection he with he
   injection he with e1 e2
   subst e1 e2
   have hlv := (h.opd hx).2
   rw [hxx] at hxv hlv
   rw [hyy] at hyv
   generalize hve : a.eval x' = xv at hxv
   cases hxv with
   | asl _ _ _ _ _ cap b hb hn hcap hmx hk =>
   generalize hye : a.eval y' = yv at hyv
   cases hyv
   refine ⟨.pointer (some ⟨b.1, off + m.toNat * i.size, none⟩), w, .inl ?_, good_pure h (.ptr _ _ _ b hb) hlv (ptr_noFlag _ _ _)⟩
   simp [execOp, ho, Instr.indexAt, asIntOf, run_underlying hu, hve, hye, hm0, hm1, sizeOf, typeInfo, hi, add_lit]
  ·cases he
 ·cases he
theorem ok_ext {o : Oper} {x : X} {x' : Operand} {i : Nat} {tk : Bool} (ho : o.op = .extract x' i) (hx : OpdOk x x') (h : Rel w0 W0 s a φ W w) (he : evVal O (.ext x i tk) o.dst s = some (av, s')) : Comes' P w0 W0 s' a o av w := by
 simp only [evVal] at he
 split at he
 ·rename_i vs n hxx
  obtain ⟨r, hr, hrr⟩ := Option.bind_eq_some_iff.1 he
  have hnt : r.isTup = false := by
   cases hq : r.isTup with
   | false => rfl
   | true => rw [hq] at hrr; cases hrr
  rw [hnt] at hrr
  simp only [Bool.false_eq_true, if_false] at hrr
  obtain rfl : x' = .tmp n := hx
  have ht := h.tm n
  have hxx' : s.tm n = .tup vs := hxx
  rw [hxx'] at ht
  have hrel := ht.rel
  have hae : a.eval (.tmp n) = a.tmps.getD n undef := rfl
  generalize hve : a.tmps.getD n undef = xv at hrel ht
  cases hrel with
  | tup _ us hl hv =>
  have hlt := (List.getElem?_eq_some_iff.1 hr).1
  have hui : us[i]? = some us[i] := Array.getElem?_eq_getElem (by omega)
  cases tk with
  | false =>
    simp only [Bool.false_eq_true, if_false] at hrr
    injection hrr with hrr
    injection hrr with e1 e2
    subst e1 e2
    refine ⟨us[i], w, .inl (by simp [execOp, ho, Instr.extract, hae, hve, hui]), φ, W, h.clr o.dst, fun y hy => ⟨(hv i r _ hr hui).noOwnA, by rw [okP_noOwnA]; exact okPs_get _ (by simpa [AV.okP] using ht.lvl) (List.mem_of_getElem? hr), .of_noFlag ?_⟩⟩
    intro k j e sz rows hp
    have hnt2 : (r.noOwnA).isTup = false := by cases r <;> first | rfl | cases hnt
    have hsingle : ∀ (c : AV), c.isTup = false → c.part k j = (if k = 0 then c.part1 j else none) := fun c hc => by cases c <;> simp_all [AV.part, AV.isTup]
    rw [hsingle _ hnt2] at hp
    split at hp
    ·exact noOwnA_part1 r j e sz rows hp
    ·cases hp
  | true =>
  simp only [if_true] at hrr
  injection hrr with hrr
  injection hrr with e1 e2
  subst e1 e2
  have hget : ∀ k c, (vs.set i r.noOwnA)[k]? = some c → (k = i ∧ c = r.noOwnA) ∨ (k ≠ i ∧ vs[k]? = some c) := fun k c hk => by
   rw [List.getElem?_set] at hk
   by_cases hki : i = k
   ·subst hki
    simp [hlt] at hk
    exact .inl ⟨rfl, hk.symm⟩
   ·rw [if_neg hki] at hk
    exact .inr ⟨fun e => hki e.symm, hk⟩
  have hr1 : Rel w0 W0 { s with tm := upd s.tm n (.tup (vs.set i r.noOwnA)) } a φ W w := by
   refine h.setTm n ?_
   rw [hve]
   refine ⟨.tup _ us (by simpa using hl) (fun k c u hk hu => ?_), ?_, fun k j e sz rows cv hp hc => ?_⟩
   ·rcases hget k c hk with ⟨rfl, rfl⟩ | ⟨_, hk⟩
    ·exact (hv k r u hr hu).noOwnA
    ·exact hv k c u hk hu
   ·have := ht.lvl
    simp only [AV.okP] at this ⊢
    refine (okPs_iff _ _).2 fun c hc => ?_
    obtain ⟨k, hk⟩ := List.mem_iff_getElem?.1 hc
    rcases hget k c hk with ⟨rfl, rfl⟩ | ⟨_, hk⟩
    ·rw [okP_noOwnA]; exact okPs_get _ this (List.mem_of_getElem? hr)
    ·exact okPs_get _ this (List.mem_of_getElem? hk)
   ·simp only [AV.part] at hp
    cases hk : (vs.set i r.noOwnA)[k]? with
    | none => rw [hk] at hp; cases hp
    | some c =>
      rw [hk] at hp
      rcases hget k c hk with ⟨rfl, rfl⟩ | ⟨_, hk⟩
      ·exact absurd hp (noOwnA_part1 r j e sz rows)
      ·exact ht.own k j e sz rows cv (by simp only [AV.part, hk]; exact hp) hc
  let f : Pos → Pos := fun p => match p with
   | .tmp t k j => if t = n ∧ k = i then .tmp (o.dst.getD 0) 0 j else .tmp t k j
   | p => p
  have hr2 := hr1.relabel f (fun t k j e sz rows hp => by
   show (if t = n ∧ k = i then Pos.tmp (o.dst.getD 0) 0 j else .tmp t k j) = _
   rw [if_neg]
   rintro ⟨rfl, rfl⟩
   have hp' : (AV.tup (vs.set k r.noOwnA)).part k j = some (.sl (some e) sz rows) := by simpa [upd] using hp
   simp only [AV.part, List.getElem?_set, hlt, if_true] at hp'
   exact noOwnA_part1 r j e sz rows hp') (fun _ _ _ _ _ _ _ _ _ _ => rfl)
  refine ⟨us[i], w, .inl (by simp [execOp, ho, Instr.extract, hae, hve, hui]), φ, relab f W, hr2.clr o.dst, fun y hy => ⟨(hv i r _ hr hui).relab f, okPs_get _ (by simpa [AV.okP] using ht.lvl) (List.mem_of_getElem? hr), fun k j e sz rows cv hp hc => ?_⟩⟩
  have hk0 : k = 0 ∧ r.part1 j = some (.sl (some e) sz rows) ∧ (us[i]).part1 j = some cv := by
   have hvr := hv i r _ hr hui
   generalize us[i] = ui at hvr hc
   clear hget hr1 hr2
   have hsingle : ∀ (c : AV), (∀ cs, c ≠ .tup cs) → c.part k j = (if k = 0 then c.part1 j else none) := fun c hc => by cases c <;> simp_all [AV.part]
   have hvs : ∀ (c : Value), (∀ cs, c ≠ .tuple cs) → c.part k j = (if k = 0 then c.part1 j else none) := fun c hc => by cases c <;> simp_all [Value.part]
   rw [hsingle r (fun cs hcs => by rw [hcs] at hnt; cases hnt)] at hp
   split at hp
   ·rename_i hk0
    refine ⟨hk0, hp, ?_⟩
    rw [hvs ui (fun cs hcs => ?_), if_pos hk0] at hc
    ·exact hc
    ·subst hcs
     cases hvr with
     | undef => simp [AV.part1] at hp
     | tup => cases hnt
   ·cases hp
  obtain ⟨rfl, p1, p2⟩ := hk0
  have := (ht.own i j e sz rows cv (by simp only [AV.part, hr]; exact p1) (by simp only [Value.part, hui]; exact p2)).relab f
  have hfe : f (.tmp n i j) = .tmp y 0 j := by
   show (if n = n ∧ i = i then Pos.tmp (o.dst.getD 0) 0 j else .tmp n i j) = _
   rw [if_pos ⟨rfl, rfl⟩, hy]
   rfl
  rwa [hfe] at this
 ·cases he
theorem ok_mkf {o : Oper} {xs : List X} {xs' : Array Operand} {f : FuncId} (ho : o.op = .makeFunc (.func f) #[] xs') (hx : OpdsOk xs xs'.toList) (h : Rel w0 W0 s a φ W w) (he : evVal O (.mkf f xs) o.dst s = some (av, s')) : Comes' P w0 W0 s' a o av w := by
 simp only [evVal] at he
 injection he with he
 injection he with e1 e2
 subst e1 e2
 have hg : ∀ (i : Nat) c u, (xs.map fun x => (s.evX x).noOwn)[i]? = some c → (xs'.map a.eval)[i]? = some u → VRel w φ W c u ∧ c.okP (lvOk s.lv) = true := fun i c u hc hu => by
  rw [List.getElem?_map] at hc
  obtain ⟨x, hx1, rfl⟩ := Option.map_eq_some_iff.1 hc
  rw [Array.getElem?_map] at hu
  obtain ⟨o', ho', rfl⟩ := Option.map_eq_some_iff.1 hu
  have := h.opd (hx.2 i x o' hx1 (by simpa using ho'))
  exact ⟨this.1.noOwn, by rw [okP_noOwn]; exact this.2⟩
 have hlen : xs.length = xs'.size := by simpa using hx.1
 refine ⟨.func (.func f) #[] (xs'.map a.eval), w, .inl (by simp [execOp, ho, Instr.makeFunc]), good_pure h (.fn _ _ _ (by simp [hlen]) (fun i c u hc hu => (hg i c u hc hu).1)) ?_ (one_noFlag rfl (fun _ _ _ h => by cases h))⟩
 simp only [AV.okP]
 refine (okPs_iff _ _).2 fun c hc => ?_
 obtain ⟨i, hi⟩ := List.mem_iff_getElem?.1 hc
 have hlt := (List.getElem?_eq_some_iff.1 hi).1
 simp at hlt
 exact (hg i c _ hi (Array.getElem?_eq_getElem (by simp; omega))).2
theorem ok_convI {o : Oper} {x : X} {x' : Operand} {src dst : TypeId} {k k0 : IntKind} (ho : o.op = .convert src dst x') (hs : P.underlying src = some (.int k0)) (hd : P.underlying dst = some (.int k)) (hx : OpdOk x x') (h : Rel w0 W0 s a φ W w)
 (he : evVal O (.conv (.int k) x) o.dst s = some (av, s')) : Comes' P w0 W0 s' a o av w := by
 simp only [evVal, Option.map_eq_some_iff] at he
 obtain ⟨r, he, hr⟩ := he
 injection hr with e1 e2
 subst e1 e2
 have hxv := (h.opd hx).1
 generalize hxx : s.evX x = xa at he hxv
 replace he : convAV0 (.int k) xa = some r := he
 unfold convAV0 at he
 split at he
 ·rename_i k' n
  injection he with he
  subst he
  generalize hve : a.eval x' = xv at hxv
  cases hxv
  refine ⟨.int k (k.wrap n), w, .inl ?_, good_pure h (.int ..) rfl (int_noFlag _ _)⟩
  simp [execOp, ho, convert, run_underlying hs, run_underlying hd, hve, Conv.intToInt]
 ·simp at he
 ·simp at he
 ·cases he
 ·cases he
theorem ok_convSame {o : Oper} {x : X} {x' : Operand} {src dst : TypeId} (ho : o.op = .convert src dst x') (hs : P.underlying src = some .string) (hd : P.underlying dst = some .string) (hx : OpdOk x x') (h : Rel w0 W0 s a φ W w)
 (he : evVal O (.conv .same x) o.dst s = some (av, s')) : Comes' P w0 W0 s' a o av w := by
 simp only [evVal, Option.map_eq_some_iff] at he
 obtain ⟨r, he, hr⟩ := he
 injection hr with e1 e2
 subst e1 e2
 have hxv := (h.opd hx).1
 generalize hxx : s.evX x = xa at he hxv
 replace he : convAV0 .same xa = some r := he
 unfold convAV0 at he
 split at he
 ·cases he
 ·rename_i b
  injection he with he
  subst he
  generalize hve : a.eval x' = xv at hxv
  cases hxv
  refine ⟨.string b, w, .inl ?_, good_pure h (.str _) rfl (str_noFlag _)⟩
  simp [execOp, ho, convert, run_underlying hs, run_underlying hd, hve]
 ·cases he
 ·cases he
 ·cases he
theorem ok_r2s {o : Oper} {x : X} {x' : Operand} {src dst : TypeId} {k0 : IntKind} (ho : o.op = .convert src dst x') (hs : P.underlying src = some (.int k0)) (hd : P.underlying dst = some .string) (hx : OpdOk x x') (h : Rel w0 W0 s a φ W w)
 (he : evVal O (.conv .r2s x) o.dst s = some (av, s')) : Comes' P w0 W0 s' a o av w := by
 simp only [evVal, Option.map_eq_some_iff] at he
 obtain ⟨r, he, hr⟩ := he
 injection hr with e1 e2
 subst e1 e2
 have hxv := (h.opd hx).1
 generalize hxx : s.evX x = xa at he hxv
 replace he : convAV0 .r2s xa = some r := he
 unfold convAV0 at he
 split at he
 ·rename_i k' n
  injection he with he
  subst he
  generalize hve : a.eval x' = xv at hxv
  cases hxv
  refine ⟨.string (Utf8.encode n), w, .inl ?_, good_pure h (.str _) rfl (str_noFlag _)⟩
  simp [execOp, ho, convert, run_underlying hs, run_underlying hd, hve, Conv.intToString]
 ·cases he
 ·cases he
 ·cases he
 ·cases he
theorem ok_mki {o : Oper} {x : X} {x' : Operand} {t : TypeId} {u : TypeDesc} (ho : o.op = .makeInterface t x') (hu : P.underlying t = some u) (hi : ∀ ms, u ≠ .interface ms) (hx : OpdOk x x') (h : Rel w0 W0 s a φ W w)
 (he : evVal O (.conv .mki x) o.dst s = some (av, s')) : Comes' P w0 W0 s' a o av w := by
 simp only [evVal, Option.map_eq_some_iff] at he
 obtain ⟨r, he, hr⟩ := he
 injection hr with e1 e2
 subst e1 e2
 replace he : some (AV.ifc true) = some r := he
 injection he with he
 subst he
 refine ⟨.iface t (a.eval x'), w, .inl ?_, good_pure h (.ifc _ _) rfl (one_noFlag rfl (fun _ _ _ h => by cases h))⟩
 simp only [execOp, ho]
 unfold Instr.makeInterface
 simp only [Sem.run_bind, run_underlying hu, Result.andThen_ok]
 cases u <;> first | rfl | exact absurd rfl (hi _)
theorem ok_isnil {o : Oper} {neg : Bool} {x : X} {x' : Operand} {t t' : TypeId} {ms : Array (String × TypeId)} (ho : o.op = .binOp (if neg then .neq else .eql) t x' (.const .nilIface) t') (hu : P.underlying t = some (.interface ms)) (hx : OpdOk x x') (h : Rel w0 W0 s a φ W w)
 (he : evVal O (.conv (.isnil neg) x) o.dst s = some (av, s')) : Comes' P w0 W0 s' a o av w := by
 simp only [evVal, Option.map_eq_some_iff] at he
 obtain ⟨r, he, hr⟩ := he
 injection hr with e1 e2
 subst e1 e2
 have hxv := (h.opd hx).1
 generalize hxx : s.evX x = xa at he hxv
 replace he : convAV0 (.isnil neg) xa = some r := he
 unfold convAV0 at he
 split at he
 ·cases he
 ·cases he
 ·cases he
 ·rename_i nn
  injection he with he
  subst he
  generalize hve : a.eval x' = xv at hxv
  have key : ∀ b : Bool, xv = .nilIface ∧ b = true ∨ (∃ tt vv, xv = .iface tt vv) ∧ b = false → (Op.equal t xv .nilIface).run P w = .ok b w := fun b hb => by
   rcases hb with ⟨rfl, rfl⟩ | ⟨⟨tt, vv, rfl⟩, rfl⟩
   ·exact run_equal_nil_nil w t (by unfold Program.methodsAt; rw [hu])
   ·exact run_equal_held_nil w t tt vv (by unfold Program.methodsAt; rw [hu])
  have hg : ∀ op, (eqGuard op t x' (.const .nilIface) xv .nilIface).run P w = .ok () w := fun op => by
   unfold eqGuard
   cases op <;> simp <;> cases xv <;> simp_all <;> rfl
  have e0 : a.eval (.const .nilIface) = .nilIface := rfl
  have fin : ∀ b : Bool, xv = .nilIface ∧ b = true ∨ (∃ tt vv, xv = .iface tt vv) ∧ b = false → Comes' P w0 W0 s a o (.bool (if neg then !b else b)) w := fun b hb => by
   have hb2 := key b hb
   refine ⟨.bool (if neg then !b else b), w, .inl ?_, good_pure h (.bool _) rfl (bool_noFlag _)⟩
   have hx2 : ∀ op, (binOp op t xv .nilIface) = (match op with | .eql => (do pure (.bool (← Op.equal t xv .nilIface))) | .neq => (do pure (.bool (!(← Op.equal t xv .nilIface)))) | op => binOp op t xv .nilIface) := fun op => by
    cases op <;> first | rfl | (rcases hb with ⟨rfl, _⟩ | ⟨⟨tt, vv, rfl⟩, _⟩ <;> rfl)
   cases neg
   ·have h3 := hx2 .eql
    simp only at h3
    simp [execOp, ho, hve, e0, hg, h3, hb2]
   ·have h3 := hx2 .neq
    simp only at h3
    simp [execOp, ho, hve, e0, hg, h3, hb2]
  cases hxv with
  | ifcN =>
    have := fin true (.inl ⟨rfl, rfl⟩)
    cases neg <;> exact this
  | ifc tt vv =>
    have := fin false (.inr ⟨⟨tt, vv, rfl⟩, rfl⟩)
    cases neg <;> exact this
 ·cases he
end
end Go.Ev
