/- The operations one by one: new variables, stores, addresses, fields. Condition: none. -/
import Derived.Test.YtcnlfelalgaepaaGreatDoorEv6
namespace Go.Ev
set_option linter.all false
open Go.RowKit
section
variable {w0 w w' : World} {W0 : Base} {W W' : Nat → Own} {φ φ' : Nat → Nat → Option Blk} {s s' : St} {a : Act} {P : Program} {O : Orc} {d : Option Nat} {av : AV} {v : Value} {t : TypeId} {agg : Option Nat}
theorem known_part (hk : av.known = true) (j : Nat) : av.part 0 j = av.cells[j]? := by
 cases av <;> simp_all [AV.known, AV.part, AV.part1, AV.cells] <;> cases j <;> simp
theorem VRel.cells (h : VRel w φ W av v) (hk : av.known = true) : v.cells.size = av.cells.length ∧ (∀ c ∈ av.cells, c.one = true) ∧ (∀ u ∈ v.cells, u.oneCell' = true) ∧ (∀ (j : Nat) c u, av.cells[j]? = some c → v.cells[j]? = some u → VRel w φ W c u) ∧ ∀ j, v.part 0 j = v.cells[j]? := by
 have single : ∀ {c : AV} {u : Value}, VRel w φ W c u → c.cells = [c] → c.one = true → u.cells = #[u] → u.oneCell' = true → (∀ j, u.part 0 j = u.cells[j]?) →
  u.cells.size = c.cells.length ∧ (∀ x ∈ c.cells, x.one = true) ∧ (∀ x ∈ u.cells, x.oneCell' = true) ∧ (∀ (j : Nat) x y, c.cells[j]? = some x → u.cells[j]? = some y → VRel w φ W x y) ∧ ∀ j, u.part 0 j = u.cells[j]? := by
  intro c u hv h1 h2 h3 h4 h5
  refine ⟨by rw [h1, h3]; rfl, fun x hx => ?_, fun x hx => ?_, fun j x y hx hy => ?_, h5⟩
  ·rw [h1] at hx
   rw [List.mem_singleton.1 hx]; exact h2
  ·rw [h3] at hx
   rw [Array.mem_singleton.1 hx]; exact h4
  ·rw [h1] at hx
   rw [h3] at hy
   cases j with
   | zero =>
     simp at hx hy
     subst hx hy
     exact hv
   | succ j => simp at hx
 have pj : ∀ (u : Value), (∀ c, u ≠ .agg c) → (∀ c, u ≠ .tuple c) → ∀ j, u.part 0 j = (#[u] : Array Value)[j]? := fun u h1 h2 j => by
  cases u <;> simp_all [Value.part, Value.part1] <;> cases j <;> simp
 cases h with
 | undef v => cases hk
 | tup cs vs hl hv => cases hk
 | agg cs vs hl h1 h2 hv => exact ⟨hl, h1, h2, fun j c u hc hu => hv j c u hc hu, fun j => by simp [Value.part, Value.part1, Value.cells]⟩
 | bool b => exact single (.bool b) rfl rfl rfl rfl (pj _ (fun _ h => by cases h) (fun _ h => by cases h))
 | ub b => exact single (.ub b) rfl rfl rfl rfl (pj _ (fun _ h => by cases h) (fun _ h => by cases h))
 | int k n => exact single (.int k n) rfl rfl rfl rfl (pj _ (fun _ h => by cases h) (fun _ h => by cases h))
 | str s => exact single (.str s) rfl rfl rfl rfl (pj _ (fun _ h => by cases h) (fun _ h => by cases h))
 | nilp => exact single .nilp rfl rfl rfl rfl (pj _ (fun _ h => by cases h) (fun _ h => by cases h))
 | glob g o => exact single (.glob g o) rfl rfl rfl rfl (pj _ (fun _ h => by cases h) (fun _ h => by cases h))
 | ifcN => exact single .ifcN rfl rfl rfl rfl (pj _ (fun _ h => by cases h) (fun _ h => by cases h))
 | ifc t v => exact single (.ifc t v) rfl rfl rfl rfl (pj _ (fun _ h => by cases h) (fun _ h => by cases h))
 | ptr l s o b h => exact single (.ptr l s o b h) rfl rfl rfl rfl (pj _ (fun _ h => by cases h) (fun _ h => by cases h))
 | win l s o n sz cap b h hn hcap hm hk2 => exact single (.win l s o n sz cap b h hn hcap hm hk2) rfl rfl rfl rfl (pj _ (fun _ h => by cases h) (fun _ h => by cases h))
 | asl l s o n sz cap b h hn hcap hm hk2 => exact single (.asl l s o n sz cap b h hn hcap hm hk2) rfl rfl rfl rfl (pj _ (fun _ h => by cases h) (fun _ h => by cases h))
 | row cs b o f hd hc hv => exact single (.row cs b o f hd hc hv) rfl rfl rfl rfl (pj _ (fun _ h => by cases h) (fun _ h => by cases h))
 | slE own sz a cap => exact single (.slE own sz a cap) rfl rfl rfl rfl (pj _ (fun _ h => by cases h) (fun _ h => by cases h))
 | sl own sz rows b o cap f hn hcap hm hz hp hd hc hv => exact single (.sl own sz rows b o cap f hn hcap hm hz hp hd hc hv) rfl rfl rfl rfl (pj _ (fun _ h => by cases h) (fun _ h => by cases h))
 | fn f cs vs hl hv => exact single (.fn f cs vs hl hv) rfl rfl rfl rfl (pj _ (fun _ h => by cases h) (fun _ h => by cases h))
theorem okP_cells (p : Nat → Nat → Bool) (hk : av.known = true) (h : av.okP p = true) : okPs p av.cells = true := by
 cases av <;> simp_all [AV.known, AV.cells, AV.okP, okPs]
theorem use_lv (s : St) (x : X) : (s.use x).lv = s.lv := by cases x <;> rfl
theorem use_bx (s : St) (x : X) : (s.use x).bx = s.bx := by cases x <;> rfl
theorem use_get (s : St) (x : X) (l sl : Nat) : (s.use x).get l sl = s.get l sl := by cases x <;> rfl
theorem ok_alloc {o : Oper} {cs : List AV} (ho : o.op = .alloc t) (hz : ZeroOk P t cs) (h : Rel w0 W0 s a φ W w) (he : evVal O (.alloc t cs) o.dst s = some (av, s')) : Comes' P w0 W0 s' a o av w := by
 simp only [evVal] at he
 split at he
 ·rename_i d hd
  split at he
  ·rename_i hn
   injection he with he
   injection he with e1 e2
   subst e1 e2
   obtain ⟨i, z, hi, hz0, hl, hc⟩ := hz
   have hget : ∀ (j : Nat) c, cs[j]? = some c → ∃ v, z.cells[j]? = some v ∧ CC c v := fun j c hj => by
    have hlt := (List.getElem?_eq_some_iff.1 hj).1
    exact ⟨_, Array.getElem?_eq_getElem (by omega), hc j c _ hj (Array.getElem?_eq_getElem (by omega))⟩
   have hone : ∀ c ∈ cs, c.one = true := fun c hm => by
    obtain ⟨j, hj⟩ := List.mem_iff_getElem?.1 hm
    obtain ⟨v, _, h⟩ := hget j c hj
    exact h.one
   have hcell : ∀ v ∈ z.cells, v.oneCell' = true := fun v hm => by
    obtain ⟨j, hj, rfl⟩ := Array.mem_iff_getElem.1 hm
    exact (hc j cs[j] z.cells[j] (List.getElem?_eq_getElem (by omega)) (Array.getElem?_eq_getElem hj)).cell
   have hr := h.newBox d (by simpa using hn.1) t cs z.cells (by omega) ((okPs_iff _ _).2 fun c hm => by
    obtain ⟨j, hj⟩ := List.mem_iff_getElem?.1 hm
    obtain ⟨v, _, h⟩ := hget j c hj
    exact h.lvl _) hone hcell (fun j c v hc' hv => ⟨(hc j c v hc' hv).rel _ _ _, fun e sz rows he => (hc j c v hc' hv).own _ _ _ _ _ _ he⟩)
   refine ⟨.pointer (some ⟨w.heap.size, 0, none⟩), w.alloc (.cells z.cells t), .inl ?_, _, _, hr.clr o.dst, fun x hx => ?_⟩
   ·simp [execOp, ho, Instr.alloc, zeroValue, typeInfo, hi, hz0, newVar, newRow]
   ·exact .of_noFlag (.ptr _ _ _ (w.heap.size, z.cells.size) (by simp [upd])) (by simp [AV.okP, lvOk]) (ptr_noFlag _ _ _)
  ·cases he
 ·cases he
theorem ok_box {o : Oper} {x : X} {x' : Operand} (ho : o.op = .box t x') (hx : OpdOk x x') (h : Rel w0 W0 s a φ W w) (he : evVal O (.box t x) o.dst s = some (av, s')) : Comes' P w0 W0 s' a o av w := by
 simp only [evVal] at he
 split at he
 ·rename_i d hd
  split at he
  ·rename_i hn
   obtain ⟨hn, hk⟩ := hn
   injection he with he
   injection he with e1 e2
   subst e1 e2
   obtain ⟨f, h1, h2, _⟩ := h.opdTake hx (fun _ j => .box s.lv d j)
   obtain ⟨c1, c2, c3, c4, c5⟩ := h2.rel.cells hk
   have hr := h1.newBox d (by rw [use_bx]; simpa using hn) t (s.evX x).cells (a.eval x').cells (by omega) (by rw [use_lv]; exact okP_cells _ hk h2.lvl) c2 c3 (fun j c v hc hv => ⟨c4 j c v hc hv, fun e sz rows he => by
    rw [use_lv]
    exact h2.own 0 j e sz rows v (by rw [known_part hk, hc, he]) (by rw [c5, hv])⟩)
   rw [use_bx] at hr
   refine ⟨.pointer (some ⟨w.heap.size, 0, none⟩), w.alloc (.cells (a.eval x').cells t), .inl ?_, _, _, hr.clr o.dst, fun y hy => ?_⟩
   ·simp [execOp, ho, Instr.box, newVar, newRow]
   ·exact .of_noFlag (.ptr _ _ _ (w.heap.size, (a.eval x').cells.size) (by simp [upd, use_lv])) (by simp [AV.okP, lvOk, use_lv]) (ptr_noFlag _ _ _)
  ·cases he
 ·cases he
theorem ok_store {o : Oper} {x y : X} {x' y' : Operand} {i : TypeInfo} (ho : o.op = .store t x' y') (hi : P.info? t = some i) (hx : OpdOk x x') (hy : OpdOk y y') (h : Rel w0 W0 s a φ W w)
 (he : evVal O (.store x y i.size) o.dst s = some (av, s')) : Comes' P w0 W0 s' a o av w := by
 simp only [evVal] at he
 have hxv := (h.opd hx).1
 split at he
 ·rename_i l sl off hxx
  split at he
  ·rename_i t' cs hg
   split at he
   ·rename_i hc
    obtain ⟨hsz, hk, hle, hlvl⟩ := hc
    injection he with he
    injection he with e1 e2
    subst e1 e2
    rw [hxx] at hxv
    generalize hve : a.eval x' = xv at hxv
    cases hxv
    rename_i b hb
    obtain ⟨f, h1, h2, hfb, _⟩ := h.opdTake hy (fun _ j => .box l sl (off + j))
    obtain ⟨c1, c2, c3, c4, c5⟩ := h2.rel.cells hk
    have hg1 : (s.use y).get l sl = some (.cells t' cs) := by rw [use_get]; exact hg
    obtain ⟨b', arr, k1, k2, k3, k4, k5, k6, k7, kle⟩ := h1.boxAt hg1
    rw [hb] at k1
    injection k1 with k1
    subst k1
    rw [use_lv] at kle
    have hsp : off + (s.evX y).cells.length ≤ cs.length := by omega
    have hlen : (a.eval y').cells.toList.length = (s.evX y).cells.length := by simpa using c1
    have hst := run_storeCells_at (P := P) b.1 off t' (a.eval y').cells.toList 0 arr w k2 (by rw [hlen]; omega) (fun u hu => c3 u (by simpa using hu))
    simp only [Nat.add_zero] at hst
    let arr' : Array Value := (arr.toList.take off ++ (a.eval y').cells.toList ++ arr.toList.drop (off + (a.eval y').cells.toList.length)).toArray
    have hag : ∀ j, arr'[j]? = if off ≤ j ∧ j < off + (s.evX y).cells.length then (a.eval y').cells[j - off]? else arr[j]? := fun j => by
     show ((arr.toList.take off ++ (a.eval y').cells.toList ++ arr.toList.drop (off + (a.eval y').cells.toList.length)).toArray)[j]? = _
     have hl1 : (arr.toList.take off).length = off := by rw [List.length_take, Array.length_toList]; omega
     rw [List.getElem?_toArray]
     by_cases q1 : j < off
     ·rw [if_neg (by omega), List.append_assoc, List.getElem?_append_left (by omega), List.getElem?_take, if_pos q1, Array.getElem?_toList]
     ·by_cases q2 : j < off + (s.evX y).cells.length
      ·rw [if_pos ⟨by omega, q2⟩, List.append_assoc, List.getElem?_append_right (by omega), hl1, List.getElem?_append_left (by omega), Array.getElem?_toList]
      ·rw [if_neg (by omega), List.getElem?_append_right (by rw [List.length_append, hl1]; omega), List.getElem?_drop, List.length_append, hl1, Array.getElem?_toList]
       congr 1
       omega
    have hasz : arr'.size = arr.size := by
     show ((arr.toList.take off ++ (a.eval y').cells.toList ++ arr.toList.drop (off + (a.eval y').cells.toList.length)).toArray).size = _
     simp only [List.size_toArray, List.length_append, List.length_take, List.length_drop, Array.length_toList]
     have := hlen
     simp only [Array.length_toList] at this
     omega
    have hspl := fun j => splice_get cs (s.evX y).cells off j hsp
    have hr := h1.setBox hg1 hb (splice cs off (s.evX y).cells) arr' (w' := w.setRow b.1 arr') ⟨rfl, rfl, rfl, by simp, fun k _ hk => setRow_other w b.1 k _ (fun e => hk (by rw [e]))⟩ (setRow_heap w b.1 arr arr' t' _ k2)
     (by rw [splice_length _ _ _ hsp, hasz]; exact k3)
     (by
       refine (okPs_iff _ _).2 fun c hc => ?_
       rcases splice_mem hc with hc | hc
       ·exact okPs_get _ k4 hc
       ·rcases hlvl with hl | hl
        ·have := okPs_get _ (okP_cells _ hk h2.lvl) hc
         rw [hl]; exact this
        ·exact okPs_get _ hl hc)
     (fun c hc => by
       rcases splice_mem hc with hc | hc
       ·exact k5 c hc
       ·exact c2 c hc)
     (fun j u hj hu => by
       have := hag j
       rw [hu] at this
       split at this
       ·exact c3 _ (Array.mem_of_getElem? this.symm)
       ·exact k6 j u (by rw [splice_length _ _ _ hsp] at hj; exact hj) this.symm)
     (fun j c u hc hu => by
       rw [hspl] at hc
       rw [hag] at hu
       by_cases q : off ≤ j ∧ j < off + (s.evX y).cells.length
       ·rw [if_pos q] at hc hu
        refine ⟨c4 _ c u hc hu, fun e sz rows he => ?_⟩
        have := h2.own 0 (j - off) e sz rows u (by rw [known_part hk, hc, he]) (by rw [c5, hu])
        rwa [show off + (j - off) = j by omega] at this
       ·rw [if_neg q] at hc hu
        exact k7 j c u hc hu)
    refine ⟨undef, w.setRow b.1 arr', .inr ⟨?_, rfl⟩, _, _, hr.clr o.dst, fun z hz => ?_⟩
    ·have hss : (a.eval y').cells.size = i.size := by rw [c1, hsz]
     simp only [execOp, ho, Instr.storeAt, Instr.sureAddr, hve, storeVar, sizeOf, typeInfo]
     simp [hi, hss, hst, arr']
    ·exact .of_noFlag (.tup [] #[] rfl (fun i c v hc => by simp at hc)) rfl (by intro i j e sz rows; simp [AV.part])
   ·cases he
  ·cases he
 ·cases he
end
end Go.Ev
