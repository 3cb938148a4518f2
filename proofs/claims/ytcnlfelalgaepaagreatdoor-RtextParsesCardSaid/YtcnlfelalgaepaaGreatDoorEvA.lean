/- The operations one by one: structs and rows that are built, equality. Condition: none. -/
import Derived.Test.YtcnlfelalgaepaaGreatDoorEv9
namespace Go.Ev
set_option linter.all false
open Go.RowKit
section
variable {w0 w w' : World} {W0 : Base} {W W' : Nat → Own} {φ φ' : Nat → Nat → Option Blk} {s s' : St} {a : Act} {P : Program} {O : Orc} {d : Option Nat} {av : AV} {v : Value} {t : TypeId} {agg : Option Nat}
def putCells (cells : Array Value) (off : Nat) (v : Value) : Array Value := v.cells.zipIdx.foldl (fun cs (c, j) => cs.setIfInBounds (off + j) c) cells
theorem foldl_put (off : Nat) : ∀ (l : List Value) (k : Nat) (cells : Array Value), (l.zipIdx k).foldl (fun (cs : Array Value) (p : Value × Nat) => cs.setIfInBounds (off + p.2) p.1) cells = (l.zipIdx k).foldl (fun (cs : Array Value) (p : Value × Nat) => cs.setIfInBounds (off + p.2) p.1) cells ∧
 ((l.zipIdx k).foldl (fun (cs : Array Value) (p : Value × Nat) => cs.setIfInBounds (off + p.2) p.1) cells).size = cells.size ∧
 ∀ j, off + k + l.length ≤ cells.size → ((l.zipIdx k).foldl (fun (cs : Array Value) (p : Value × Nat) => cs.setIfInBounds (off + p.2) p.1) cells)[j]? = if off + k ≤ j ∧ j < off + k + l.length then l[j - (off + k)]? else cells[j]?
 | [], k, cells => ⟨rfl, rfl, fun j _ => by rw [if_neg (by simp)]; rfl⟩
 | x :: l, k, cells => by
   obtain ⟨_, h1, h2⟩ := foldl_put off l (k + 1) (cells.setIfInBounds (off + k) x)
   refine ⟨rfl, ?_, fun j hl => ?_⟩
   ·simpa using h1
   ·have hs : off + (k + 1) + l.length ≤ (cells.setIfInBounds (off + k) x).size := by simp at hl ⊢; omega
    have := h2 j hs
    simp only [List.zipIdx_cons, List.foldl_cons] at this ⊢
    rw [this]
    simp only [List.length_cons] at hl ⊢
    by_cases q : j = off + k
    ·subst q
     rw [if_neg (by omega), if_pos ⟨by omega, by omega⟩]
     simp [show off + k < cells.size by omega]
    ·by_cases q2 : off + (k + 1) ≤ j ∧ j < off + (k + 1) + l.length
     ·rw [if_pos q2, if_pos ⟨by omega, by omega⟩]
      rw [show j - (off + k) = (j - (off + (k + 1))) + 1 by omega]
      simp
     ·rw [if_neg q2, if_neg (by omega)]
      rw [Array.getElem?_setIfInBounds_ne (fun e => q e.symm)]
theorem putCells_list (cells : Array Value) (off : Nat) (v : Value) : putCells cells off v = (v.cells.toList.zipIdx 0).foldl (fun (cs : Array Value) (p : Value × Nat) => cs.setIfInBounds (off + p.2) p.1) cells := by
 unfold putCells
 rw [← Array.foldl_toList, Array.toList_zipIdx]
theorem putCells_size (cells : Array Value) (off : Nat) (v : Value) : (putCells cells off v).size = cells.size := by
 rw [putCells_list]; exact (foldl_put off _ 0 cells).2.1
theorem putCells_get (cells : Array Value) (off : Nat) (v : Value) (h : off + v.cells.size ≤ cells.size) (j : Nat) : (putCells cells off v)[j]? = if off ≤ j ∧ j < off + v.cells.size then v.cells[j - off]? else cells[j]? := by
 rw [putCells_list, (foldl_put off _ 0 cells).2.2 j (by simpa using h)]
 simp
structure AggRel (w : World) (φ : Nat → Nat → Option Blk) (W : Nat → Own) (lv dd : Nat) (cs : List AV) (arr : Array Value) : Prop where
 size : arr.size = cs.length
 one : ∀ c ∈ cs, c.one = true
 cell : ∀ v ∈ arr, v.oneCell' = true
 lvl : okPs (lvOk lv) cs = true
 rel : ∀ (j : Nat) c v, cs[j]? = some c → arr[j]? = some v → VRel w φ W c v ∧ ∀ e sz rows, c = .sl (some e) sz rows → OwnOk w W (.tmp dd 0 j) e sz rows v
def PartsOk (place : Nat → Option (Nat × Nat)) (parts : List (Nat × Nat × X)) (parts' : List (Nat × Operand)) : Prop :=
 parts.length = parts'.length ∧ ∀ (i : Nat) p p', parts[i]? = some p → parts'[i]? = some p' → place p'.1 = some (p.1, p.2.1) ∧ OpdOk p.2.2 p'.2
theorem fill_parts (dd : Nat) (place : Nat → Option (Nat × Nat)) : ∀ (parts : List (Nat × Nat × X)) (parts' : List (Nat × Operand)) (s : St) (W : Nat → Own) (cs : List AV) (arr : Array Value) (cs' : List AV) (s' : St),
 PartsOk place parts parts' → (∀ p ∈ parts, p.2.2 ≠ .t dd) → Rel w0 W0 s a φ W w → AggRel w φ W s.lv dd cs arr → fillParts s cs parts = some (cs', s') →
 ∃ W' arr', Instr.fill place arr (parts'.map fun p => (p.1, a.eval p.2)) = some arr' ∧ Rel w0 W0 s' a φ W' w ∧ AggRel w φ W' s.lv dd cs' arr' ∧ s'.lv = s.lv
 | [], parts', s, W, cs, arr, cs', s', hp, _, h, hr, he => by
   obtain rfl : parts' = [] := List.eq_nil_of_length_eq_zero (by simpa using hp.1.symm)
   simp only [fillParts] at he
   injection he with he
   injection he with e1 e2
   subst e1 e2
   exact ⟨W, arr, rfl, h, hr, rfl⟩
 | (o, n, x) :: parts, parts', s, W, cs, arr, cs', s', hp, hne, h, hr, he => by
   cases parts' with
   | nil => simp [PartsOk] at hp
   | cons p' parts' =>
     obtain ⟨k, x'⟩ := p'
     obtain ⟨hpl, hx⟩ := hp.2 0 _ _ rfl rfl
     have hpl : place k = some (o, n) := hpl
     have hx : OpdOk x x' := hx
     have hp2 : PartsOk place parts parts' := ⟨by simpa using hp.1, fun i p p' h1 h2 => hp.2 (i + 1) p p' (by simpa using h1) (by simpa using h2)⟩
     simp only [fillParts] at he
     split at he
     ·rename_i hc
      obtain ⟨hn, hk, hle⟩ := hc
      obtain ⟨f, h1, h2, hfb, hft⟩ := h.opdTake hx (fun _ j => .tmp dd 0 (o + j))
      have hxd : x ≠ .t dd := hne (o, n, x) (List.mem_cons_self ..)
      obtain ⟨c1, c2, c3, c4, c5⟩ := h2.rel.cells hk
      have hsz : o + (s.evX x).cells.length ≤ cs.length := by omega
      have hsp := fun j => splice_get cs (s.evX x).cells o j hsz
      have hpg := putCells_get arr o (a.eval x') (by rw [c1, hr.size]; exact hsz)
      have hr2 : AggRel w φ (relab f W) (s.use x).lv dd (splice cs o (s.evX x).cells) (putCells arr o (a.eval x')) := by
       refine ⟨by rw [putCells_size, splice_length _ _ _ hsz]; exact hr.size, fun c hc => ?_, fun u hu => ?_, ?_, fun j c u hc hu => ?_⟩
       ·rcases splice_mem hc with hc | hc
        ·exact hr.one c hc
        ·exact c2 c hc
       ·obtain ⟨j, hj⟩ := Array.mem_iff_getElem?.1 hu
        rw [hpg] at hj
        split at hj
        ·exact c3 _ (Array.mem_of_getElem? hj)
        ·exact hr.cell _ (Array.mem_of_getElem? hj)
       ·rw [use_lv]
        refine (okPs_iff _ _).2 fun c hc => ?_
        rcases splice_mem hc with hc | hc
        ·exact okPs_get _ hr.lvl hc
        ·exact okPs_get _ (okP_cells _ hk h2.lvl) hc
       ·rw [hsp] at hc
        rw [hpg, c1] at hu
        by_cases q : o ≤ j ∧ j < o + (s.evX x).cells.length
        ·rw [if_pos q] at hc hu
         refine ⟨c4 _ c u hc hu, fun e sz rows he => ?_⟩
         have := h2.own 0 (j - o) e sz rows u (by rw [known_part hk, hc, he]) (by rw [c5, hu])
         rwa [show o + (j - o) = j by omega] at this
        ·rw [if_neg q] at hc hu
         obtain ⟨r1, r2⟩ := hr.rel j c u hc hu
         refine ⟨r1.relab f, fun e sz rows he => ?_⟩
         have := (r2 e sz rows he).relab f
         rwa [hft dd 0 j hxd] at this
      obtain ⟨W', arr', k1, k2, k3, k4⟩ := fill_parts dd place parts parts' (s.use x) (relab f W) _ _ cs' s' hp2 (fun p hp => hne p (List.mem_cons_of_mem _ hp)) h1 hr2 he
      refine ⟨W', arr', ?_, k2, by rw [use_lv] at k3; exact k3, by rw [k4, use_lv]⟩
      simp only [List.map_cons, Instr.fill, hpl]
      have q1 : (a.eval x').cells.size = n := by rw [c1, hn]
      have q2 : ¬ (o + (a.eval x').cells.size > arr.size) := by rw [hr.size, c1]; omega
      simp only [q1, ne_eq, not_true_eq_false, decide_false, Bool.false_or]
      rw [q1] at q2
      simp only [q2, decide_false, Bool.false_eq_true, if_false]
      exact k1
     ·cases he
def BuildOk (P : Program) (t : TypeId) (place : Nat → Option (Nat × Nat)) : Prop :=
 (∃ fs, P.underlying t = some (.struct fs) ∧ (∀ f ∈ fs, ∃ i, P.info? f.type = some i) ∧ ∀ k, place k = (fs[k]?).map fun f => (f.offset, P.cellsOf f.type)) ∨
 (∃ n e i, P.underlying t = some (.array n e) ∧ P.info? e = some i ∧ ∀ k, place k = some (k * i.size, i.size))
theorem run_places {fs : Array Field} (h : ∀ f ∈ fs, ∃ i, P.info? f.type = some i) : (fs.mapM fun f => do pure (f.offset, ← sizeOf f.type) : Sem (Array (Nat × Nat))).run P w = .ok (fs.map fun f => (f.offset, P.cellsOf f.type)) w := by
 have key : ∀ (l : List Field), (∀ f ∈ l, ∃ i, P.info? f.type = some i) → (l.mapM fun f => do pure (f.offset, ← sizeOf f.type) : Sem (List (Nat × Nat))).run P w = .ok (l.map fun f => (f.offset, P.cellsOf f.type)) w := by
  intro l
  induction l with
  | nil => intro _; simp
  | cons f l ih =>
    intro hl
    obtain ⟨i, hi⟩ := hl f (List.mem_cons_self ..)
    have := ih fun g hg => hl g (List.mem_cons_of_mem _ hg)
    simp [List.mapM_cons, sizeOf, typeInfo, hi, Program.cellsOf] at this ⊢
    rw [this]
    simp
 have := key fs.toList (fun f hf => h f (by simpa using hf))
 rw [Array.mapM_eq_mapM_toList, Sem.run_map, this]
 simp [← Array.toList_map]
theorem ok_build {o : Oper} {cs : List AV} {parts : List (Nat × Nat × X)} {parts' : Array (Nat × Operand)} {place : Nat → Option (Nat × Nat)} (ho : o.op = .build t parts') (hz : ZeroOk P t cs) (hb : BuildOk P t place) (hp : PartsOk place parts parts'.toList)
 (hd : ∀ p ∈ parts, p.2.2 ≠ .t (o.dst.getD 0)) (h : Rel w0 W0 s a φ W w) (he : evVal O (.build cs parts) o.dst s = some (av, s')) : Comes' P w0 W0 s' a o av w := by
 simp only [evVal] at he
 obtain ⟨⟨cs', s1⟩, hf, hr⟩ := Option.map_eq_some_iff.1 he
 injection hr with e1 e2
 subst e1 e2
 obtain ⟨i, z, hi, hz0, hl, hc⟩ := hz
 have hr0 : AggRel w φ W s.lv (o.dst.getD 0) cs z.cells := by
  have hget : ∀ (j : Nat) c, cs[j]? = some c → ∃ v, z.cells[j]? = some v ∧ CC c v := fun j c hj => by
   have hlt := (List.getElem?_eq_some_iff.1 hj).1
   exact ⟨_, Array.getElem?_eq_getElem (by omega), hc j c _ hj (Array.getElem?_eq_getElem (by omega))⟩
  refine ⟨hl, fun c hm => ?_, fun v hm => ?_, (okPs_iff _ _).2 fun c hm => ?_, fun j c v hc' hv => ⟨(hc j c v hc' hv).rel _ _ _, fun e sz rows he => (hc j c v hc' hv).own _ _ _ _ _ _ he⟩⟩
  ·obtain ⟨j, hj⟩ := List.mem_iff_getElem?.1 hm
   obtain ⟨v, _, h⟩ := hget j c hj
   exact h.one
  ·obtain ⟨j, hj, rfl⟩ := Array.mem_iff_getElem.1 hm
   exact (hc j cs[j] z.cells[j] (List.getElem?_eq_getElem (by omega)) (Array.getElem?_eq_getElem hj)).cell
  ·obtain ⟨j, hj⟩ := List.mem_iff_getElem?.1 hm
   obtain ⟨v, _, h⟩ := hget j c hj
   exact h.lvl _
 obtain ⟨W', arr', k1, k2, k3, k4⟩ := fill_parts (o.dst.getD 0) place parts parts'.toList s W cs z.cells cs' s1 hp hd h hr0 hf
 refine ⟨.agg arr', w, .inl ?_, φ, W', k2.clr o.dst, fun x hx => ?_⟩
 ·have hm : (parts'.map fun (p : Nat × Operand) => (p.1, a.eval p.2)).toList = parts'.toList.map fun p => (p.1, a.eval p.2) := by simp
  rcases hb with ⟨fs, hu, hfi, hpl⟩ | ⟨n, e, ie, hu, hie, hpl⟩
  ·have hpe : (fun k => (fs.map fun f => (f.offset, P.cellsOf f.type))[k]?) = place := by
    funext k
    rw [hpl, Array.getElem?_map]
   simp only [execOp, ho, Instr.build]
   simp only [Sem.run_bind, zeroValue, typeInfo, run_program, Result.andThen_ok, hi, Sem.run_pure, hz0, run_underlying hu]
   rw [run_places hfi]
   simp only [Result.andThen_ok, hpe, hm, k1, Sem.run_pure]
  ·have hpe : (fun k => some (k * ie.size, ie.size)) = place := by
    funext k
    rw [hpl]
   simp only [execOp, ho, Instr.build]
   simp only [Sem.run_bind, zeroValue, typeInfo, run_program, Result.andThen_ok, hi, Sem.run_pure, hz0, run_underlying hu, sizeOf, hie, hpe, hm, k1]
 ·have hxx : o.dst.getD 0 = x := by rw [hx]; rfl
  rw [hxx] at k3
  refine ⟨.agg _ _ k3.size k3.one k3.cell (fun j c v hc hv => (k3.rel j c v hc hv).1), by rw [k4]; simpa [AV.okP] using k3.lvl, fun p q e sz rows cv hp hc => ?_⟩
  have hp0 : p = 0 := by
   simp only [AV.part] at hp
   split at hp
   ·assumption
   ·cases hp
  subst hp0
  exact (k3.rel q _ cv (by simpa [AV.part, AV.part1] using hp) (by simpa [Value.part, Value.part1] using hc)).2 e sz rows rfl
end
end Go.Ev
