/- What reads as data of a type, as values of the evaluator: whole numbers, bools, strings, structs and slices of these. Condition: none. -/
import Derived.Test.YtcnlfelalgaepaaGreatDoorEvR
import Derived.Deep.Slices
import Derived.Deep.Fields
import Derived.ChangeSame
import Derived.DataReads
import Derived.OpenShut
import Derived.DataShut
namespace Go.Ev
set_option linter.all false
open Go.ChangeShapes Go.WideShapes Go.Deep Go.RowKit
def noPhi : Nat → Nat → Option Blk := fun _ _ => none
def allFree : Nat → Own := fun _ => .free
def Told (w : World) (avs : List AV) (cs : List Value) : Prop := avs.length = cs.length ∧ ∀ (j : Nat) c v, avs[j]? = some c → cs[j]? = some v → VRel w noPhi allFree c v ∧ c.isData = true ∧ v.oneCell' = true
def Tells (P : Program) (t : TypeId) (sh : List AV → Prop) : Prop :=
 ∀ (H : Type) (enc : TypeId × Value → H) (w : World) (base : Nat) (spare : Nat → Bool) (held : Bool) (fuel : Nat) (cs : List Value) (x : DataW H × List MemPlace),
  DataW.trod enc P w base spare held fuel t cs = some x → ∃ avs, sh avs ∧ Told w avs cs
theorem Tells.imp {P : Program} {t : TypeId} {sh sh' : List AV → Prop} (h : Tells P t sh) (hi : ∀ a, sh a → sh' a) : Tells P t sh' := by
 intro H enc w base spare held fuel cs x hx
 obtain ⟨a, ha, hk⟩ := h H enc w base spare held fuel cs x hx
 exact ⟨a, hi a ha, hk⟩
theorem Told.one {w : World} {c : AV} {v : Value} (h : VRel w noPhi allFree c v) (hd : c.isData = true) (ho : v.oneCell' = true) : Told w [c] [v] := by
 refine ⟨rfl, fun j c' v' hc hv => ?_⟩
 cases j with
 | zero => simp at hc hv; subst hc hv; exact ⟨h, hd, ho⟩
 | succ j => simp at hc
theorem Tells.string {P : Program} {t : TypeId} (ht : P.underlying t = some .string) : Tells P t (fun a => ∃ s, a = [.str s] ∧ s.size ≤ maxLen) := by
 intro H enc w base spare held fuel cs x hx
 obtain ⟨s, rfl, _, hs⟩ := DataW.trod_string ht hx
 exact ⟨_, ⟨s, rfl, hs⟩, .one (.str _) rfl rfl⟩
def TellsL (P : Program) (ts : List TypeId) (sh : List AV → Prop) : Prop :=
 ∀ (H : Type) (enc : TypeId × Value → H) (w : World) (base : Nat) (spare : Nat → Bool) (held : Bool) (fuel : Nat) (cs : List Value),
  cs.length = (ts.map P.cellsOf).sum → (∀ (j : Nat) (t : TypeId), ts[j]? = some t → ∃ x, DataW.trod enc P w base spare held fuel t ((cs.drop ((ts.take j).map P.cellsOf).sum).take (P.cellsOf t)) = some x) → ∃ avs, sh avs ∧ Told w avs cs
theorem Tells.slice {P : Program} {t e : TypeId} {sz : Nat} {sh : List AV → Prop} (ht : P.underlying t = some (.slice e)) (hc : P.cellsOf e = sz) (hp : 0 < sz) (h : Tells P e sh) : Tells P t (fun a => ∃ rows, a = [.sl none sz rows] ∧ ∀ r ∈ rows, sh r) := by
 subst hc
 intro H enc w base spare held fuel cs x hx
 rcases open_slice ht hx with ⟨rfl, _⟩ | ⟨a, len, cap, m, n, D, Pl, rfl, hb, hl, hm, hmm, _, hi⟩
 ·exact ⟨_, ⟨[], rfl, fun r hr => by cases hr⟩, .one (.slE ..) rfl rfl⟩
 ·have hlm : len ≤ m := by rw [hmm]; split <;> omega
  rcases Nat.eq_zero_or_pos len with h0 | h0
  ·subst h0
   exact ⟨_, ⟨[], rfl, fun r hr => by cases hr⟩, .one (.slE ..) rfl rfl⟩
  have each : ∀ i : Nat, i < len → ∃ p : List AV × List Value, p.2.length = P.cellsOf e ∧ sh p.1 ∧ Told w p.1 p.2 ∧ ∀ j u, p.2[j]? = some u → w.cell? (a.add (i * P.cellsOf e + j)) = some u := by
   intro i hil
   obtain ⟨cs', hc', ht'⟩ := hi i (by omega)
   obtain ⟨p, hp, hk⟩ := h H enc w base spare held n cs' _ ht'
   obtain ⟨_, hcl, hat⟩ := World.cells?_some hc'
   refine ⟨(p, cs'), hcl, hp, hk, fun j u hu => ?_⟩
   have hj : j < cs'.length := (List.getElem?_eq_some_iff.1 hu).1
   have := hat j (by omega)
   rw [hu, Go.Deep.add_add] at this
   exact this
  let g : Nat → List AV × List Value := fun i => if hil : i < len then Classical.choose (each i hil) else ([], [])
  have hg : ∀ i, i < len → (g i).2.length = P.cellsOf e ∧ sh (g i).1 ∧ Told w (g i).1 (g i).2 ∧ ∀ j u, (g i).2[j]? = some u → w.cell? (a.add (i * P.cellsOf e + j)) = some u := fun i hil => by
   have : g i = Classical.choose (each i hil) := by simp only [g, hil, dif_pos]
   rw [this]
   exact Classical.choose_spec (each i hil)
  have hspot : a = ⟨a.block, a.off, none⟩ := by
   obtain ⟨q1, _, _, q4⟩ := hg 0 h0
   have hu : (g 0).2[0]? = some ((g 0).2[0]'(by omega)) := List.getElem?_eq_getElem _
   have := q4 0 _ hu
   rw [Nat.zero_mul] at this
   have e0 : a.add (0 + 0) = a := rfl
   rw [e0] at this
   unfold World.cell? at this
   split at this
   ·split at this
    ·cases this
    ·rename_i hs
     cases a with
     | mk b o s =>
       cases s with
       | none => rfl
       | some s => simp at hs
   ·cases this
  have hadd : ∀ k, a.add k = ⟨a.block, a.off + k, none⟩ := fun k => by
   rw [hspot]
   unfold Addr.add
   split
   ·rename_i h; subst h; rfl
   ·rfl
  have hget : ∀ (i : Nat) (r : List AV), ((List.range len).map fun i => (g i).1)[i]? = some r → i < len ∧ r = (g i).1 := fun i r hr => by
   have hil := (List.getElem?_eq_some_iff.1 hr).1
   rw [List.length_map, List.length_range] at hil
   rw [List.getElem?_map, List.getElem?_range hil] at hr
   exact ⟨hil, by simpa using hr.symm⟩
  refine ⟨_, ⟨(List.range len).map fun i => (g i).1, rfl, fun r hr => ?_⟩, .one ?_ rfl rfl⟩
  ·obtain ⟨i, hi2, rfl⟩ := List.mem_map.1 hr
   exact (hg i (List.mem_range.1 hi2)).2.1
  ·have hlen : ((List.range len).map fun i => (g i).1).length = len := by simp
   have hv := VRel.sl (w := w) (φ := noPhi) (W := allFree) none (P.cellsOf e) ((List.range len).map fun i => (g i).1) a.block a.off cap (fun k => ((g (k / P.cellsOf e)).2).getD (k % P.cellsOf e) undef) (by rw [hlen]; exact h0) (by rw [hlen]; exact hl) hm (fun r hr => by
    obtain ⟨i, hi2, rfl⟩ := List.mem_map.1 hr
    have := hg i (List.mem_range.1 hi2)
    rw [this.2.2.1.1, this.1]) hp (fun r hr c hc => by
    obtain ⟨i, hi2, rfl⟩ := List.mem_map.1 hr
    obtain ⟨j, hj⟩ := List.mem_iff_getElem?.1 hc
    have := hg i (List.mem_range.1 hi2)
    have hjl := (List.getElem?_eq_some_iff.1 hj).1
    exact (this.2.2.1.2 j c _ hj (List.getElem?_eq_getElem (by rw [← this.2.2.1.1]; exact hjl))).2.1) (fun k hk => by
    rw [hlen] at hk
    refine ⟨trivial, ?_⟩
    have hq : k / P.cellsOf e < len := Nat.div_lt_of_lt_mul (by rwa [Nat.mul_comm])
    obtain ⟨q1, _, _, q4⟩ := hg _ hq
    have hmod := Nat.mod_lt k hp
    have hu : (g (k / P.cellsOf e)).2[k % P.cellsOf e]? = some ((g (k / P.cellsOf e)).2[k % P.cellsOf e]'(by omega)) := List.getElem?_eq_getElem _
    have := q4 _ _ hu
    rw [hadd, Nat.mul_comm, Nat.div_add_mod] at this
    rw [this]
    simp [List.getD, hu]) (fun i j r c hr hj => by
    obtain ⟨hil, rfl⟩ := hget i r hr
    obtain ⟨q1, q2, q3, _⟩ := hg i hil
    have hjl := (List.getElem?_eq_some_iff.1 hj).1
    have hjl' : j < P.cellsOf e := by rw [← q1, ← q3.1]; exact hjl
    have d1 : (i * P.cellsOf e + j) / P.cellsOf e = i := by rw [Nat.mul_comm, Nat.mul_add_div hp, Nat.div_eq_of_lt hjl', Nat.add_zero]
    have d2 : (i * P.cellsOf e + j) % P.cellsOf e = j := by rw [Nat.mul_comm, Nat.mul_add_mod, Nat.mod_eq_of_lt hjl']
    have hu : (g i).2[j]? = some ((g i).2[j]'(by rw [q1]; exact hjl')) := List.getElem?_eq_getElem _
    show VRel w noPhi allFree c (((g ((i * P.cellsOf e + j) / P.cellsOf e)).2).getD ((i * P.cellsOf e + j) % P.cellsOf e) undef)
    rw [d1, d2]
    have : ((g i).2).getD j undef = (g i).2[j]'(by rw [q1]; exact hjl') := by simp [List.getD, hu]
    rw [this]
    exact (q3.2 j c _ hj hu).1)
   rw [hlen] at hv
   have ha : (some a : Option Addr) = some ⟨a.block, a.off, none⟩ := by rw [← hspot]
   rw [ha]
   exact hv
def ArgOk (w : World) (c : AV) (v : Value) : Prop := VRel w noPhi allFree c v ∧ c.okP (fun _ _ => false) = true ∧ c.noFlag
theorem data_noFlag {c : AV} (h : c.isData = true) : c.noFlag := by
 intro i j e sz rows
 cases c <;> simp_all [AV.part, AV.part1, AV.isData]
 rename_i o _ _
 cases o <;> simp_all [AV.isData]
theorem Told.arg1 {w : World} {c : AV} {v : Value} (h : Told w [c] [v]) : ArgOk w c v :=
 ⟨(h.2 0 c v rfl rfl).1, okP_data _ (h.2 0 c v rfl rfl).2.1, data_noFlag (h.2 0 c v rfl rfl).2.1⟩
theorem open1 {H : Type} {enc : TypeId × Value → H} {P : Program} {w : World} {base : Nat} {spare : Nat → Bool} {held : Bool} {t : TypeId} {v : Value} {x : DataW H} {p : List MemPlace} {sh : List AV → Prop}
 (h : DataW.Trod enc P w base spare held t v x p) (T : Tells P t sh) (hv : v.cells = #[v]) (h1 : ∀ a, sh a → ∃ c, a = [c]) : ∃ c, sh [c] ∧ ArgOk w c v := by
 obtain ⟨fuel, hf⟩ := h
 obtain ⟨a, ha, hk⟩ := T H enc w base spare held fuel _ _ hf
 obtain ⟨c, rfl⟩ := h1 a ha
 rw [hv] at hk
 exact ⟨c, ha, hk.arg1⟩
theorem openS {H : Type} {enc : TypeId × Value → H} {P : Program} {w : World} {base b0 : Nat} {spare : Nat → Bool} {held : Bool} {r : Reach} {t e : TypeId} {v : Value} {x : DataW H} {p : List MemPlace} {sz : Nat} {sh : List AV → Prop}
 (hs : P.underlying t = some (.slice e)) (hc : P.cellsOf e = sz) (hp : 0 < sz) (hv : Value.okWide P w r b0 t v) (h : DataW.Trod enc P w base spare held t v x p) (T : Tells P e sh) : ∃ rows, (∀ r ∈ rows, sh r) ∧ ArgOk w (.sl none sz rows) v := by
 obtain ⟨a0, len, cap, rfl⟩ := okWide_slice hs hv
 obtain ⟨c, ⟨rows, hc', hr⟩, ha⟩ := open1 h (T.slice hs hc hp) rfl (fun a ⟨rows, ha, _⟩ => ⟨_, ha⟩)
 injection hc' with hc'
 subst hc'
 exact ⟨rows, hr, ha⟩
theorem rows_of {α : Type} {f : α → List AV} : ∀ {rows : List (List AV)}, (∀ r ∈ rows, ∃ x, r = f x) → ∃ l : List α, rows = l.map f
 | [], _ => ⟨[], rfl⟩
 | r :: rows, h => by
   obtain ⟨x, rfl⟩ := h r (List.mem_cons_self ..)
   obtain ⟨l, rfl⟩ := rows_of (rows := rows) (fun r hr => h r (List.mem_cons_of_mem _ hr))
   exact ⟨x :: l, rfl⟩
theorem args3 {w : World} {c c2 c3 : AV} {v v2 v3 : Value} (h : ArgOk w c v) (h2 : ArgOk w c2 v2) (h3 : ArgOk w c3 v3) : ∀ (i : Nat) d u, [c, c2, c3][i]? = some d → #[v, v2, v3][i]? = some u → ArgOk w d u := by
 intro i d u hd hu
 match i with
 | 0 => simp at hd hu; subst hd hu; exact h
 | 1 => simp at hd hu; subst hd hu; exact h2
 | 2 => simp at hd hu; subst hd hu; exact h3
 | i + 3 => simp at hd
theorem law_calls {P : Program} {T : Tab} (hm : P.follows .mixedOrders = true) (hT : TabOk P T) {f : FuncId} {vs : List AV} {m : Mem} (h : (sem T).call f vs noMem 0 = some ([.bool true], m)) {w : World} {cargs : Array Value} (hl : cargs.size = vs.length)
 (hgl : GlobOk w (fun _ => .free)) (ha : ∀ (i : Nat) c v, vs[i]? = some c → cargs[i]? = some v → ArgOk w c v) : Calls P f cargs w fun e w' => e = .returned (.bool true) ∧ Below w.heap.size w w' := by
 refine (sem_calls hm hT h hl hgl ha).mono fun e w' hx => ?_
 obtain ⟨v, φ', W', rfl, hv, hb⟩ := hx
 have hv : VRel w' φ' W' (.bool true) v := hv
 cases hv
 exact ⟨rfl, hb⟩
end Go.Ev
