/- What reads as data of a type, as values of the evaluator: whole numbers, bools, strings, structs and slices of these. Condition: none. -/
import Derived.Test.YtcnlfelalgaepaaGreatDoorEvR
import Derived.Deep.Slices
import Derived.Deep.Fields
import Derived.ChangeSame
import Derived.DataReads
import Derived.OpenShut
import Derived.DataShut
namespace Go.Ev
set_option linter.all false
open Go.ChangeShapes Go.WideShapes Go.Deep Go.RowKit

def noPhi : Nat → Nat → Option Blk := fun _ _ => none
def allFree : Nat → Own := fun _ => .free
/-- Cells that are told as values of the evaluator. -/
def Told (w : World) (avs : List AV) (cs : List Value) : Prop := avs.length = cs.length ∧ ∀ (j : Nat) c v, avs[j]? = some c → cs[j]? = some v → VRel w noPhi allFree c v ∧ c.isData = true ∧ v.oneCell' = true
/-- Whatever reads as data of type t is told by values of which sh holds. -/
def Tells (P : Program) (t : TypeId) (sh : List AV → Prop) : Prop :=
  ∀ (H : Type) (enc : TypeId × Value → H) (w : World) (base : Nat) (spare : Nat → Bool) (held : Bool) (fuel : Nat) (cs : List Value) (x : DataW H × List MemPlace),
    DataW.trod enc P w base spare held fuel t cs = some x → ∃ avs, sh avs ∧ Told w avs cs
theorem Tells.imp {P : Program} {t : TypeId} {sh sh' : List AV → Prop} (h : Tells P t sh) (hi : ∀ a, sh a → sh' a) : Tells P t sh' := by
  intro H enc w base spare held fuel cs x hx
  obtain ⟨a, ha, hk⟩ := h H enc w base spare held fuel cs x hx
  exact ⟨a, hi a ha, hk⟩
theorem Told.one {w : World} {c : AV} {v : Value} (h : VRel w noPhi allFree c v) (hd : c.isData = true) (ho : v.oneCell' = true) : Told w [c] [v] := by
  refine ⟨rfl, fun j c' v' hc hv => ?_⟩
  cases j with
  | zero => simp at hc hv; subst hc hv; exact ⟨h, hd, ho⟩
  | succ j => simp at hc
theorem Tells.int {P : Program} {t : TypeId} {k : IntKind} (ht : P.underlying t = some (.int k)) : Tells P t (fun a => ∃ n, a = [.int k n] ∧ (Lit.int k n).wf = true) := by
  intro H enc w base spare held fuel cs x hx
  obtain ⟨n, rfl, _, hw⟩ := DataW.trod_int ht hx
  exact ⟨_, ⟨n, rfl, hw⟩, .one (.int ..) rfl rfl⟩
theorem Tells.bool {P : Program} {t : TypeId} (ht : P.underlying t = some .bool) : Tells P t (fun a => ∃ b, a = [.bool b]) := by
  intro H enc w base spare held fuel cs x hx
  obtain ⟨b, rfl, _⟩ := DataW.trod_bool ht hx
  exact ⟨_, ⟨b, rfl⟩, .one (.bool _) rfl rfl⟩
theorem Tells.string {P : Program} {t : TypeId} (ht : P.underlying t = some .string) : Tells P t (fun a => ∃ s, a = [.str s] ∧ s.size ≤ maxLen) := by
  intro H enc w base spare held fuel cs x hx
  obtain ⟨s, rfl, _, hs⟩ := DataW.trod_string ht hx
  exact ⟨_, ⟨s, rfl, hs⟩, .one (.str _) rfl rfl⟩
theorem Told.append {w : World} {a b : List AV} {c d : List Value} (h : Told w a c) (k : Told w b d) : Told w (a ++ b) (c ++ d) := by
  refine ⟨by simp [h.1, k.1], fun j x v hx hv => ?_⟩
  by_cases hj : j < a.length
  · rw [List.getElem?_append_left hj] at hx
    rw [List.getElem?_append_left (by rw [← h.1]; exact hj)] at hv
    exact h.2 j x v hx hv
  · rw [List.getElem?_append_right (by omega)] at hx
    rw [List.getElem?_append_right (by rw [← h.1]; omega), ← h.1] at hv
    exact k.2 _ x v hx hv
/-- A row of pieces, each of its type, at places that follow each other. -/
def TellsL (P : Program) (ts : List TypeId) (sh : List AV → Prop) : Prop :=
  ∀ (H : Type) (enc : TypeId × Value → H) (w : World) (base : Nat) (spare : Nat → Bool) (held : Bool) (fuel : Nat) (cs : List Value),
    cs.length = (ts.map P.cellsOf).sum → (∀ (j : Nat) (t : TypeId), ts[j]? = some t → ∃ x, DataW.trod enc P w base spare held fuel t ((cs.drop ((ts.take j).map P.cellsOf).sum).take (P.cellsOf t)) = some x) → ∃ avs, sh avs ∧ Told w avs cs
theorem TellsL.nil {P : Program} : TellsL P [] (fun a => a = []) := by
  intro H enc w base spare held fuel cs hl _
  obtain rfl : cs = [] := List.eq_nil_of_length_eq_zero (by simpa using hl)
  exact ⟨[], rfl, rfl, fun j c v hc => by simp at hc⟩
theorem TellsL.cons {P : Program} {t : TypeId} {ts : List TypeId} {sh sh' : List AV → Prop} (h : Tells P t sh) (hs : TellsL P ts sh') : TellsL P (t :: ts) (fun a => ∃ b c, a = b ++ c ∧ sh b ∧ sh' c) := by
  intro H enc w base spare held fuel cs hl hj
  obtain ⟨x, hx⟩ := hj 0 t rfl
  simp at hl hx
  obtain ⟨a, ha, hka⟩ := h H enc w base spare held fuel _ x hx
  obtain ⟨b, hb, hkb⟩ := hs H enc w base spare held fuel (cs.drop (P.cellsOf t)) (by rw [List.length_drop]; omega) (fun j t' ht' => by
    obtain ⟨y, hy⟩ := hj (j + 1) t' (by simpa using ht')
    refine ⟨y, ?_⟩
    rw [List.drop_drop]
    simpa using hy)
  refine ⟨a ++ b, ⟨a, b, rfl, ha, hb⟩, ?_⟩
  rw [← List.take_append_drop (P.cellsOf t) cs]
  exact hka.append hkb
theorem Tells.struct {P : Program} {t : TypeId} {fs : Array Field} {ts : List TypeId} {sh : List AV → Prop} (ht : P.underlying t = some (.struct fs)) (hts : fs.toList.map (·.type) = ts)
    (hoff : fs.toList.map (·.offset) = (List.range ts.length).map (fun j => ((ts.take j).map P.cellsOf).sum)) (hc : P.cellsOf t = (ts.map P.cellsOf).sum) (h : TellsL P ts sh) : Tells P t sh := by
  intro H enc w base spare held fuel cs x hx
  obtain ⟨xs, n, _, _, hl, hxl, hg⟩ := DataW.trod_struct ht hx
  have hsz : fs.size = ts.length := by rw [← hts]; simp
  exact h H enc w base spare held n cs (by rw [hl, hc]) (fun j t' hj => by
    have hjl : j < ts.length := (List.getElem?_eq_some_iff.1 hj).1
    have hjf : j < fs.size := by omega
    have hgj := hg j fs[j] (Array.getElem?_eq_getElem hjf)
    have e1 : fs[j].type = t' := by
      have : (fs.toList.map (·.type))[j]? = some t' := by rw [hts]; exact hj
      simp [hjf] at this
      exact this
    have e2 : fs[j].offset = ((ts.take j).map P.cellsOf).sum := by
      have : (fs.toList.map (·.offset))[j]? = ((List.range ts.length).map (fun j => ((ts.take j).map P.cellsOf).sum))[j]? := by rw [hoff]
      simp [hjf, hjl] at this
      rw [List.map_take]
      exact this
    rw [e1, e2] at hgj
    exact ⟨xs[j]'(by omega), by rw [hgj]; exact List.getElem?_eq_getElem (by omega)⟩)
theorem Tells.slice {P : Program} {t e : TypeId} {sz : Nat} {sh : List AV → Prop} (ht : P.underlying t = some (.slice e)) (hc : P.cellsOf e = sz) (hp : 0 < sz) (h : Tells P e sh) : Tells P t (fun a => ∃ rows, a = [.sl none sz rows] ∧ ∀ r ∈ rows, sh r) := by
  subst hc
  intro H enc w base spare held fuel cs x hx
  rcases open_slice ht hx with ⟨rfl, _⟩ | ⟨a, len, cap, m, n, D, Pl, rfl, hb, hl, hm, hmm, _, hi⟩
  · exact ⟨_, ⟨[], rfl, fun r hr => by cases hr⟩, .one (.slE ..) rfl rfl⟩
  · have hlm : len ≤ m := by rw [hmm]; split <;> omega
    rcases Nat.eq_zero_or_pos len with h0 | h0
    · subst h0
      exact ⟨_, ⟨[], rfl, fun r hr => by cases hr⟩, .one (.slE ..) rfl rfl⟩
    have each : ∀ i : Nat, i < len → ∃ p : List AV × List Value, p.2.length = P.cellsOf e ∧ sh p.1 ∧ Told w p.1 p.2 ∧ ∀ j u, p.2[j]? = some u → w.cell? (a.add (i * P.cellsOf e + j)) = some u := by
      intro i hil
      obtain ⟨cs', hc', ht'⟩ := hi i (by omega)
      obtain ⟨p, hp, hk⟩ := h H enc w base spare held n cs' _ ht'
      obtain ⟨_, hcl, hat⟩ := World.cells?_some hc'
      refine ⟨(p, cs'), hcl, hp, hk, fun j u hu => ?_⟩
      have hj : j < cs'.length := (List.getElem?_eq_some_iff.1 hu).1
      have := hat j (by omega)
      rw [hu, Go.Deep.add_add] at this
      exact this
    let g : Nat → List AV × List Value := fun i => if hil : i < len then Classical.choose (each i hil) else ([], [])
    have hg : ∀ i, i < len → (g i).2.length = P.cellsOf e ∧ sh (g i).1 ∧ Told w (g i).1 (g i).2 ∧ ∀ j u, (g i).2[j]? = some u → w.cell? (a.add (i * P.cellsOf e + j)) = some u := fun i hil => by
      have : g i = Classical.choose (each i hil) := by simp only [g, hil, dif_pos]
      rw [this]
      exact Classical.choose_spec (each i hil)
    have hspot : a = ⟨a.block, a.off, none⟩ := by
      obtain ⟨q1, _, _, q4⟩ := hg 0 h0
      have hu : (g 0).2[0]? = some ((g 0).2[0]'(by omega)) := List.getElem?_eq_getElem _
      have := q4 0 _ hu
      rw [Nat.zero_mul] at this
      have e0 : a.add (0 + 0) = a := rfl
      rw [e0] at this
      unfold World.cell? at this
      split at this
      · split at this
        · cases this
        · rename_i hs
          cases a with
          | mk b o s =>
            cases s with
            | none => rfl
            | some s => simp at hs
      · cases this
    have hadd : ∀ k, a.add k = ⟨a.block, a.off + k, none⟩ := fun k => by
      rw [hspot]
      unfold Addr.add
      split
      · rename_i h; subst h; rfl
      · rfl
    have hget : ∀ (i : Nat) (r : List AV), ((List.range len).map fun i => (g i).1)[i]? = some r → i < len ∧ r = (g i).1 := fun i r hr => by
      have hil := (List.getElem?_eq_some_iff.1 hr).1
      rw [List.length_map, List.length_range] at hil
      rw [List.getElem?_map, List.getElem?_range hil] at hr
      exact ⟨hil, by simpa using hr.symm⟩
    refine ⟨_, ⟨(List.range len).map fun i => (g i).1, rfl, fun r hr => ?_⟩, .one ?_ rfl rfl⟩
    · obtain ⟨i, hi2, rfl⟩ := List.mem_map.1 hr
      exact (hg i (List.mem_range.1 hi2)).2.1
    · have hlen : ((List.range len).map fun i => (g i).1).length = len := by simp
      have hv := VRel.sl (w := w) (φ := noPhi) (W := allFree) none (P.cellsOf e) ((List.range len).map fun i => (g i).1) a.block a.off cap (fun k => ((g (k / P.cellsOf e)).2).getD (k % P.cellsOf e) undef) (by rw [hlen]; exact h0) (by rw [hlen]; exact hl) hm (fun r hr => by
          obtain ⟨i, hi2, rfl⟩ := List.mem_map.1 hr
          have := hg i (List.mem_range.1 hi2)
          rw [this.2.2.1.1, this.1]) hp (fun r hr c hc => by
          obtain ⟨i, hi2, rfl⟩ := List.mem_map.1 hr
          obtain ⟨j, hj⟩ := List.mem_iff_getElem?.1 hc
          have := hg i (List.mem_range.1 hi2)
          have hjl := (List.getElem?_eq_some_iff.1 hj).1
          exact (this.2.2.1.2 j c _ hj (List.getElem?_eq_getElem (by rw [← this.2.2.1.1]; exact hjl))).2.1) (fun k hk => by
          rw [hlen] at hk
          refine ⟨trivial, ?_⟩
          have hq : k / P.cellsOf e < len := Nat.div_lt_of_lt_mul (by rwa [Nat.mul_comm])
          obtain ⟨q1, _, _, q4⟩ := hg _ hq
          have hmod := Nat.mod_lt k hp
          have hu : (g (k / P.cellsOf e)).2[k % P.cellsOf e]? = some ((g (k / P.cellsOf e)).2[k % P.cellsOf e]'(by omega)) := List.getElem?_eq_getElem _
          have := q4 _ _ hu
          rw [hadd, Nat.mul_comm, Nat.div_add_mod] at this
          rw [this]
          simp [List.getD, hu]) (fun i j r c hr hj => by
          obtain ⟨hil, rfl⟩ := hget i r hr
          obtain ⟨q1, q2, q3, _⟩ := hg i hil
          have hjl := (List.getElem?_eq_some_iff.1 hj).1
          have hjl' : j < P.cellsOf e := by rw [← q1, ← q3.1]; exact hjl
          have d1 : (i * P.cellsOf e + j) / P.cellsOf e = i := by rw [Nat.mul_comm, Nat.mul_add_div hp, Nat.div_eq_of_lt hjl', Nat.add_zero]
          have d2 : (i * P.cellsOf e + j) % P.cellsOf e = j := by rw [Nat.mul_comm, Nat.mul_add_mod, Nat.mod_eq_of_lt hjl']
          have hu : (g i).2[j]? = some ((g i).2[j]'(by rw [q1]; exact hjl')) := List.getElem?_eq_getElem _
          show VRel w noPhi allFree c (((g ((i * P.cellsOf e + j) / P.cellsOf e)).2).getD ((i * P.cellsOf e + j) % P.cellsOf e) undef)
          rw [d1, d2]
          have : ((g i).2).getD j undef = (g i).2[j]'(by rw [q1]; exact hjl') := by simp [List.getD, hu]
          rw [this]
          exact (q3.2 j c _ hj hu).1)
      rw [hlen] at hv
      have ha : (some a : Option Addr) = some ⟨a.block, a.off, none⟩ := by rw [← hspot]
      rw [ha]
      exact hv
/-- An argument of a call of the law. -/
def ArgOk (w : World) (c : AV) (v : Value) : Prop := VRel w noPhi allFree c v ∧ c.okP (fun _ _ => false) = true ∧ c.noFlag
theorem data_noFlag {c : AV} (h : c.isData = true) : c.noFlag := by
  intro i j e sz rows
  cases c <;> simp_all [AV.part, AV.part1, AV.isData]
  rename_i o _ _
  cases o <;> simp_all [AV.isData]
theorem Told.arg1 {w : World} {c : AV} {v : Value} (h : Told w [c] [v]) : ArgOk w c v :=
  ⟨(h.2 0 c v rfl rfl).1, okP_data _ (h.2 0 c v rfl rfl).2.1, data_noFlag (h.2 0 c v rfl rfl).2.1⟩
theorem Told.argAgg {w : World} {avs : List AV} {cs : Array Value} (h : Told w avs cs.toList) : ArgOk w (.agg avs) (.agg cs) := by
  have hl : avs.length = cs.size := by rw [h.1, Array.length_toList]
  have hd : ∀ c ∈ avs, c.isData = true := fun c hc => by
    obtain ⟨j, hj⟩ := List.mem_iff_getElem?.1 hc
    have hjl := (List.getElem?_eq_some_iff.1 hj).1
    exact (h.2 j c (cs[j]'(by omega)) hj (by rw [Array.getElem?_toList]; exact Array.getElem?_eq_getElem _)).2.1
  refine ⟨.agg avs cs hl.symm (fun c hc => by have := hd c hc; cases c <;> simp_all [AV.isData, AV.one]) (fun v hv => ?_) (fun i c v hc hv => (h.2 i c v hc (by rw [Array.getElem?_toList]; exact hv)).1), ?_, ?_⟩
  · obtain ⟨j, hj⟩ := Array.mem_iff_getElem?.1 hv
    have hjl := (Array.getElem?_eq_some_iff.1 hj).1
    exact (h.2 j (avs[j]'(by omega)) v (List.getElem?_eq_getElem _) (by rw [Array.getElem?_toList]; exact hj)).2.2
  · simp only [AV.okP]
    exact (okPs_iff _ _).2 fun c hc => okP_data _ (hd c hc)
  · intro i j e sz rows hp
    simp only [AV.part, AV.part1] at hp
    split at hp
    · have := hd _ (List.mem_of_getElem? hp)
      cases this
    · cases hp
/-- An argument that is one cell. -/
theorem open1 {H : Type} {enc : TypeId × Value → H} {P : Program} {w : World} {base : Nat} {spare : Nat → Bool} {held : Bool} {t : TypeId} {v : Value} {x : DataW H} {p : List MemPlace} {sh : List AV → Prop}
    (h : DataW.Trod enc P w base spare held t v x p) (T : Tells P t sh) (hv : v.cells = #[v]) (h1 : ∀ a, sh a → ∃ c, a = [c]) : ∃ c, sh [c] ∧ ArgOk w c v := by
  obtain ⟨fuel, hf⟩ := h
  obtain ⟨a, ha, hk⟩ := T H enc w base spare held fuel _ _ hf
  obtain ⟨c, rfl⟩ := h1 a ha
  rw [hv] at hk
  exact ⟨c, ha, hk.arg1⟩
/-- An argument that is a struct. -/
theorem openA {H : Type} {enc : TypeId × Value → H} {P : Program} {w : World} {base b0 : Nat} {spare : Nat → Bool} {held : Bool} {r : Reach} {t : TypeId} {fs : Array Field} {v : Value} {x : DataW H} {p : List MemPlace} {sh : List AV → Prop}
    (hs : P.underlying t = some (.struct fs)) (hv : Value.okWide P w r b0 t v) (h : DataW.Trod enc P w base spare held t v x p) (T : Tells P t sh) : ∃ a, sh a ∧ ArgOk w (.agg a) v := by
  obtain ⟨cs, rfl, _⟩ := okWide_struct hs hv
  obtain ⟨fuel, hf⟩ := h
  obtain ⟨a, ha, hk⟩ := T H enc w base spare held fuel _ _ hf
  refine ⟨a, ha, Told.argAgg ?_⟩
  simpa [Value.cells] using hk
/-- An argument that is a slice. -/
theorem openS {H : Type} {enc : TypeId × Value → H} {P : Program} {w : World} {base b0 : Nat} {spare : Nat → Bool} {held : Bool} {r : Reach} {t e : TypeId} {v : Value} {x : DataW H} {p : List MemPlace} {sz : Nat} {sh : List AV → Prop}
    (hs : P.underlying t = some (.slice e)) (hc : P.cellsOf e = sz) (hp : 0 < sz) (hv : Value.okWide P w r b0 t v) (h : DataW.Trod enc P w base spare held t v x p) (T : Tells P e sh) : ∃ rows, (∀ r ∈ rows, sh r) ∧ ArgOk w (.sl none sz rows) v := by
  obtain ⟨a0, len, cap, rfl⟩ := okWide_slice hs hv
  obtain ⟨c, ⟨rows, hc', hr⟩, ha⟩ := open1 h (T.slice hs hc hp) rfl (fun a ⟨rows, ha, _⟩ => ⟨_, ha⟩)
  injection hc' with hc'
  subst hc'
  exact ⟨rows, hr, ha⟩
theorem rows_of {α : Type} {f : α → List AV} : ∀ {rows : List (List AV)}, (∀ r ∈ rows, ∃ x, r = f x) → ∃ l : List α, rows = l.map f
  | [], _ => ⟨[], rfl⟩
  | r :: rows, h => by
    obtain ⟨x, rfl⟩ := h r (List.mem_cons_self ..)
    obtain ⟨l, rfl⟩ := rows_of (rows := rows) (fun r hr => h r (List.mem_cons_of_mem _ hr))
    exact ⟨x :: l, rfl⟩
/-- .. with what holds of each. -/
theorem rows_of' {α : Type} {f : α → List AV} {ok : α → Prop} : ∀ {rows : List (List AV)}, (∀ r ∈ rows, ∃ x, r = f x ∧ ok x) → ∃ l : List α, rows = l.map f ∧ ∀ x ∈ l, ok x
  | [], _ => ⟨[], rfl, fun x hx => by cases hx⟩
  | r :: rows, h => by
    obtain ⟨x, rfl, hx⟩ := h r (List.mem_cons_self ..)
    obtain ⟨l, rfl, hl⟩ := rows_of' (rows := rows) (fun r hr => h r (List.mem_cons_of_mem _ hr))
    refine ⟨x :: l, rfl, fun y hy => ?_⟩
    rcases List.mem_cons.1 hy with rfl | hy
    · exact hx
    · exact hl y hy
theorem wf_u8 {n : Int} (h : (Lit.int .u8 n).wf = true) : 0 ≤ n ∧ n ≤ 255 := by
  have := (Lit.wf_int_iff _ _).1 h
  exact this
theorem wf_i64 {n : Int} (h : (Lit.int .i64 n).wf = true) : -9223372036854775808 ≤ n ∧ n ≤ 9223372036854775807 := by
  have := (Lit.wf_int_iff _ _).1 h
  exact this
theorem args1 {w : World} {c : AV} {v : Value} (h : ArgOk w c v) : ∀ (i : Nat) d u, [c][i]? = some d → #[v][i]? = some u → ArgOk w d u := by
  intro i d u hd hu
  match i with
  | 0 => simp at hd hu; subst hd hu; exact h
  | i + 1 => simp at hd
theorem args2 {w : World} {c c2 : AV} {v v2 : Value} (h : ArgOk w c v) (h2 : ArgOk w c2 v2) : ∀ (i : Nat) d u, [c, c2][i]? = some d → #[v, v2][i]? = some u → ArgOk w d u := by
  intro i d u hd hu
  match i with
  | 0 => simp at hd hu; subst hd hu; exact h
  | 1 => simp at hd hu; subst hd hu; exact h2
  | i + 2 => simp at hd
theorem args3 {w : World} {c c2 c3 : AV} {v v2 v3 : Value} (h : ArgOk w c v) (h2 : ArgOk w c2 v2) (h3 : ArgOk w c3 v3) : ∀ (i : Nat) d u, [c, c2, c3][i]? = some d → #[v, v2, v3][i]? = some u → ArgOk w d u := by
  intro i d u hd hu
  match i with
  | 0 => simp at hd hu; subst hd hu; exact h
  | 1 => simp at hd hu; subst hd hu; exact h2
  | 2 => simp at hd hu; subst hd hu; exact h3
  | i + 3 => simp at hd
/-- From the evaluator's answer to the call. -/
theorem law_calls {P : Program} {T : Tab} (hm : P.follows .mixedOrders = true) (hT : TabOk P T) {f : FuncId} {vs : List AV} {m : Mem} (h : (sem T).call f vs noMem 0 = some ([.bool true], m)) {w : World} {cargs : Array Value} (hl : cargs.size = vs.length)
    (hgl : GlobOk w (fun _ => .free)) (ha : ∀ (i : Nat) c v, vs[i]? = some c → cargs[i]? = some v → ArgOk w c v) : Calls P f cargs w fun e w' => e = .returned (.bool true) ∧ Below w.heap.size w w' := by
  refine (sem_calls hm hT h hl hgl ha).mono fun e w' hx => ?_
  obtain ⟨v, φ', W', rfl, hv, hb⟩ := hx
  have hv : VRel w' φ' W' (.bool true) v := hv
  cases hv
  exact ⟨rfl, hb⟩
end Go.Ev
