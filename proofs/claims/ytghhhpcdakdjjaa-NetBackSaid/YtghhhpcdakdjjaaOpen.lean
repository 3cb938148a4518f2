/- What reads as data of a type, as a value of a kind: whole numbers, bools, strings, structs and slices of these, whatever their depth. Condition: none. -/
import Derived.Test.YtghhhpcdakdjjaaWWords
import Derived.Deep.Slices
import Derived.Deep.Fields
import Derived.ChangeSame
import Derived.DataReads
namespace Go.Proofs.Ytghhhpcdakdjjaa.Open
open Go.ChangeShapes Go.WideShapes Go.Deep Go.RowKit Go.Proofs.YtghhhpcdakdjjaaW.PrintWords

/-- Whatever reads as data of type t is what the kind d tells of some a, of which ok holds. -/
def Tells {α : Type} (P : Program) (t : TypeId) (d : Kd α) (ok : α → Prop) : Prop :=
  ∀ (H : Type) (enc : TypeId × Value → H) (w : World) (base : Nat) (spare : Nat → Bool) (held : Bool) (fuel : Nat) (cs : List Value) (x : DataW H × List MemPlace),
    DataW.trod enc P w base spare held fuel t cs = some x → ∃ a, d.K w a cs ∧ ok a
theorem Tells.imp {α : Type} {P : Program} {t : TypeId} {d : Kd α} {ok ok' : α → Prop} (h : Tells P t d ok) (hi : ∀ a, ok a → ok' a) : Tells P t d ok' := by
  intro H enc w base spare held fuel cs x hx
  obtain ⟨a, ha, hk⟩ := h H enc w base spare held fuel cs x hx
  exact ⟨a, ha, hi a hk⟩
theorem Tells.int {P : Program} {t : TypeId} {k : IntKind} (ht : P.underlying t = some (.int k)) : Tells P t (Kd.int k) (fun a => (Lit.int k a).wf = true) := by
  intro H enc w base spare held fuel cs x hx
  obtain ⟨n, rfl, _, hw⟩ := DataW.trod_int ht hx
  exact ⟨n, rfl, hw⟩
theorem Tells.bool {P : Program} {t : TypeId} (ht : P.underlying t = some .bool) : Tells P t Kd.bool (fun _ => True) := by
  intro H enc w base spare held fuel cs x hx
  obtain ⟨b, rfl, _⟩ := DataW.trod_bool ht hx
  exact ⟨b, rfl, trivial⟩
theorem Tells.string {P : Program} {t : TypeId} (ht : P.underlying t = some .string) : Tells P t Kd.string (fun s => s.size ≤ maxLen) := by
  intro H enc w base spare held fuel cs x hx
  obtain ⟨s, rfl, _, hs⟩ := DataW.trod_string ht hx
  exact ⟨s, rfl, hs⟩

/-- A row of pieces, each of its type, at places that follow each other from o on. -/
def TellsL {α : Type} (P : Program) (ts : List TypeId) (d : Kd α) (ok : α → Prop) : Prop :=
  ∀ (H : Type) (enc : TypeId × Value → H) (w : World) (base : Nat) (spare : Nat → Bool) (held : Bool) (fuel : Nat) (cs : List Value),
    cs.length = (ts.map P.cellsOf).sum → (∀ (j : Nat) (t : TypeId), ts[j]? = some t → ∃ x, DataW.trod enc P w base spare held fuel t ((cs.drop ((ts.take j).map P.cellsOf).sum).take (P.cellsOf t)) = some x) → ∃ a, d.K w a cs ∧ ok a
theorem TellsL.one {α : Type} {P : Program} {t : TypeId} {d : Kd α} {ok : α → Prop} (h : Tells P t d ok) : TellsL P [t] d ok := by
  intro H enc w base spare held fuel cs hl hj
  obtain ⟨x, hx⟩ := hj 0 t rfl
  simp at hl hx
  rw [List.take_of_length_le (by omega)] at hx
  exact h H enc w base spare held fuel cs x hx
theorem TellsL.cons {α β : Type} {P : Program} {t : TypeId} {ts : List TypeId} {d : Kd α} {d' : Kd β} {ok : α → Prop} {ok' : β → Prop} (h : Tells P t d ok) (hs : TellsL P ts d' ok') : TellsL P (t :: ts) (Kd.pair d d') (fun x => ok x.1 ∧ ok' x.2) := by
  intro H enc w base spare held fuel cs hl hj
  obtain ⟨x, hx⟩ := hj 0 t rfl
  simp at hl hx
  obtain ⟨a, ha, hka⟩ := h H enc w base spare held fuel _ x hx
  obtain ⟨b, hb, hkb⟩ := hs H enc w base spare held fuel (cs.drop (P.cellsOf t)) (by rw [List.length_drop]; omega) (fun j t' ht' => by
    obtain ⟨y, hy⟩ := hj (j + 1) t' (by simpa using ht')
    refine ⟨y, ?_⟩
    rw [List.drop_drop]
    simpa using hy)
  exact ⟨(a, b), ⟨_, _, (List.take_append_drop _ _).symm, ha, hb⟩, hka, hkb⟩
theorem Tells.struct {α β : Type} {P : Program} {t : TypeId} {fs : Array Field} {ts : List TypeId} {d : Kd α} {f : β → α} {g : α → β} {ok : α → Prop} (ht : P.underlying t = some (.struct fs)) (hts : fs.toList.map (·.type) = ts)
    (hoff : fs.toList.map (·.offset) = (List.range ts.length).map (fun j => ((ts.take j).map P.cellsOf).sum)) (hc : P.cellsOf t = (ts.map P.cellsOf).sum) (hfg : ∀ a, f (g a) = a) (h : TellsL P ts d ok) : Tells P t (Kd.iso d f) (fun x => ok (f x)) := by
  intro H enc w base spare held fuel cs x hx
  obtain ⟨xs, n, _, _, hl, hxl, hg⟩ := DataW.trod_struct ht hx
  have hsz : fs.size = ts.length := by rw [← hts]; simp
  obtain ⟨a, ha, hk⟩ := h H enc w base spare held n cs (by rw [hl, hc]) (fun j t' hj => by
    have hjl : j < ts.length := (List.getElem?_eq_some_iff.1 hj).1
    have hjf : j < fs.size := by omega
    have hgj := hg j fs[j] (Array.getElem?_eq_getElem hjf)
    have e1 : fs[j].type = t' := by
      have : (fs.toList.map (·.type))[j]? = some t' := by rw [hts]; exact hj
      simp [hjf] at this
      exact this
    have e2 : fs[j].offset = ((ts.take j).map P.cellsOf).sum := by
      have : (fs.toList.map (·.offset))[j]? = ((List.range ts.length).map (fun j => ((ts.take j).map P.cellsOf).sum))[j]? := by rw [hoff]
      simp [hjf, hjl] at this
      rw [List.map_take]
      exact this
    rw [e1, e2] at hgj
    exact ⟨xs[j]'(by omega), by rw [hgj]; exact List.getElem?_eq_getElem (by omega)⟩)
  refine ⟨g a, ?_, ?_⟩
  · show d.K w (f (g a)) cs
    rw [hfg]; exact ha
  · show ok (f (g a))
    rw [hfg]; exact hk
theorem Tells.slice {α : Type} {P : Program} {t e : TypeId} {d : Kd α} {ok : α → Prop} (ht : P.underlying t = some (.slice e)) (hc : P.cellsOf e = d.sz) (h : Tells P e d ok) : Tells P t (Kd.slice e d) (fun xs => ∀ x ∈ xs, ok x) := by
  intro H enc w base spare held fuel cs x hx
  rcases open_slice ht hx with ⟨rfl, _⟩ | ⟨a, len, cap, m, n, D, Pl, rfl, hb, hl, hm, hmm, _, hi⟩
  · exact ⟨[], ⟨none, 0, rfl, Nat.le_refl _, Kd.C_nil _ _⟩, fun x hx => by cases hx⟩
  · have hlm : len ≤ m := by rw [hmm]; split <;> omega
    have hp : ∀ i : Nat, i < len → ∃ p, (∃ c, c.length = d.sz ∧ d.K w p c ∧ ∀ j u, c[j]? = some u → w.cell? (a.add (i * d.sz + j)) = some u) ∧ ok p := by
      intro i hil
      obtain ⟨cs', hc', ht'⟩ := hi i (by omega)
      obtain ⟨p, hp, hk⟩ := h H enc w base spare held n cs' _ ht'
      obtain ⟨_, hcl, hat⟩ := World.cells?_some hc'
      refine ⟨p, ⟨cs', by rw [hcl, hc], hp, fun j u hu => ?_⟩, hk⟩
      have hj : j < cs'.length := (List.getElem?_eq_some_iff.1 hu).1
      have := hat j (by omega)
      rw [hu, hc, Go.Deep.add_add] at this
      exact this
    rcases Nat.eq_zero_or_pos len with h0 | h0
    · subst h0
      exact ⟨[], ⟨some a, cap, rfl, Nat.zero_le _, rfl, by simp, fun h => absurd h (by simp)⟩, fun x hx => by cases hx⟩
    · obtain ⟨p0, _⟩ := hp 0 h0
      have hf : ∃ f : Nat → α, ∀ i, i < len → (∃ c, c.length = d.sz ∧ d.K w (f i) c ∧ ∀ j u, c[j]? = some u → w.cell? (a.add (i * d.sz + j)) = some u) ∧ ok (f i) :=
        ⟨fun i => if hil : i < len then Classical.choose (hp i hil) else p0, fun i hil => by
          simp only [hil, dif_pos]
          exact Classical.choose_spec (hp i hil)⟩
      obtain ⟨f, hf⟩ := hf
      have hml : maxLen = 9223372036854775807 := rfl
      refine ⟨(List.range len).map f, ⟨some a, cap, by simp, by simpa using hl, rfl, by simp; omega, fun _ => ⟨a, rfl, fun j p hj => ?_⟩⟩, fun x hx => ?_⟩
      · have hjl : j < len := by
          have := (List.getElem?_eq_some_iff.1 hj).1
          simpa using this
        simp [hjl] at hj
        subst hj
        exact (hf j hjl).1
      · obtain ⟨i, hi2, rfl⟩ := List.mem_map.1 hx
        exact (hf i (List.mem_range.1 hi2)).2
/-- A struct by value: its cells, and what they tell. -/
theorem open_struct {α : Type} {H : Type} {enc : TypeId × Value → H} {P : Program} {w : World} {base b0 : Nat} {spare : Nat → Bool} {held : Bool} {r : Reach} {t : TypeId} {fs : Array Field} {v : Value} {x : DataW H} {p : List MemPlace} {d : Kd α} {ok : α → Prop}
    (hs : P.underlying t = some (.struct fs)) (hv : Value.okWide P w r b0 t v) (h : DataW.Trod enc P w base spare held t v x p) (T : Tells P t d ok) : ∃ a cs, v = .agg cs ∧ d.K w a cs.toList ∧ ok a := by
  obtain ⟨cs, rfl, _⟩ := okWide_struct hs hv
  obtain ⟨fuel, hf⟩ := h
  obtain ⟨a, ha, hk⟩ := T H enc w base spare held fuel _ _ hf
  exact ⟨a, cs, rfl, by simpa [Value.cells] using ha, hk⟩
/-- A slice: its elements, and what they tell. -/
theorem open_slice_of {α : Type} {H : Type} {enc : TypeId × Value → H} {P : Program} {w : World} {base b0 : Nat} {spare : Nat → Bool} {held : Bool} {r : Reach} {t e : TypeId} {v : Value} {x : DataW H} {p : List MemPlace} {d : Kd α} {ok : α → Prop}
    (hs : P.underlying t = some (.slice e)) (hc : P.cellsOf e = d.sz) (hv : Value.okWide P w r b0 t v) (h : DataW.Trod enc P w base spare held t v x p) (T : Tells P e d ok) : ∃ A c xs, v = .slice A xs.length c ∧ xs.length ≤ c ∧ Kd.C d w A xs.length xs ∧ ∀ a ∈ xs, ok a := by
  obtain ⟨a0, len, cap, rfl⟩ := okWide_slice hs hv
  obtain ⟨fuel, hf⟩ := h
  obtain ⟨xs, ⟨A, c, he, hl, hC⟩, hk⟩ := (T.slice hs hc) H enc w base spare held fuel _ _ hf
  have : (Value.slice a0 len cap) = .slice A xs.length c := by simpa [Value.cells] using he
  exact ⟨A, c, xs, this, hl, hC, hk⟩
end Go.Proofs.Ytghhhpcdakdjjaa.Open
