/- ApproveCalls. Condition: the call's kind is a byte. -/
import Derived.Test.YtjeghkeipoccaaaApSK
namespace Go.Ev
set_option linter.all false
theorem few_sz {l : List Ask} (h : few l = true) : Sz 70 20 l := by
  simp only [few, Bool.and_eq_true, decide_eq_true_iff, List.all_eq_true, fewX] at h
  refine ⟨by have := h.1; omega, fun x hx => ?_⟩
  have := h.2 x hx
  exact ⟨by omega, by omega⟩
theorem calls_spec (l : List Ask) (a : Act) (ha : a.ok) : ∃ m, (sem T).call 4 [.sl none 7 (l.map Ask.av), .agg a.av] noMem 0 = some ([.bool true], m) := by
  obtain ⟨m0, haw⟩ := awake_spec
  refine ⟨noMem, call_go rfl rfl rfl ?_⟩
  have h9 := call9 l
  cases hf : few l with
  | false => rw [hf] at h9; simp [F4, haw, h9]
  | true =>
    rw [hf] at h9
    have hz := few_sz hf
    have hc := hz.copy (by omega) (by omega)
    have h11 := call11 [a]
    simp only [List.map_cons, List.map_nil, Act.av] at h11
    cases hs : small [a] with
    | false => rw [hs] at h11; simp [F4, haw, h9, h11]
    | true =>
      rw [hs] at h11
      have hcl : a.chg.length ≤ 70 := by
        simp only [small, smallX, List.all_cons, List.all_nil, Bool.and_eq_true, decide_eq_true_iff] at hs
        have := hs.2.1.1
        omega
      have ho : LenOk l := ⟨by have := hz.1; omega, fun x hx => by have := hz.2 x hx; omega⟩
      have h10 := call10 l ho
      by_cases he : checkE l = 0
      · rw [he] at h10
        obtain ⟨o1, hd⟩ := do_spec l hc a ha noMem 0
        obtain ⟨o2, hm⟩ := model_spec l hc a ha noMem 0
        simp only [Act.av] at hd hm
        have ht := call14 (actE l a).1 ((hz.act a hcl).copy (by omega) (by omega))
        have hg := call15 (actE l a).2.1 (by have := actC hz a; omega)
        simp [F4, haw, h9, h11, h10, hd, hm, ht, hg]
      · simp [F4, haw, h9, h11, h10, he]
end Go.Ev
