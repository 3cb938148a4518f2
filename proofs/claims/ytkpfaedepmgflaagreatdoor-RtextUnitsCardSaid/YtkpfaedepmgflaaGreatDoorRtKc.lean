/- Spans, Units: the calls. Condition: none. -/
import Derived.Test.YtkpfaedepmgflaaGreatDoorRtKa
import Derived.Test.YtkpfaedepmgflaaGreatDoorRtV
namespace Go.Proofs.YtkpfaedepmgflaaGreatDoor
open Go.Lib Go.Ev Go.RowKit
set_option linter.all false
theorem spans_calls {W : World} (hG : GlobOk W (fun _ => .free)) (n : Int) : Calls Tryz.prog 8 #[.int .i64 n] W fun e w' => e = .returned (.bool true) ∧ Below W.heap.size W w' := by
  obtain ⟨m, h⟩ := spans_spec n
  exact law_calls mixed tabOk h rfl hG (args1 (arg_int .i64 n))
theorem args4 {w : World} {c c2 c3 c4 : AV} {v v2 v3 v4 : Value} (h : ArgOk w c v) (h2 : ArgOk w c2 v2) (h3 : ArgOk w c3 v3) (h4 : ArgOk w c4 v4) : ∀ (i : Nat) d u, [c, c2, c3, c4][i]? = some d → #[v, v2, v3, v4][i]? = some u → ArgOk w d u := by
  intro i d u hd hu
  match i with
  | 0 => simp at hd hu; subst hd hu; exact h
  | 1 => simp at hd hu; subst hd hu; exact h2
  | 2 => simp at hd hu; subst hd hu; exact h3
  | 3 => simp at hd hu; subst hd hu; exact h4
  | i + 4 => simp at hd
theorem wf_u32 {n : Int} (h : (Lit.int .u32 n).wf = true) : 0 ≤ n ∧ n ≤ 4294967295 := (Lit.wf_int_iff _ _).1 h
theorem units_calls {W : World} (hG : GlobOk W (fun _ => .free)) (a b i k : Int) (ha : (Lit.int .u32 a).wf = true) (hb : (Lit.int .u32 b).wf = true) (hi : (Lit.int .u8 i).wf = true) (hk : (Lit.int .u8 k).wf = true) :
    Calls Tryz.prog 10 #[.int .u32 a, .int .u32 b, .int .u8 i, .int .u8 k] W fun e w' => e = .returned (.bool true) ∧ Below W.heap.size W w' := by
  obtain ⟨a1, a2⟩ := wf_u32 ha
  obtain ⟨b1, b2⟩ := wf_u32 hb
  obtain ⟨i1, i2⟩ := wf_u8 hi
  obtain ⟨k1, k2⟩ := wf_u8 hk
  obtain ⟨A, rfl⟩ : ∃ A : Nat, a = (A : Int) := ⟨a.toNat, by omega⟩
  obtain ⟨B, rfl⟩ : ∃ B : Nat, b = (B : Int) := ⟨b.toNat, by omega⟩
  obtain ⟨I, rfl⟩ : ∃ I : Nat, i = (I : Int) := ⟨i.toNat, by omega⟩
  obtain ⟨K, rfl⟩ : ∃ K : Nat, k = (K : Int) := ⟨k.toNat, by omega⟩
  obtain ⟨m, h⟩ := units_spec A B I K (by omega) (by omega) (by omega) (by omega)
  exact law_calls mixed tabOk h rfl hG (args4 (arg_int .u32 _) (arg_int .u32 _) (arg_int .u8 _) (arg_int .u8 _))
end Go.Proofs.YtkpfaedepmgflaaGreatDoor
