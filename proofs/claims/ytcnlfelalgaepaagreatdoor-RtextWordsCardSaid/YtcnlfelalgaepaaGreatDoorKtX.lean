/- TabOk, LibK, ShL3, RtKw, joined. Condition: each part's own. -/
import Derived.Test.YtcnlfelalgaepaaGreatDoorLibT
import Derived.Test.YtcnlfelalgaepaaGreatDoorLibMp
import Derived.Test.YtcnlfelalgaepaaGreatDoorLdX
import Derived.Test.YtcnlfelalgaepaaGreatDoorEvU
import Derived.Test.YtcnlfelalgaepaaGreatDoorRtB
import Derived.Test.YtcnlfelalgaepaaGreatDoorShL
import Derived.Test.YtcnlfelalgaepaaGreatDoorShT2p
import Derived.Test.YtcnlfelalgaepaaGreatDoorWdX
/- The table holds of the program. Condition: none. -/
namespace Go.Proofs
open Go.RowKit Go.Ev
set_option linter.all false
theorem tab_ok (hA : ClonesOk Tryz.prog annC) : TabOk Tryz.prog T where
  fns := fns_ok hA
  given := by
    intro g vs low lv rs low' w φ W cargs he hent
    have he' : (givens g).bind (fun q => q vs low lv) = some (rs, low') := he
    unfold givens at he'
    split at he'
    · exact gAtoi_ok 100 vs low lv rs low' w φ W cargs he' hent
    · exact gItoa_ok 50 vs low lv rs low' w φ W cargs he' hent
    · exact gJoin_ok 29 vs low lv rs low' w φ W cargs he' hent
    · exact gLower_ok 135 vs low lv rs low' w φ W cargs he' hent
    · cases he'
theorem nats_ok : ClonesOk Tryz.prog annC where
  nats g k h := by
    have h' : (if g = 141 then some N2.cntByte else if g = 166 then some N2.idxByte else none) = some k := h
    split at h'
    · rename_i hg
      injection h' with h'
      subst hg h'
      intro s c w
      rw [run_callFunc_extern Tryz.func141 (by kernel_rfl) (by kernel_rfl) (by kernel_rfl) (e := Extern.BytealgCount.count) (by kernel_rfl), Lib.run_countString]
      rfl
    · skip
      split at h'
      · rename_i hg
        injection h' with h'
        subst hg h'
        intro s c w
        rw [run_callFunc_extern Tryz.func166 (by kernel_rfl) (by kernel_rfl) (by kernel_rfl) (e := Extern.BytealgIndexByte.indexByte) (by kernel_rfl), Lib.run_indexByteString]
        rfl
      · cases h'
  clones g e h := by
    have h' : (none : Option Nat) = some e := h
    cases h'
  dels g e h := by
    have h' : (none : Option Nat) = some e := h
    cases h'
end Go.Proofs
/- From the evaluator's answers to the calls: tools. Condition: none. -/
namespace Go.Proofs.YtcnlfelalgaepaaGreatDoor
open Go.Lib Go.Ev Go.RowKit
set_option linter.all false
theorem mixed : Tryz.prog.follows .mixedOrders = true := by kernel_rfl
theorem arg_str {w : World} (l : List UInt8) {s : ByteArray} (h : s = bs l) : ArgOk w (.str (bs l)) (.string s) := by subst h; exact ⟨.str _, rfl, data_noFlag rfl⟩
theorem arg_int {w : World} (k : IntKind) (n : Int) : ArgOk w (.int k n) (.int k n) := ⟨.int _ _, rfl, data_noFlag rfl⟩
theorem tabOk : TabOk Tryz.prog T := Go.Proofs.tab_ok Go.Proofs.nats_ok
end Go.Proofs.YtcnlfelalgaepaaGreatDoor
/- The evaluator's texts answer as the plain functions. Condition: none. -/
namespace Go.Ev
set_option linter.all false
set_option maxRecDepth 10000
set_option maxHeartbeats 8000000
theorem w06_RtextWords_call {N : Nat} {a0 : Int} {a1_0 : Bool} {a1_1 a1_2 : Int} {a1_3 a1_4 a1_5 : List UInt8} {a1_6 a1_7 a1_8 a1_9 a1_10 a1_11 a1_12 : Int} {r : Bool} (h : w06_RtextWords N a0 a1_0 a1_1 a1_2 a1_3 a1_4 a1_5 a1_6 a1_7 a1_8 a1_9 a1_10 a1_11 a1_12 = some r) (m : Mem) (lv : Nat) : (sem T).call 3 [(.int .i64 a0), (.agg [(.bool a1_0), (.int .u64 a1_1), (.int .u64 a1_2), (.str (bs a1_3)), (.str (bs a1_4)), (.str (bs a1_5)), (.int .i64 a1_6), (.int .i64 a1_7), (.int .i64 a1_8), (.int .i64 a1_9), (.int .i64 a1_10), (.int .i64 a1_11), (.int .u64 a1_12)])] m lv = some (((fun p => ([(.bool p)], m)) : _ → List AV × Mem) r) := by
  revert r
  show Ok _ _
  unfold w06_RtextWords
  repeat' (with_reducible first | (refine Ok.ite (fun hc => ?_) (fun hc => ?_) <;> try subst hc) | (refine Ok.bind (fun _ h => ?_); ((first | have h := r06_Print_call h | have h := r06_Words_call h | have h := rtext_Print_call h | have h := rtext_Words_call h | have h := w06_awake_call h | have h := w06_same_call h | skip); try simp only [List.map_nil, List.map_cons, sRow, iRow, bRow, eRow] at h)))
  all_goals (refine Ok.some (call_go rfl rfl rfl ?_); simp [F3, *])
end Go.Ev
/- RtextWords: from the plain law to the calls. Condition: none. -/
namespace Go.Proofs.YtcnlfelalgaepaaGreatDoor
open Go.Lib Go.Ev Go.RowKit Go.ChangeShapes Go.WideShapes
set_option linter.all false
theorem wf_u64 {n : Int} (h : (Lit.int .u64 n).wf = true) : ∃ k : Nat, n = (k : Int) ∧ k ≤ 18446744073709551615 := by
  have h' : (decide (IntKind.u64.min ≤ n) && decide (n ≤ IntKind.u64.max)) = true := h
  rw [Bool.and_eq_true, decide_eq_true_iff, decide_eq_true_iff] at h'
  have h1 : 0 ≤ n := h'.1
  have h2 : n ≤ 18446744073709551615 := h'.2
  exact ⟨n.toNat, by omega, by omega⟩
/-- Data as the evaluator sees them. -/
def dataAv (v : Bool) (h l : Nat) (ho ma tx : List UInt8) (a b c d e f : Int) (bn : Nat) : List AV :=
  [.bool v, .int .u64 (h : Int), .int .u64 (l : Int), .str (bs ho), .str (bs ma), .str (bs tx), .int .i64 a, .int .i64 b, .int .i64 c, .int .i64 d, .int .i64 e, .int .i64 f, .int .u64 (bn : Int)]
def IsData (x : List AV) : Prop := ∃ (v : Bool) (h l : Nat) (ho ma tx : List UInt8) (a b c d e f : Int) (bn : Nat), x = dataAv v h l ho ma tx a b c d e f bn ∧ h ≤ 18446744073709551615 ∧ l ≤ 18446744073709551615 ∧ bn ≤ 18446744073709551615
set_option maxRecDepth 100000 in
theorem tellAddr : Tells Tryz.prog 24 (fun a => ∃ (v : Bool) (h l : Nat), a = [.bool v, .int .u64 (h : Int), .int .u64 (l : Int)] ∧ h ≤ 18446744073709551615 ∧ l ≤ 18446744073709551615) :=
  (Tells.struct (ts := [4, 22, 22]) Tryz.underlying24 (by kernel_rfl) (by kernel_rfl) (by kernel_rfl)
    (TellsL.cons (Tells.bool Tryz.underlying4) (TellsL.cons (Tells.int Tryz.underlying22) (TellsL.cons (Tells.int Tryz.underlying22) TellsL.nil)))).imp (by
      rintro a ⟨_, _, rfl, ⟨b, rfl⟩, _, _, rfl, ⟨x, rfl, hx⟩, _, _, rfl, ⟨y, rfl, hy⟩, rfl⟩
      obtain ⟨h, rfl, h1⟩ := wf_u64 hx
      obtain ⟨l, rfl, h2⟩ := wf_u64 hy
      exact ⟨b, h, l, rfl, h1, h2⟩)
set_option maxRecDepth 100000 in
theorem tellData : Tells Tryz.prog 26 IsData :=
  (Tells.struct (ts := [24, 9, 9, 9, 3, 3, 3, 3, 3, 3, 22]) Tryz.underlying26 (by kernel_rfl) (by kernel_rfl) (by kernel_rfl)
    (TellsL.cons tellAddr (TellsL.cons (Tells.string Tryz.underlying9) (TellsL.cons (Tells.string Tryz.underlying9) (TellsL.cons (Tells.string Tryz.underlying9) (TellsL.cons (Tells.int Tryz.underlying3) (TellsL.cons (Tells.int Tryz.underlying3) (TellsL.cons (Tells.int Tryz.underlying3) (TellsL.cons (Tells.int Tryz.underlying3) (TellsL.cons (Tells.int Tryz.underlying3) (TellsL.cons (Tells.int Tryz.underlying3) (TellsL.cons (Tells.int Tryz.underlying22) TellsL.nil)))))))))))).imp (by
      rintro a ⟨_, _, rfl, ⟨v, h, l, rfl, h1, h2⟩, _, _, rfl, ⟨s1, rfl, _⟩, _, _, rfl, ⟨s2, rfl, _⟩, _, _, rfl, ⟨s3, rfl, _⟩, _, _, rfl, ⟨a, rfl, _⟩, _, _, rfl, ⟨b, rfl, _⟩, _, _, rfl, ⟨c, rfl, _⟩, _, _, rfl, ⟨d, rfl, _⟩, _, _, rfl, ⟨e, rfl, _⟩, _, _, rfl, ⟨f, rfl, _⟩, _, _, rfl, ⟨x, rfl, hx⟩, rfl⟩
      obtain ⟨bn, rfl, h3⟩ := wf_u64 hx
      obtain ⟨ho, rfl, _⟩ := ex_bs s1
      obtain ⟨ma, rfl, _⟩ := ex_bs s2
      obtain ⟨tx, rfl, _⟩ := ex_bs s3
      exact ⟨v, h, l, ho, ma, tx, a, b, c, d, e, f, bn, rfl, h1, h2, h3⟩)
set_option maxRecDepth 100000 in
theorem open_data {H : Type} {enc : TypeId × Value → H} {w : World} {base b0 : Nat} {spare : Nat → Bool} {held : Bool} {r : Reach} {v : Value} {x : DataW H} {p : List MemPlace}
    (hv : Value.okWide Tryz.prog w r b0 26 v) (h : DataW.Trod enc Tryz.prog w base spare held 26 v x p) : ∃ a, IsData a ∧ ArgOk w (.agg a) v :=
  openA Tryz.underlying26 hv h tellData
theorem words_calls {W : World} (hG : GlobOk W (fun _ => .free)) (t : Int) {a : List AV} (ha : IsData a) {v1 : Value} (h1 : ArgOk W (.agg a) v1) : Calls Tryz.prog 3 #[.int .i64 t, v1] W fun e w' => e = .returned (.bool true) ∧ Below W.heap.size W w' := by
  obtain ⟨v, h, l, ho, ma, tx, a, b, c, d, e, f, bn, rfl, hh, hl, hb⟩ := ha
  exact law_calls mixed tabOk (w06_RtextWords_call (words_pure 2000 t v h l ho ma tx a b c d e f bn (by decide) hh hl hb) noMem 0) rfl hG (args2 (arg_int .i64 t) h1)
end Go.Proofs.YtcnlfelalgaepaaGreatDoor
