/- TabOk, LibK, ShL4, RtKp, joined. Condition: each part's own. -/
import Derived.Test.YtcnlfelalgaepaaGreatDoorLibT
import Derived.Test.YtcnlfelalgaepaaGreatDoorLibN
import Derived.Test.YtcnlfelalgaepaaGreatDoorLdX
import Derived.Test.YtcnlfelalgaepaaGreatDoorEvU
import Derived.Test.YtcnlfelalgaepaaGreatDoorRtB
import Derived.Test.YtcnlfelalgaepaaGreatDoorShL
import Derived.Test.YtcnlfelalgaepaaGreatDoorShT3p
import Derived.Test.YtcnlfelalgaepaaGreatDoorPsX
import Derived.SliceStrings
import Derived.SizedLaws
/- The table holds of the program. Condition: none. -/
namespace Go.Proofs
open Go.RowKit Go.Ev
set_option linter.all false
theorem tab_ok (hA : ClonesOk Tryz.prog annC) : TabOk Tryz.prog T where
 fns := fns_ok hA
 given := by
  intro g vs low lv rs low' w φ W cargs he hent
  have he' : (givens g).bind (fun q => q vs low lv) = some (rs, low') := he
  unfold givens at he'
  split at he'
  ·exact gAtoi_ok 100 vs low lv rs low' w φ W cargs he' hent
  ·exact gItoa_ok 50 vs low lv rs low' w φ W cargs he' hent
  ·exact gJoin_ok 29 vs low lv rs low' w φ W cargs he' hent
  ·exact gLower_ok 135 vs low lv rs low' w φ W cargs he' hent
  ·exact gCut_ok 155 vs low lv rs low' w φ W cargs he' hent
  ·cases he'
theorem nats_ok : ClonesOk Tryz.prog annC where
 nats g k h := by
  have h' : (if g = 141 then some N2.cntByte else if g = 166 then some N2.idxByte else none) = some k := h
  split at h'
  ·rename_i hg
   injection h' with h'
   subst hg h'
   intro s c w
   rw [run_callFunc_extern Tryz.func141 (by kernel_rfl) (by kernel_rfl) (by kernel_rfl) (e := Extern.BytealgCount.count) (by kernel_rfl), Lib.run_countString]
   rfl
  ·skip
   split at h'
   ·rename_i hg
    injection h' with h'
    subst hg h'
    intro s c w
    rw [run_callFunc_extern Tryz.func166 (by kernel_rfl) (by kernel_rfl) (by kernel_rfl) (e := Extern.BytealgIndexByte.indexByte) (by kernel_rfl), Lib.run_indexByteString]
    rfl
   ·cases h'
 clones g e h := by
  have h' : (none : Option Nat) = some e := h
  cases h'
 dels g e h := by
  have h' : (none : Option Nat) = some e := h
  cases h'
end Go.Proofs
/- From the evaluator's answers to the calls: tools. Condition: none. -/
namespace Go.Proofs.YtcnlfelalgaepaaGreatDoor
open Go.Lib Go.Ev Go.RowKit
set_option linter.all false
theorem mixed : Tryz.prog.follows .mixedOrders = true := by kernel_rfl
theorem arg_str {w : World} (l : List UInt8) {s : ByteArray} (h : s = bs l) : ArgOk w (.str (bs l)) (.string s) := by subst h; exact ⟨.str _, rfl, data_noFlag rfl⟩
theorem arg_int {w : World} (k : IntKind) (n : Int) : ArgOk w (.int k n) (.int k n) := ⟨.int _ _, rfl, data_noFlag rfl⟩
theorem tabOk : TabOk Tryz.prog T := Go.Proofs.tab_ok Go.Proofs.nats_ok
end Go.Proofs.YtcnlfelalgaepaaGreatDoor
/- The evaluator's texts answer as the plain functions. Condition: none. -/
namespace Go.Ev
set_option linter.all false
set_option maxRecDepth 10000
set_option maxHeartbeats 8000000
theorem w06_RtextParses_call {N : Nat} {a0 : Int} {a1 : List (List UInt8)} {a2 : List UInt8} {r : Bool} (h : w06_RtextParses N a0 a1 a2 = some r) (m : Mem) (lv : Nat) : (sem T).call 4 [(.int .i64 a0), (.sl none 1 (List.map sRow a1)), (.str (bs a2))] m lv = some (((fun p => ([(.bool p)], m)) : _ → List AV × Mem) r) := by
 revert r
 show Ok _ _
 unfold w06_RtextParses
 repeat' (with_reducible first | (refine Ok.ite (fun hc => ?_) (fun hc => ?_) <;> try subst hc) | (refine Ok.bind (fun _ h => ?_); ((first | have h := r06_Parse_call h | have h := rtext_Parse_call h | have h := w06_awake_call h | skip); try simp only [List.map_nil, List.map_cons, sRow, iRow, bRow, eRow] at h)))
 all_goals (refine Ok.some (call_go rfl rfl rfl ?_); simp [F4, *])
end Go.Ev
/- RtextParses: from the plain law to the calls. Condition: none. -/
namespace Go.Proofs.YtcnlfelalgaepaaGreatDoor
open Go.Lib Go.Ev Go.RowKit Go.ChangeShapes Go.WideShapes
set_option linter.all false
theorem sized1 {H : Type} {P : Program} {ts : List TypeId} {ds : List (DataW H)} (h : (DataW.weightsEach P ts ds).all (· ≤ reachBytes) = true) {t : TypeId} {d : DataW H} (ht : ts[1]? = some t) (hd : ds[1]? = some d) : ∀ n ∈ d.weights P t, n ≤ reachBytes := by
 intro n hn
 have := List.all_eq_true.1 h _ (DataW.weights_mem_each ht hd n hn)
 simpa using this
theorem strs_weight {H : Type} {P : Program} {e : TypeId} : ∀ (l : List ByteArray) (s : ByteArray), s ∈ l → s.size ∈ DataW.weightsAll P e (strs l : List (DataW H))
 | [], s, h => by cases h
 | x :: l, s, h => by
   show s.size ∈ DataW.weights P e (.lit (.string x.data.toList)) ++ DataW.weightsAll P e (strs l)
   rw [List.mem_append]
   rcases List.mem_cons.1 h with rfl | h
   ·left
    show s.size ∈ [s.data.toList.length]
    rw [Array.length_toList]
    exact List.mem_singleton.2 rfl
   ·exact .inr (strs_weight l s h)
theorem sl_len {w : World} {rows : List (List AV)} {a : Option Addr} {len cap : Nat} (h : VRel w noPhi allFree (.sl none 1 rows) (.slice a len cap)) : rows.length = len := by
 cases h <;> rfl
theorem sl_cell {w : World} {rows : List (List AV)} {a : Addr} {len cap : Nat} (h : VRel w noPhi allFree (.sl none 1 rows) (.slice (some a) len cap)) {i : Nat} {s : ByteArray} (hr : rows[i]? = some [.str s]) : w.cell? (a.add i) = some (.string s) := by
 cases h with
 | slE => cases hr
 | sl _ _ _ b o _ f hn hcap hm hz hp hd hc hv =>
   have hi := (List.getElem?_eq_some_iff.1 hr).1
   have h1 := (hc i (by omega)).2
   have h2 := hv i 0 _ _ hr rfl
   rw [Nat.mul_one, Nat.add_zero] at h2
   have e : (⟨b, o, none⟩ : Addr).add i = ⟨b, o + i, none⟩ := by
    unfold Addr.add
    split
    ·rename_i h; subst h; rfl
    ·rfl
   rw [e, h1]
   generalize f i = u at h2
   cases h2
   rfl
theorem tellStr : Tells Tryz.prog 9 (fun a => ∃ s : ByteArray, a = [AV.str s]) :=
 (Tells.string Tryz.underlying9).imp (by
   rintro a ⟨s, rfl, _⟩
   exact ⟨s, rfl⟩)
set_option maxRecDepth 100000 in
theorem open_words {H : Type} {enc : TypeId × Value → H} {w : World} {base b0 : Nat} {spare : Nat → Bool} {held : Bool} {r : Reach} {v : Value} {x : DataW H} {p : List MemPlace}
 (hz : ∀ n ∈ x.weights Tryz.prog 27, n ≤ reachBytes) (hv : Value.okWide Tryz.prog w r b0 27 v) (h : DataW.Trod enc Tryz.prog w base spare held 27 v x p) :
 ∃ ws : List (List UInt8), ws.length ≤ 9000000000000 ∧ (∀ y ∈ ws, y.length ≤ 140737488355328) ∧ ArgOk w (.sl none 1 (ws.map sRow)) v := by
 obtain ⟨rows, hr, ha⟩ := openS (sz := 1) Tryz.underlying27 (by kernel_rfl) (by decide) hv h tellStr
 obtain ⟨l, rfl⟩ := rows_of (f := fun s : ByteArray => [AV.str s]) hr
 obtain ⟨a0, len, cap, rfl⟩ := okWide_slice Tryz.underlying27 hv
 have hlen := sl_len ha.1
 rw [List.length_map] at hlen
 obtain ⟨fuel, hf⟩ := h
 have key : l.length ≤ 9000000000000 ∧ ∀ s ∈ l, s.size ≤ 140737488355328 := by
  rcases open_strings Tryz.underlying27 Tryz.underlying9 (by kernel_rfl) hf with ⟨hcs, _⟩ | ⟨a, len', cap', ss, hcs, _, hl, hm, hss, hx, hcell, _⟩
  ·have hcs' : [Value.slice a0 len cap] = [Value.slice none 0 0] := hcs
   have h0 : l.length = 0 := by
    injection hcs' with hcs' _
    injection hcs' with _ e _
    omega
   have : l = [] := List.length_eq_zero_iff.1 h0
   subst this
   exact ⟨by simp, fun s hs => by cases hs⟩
  ·have hcs' : [Value.slice a0 len cap] = [Value.slice (some a) len' cap'] := hcs
   injection hcs' with hcs' _
   injection hcs' with e1 e2 e3
   subst e1 e2 e3
   injection hx with hx _
   subst hx
   have hle : len ≤ ss.length := by rw [hss]; split <;> omega
   have hw : ∀ n ∈ (((strs (ss.take len) : List (DataW H)).length + (strs (ss.drop len) : List (DataW H)).length) * Tryz.prog.bytesOf 9 :: (DataW.weightsAll Tryz.prog 9 (strs (ss.take len) : List (DataW H)) ++ DataW.weightsAll Tryz.prog 9 (strs (ss.drop len) : List (DataW H)))), n ≤ reachBytes := by
    have e : (DataW.slice (strs (ss.take len)) (strs (ss.drop len)) : DataW H).weights Tryz.prog 27 = (((strs (ss.take len) : List (DataW H)).length + (strs (ss.drop len) : List (DataW H)).length) * Tryz.prog.bytesOf 9 :: (DataW.weightsAll Tryz.prog 9 (strs (ss.take len) : List (DataW H)) ++ DataW.weightsAll Tryz.prog 9 (strs (ss.drop len) : List (DataW H)))) := by
     simp only [DataW.weights, Tryz.underlying27]
    rw [e] at hz
    exact hz
   have hrb : reachBytes = 140737488351232 := rfl
   have hb : Tryz.prog.bytesOf 9 = 16 := by kernel_rfl
   have h1 := hw _ (List.mem_cons_self ..)
   have hsl : (strs (ss.take len) : List (DataW H)).length = len := by
    unfold strs
    rw [List.length_map, List.length_take]
    omega
   rw [hb, hsl, hrb] at h1
   refine ⟨by omega, fun s hs => ?_⟩
   obtain ⟨i, hi⟩ := List.mem_iff_getElem?.1 hs
   have hil := (List.getElem?_eq_some_iff.1 hi).1
   have hc := sl_cell ha.1 (i := i) (s := s) (by rw [List.getElem?_map, hi]; rfl)
   rw [hcell i (by omega)] at hc
   injection hc with hc
   injection hc with hc
   have hm' : s ∈ ss.take len := by
    rw [← hc, List.getD_eq_getElem?_getD, List.getElem?_eq_getElem (by omega)]
    exact List.mem_take_iff_getElem.2 ⟨i, by omega, rfl⟩
   have := hw _ (List.mem_cons_of_mem _ (List.mem_append_left _ (strs_weight (H := H) _ s hm')))
   omega
 refine ⟨l.map (·.data.toList), by rw [List.length_map]; exact key.1, fun y hy => ?_, ?_⟩
 ·obtain ⟨s, hs, rfl⟩ := List.mem_map.1 hy
  rw [Array.length_toList]
  exact key.2 s hs
 ·have e : l.map (fun s : ByteArray => [AV.str s]) = (l.map (·.data.toList)).map sRow := by
   rw [List.map_map]
   exact List.map_congr_left fun s _ => by cases s; rfl
  rw [← e]
  exact ha
theorem len_sum : ∀ (ws : List (List UInt8)), ∀ y ∈ ws, y.length ≤ (ws.map List.length).sum
 | [], y, h => by cases h
 | x :: ws, y, h => by
   rw [List.map_cons, List.sum_cons]
   rcases List.mem_cons.1 h with rfl | h
   ·omega
   ·have := len_sum ws y h
    omega
theorem parses_calls {W : World} (hG : GlobOk W (fun _ => .free)) (t : Int) {ws : List (List UInt8)} (h1 : ws.length ≤ 9000000000000) (h2 : ∀ y ∈ ws, y.length ≤ 140737488355328) {v1 : Value} (ha : ArgOk W (.sl none 1 (ws.map sRow)) v1) (a : ByteArray) (hs : a.size ≤ 140737488351232) : Calls Tryz.prog 4 #[.int .i64 t, v1, .string a] W fun e w' => e = .returned (.bool true) ∧ Below W.heap.size W w' := by
 obtain ⟨l, rfl, hl⟩ := ex_bs a
 have hW : WB (2000 + ws.length + (ws.map List.length).sum) ws := fun y hy => ⟨h2 y hy, by have := len_sum ws y hy; omega⟩
 exact law_calls mixed tabOk (w06_RtextParses_call (parses_pure (2000 + ws.length + (ws.map List.length).sum) (by omega) t ws l hW (by omega) (by omega) h1) noMem 0) rfl hG (args3 (arg_int .i64 t) ha (arg_str l rfl))
end Go.Proofs.YtcnlfelalgaepaaGreatDoor
