/- dname.lower: its walk. Condition: the string is not longer than a string may be. -/
import Derived.Test.YtkpfaedepmgflaaGreatDoorRtG
import Derived.WalkKit
import Derived.ProofKit
import Derived.Laws.Externs
namespace Go.Proofs
open Go.RowKit Go.Ev
set_option linter.all false
/-- The row that lower works on, when the bytes before k are done. -/
def LowInv (s : ByteArray) (w : World) (k : Nat) (wr : World) : Prop :=
  Below w.heap.size w wr ∧ ∃ arr : Array Value, wr.heap[w.heap.size]? = some (.cells arr 5 ((Lib.bytesCells w 5 s).size, (Lib.bytesCells w 5 s).size + 1)) ∧ arr.size = (Lib.bytesCells w 5 s).size ∧
    ∀ j (hj : j < s.size), arr[j]? = some (.int .u8 ((if j < k then lowB s[j] else s[j]).toNat : Int))
theorem LowInv.cell {s : ByteArray} {w wr : World} {k : Nat} (h : LowInv s w k wr) (hk : k < s.size) : wr.cell? ⟨w.heap.size, k, none⟩ = some (.int .u8 ((s[k]).toNat : Int)) := by
  obtain ⟨_, arr, h1, h2, h3⟩ := h
  rw [cell_of_row wr _ k arr 5 _ h1, h3 k hk, if_neg (Nat.lt_irrefl k)]
theorem bytesCells_size (w : World) (s : ByteArray) : s.size ≤ (Lib.bytesCells w 5 s).size := by
  unfold Lib.bytesCells
  rw [Array.size_append, Array.size_map]
  exact Nat.le_add_right _ _
theorem LowInv.frozen {s : ByteArray} {w wr : World} {k : Nat} (h : LowInv s w k wr) (hk : k < s.size) : wr.frozen? ⟨w.heap.size, k, none⟩ = false := by
  obtain ⟨_, arr, h1, h2, h3⟩ := h
  have := bytesCells_size w s
  simp only [World.frozen?, h1]
  simp
  omega
theorem LowInv.skip {s : ByteArray} {w wr : World} {k : Nat} (h : LowInv s w k wr) (hk : k < s.size) (hl : lowB s[k] = s[k]) : LowInv s w (k + 1) wr := by
  obtain ⟨h0, arr, h1, h2, h3⟩ := h
  refine ⟨h0, arr, h1, h2, fun j hj => ?_⟩
  rw [h3 j hj]
  by_cases e : j = k
  · subst e; rw [if_neg (Nat.lt_irrefl j), if_pos (Nat.lt_succ_self j), hl]
  · by_cases e2 : j < k
    · rw [if_pos e2, if_pos (by omega)]
    · rw [if_neg e2, if_neg (by omega)]
theorem LowInv.put {s : ByteArray} {w wr : World} {k : Nat} (h : LowInv s w k wr) (hk : k < s.size) : LowInv s w (k + 1) (wr.setCell ⟨w.heap.size, k, none⟩ (.int .u8 ((lowB s[k]).toNat : Int))) := by
  obtain ⟨h0, arr, h1, h2, h3⟩ := h
  have hbc := bytesCells_size w s
  have hlt := (Array.getElem?_eq_some_iff.1 h1).1
  refine ⟨⟨h0.os, h0.tape, h0.output, by simpa [World.setCell] using h0.size, fun j hj => ?_⟩, arr.setIfInBounds k (.int .u8 ((lowB s[k]).toNat : Int)), ?_, by simpa using h2, fun j hj => ?_⟩
  · rw [← h0.block j hj]
    exact Below.heap_setCell wr ⟨w.heap.size, k, none⟩ _ j (by simp; omega)
  · have hw := (Array.getElem?_eq_some_iff.1 h1).2
    simp [World.setCell, hlt, hw, Array.getElem_modify_self]
  · by_cases e : k = j
    · subst e
      rw [if_pos (Nat.lt_succ_self k)]
      simp [show k < arr.size by omega]
    · rw [Array.getElem?_setIfInBounds_ne e, h3 j hj]
      by_cases e2 : j < k
      · rw [if_pos e2, if_pos (by omega)]
      · rw [if_neg e2, if_neg (by omega)]
theorem LowInv.start (s : ByteArray) (w : World) : LowInv s w 0 (Lib.bytesWorld w 5 s) := by
  refine ⟨⟨rfl, rfl, rfl, by rw [Lib.bytesWorld_size]; omega, fun k hk => Lib.bytesWorld_at_old w 5 s k hk⟩, _, Lib.bytesWorld_at_new w 5 s, rfl, fun j hj => ?_⟩
  have := Lib.bytesWorld_cell w 5 s j hj
  rw [cell_of_row _ _ j _ 5 _ (Lib.bytesWorld_at_new w 5 s)] at this
  rw [this, if_neg (Nat.not_lt_zero j)]
  have : s.data.toList.getD j 0 = s[j] := by
    rw [List.getD_eq_getElem?_getD, Array.getElem?_toList, Array.getElem?_eq_getElem (show j < s.data.size from hj)]
    rfl
  rw [this]
theorem lowB_up {b : UInt8} (h1 : (65 : Int) ≤ (b.toNat : Int)) (h2 : (b.toNat : Int) ≤ 90) : ((lowB b).toNat : Int) = (b.toNat : Int) + 32 := by
  unfold lowB
  rw [if_pos (by omega), UInt8.toNat_ofNat']
  omega
theorem lowB_no {b : UInt8} (h : ¬ ((65 : Int) ≤ (b.toNat : Int) ∧ (b.toNat : Int) ≤ 90)) : lowB b = b := by
  unfold lowB
  rw [if_neg (by omega)]
theorem LowInv.string {s : ByteArray} {w wr : World} (h : LowInv s w s.size wr) (cap : Nat) : (convert 53 9 (.slice (some ⟨w.heap.size, 0, none⟩) s.size cap)).run Tryz.prog wr = .ok (.string (lowerB s)) wr := by
  obtain ⟨_, arr, h1, h2, h3⟩ := h
  have := run_convert_bytes_arg (P := Tryz.prog) wr 53 5 Tryz.underlying53 Tryz.underlying5 w.heap.size 0 s.size cap (s.data.toList.map fun b => ((lowB b).toNat : Int)) (by simp) (fun k hk => by
    have hk2 : k < s.size := by simpa using hk
    rw [cell_of_row wr _ _ arr 5 _ h1, Nat.zero_add, h3 k hk2, if_pos hk2]
    have : (s.data.toList.map fun b => ((lowB b).toNat : Int)).getD k 0 = ((lowB s[k]).toNat : Int) := by
      rw [List.getD_eq_getElem?_getD, List.getElem?_map, Array.getElem?_toList, Array.getElem?_eq_getElem (show k < s.data.size from hk2)]
      rfl
    rw [this]) 9 Tryz.underlying9
  rw [this]
  have e : (s.data.toList.map fun b => ((lowB b).toNat : Int)).map (fun n : Int => UInt8.ofNat n.toNat) = s.data.toList.map lowB := by
    rw [List.map_map]
    refine List.map_congr_left fun b _ => ?_
    show UInt8.ofNat (((lowB b).toNat : Int)).toNat = lowB b
    rw [Int.toNat_natCast, UInt8.ofNat_toNat]
  have : strOfNums (s.data.toList.map fun b => ((lowB b).toNat : Int)) = lowerB s := by
    unfold strOfNums lowerB
    rw [e]
  rw [this]
set_option maxRecDepth 100000 in
theorem lower_walk (s : ByteArray) (hs : s.size ≤ 140737488355328) (w : World) :
    Calls Tryz.prog 153 #[.string s] w fun e w' => e = .returned (.string (lowerB s)) ∧ Below w.heap.size w w' := by
  have hcv := Lib.run_convert_string_bytes (P := Tryz.prog) w 9 53 5 s (u := .string) Tryz.underlying9 Tryz.underlying53 Tryz.underlying5
  have H0 : Hid (LowInv s w 0 (Lib.bytesWorld w 5 s)) := LowInv.start s w
  generalize Lib.bytesWorld w 5 s = w1 at hcv H0
  go_enter Tryz.func153, Tryz.ntmps153
  go_wp2
  go_loopw [10] (fun i wr => ∃ k : Nat, k ≤ s.size ∧ i = .int .i64 k ∧ Hid (LowInv s w k wr)) (fun i _ => s.size - (intOf i).toNat)
  case atStart => exact ⟨0, Nat.zero_le _, rfl, H0⟩
  case round =>
    obtain ⟨k, hk, rfl, HI⟩ := hrel
    by_cases hlt : k < s.size
    · have hc := LowInv.cell HI hlt
      have hf := LowInv.frozen HI hlt
      go_wp2
      · have h1 : (65 : Int) ≤ ((s[k]).toNat : Int) := by assumption
        have h2 : ((s[k]).toNat : Int) ≤ 90 := by assumption
        have := LowInv.put HI hlt
        rw [lowB_up h1 h2] at this
        exact ⟨⟨k + 1, by omega, by go_num, this⟩, by simp [intOf]; omega⟩
      · exact ⟨⟨k + 1, by omega, by go_num, LowInv.skip HI hlt (lowB_no (by omega))⟩, by simp [intOf]; omega⟩
      · exact ⟨⟨k + 1, by omega, by go_num, LowInv.skip HI hlt (lowB_no (by omega))⟩, by simp [intOf]; omega⟩
    · obtain rfl : k = s.size := by omega
      have hst := fun cap => LowInv.string HI cap
      go_wp2
      go_ret
      exact ⟨rfl, HI.1⟩
theorem gLower_ok : CallOk Tryz.prog fun f args low lv => if f = 153 then gLower args low lv else none := by
  intro g vs low lv rs low' w φ W cargs he hent
  replace he : (if g = 153 then gLower vs low lv else none) = some (rs, low') := he
  split at he
  · rename_i hg
    subst hg
    refine ⟨⟨Tryz.f153, Tryz.func153, by kernel_rfl, by kernel_rfl⟩, ?_⟩
    unfold gLower at he
    split at he
    · rename_i s
      split at he
      · rename_i hs
        injection he with he
        injection he with e1 e2
        subst e1 e2
        have hsz := hent.len
        have h0 := (hent.arg 0 (.str s) (cargs[0]'(by rw [hsz]; simp)) rfl (Array.getElem?_eq_getElem _)).1
        obtain rfl : cargs = #[.string s] := by
          have h1 : cargs[0]'(by rw [hsz]; simp) = .string s := by
            generalize cargs[0]'(by rw [hsz]; simp) = u at h0
            cases h0; rfl
          apply Array.ext
          · rw [hsz]; rfl
          · intro i hi hi2
            simp at hi2; subst hi2; exact h1
        refine (lower_walk s hs w).mono fun e w' ⟨he, hb⟩ => ?_
        obtain ⟨φ', W', h⟩ := exit_below hent hb (rs := [.str (lowerB s)]) (v := .string (lowerB s)) (fun φ W => .str _) (fun p => rfl) (str_noFlag _)
        exact ⟨_, φ', W', he, h⟩
      · cases he
    · cases he
  · cases he
theorem tab_ok (hA : ClonesOk Tryz.prog annC) : TabOk Tryz.prog T where
  fns := fns_ok hA
  given := by
    intro g vs low lv rs low' w φ W cargs he hent
    have he' : (givens g).bind (fun q => q vs low lv) = some (rs, low') := he
    unfold givens at he'
    split at he'
    · exact gAtoi_ok 33 vs low lv rs low' w φ W cargs he' hent
    · exact gItoa_ok 34 vs low lv rs low' w φ W cargs he' hent
    · exact gJoin_ok 50 vs low lv rs low' w φ W cargs he' hent
    · exact gLower_ok 153 vs low lv rs low' w φ W cargs he' hent
    · cases he'
theorem nats_ok : ClonesOk Tryz.prog annC where
  nats g k h := by
    have h' : (if g = 158 then some N2.cntByte else if g = 167 then some .idxByte else none) = some k := h
    split at h'
    · rename_i hg
      injection h' with h'
      subst hg h'
      intro s c w
      rw [run_callFunc_extern Tryz.func158 (by kernel_rfl) (by kernel_rfl) (by kernel_rfl) (e := Extern.BytealgCount.count) (by kernel_rfl), Lib.run_countString]
      rfl
    · split at h'
      · rename_i hg
        injection h' with h'
        subst hg h'
        intro s c w
        rw [run_callFunc_extern Tryz.func167 (by kernel_rfl) (by kernel_rfl) (by kernel_rfl) (e := Extern.BytealgIndexByte.indexByte) (by kernel_rfl), Lib.run_indexByteString]
        rfl
      · cases h'
  clones g e h := by
    have h' : (none : Option Nat) = some e := h
    cases h'
  dels g e h := by
    have h' : (none : Option Nat) = some e := h
    cases h'
end Go.Proofs
