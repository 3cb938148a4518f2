/- What the law's helper 'changed' returns: the string with one byte changed by a mask. Condition: the string is no longer than the row lets it be. -/
import Derived.Test.YtghhhpcdakdjjaaMDigestBytesx1
import Derived.Lib.Hide
namespace Go.Proofs.Ytghhhpcdakdjjaa.Chg
open Go.RowKit Go.Proofs.YtghhhpcdakdjjaaW.PrintWords Go.Proofs.YtghhhpcdakdjjaaW.PrintLast Go.Proofs.YtghhhpcdakdjjaaW.PrintMore

/-- The bytes of a string, as numbers. -/
def ints (s : ByteArray) : List Int := s.data.toList.map fun b => (b.toNat : Int)
theorem ints_length (s : ByteArray) : (ints s).length = s.size := by simp [ints]
theorem ints_getD (s : ByteArray) (j : Nat) (h : j < s.size) : (ints s).getD j 0 = ((s.data.toList.getD j 0).toNat : Int) := by
  simp [ints, List.getD_eq_getElem?_getD, h]

/-- What []byte(s) leaves: a new block that holds the bytes, and the old world. -/
theorem bytes_new (s : ByteArray) (w : World) : ∃ W1 cap, (convert 9 35 (.string s)).run Try.prog w = .ok (.slice (some ⟨w.heap.size, 0, none⟩) s.size cap) W1 ∧
    (∀ j, j < s.size → W1.cell? ⟨w.heap.size, j, none⟩ = some (.int .u8 ((ints s).getD j 0))) ∧ (∀ j, j < s.size → W1.frozen? ⟨w.heap.size, j, none⟩ = false) ∧ Below w.heap.size w W1 ∧ W1.heap.size = w.heap.size + 1 := by
  refine ⟨_, _, Lib.run_convert_string_bytes (P := Try.prog) w 9 35 5 s Try.underlying9 Try.underlying35 Try.underlying5, fun j hj => ?_, fun j hj => ?_, ⟨rfl, rfl, rfl, ?_, fun k hk => Lib.bytesWorld_at_old w 5 s k hk⟩, Lib.bytesWorld_size w 5 s⟩
  · rw [ints_getD s j hj]; exact Lib.bytesWorld_cell w 5 s j hj
  · have h := Lib.bytesWorld_at_new w 5 s
    have hs : s.size ≤ (Lib.bytesCells w 5 s).size := by simp [Lib.bytesCells]
    simp only [World.frozen?, h]
    simp
    omega
  · rw [Lib.bytesWorld_size]; omega

set_option maxHeartbeats 400000 in
set_option maxRecDepth 100000 in
theorem changed_more (s : ByteArray) (a b : Int) (w : World) (hs : s.size ≤ 140737488351232) (h0 : 0 < s.size) (a0 : 0 ≤ a) (a1 : a ≤ 65535) :
    Calls Try.prog 23 #[.string s, .int .u16 a, .int .u8 b] w fun e w' =>
      e = .returned (.string (strOfNums ((ints s).set (a % (s.size : Int)).toNat (Go.bits .xor .u8 ((ints s).getD (a % (s.size : Int)).toNat 0) b)))) ∧ Below w.heap.size w w' := by
  obtain ⟨W1, cap, hconv, hcell, hfz, hb, hsz⟩ := bytes_new s w
  have hj0 : 0 ≤ a % (s.size : Int) := Int.emod_nonneg _ (by omega)
  have hj1 : a % (s.size : Int) < (s.size : Int) := Int.emod_lt_of_pos _ (by omega)
  have hj2 : (a % (s.size : Int)).toNat < s.size := by omega
  have hc1 := hcell _ hj2
  obtain ⟨v, hv⟩ : ∃ v, v = (ints s).getD (a % (s.size : Int)).toNat 0 := ⟨_, rfl⟩
  rw [← hv] at hc1 ⊢
  have hf1 := hfz _ hj2
  have HB := Lib.hid (hb.setCell (p := ⟨w.heap.size, (a % (s.size : Int)).toNat, none⟩) (Nat.le_refl _) (.int .u8 (Go.bits .xor .u8 v b)))
  have hback := run_convert_bytes_arg (P := Try.prog) (W1.setCell ⟨w.heap.size, (a % (s.size : Int)).toNat, none⟩ (.int .u8 (Go.bits .xor .u8 v b))) 35 5 Try.underlying35 Try.underlying5 w.heap.size 0 s.size cap
    ((ints s).set (a % (s.size : Int)).toNat (Go.bits .xor .u8 v b)) (by rw [List.length_set, ints_length]) (fun i hi => by
      rw [Nat.zero_add]
      by_cases e : i = (a % (s.size : Int)).toNat
      · subst e
        rw [World.cell?_setCell_same _ _ _ hc1]
        simp [List.getD_eq_getElem?_getD, ints_length, hj2]
      · rw [World.cell?_setCell_other (h := by intro h; injection h with _ h; exact e h.symm), hcell i hi]
        simp [List.getD_eq_getElem?_getD, List.getElem?_set_ne (Ne.symm e)]) 9 Try.underlying9
  have hp0 : decide ((0 : Int) < (s.size : Int)) = true := by simp; omega
  have HV := Lib.hid hv
  clear hcell hfz hb hsz hv
  go_enter Try.func23, Try.ntmps23
  go_wp2
  go_ret
  exact ⟨rfl, HB.out⟩

set_option maxHeartbeats 400000 in
set_option maxRecDepth 100000 in
theorem changed_none (s : ByteArray) (a b : Int) (w : World) (h0 : s.size = 0) :
    Calls Try.prog 23 #[.string s, .int .u16 a, .int .u8 b] w fun e w' => e = .returned (.string s) ∧ Below w.heap.size w w' := by
  obtain ⟨W1, cap, hconv, hcell, hfz, hb, hsz⟩ := bytes_new s w
  have hback := run_convert_bytes_arg (P := Try.prog) W1 35 5 Try.underlying35 Try.underlying5 w.heap.size 0 0 cap [] rfl (fun i hi => by omega) 9 Try.underlying9
  have es : strOfNums [] = s := by
    have : s.data = #[] := by apply Array.eq_empty_of_size_eq_zero; exact h0
    cases s; simp_all [strOfNums]
  rw [es] at hback
  have HB := Lib.hid hb
  rw [h0] at hconv
  have hz := Lib.hid h0
  have h1 : (s.size : Int) ≤ 0 := by omega
  clear hcell hfz hb hsz es h0
  go_enter Try.func23, Try.ntmps23
  go_wp2
  go_ret
  exact ⟨rfl, HB.out⟩

/-- The string with one byte changed. -/
def chg (s : ByteArray) (a b : Int) : ByteArray := if s.size = 0 then s else strOfNums ((ints s).set (a % (s.size : Int)).toNat (Go.bits .xor .u8 ((ints s).getD (a % (s.size : Int)).toNat 0) b))
theorem changed_calls (s : ByteArray) (a b : Int) (w : World) (hs : s.size ≤ 140737488351232) (a0 : 0 ≤ a) (a1 : a ≤ 65535) :
    Calls Try.prog 23 #[.string s, .int .u16 a, .int .u8 b] w fun e w' => e = .returned (.string (chg s a b)) ∧ Below w.heap.size w w' := by
  by_cases h : s.size = 0
  · unfold chg; rw [if_pos h]; exact changed_none s a b w h
  · unfold chg; rw [if_neg h]; exact changed_more s a b w hs (by omega) a0 a1
end Go.Proofs.Ytghhhpcdakdjjaa.Chg
