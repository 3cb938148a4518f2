/- What the call of the law DigestMoved comes to, in each of its cases: true. Conditions: the tags of the string, of the string with zeros behind it, and of the string with two bytes exchanged are one number. -/
import Derived.Test.YtghhhpcdakdjjaaMDigestMovedx1
import Derived.Test.YtghhhpcdakdjjaaChg
import Derived.Deep.QuietTactic
import Derived.BigQuiet
import Derived.RegionTactic
namespace Go.Proofs.Ytghhhpcdakdjjaa.Moved
open Go.RowKit Go.Proofs.Ytghhhpcdakdjjaa.MDigestMoved Go.Proofs.Ytghhhpcdakdjjaa.Chg Go.Proofs.YtghhhpcdakdjjaaW.PrintWords Go.Proofs.YtghhhpcdakdjjaaW.PrintLast Go.Proofs.YtghhhpcdakdjjaaW.PrintMore

/-- Made zeros, and what they are as a string. -/
theorem zeros_new (c : Int) (c0 : 0 ≤ c) (c1 : c ≤ 255) : ∃ O : Obj, (∀ W : World, (Instr.makeSlice 35 (.int .u8 c) (.int .u8 c)).run Try.prog W = .ok (.slice (some ⟨W.heap.size, 0, none⟩) c.toNat c.toNat) (W.alloc O)) ∧
    ∀ W : World, (convert 35 9 (.slice (some ⟨W.heap.size, 0, none⟩) c.toNat c.toNat)).run Try.prog (W.alloc O) = .ok (.string (strOfNums (List.replicate c.toNat 0))) (W.alloc O) := by
  obtain ⟨i0, hi, hzz⟩ := Option.map_eq_some_iff.1 info5
  have hz : i0.zero = some (.int .u8 0) := congrArg (fun p => p.1) hzz
  have hs : i0.size = 1 := congrArg (fun p => p.2.1) hzz
  have hbz : i0.bytes = 1 := congrArg (fun p => p.2.2) hzz
  refine ⟨.cells (madeCells (Value.cells (.int .u8 0)) (c.toNat * i0.size)) 5, fun W => ?_, fun W => ?_⟩
  · exact run_make W 35 5 i0 _ Try.underlying35 hi hz .u8 .u8 c c c0 (Int.le_refl _) (by rw [hbz]; omega) (by omega)
  · refine run_convert_bytes_arg _ 35 5 Try.underlying35 Try.underlying5 W.heap.size 0 c.toNat c.toNat (List.replicate c.toNat 0) (by simp) (fun i h => ?_) 9 Try.underlying9
    rw [Nat.zero_add, hs, Nat.mul_one]
    simp [World.cell?, World.alloc, madeCells, Value.cells, h, List.getD_eq_getElem?_getD, -World.alloc_eq, Nat.mod_one]

theorem set_cells (W : World) (b n : Nat) (L : List Int) (j : Nat) (v : Int) (hl : L.length = n) (hj : j < n) (h : ∀ i, i < n → W.cell? ⟨b, i, none⟩ = some (.int .u8 (L.getD i 0))) :
    ∀ i, i < n → (W.setCell ⟨b, j, none⟩ (.int .u8 v)).cell? ⟨b, i, none⟩ = some (.int .u8 ((L.set j v).getD i 0)) := by
  intro i hi
  by_cases e : i = j
  · subst e
    rw [World.cell?_setCell_same _ _ _ (h i hi)]
    simp [List.getD_eq_getElem?_getD, hl, hj]
  · rw [World.cell?_setCell_other (h := by intro h; injection h with _ h; exact e h.symm), h i hi]
    simp [List.getD_eq_getElem?_getD, List.getElem?_set_ne (Ne.symm e)]

set_option maxHeartbeats 1000000 in
set_option maxRecDepth 100000 in
theorem none_ (s : ByteArray) (i j c n : Int) (k : Nat) (w : World) (hs : s.size ≤ 140737488351232) (h0 : s.size = 0)
    (c0 : 0 ≤ c) (c1 : c ≤ 255) (n0 : decide (n < 0) = false) (n1 : decide (65535 < n) = false)
    (hn : n = 0)
    (f3 : Hid (ddilaw18_awake.f k = some true)) (f1 : Hid (digest_Tag.f k s = some n)) (f2 : Hid (digest_Tag.f k (s ++ strOfNums (List.replicate c.toNat 0)) = some n)) :
    Calls Try.prog 9 #[.string s, .int .u16 i, .int .u16 j, .int .u8 c] w fun e w' => e = .returned (.bool true) ∧ Below w.heap.size w w' := by
  have hp : (((s.size : Nat) : Int) == 0) = true := by rw [beq_iff_eq]; omega
  have hn0 : (n == 0) = true := by rw [beq_iff_eq]; exact hn
  have hs0 := Lib.hid h0
  clear h0
  clear hn
  have hneq : (n != n) = false := by simp
  obtain ⟨O, hmk, hcv⟩ := zeros_new c c0 c1
  have hz : (strOfNums (List.replicate c.toNat 0)).size ≤ 255 := by simp [strOfNums, ByteArray.size]; omega
  generalize strOfNums (List.replicate c.toNat 0) = z at *
  generalize c.toNat = m at *
  go_enter Try.func9, Try.ntmps9
  go_wp2_with fail
  refine (digest_Tag.calls k s n _ f1.out).mono ?_
  rintro e w1 ⟨rfl, b1⟩
  have B1 := Lib.hid b1.below
  clear b1
  go_wp2_with fail
  refine (digest_Tag.calls k (s ++ z) n _ f2.out).mono ?_
  rintro e w2 ⟨rfl, b2⟩
  have B2 := Lib.hid b2.below
  clear b2
  clear hmk hcv
  go_wp2_with fail
  refine (ddilaw18_awake.calls k true _ f3.out).mono ?_
  rintro e w3 ⟨rfl, b3⟩
  have B3 := Lib.hid b3
  clear b3
  go_wp2
  go_ret
  refine ⟨rfl, ?_⟩
  have c1 : Below w.heap.size w (w1.alloc O) := B1.out.alloc B1.out.size O
  have c2 : Below w.heap.size w w2 := below_step c1 B2.out
  exact below_step c2 B3.out

set_option maxHeartbeats 1000000 in
set_option maxRecDepth 100000 in
theorem odd (s : ByteArray) (i j c n : Int) (k : Nat) (w : World) (hs : s.size ≤ 140737488351232) (h0 : 0 < s.size)
    (i0 : 0 ≤ i) (i1 : i ≤ 65535) (j0 : 0 ≤ j) (j1 : j ≤ 65535) (c0 : 0 ≤ c) (c1 : c ≤ 255) (n0 : decide (n < 0) = false) (n1 : decide (65535 < n) = false)
    (par : ((i % (s.size : Int) - j % (s.size : Int)).tmod 2 != 0) = true) (x0 : 0 ≤ i % (s.size : Int)) (x1 : i % (s.size : Int) < (s.size : Int)) (y0 : 0 ≤ j % (s.size : Int)) (y1 : j % (s.size : Int) < (s.size : Int))
    (f3 : Hid (ddilaw18_awake.f k = some true)) (f1 : Hid (digest_Tag.f k s = some n)) (f2 : Hid (digest_Tag.f k (s ++ strOfNums (List.replicate c.toNat 0)) = some n)) :
    Calls Try.prog 9 #[.string s, .int .u16 i, .int .u16 j, .int .u8 c] w fun e w' => e = .returned (.bool true) ∧ Below w.heap.size w w' := by
  have hp : (((s.size : Nat) : Int) == 0) = false := by rw [beq_eq_false_iff_ne]; omega
  have hneq : (n != n) = false := by simp
  obtain ⟨O, hmk, hcv⟩ := zeros_new c c0 c1
  have hz : (strOfNums (List.replicate c.toNat 0)).size ≤ 255 := by simp [strOfNums, ByteArray.size]; omega
  generalize strOfNums (List.replicate c.toNat 0) = z at *
  generalize c.toNat = m at *
  go_enter Try.func9, Try.ntmps9
  go_wp2_with fail
  refine (digest_Tag.calls k s n _ f1.out).mono ?_
  rintro e w1 ⟨rfl, b1⟩
  have B1 := Lib.hid b1.below
  clear b1
  go_wp2_with fail
  refine (digest_Tag.calls k (s ++ z) n _ f2.out).mono ?_
  rintro e w2 ⟨rfl, b2⟩
  have B2 := Lib.hid b2.below
  clear b2
  obtain ⟨W1, cap, hconv, hcell, hfz, hb, hsz⟩ := bytes_new s w2
  have HB := Lib.hid hb
  have HS := Lib.hid hsz
  have HC := Lib.hid hcell
  have HF := Lib.hid hfz
  clear hb hsz hcell hfz hmk hcv
  go_wp2_with fail
  go_quiet (fail)
  go_wp2_with fail
  refine (ddilaw18_awake.calls k true _ f3.out).mono ?_
  rintro e w3 ⟨rfl, b3⟩
  have B3 := Lib.hid b3
  clear b3
  go_wp2
  go_ret
  refine ⟨rfl, ?_⟩
  have c1 : Below w.heap.size w (w1.alloc O) := B1.out.alloc B1.out.size O
  have c2 : Below w.heap.size w w2 := below_step c1 B2.out
  have c3 : Below w.heap.size w (W1.drewN nq) := pw_below_drewN (below_step c2 HB.out) nq
  exact below_step c3 B3.out
set_option maxHeartbeats 1000000 in
set_option maxRecDepth 100000 in
theorem even (s : ByteArray) (i j c n : Int) (k : Nat) (w : World) (hs : s.size ≤ 140737488351232) (h0 : 0 < s.size)
    (i0 : 0 ≤ i) (i1 : i ≤ 65535) (j0 : 0 ≤ j) (j1 : j ≤ 65535) (c0 : 0 ≤ c) (c1 : c ≤ 255) (n0 : decide (n < 0) = false) (n1 : decide (65535 < n) = false)
    (par : ((i % (s.size : Int) - j % (s.size : Int)).tmod 2 != 0) = false) (x0 : 0 ≤ i % (s.size : Int)) (x1 : i % (s.size : Int) < (s.size : Int)) (y0 : 0 ≤ j % (s.size : Int)) (y1 : j % (s.size : Int) < (s.size : Int))
    (f4 : Hid (digest_Tag.f k (strOfNums (((ints s).set (i % (s.size : Int)).toNat ((ints s).getD (j % (s.size : Int)).toNat 0)).set (j % (s.size : Int)).toNat ((ints s).getD (i % (s.size : Int)).toNat 0))) = some n))
    (f3 : Hid (ddilaw18_awake.f k = some true)) (f1 : Hid (digest_Tag.f k s = some n)) (f2 : Hid (digest_Tag.f k (s ++ strOfNums (List.replicate c.toNat 0)) = some n)) :
    Calls Try.prog 9 #[.string s, .int .u16 i, .int .u16 j, .int .u8 c] w fun e w' => e = .returned (.bool true) ∧ Below w.heap.size w w' := by
  have hp : (((s.size : Nat) : Int) == 0) = false := by rw [beq_eq_false_iff_ne]; omega
  have hneq : (n != n) = false := by simp
  obtain ⟨O, hmk, hcv⟩ := zeros_new c c0 c1
  have hz : (strOfNums (List.replicate c.toNat 0)).size ≤ 255 := by simp [strOfNums, ByteArray.size]; omega
  generalize strOfNums (List.replicate c.toNat 0) = z at *
  generalize c.toNat = m at *
  go_enter Try.func9, Try.ntmps9
  go_wp2_with fail
  refine (digest_Tag.calls k s n _ f1.out).mono ?_
  rintro e w1 ⟨rfl, b1⟩
  have B1 := Lib.hid b1.below
  clear b1
  go_wp2_with fail
  refine (digest_Tag.calls k (s ++ z) n _ f2.out).mono ?_
  rintro e w2 ⟨rfl, b2⟩
  have B2 := Lib.hid b2.below
  clear b2
  obtain ⟨W1, cap, hconv, hcell, hfz, hb, hsz⟩ := bytes_new s w2
  have HB := Lib.hid hb
  have HS := Lib.hid hsz
  have HC := Lib.hid hcell
  have HF := Lib.hid hfz
  clear hb hsz hcell hfz hmk hcv
  go_wp2_with fail
  go_quiet (fail)
  go_wp2_with fail
  have hcx := HC.out (i % (s.size : Int)).toNat (by omega)
  have hcy := HC.out (j % (s.size : Int)).toNat (by omega)
  have hfx := HF.out (i % (s.size : Int)).toNat (by omega)
  have hfy := HF.out (j % (s.size : Int)).toNat (by omega)
  generalize i % (s.size : Int) = x at *
  generalize j % (s.size : Int) = y at *
  obtain ⟨vx, hvx⟩ : ∃ v, v = (ints s).getD x.toNat 0 := ⟨_, rfl⟩
  obtain ⟨vy, hvy⟩ : ∃ v, v = (ints s).getD y.toNat 0 := ⟨_, rfl⟩
  have f5 := f4.out
  have hcells := HC.out
  rw [← hvx, ← hvy] at f5
  rw [← hvx] at hcx
  rw [← hvy] at hcy
  have s1 := set_cells (W1.drewN (nq + 1)) w2.heap.size s.size (ints s) x.toNat vy (ints_length s) (by omega) hcells
  have s2 := set_cells _ w2.heap.size s.size _ y.toNat vx (by rw [List.length_set, ints_length]) (by omega) s1
  have hst := s1 y.toNat (by omega)
  have hback := run_convert_bytes_arg (P := Try.prog) (((W1.drewN (nq + 1)).setCell ⟨w2.heap.size, x.toNat, none⟩ (.int .u8 vy)).setCell ⟨w2.heap.size, y.toNat, none⟩ (.int .u8 vx)) 35 5 Try.underlying35 Try.underlying5 w2.heap.size 0 s.size cap (((ints s).set x.toNat vy).set y.toNat vx) (by rw [List.length_set, List.length_set, ints_length]) (fun i hi => by rw [Nat.zero_add]; exact s2 i hi) 9 Try.underlying9
  have F5 := Lib.hid f5
  have HX := Lib.hid hvx
  have HY := Lib.hid hvy
  clear hcells f5 hvx hvy s1 s2
  generalize ((ints s).set x.toNat vy).getD y.toNat 0 = vo at *
  generalize strOfNums (((ints s).set x.toNat vy).set y.toNat vx) = sz at *
  go_region
  go_wp2_with fail
  refine (digest_Tag.calls k sz n _ F5.out).mono ?_
  rintro e w3 ⟨rfl, b3⟩
  have B3 := Lib.hid b3.below
  clear b3
  go_wp2_with fail
  refine (ddilaw18_awake.calls k true _ f3.out).mono ?_
  rintro e w4 ⟨rfl, b4⟩
  have B4 := Lib.hid b4
  clear b4
  go_wp2
  go_ret
  refine ⟨rfl, ?_⟩
  have c1 : Below w.heap.size w (w1.alloc O) := B1.out.alloc B1.out.size O
  have c2 : Below w.heap.size w w2 := below_step c1 B2.out
  have c3 : Below w.heap.size w (W1.drewN (nq + 1)) := pw_below_drewN (below_step c2 HB.out) (nq + 1)
  exact below_step (below_step ((c3.setCell (p := ⟨w2.heap.size, x.toNat, none⟩) c2.size _).setCell (p := ⟨w2.heap.size, y.toNat, none⟩) c2.size _) B3.out) B4.out
end Go.Proofs.Ytghhhpcdakdjjaa.Moved
