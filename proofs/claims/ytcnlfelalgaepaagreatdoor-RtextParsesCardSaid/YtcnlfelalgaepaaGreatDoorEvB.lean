/- The operations one by one: rows that are written out or made, bytes, equality. Condition: none. -/
import Derived.Test.YtcnlfelalgaepaaGreatDoorEvA
namespace Go.Ev
set_option linter.all false
open Go.RowKit
section
variable {w0 w w' : World} {W0 : Base} {W W' : Nat → Own} {φ φ' : Nat → Nat → Option Blk} {s s' : St} {a : Act} {P : Program} {O : Orc} {d : Option Nat} {av : AV} {v : Value} {t : TypeId} {agg : Option Nat}
structure RowsRel (w : World) (φ : Nat → Nat → Option Blk) (W : Nat → Own) (z : Nat) (rows : List (List AV)) (arr : Array Value) : Prop where
 size : arr.size = rows.length * z
 len : ∀ r ∈ rows, r.length = z
 data : ∀ r ∈ rows, ∀ c ∈ r, c.isData = true
 rel : ∀ (i j : Nat) (r : List AV) c, rows[i]? = some r → r[j]? = some c → VRel w φ W c (arr.getD (i * z + j) undef)
def RowParts (parts : List (Nat × X)) (parts' : List (Nat × Operand)) : Prop :=
 parts.length = parts'.length ∧ ∀ (i : Nat) p p', parts[i]? = some p → parts'[i]? = some p' → p'.1 = p.1 ∧ OpdOk p.2 p'.2
theorem mul_add_lt {i j n z : Nat} (hi : i < n) (hj : j < z) : i * z + j < n * z := by
 have : (i + 1) * z ≤ n * z := Nat.mul_le_mul_right _ hi
 rw [Nat.add_mul, Nat.one_mul] at this
 omega
theorem fill_rows (h : Rel w0 W0 s a φ W w) (z : Nat) (hz : 0 < z) : ∀ (parts : List (Nat × X)) (parts' : List (Nat × Operand)) (rows : List (List AV)) (arr : Array Value) (rows' : List (List AV)),
 RowParts parts parts' → RowsRel w φ W z rows arr → fillRows s z rows parts = some rows' →
 ∃ arr', Instr.fill (fun i => some (i * z, z)) arr (parts'.map fun p => (p.1, a.eval p.2)) = some arr' ∧ RowsRel w φ W z rows' arr' ∧ rows'.length = rows.length
 | [], parts', rows, arr, rows', hp, hr, he => by
   obtain rfl : parts' = [] := List.eq_nil_of_length_eq_zero (by simpa using hp.1.symm)
   simp only [fillRows] at he
   injection he with he
   subst he
   exact ⟨arr, rfl, hr, rfl⟩
 | (k, x) :: parts, parts', rows, arr, rows', hp, hr, he => by
   cases parts' with
   | nil => simp [RowParts] at hp
   | cons p' parts' =>
     obtain ⟨k', x'⟩ := p'
     obtain ⟨hk1, hx⟩ := hp.2 0 _ _ rfl rfl
     have hk1 : k' = k := hk1
     subst hk1
     have hx : OpdOk x x' := hx
     have hp2 : RowParts parts parts' := ⟨by simpa using hp.1, fun i p p' h1 h2 => hp.2 (i + 1) p p' (by simpa using h1) (by simpa using h2)⟩
     simp only [fillRows] at he
     split at he
     ·rename_i hc
      obtain ⟨hn, hlt, hda⟩ := hc
      rw [List.length_map] at hn
      have hda' : ∀ c ∈ (s.evX x).cells, c.noOwn1.isData = true := fun c hc => by
       have := List.all_eq_true.1 hda c.noOwn1 (List.mem_map.2 ⟨c, hc, rfl⟩)
       exact this
      have hk : (s.evX x).known = true := by
       cases hq : s.evX x <;> simp_all [AV.cells, AV.known, AV.noOwn1, AV.isData]
      have hv := (h.opd hx).1
      obtain ⟨c1, c2, c3, c4, c5⟩ := hv.cells hk
      have hb : k' * z + (a.eval x').cells.size ≤ arr.size := by
       rw [c1, hr.size, hn]
       have : (k' + 1) * z ≤ rows.length * z := Nat.mul_le_mul_right _ hlt
       rwa [Nat.add_mul, Nat.one_mul] at this
      have hpg := putCells_get arr (k' * z) (a.eval x') hb
      have hr2 : RowsRel w φ W z (rows.set k' ((s.evX x).cells.map AV.noOwn1)) (putCells arr (k' * z) (a.eval x')) := by
       have hmem : ∀ r ∈ rows.set k' ((s.evX x).cells.map AV.noOwn1), r ∈ rows ∨ r = (s.evX x).cells.map AV.noOwn1 := fun r hr => List.mem_or_eq_of_mem_set hr
       refine ⟨by rw [putCells_size, List.length_set]; exact hr.size, fun r hm => ?_, fun r hm c hc => ?_, fun i j r c hi hj => ?_⟩
       ·rcases hmem r hm with hm | rfl
        ·exact hr.len r hm
        ·simpa using hn
       ·rcases hmem r hm with hm | rfl
        ·exact hr.data r hm c hc
        ·obtain ⟨c', hc', rfl⟩ := List.mem_map.1 hc
         exact hda' c' hc'
       ·have hjz : j < z := by
         have hrl : r.length = z := by
          rcases hmem r (List.mem_of_getElem? hi) with hm | rfl
          ·exact hr.len r hm
          ·simpa using hn
         have := (List.getElem?_eq_some_iff.1 hj).1
         omega
        have hgd : ∀ (A : Array Value) q u, A[q]? = some u → A.getD q undef = u := fun A q u hq => by simp [Array.getD_eq_getD_getElem?, hq]
        by_cases hik : k' = i
        ·subst hik
         rw [List.getElem?_set_self hlt] at hi
         injection hi with hi
         subst hi
         rw [List.getElem?_map] at hj
         obtain ⟨c', hc', rfl⟩ := Option.map_eq_some_iff.1 hj
         have hlt' := (List.getElem?_eq_some_iff.1 hc').1
         have hu : (a.eval x').cells[j]? = some ((a.eval x').cells[j]'(by omega)) := Array.getElem?_eq_getElem _
         have e := hpg (k' * z + j)
         rw [if_pos ⟨by omega, by omega⟩, Nat.add_sub_cancel_left, hu] at e
         rw [hgd _ _ _ e]
         exact (c4 j c' _ hc' hu).noOwn1
        ·rw [List.getElem?_set_ne hik] at hi
         have e := hpg (i * z + j)
         have hne : ¬ (k' * z ≤ i * z + j ∧ i * z + j < k' * z + (a.eval x').cells.size) := by
          rintro ⟨q1, q2⟩
          rw [c1, hn] at q2
          rcases Nat.lt_or_gt_of_ne hik with hq | hq
          ·have : (k' + 1) * z ≤ i * z := Nat.mul_le_mul_right _ hq
           rw [Nat.add_mul, Nat.one_mul] at this
           omega
          ·have : (i + 1) * z ≤ k' * z := Nat.mul_le_mul_right _ hq
           rw [Nat.add_mul, Nat.one_mul] at this
           omega
         rw [if_neg hne] at e
         have : (putCells arr (k' * z) (a.eval x')).getD (i * z + j) undef = arr.getD (i * z + j) undef := by simp [Array.getD_eq_getD_getElem?, e]
         rw [this]
         exact hr.rel i j r c hi hj
      obtain ⟨arr', q1, q2, q3⟩ := fill_rows h z hz parts parts' _ _ rows' hp2 hr2 he
      refine ⟨arr', ?_, q2, by rw [q3, List.length_set]⟩
      have p1 : (a.eval x').cells.size = z := by rw [c1, hn]
      have p2 : ¬ (k' * z + z > arr.size) := by omega
      simp only [List.map_cons, Instr.fill, p1, ne_eq, not_true_eq_false, decide_false, Bool.false_or, p2, Bool.false_eq_true, if_false]
      exact q1
     ·cases he
structure ZRow (P : Program) (e : TypeId) (i : TypeInfo) (z : Value) (zero : List AV) : Prop where
 info : P.info? e = some i
 zv : i.zero = some z
 size : z.cells.size = i.size
 pos : 0 < i.size
 len : zero.length = i.size
 data : ∀ c ∈ zero, c.isData = true
 cc : ∀ (j : Nat) c v, zero[j]? = some c → z.cells[j]? = some v → CC c v
theorem ZRow.rows {e : TypeId} {i : TypeInfo} {z : Value} {zero : List AV} (hz : ZRow P e i z zero) (n : Nat) (arr : Array Value) (hs : arr.size = n * i.size) (ha : ∀ k, k < n * i.size → arr.getD k undef = z.cells.getD (k % i.size) undef) :
 RowsRel w φ W i.size (List.replicate n zero) arr := by
 have hrep : ∀ r ∈ List.replicate n zero, r = zero := fun r hr => (List.mem_replicate.1 hr).2
 refine ⟨by simpa using hs, fun r hr => by rw [hrep r hr]; exact hz.len, fun r hr => by rw [hrep r hr]; exact hz.data, fun k j r c hk hj => ?_⟩
 have hkl := (List.getElem?_eq_some_iff.1 hk).1
 rw [List.length_replicate] at hkl
 rw [hrep r (List.mem_of_getElem? hk)] at hj
 have hjl := (List.getElem?_eq_some_iff.1 hj).1
 rw [hz.len] at hjl
 have e1 : (k * i.size + j) % i.size = j := by
  rw [Nat.add_comm, Nat.add_mul_mod_self_right]
  exact Nat.mod_eq_of_lt hjl
 rw [ha _ (mul_add_lt hkl hjl), e1]
 have hu : z.cells[j]? = some (z.cells[j]'(by rw [hz.size]; exact hjl)) := Array.getElem?_eq_getElem _
 have := (hz.cc j c _ hj hu).rel w φ W
 simpa [show j < z.cells.size by rw [hz.size]; exact hjl] using this
theorem getD_made (z : Array Value) (n k : Nat) (hk : k < n) (hz : 0 < z.size) : ((Array.range n).map (z[· % z.size]!)).getD k undef = z.getD (k % z.size) undef := by
 have := Nat.mod_lt k hz
 simp [hk, this]
theorem ok_bslice {o : Oper} {e : TypeId} {i : TypeInfo} {z : Value} {zero : List AV} {n : Nat} {parts : List (Nat × X)} {parts' : Array (Nat × Operand)} (ho : o.op = .buildSlice t n parts') (hu : P.underlying t = some (.slice e)) (hz : ZRow P e i z zero) (hn : n * i.size ≤ 16777216)
 (hp : RowParts parts parts'.toList) (h : Rel w0 W0 s a φ W w) (he : evVal O (.bslice e zero n parts) o.dst s = some (av, s')) : Comes' P w0 W0 s' a o av w := by
 simp only [evVal] at he
 obtain ⟨rows, hf, hr⟩ := Option.map_eq_some_iff.1 he
 injection hr with e1 e2
 subst e1 e2
 rw [hz.len] at hf ⊢
 have hm : (parts'.map fun (p : Nat × Operand) => (p.1, a.eval p.2)).toList = parts'.toList.map fun p => (p.1, a.eval p.2) := by simp
 have key : ∀ (arr : Array Value), arr.size = n * i.size → (∀ k, k < n * i.size → arr.getD k undef = z.cells.getD (k % i.size) undef) →
  ∃ arr', Instr.fill (fun j => some (j * i.size, i.size)) arr (parts'.map fun (p : Nat × Operand) => (p.1, a.eval p.2)).toList = some arr' ∧ RowsRel w φ W i.size rows arr' ∧ rows.length = n := by
  intro arr h1 h2
  obtain ⟨arr', q1, q2, q3⟩ := fill_rows h i.size hz.pos parts parts'.toList _ arr rows hp (hz.rows n arr h1 h2) hf
  exact ⟨arr', by rw [hm]; exact q1, q2, by simpa using q3⟩
 have fin : ∀ arr', RowsRel w φ W i.size rows arr' → rows.length = n → Good w0 W0 s a o.dst (.sl (some e) i.size rows) (w.alloc (.cells arr' e)) (.slice (some ⟨w.heap.size, 0, none⟩) n n) := fun arr' q2 q3 => by
  have hnm : n ≤ maxLen := by
   have : n * 1 ≤ n * i.size := Nat.mul_le_mul_left _ hz.pos
   unfold maxLen
   omega
  have := h.newRow o.dst e i.size rows arr' q2.len hz.pos (by rw [q3]; exact hnm) q2.size q2.data q2.rel
  rwa [q3] at this
 have hn2 : ¬ (n * i.size > 2 ^ 24) := by omega
 by_cases h0 : n * i.size = 0
 ·obtain rfl : n = 0 := by
   rcases Nat.mul_eq_zero.1 h0 with h | h
   ·exact h
   ·have := hz.pos; omega
  obtain ⟨arr', q1, q2, q3⟩ := key #[] (by simp) (fun k hk => by omega)
  refine ⟨_, _, .inl ?_, fin arr' q2 q3⟩
  simp only [execOp, ho, Instr.buildSlice]
  simp only [Sem.run_bind, run_underlying hu, Result.andThen_ok, sizeOf, typeInfo, run_program, hz.info, Sem.run_pure]
  simp [newRow]
  simp at q1
  have hr1 : ((Array.range 0).map fun _ => (default : Value)) = #[] := by simp [Array.range_zero']
  rw [hr1, q1]
  simp
 ·have hs : 0 < z.cells.size := by rw [hz.size]; exact hz.pos
  obtain ⟨arr', q1, q2, q3⟩ := key ((Array.range (n * i.size)).map (z.cells[· % z.cells.size]!)) (by simp) (fun k hk => by rw [getD_made _ _ _ hk hs, hz.size])
  refine ⟨_, _, .inl ?_, fin arr' q2 q3⟩
  simp only [execOp, ho, Instr.buildSlice]
  simp only [Sem.run_bind, run_underlying hu, Result.andThen_ok, sizeOf, typeInfo, run_program, hz.info, Sem.run_pure, hn2, if_false, h0, zeroValue, hz.zv]
  simp only [q1]
  simp [newRow]
theorem ok_mks {o : Oper} {e : TypeId} {i : TypeInfo} {z : Value} {zero : List AV} {x : X} {x' y' : Operand} (ho : o.op = .makeSlice t x' y') (hxy : x' = y') (hu : P.underlying t = some (.slice e)) (hz : ZRow P e i z zero) (hx : OpdOk x x') (h : Rel w0 W0 s a φ W w)
 (he : evVal O (.mks e i.bytes zero x) o.dst s = some (av, s')) (hby : 0 < i.bytes) : Comes' P w0 W0 s' a o av w := by
 simp only [evVal] at he
 have hxv := (h.opd hx).1
 split at he
 ·rename_i k n hxx
  split at he
  ·rename_i hc
   injection he with he
   injection he with e1 e2
   subst e1 e2
   rw [hxx] at hxv
   generalize hve : a.eval x' = xv at hxv
   cases hxv
   subst hxy
   have hn0 := hc.1
   have hm : n.toNat ≤ maxLen := by
    have h1 : n * 1 ≤ n * (i.bytes : Int) := Int.mul_le_mul_of_nonneg_left (by omega) hn0
    unfold maxLen
    omega
   have hbn : (i.bytes : Int) * n ≤ 281474976710656 := by rw [Int.mul_comm]; omega
   have h63 : n ≤ 9223372036854775807 := by unfold maxLen at hm; omega
   have hr := run_make (P := P) w t e i z hu hz.info hz.zv k k n n hn0 (Int.le_refl _) hbn h63
   have hrr : RowsRel w φ W i.size (List.replicate n.toNat zero) (madeCells z.cells (n.toNat * i.size)) :=
    hz.rows n.toNat _ (size_madeCells _ _) (fun q hq => by
     have := getD_made z.cells (n.toNat * i.size) q hq (by rw [hz.size]; exact hz.pos)
     rw [hz.size] at this
     unfold madeCells
     rw [hz.size]
     exact this)
   have hg := h.newRow o.dst e i.size (List.replicate n.toNat zero) (madeCells z.cells (n.toNat * i.size)) hrr.len hz.pos (by simpa using hm) hrr.size hrr.data hrr.rel
   rw [List.length_replicate] at hg
   rw [hz.len]
   refine ⟨_, _, .inl ?_, hg⟩
   simp only [execOp, ho, hve]
   simp [hr]
  ·cases he
 ·cases he
theorem bytesOf_inv : ∀ (rows : List (List AV)) (l : List UInt8), bytesOf rows = some l → ∃ ns : List Int, rows = ns.map (fun n => [AV.int .u8 n]) ∧ l = ns.map fun n => UInt8.ofNat n.toNat
 | [], l, h => by
   simp only [bytesOf] at h
   injection h with h
   exact ⟨[], rfl, h.symm⟩
 | [.int .u8 n] :: r, l, h => by
   simp only [bytesOf, Option.map_eq_some_iff] at h
   obtain ⟨l', h1, rfl⟩ := h
   obtain ⟨ns, rfl, rfl⟩ := bytesOf_inv r l' h1
   exact ⟨n :: ns, rfl, rfl⟩
theorem ok_b2s {o : Oper} {x : X} {x' : Operand} {src dst e : TypeId} {ie : TypeInfo} (ho : o.op = .convert src dst x') (hs : P.underlying src = some (.slice e)) (he8 : P.underlying e = some (.int .u8)) (hd : P.underlying dst = some .string) (hx : OpdOk x x') (h : Rel w0 W0 s a φ W w)
 (he : evVal O (.conv .b2s x) o.dst s = some (av, s')) : Comes' P w0 W0 s' a o av w := by
 simp only [evVal, Option.map_eq_some_iff] at he
 obtain ⟨r, he, hr⟩ := he
 injection hr with e1 e2
 subst e1 e2
 have hxv := (h.opd hx).1
 generalize hxx : s.evX x = xa at he hxv
 replace he : convAV0 .b2s xa = some r := he
 unfold convAV0 at he
 split at he
 ·cases he
 ·cases he
 ·rename_i own z rows
  obtain ⟨l, hl, rfl⟩ := Option.map_eq_some_iff.1 he
  obtain ⟨ns, rfl, rfl⟩ := bytesOf_inv rows l hl
  obtain ⟨A, cap, hve, hr⟩ := hxv.slice_inv
  refine ⟨.string (strOfNums ns), w, .inl ?_, good_pure h ?_ rfl (str_noFlag _)⟩
  ·simp only [execOp, ho, hve]
   rcases hr with hr | ⟨b, off, f, rfl, hn, hcap, hm, hz, hp, hd', hc, hv⟩
   ·obtain rfl : ns = [] := by simpa using hr
    cases A with
    | none =>
      have := run_convert_bytes_nil (P := P) w src e hs he8 0 cap dst hd
      simp [this, strOfNums]
      rfl
    | some ad =>
      have := run_convert_bytes_string (P := P) w src dst e (some ad) 0 cap hs he8 hd
      simp only [List.map_nil, List.length_nil]
      simp only [Sem.run_bind, this]
      simp [Conv.bytesToString, loadCells, loadCellsFrom, strOfNums]
      rfl
   ·have hz1 : z = 1 := by
     obtain ⟨r0, hr0⟩ := List.exists_mem_of_length_pos hn
     obtain ⟨n, _, rfl⟩ := List.mem_map.1 hr0
     exact (hz _ hr0).symm
    subst hz1
    have := run_convert_bytes_arg (P := P) w src e hs he8 b off ns.length cap ns rfl (fun k hk => by
     have h1 := (hc k (by simpa using hk)).2
     have h2 := hv k 0 [.int .u8 (ns.getD k 0)] (.int .u8 (ns.getD k 0)) (by simp [hk]) rfl
     simp only [Nat.mul_one, Nat.add_zero] at h2
     rw [h1]
     generalize f k = u at h2
     cases h2
     rfl) dst hd
    simp only [List.length_map]
    simp [this]
  ·exact .str _
 ·cases he
 ·cases he
theorem ok_s2b {o : Oper} {x : X} {x' : Operand} {src dst e : TypeId} (ho : o.op = .convert src dst x') (hs : P.underlying src = some .string) (hd : P.underlying dst = some (.slice e)) (he8 : P.underlying e = some (.int .u8)) (hx : OpdOk x x') (h : Rel w0 W0 s a φ W w)
 (he : evVal O (.conv (.s2b e) x) o.dst s = some (av, s')) : Comes' P w0 W0 s' a o av w := by
 simp only [evVal] at he
 obtain ⟨r, he2, hr⟩ := Option.map_eq_some_iff.1 he
 clear he
 injection hr with e1 e2
 subst e1 e2
 have he := he2
 clear he2
 have hxv := (h.opd hx).1
 generalize hxx : s.evX x = xa at he hxv
 generalize hve : a.eval x' = xv at hxv
 cases hxv <;> simp only [convAV, convAV0] at he <;> try cases he
 rename_i b
 split at he
 case isFalse => cases he
 rename_i hsz
 injection he with he
 subst he
 have hst : Step w W (Lib.bytesWorld w e b) (upd W w.heap.size .free) none := ⟨⟨rfl, rfl, rfl, by rw [Lib.bytesWorld_size]; omega, fun k hk _ => Lib.bytesWorld_at_old w e b k hk⟩, fun k hk _ => by unfold upd; rw [if_neg (by omega)], fun k hk => (by cases hk), fun k hk => (by cases hk)⟩
 have hr := (h.step hst (fun g hg => by cases hg)).clr o.dst
 have hll : (b.data.toList.map byteRow).length = b.size := by simp
 refine ⟨.slice (some ⟨w.heap.size, 0, none⟩) b.size (grownCap w b.size 0 e), Lib.bytesWorld w e b, .inl ?_, φ, _, hr, fun y hy => .of_noFlag ?_ rfl (sl_noFlag _ _)⟩
 ·simp [execOp, ho, hve, Lib.run_convert_string_bytes w src dst e b hs hd he8]
 ·by_cases h0 : b.size = 0
  ·have : b.data.toList.map byteRow = [] := List.eq_nil_of_length_eq_zero (by omega)
   rw [this, h0]
   exact .slE ..
  ·rw [← hll]
   have hget : ∀ (i : Nat) r, (b.data.toList.map byteRow)[i]? = some r → r = byteRow (b.data.toList.getD i 0) ∧ i < b.size := fun i r hi => by
    have hlt := (List.getElem?_eq_some_iff.1 hi).1
    rw [hll] at hlt
    rw [List.getElem?_map] at hi
    obtain ⟨c, hc, rfl⟩ := Option.map_eq_some_iff.1 hi
    refine ⟨?_, hlt⟩
    rw [List.getD_eq_getElem?_getD, hc]
    rfl
   refine .sl none 1 _ w.heap.size 0 _ (fun k => .int .u8 (b.data.toList.getD k 0).toNat) (by omega) (by rw [hll]; exact grownCap_ge w b.size 0 e) (by rw [hll]; exact grownCap_le_maxLen w b.size 0 e (by unfold maxLen; omega)) (fun r hr => ?_) (by omega) (fun r hr c hc => ?_) (fun k hk => ⟨?_, ?_⟩) (fun i j r c hi hj => ?_)
   ·obtain ⟨c, _, rfl⟩ := List.mem_map.1 hr
    rfl
   ·obtain ⟨d, _, rfl⟩ := List.mem_map.1 hr
    simp [byteRow] at hc
    subst hc
    rfl
   ·unfold stC upd
    simp
   ·rw [Nat.zero_add]
    exact Lib.bytesWorld_cell w e b k (by rw [hll] at hk; omega)
   ·obtain ⟨rfl, hlt⟩ := hget i r hi
    cases j with
    | zero =>
      have hj : some (AV.int .u8 (b.data.toList.getD i 0).toNat) = some c := hj
      injection hj with hj
      subst hj
      simp only [Nat.mul_one, Nat.add_zero]
      exact .int ..
    | succ j => simp [byteRow] at hj
end
end Go.Ev
