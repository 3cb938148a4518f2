/- LibM, LibC, joined. Condition: each part's own. -/
import Derived.Test.YtcnlfelalgaepaaGreatDoorLibT
import Derived.Test.YtcnlfelalgaepaaGreatDoorShelf
import Derived.Lib.AppendIntMem
import Derived.WalkKit
import Derived.ProofKit
import Derived.Laws.Externs
/- LibG, LibL, joined. Condition: each part's own. -/
namespace Go.Ev
set_option linter.all false
open Go.RowKit Go.Proofs
theorem BoxOk.step0 {w w' : World} {φ : Nat → Nat → Option Blk} {W W' : Nat → Own} {l sl : Nat} {B : ABox} (h : BoxOk w φ W l sl B) (hs : Step w W w' W' none) : BoxOk w' φ W' l sl B := by
 cases B with
 | iter s p =>
   obtain ⟨b, h1, h2⟩ := h
   exact ⟨b, h1, by rw [hs.grown.block b.1 (Array.getElem?_eq_some_iff.1 h2).1 (by simp)]; exact h2⟩
 | cells t cs =>
   obtain ⟨b, arr, h1, h2, h3, h4, h5, h6, h7⟩ := h
   refine ⟨b, arr, h1, by rw [hs.grown.block b.1 (Array.getElem?_eq_some_iff.1 h2).1 (by simp)]; exact h2, h3, h4, h5, h6, fun j c v hc hv => ⟨hs.vrel (fun _ _ _ h => h) (h7 j c v hc hv).1, fun e sz rows he => ?_⟩⟩
   exact ((h7 j c v hc hv).2 e sz rows he).keep hs.grown (fun _ _ h => by cases h) (fun g hg => hs.own g (((h7 j c v hc hv).2 e sz rows he).lt hg) (by simp))
theorem exit_below {w w' : World} {φ : Nat → Nat → Option Blk} {W : Nat → Own} {lv : Nat} {low : Mem} {vs : List AV} {cargs : Array Value} (hent : EntryOk w φ W lv low vs cargs) (hb : Below w.heap.size w w') {rs : List AV} {v : Value}
 (hv : ∀ φ W, VRel w' φ W (retAV rs) v) (hl : ∀ p, (retAV rs).okP p = true) (hf : (retAV rs).noFlag) : ∃ φ' W', ExitOk w φ W lv low rs v w' φ' W' := by
 have hs : Step w W w' W none := ⟨⟨hb.os, hb.tape, hb.output, hb.size, fun k hk _ => hb.block k hk⟩, fun _ _ _ => rfl, (fun b h => by cases h), (fun b h => by cases h)⟩
 exact ⟨φ, W, hs.fr, hv _ _, hl _, .of_noFlag hf, fun l sl B hl hB => (hent.box l sl B hl hB).step0 hs, hent.phi, hent.phn, fun _ _ _ h => h⟩
theorem ifc_inv {w : World} {φ : Nat → Nat → Option Blk} {W : Nat → Own} {v : Value} (h : VRel w φ W (.ifc true) v) : ∃ te pe, v = .iface te pe := by
 cases h
 exact ⟨_, _, rfl⟩
theorem gAtoi_ok : CallOk Tryz.prog fun f args low lv => if f = 100 then gAtoi args low lv else none := by
 intro g vs low lv rs low' w φ W cargs he hent
 replace he : (if g = 100 then gAtoi vs low lv else none) = some (rs, low') := he
 split at he
 ·rename_i hg
  subst hg
  refine ⟨⟨Tryz.f100, Tryz.func100, by kernel_rfl, by kernel_rfl⟩, ?_⟩
  unfold gAtoi at he
  split at he
  ·rename_i s
   split at he
   ·rename_i hs
    injection he with he
    injection he with e1 e2
    subst e1 e2
    have hsz := hent.len
    have h0 := (hent.arg 0 (.str s) (cargs[0]'(by rw [hsz]; simp)) rfl (Array.getElem?_eq_getElem _)).1
    obtain rfl : cargs = #[.string s] := by
     have h1 : cargs[0]'(by rw [hsz]; simp) = .string s := by
      generalize cargs[0]'(by rw [hsz]; simp) = u at h0
      cases h0; rfl
     apply Array.ext
     ·rw [hsz]; rfl
     ·intro i hi hi2
      simp at hi2; subst hi2; exact h1
    have fin : ∀ (n : Int) (nn : Bool) (u : Value) (w' : World), (∀ φ W, VRel w' φ W (.ifc nn) u) → Below w.heap.size w w' → ∃ φ' W', ExitOk w φ W lv low [.int .i64 n, .ifc nn] (.tuple #[.int .i64 n, u]) w' φ' W' := fun n nn u w' hu hb => by
     refine exit_below hent hb (fun φ W => ?_) (fun p => by simp [retAV, AV.okP, okPs]) ?_
     ·refine .tup _ _ rfl fun i c v hc hv => ?_
      match i with
      | 0 => simp [retAV] at hc hv; subst hc hv; exact .int ..
      | 1 => simp [retAV] at hc hv; subst hc hv; exact hu _ _
      | i + 2 => simp [retAV] at hc
     ·exact tup_noFlag fun c hc => by
       simp only [List.mem_cons, List.not_mem_nil, or_false] at hc
       rcases hc with rfl | rfl <;> exact ⟨rfl, fun _ _ _ h => by cases h⟩
    unfold atoiG
    rcases ha : Lib.atoiAll s.data.toList with v | _ | _
    ·refine (Tryz.strconv_Atoi_ok s (by omega) v ha w).mono fun e w' ⟨he, hw⟩ => ?_
     have hb : Below w.heap.size w w' := by
      rcases hw with rfl | ⟨t, rfl⟩
      ·exact Below.refl _ _
      ·exact ⟨rfl, rfl, rfl, by rw [Lib.bytesWorld_size]; omega, fun k hk => Lib.bytesWorld_at_old w 5 t k hk⟩
     obtain ⟨φ', W', h⟩ := fin v false .nilIface w' (fun _ _ => .ifcN) hb
     exact ⟨_, φ', W', he, h⟩
    ·obtain ⟨ev, hc, _, hv, _⟩ := hent.gl.cell 2 0 (.ifc true) rfl
     refine (Tryz.strconv_Atoi_syntax s hs ha ev w hc (.inr (ifc_inv hv))).mono fun e w' ⟨N, he, _, _, hb⟩ => ?_
     obtain ⟨φ', W', h⟩ := fin 0 true _ w' (fun _ _ => .ifc 153 (.pointer (some ⟨N, 0, none⟩))) hb
     exact ⟨_, φ', W', he, h⟩
    ·obtain ⟨ev, hc, _, hv, _⟩ := hent.gl.cell 3 0 (.ifc true) rfl
     refine (Tryz.strconv_Atoi_range s hs ha ev w hc (.inr (ifc_inv hv))).mono fun e w' ⟨N, he, _, _, hb⟩ => ?_
     obtain ⟨φ', W', h⟩ := fin _ true _ w' (fun _ _ => .ifc 153 (.pointer (some ⟨N, 0, none⟩))) hb
     exact ⟨_, φ', W', he, h⟩
   ·cases he
  ·cases he
 ·cases he
theorem digs_eq : ∀ (k u : Nat), u < 10 ^ k → 0 < k → digs k u = Lib.decDigits u
 | 0, u, _, hk => by omega
 | k + 1, u, h, _ => by
   rw [Lib.decDigits]
   simp only [digs]
   split
   ·rfl
   ·rename_i h10
    have hk : 0 < k := by
     cases k with
     | zero => simp at h; omega
     | succ k => omega
    rw [digs_eq k (u / 10) (by rw [Nat.pow_succ] at h; omega) hk]
theorem itoaB_eq (n : Int) (h0 : -9223372036854775808 ≤ n) (h1 : n ≤ 9223372036854775807) : itoaB n = ⟨(Lib.itoa n).toArray⟩ := by
 unfold itoaB Lib.itoa
 split
 ·rw [digs_eq 20 n.natAbs (by omega) (by omega)]
 ·rw [digs_eq 20 n.toNat (by omega) (by omega)]
theorem pow_tab {w : World} {W : Nat → Own} (h : GlobOk w W) : Lib.TabIs Tryz.prog w "internal/strconv.uint64pow10" .u64 Lib.pow10Tab := by
 have hg : Tryz.prog.globalNamed "internal/strconv.uint64pow10" = some 0 := by kernel_rfl
 obtain ⟨_, cs, t, fz, h1, h2⟩ := h.size 0 20 rfl
 unfold Lib.TabIs World.var?
 rw [hg]
 simp only [Option.bind_some, h1, Option.some.injEq]
 apply Array.ext
 ·rw [h2]; simp [Lib.pow10Tab]
 ·intro i hi hi2
  have hi20 : i < 20 := by omega
  obtain ⟨v, q1, _, q3, _⟩ := h.cell 0 i (.int .u64 (10 ^ i)) (by unfold glob; simp [hi20])
  have : w.cell? ⟨0, i, none⟩ = some cs[i] := by
   rw [cell_of_row w 0 i cs t fz h1]
   exact Array.getElem?_eq_getElem hi
  rw [this] at q1
  injection q1 with q1
  subst q1
  generalize cs[i] = u at q3
  cases q3
  simp [Lib.pow10Tab]
theorem gItoa_ok : CallOk Tryz.prog fun f args low lv => if f = 50 then gItoa args low lv else none := by
 intro g vs low lv rs low' w φ W cargs he hent
 replace he : (if g = 50 then gItoa vs low lv else none) = some (rs, low') := he
 split at he
 ·rename_i hg
  subst hg
  refine ⟨⟨Tryz.f50, Tryz.func50, by kernel_rfl, by kernel_rfl⟩, ?_⟩
  unfold gItoa at he
  split at he
  ·rename_i n
   split at he
   ·rename_i hn
    injection he with he
    injection he with e1 e2
    subst e1 e2
    have hsz := hent.len
    have h0 := (hent.arg 0 (.int .i64 n) (cargs[0]'(by rw [hsz]; simp)) rfl (Array.getElem?_eq_getElem _)).1
    obtain rfl : cargs = #[.int .i64 n] := by
     have h1 : cargs[0]'(by rw [hsz]; simp) = .int .i64 n := by
      generalize cargs[0]'(by rw [hsz]; simp) = u at h0
      cases h0; rfl
     apply Array.ext
     ·rw [hsz]; rfl
     ·intro i hi hi2
      simp at hi2; subst hi2; exact h1
    refine (Tryz.strconv_Itoa n hn.1 hn.2 w (pow_tab hent.gl)).mono fun e w' ⟨he, k, os, hw⟩ => ?_
    subst hw
    obtain ⟨φ', W', h⟩ := exit_below hent (rs := [.str (itoaB n)]) (v := .string ⟨(Lib.itoa n).toArray⟩) (Lib.below_grow w.heap.size w (Nat.le_refl _) k os) (fun φ W => by rw [← itoaB_eq n hn.1 hn.2]; exact .str _) (fun p => rfl) (str_noFlag _)
    exact ⟨_, φ', W', he, h⟩
   ·cases he
  ·cases he
 ·cases he
theorem strsOf_inv : ∀ {rows : List (List AV)} {xs : List ByteArray}, strsOf rows = some xs → rows = xs.map fun s => [AV.str s]
 | [], xs, h => by simp only [strsOf] at h; injection h with h; subst h; rfl
 | [.str s] :: r, xs, h => by
   simp only [strsOf] at h
   obtain ⟨ys, h1, rfl⟩ := Option.map_eq_some_iff.1 h
   rw [strsOf_inv h1]; rfl
theorem gJoin_ok : CallOk Tryz.prog fun f args low lv => if f = 29 then gJoin args low lv else none := by
 intro g vs low lv rs low' w φ W cargs he hent
 replace he : (if g = 29 then gJoin vs low lv else none) = some (rs, low') := he
 split at he
 ·rename_i hg
  subst hg
  refine ⟨⟨Tryz.f29, Tryz.func29, by kernel_rfl, by kernel_rfl⟩, ?_⟩
  unfold gJoin at he
  split at he
  ·rename_i ow rows sep
   split at he
   ·rename_i xs hxs
    split at he
    ·rename_i hn
     injection he with he
     injection he with e1 e2
     subst e1 e2
     have hrows := strsOf_inv hxs
     subst hrows
     have hsz := hent.len
     have h0 := (hent.arg 0 _ (cargs[0]'(by rw [hsz]; simp)) rfl (Array.getElem?_eq_getElem _)).1
     have h1 := (hent.arg 1 (.str sep) (cargs[1]'(by rw [hsz]; simp)) rfl (Array.getElem?_eq_getElem _)).1
     obtain ⟨u, hu⟩ : ∃ u, u = cargs[0]'(by rw [hsz]; simp) := ⟨_, rfl⟩
     obtain rfl : cargs = #[u, .string sep] := by
      have h2 : cargs[1]'(by rw [hsz]; simp) = .string sep := by
       generalize cargs[1]'(by rw [hsz]; simp) = u at h1
       cases h1; rfl
      apply Array.ext
      ·rw [hsz]; rfl
      ·intro i hi hi2
       match i with
       | 0 => exact hu.symm
       | 1 => exact h2
       | i + 2 => exact absurd (show i + 2 < 2 from hi2) (by omega)
     rw [← hu] at h0
     have fin : ∀ w', Below w.heap.size w w' → ∃ φ' W', ExitOk w φ W lv low [.str (joinB xs sep)] (.string ⟨(Lib.join (xs.map (·.data.toList)) sep.data.toList).toArray⟩) w' φ' W' := fun w' hb =>
      exit_below hent hb (fun φ W => .str _) (fun p => rfl) (str_noFlag _)
     obtain ⟨A, cap, hve, hr⟩ := h0.slice_inv
     subst hve
     rcases hr with hr | ⟨b, off, f, rfl, hn', hcap, hm, hz, hp, hd', hc, hv⟩
     ·obtain rfl : xs = [] := by simpa using hr
      refine (Tryz.strings_Join_none A cap sep w).mono fun e w' ⟨he, hw⟩ => ?_
      subst hw
      obtain ⟨φ', W', h⟩ := fin w' (Below.refl _ _)
      exact ⟨_, φ', W', he, h⟩
     ·have hcell : ∀ (j : Nat) x, xs[j]? = some x → w.cell? ⟨b, off + j, none⟩ = some (.string x) := fun j x hx => by
       have hj := (List.getElem?_eq_some_iff.1 hx).1
       have q1 := (hc j (by simpa using hj)).2
       have q2 := hv j 0 [.str x] (.str x) (by simp [hx]) rfl
       simp only [Nat.mul_one, Nat.add_zero] at q2
       rw [q1]
       generalize f j = y at q2
       cases q2; rfl
      have hbk : b < w.heap.size := by
       have hpos : 0 < xs.length := by simpa using hn'
       exact World.block_lt_of_cell? w ⟨b, off + 0, none⟩ (hcell 0 _ (List.getElem?_eq_getElem hpos))
      simp only [List.length_map] at hcap ⊢
      refine (Tryz.strings_Join b off cap xs sep w hcell hbk hn.1 hcap (by have := hn.2; unfold joinB at this; simpa [ByteArray.size] using this)).mono fun e w' ⟨he, hb⟩ => ?_
      obtain ⟨φ', W', h⟩ := fin w' hb
      exact ⟨_, φ', W', he, h⟩
    ·cases he
   ·cases he
  ·cases he
 ·cases he
end Go.Ev
namespace Go.Proofs
open Go.RowKit Go.Ev
set_option linter.all false
def LowInv (s : ByteArray) (w : World) (k : Nat) (wr : World) : Prop :=
 Below w.heap.size w wr ∧ ∃ arr : Array Value, wr.heap[w.heap.size]? = some (.cells arr 5 ((Lib.bytesCells w 5 s).size, (Lib.bytesCells w 5 s).size + 1)) ∧ arr.size = (Lib.bytesCells w 5 s).size ∧
  ∀ j (hj : j < s.size), arr[j]? = some (.int .u8 ((if j < k then lowB s[j] else s[j]).toNat : Int))
theorem LowInv.cell {s : ByteArray} {w wr : World} {k : Nat} (h : LowInv s w k wr) (hk : k < s.size) : wr.cell? ⟨w.heap.size, k, none⟩ = some (.int .u8 ((s[k]).toNat : Int)) := by
 obtain ⟨_, arr, h1, h2, h3⟩ := h
 rw [cell_of_row wr _ k arr 5 _ h1, h3 k hk, if_neg (Nat.lt_irrefl k)]
theorem bytesCells_size (w : World) (s : ByteArray) : s.size ≤ (Lib.bytesCells w 5 s).size := by
 unfold Lib.bytesCells
 rw [Array.size_append, Array.size_map]
 exact Nat.le_add_right _ _
theorem LowInv.frozen {s : ByteArray} {w wr : World} {k : Nat} (h : LowInv s w k wr) (hk : k < s.size) : wr.frozen? ⟨w.heap.size, k, none⟩ = false := by
 obtain ⟨_, arr, h1, h2, h3⟩ := h
 have := bytesCells_size w s
 simp only [World.frozen?, h1]
 simp
 omega
theorem LowInv.skip {s : ByteArray} {w wr : World} {k : Nat} (h : LowInv s w k wr) (hk : k < s.size) (hl : lowB s[k] = s[k]) : LowInv s w (k + 1) wr := by
 obtain ⟨h0, arr, h1, h2, h3⟩ := h
 refine ⟨h0, arr, h1, h2, fun j hj => ?_⟩
 rw [h3 j hj]
 by_cases e : j = k
 ·subst e; rw [if_neg (Nat.lt_irrefl j), if_pos (Nat.lt_succ_self j), hl]
 ·by_cases e2 : j < k
  ·rw [if_pos e2, if_pos (by omega)]
  ·rw [if_neg e2, if_neg (by omega)]
theorem LowInv.put {s : ByteArray} {w wr : World} {k : Nat} (h : LowInv s w k wr) (hk : k < s.size) : LowInv s w (k + 1) (wr.setCell ⟨w.heap.size, k, none⟩ (.int .u8 ((lowB s[k]).toNat : Int))) := by
 obtain ⟨h0, arr, h1, h2, h3⟩ := h
 have hbc := bytesCells_size w s
 have hlt := (Array.getElem?_eq_some_iff.1 h1).1
 refine ⟨⟨h0.os, h0.tape, h0.output, by simpa [World.setCell] using h0.size, fun j hj => ?_⟩, arr.setIfInBounds k (.int .u8 ((lowB s[k]).toNat : Int)), ?_, by simpa using h2, fun j hj => ?_⟩
 ·rw [← h0.block j hj]
  exact Below.heap_setCell wr ⟨w.heap.size, k, none⟩ _ j (by simp; omega)
 ·have hw := (Array.getElem?_eq_some_iff.1 h1).2
  simp [World.setCell, hlt, hw, Array.getElem_modify_self]
 ·by_cases e : k = j
  ·subst e
   rw [if_pos (Nat.lt_succ_self k)]
   simp [show k < arr.size by omega]
  ·rw [Array.getElem?_setIfInBounds_ne e, h3 j hj]
   by_cases e2 : j < k
   ·rw [if_pos e2, if_pos (by omega)]
   ·rw [if_neg e2, if_neg (by omega)]
theorem LowInv.start (s : ByteArray) (w : World) : LowInv s w 0 (Lib.bytesWorld w 5 s) := by
 refine ⟨⟨rfl, rfl, rfl, by rw [Lib.bytesWorld_size]; omega, fun k hk => Lib.bytesWorld_at_old w 5 s k hk⟩, _, Lib.bytesWorld_at_new w 5 s, rfl, fun j hj => ?_⟩
 have := Lib.bytesWorld_cell w 5 s j hj
 rw [cell_of_row _ _ j _ 5 _ (Lib.bytesWorld_at_new w 5 s)] at this
 rw [this, if_neg (Nat.not_lt_zero j)]
 have : s.data.toList.getD j 0 = s[j] := by
  rw [List.getD_eq_getElem?_getD, Array.getElem?_toList, Array.getElem?_eq_getElem (show j < s.data.size from hj)]
  rfl
 rw [this]
theorem lowB_up {b : UInt8} (h1 : (65 : Int) ≤ (b.toNat : Int)) (h2 : (b.toNat : Int) ≤ 90) : ((lowB b).toNat : Int) = (b.toNat : Int) + 32 := by
 unfold lowB
 rw [if_pos (by omega), UInt8.toNat_ofNat']
 omega
theorem lowB_no {b : UInt8} (h : ¬ ((65 : Int) ≤ (b.toNat : Int) ∧ (b.toNat : Int) ≤ 90)) : lowB b = b := by
 unfold lowB
 rw [if_neg (by omega)]
theorem LowInv.string {s : ByteArray} {w wr : World} (h : LowInv s w s.size wr) (cap : Nat) : (convert 78 9 (.slice (some ⟨w.heap.size, 0, none⟩) s.size cap)).run Tryz.prog wr = .ok (.string (lowerB s)) wr := by
 obtain ⟨_, arr, h1, h2, h3⟩ := h
 have := run_convert_bytes_arg (P := Tryz.prog) wr 78 5 Tryz.underlying78 Tryz.underlying5 w.heap.size 0 s.size cap (s.data.toList.map fun b => ((lowB b).toNat : Int)) (by simp) (fun k hk => by
  have hk2 : k < s.size := by simpa using hk
  rw [cell_of_row wr _ _ arr 5 _ h1, Nat.zero_add, h3 k hk2, if_pos hk2]
  have : (s.data.toList.map fun b => ((lowB b).toNat : Int)).getD k 0 = ((lowB s[k]).toNat : Int) := by
   rw [List.getD_eq_getElem?_getD, List.getElem?_map, Array.getElem?_toList, Array.getElem?_eq_getElem (show k < s.data.size from hk2)]
   rfl
  rw [this]) 9 Tryz.underlying9
 rw [this]
 have e : (s.data.toList.map fun b => ((lowB b).toNat : Int)).map (fun n : Int => UInt8.ofNat n.toNat) = s.data.toList.map lowB := by
  rw [List.map_map]
  refine List.map_congr_left fun b _ => ?_
  show UInt8.ofNat (((lowB b).toNat : Int)).toNat = lowB b
  rw [Int.toNat_natCast, UInt8.ofNat_toNat]
 have : strOfNums (s.data.toList.map fun b => ((lowB b).toNat : Int)) = lowerB s := by
  unfold strOfNums lowerB
  rw [e]
 rw [this]
set_option maxRecDepth 100000 in
theorem lower_walk (s : ByteArray) (hs : s.size ≤ 140737488355328) (w : World) :
 Calls Tryz.prog 135 #[.string s] w fun e w' => e = .returned (.string (lowerB s)) ∧ Below w.heap.size w w' := by
 have hcv := Lib.run_convert_string_bytes (P := Tryz.prog) w 9 78 5 s (u := .string) Tryz.underlying9 Tryz.underlying78 Tryz.underlying5
 have H0 : Hid (LowInv s w 0 (Lib.bytesWorld w 5 s)) := LowInv.start s w
 generalize Lib.bytesWorld w 5 s = w1 at hcv H0
 go_enter Tryz.func135, Tryz.ntmps135
 go_wp2
 go_loopw [10] (fun i wr => ∃ k : Nat, k ≤ s.size ∧ i = .int .i64 k ∧ Hid (LowInv s w k wr)) (fun i _ => s.size - (intOf i).toNat)
 case atStart => exact ⟨0, Nat.zero_le _, rfl, H0⟩
 case round =>
  obtain ⟨k, hk, rfl, HI⟩ := hrel
  by_cases hlt : k < s.size
  ·have hc := LowInv.cell HI hlt
   have hf := LowInv.frozen HI hlt
   go_wp2
   ·have h1 : (65 : Int) ≤ ((s[k]).toNat : Int) := by assumption
    have h2 : ((s[k]).toNat : Int) ≤ 90 := by assumption
    have := LowInv.put HI hlt
    rw [lowB_up h1 h2] at this
    exact ⟨⟨k + 1, by omega, by go_num, this⟩, by simp [intOf]; omega⟩
   ·exact ⟨⟨k + 1, by omega, by go_num, LowInv.skip HI hlt (lowB_no (by omega))⟩, by simp [intOf]; omega⟩
   ·exact ⟨⟨k + 1, by omega, by go_num, LowInv.skip HI hlt (lowB_no (by omega))⟩, by simp [intOf]; omega⟩
  ·obtain rfl : k = s.size := by omega
   have hst := fun cap => LowInv.string HI cap
   go_wp2
   go_ret
   exact ⟨rfl, HI.1⟩
theorem gLower_ok : CallOk Tryz.prog fun f args low lv => if f = 135 then gLower args low lv else none := by
 intro g vs low lv rs low' w φ W cargs he hent
 replace he : (if g = 135 then gLower vs low lv else none) = some (rs, low') := he
 split at he
 ·rename_i hg
  subst hg
  refine ⟨⟨Tryz.f135, Tryz.func135, by kernel_rfl, by kernel_rfl⟩, ?_⟩
  unfold gLower at he
  split at he
  ·rename_i s
   split at he
   ·rename_i hs
    injection he with he
    injection he with e1 e2
    subst e1 e2
    have hsz := hent.len
    have h0 := (hent.arg 0 (.str s) (cargs[0]'(by rw [hsz]; simp)) rfl (Array.getElem?_eq_getElem _)).1
    obtain rfl : cargs = #[.string s] := by
     have h1 : cargs[0]'(by rw [hsz]; simp) = .string s := by
      generalize cargs[0]'(by rw [hsz]; simp) = u at h0
      cases h0; rfl
     apply Array.ext
     ·rw [hsz]; rfl
     ·intro i hi hi2
      simp at hi2; subst hi2; exact h1
    refine (lower_walk s hs w).mono fun e w' ⟨he, hb⟩ => ?_
    obtain ⟨φ', W', h⟩ := exit_below hent hb (rs := [.str (lowerB s)]) (v := .string (lowerB s)) (fun φ W => .str _) (fun p => rfl) (str_noFlag _)
    exact ⟨_, φ', W', he, h⟩
   ·cases he
  ·cases he
 ·cases he
end Go.Proofs
/- strings.Cut: what is answered is what it comes to. Condition: none. -/
namespace Go.Ev
set_option linter.all false
open Go.RowKit Go.Proofs
theorem gCut_ok : CallOk Tryz.prog fun f args low lv => if f = 155 then gCut args low lv else none := by
 intro g vs low lv rs low' w φ W cargs he hent
 replace he : (if g = 155 then gCut vs low lv else none) = some (rs, low') := he
 split at he
 ·rename_i hg
  subst hg
  refine ⟨⟨Tryz.f155, Tryz.func155, by kernel_rfl, by kernel_rfl⟩, ?_⟩
  unfold gCut at he
  split at he
  ·rename_i s sep
   split at he
   ·rename_i hs
    injection he with he
    injection he with e1 e2
    subst e1 e2
    have hsz := hent.len
    have h0 := (hent.arg 0 (.str s) (cargs[0]'(by rw [hsz]; simp)) rfl (Array.getElem?_eq_getElem _)).1
    have h1 := (hent.arg 1 (.str sep) (cargs[1]'(by rw [hsz]; simp)) rfl (Array.getElem?_eq_getElem _)).1
    obtain rfl : cargs = #[.string s, .string sep] := by
     have k0 : cargs[0]'(by rw [hsz]; simp) = .string s := by
      generalize cargs[0]'(by rw [hsz]; simp) = u at h0
      cases h0; rfl
     have k1 : cargs[1]'(by rw [hsz]; simp) = .string sep := by
      generalize cargs[1]'(by rw [hsz]; simp) = u at h1
      cases h1; rfl
     apply Array.ext
     ·rw [hsz]; rfl
     ·intro i hi hi2
      match i with
      | 0 => exact k0
      | 1 => exact k1
      | i + 2 => exact absurd hi2 (by show ¬ (i + 2 < 2); omega)
    obtain ⟨m, hm, _⟩ := hent.gl.ints 1 rfl
    refine (Tryz.strings_Cut s sep m w (by omega) hm).mono fun e w' ⟨he, n, hw⟩ => ?_
    subst hw
    obtain ⟨φ', W', h⟩ := exit_below hent (rs := [.str ⟨(Lib.cut s.data.toList sep.data.toList).1.toArray⟩, .str ⟨(Lib.cut s.data.toList sep.data.toList).2.1.toArray⟩, .bool (Lib.cut s.data.toList sep.data.toList).2.2]) (v := .tuple #[.string ⟨(Lib.cut s.data.toList sep.data.toList).1.toArray⟩, .string ⟨(Lib.cut s.data.toList sep.data.toList).2.1.toArray⟩, .bool (Lib.cut s.data.toList sep.data.toList).2.2]) (w' := w.drewN n) ⟨rfl, rfl, rfl, Nat.le_refl _, fun _ _ => rfl⟩ (fun φ W => by
     refine .tup _ _ rfl fun i c v hc hv => ?_
     match i with
     | 0 => simp [retAV] at hc hv; subst hc hv; exact .str ..
     | 1 => simp [retAV] at hc hv; subst hc hv; exact .str ..
     | 2 => simp [retAV] at hc hv; subst hc hv; exact .bool ..
     | i + 3 => simp [retAV] at hc) (fun p => by simp [retAV, AV.okP, okPs]) (tup_noFlag fun c hc => by
       simp only [List.mem_cons, List.not_mem_nil, or_false] at hc
       rcases hc with rfl | rfl | rfl <;> exact ⟨rfl, fun _ _ _ h => by cases h⟩)
    exact ⟨_, φ', W', he, h⟩
   ·cases he
  ·cases he
 ·cases he
end Go.Ev
