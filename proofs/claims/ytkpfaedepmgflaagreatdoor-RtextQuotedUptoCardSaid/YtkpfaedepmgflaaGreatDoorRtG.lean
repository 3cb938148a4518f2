/- What is answered for the library's functions is what they come to. Condition: each's own. -/
import Derived.Test.YtkpfaedepmgflaaGreatDoorRtT
import Derived.Test.YtkpfaedepmgflaaGreatDoorShelf
import Derived.Lib.AppendIntMem
namespace Go.Ev
set_option linter.all false
open Go.RowKit Go.Proofs
theorem BoxOk.step0 {w w' : World} {φ : Nat → Nat → Option Blk} {W W' : Nat → Own} {l sl : Nat} {B : ABox} (h : BoxOk w φ W l sl B) (hs : Step w W w' W' none) : BoxOk w' φ W' l sl B := by
  cases B with
  | iter s p =>
    obtain ⟨b, h1, h2⟩ := h
    exact ⟨b, h1, by rw [hs.grown.block b.1 (Array.getElem?_eq_some_iff.1 h2).1 (by simp)]; exact h2⟩
  | cells t cs =>
    obtain ⟨b, arr, h1, h2, h3, h4, h5, h6, h7⟩ := h
    refine ⟨b, arr, h1, by rw [hs.grown.block b.1 (Array.getElem?_eq_some_iff.1 h2).1 (by simp)]; exact h2, h3, h4, h5, h6, fun j c v hc hv => ⟨hs.vrel (fun _ _ _ h => h) (h7 j c v hc hv).1, fun e sz rows he => ?_⟩⟩
    exact ((h7 j c v hc hv).2 e sz rows he).keep hs.grown (fun _ _ h => by cases h) (fun g hg => hs.own g (((h7 j c v hc hv).2 e sz rows he).lt hg) (by simp))
theorem BoxOk.lt {w : World} {φ : Nat → Nat → Option Blk} {W : Nat → Own} {l sl : Nat} {B : ABox} (h : BoxOk w φ W l sl B) {b : Blk} (hb : φ l sl = some b) : b.1 < w.heap.size := by
  cases B with
  | iter s p =>
    obtain ⟨b', h1, h2⟩ := h
    rw [hb] at h1; injection h1 with h1; subst h1
    exact (Array.getElem?_eq_some_iff.1 h2).1
  | cells t cs =>
    obtain ⟨b', arr, h1, h2, _⟩ := h
    rw [hb] at h1; injection h1 with h1; subst h1
    exact (Array.getElem?_eq_some_iff.1 h2).1
/-- A call that only makes new blocks, and answers what holds no address. -/
theorem exit_below {w w' : World} {φ : Nat → Nat → Option Blk} {W : Nat → Own} {lv : Nat} {low : Mem} {vs : List AV} {cargs : Array Value} (hent : EntryOk w φ W lv low vs cargs) (hb : Below w.heap.size w w') {rs : List AV} {v : Value}
    (hv : ∀ φ W, VRel w' φ W (retAV rs) v) (hl : ∀ p, (retAV rs).okP p = true) (hf : (retAV rs).noFlag) : ∃ φ' W', ExitOk w φ W lv low rs v w' φ' W' := by
  have hs : Step w W w' W none := ⟨⟨hb.os, hb.tape, hb.output, hb.size, fun k hk _ => hb.block k hk⟩, fun _ _ _ => rfl, (fun b h => by cases h), (fun b h => by cases h)⟩
  exact ⟨φ, W, hs.fr, hv _ _, hl _, .of_noFlag hf, fun l sl B hl hB => (hent.box l sl B hl hB).step0 hs, hent.phi, hent.phn, fun _ _ _ h => h⟩
theorem ifc_inv {w : World} {φ : Nat → Nat → Option Blk} {W : Nat → Own} {v : Value} (h : VRel w φ W (.ifc true) v) : ∃ te pe, v = .iface te pe := by
  cases h
  exact ⟨_, _, rfl⟩
theorem gAtoi_ok : CallOk Tryz.prog fun f args low lv => if f = 33 then gAtoi args low lv else none := by
  intro g vs low lv rs low' w φ W cargs he hent
  replace he : (if g = 33 then gAtoi vs low lv else none) = some (rs, low') := he
  split at he
  · rename_i hg
    subst hg
    refine ⟨⟨Tryz.f33, Tryz.func33, by kernel_rfl, by kernel_rfl⟩, ?_⟩
    unfold gAtoi at he
    split at he
    · rename_i s
      split at he
      · rename_i hs
        injection he with he
        injection he with e1 e2
        subst e1 e2
        have hsz := hent.len
        have h0 := (hent.arg 0 (.str s) (cargs[0]'(by rw [hsz]; simp)) rfl (Array.getElem?_eq_getElem _)).1
        obtain rfl : cargs = #[.string s] := by
          have h1 : cargs[0]'(by rw [hsz]; simp) = .string s := by
            generalize cargs[0]'(by rw [hsz]; simp) = u at h0
            cases h0; rfl
          apply Array.ext
          · rw [hsz]; rfl
          · intro i hi hi2
            simp at hi2; subst hi2; exact h1
        have fin : ∀ (n : Int) (nn : Bool) (u : Value) (w' : World), (∀ φ W, VRel w' φ W (.ifc nn) u) → Below w.heap.size w w' → ∃ φ' W', ExitOk w φ W lv low [.int .i64 n, .ifc nn] (.tuple #[.int .i64 n, u]) w' φ' W' := fun n nn u w' hu hb => by
          refine exit_below hent hb (fun φ W => ?_) (fun p => by simp [retAV, AV.okP, okPs]) ?_
          · refine .tup _ _ rfl fun i c v hc hv => ?_
            match i with
            | 0 => simp [retAV] at hc hv; subst hc hv; exact .int ..
            | 1 => simp [retAV] at hc hv; subst hc hv; exact hu _ _
            | i + 2 => simp [retAV] at hc
          · exact tup_noFlag fun c hc => by
              simp only [List.mem_cons, List.not_mem_nil, or_false] at hc
              rcases hc with rfl | rfl <;> exact ⟨rfl, fun _ _ _ h => by cases h⟩
        unfold atoiG
        rcases ha : Lib.atoiAll s.data.toList with v | _ | _
        · refine (Tryz.strconv_Atoi_ok s (by omega) v ha w).mono fun e w' ⟨he, hw⟩ => ?_
          have hb : Below w.heap.size w w' := by
            rcases hw with rfl | ⟨t, rfl⟩
            · exact Below.refl _ _
            · exact ⟨rfl, rfl, rfl, by rw [Lib.bytesWorld_size]; omega, fun k hk => Lib.bytesWorld_at_old w 5 t k hk⟩
          obtain ⟨φ', W', h⟩ := fin v false .nilIface w' (fun _ _ => .ifcN) hb
          exact ⟨_, φ', W', he, h⟩
        · obtain ⟨ev, hc, _, hv, _⟩ := hent.gl.cell 0 0 (.ifc true) rfl
          refine (Tryz.strconv_Atoi_syntax s hs ha ev w hc (.inr (ifc_inv hv))).mono fun e w' ⟨N, he, _, _, hb⟩ => ?_
          obtain ⟨φ', W', h⟩ := fin 0 true _ w' (fun _ _ => .ifc 122 (.pointer (some ⟨N, 0, none⟩))) hb
          exact ⟨_, φ', W', he, h⟩
        · obtain ⟨ev, hc, _, hv, _⟩ := hent.gl.cell 1 0 (.ifc true) rfl
          refine (Tryz.strconv_Atoi_range s hs ha ev w hc (.inr (ifc_inv hv))).mono fun e w' ⟨N, he, _, _, hb⟩ => ?_
          obtain ⟨φ', W', h⟩ := fin _ true _ w' (fun _ _ => .ifc 122 (.pointer (some ⟨N, 0, none⟩))) hb
          exact ⟨_, φ', W', he, h⟩
      · cases he
    · cases he
  · cases he
theorem digs_eq : ∀ (k u : Nat), u < 10 ^ k → 0 < k → digs k u = Lib.decDigits u
  | 0, u, _, hk => by omega
  | k + 1, u, h, _ => by
    rw [Lib.decDigits]
    simp only [digs]
    split
    · rfl
    · rename_i h10
      have hk : 0 < k := by
        cases k with
        | zero => simp at h; omega
        | succ k => omega
      rw [digs_eq k (u / 10) (by rw [Nat.pow_succ] at h; omega) hk]
theorem itoaB_eq (n : Int) (h0 : -9223372036854775808 ≤ n) (h1 : n ≤ 9223372036854775807) : itoaB n = ⟨(Lib.itoa n).toArray⟩ := by
  unfold itoaB Lib.itoa
  split
  · rw [digs_eq 20 n.natAbs (by omega) (by omega)]
  · rw [digs_eq 20 n.toNat (by omega) (by omega)]
theorem pow_tab {w : World} {W : Nat → Own} (h : GlobOk w W) : Lib.TabIs Tryz.prog w "internal/strconv.uint64pow10" .u64 Lib.pow10Tab := by
  have hg : Tryz.prog.globalNamed "internal/strconv.uint64pow10" = some 3 := by kernel_rfl
  obtain ⟨_, cs, t, fz, h1, h2⟩ := h.size 3 20 rfl
  unfold Lib.TabIs World.var?
  rw [hg]
  simp only [Option.bind_some, h1, Option.some.injEq]
  apply Array.ext
  · rw [h2]; simp [Lib.pow10Tab]
  · intro i hi hi2
    have hi20 : i < 20 := by omega
    obtain ⟨v, q1, _, q3, _⟩ := h.cell 3 i (.int .u64 (10 ^ i)) (by unfold glob; simp [hi20])
    have : w.cell? ⟨3, i, none⟩ = some cs[i] := by
      rw [cell_of_row w 3 i cs t fz h1]
      exact Array.getElem?_eq_getElem hi
    rw [this] at q1
    injection q1 with q1
    subst q1
    generalize cs[i] = u at q3
    cases q3
    simp [Lib.pow10Tab]
theorem gItoa_ok : CallOk Tryz.prog fun f args low lv => if f = 34 then gItoa args low lv else none := by
  intro g vs low lv rs low' w φ W cargs he hent
  replace he : (if g = 34 then gItoa vs low lv else none) = some (rs, low') := he
  split at he
  · rename_i hg
    subst hg
    refine ⟨⟨Tryz.f34, Tryz.func34, by kernel_rfl, by kernel_rfl⟩, ?_⟩
    unfold gItoa at he
    split at he
    · rename_i n
      split at he
      · rename_i hn
        injection he with he
        injection he with e1 e2
        subst e1 e2
        have hsz := hent.len
        have h0 := (hent.arg 0 (.int .i64 n) (cargs[0]'(by rw [hsz]; simp)) rfl (Array.getElem?_eq_getElem _)).1
        obtain rfl : cargs = #[.int .i64 n] := by
          have h1 : cargs[0]'(by rw [hsz]; simp) = .int .i64 n := by
            generalize cargs[0]'(by rw [hsz]; simp) = u at h0
            cases h0; rfl
          apply Array.ext
          · rw [hsz]; rfl
          · intro i hi hi2
            simp at hi2; subst hi2; exact h1
        refine (Tryz.strconv_Itoa n hn.1 hn.2 w (pow_tab hent.gl)).mono fun e w' ⟨he, k, os, hw⟩ => ?_
        subst hw
        obtain ⟨φ', W', h⟩ := exit_below hent (rs := [.str (itoaB n)]) (v := .string ⟨(Lib.itoa n).toArray⟩) (Lib.below_grow w.heap.size w (Nat.le_refl _) k os) (fun φ W => by rw [← itoaB_eq n hn.1 hn.2]; exact .str _) (fun p => rfl) (str_noFlag _)
        exact ⟨_, φ', W', he, h⟩
      · cases he
    · cases he
  · cases he
theorem strsOf_inv : ∀ {rows : List (List AV)} {xs : List ByteArray}, strsOf rows = some xs → rows = xs.map fun s => [AV.str s]
  | [], xs, h => by simp only [strsOf] at h; injection h with h; subst h; rfl
  | [.str s] :: r, xs, h => by
    simp only [strsOf] at h
    obtain ⟨ys, h1, rfl⟩ := Option.map_eq_some_iff.1 h
    rw [strsOf_inv h1]; rfl
theorem gJoin_ok : CallOk Tryz.prog fun f args low lv => if f = 50 then gJoin args low lv else none := by
  intro g vs low lv rs low' w φ W cargs he hent
  replace he : (if g = 50 then gJoin vs low lv else none) = some (rs, low') := he
  split at he
  · rename_i hg
    subst hg
    refine ⟨⟨Tryz.f50, Tryz.func50, by kernel_rfl, by kernel_rfl⟩, ?_⟩
    unfold gJoin at he
    split at he
    · rename_i ow rows sep
      split at he
      · rename_i xs hxs
        split at he
        · rename_i hn
          injection he with he
          injection he with e1 e2
          subst e1 e2
          have hrows := strsOf_inv hxs
          subst hrows
          have hsz := hent.len
          have h0 := (hent.arg 0 _ (cargs[0]'(by rw [hsz]; simp)) rfl (Array.getElem?_eq_getElem _)).1
          have h1 := (hent.arg 1 (.str sep) (cargs[1]'(by rw [hsz]; simp)) rfl (Array.getElem?_eq_getElem _)).1
          obtain ⟨u, hu⟩ : ∃ u, u = cargs[0]'(by rw [hsz]; simp) := ⟨_, rfl⟩
          obtain rfl : cargs = #[u, .string sep] := by
            have h2 : cargs[1]'(by rw [hsz]; simp) = .string sep := by
              generalize cargs[1]'(by rw [hsz]; simp) = u at h1
              cases h1; rfl
            apply Array.ext
            · rw [hsz]; rfl
            · intro i hi hi2
              match i with
              | 0 => exact hu.symm
              | 1 => exact h2
              | i + 2 => exact absurd (show i + 2 < 2 from hi2) (by omega)
          rw [← hu] at h0
          have fin : ∀ w', Below w.heap.size w w' → ∃ φ' W', ExitOk w φ W lv low [.str (joinB xs sep)] (.string ⟨(Lib.join (xs.map (·.data.toList)) sep.data.toList).toArray⟩) w' φ' W' := fun w' hb =>
            exit_below hent hb (fun φ W => .str _) (fun p => rfl) (str_noFlag _)
          obtain ⟨A, cap, hve, hr⟩ := h0.slice_inv
          subst hve
          rcases hr with hr | ⟨b, off, f, rfl, hn', hcap, hm, hz, hp, hd', hc, hv⟩
          · obtain rfl : xs = [] := by simpa using hr
            refine (Tryz.strings_Join_none A cap sep w).mono fun e w' ⟨he, hw⟩ => ?_
            subst hw
            obtain ⟨φ', W', h⟩ := fin w' (Below.refl _ _)
            exact ⟨_, φ', W', he, h⟩
          · have hcell : ∀ (j : Nat) x, xs[j]? = some x → w.cell? ⟨b, off + j, none⟩ = some (.string x) := fun j x hx => by
              have hj := (List.getElem?_eq_some_iff.1 hx).1
              have q1 := (hc j (by simpa using hj)).2
              have q2 := hv j 0 [.str x] (.str x) (by simp [hx]) rfl
              simp only [Nat.mul_one, Nat.add_zero] at q2
              rw [q1]
              generalize f j = y at q2
              cases q2; rfl
            have hbk : b < w.heap.size := by
              have hpos : 0 < xs.length := by simpa using hn'
              exact World.block_lt_of_cell? w ⟨b, off + 0, none⟩ (hcell 0 _ (List.getElem?_eq_getElem hpos))
            simp only [List.length_map] at hcap ⊢
            refine (Tryz.strings_Join b off cap xs sep w hcell hbk hn.1 hcap (by have := hn.2; unfold joinB at this; simpa [ByteArray.size] using this)).mono fun e w' ⟨he, hb⟩ => ?_
            obtain ⟨φ', W', h⟩ := fin w' hb
            exact ⟨_, φ', W', he, h⟩
        · cases he
      · cases he
    · cases he
  · cases he
end Go.Ev
