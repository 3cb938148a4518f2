/- The operations one by one: parts of strings, structs and slices. Condition: none. -/
import Derived.Test.YtcnlfelalgaepaaGreatDoorEv4
import Derived.Lib.ConvBytes
import Derived.Lib.LazyBuf
namespace Go.Ev
set_option linter.all false
open Go.RowKit
section
variable {w0 w w' : World} {W0 : Base} {W W' : Nat → Own} {φ φ' : Nat → Nat → Option Blk} {s s' : St} {a : Act} {P : Program} {O : Orc} {d : Option Nat} {av : AV} {v : Value}
theorem VRel.slice_inv {own : Option TypeId} {z : Nat} {rows : List (List AV)} (h : VRel w φ W (.sl own z rows) v) :
 ∃ A cap, v = .slice A rows.length cap ∧ (rows = [] ∨ (∃ (b o : Nat) (f : Nat → Value), A = some ⟨b, o, none⟩ ∧ 0 < rows.length ∧ rows.length ≤ cap ∧ cap ≤ maxLen ∧ (∀ r ∈ rows, r.length = z) ∧ 0 < z ∧ (∀ r ∈ rows, ∀ c ∈ r, c.isData = true) ∧
  (∀ k, k < rows.length * z → stC W b (o + k) ∧ w.cell? ⟨b, o + k, none⟩ = some (f k)) ∧ ∀ (i j : Nat) (r : List AV) c, rows[i]? = some r → r[j]? = some c → VRel w φ W c (f (i * z + j)))) := by
 cases h with
 | slE _ _ A cap => exact ⟨A, cap, rfl, .inl rfl⟩
 | sl _ _ _ b o cap f hn hcap hm hz hp hd hc hv => exact ⟨_, cap, rfl, .inr ⟨b, o, f, rfl, hn, hcap, hm, hz, hp, hd, hc, hv⟩⟩
theorem ok_len {o : Oper} {x : X} {x' : Operand} {t e : TypeId} (ho : o.op = .call { callee := .builtin .len, args := #[x'], argTypes := #[t] }) (ht : P.underlying t = some (.slice e)) (hx : OpdOk x x')
 (h : Rel w0 W0 s a φ W w) (he : evVal O (.len x) o.dst s = some (av, s')) : Comes' P w0 W0 s' a o av w := by
 simp only [evVal] at he
 have hxv := (h.opd hx).1
 split at he
 ·rename_i own z rows hxx
  injection he with he
  injection he with e1 e2
  subst e1 e2
  rw [hxx] at hxv
  obtain ⟨A, cap, hve, _⟩ := hxv.slice_inv
  refine ⟨.int .i64 rows.length, w, .inl ?_, good_pure h (.int ..) rfl (int_noFlag _ _)⟩
  simp [execOp, ho, resolve, invoke, builtin, Builtin.len_, run_underlying ht, hve, goInt]
 ·rename_i l sl o' m z hxx
  injection he with he
  injection he with e1 e2
  subst e1 e2
  rw [hxx] at hxv
  generalize hve : a.eval x' = xv at hxv
  cases hxv
  refine ⟨.int .i64 m, w, .inl ?_, good_pure h (.int ..) rfl (int_noFlag _ _)⟩
  simp [execOp, ho, resolve, invoke, builtin, Builtin.len_, run_underlying ht, hve, goInt]
 ·rename_i l sl o' m z hxx
  injection he with he
  injection he with e1 e2
  subst e1 e2
  rw [hxx] at hxv
  generalize hve : a.eval x' = xv at hxv
  cases hxv
  refine ⟨.int .i64 m, w, .inl ?_, good_pure h (.int ..) rfl (int_noFlag _ _)⟩
  simp [execOp, ho, resolve, invoke, builtin, Builtin.len_, run_underlying ht, hve, goInt]
 ·cases he
theorem ok_lenS {o : Oper} {x : X} {x' : Operand} {t : TypeId} (ho : o.op = .call { callee := .builtin .len, args := #[x'], argTypes := #[t] }) (ht : P.underlying t = some .string) (hx : OpdOk x x')
 (h : Rel w0 W0 s a φ W w) (he : evVal O (.lenS x) o.dst s = some (av, s')) : Comes' P w0 W0 s' a o av w := by
 simp only [evVal] at he
 have hxv := (h.opd hx).1
 split at he
 ·rename_i b hxx
  injection he with he
  injection he with e1 e2
  subst e1 e2
  rw [hxx] at hxv
  generalize hve : a.eval x' = xv at hxv
  cases hxv
  refine ⟨.int .i64 b.size, w, .inl ?_, good_pure h (.int ..) rfl (int_noFlag _ _)⟩
  simp [execOp, ho, resolve, invoke, builtin, Builtin.len_, run_underlying ht, hve, goInt]
 ·cases he
theorem ok_idxS {o : Oper} {x i : X} {x' i' : Operand} {t : TypeId} (ho : o.op = .index t x' i') (ht : P.underlying t = some .string) (hx : OpdOk x x') (hi : OpdOk i i')
 (h : Rel w0 W0 s a φ W w) (he : evVal O (.idxS x i) o.dst s = some (av, s')) : Comes' P w0 W0 s' a o av w := by
 simp only [evVal] at he
 have hxv := (h.opd hx).1
 have hiv := (h.opd hi).1
 split at he
 ·rename_i b k n hxx hii
  split at he
  ·rename_i hn
   obtain ⟨c, hc, hr⟩ := Option.map_eq_some_iff.1 he
   injection hr with e1 e2
   subst e1 e2
   rw [hxx] at hxv
   rw [hii] at hiv
   generalize hve : a.eval x' = xv at hxv
   generalize hie : a.eval i' = iv at hiv
   cases hxv
   cases hiv
   refine ⟨.int .u8 c.toNat, w, .inl ?_, good_pure h (.int ..) rfl (int_noFlag _ _)⟩
   simp [execOp, ho, Instr.index, asIntOf, run_underlying ht, hve, hie, hn, hc]
  ·cases he
 ·cases he
def OptOk (x : Option X) (o : Option Operand) : Prop :=
 match x, o with
 | none, none => True
 | some x, some o => OpdOk x o
 | _, _ => False
theorem bound_inv (h : Rel w0 W0 s a φ W w) {lo : Option X} {lo' : Option Operand} (hl : OptOk lo lo') {d : Nat} {l : Int} (he : bound (lo.map s.evX) d = some l) :
 (lo' = none ∧ l = d) ∨ ∃ k, lo'.map a.eval = some (.int k l) ∧ ∃ o, lo' = some o := by
 cases lo with
 | none =>
   cases lo' with
   | none =>
     left
     simp [bound] at he
     exact ⟨rfl, he.symm⟩
   | some o => exact hl.elim
 | some x =>
   cases lo' with
   | none => exact hl.elim
   | some o =>
     right
     have hv := (h.opd (x := x) (o := o) hl).1
     simp only [Option.map_some] at he ⊢
     generalize hxx : s.evX x = xa at he hv
     generalize hoo : a.eval o = oa at hv
     unfold bound at he
     split at he
     ·rename_i e; cases e
     ·rename_i k n e
      injection e with e
      subst e
      injection he with he
      subst he
      cases hv
      exact ⟨k, rfl, o, rfl⟩
     ·cases he
theorem run_bounds {isSl : Bool} {len cap : Nat} {lo' hi' : Option Operand} {l h : Int} (hl : (lo' = none ∧ l = 0) ∨ ∃ k, lo'.map a.eval = some (.int k l) ∧ ∃ o, lo' = some o)
 (hh : (hi' = none ∧ h = len) ∨ ∃ k, hi'.map a.eval = some (.int k h) ∧ ∃ o, hi' = some o) (h0 : 0 ≤ l) (h1 : l ≤ h) (h2 : h ≤ len) (hc : len ≤ cap) :
 (Instr.sliceBounds isSl len cap (lo'.map a.eval) (hi'.map a.eval) none).run P w = .ok (l.toNat, h.toNat, cap) w := by
 have hhn : 0 ≤ h := by omega
 have hb : ∀ code k, (Instr.sliceBound (.int k h) cap code).run P w = .ok h.toNat w := fun code k => run_sliceBound w k h cap code hhn (by omega)
 have lb : ∀ code k, (Instr.sliceBound (.int k l) h.toNat code).run P w = .ok l.toNat w := fun code k => run_sliceBound w k l h.toNat code h0 (by omega)
 rcases hl with ⟨rfl, rfl⟩ | ⟨k, hk, o, rfl⟩ <;> rcases hh with ⟨rfl, rfl⟩ | ⟨k', hk', o', rfl⟩ <;> simp_all [Instr.sliceBounds]
theorem ok_substr {o : Oper} {x : X} {lo hi : Option X} {x' : Operand} {lo' hi' : Option Operand} {t : TypeId} (ho : o.op = .slice t x' lo' hi' none) (ht : P.underlying t = some .string) (hx : OpdOk x x') (hl : OptOk lo lo') (hh : OptOk hi hi')
 (h : Rel w0 W0 s a φ W w) (he : evVal O (.substr x lo hi) o.dst s = some (av, s')) : Comes' P w0 W0 s' a o av w := by
 simp only [evVal, Option.map_eq_some_iff] at he
 obtain ⟨r, he, hr⟩ := he
 injection hr with e1 e2
 subst e1 e2
 have hxv := (h.opd hx).1
 generalize hxx : s.evX x = xa at he hxv
 unfold substrAV at he
 split at he
 ·rename_i b
  generalize hve : a.eval x' = xv at hxv
  cases hxv
  split at he
  ·rename_i l hh' hbl hbh
   split at he
   ·rename_i hc
    injection he with he
    subst he
    have kl := bound_inv h hl hbl
    have kh := bound_inv h hh hbh
    have := run_bounds (P := P) (w := w) (isSl := false) (cap := b.size) (by simpa using kl) kh hc.1 hc.2.1 hc.2.2 (Nat.le_refl _)
    refine ⟨.string (b.extract l.toNat hh'.toNat), w, .inl ?_, good_pure h (.str _) rfl (str_noFlag _)⟩
    simp [execOp, ho, Instr.sliceAt, Instr.slice, run_underlying ht, hve, this]
   ·cases he
  ·cases he
 ·cases he
theorem add_lit (b o n : Nat) : (⟨b, o, none⟩ : Addr).add n = ⟨b, o + n, none⟩ := by unfold Addr.add; split <;> simp_all
theorem VRel.slicePart {own : Option TypeId} {z : Nat} {rows : List (List AV)} {A : Option Addr} {n cap : Nat} (h : VRel w φ W (.sl own z rows) (.slice A n cap)) (l k : Nat) (hl : l ≤ k) (hk : k ≤ rows.length) (hcap : rows.length ≤ cap) :
 VRel w φ W (.sl none z ((rows.take k).drop l)) (.slice (if cap = l then A else A.map (·.add (l * z))) (k - l) (cap - l)) := by
 have hlen : ((rows.take k).drop l).length = k - l := by rw [List.length_drop, List.length_take]; omega
 obtain ⟨A', cap', hv, hr⟩ := h.slice_inv
 injection hv with e1 e2 e3
 subst e1 e2 e3
 by_cases hkl : k = l
 ·subst hkl
  have : (rows.take k).drop k = [] := List.eq_nil_of_length_eq_zero (by rw [hlen]; omega)
  rw [this, Nat.sub_self]
  exact .slE ..
 ·rcases hr with hr | ⟨b, o, f, rfl, hn, hcap, hm, hz, hp, hd, hc, hv⟩
  ·subst hr; simp at hk; omega
  ·rw [if_neg (by omega), Option.map_some, add_lit, ← hlen]
   have hget : ∀ i r, ((rows.take k).drop l)[i]? = some r → rows[l + i]? = some r ∧ i < k - l := fun i r hi => by
    rw [List.getElem?_drop, List.getElem?_take] at hi
    split at hi
    ·exact ⟨hi, by omega⟩
    ·cases hi
   have hmem : ∀ r ∈ (rows.take k).drop l, r ∈ rows := fun r hr => List.mem_of_mem_take (List.mem_of_mem_drop hr)
   refine .sl none z _ b (o + l * z) (cap - l) (fun q => f (l * z + q)) (by rw [hlen]; omega) (by rw [hlen]; omega) (by omega) (fun r hr => hz r (hmem r hr)) hp (fun r hr => hd r (hmem r hr)) (fun q hq => ?_) (fun i j r c hi hj => ?_)
   ·rw [hlen] at hq
    have : l * z + q < rows.length * z := by
     have e : l * z + (k - l) * z = k * z := by rw [← Nat.add_mul]; congr 1; omega
     have : k * z ≤ rows.length * z := Nat.mul_le_mul_right _ hk
     omega
    have := hc (l * z + q) this
    rw [Nat.add_assoc]
    exact this
   ·obtain ⟨h1, _⟩ := hget i r hi
    have := hv (l + i) j r c h1 hj
    rwa [Nat.add_mul, Nat.add_assoc] at this
theorem ok_slice {o : Oper} {x : X} {lo hi : Option X} {x' : Operand} {lo' hi' : Option Operand} {t e : TypeId} {ie : TypeInfo} (ho : o.op = .slice t x' lo' hi' none) (ht : P.underlying t = some (.slice e)) (hie : P.info? e = some ie)
 (hx : OpdOk x x') (hl : OptOk lo lo') (hh : OptOk hi hi')
 (h : Rel w0 W0 s a φ W w) (he : evVal O (.slice x lo hi ie.size) o.dst s = some (av, s')) : Comes' P w0 W0 s' a o av w := by
 simp only [evVal, Option.map_eq_some_iff] at he
 obtain ⟨r, he, hr⟩ := he
 injection hr with e1 e2
 subst e1 e2
 have hxv := (h.opd hx).1
 generalize hxx : s.evX x = xa at he hxv
 unfold sliceAV at he
 split at he
 ·rename_i own z rows
  split at he
  ·rename_i l hh' hbl hbh
   split at he
   ·rename_i hc
    obtain ⟨hc0, hc1, hc2, rfl⟩ := hc
    injection he with he
    subst he
    have kl := bound_inv h hl hbl
    have kh := bound_inv h hh hbh
    obtain ⟨A, cap, hve, hr⟩ := hxv.slice_inv
    have hcap : rows.length ≤ cap := by
     rcases hr with hr | ⟨_, _, _, _, _, hcap, _⟩
     ·subst hr; simp
     ·exact hcap
    have := run_bounds (P := P) (w := w) (isSl := true) (cap := cap) (by simpa using kl) kh hc0 hc1 hc2 hcap
    rw [hve] at hxv
    refine ⟨_, w, .inl ?_, good_pure h (hxv.slicePart l.toNat hh'.toNat (by omega) (by omega) hcap) rfl (sl_noFlag _ _)⟩
    simp [execOp, ho, Instr.sliceAt, Instr.slice, run_underlying ht, hve, this, sizeOf, typeInfo, hie]
   ·cases he
  ·cases he
 ·rename_i v sl off m z
  split at he
  ·rename_i l hh' hbl hbh
   split at he
   ·rename_i hc
    obtain ⟨hc0, hc1, hc2, rfl⟩ := hc
    injection he with he
    subst he
    have kl := bound_inv h hl hbl
    have kh := bound_inv h hh hbh
    have hlv := (h.opd hx).2
    rw [hxx] at hlv
    generalize hve : a.eval x' = xv at hxv
    cases hxv with
    | win _ _ _ _ _ cap b hb hn hcap hm hk =>
    have := run_bounds (P := P) (w := w) (isSl := true) (cap := cap) (by simpa using kl) kh hc0 hc1 hc2 hcap
    have hrun : (execOp a.eval o).run P w = .ok (.value (.slice (if cap = l.toNat then some ⟨b.1, off, none⟩ else some ⟨b.1, off + l.toNat * ie.size, none⟩) (hh'.toNat - l.toNat) (cap - l.toNat))) w := by
     simp [execOp, ho, Instr.sliceAt, Instr.slice, run_underlying ht, hve, this, sizeOf, typeInfo, hie, add_lit]
    by_cases hlh : l = hh'
    ·subst hlh
     rw [if_pos rfl]
     rw [Nat.sub_self] at hrun
     exact ⟨_, w, .inl hrun, good_pure h (.slE none _ _ _) rfl (sl_noFlag _ _)⟩
    ·rw [if_neg hlh]
     rw [if_neg (by omega)] at hrun
     refine ⟨_, w, .inl hrun, good_pure h (.win v sl _ _ _ _ b hb (by omega) (by omega) (by omega) ⟨hk.1, fun h0 => ?_⟩) hlv (one_noFlag rfl (fun _ _ _ h => by cases h))⟩
     have h1 : off = 0 := by omega
     have h2 : l.toNat * ie.size = 0 := by omega
     have h3 : l.toNat = 0 := (Nat.mul_eq_zero.1 h2).resolve_right (by have := hk.1; omega)
     rw [h3, Nat.sub_zero]
     exact hk.2 h1
   ·cases he
  ·cases he
 ·cases he
theorem ok_arrS {o : Oper} {x : X} {lo hi : Option X} {x' : Operand} {lo' hi' : Option Operand} {t e : TypeId} {n : Nat} {ie : TypeInfo} (ho : o.op = .slice t x' lo' hi' none) (ht : P.underlying t = some (.array n e)) (hie : P.info? e = some ie) (hsz : 0 < ie.size) (hn : n ≤ maxLen)
 (hx : OpdOk x x') (hl : OptOk lo lo') (hh : OptOk hi hi')
 (h : Rel w0 W0 s a φ W w) (he : evVal O (.arrS x lo hi n ie.size) o.dst s = some (av, s')) : Comes' P w0 W0 s' a o av w := by
 simp only [evVal, Option.map_eq_some_iff] at he
 obtain ⟨r, he, hr⟩ := he
 injection hr with e1 e2
 subst e1 e2
 have hxv := (h.opd hx).1
 generalize hxx : s.evX x = xa at he hxv
 unfold arrAV at he
 split at he
 ·rename_i v sl off
  split at he
  ·rename_i l hh' hbl hbh
   split at he
   ·rename_i hc
    obtain ⟨hc0, hc1, hc2⟩ := hc
    injection he with he
    subst he
    have kl := bound_inv h hl hbl
    have kh := bound_inv h hh hbh
    have hlv := (h.opd hx).2
    rw [hxx] at hlv
    generalize hve : a.eval x' = xv at hxv
    cases hxv
    rename_i b hb
    have := run_bounds (P := P) (w := w) (isSl := false) (cap := n) (by simpa using kl) kh hc0 hc1 hc2 (Nat.le_refl _)
    have hrun : (execOp a.eval o).run P w = .ok (.value (.slice (if n = l.toNat then some ⟨b.1, off, none⟩ else some ⟨b.1, off + l.toNat * ie.size, none⟩) (hh'.toNat - l.toNat) (n - l.toNat))) w := by
     simp [execOp, ho, Instr.sliceAt, run_underlying ht, hve, this, sizeOf, typeInfo, hie, add_lit, Instr.sureAddr]
     split <;> rfl
    by_cases hlh : l = hh'
    ·subst hlh
     rw [if_pos rfl]
     rw [Nat.sub_self] at hrun
     exact ⟨_, w, .inl hrun, good_pure h (.slE none _ _ _) rfl (sl_noFlag _ _)⟩
    ·rw [if_neg hlh]
     rw [if_neg (by omega)] at hrun
     exact ⟨_, w, .inl hrun, good_pure h (.asl v sl _ _ _ _ b hb (by omega) (by omega) (by omega) hsz) hlv (one_noFlag rfl (fun _ _ _ h => by cases h))⟩
   ·cases he
  ·cases he
 ·cases he
theorem ub_noFlag : AV.ub.noFlag := one_noFlag rfl (fun _ _ _ h => by cases h)
theorem ok_nilq {o : Oper} {neg : Bool} {x : X} {x' : Operand} {t t' e : TypeId} (ho : o.op = .binOp (if neg then .neq else .eql) t x' (.const (.slice none 0 0)) t') (hx : OpdOk x x') (hu : P.underlying t = some (.slice e))
 (h : Rel w0 W0 s a φ W w) (he : evVal O (.nilq neg x) o.dst s = some (av, s')) : Comes' P w0 W0 s' a o av w := by
 simp only [evVal] at he
 have hxv := (h.opd hx).1
 have run : ∀ (A : Option Addr) (k cap : Nat), a.eval x' = .slice A k cap → (execOp a.eval o).run P w = .ok (.value (.bool (if neg then !A.isNone else A.isNone))) w := fun A k cap hv => by
  have hc : a.eval (.const (.slice none 0 0)) = .slice none 0 0 := rfl
  have hg := fun op => run_guard_one (P := P) (w := w) op t x' (.const (.slice none 0 0)) (.slice A k cap) (.slice none 0 0) (by simp) (by simp)
  cases neg
  ·simp [execOp, ho, hv, hc, hg, _root_.Go.run_eql_slice_nil w t e A k cap hu]
  ·simp [execOp, ho, hv, hc, hg, _root_.Go.run_neq_slice_nil w t e A k cap hu]
 split at he
 ·rename_i own z r rows hxx
  injection he with he
  injection he with e1 e2
  subst e1 e2
  rw [hxx] at hxv
  generalize hve : a.eval x' = xv at hxv run
  cases hxv with
  | sl _ _ _ b o cap f hn hcap hm hz hp hd hc hv =>
  refine ⟨_, w, .inl (run _ _ _ rfl), ?_⟩
  have : (if neg then !(some (⟨b, o, none⟩ : Addr)).isNone else (some (⟨b, o, none⟩ : Addr)).isNone) = neg := by cases neg <;> rfl
  rw [this]
  exact good_pure h (.bool neg) rfl (bool_noFlag _)
 ·rename_i own z hxx
  injection he with he
  injection he with e1 e2
  subst e1 e2
  rw [hxx] at hxv
  obtain ⟨A, cap, hve, _⟩ := hxv.slice_inv
  exact ⟨_, w, .inl (run _ _ _ hve), good_pure h (.ub _) rfl ub_noFlag⟩
 ·rename_i l sl off m z hxx
  injection he with he
  injection he with e1 e2
  subst e1 e2
  rw [hxx] at hxv
  generalize hve : a.eval x' = xv at hxv run
  cases hxv with
  | win _ _ _ _ _ cap b hb hn hcap hm hk =>
  refine ⟨_, w, .inl (run _ _ _ rfl), ?_⟩
  have : (if neg then !(some (⟨b.1, off, none⟩ : Addr)).isNone else (some (⟨b.1, off, none⟩ : Addr)).isNone) = neg := by cases neg <;> rfl
  rw [this]
  exact good_pure h (.bool neg) rfl (bool_noFlag _)
 ·cases he
theorem ok_mm {o : Oper} {mx : Bool} {x y : X} {x' y' : Operand} {ts : Array TypeId} (ho : o.op = .call { callee := .builtin (if mx then .max else .min), args := #[x', y'], argTypes := ts }) (hx : OpdOk x x') (hy : OpdOk y y')
 (h : Rel w0 W0 s a φ W w) (he : evVal O (.mm mx x y) o.dst s = some (av, s')) : Comes' P w0 W0 s' a o av w := by
 simp only [evVal] at he
 have hxv := (h.opd hx).1
 have hyv := (h.opd hy).1
 split at he
 ·rename_i k n k' m hxx hyy
  injection he with he
  injection he with e1 e2
  subst e1 e2
  rw [hxx] at hxv
  rw [hyy] at hyv
  generalize hxe : a.eval x' = xe at hxv
  generalize hye : a.eval y' = ye at hyv
  cases hxv
  cases hyv
  refine ⟨_, w, .inl ?_, good_pure h (.int ..) rfl (int_noFlag _ _)⟩
  cases mx <;> simp [execOp, ho, resolve, invoke, builtin, Builtin.min_, Builtin.max_, Builtin.min2, Builtin.max2, hxe, hye]
 ·cases he
end
end Go.Ev
