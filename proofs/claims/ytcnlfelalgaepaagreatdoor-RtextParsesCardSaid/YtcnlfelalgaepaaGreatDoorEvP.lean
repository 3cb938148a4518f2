/- The operations one by one: iterators over strings, fresh variables of a length, the string of a window. Condition: none. -/
import Derived.Test.YtcnlfelalgaepaaGreatDoorEvO
import Derived.Test.YtcnlfelalgaepaaGreatDoorEvD
import Derived.Lib.OthersKept
namespace Go.Ev
set_option linter.all false
open Go.RowKit
section
variable {w0 w w' : World} {W0 : Base} {W W' : Nat → Own} {φ φ' : Nat → Nat → Option Blk} {s s' : St} {a : Act} {P : Program} {O : Orc} {d : Option Nat} {av : AV} {v : Value} {t : TypeId} {agg : Option Nat}
theorem ok_rng {o : Oper} {x : X} {x' : Operand} (ho : o.op = .range t x') (hu : P.underlying t = some .string) (hx : OpdOk x x') (h : Rel w0 W0 s a φ W w) (he : evVal O (.rng x) o.dst s = some (av, s')) : Comes' P w0 W0 s' a o av w := by
 simp only [evVal] at he
 have hxv := (h.opd hx).1
 split at he
 ·rename_i b dd hxx hd
  split at he
  ·rename_i hn
   injection he with he
   injection he with e1 e2
   subst e1 e2
   rw [hxx] at hxv
   generalize hve : a.eval x' = xv at hxv
   cases hxv
   have hn : s.bx dd = none := by simpa using hn
   have hr := h.newB (g := w.heap.size) (n := 0) (Nat.le_refl _) (Step.alloc w W (.stringIter b 0) (.box s.lv dd)).grown dd hn (.iter b 0) ⟨(w.heap.size, 0), by simp [upd], heap_alloc_new w _⟩
   refine ⟨.pointer (some ⟨w.heap.size, 0, none⟩), w.alloc (.stringIter b 0), .inl ?_, _, _, hr.clr o.dst, fun y hy => ?_⟩
   ·simp [execOp, ho, Instr.range, run_underlying hu, hve]
   ·exact .of_noFlag (.ptr _ _ _ (w.heap.size, 0) (by simp [upd])) (by simp [AV.okP, lvOk]) (ptr_noFlag _ _ _)
  ·cases he
 ·cases he
theorem tup_noFlag {cs : List AV} (h : ∀ c ∈ cs, c.one = true ∧ ∀ e sz rows, c ≠ .sl (some e) sz rows) : (AV.tup cs).noFlag := by
 intro i j e sz rows hp
 simp only [AV.part] at hp
 obtain ⟨c, hc, hp⟩ := Option.bind_eq_some_iff.1 hp
 obtain ⟨h1, h2⟩ := h c (List.mem_of_getElem? hc)
 exact noFlag_of_one h1 h2 0 j e sz rows (by cases c <;> simp_all [AV.part, AV.part1, AV.one])
theorem iterAt_grown (w : World) (k : Nat) (s : ByteArray) (pos : Nat) : w.grownBy (w.iterAt k s pos) (some k) :=
 ⟨rfl, rfl, rfl, by simp [World.iterAt], fun j hj hne => by
   have : k ≠ j := fun e => hne (by rw [e])
   simp [World.iterAt, Array.getElem?_setIfInBounds_ne this]⟩
theorem ok_nxt {o : Oper} {x : X} {x' : Operand} (ho : o.op = .next x' true) (hx : OpdOk x x') (h : Rel w0 W0 s a φ W w) (he : evVal O (.nxt x) o.dst s = some (av, s')) : Comes' P w0 W0 s' a o av w := by
 simp only [evVal] at he
 have hxv := (h.opd hx).1
 split at he
 ·rename_i l sl off hxx
  split at he
  ·rename_i str pos hg
   split at he
   ·cases he
   rename_i h0
   have h0 : off = 0 := Decidable.not_not.1 h0
   subst h0
   rw [hxx] at hxv
   generalize hve : a.eval x' = xv at hxv
   cases hxv
   rename_i b hb
   obtain ⟨b', k1, k2⟩ := h.box l sl _ hg
   rw [hb] at k1
   injection k1 with k1
   subst k1
   split at he
   ·rename_i hlt
    injection he with he
    injection he with e1 e2
    subst e1 e2
    have hr := h.setBx (w' := w.iterAt b.1 str (pos + (Utf8.decode str pos).2)) hg hb (.iter str (pos + (Utf8.decode str pos).2)) (iterAt_grown _ _ _ _) fun _ _ => ⟨b, hb, Lib.iterAt_heap w b.1 str pos _ k2⟩
    refine ⟨_, _, .inl ?_, φ, W, hr.clr o.dst, fun y hy => .of_noFlag (.tup _ #[.bool true, .int .i64 pos, .int .i32 (Utf8.decode str pos).1] rfl fun i c v hc hv => ?_) rfl (tup_noFlag fun c hc => ?_)⟩
    ·simp [execOp, ho, hve, Lib.run_next_any_at w b.1 str pos o.type k2 hlt]
    ·match i with
     | 0 => simp at hc hv; subst hc hv; exact .bool _
     | 1 => simp at hc hv; subst hc hv; exact .int ..
     | 2 => simp at hc hv; subst hc hv; exact .int ..
     | i + 3 => simp at hc
    ·simp only [List.mem_cons, List.not_mem_nil, or_false] at hc
     rcases hc with rfl | rfl | rfl <;> exact ⟨rfl, fun _ _ _ h => by cases h⟩
   ·rename_i hlt
    injection he with he
    injection he with e1 e2
    subst e1 e2
    refine ⟨_, w, .inl ?_, good_pure h (.tup _ #[.bool false] rfl fun i c v hc hv => ?_) rfl (tup_noFlag fun c hc => ?_)⟩
    ·simp [execOp, ho, hve, Lib.run_next_end_at w b.1 str pos o.type k2 hlt]
    ·match i with
     | 0 => simp at hc hv; subst hc hv; exact .bool _
     | i + 1 => simp at hc
    ·simp only [List.mem_cons, List.not_mem_nil, or_false] at hc
     subst hc
     exact ⟨rfl, fun _ _ _ h => by cases h⟩
  ·cases he
 ·cases he
theorem ok_mkW {o : Oper} {e : TypeId} {i : TypeInfo} {z : Value} {zero : List AV} {x : X} {x' y' : Operand} (ho : o.op = .makeSlice t x' y') (hxy : x' = y') (hu : P.underlying t = some (.slice e)) (hz : ZRow P e i z zero) (hx : OpdOk x x') (h : Rel w0 W0 s a φ W w)
 (he : evVal O (.mkW e i.bytes zero x) o.dst s = some (av, s')) (hby : 0 < i.bytes) : Comes' P w0 W0 s' a o av w := by
 simp only [evVal] at he
 have hxv := (h.opd hx).1
 split at he
 ·rename_i k n dd hxx hd
  split at he
  ·rename_i hc
   obtain ⟨hn0, hcb, hn⟩ := hc
   have hn : s.bx dd = none := by simpa using hn
   rw [hxx] at hxv
   generalize hve : a.eval x' = xv at hxv
   cases hxv
   subst hxy
   have hm : n.toNat ≤ maxLen := by
    have h1 : n * 1 ≤ n * (i.bytes : Int) := Int.mul_le_mul_of_nonneg_left (by omega) hn0
    unfold maxLen
    omega
   have hbn : (i.bytes : Int) * n ≤ 281474976710656 := by rw [Int.mul_comm]; omega
   have h63 : n ≤ 9223372036854775807 := by unfold maxLen at hm; omega
   have hr := run_make (P := P) w t e i z hu hz.info hz.zv k k n n hn0 (Int.le_refl _) hbn h63
   have hrun : (execOp a.eval o).run P w = .ok (.value (.slice (some ⟨w.heap.size, 0, none⟩) n.toNat n.toNat)) (w.alloc (.cells (madeCells z.cells (n.toNat * i.size)) e)) := by
    simp only [execOp, ho, hve]
    simp [hr]
   have hrr : RowsRel w φ W i.size (List.replicate n.toNat zero) (madeCells z.cells (n.toNat * i.size)) :=
    hz.rows n.toNat _ (size_madeCells _ _) (fun q hq => by
     have := getD_made z.cells (n.toNat * i.size) q hq (by rw [hz.size]; exact hz.pos)
     rw [hz.size] at this
     unfold madeCells
     rw [hz.size]
     exact this)
   split at he
   ·rename_i h0
    injection he with he
    injection he with e1 e2
    subst e1 e2 h0
    have hst := (h.step (Step.alloc w W (.cells (madeCells z.cells ((0 : Int).toNat * i.size)) e) .free) (fun g hg => by cases hg)).clr o.dst
    exact ⟨_, _, .inl hrun, φ, _, hst, fun y hy => .of_noFlag (.slE ..) rfl (sl_noFlag _ _)⟩
   ·rename_i h0
    injection he with he
    injection he with e1 e2
    subst e1 e2
    have hsz := size_madeCells z.cells (n.toNat * i.size)
    have hflen : (List.replicate n.toNat zero).flatten.length = n.toNat * i.size := by simp [hz.len]
    have hcell : ∀ (j : Nat) c, (List.replicate n.toNat zero).flatten[j]? = some c → ∃ v, (madeCells z.cells (n.toNat * i.size))[j]? = some v ∧ CC c v := fun j c hj => by
     have hlt := (List.getElem?_eq_some_iff.1 hj).1
     rw [hflen] at hlt
     have hp := hz.pos
     have hmod : j % i.size < i.size := Nat.mod_lt _ hp
     obtain ⟨_, fl2⟩ := flat_get i.size (List.replicate n.toNat zero) (fun r hr => by rw [(List.mem_replicate.1 hr).2]; exact hz.len) hp
     obtain ⟨r, e1, e2⟩ := fl2 j (by rw [List.length_replicate]; exact hlt)
     have hr0 : r = zero := (List.mem_replicate.1 (List.mem_of_getElem? e1)).2
     subst hr0
     have hzc : r[j % i.size]? = some c := by rw [← e2]; exact hj
     have hzv : z.cells[j % i.size]? = some (z.cells[j % i.size]'(by rw [hz.size]; exact hmod)) := Array.getElem?_eq_getElem _
     refine ⟨_, ?_, hz.cc _ c _ hzc hzv⟩
     have := getD_made z.cells (n.toNat * i.size) j hlt (by rw [hz.size]; exact hp)
     rw [hz.size] at this
     have hj2 : j < (madeCells z.cells (n.toNat * i.size)).size := by rw [hsz]; exact hlt
     rw [Array.getElem?_eq_getElem hj2]
     congr 1
     have e3 : (madeCells z.cells (n.toNat * i.size)).getD j undef = (madeCells z.cells (n.toNat * i.size))[j] := by simp [hj2]
     rw [← e3]
     unfold madeCells
     simp only [hz.size]
     rw [this]
     simp [hz.size, hmod]
    have hr2 := h.newBox dd hn e (List.replicate n.toNat zero).flatten (madeCells z.cells (n.toNat * i.size)) (by rw [hflen, hsz]; exact Nat.le_refl _) ((okPs_iff _ _).2 fun c hm => by
     obtain ⟨j, hj⟩ := List.mem_iff_getElem?.1 hm
     obtain ⟨v, _, h⟩ := hcell j c hj
     exact h.lvl _) (fun c hm => by
     obtain ⟨j, hj⟩ := List.mem_iff_getElem?.1 hm
     obtain ⟨v, _, h⟩ := hcell j c hj
     exact h.one) (fun v hm => by
     obtain ⟨j, hj, rfl⟩ := Array.mem_iff_getElem.1 hm
     rw [hsz] at hj
     obtain ⟨v, h1, h2⟩ := hcell j _ (List.getElem?_eq_getElem (by rw [hflen]; exact hj))
     rw [Array.getElem?_eq_getElem (by rw [hsz]; exact hj)] at h1
     injection h1 with h1
     rw [h1]; exact h2.cell) (fun j c v hc' hv => by
     obtain ⟨v', h1, h2⟩ := hcell j c hc'
     rw [h1] at hv; injection hv with hv; subst hv
     exact ⟨h2.rel _ _ _, fun e sz rows he => h2.own _ _ _ _ _ _ he⟩)
    refine ⟨_, _, .inl hrun, _, _, hr2.clr o.dst, fun y hy => .of_noFlag ?_ (by simp [AV.okP, lvOk]) (one_noFlag rfl (fun _ _ _ h => by cases h))⟩
    exact .win _ _ 0 _ _ n.toNat (w.heap.size, (madeCells z.cells (n.toNat * i.size)).size) (by simp [upd]) (by omega) (Nat.le_refl _) hm ⟨by rw [hz.len]; exact hz.pos, fun _ => by rw [hz.len]; exact hsz⟩
  ·cases he
 ·cases he
theorem ok_strw {o : Oper} {x : X} {x' : Operand} {src dst e : TypeId} (ho : o.op = .convert src dst x') (hs : P.underlying src = some (.slice e)) (he8 : P.underlying e = some (.int .u8)) (hd : P.underlying dst = some .string) (hx : OpdOk x x') (h : Rel w0 W0 s a φ W w)
 (he : evVal O (.strw x) o.dst s = some (av, s')) : Comes' P w0 W0 s' a o av w := by
 simp only [evVal] at he
 split at he
 ·rename_i own z rows hxx
  obtain ⟨l, hl, he⟩ := Option.map_eq_some_iff.1 he
  refine ok_b2s (ie := default) (O := O) ho hs he8 hd hx h ?_
  simp only [evVal, hxx]
  show Option.map _ (Option.map _ (bytesOf rows)) = _
  rw [hl]
  exact congrArg some he
 ·rename_i l sl off n z hxx
  split at he
  ·rename_i t' cs hg
   split at he
   ·rename_i hc
    obtain ⟨hc1, rfl⟩ := hc
    obtain ⟨bs, hb, he⟩ := Option.map_eq_some_iff.1 he
    injection he with e1 e2
    subst e1 e2
    obtain ⟨ns, hns, rfl⟩ := bytesOf_inv _ _ hb
    have hxv := (h.opd hx).1
    rw [hxx] at hxv
    generalize hve : a.eval x' = xv at hxv
    cases hxv with
    | win _ _ _ _ _ cap b hb hn hcap hm hk =>
    obtain ⟨b', arr, k1, k2, k3, k4, k5, k6, k7, k8⟩ := h.boxAt hg
    rw [hb] at k1
    injection k1 with k1
    subst k1
    have hlen : ns.length = n := by
     have := congrArg List.length hns
     simp only [List.length_map, sub, List.length_take, List.length_drop] at this
     omega
    have hcell : ∀ k, k < n → cs[off + k]? = some (.int .u8 (ns.getD k 0)) := fun k hk => by
     have h1 : ((sub cs off n).map fun c => [c])[k]? = some [AV.int .u8 (ns.getD k 0)] := by
      rw [hns]
      simp [show k < ns.length by omega]
     rw [List.getElem?_map] at h1
     obtain ⟨c, h2, h3⟩ := Option.map_eq_some_iff.1 h1
     injection h3 with h3
     subst h3
     unfold sub at h2
     rw [List.getElem?_take, if_pos hk, List.getElem?_drop] at h2
     exact h2
    have := run_convert_bytes_arg (P := P) w src e hs he8 b.1 off n cap ns hlen (fun k hk => by
     have hcs := hcell k (by omega)
     have hlt := (List.getElem?_eq_some_iff.1 hcs).1
     have hv := (k7 (off + k) _ _ hcs (Array.getElem?_eq_getElem (by omega))).1
     rw [cell_of_row w b.1 (off + k) arr t' (0, 0) k2, Array.getElem?_eq_getElem (by omega)]
     generalize (arr[off + k]'(by omega)) = u at hv
     cases hv
     rfl) dst hd
    refine ⟨.string (strOfNums ns), w, .inl ?_, good_pure h ?_ rfl (str_noFlag _)⟩
    ·simp [execOp, ho, hve, this]
    ·exact .str _
   ·cases he
  ·cases he
 ·rename_i l sl off n z hxx
  split at he
  ·rename_i t' cs hg
   split at he
   ·rename_i hc
    obtain ⟨hc1, rfl⟩ := hc
    obtain ⟨bs, hb, he⟩ := Option.map_eq_some_iff.1 he
    injection he with e1 e2
    subst e1 e2
    obtain ⟨ns, hns, rfl⟩ := bytesOf_inv _ _ hb
    have hxv := (h.opd hx).1
    rw [hxx] at hxv
    generalize hve : a.eval x' = xv at hxv
    cases hxv with
    | asl _ _ _ _ _ cap b hb hn hcap hm hk =>
    obtain ⟨b', arr, k1, k2, k3, k4, k5, k6, k7, k8⟩ := h.boxAt hg
    rw [hb] at k1
    injection k1 with k1
    subst k1
    have hlen : ns.length = n := by
     have := congrArg List.length hns
     simp only [List.length_map, sub, List.length_take, List.length_drop] at this
     omega
    have hcell : ∀ k, k < n → cs[off + k]? = some (.int .u8 (ns.getD k 0)) := fun k hk => by
     have h1 : ((sub cs off n).map fun c => [c])[k]? = some [AV.int .u8 (ns.getD k 0)] := by
      rw [hns]
      simp [show k < ns.length by omega]
     rw [List.getElem?_map] at h1
     obtain ⟨c, h2, h3⟩ := Option.map_eq_some_iff.1 h1
     injection h3 with h3
     subst h3
     unfold sub at h2
     rw [List.getElem?_take, if_pos hk, List.getElem?_drop] at h2
     exact h2
    have := run_convert_bytes_arg (P := P) w src e hs he8 b.1 off n cap ns hlen (fun k hk => by
     have hcs := hcell k (by omega)
     have hlt := (List.getElem?_eq_some_iff.1 hcs).1
     have hv := (k7 (off + k) _ _ hcs (Array.getElem?_eq_getElem (by omega))).1
     rw [cell_of_row w b.1 (off + k) arr t' (0, 0) k2, Array.getElem?_eq_getElem (by omega)]
     generalize (arr[off + k]'(by omega)) = u at hv
     cases hv
     rfl) dst hd
    refine ⟨.string (strOfNums ns), w, .inl ?_, good_pure h ?_ rfl (str_noFlag _)⟩
    ·simp [execOp, ho, hve, this]
    ·exact .str _
   ·cases he
  ·cases he
 ·cases he
def NatOk (P : Program) (g : FuncId) (k : N2) : Prop := ∀ (s : ByteArray) (c : Int) (w : World), (callFunc g #[.string s, .int .u8 c]).run P w = .ok (.value (.int .i64 (n2 k s c))) w
theorem ok_nat2 {g : FuncId} {k : N2} (hg : NatOk P g k) {o : Oper} {x y : X} {x' y' : Operand} {ts : Array TypeId} (ho : o.op = .call { callee := .value (.func g), args := #[x', y'], argTypes := ts }) (hx : OpdOk x x') (hy : OpdOk y y') (h : Rel w0 W0 s a φ W w)
 (he : evVal O (.nat2 k x y) o.dst s = some (av, s')) : Comes' P w0 W0 s' a o av w := by
 simp only [evVal] at he
 have hxv := (h.opd hx).1
 have hyv := (h.opd hy).1
 split at he
 ·rename_i b c h1 h2
  injection he with he
  injection he with e1 e2
  subst e1 e2
  rw [h1] at hxv
  rw [h2] at hyv
  generalize hxe : a.eval x' = xe at hxv
  generalize hye : a.eval y' = ye at hyv
  cases hxv
  cases hyv
  refine ⟨.int .i64 (n2 k b c), w, .inl ?_, good_pure h (.int ..) rfl (int_noFlag _ _)⟩
  have e0 : a.eval (.func g) = .func (.func g) #[] #[] := rfl
  have := hg b c w
  simp [execOp, ho, resolve, invoke, e0, hxe, hye, Deferred.ofValue, this]
 ·cases he
end
end Go.Ev
