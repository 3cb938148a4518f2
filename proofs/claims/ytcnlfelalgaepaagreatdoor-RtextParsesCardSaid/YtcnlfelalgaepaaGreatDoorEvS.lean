/- Helpers for specifications: tests both ways, rows of equal length, slots that a list tells. Condition: none. -/
import Derived.Test.YtcnlfelalgaepaaGreatDoorEvN
import Derived.IntWalk
namespace Go.Ev
set_option linter.all false
attribute [simp] evOp evO evG hintOk IOp.addr evVal St.evX St.put St.use St.get St.setBox binAV binInt binStr unAV convAV convAV0 globAgg globCells fillParts fillRows bound sliceAV substrAV retAV eqCells resOf resOf0 resVal resRest frzRes frzs posAt frzRest frzOwn okPs isPtrless St.mask ABox.okP
@[simp] theorem s_noOwn1_undef  : (AV.undef).noOwn1 = (AV.undef) := rfl
@[simp] theorem s_noOwnA_undef  : (AV.undef).noOwnA = (AV.undef) := rfl
@[simp] theorem s_noOwn_undef  : (AV.undef).noOwn = (AV.undef) := rfl
@[simp] theorem s_isData_undef  : (AV.undef).isData = false := rfl
@[simp] theorem s_isTup_undef  : (AV.undef).isTup = false := rfl
@[simp] theorem s_known_undef  : (AV.undef).known = false := rfl
@[simp] theorem s_cells_undef  : (AV.undef).cells = [AV.undef] := rfl
@[simp] theorem s_noOwn1_bool (b : Bool) : (AV.bool b).noOwn1 = (AV.bool b) := rfl
@[simp] theorem s_noOwnA_bool (b : Bool) : (AV.bool b).noOwnA = (AV.bool b) := rfl
@[simp] theorem s_noOwn_bool (b : Bool) : (AV.bool b).noOwn = (AV.bool b) := rfl
@[simp] theorem s_isData_bool (b : Bool) : (AV.bool b).isData = true := rfl
@[simp] theorem s_isTup_bool (b : Bool) : (AV.bool b).isTup = false := rfl
@[simp] theorem s_known_bool (b : Bool) : (AV.bool b).known = true := rfl
@[simp] theorem s_cells_bool (b : Bool) : (AV.bool b).cells = [AV.bool b] := rfl
@[simp] theorem s_noOwn1_int (k : IntKind) (n : Int) : (AV.int k n).noOwn1 = (AV.int k n) := rfl
@[simp] theorem s_noOwnA_int (k : IntKind) (n : Int) : (AV.int k n).noOwnA = (AV.int k n) := rfl
@[simp] theorem s_noOwn_int (k : IntKind) (n : Int) : (AV.int k n).noOwn = (AV.int k n) := rfl
@[simp] theorem s_isData_int (k : IntKind) (n : Int) : (AV.int k n).isData = true := rfl
@[simp] theorem s_isTup_int (k : IntKind) (n : Int) : (AV.int k n).isTup = false := rfl
@[simp] theorem s_known_int (k : IntKind) (n : Int) : (AV.int k n).known = true := rfl
@[simp] theorem s_cells_int (k : IntKind) (n : Int) : (AV.int k n).cells = [AV.int k n] := rfl
@[simp] theorem s_noOwn1_str (s : ByteArray) : (AV.str s).noOwn1 = (AV.str s) := rfl
@[simp] theorem s_noOwnA_str (s : ByteArray) : (AV.str s).noOwnA = (AV.str s) := rfl
@[simp] theorem s_noOwn_str (s : ByteArray) : (AV.str s).noOwn = (AV.str s) := rfl
@[simp] theorem s_isData_str (s : ByteArray) : (AV.str s).isData = true := rfl
@[simp] theorem s_isTup_str (s : ByteArray) : (AV.str s).isTup = false := rfl
@[simp] theorem s_known_str (s : ByteArray) : (AV.str s).known = true := rfl
@[simp] theorem s_cells_str (s : ByteArray) : (AV.str s).cells = [AV.str s] := rfl
@[simp] theorem s_noOwn1_nilp  : (AV.nilp).noOwn1 = (AV.nilp) := rfl
@[simp] theorem s_noOwnA_nilp  : (AV.nilp).noOwnA = (AV.nilp) := rfl
@[simp] theorem s_noOwn_nilp  : (AV.nilp).noOwn = (AV.nilp) := rfl
@[simp] theorem s_isData_nilp  : (AV.nilp).isData = false := rfl
@[simp] theorem s_isTup_nilp  : (AV.nilp).isTup = false := rfl
@[simp] theorem s_known_nilp  : (AV.nilp).known = true := rfl
@[simp] theorem s_cells_nilp  : (AV.nilp).cells = [AV.nilp] := rfl
@[simp] theorem s_noOwn1_ptr (l s o : Nat) : (AV.ptr l s o).noOwn1 = (AV.ptr l s o) := rfl
@[simp] theorem s_noOwnA_ptr (l s o : Nat) : (AV.ptr l s o).noOwnA = (AV.ptr l s o) := rfl
@[simp] theorem s_noOwn_ptr (l s o : Nat) : (AV.ptr l s o).noOwn = (AV.ptr l s o) := rfl
@[simp] theorem s_isData_ptr (l s o : Nat) : (AV.ptr l s o).isData = false := rfl
@[simp] theorem s_isTup_ptr (l s o : Nat) : (AV.ptr l s o).isTup = false := rfl
@[simp] theorem s_known_ptr (l s o : Nat) : (AV.ptr l s o).known = true := rfl
@[simp] theorem s_cells_ptr (l s o : Nat) : (AV.ptr l s o).cells = [AV.ptr l s o] := rfl
@[simp] theorem s_noOwn1_row (cs : List AV) : (AV.row cs).noOwn1 = (AV.row cs) := rfl
@[simp] theorem s_noOwnA_row (cs : List AV) : (AV.row cs).noOwnA = (AV.row cs) := rfl
@[simp] theorem s_noOwn_row (cs : List AV) : (AV.row cs).noOwn = (AV.row cs) := rfl
@[simp] theorem s_isData_row (cs : List AV) : (AV.row cs).isData = false := rfl
@[simp] theorem s_isTup_row (cs : List AV) : (AV.row cs).isTup = false := rfl
@[simp] theorem s_known_row (cs : List AV) : (AV.row cs).known = true := rfl
@[simp] theorem s_cells_row (cs : List AV) : (AV.row cs).cells = [AV.row cs] := rfl
@[simp] theorem s_noOwn1_sl (o : Option TypeId) (z : Nat) (r : List (List AV)) : (AV.sl o z r).noOwn1 = .sl none z r := rfl
@[simp] theorem s_noOwnA_sl (o : Option TypeId) (z : Nat) (r : List (List AV)) : (AV.sl o z r).noOwnA = .sl none z r := rfl
@[simp] theorem s_noOwn_sl (o : Option TypeId) (z : Nat) (r : List (List AV)) : (AV.sl o z r).noOwn = .sl none z r := rfl
@[simp] theorem s_isTup_sl (o : Option TypeId) (z : Nat) (r : List (List AV)) : (AV.sl o z r).isTup = false := rfl
@[simp] theorem s_known_sl (o : Option TypeId) (z : Nat) (r : List (List AV)) : (AV.sl o z r).known = true := rfl
@[simp] theorem s_cells_sl (o : Option TypeId) (z : Nat) (r : List (List AV)) : (AV.sl o z r).cells = [AV.sl o z r] := rfl
@[simp] theorem s_noOwn1_win (l s o n z : Nat) : (AV.win l s o n z).noOwn1 = (AV.win l s o n z) := rfl
@[simp] theorem s_noOwnA_win (l s o n z : Nat) : (AV.win l s o n z).noOwnA = (AV.win l s o n z) := rfl
@[simp] theorem s_noOwn_win (l s o n z : Nat) : (AV.win l s o n z).noOwn = (AV.win l s o n z) := rfl
@[simp] theorem s_isData_win (l s o n z : Nat) : (AV.win l s o n z).isData = false := rfl
@[simp] theorem s_isTup_win (l s o n z : Nat) : (AV.win l s o n z).isTup = false := rfl
@[simp] theorem s_known_win (l s o n z : Nat) : (AV.win l s o n z).known = true := rfl
@[simp] theorem s_cells_win (l s o n z : Nat) : (AV.win l s o n z).cells = [AV.win l s o n z] := rfl
@[simp] theorem s_noOwn1_agg (cs : List AV) : (AV.agg cs).noOwn1 = (AV.agg cs) := rfl
@[simp] theorem s_noOwnA_agg (cs : List AV) : (AV.agg cs).noOwnA = .agg (cs.map AV.noOwn1) := rfl
@[simp] theorem s_noOwn_agg (cs : List AV) : (AV.agg cs).noOwn = .agg (cs.map AV.noOwn1) := rfl
@[simp] theorem s_isData_agg (cs : List AV) : (AV.agg cs).isData = false := rfl
@[simp] theorem s_isTup_agg (cs : List AV) : (AV.agg cs).isTup = false := rfl
@[simp] theorem s_known_agg (cs : List AV) : (AV.agg cs).known = true := rfl
@[simp] theorem s_cells_agg (cs : List AV) : (AV.agg cs).cells = cs := rfl
@[simp] theorem s_noOwn1_tup (cs : List AV) : (AV.tup cs).noOwn1 = (AV.tup cs) := rfl
@[simp] theorem s_noOwnA_tup (cs : List AV) : (AV.tup cs).noOwnA = (AV.tup cs) := rfl
@[simp] theorem s_noOwn_tup (cs : List AV) : (AV.tup cs).noOwn = .tup (cs.map AV.noOwnA) := rfl
@[simp] theorem s_isData_tup (cs : List AV) : (AV.tup cs).isData = false := rfl
@[simp] theorem s_isTup_tup (cs : List AV) : (AV.tup cs).isTup = true := rfl
@[simp] theorem s_known_tup (cs : List AV) : (AV.tup cs).known = false := rfl
@[simp] theorem s_cells_tup (cs : List AV) : (AV.tup cs).cells = [AV.tup cs] := rfl
@[simp] theorem s_noOwn1_fn (f : FuncId) (cs : List AV) : (AV.fn f cs).noOwn1 = (AV.fn f cs) := rfl
@[simp] theorem s_noOwnA_fn (f : FuncId) (cs : List AV) : (AV.fn f cs).noOwnA = (AV.fn f cs) := rfl
@[simp] theorem s_noOwn_fn (f : FuncId) (cs : List AV) : (AV.fn f cs).noOwn = (AV.fn f cs) := rfl
@[simp] theorem s_isData_fn (f : FuncId) (cs : List AV) : (AV.fn f cs).isData = false := rfl
@[simp] theorem s_isTup_fn (f : FuncId) (cs : List AV) : (AV.fn f cs).isTup = false := rfl
@[simp] theorem s_known_fn (f : FuncId) (cs : List AV) : (AV.fn f cs).known = true := rfl
@[simp] theorem s_cells_fn (f : FuncId) (cs : List AV) : (AV.fn f cs).cells = [AV.fn f cs] := rfl
@[simp] theorem s_noOwn1_ub  : (AV.ub).noOwn1 = (AV.ub) := rfl
@[simp] theorem s_noOwnA_ub  : (AV.ub).noOwnA = (AV.ub) := rfl
@[simp] theorem s_noOwn_ub  : (AV.ub).noOwn = (AV.ub) := rfl
@[simp] theorem s_isData_ub  : (AV.ub).isData = false := rfl
@[simp] theorem s_isTup_ub  : (AV.ub).isTup = false := rfl
@[simp] theorem s_known_ub  : (AV.ub).known = true := rfl
@[simp] theorem s_cells_ub  : (AV.ub).cells = [AV.ub] := rfl
@[simp] theorem s_isData_sl (z : Nat) (r : List (List AV)) : (AV.sl none z r).isData = true := rfl
@[simp] theorem s_okP_undef (p : Nat → Nat → Bool)  : (AV.undef).okP p = true := rfl
@[simp] theorem s_frz1_undef (st : St) (ws : List AV) (j : Option Nat)  : frz1 st ws j (AV.undef) = some (AV.undef) := rfl
@[simp] theorem s_frzA_undef (st : St) (ws : List AV) (j : Option Nat)  : frzA st ws j (AV.undef) = frz1 st ws j (AV.undef) := rfl
@[simp] theorem s_okP_bool (p : Nat → Nat → Bool) (b : Bool) : (AV.bool b).okP p = true := rfl
@[simp] theorem s_frz1_bool (st : St) (ws : List AV) (j : Option Nat) (b : Bool) : frz1 st ws j (AV.bool b) = some (AV.bool b) := rfl
@[simp] theorem s_frzA_bool (st : St) (ws : List AV) (j : Option Nat) (b : Bool) : frzA st ws j (AV.bool b) = frz1 st ws j (AV.bool b) := rfl
@[simp] theorem s_okP_int (p : Nat → Nat → Bool) (k : IntKind) (n : Int) : (AV.int k n).okP p = true := rfl
@[simp] theorem s_frz1_int (st : St) (ws : List AV) (j : Option Nat) (k : IntKind) (n : Int) : frz1 st ws j (AV.int k n) = some (AV.int k n) := rfl
@[simp] theorem s_frzA_int (st : St) (ws : List AV) (j : Option Nat) (k : IntKind) (n : Int) : frzA st ws j (AV.int k n) = frz1 st ws j (AV.int k n) := rfl
@[simp] theorem s_okP_str (p : Nat → Nat → Bool) (s : ByteArray) : (AV.str s).okP p = true := rfl
@[simp] theorem s_frz1_str (st : St) (ws : List AV) (j : Option Nat) (s : ByteArray) : frz1 st ws j (AV.str s) = some (AV.str s) := rfl
@[simp] theorem s_frzA_str (st : St) (ws : List AV) (j : Option Nat) (s : ByteArray) : frzA st ws j (AV.str s) = frz1 st ws j (AV.str s) := rfl
@[simp] theorem s_okP_nilp (p : Nat → Nat → Bool)  : (AV.nilp).okP p = true := rfl
@[simp] theorem s_frz1_nilp (st : St) (ws : List AV) (j : Option Nat)  : frz1 st ws j (AV.nilp) = some (AV.nilp) := rfl
@[simp] theorem s_frzA_nilp (st : St) (ws : List AV) (j : Option Nat)  : frzA st ws j (AV.nilp) = frz1 st ws j (AV.nilp) := rfl
@[simp] theorem s_okP_ptr (p : Nat → Nat → Bool) (l s o : Nat) : (AV.ptr l s o).okP p = p l s := rfl
@[simp] theorem s_frz1_ptr (st : St) (ws : List AV) (j : Option Nat) (l s o : Nat) : frz1 st ws j (AV.ptr l s o) = some (AV.ptr l s o) := rfl
@[simp] theorem s_frzA_ptr (st : St) (ws : List AV) (j : Option Nat) (l s o : Nat) : frzA st ws j (AV.ptr l s o) = frz1 st ws j (AV.ptr l s o) := rfl
@[simp] theorem s_okP_row (p : Nat → Nat → Bool) (cs : List AV) : (AV.row cs).okP p = true := rfl
@[simp] theorem s_frz1_row (st : St) (ws : List AV) (j : Option Nat) (cs : List AV) : frz1 st ws j (AV.row cs) = some (AV.row cs) := rfl
@[simp] theorem s_frzA_row (st : St) (ws : List AV) (j : Option Nat) (cs : List AV) : frzA st ws j (AV.row cs) = frz1 st ws j (AV.row cs) := rfl
@[simp] theorem s_okP_sl (p : Nat → Nat → Bool) (o : Option TypeId) (z : Nat) (r : List (List AV)) : (AV.sl o z r).okP p = true := rfl
@[simp] theorem s_frz1_sl (st : St) (ws : List AV) (j : Option Nat) (o : Option TypeId) (z : Nat) (r : List (List AV)) : frz1 st ws j (AV.sl o z r) = some (AV.sl o z r) := rfl
@[simp] theorem s_frzA_sl (st : St) (ws : List AV) (j : Option Nat) (o : Option TypeId) (z : Nat) (r : List (List AV)) : frzA st ws j (AV.sl o z r) = frz1 st ws j (AV.sl o z r) := rfl
@[simp] theorem s_okP_win (p : Nat → Nat → Bool) (l s o n z : Nat) : (AV.win l s o n z).okP p = p l s := rfl
@[simp] theorem s_frzA_win (st : St) (ws : List AV) (j : Option Nat) (l s o n z : Nat) : frzA st ws j (AV.win l s o n z) = frz1 st ws j (AV.win l s o n z) := rfl
@[simp] theorem s_okP_agg (p : Nat → Nat → Bool) (cs : List AV) : (AV.agg cs).okP p = okPs p cs := rfl
@[simp] theorem s_frz1_agg (st : St) (ws : List AV) (j : Option Nat) (cs : List AV) : frz1 st ws j (AV.agg cs) = some (AV.agg cs) := rfl
@[simp] theorem s_frzA_agg (st : St) (ws : List AV) (j : Option Nat) (cs : List AV) : frzA st ws j (.agg cs) = (frzs st ws j cs).map .agg := rfl
@[simp] theorem s_okP_tup (p : Nat → Nat → Bool) (cs : List AV) : (AV.tup cs).okP p = okPs p cs := rfl
@[simp] theorem s_frz1_tup (st : St) (ws : List AV) (j : Option Nat) (cs : List AV) : frz1 st ws j (AV.tup cs) = some (AV.tup cs) := rfl
@[simp] theorem s_frzA_tup (st : St) (ws : List AV) (j : Option Nat) (cs : List AV) : frzA st ws j (.tup cs) = some (.tup cs) := rfl
@[simp] theorem s_okP_fn (p : Nat → Nat → Bool) (f : FuncId) (cs : List AV) : (AV.fn f cs).okP p = okPs p cs := rfl
@[simp] theorem s_frz1_fn (st : St) (ws : List AV) (j : Option Nat) (f : FuncId) (cs : List AV) : frz1 st ws j (AV.fn f cs) = some (AV.fn f cs) := rfl
@[simp] theorem s_frzA_fn (st : St) (ws : List AV) (j : Option Nat) (f : FuncId) (cs : List AV) : frzA st ws j (AV.fn f cs) = frz1 st ws j (AV.fn f cs) := rfl
@[simp] theorem s_okP_ub (p : Nat → Nat → Bool)  : (AV.ub).okP p = true := rfl
@[simp] theorem s_frz1_ub (st : St) (ws : List AV) (j : Option Nat)  : frz1 st ws j (AV.ub) = some (AV.ub) := rfl
@[simp] theorem s_frzA_ub (st : St) (ws : List AV) (j : Option Nat)  : frzA st ws j (AV.ub) = frz1 st ws j (AV.ub) := rfl
@[simp] theorem s_frz1_win (st : St) (ws : List AV) (j : Option Nat) (l s o n z : Nat) : frz1 st ws j (.win l s o n z) = if l = st.lv then
 match st.bx s with
 | some (.cells t cs) =>
   if o + n * z ≤ cs.length ∧ frzData cs o n z = true ∧ o + n * z ≤ ((posAt st.lv s ws 0).map (·.2)).getD (o + n * z) then
    some (.sl (frzOwn (posAt st.lv s ws 0) j o (n * z) t) z (frzRows cs o n z))
   else none
 | _ => none
 else some (.win l s o n z) := rfl
@[simp] theorem okPs_append (p : Nat → Nat → Bool) (a b : List AV) : okPs p (a ++ b) = (okPs p a && okPs p b) := by
 induction a with
 | nil => rfl
 | cons c r ih => simp [okPs, ih, Bool.and_assoc]
def cellAt (cs : List AV) (o : Nat) : Option AV := cs[o]?
@[simp] theorem aggOr_none (cs : List AV) (o : Nat) : aggOr none cs o = cellAt cs o := rfl
@[simp] theorem aggOr_some (n : Nat) (cs : List AV) (o : Nat) : aggOr (some n) cs o = if o + n ≤ cs.length then some (.agg (sub cs o n)) else none := rfl
@[simp] theorem cellAt_nil (o : Nat) : cellAt [] o = none := rfl
@[simp] theorem cellAt_zero (c : AV) (cs : List AV) : cellAt (c :: cs) 0 = some c := rfl
@[simp] theorem cellAt_succ (c : AV) (cs : List AV) (o : Nat) : cellAt (c :: cs) (o + 1) = cellAt cs o := rfl
@[simp] theorem sub_zero (cs : List AV) (n : Nat) : sub cs 0 n = cs.take n := rfl
@[simp] theorem sub_cons (c : AV) (cs : List AV) (o n : Nat) : sub (c :: cs) (o + 1) n = sub cs o n := rfl
@[simp] theorem splice_cons (c : AV) (cs : List AV) (o : Nat) (ds : List AV) : splice (c :: cs) (o + 1) ds = c :: splice cs o ds := by
 unfold splice
 rw [show o + 1 + ds.length = (o + ds.length) + 1 by omega]
 simp
@[simp] theorem splice_zero (c : AV) (cs : List AV) (d : AV) (ds : List AV) : splice (c :: cs) 0 (d :: ds) = d :: splice cs 0 ds := by simp [splice]
@[simp] theorem splice_none (cs : List AV) : splice cs 0 [] = cs := by simp [splice]
attribute [simp] IntWalk.i64_in IntWalk.i32_in IntWalk.u8_in IntWalk.u16_in IntWalk.u32_in IntWalk.u64_in
@[simp] theorem tmOf_nil (t : Nat) : tmOf [] t = .undef := rfl
@[simp] theorem tmOf_cons (k : Nat) (v : AV) (l : List (Nat × AV)) (t : Nat) : tmOf ((k, v) :: l) t = if t = k then v else tmOf l t := rfl
@[simp] theorem bxOf_nil (t : Nat) : bxOf [] t = none := rfl
@[simp] theorem bxOf_cons (k : Nat) (v : Option ABox) (l : List (Nat × Option ABox)) (t : Nat) : bxOf ((k, v) :: l) t = if t = k then v else bxOf l t := rfl
@[simp] theorem upd_tmOf (l : List (Nat × AV)) (i : Nat) (v : AV) : upd (tmOf l) i v = tmOf ((i, v) :: l) := rfl
@[simp] theorem upd_bxOf (l : List (Nat × Option ABox)) (i : Nat) (v : Option ABox) : upd (bxOf l) i v = bxOf ((i, v) :: l) := rfl
def tmArgs : Nat → List AV → List (Nat × AV)
 | _, [] => []
 | k, v :: r => (k, v) :: tmArgs (k + 1) r
theorem tmArgs_get : ∀ (l : List AV) (k t : Nat), tmOf (tmArgs k l) (k + t) = l.getD t .undef
 | [], k, t => by simp [tmArgs]
 | v :: r, k, 0 => by simp [tmArgs]
 | v :: r, k, t + 1 => by
   have := tmArgs_get r (k + 1) t
   simp only [tmArgs, tmOf_cons]
   rw [if_neg (by omega), show k + (t + 1) = k + 1 + t by omega, this]
   simp
@[simp] theorem enter_eq (F : IFunc) (args : List AV) (low : Mem) (lv : Nat) : enter F args low lv = ⟨F.n, lv, tmOf (tmArgs 0 args), bxOf [], low⟩ := by
 unfold enter
 congr 1
 funext t
 have := tmArgs_get args 0 t
 rw [Nat.zero_add] at this
 exact this.symm
attribute [simp] tmArgs
@[simp] theorem mem_lv (n lv : Nat) (tm : Nat → AV) (bx : Nat → Option ABox) (low : Mem) : (St.mk n lv tm bx low).mem lv = bx := if_pos rfl
def updM (m : Mem) (l sl : Nat) (B : ABox) : Mem := upd m l (upd (m l) sl (some B))
theorem after_own (n lv : Nat) (tm : Nat → AV) (bx : Nat → Option ABox) (low : Mem) (sl : Nat) (B : ABox) : (St.mk n lv tm bx low).after (updM ((St.mk n lv tm bx low).mem) lv sl B) = ⟨n, lv, tm, upd bx sl (some B), low⟩ := by
 unfold St.after updM
 congr 1
 ·simp [upd, St.mem]
 ·funext l
  simp only [St.mem, upd]
  split
  ·rw [if_neg (by omega), if_neg (by omega)]
  ·rfl
theorem after_low (n lv : Nat) (tm : Nat → AV) (bx : Nat → Option ABox) (low : Mem) (l sl : Nat) (B : ABox) (h : l < lv) : (St.mk n lv tm bx low).after (updM ((St.mk n lv tm bx low).mem) l sl B) = ⟨n, lv, tm, bx, updM low l sl B⟩ := by
 unfold St.after updM
 congr 1
 ·simp [upd, St.mem, show ¬ lv = l by omega]
 ·funext l'
  simp only [St.mem, upd]
  by_cases h1 : l' < lv
  ·rw [if_pos h1]
   by_cases h2 : l' = l
   ·subst h2
    rw [if_pos rfl, if_pos rfl, if_neg (by omega), if_pos h1]
   ·rw [if_neg h2, if_neg h2, if_neg (by omega), if_pos h1]
  ·rw [if_neg h1, if_neg (by omega)]
@[simp] theorem upd_low (m : Mem) (l sl : Nat) (B : ABox) : upd m l (upd (m l) sl (some B)) = updM m l sl B := rfl
theorem updM_eq (m : Mem) (l sl : Nat) (B : ABox) (l' sl' : Nat) : updM m l sl B l' sl' = if l' = l ∧ sl' = sl then some B else m l' sl' := by
 unfold updM upd
 by_cases h1 : l' = l
 ·by_cases h2 : sl' = sl
  ·simp [h1, h2]
  ·simp [h1, h2]
 ·simp [h1]
theorem updM_updM (m : Mem) (l sl : Nat) (A B : ABox) : updM (updM m l sl A) l sl B = updM m l sl B := by
 funext l' sl'
 simp only [updM_eq]
 split <;> rfl
theorem le_or (a b : Int) : ((a ≤ b) = True ∧ (b < a) = False) ∨ ((a ≤ b) = False ∧ (b < a) = True) := by
 rcases Int.lt_or_le b a with h | h
 ·exact .inr ⟨eq_false (by omega), eq_true h⟩
 ·exact .inl ⟨eq_true h, eq_false (by omega)⟩
theorem is_le {a b : Int} (h : a ≤ b) : (a ≤ b) = True ∧ (b < a) = False := ⟨eq_true h, eq_false (by omega)⟩
instance : LawfulBEq ByteArray where
 eq_of_beq {a b} h := by
  cases a; cases b
  have := eq_of_beq (α := Array UInt8) h
  exact ByteArray.ext this
 rfl {a} := BEq.rfl (α := Array UInt8) (a := a.data)
section
variable {α : Type} {f : α → List AV} {z : Nat}
end
end Go.Ev
