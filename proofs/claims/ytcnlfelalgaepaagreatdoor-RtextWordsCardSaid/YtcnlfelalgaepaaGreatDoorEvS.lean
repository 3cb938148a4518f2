/- Helpers for specifications: tests both ways, rows of equal length, slots that a list tells. Condition: none. -/
import Derived.Test.YtcnlfelalgaepaaGreatDoorEvN
import Derived.IntWalk
namespace Go.Ev
set_option linter.all false

attribute [simp] evOp evO evG hintOk IOp.addr evVal St.evX St.put St.use St.get St.setBox binAV binInt binStr unAV convAV convAV0 globAgg globCells fillParts fillRows bound sliceAV substrAV retAV eqCells resOf resOf0 resVal resRest frzRes frzs posAt frzRest frzOwn okPs isPtrless St.mask ABox.okP
@[simp] theorem s_noOwn1_undef  : (AV.undef).noOwn1 = (AV.undef) := rfl
@[simp] theorem s_noOwnA_undef  : (AV.undef).noOwnA = (AV.undef) := rfl
@[simp] theorem s_noOwn_undef  : (AV.undef).noOwn = (AV.undef) := rfl
@[simp] theorem s_isData_undef  : (AV.undef).isData = false := rfl
@[simp] theorem s_isTup_undef  : (AV.undef).isTup = false := rfl
@[simp] theorem s_known_undef  : (AV.undef).known = false := rfl
@[simp] theorem s_cells_undef  : (AV.undef).cells = [AV.undef] := rfl
@[simp] theorem s_noOwn1_bool (b : Bool) : (AV.bool b).noOwn1 = (AV.bool b) := rfl
@[simp] theorem s_noOwnA_bool (b : Bool) : (AV.bool b).noOwnA = (AV.bool b) := rfl
@[simp] theorem s_noOwn_bool (b : Bool) : (AV.bool b).noOwn = (AV.bool b) := rfl
@[simp] theorem s_isData_bool (b : Bool) : (AV.bool b).isData = true := rfl
@[simp] theorem s_isTup_bool (b : Bool) : (AV.bool b).isTup = false := rfl
@[simp] theorem s_known_bool (b : Bool) : (AV.bool b).known = true := rfl
@[simp] theorem s_cells_bool (b : Bool) : (AV.bool b).cells = [AV.bool b] := rfl
@[simp] theorem s_noOwn1_int (k : IntKind) (n : Int) : (AV.int k n).noOwn1 = (AV.int k n) := rfl
@[simp] theorem s_noOwnA_int (k : IntKind) (n : Int) : (AV.int k n).noOwnA = (AV.int k n) := rfl
@[simp] theorem s_noOwn_int (k : IntKind) (n : Int) : (AV.int k n).noOwn = (AV.int k n) := rfl
@[simp] theorem s_isData_int (k : IntKind) (n : Int) : (AV.int k n).isData = true := rfl
@[simp] theorem s_isTup_int (k : IntKind) (n : Int) : (AV.int k n).isTup = false := rfl
@[simp] theorem s_known_int (k : IntKind) (n : Int) : (AV.int k n).known = true := rfl
@[simp] theorem s_cells_int (k : IntKind) (n : Int) : (AV.int k n).cells = [AV.int k n] := rfl
@[simp] theorem s_noOwn1_str (s : ByteArray) : (AV.str s).noOwn1 = (AV.str s) := rfl
@[simp] theorem s_noOwnA_str (s : ByteArray) : (AV.str s).noOwnA = (AV.str s) := rfl
@[simp] theorem s_noOwn_str (s : ByteArray) : (AV.str s).noOwn = (AV.str s) := rfl
@[simp] theorem s_isData_str (s : ByteArray) : (AV.str s).isData = true := rfl
@[simp] theorem s_isTup_str (s : ByteArray) : (AV.str s).isTup = false := rfl
@[simp] theorem s_known_str (s : ByteArray) : (AV.str s).known = true := rfl
@[simp] theorem s_cells_str (s : ByteArray) : (AV.str s).cells = [AV.str s] := rfl
@[simp] theorem s_noOwn1_nilp  : (AV.nilp).noOwn1 = (AV.nilp) := rfl
@[simp] theorem s_noOwnA_nilp  : (AV.nilp).noOwnA = (AV.nilp) := rfl
@[simp] theorem s_noOwn_nilp  : (AV.nilp).noOwn = (AV.nilp) := rfl
@[simp] theorem s_isData_nilp  : (AV.nilp).isData = false := rfl
@[simp] theorem s_isTup_nilp  : (AV.nilp).isTup = false := rfl
@[simp] theorem s_known_nilp  : (AV.nilp).known = true := rfl
@[simp] theorem s_cells_nilp  : (AV.nilp).cells = [AV.nilp] := rfl
@[simp] theorem s_noOwn1_ptr (l s o : Nat) : (AV.ptr l s o).noOwn1 = (AV.ptr l s o) := rfl
@[simp] theorem s_noOwnA_ptr (l s o : Nat) : (AV.ptr l s o).noOwnA = (AV.ptr l s o) := rfl
@[simp] theorem s_noOwn_ptr (l s o : Nat) : (AV.ptr l s o).noOwn = (AV.ptr l s o) := rfl
@[simp] theorem s_isData_ptr (l s o : Nat) : (AV.ptr l s o).isData = false := rfl
@[simp] theorem s_isTup_ptr (l s o : Nat) : (AV.ptr l s o).isTup = false := rfl
@[simp] theorem s_known_ptr (l s o : Nat) : (AV.ptr l s o).known = true := rfl
@[simp] theorem s_cells_ptr (l s o : Nat) : (AV.ptr l s o).cells = [AV.ptr l s o] := rfl
@[simp] theorem s_noOwn1_row (cs : List AV) : (AV.row cs).noOwn1 = (AV.row cs) := rfl
@[simp] theorem s_noOwnA_row (cs : List AV) : (AV.row cs).noOwnA = (AV.row cs) := rfl
@[simp] theorem s_noOwn_row (cs : List AV) : (AV.row cs).noOwn = (AV.row cs) := rfl
@[simp] theorem s_isData_row (cs : List AV) : (AV.row cs).isData = false := rfl
@[simp] theorem s_isTup_row (cs : List AV) : (AV.row cs).isTup = false := rfl
@[simp] theorem s_known_row (cs : List AV) : (AV.row cs).known = true := rfl
@[simp] theorem s_cells_row (cs : List AV) : (AV.row cs).cells = [AV.row cs] := rfl
@[simp] theorem s_noOwn1_sl (o : Option TypeId) (z : Nat) (r : List (List AV)) : (AV.sl o z r).noOwn1 = .sl none z r := rfl
@[simp] theorem s_noOwnA_sl (o : Option TypeId) (z : Nat) (r : List (List AV)) : (AV.sl o z r).noOwnA = .sl none z r := rfl
@[simp] theorem s_noOwn_sl (o : Option TypeId) (z : Nat) (r : List (List AV)) : (AV.sl o z r).noOwn = .sl none z r := rfl
@[simp] theorem s_isTup_sl (o : Option TypeId) (z : Nat) (r : List (List AV)) : (AV.sl o z r).isTup = false := rfl
@[simp] theorem s_known_sl (o : Option TypeId) (z : Nat) (r : List (List AV)) : (AV.sl o z r).known = true := rfl
@[simp] theorem s_cells_sl (o : Option TypeId) (z : Nat) (r : List (List AV)) : (AV.sl o z r).cells = [AV.sl o z r] := rfl
@[simp] theorem s_noOwn1_win (l s o n z : Nat) : (AV.win l s o n z).noOwn1 = (AV.win l s o n z) := rfl
@[simp] theorem s_noOwnA_win (l s o n z : Nat) : (AV.win l s o n z).noOwnA = (AV.win l s o n z) := rfl
@[simp] theorem s_noOwn_win (l s o n z : Nat) : (AV.win l s o n z).noOwn = (AV.win l s o n z) := rfl
@[simp] theorem s_isData_win (l s o n z : Nat) : (AV.win l s o n z).isData = false := rfl
@[simp] theorem s_isTup_win (l s o n z : Nat) : (AV.win l s o n z).isTup = false := rfl
@[simp] theorem s_known_win (l s o n z : Nat) : (AV.win l s o n z).known = true := rfl
@[simp] theorem s_cells_win (l s o n z : Nat) : (AV.win l s o n z).cells = [AV.win l s o n z] := rfl
@[simp] theorem s_noOwn1_agg (cs : List AV) : (AV.agg cs).noOwn1 = (AV.agg cs) := rfl
@[simp] theorem s_noOwnA_agg (cs : List AV) : (AV.agg cs).noOwnA = .agg (cs.map AV.noOwn1) := rfl
@[simp] theorem s_noOwn_agg (cs : List AV) : (AV.agg cs).noOwn = .agg (cs.map AV.noOwn1) := rfl
@[simp] theorem s_isData_agg (cs : List AV) : (AV.agg cs).isData = false := rfl
@[simp] theorem s_isTup_agg (cs : List AV) : (AV.agg cs).isTup = false := rfl
@[simp] theorem s_known_agg (cs : List AV) : (AV.agg cs).known = true := rfl
@[simp] theorem s_cells_agg (cs : List AV) : (AV.agg cs).cells = cs := rfl
@[simp] theorem s_noOwn1_tup (cs : List AV) : (AV.tup cs).noOwn1 = (AV.tup cs) := rfl
@[simp] theorem s_noOwnA_tup (cs : List AV) : (AV.tup cs).noOwnA = (AV.tup cs) := rfl
@[simp] theorem s_noOwn_tup (cs : List AV) : (AV.tup cs).noOwn = .tup (cs.map AV.noOwnA) := rfl
@[simp] theorem s_isData_tup (cs : List AV) : (AV.tup cs).isData = false := rfl
@[simp] theorem s_isTup_tup (cs : List AV) : (AV.tup cs).isTup = true := rfl
@[simp] theorem s_known_tup (cs : List AV) : (AV.tup cs).known = false := rfl
@[simp] theorem s_cells_tup (cs : List AV) : (AV.tup cs).cells = [AV.tup cs] := rfl
@[simp] theorem s_noOwn1_fn (f : FuncId) (cs : List AV) : (AV.fn f cs).noOwn1 = (AV.fn f cs) := rfl
@[simp] theorem s_noOwnA_fn (f : FuncId) (cs : List AV) : (AV.fn f cs).noOwnA = (AV.fn f cs) := rfl
@[simp] theorem s_noOwn_fn (f : FuncId) (cs : List AV) : (AV.fn f cs).noOwn = (AV.fn f cs) := rfl
@[simp] theorem s_isData_fn (f : FuncId) (cs : List AV) : (AV.fn f cs).isData = false := rfl
@[simp] theorem s_isTup_fn (f : FuncId) (cs : List AV) : (AV.fn f cs).isTup = false := rfl
@[simp] theorem s_known_fn (f : FuncId) (cs : List AV) : (AV.fn f cs).known = true := rfl
@[simp] theorem s_cells_fn (f : FuncId) (cs : List AV) : (AV.fn f cs).cells = [AV.fn f cs] := rfl
@[simp] theorem s_noOwn1_ub  : (AV.ub).noOwn1 = (AV.ub) := rfl
@[simp] theorem s_noOwnA_ub  : (AV.ub).noOwnA = (AV.ub) := rfl
@[simp] theorem s_noOwn_ub  : (AV.ub).noOwn = (AV.ub) := rfl
@[simp] theorem s_isData_ub  : (AV.ub).isData = false := rfl
@[simp] theorem s_isTup_ub  : (AV.ub).isTup = false := rfl
@[simp] theorem s_known_ub  : (AV.ub).known = true := rfl
@[simp] theorem s_cells_ub  : (AV.ub).cells = [AV.ub] := rfl
@[simp] theorem s_isData_sl (z : Nat) (r : List (List AV)) : (AV.sl none z r).isData = true := rfl
@[simp] theorem s_okP_undef (p : Nat → Nat → Bool)  : (AV.undef).okP p = true := rfl
@[simp] theorem s_frz1_undef (st : St) (ws : List AV) (j : Option Nat)  : frz1 st ws j (AV.undef) = some (AV.undef) := rfl
@[simp] theorem s_frzA_undef (st : St) (ws : List AV) (j : Option Nat)  : frzA st ws j (AV.undef) = frz1 st ws j (AV.undef) := rfl
@[simp] theorem s_okP_bool (p : Nat → Nat → Bool) (b : Bool) : (AV.bool b).okP p = true := rfl
@[simp] theorem s_frz1_bool (st : St) (ws : List AV) (j : Option Nat) (b : Bool) : frz1 st ws j (AV.bool b) = some (AV.bool b) := rfl
@[simp] theorem s_frzA_bool (st : St) (ws : List AV) (j : Option Nat) (b : Bool) : frzA st ws j (AV.bool b) = frz1 st ws j (AV.bool b) := rfl
@[simp] theorem s_okP_int (p : Nat → Nat → Bool) (k : IntKind) (n : Int) : (AV.int k n).okP p = true := rfl
@[simp] theorem s_frz1_int (st : St) (ws : List AV) (j : Option Nat) (k : IntKind) (n : Int) : frz1 st ws j (AV.int k n) = some (AV.int k n) := rfl
@[simp] theorem s_frzA_int (st : St) (ws : List AV) (j : Option Nat) (k : IntKind) (n : Int) : frzA st ws j (AV.int k n) = frz1 st ws j (AV.int k n) := rfl
@[simp] theorem s_okP_str (p : Nat → Nat → Bool) (s : ByteArray) : (AV.str s).okP p = true := rfl
@[simp] theorem s_frz1_str (st : St) (ws : List AV) (j : Option Nat) (s : ByteArray) : frz1 st ws j (AV.str s) = some (AV.str s) := rfl
@[simp] theorem s_frzA_str (st : St) (ws : List AV) (j : Option Nat) (s : ByteArray) : frzA st ws j (AV.str s) = frz1 st ws j (AV.str s) := rfl
@[simp] theorem s_okP_nilp (p : Nat → Nat → Bool)  : (AV.nilp).okP p = true := rfl
@[simp] theorem s_frz1_nilp (st : St) (ws : List AV) (j : Option Nat)  : frz1 st ws j (AV.nilp) = some (AV.nilp) := rfl
@[simp] theorem s_frzA_nilp (st : St) (ws : List AV) (j : Option Nat)  : frzA st ws j (AV.nilp) = frz1 st ws j (AV.nilp) := rfl
@[simp] theorem s_okP_ptr (p : Nat → Nat → Bool) (l s o : Nat) : (AV.ptr l s o).okP p = p l s := rfl
@[simp] theorem s_frz1_ptr (st : St) (ws : List AV) (j : Option Nat) (l s o : Nat) : frz1 st ws j (AV.ptr l s o) = some (AV.ptr l s o) := rfl
@[simp] theorem s_frzA_ptr (st : St) (ws : List AV) (j : Option Nat) (l s o : Nat) : frzA st ws j (AV.ptr l s o) = frz1 st ws j (AV.ptr l s o) := rfl
@[simp] theorem s_okP_row (p : Nat → Nat → Bool) (cs : List AV) : (AV.row cs).okP p = true := rfl
@[simp] theorem s_frz1_row (st : St) (ws : List AV) (j : Option Nat) (cs : List AV) : frz1 st ws j (AV.row cs) = some (AV.row cs) := rfl
@[simp] theorem s_frzA_row (st : St) (ws : List AV) (j : Option Nat) (cs : List AV) : frzA st ws j (AV.row cs) = frz1 st ws j (AV.row cs) := rfl
@[simp] theorem s_okP_sl (p : Nat → Nat → Bool) (o : Option TypeId) (z : Nat) (r : List (List AV)) : (AV.sl o z r).okP p = true := rfl
@[simp] theorem s_frz1_sl (st : St) (ws : List AV) (j : Option Nat) (o : Option TypeId) (z : Nat) (r : List (List AV)) : frz1 st ws j (AV.sl o z r) = some (AV.sl o z r) := rfl
@[simp] theorem s_frzA_sl (st : St) (ws : List AV) (j : Option Nat) (o : Option TypeId) (z : Nat) (r : List (List AV)) : frzA st ws j (AV.sl o z r) = frz1 st ws j (AV.sl o z r) := rfl
@[simp] theorem s_okP_win (p : Nat → Nat → Bool) (l s o n z : Nat) : (AV.win l s o n z).okP p = p l s := rfl
@[simp] theorem s_frzA_win (st : St) (ws : List AV) (j : Option Nat) (l s o n z : Nat) : frzA st ws j (AV.win l s o n z) = frz1 st ws j (AV.win l s o n z) := rfl
@[simp] theorem s_okP_agg (p : Nat → Nat → Bool) (cs : List AV) : (AV.agg cs).okP p = okPs p cs := rfl
@[simp] theorem s_frz1_agg (st : St) (ws : List AV) (j : Option Nat) (cs : List AV) : frz1 st ws j (AV.agg cs) = some (AV.agg cs) := rfl
@[simp] theorem s_frzA_agg (st : St) (ws : List AV) (j : Option Nat) (cs : List AV) : frzA st ws j (.agg cs) = (frzs st ws j cs).map .agg := rfl
@[simp] theorem s_okP_tup (p : Nat → Nat → Bool) (cs : List AV) : (AV.tup cs).okP p = okPs p cs := rfl
@[simp] theorem s_frz1_tup (st : St) (ws : List AV) (j : Option Nat) (cs : List AV) : frz1 st ws j (AV.tup cs) = some (AV.tup cs) := rfl
@[simp] theorem s_frzA_tup (st : St) (ws : List AV) (j : Option Nat) (cs : List AV) : frzA st ws j (.tup cs) = some (.tup cs) := rfl
@[simp] theorem s_okP_fn (p : Nat → Nat → Bool) (f : FuncId) (cs : List AV) : (AV.fn f cs).okP p = okPs p cs := rfl
@[simp] theorem s_frz1_fn (st : St) (ws : List AV) (j : Option Nat) (f : FuncId) (cs : List AV) : frz1 st ws j (AV.fn f cs) = some (AV.fn f cs) := rfl
@[simp] theorem s_frzA_fn (st : St) (ws : List AV) (j : Option Nat) (f : FuncId) (cs : List AV) : frzA st ws j (AV.fn f cs) = frz1 st ws j (AV.fn f cs) := rfl
@[simp] theorem s_okP_ub (p : Nat → Nat → Bool)  : (AV.ub).okP p = true := rfl
@[simp] theorem s_frz1_ub (st : St) (ws : List AV) (j : Option Nat)  : frz1 st ws j (AV.ub) = some (AV.ub) := rfl
@[simp] theorem s_frzA_ub (st : St) (ws : List AV) (j : Option Nat)  : frzA st ws j (AV.ub) = frz1 st ws j (AV.ub) := rfl
@[simp] theorem s_frz1_win (st : St) (ws : List AV) (j : Option Nat) (l s o n z : Nat) : frz1 st ws j (.win l s o n z) = if l = st.lv then
      match st.bx s with
      | some (.cells t cs) =>
        if o + n * z ≤ cs.length ∧ frzData cs o n z = true ∧ o + n * z ≤ ((posAt st.lv s ws 0).map (·.2)).getD (o + n * z) then
          some (.sl (frzOwn (posAt st.lv s ws 0) j o (n * z) t) z (frzRows cs o n z))
        else none
      | _ => none
    else some (.win l s o n z) := rfl
@[simp] theorem okPs_append (p : Nat → Nat → Bool) (a b : List AV) : okPs p (a ++ b) = (okPs p a && okPs p b) := by
  induction a with
  | nil => rfl
  | cons c r ih => simp [okPs, ih, Bool.and_assoc]
/-- Cells by number. -/
def cellAt (cs : List AV) (o : Nat) : Option AV := cs[o]?
@[simp] theorem aggOr_none (cs : List AV) (o : Nat) : aggOr none cs o = cellAt cs o := rfl
@[simp] theorem aggOr_some (n : Nat) (cs : List AV) (o : Nat) : aggOr (some n) cs o = if o + n ≤ cs.length then some (.agg (sub cs o n)) else none := rfl
@[simp] theorem cellAt_nil (o : Nat) : cellAt [] o = none := rfl
@[simp] theorem cellAt_zero (c : AV) (cs : List AV) : cellAt (c :: cs) 0 = some c := rfl
@[simp] theorem cellAt_succ (c : AV) (cs : List AV) (o : Nat) : cellAt (c :: cs) (o + 1) = cellAt cs o := rfl

@[simp] theorem sub_nil (o n : Nat) : sub [] o n = [] := by simp [sub]
@[simp] theorem sub_zero (cs : List AV) (n : Nat) : sub cs 0 n = cs.take n := rfl
@[simp] theorem sub_cons (c : AV) (cs : List AV) (o n : Nat) : sub (c :: cs) (o + 1) n = sub cs o n := rfl
@[simp] theorem splice_cons (c : AV) (cs : List AV) (o : Nat) (ds : List AV) : splice (c :: cs) (o + 1) ds = c :: splice cs o ds := by
  unfold splice
  rw [show o + 1 + ds.length = (o + ds.length) + 1 by omega]
  simp
@[simp] theorem splice_zero (c : AV) (cs : List AV) (d : AV) (ds : List AV) : splice (c :: cs) 0 (d :: ds) = d :: splice cs 0 ds := by simp [splice]
@[simp] theorem splice_none (cs : List AV) : splice cs 0 [] = cs := by simp [splice]
@[simp] theorem sub_length (cs : List AV) (o n : Nat) : (sub cs o n).length = min n (cs.length - o) := by simp [sub]
attribute [simp] IntWalk.i64_in IntWalk.i32_in IntWalk.u8_in IntWalk.u16_in IntWalk.u32_in IntWalk.u64_in
theorem upd_eq {α : Type} (f : Nat → α) (i : Nat) (v : α) (j : Nat) : upd f i v j = if j = i then v else f j := rfl
/-! ### States as lists -/
@[simp] theorem tmOf_nil (t : Nat) : tmOf [] t = .undef := rfl
@[simp] theorem tmOf_cons (k : Nat) (v : AV) (l : List (Nat × AV)) (t : Nat) : tmOf ((k, v) :: l) t = if t = k then v else tmOf l t := rfl
@[simp] theorem bxOf_nil (t : Nat) : bxOf [] t = none := rfl
@[simp] theorem bxOf_cons (k : Nat) (v : Option ABox) (l : List (Nat × Option ABox)) (t : Nat) : bxOf ((k, v) :: l) t = if t = k then v else bxOf l t := rfl
@[simp] theorem upd_tmOf (l : List (Nat × AV)) (i : Nat) (v : AV) : upd (tmOf l) i v = tmOf ((i, v) :: l) := rfl
@[simp] theorem upd_bxOf (l : List (Nat × Option ABox)) (i : Nat) (v : Option ABox) : upd (bxOf l) i v = bxOf ((i, v) :: l) := rfl
def tmArgs : Nat → List AV → List (Nat × AV)
  | _, [] => []
  | k, v :: r => (k, v) :: tmArgs (k + 1) r
theorem tmArgs_get : ∀ (l : List AV) (k t : Nat), tmOf (tmArgs k l) (k + t) = l.getD t .undef
  | [], k, t => by simp [tmArgs]
  | v :: r, k, 0 => by simp [tmArgs]
  | v :: r, k, t + 1 => by
    have := tmArgs_get r (k + 1) t
    simp only [tmArgs, tmOf_cons]
    rw [if_neg (by omega), show k + (t + 1) = k + 1 + t by omega, this]
    simp
theorem tmArgs_lt : ∀ (l : List AV) (k t : Nat), t < k → tmOf (tmArgs k l) t = .undef
  | [], k, t, _ => rfl
  | v :: r, k, t, h => by
    simp only [tmArgs, tmOf_cons]
    rw [if_neg (by omega)]
    exact tmArgs_lt r (k + 1) t (by omega)
@[simp] theorem enter_eq (F : IFunc) (args : List AV) (low : Mem) (lv : Nat) : enter F args low lv = ⟨F.n, lv, tmOf (tmArgs 0 args), bxOf [], low⟩ := by
  unfold enter
  congr 1
  funext t
  have := tmArgs_get args 0 t
  rw [Nat.zero_add] at this
  exact this.symm
attribute [simp] tmArgs
@[simp] theorem mem_lv (n lv : Nat) (tm : Nat → AV) (bx : Nat → Option ABox) (low : Mem) : (St.mk n lv tm bx low).mem lv = bx := if_pos rfl
@[simp] theorem mem_up (n lv : Nat) (tm : Nat → AV) (bx : Nat → Option ABox) (low : Mem) : (St.mk n lv tm bx low).mem (lv + 1) = fun _ => none := by
  unfold St.mem
  simp only
  rw [if_neg (by omega), if_neg (by omega)]
/-- A variable of the memory is changed. -/
def updM (m : Mem) (l sl : Nat) (B : ABox) : Mem := upd m l (upd (m l) sl (some B))
@[simp] theorem after_mem (n lv : Nat) (tm : Nat → AV) (bx : Nat → Option ABox) (low : Mem) : (St.mk n lv tm bx low).after ((St.mk n lv tm bx low).mem) = ⟨n, lv, tm, bx, low⟩ := by
  unfold St.after
  congr 1
  · exact if_pos rfl
  · funext l
    simp only [St.mem]
    split
    · rw [if_neg (by omega)]
    · rfl
theorem after_own (n lv : Nat) (tm : Nat → AV) (bx : Nat → Option ABox) (low : Mem) (sl : Nat) (B : ABox) : (St.mk n lv tm bx low).after (updM ((St.mk n lv tm bx low).mem) lv sl B) = ⟨n, lv, tm, upd bx sl (some B), low⟩ := by
  unfold St.after updM
  congr 1
  · simp [upd, St.mem]
  · funext l
    simp only [St.mem, upd]
    split
    · rw [if_neg (by omega), if_neg (by omega)]
    · rfl
theorem after_low (n lv : Nat) (tm : Nat → AV) (bx : Nat → Option ABox) (low : Mem) (l sl : Nat) (B : ABox) (h : l < lv) : (St.mk n lv tm bx low).after (updM ((St.mk n lv tm bx low).mem) l sl B) = ⟨n, lv, tm, bx, updM low l sl B⟩ := by
  unfold St.after updM
  congr 1
  · simp [upd, St.mem, show ¬ lv = l by omega]
  · funext l'
    simp only [St.mem, upd]
    by_cases h1 : l' < lv
    · rw [if_pos h1]
      by_cases h2 : l' = l
      · subst h2
        rw [if_pos rfl, if_pos rfl, if_neg (by omega), if_pos h1]
      · rw [if_neg h2, if_neg h2, if_neg (by omega), if_pos h1]
    · rw [if_neg h1, if_neg (by omega)]
@[simp] theorem upd_low (m : Mem) (l sl : Nat) (B : ABox) : upd m l (upd (m l) sl (some B)) = updM m l sl B := rfl
theorem updM_eq (m : Mem) (l sl : Nat) (B : ABox) (l' sl' : Nat) : updM m l sl B l' sl' = if l' = l ∧ sl' = sl then some B else m l' sl' := by
  unfold updM upd
  by_cases h1 : l' = l
  · by_cases h2 : sl' = sl
    · simp [h1, h2]
    · simp [h1, h2]
  · simp [h1]
theorem updM_updM (m : Mem) (l sl : Nat) (A B : ABox) : updM (updM m l sl A) l sl B = updM m l sl B := by
  funext l' sl'
  simp only [updM_eq]
  split <;> rfl
/-- A test and its opposite. -/
theorem le_or (a b : Int) : ((a ≤ b) = True ∧ (b < a) = False) ∨ ((a ≤ b) = False ∧ (b < a) = True) := by
  rcases Int.lt_or_le b a with h | h
  · exact .inr ⟨eq_false (by omega), eq_true h⟩
  · exact .inl ⟨eq_true h, eq_false (by omega)⟩
theorem is_le {a b : Int} (h : a ≤ b) : (a ≤ b) = True ∧ (b < a) = False := ⟨eq_true h, eq_false (by omega)⟩
theorem is_lt {a b : Int} (h : a < b) : (b ≤ a) = False ∧ (a < b) = True := ⟨eq_false (by omega), eq_true h⟩

instance : LawfulBEq ByteArray where
  eq_of_beq {a b} h := by
    cases a; cases b
    have := eq_of_beq (α := Array UInt8) h
    exact ByteArray.ext this
  rfl {a} := BEq.rfl (α := Array UInt8) (a := a.data)
/-! ### Rows of equal length, one behind the other -/
section
variable {α : Type} {f : α → List AV} {z : Nat}
theorem flat_len (hf : ∀ x, (f x).length = z) (xs : List α) : ((xs.map f).flatten).length = xs.length * z := by
  induction xs with
  | nil => simp
  | cons x xs ih => simp [hf, ih, Nat.add_mul, Nat.add_comm]
theorem flat_take (hf : ∀ x, (f x).length = z) (xs : List α) (k : Nat) : ((xs.map f).flatten).take (k * z) = ((xs.take k).map f).flatten := by
  induction xs generalizing k with
  | nil => simp
  | cons x xs ih =>
    cases k with
    | zero => simp
    | succ k =>
      have : (k + 1) * z = (f x).length + k * z := by rw [hf, Nat.add_mul, Nat.one_mul, Nat.add_comm]
      simp only [List.map_cons, List.flatten_cons, List.take_succ_cons]
      rw [this, List.take_length_add_append, ih]
theorem flat_drop (hf : ∀ x, (f x).length = z) (xs : List α) (k : Nat) : ((xs.map f).flatten).drop (k * z) = ((xs.drop k).map f).flatten := by
  induction xs generalizing k with
  | nil => simp
  | cons x xs ih =>
    cases k with
    | zero => simp
    | succ k =>
      have : (k + 1) * z = (f x).length + k * z := by rw [hf, Nat.add_mul, Nat.one_mul, Nat.add_comm]
      simp only [List.map_cons, List.flatten_cons, List.drop_succ_cons]
      rw [this, List.drop_length_add_append, ih]
theorem flat_get? (hf : ∀ x, (f x).length = z) (xs : List α) (k j : Nat) (hj : j < z) : ((xs.map f).flatten)[k * z + j]? = (xs[k]?).bind fun x => (f x)[j]? := by
  have h := flat_drop hf xs k
  have : ((xs.map f).flatten)[k * z + j]? = (((xs.map f).flatten).drop (k * z))[j]? := by rw [List.getElem?_drop]
  rw [this, h]
  cases hx : xs.drop k with
  | nil =>
    have : xs[k]? = none := by rw [List.getElem?_eq_none_iff]; exact List.drop_eq_nil_iff.1 hx
    simp [this]
  | cons x r =>
    have : xs[k]? = some x := by
      have : (xs.drop k)[0]? = some x := by rw [hx]; rfl
      rwa [List.getElem?_drop, Nat.add_zero] at this
    simp only [this, List.map_cons, List.flatten_cons, Option.bind_some]
    rw [List.getElem?_append_left (by rw [hf]; exact hj)]
theorem flat_cell (hf : ∀ x, (f x).length = z) (xs : List α) (k : Nat) (hk : k < xs.length) (j : Nat) (hj : j < z) : cellAt ((xs.map f).flatten) (k * z + j) = cellAt (f xs[k]) j := by
  have := flat_get? hf xs k j hj
  rw [List.getElem?_eq_getElem hk] at this
  exact this
theorem flat_sub (hf : ∀ x, (f x).length = z) (xs : List α) (k n : Nat) : sub ((xs.map f).flatten) (k * z) (n * z) = (((xs.drop k).take n).map f).flatten := by
  unfold sub
  rw [flat_drop hf, flat_take hf]
theorem flat_sub1 (hf : ∀ x, (f x).length = z) (xs : List α) (k : Nat) {x : α} (hx : xs[k]? = some x) : sub ((xs.map f).flatten) (k * z) z = f x := by
  have := flat_sub hf xs k 1
  rw [Nat.one_mul] at this
  rw [this]
  have hd : xs.drop k = x :: xs.drop (k + 1) := by
    have hl := (List.getElem?_eq_some_iff.1 hx).1
    rw [List.drop_eq_getElem_cons hl]
    congr 1
    exact (List.getElem?_eq_some_iff.1 hx).2
  rw [hd]
  simp
theorem pieces_flat (hf : ∀ x, (f x).length = z) (xs : List α) (n : Nat) (hn : n = xs.length) : pieces z n ((xs.map f).flatten) = xs.map f := by
  subst hn
  apply List.ext_getElem?
  intro i
  unfold pieces
  rw [List.getElem?_map, List.getElem?_map]
  by_cases hi : i < xs.length
  · rw [List.getElem?_range hi, List.getElem?_eq_getElem hi]
    simp only [Option.map_some]
    rw [flat_sub1 hf xs i (List.getElem?_eq_getElem hi)]
  · rw [List.getElem?_eq_none (by simpa using hi), List.getElem?_eq_none (by simpa using hi)]
    rfl
theorem flat_data (hd : ∀ x, ∀ c ∈ f x, c.isData = true) (xs : List α) : ∀ c ∈ (xs.map f).flatten, c.isData = true := by
  intro c hc
  obtain ⟨r, hr, hc⟩ := List.mem_flatten.1 hc
  obtain ⟨x, _, rfl⟩ := List.mem_map.1 hr
  exact hd x c hc
theorem data_noOwn1 {c : AV} (h : c.isData = true) : c.noOwn1 = c := by
  cases c <;> try rfl
  rename_i o _ _
  cases o <;> first | rfl | cases h
theorem map_noOwn1 {cs : List AV} (h : ∀ c ∈ cs, c.isData = true) : cs.map AV.noOwn1 = cs := by
  conv => rhs; rw [← List.map_id cs]
  exact List.map_congr_left fun c hc => data_noOwn1 (h c hc)
theorem flat_noOwn1 (hd : ∀ x, ∀ c ∈ f x, c.isData = true) (xs : List α) : ((xs.map f).flatten).map AV.noOwn1 = (xs.map f).flatten := map_noOwn1 (flat_data hd xs)
theorem flat_all (hd : ∀ x, ∀ c ∈ f x, c.isData = true) (xs : List α) : ((xs.map f).flatten).all (fun c => c.noOwn1.isData) = true := by
  rw [List.all_eq_true]
  intro c hc
  have := flat_data hd xs c hc
  rw [data_noOwn1 this]
  exact this
theorem flat_okPs (hd : ∀ x, ∀ c ∈ f x, c.isData = true) (p : Nat → Nat → Bool) (xs : List α) : okPs p ((xs.map f).flatten) = true := (okPs_iff p _).2 fun c hc => okP_data p (flat_data hd xs c hc)
/-- Cells of one row are changed. -/
theorem flat_splice (hf : ∀ x, (f x).length = z) (xs : List α) (k j : Nat) (ds : List AV) (hj : j + ds.length ≤ z) {x y : α} (hx : xs[k]? = some x) (hy : f y = splice (f x) j ds) : splice ((xs.map f).flatten) (k * z + j) ds = ((xs.set k y).map f).flatten := by
  have hk := (List.getElem?_eq_some_iff.1 hx).1
  have hxk := (List.getElem?_eq_some_iff.1 hx).2
  have hset : xs.set k y = xs.take k ++ y :: xs.drop (k + 1) := by rw [List.set_eq_take_append_cons_drop, if_pos hk]
  have hxs : (xs.map f).flatten = ((xs.take k).map f).flatten ++ (f x ++ ((xs.drop (k + 1)).map f).flatten) := by
    conv => lhs; rw [← List.take_append_drop k xs, List.drop_eq_getElem_cons hk, hxk]
    simp
  have hl : (((xs.take k).map f).flatten).length = k * z := by rw [flat_len hf, List.length_take, Nat.min_eq_left (by omega)]
  rw [hset, hxs]
  simp only [List.map_append, List.map_cons, List.flatten_append, List.flatten_cons, hy]
  have hfx := hf x
  unfold splice
  rw [List.take_append, List.take_of_length_le (by omega), hl, Nat.add_sub_cancel_left, List.take_append_of_le_length (by omega)]
  rw [List.drop_append, List.drop_eq_nil_of_le (by omega), hl, List.nil_append, show k * z + j + ds.length - k * z = j + ds.length by omega, List.drop_append_of_le_length (by omega)]
  simp [List.append_assoc]
theorem flat_del (hf : ∀ x, (f x).length = z) (hd : ∀ x, ∀ c ∈ f x, c.isData = true) (xs : List α) (k : Nat) : delCells ((xs.map f).flatten) k xs.length z = ((xs.eraseIdx k).map f).flatten := by
  unfold delCells
  rw [flat_take hf, flat_take hf, List.take_length, flat_drop hf, ← List.flatten_append, ← List.map_append, ← List.eraseIdx_eq_take_drop_succ, flat_noOwn1 hd]
theorem flat_frz (hf : ∀ x, (f x).length = z) (hd : ∀ x, ∀ c ∈ f x, c.isData = true) (xs : List α) : frzRows ((xs.map f).flatten) 0 xs.length z = xs.map f := by
  unfold frzRows
  rw [sub_zero, flat_take hf, List.take_length, flat_noOwn1 hd, pieces_flat hf _ _ rfl]
theorem flat_frzd (hd : ∀ x, ∀ c ∈ f x, c.isData = true) (xs : List α) (o n : Nat) : frzData ((xs.map f).flatten) o n z = true := by
  unfold frzData
  rw [List.all_eq_true]
  intro c hc
  have := flat_data hd xs c (List.mem_of_mem_drop (List.mem_of_mem_take hc))
  rw [data_noOwn1 this]
  exact this
theorem flat_len' (hf : ∀ x, (f x).length = z) (xs : List α) : xs.length * z ≤ ((xs.map f).flatten).length := by rw [flat_len hf]; exact Nat.le_refl _
end
end Go.Ev
