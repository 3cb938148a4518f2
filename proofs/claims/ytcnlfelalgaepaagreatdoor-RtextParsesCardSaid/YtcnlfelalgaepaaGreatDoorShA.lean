/- ShP, ShX, ShY, joined. Condition: each part's own. -/
import Derived.Test.YtcnlfelalgaepaaGreatDoorRtB
import Derived.Test.YtcnlfelalgaepaaGreatDoorEvR
namespace Go.Ev
set_option linter.all false
section
variable {α β γ δ ε ζ : Type}
def ln (l : List α) : Int := (l.length : Int)
def bv (b : UInt8) : Int := (b.toNat : Int)
def u8 (x : Int) : UInt8 := UInt8.ofNat x.toNat
def isB (x : Int) : Bool := decide (0 ≤ x) && decide (x ≤ 255)
def eqI (a b : Int) : Bool := a == b
def ltI (a b : Int) : Bool := decide (a < b)
def leI (a b : Int) : Bool := decide (a ≤ b)
def eqS (a b : List UInt8) : Bool := a == b
def ltS (a b : List UInt8) : Bool := Op.bytesLess a b
def addI (k : IntKind) (a b : Int) : Int := k.wrap (a + b)
def subI (k : IntKind) (a b : Int) : Int := k.wrap (a - b)
def mulI (k : IntKind) (a b : Int) : Int := k.wrap (a * b)
def negI (k : IntKind) (a : Int) : Int := k.wrap (0 - a)
def quoI (k : IntKind) (a b : Int) : Option Int := if b = 0 then none else some (k.wrap (a.tdiv b))
def remI (k : IntKind) (a b : Int) : Option Int := if b = 0 then none else some (a.tmod b)
def andI (k : IntKind) (a b : Int) : Int := k.wrap (BitVec.ofInt k.bits a &&& BitVec.ofInt k.bits b).toNat
def orI (k : IntKind) (a b : Int) : Int := k.wrap (BitVec.ofInt k.bits a ||| BitVec.ofInt k.bits b).toNat
def xorI (k : IntKind) (a b : Int) : Int := k.wrap (BitVec.ofInt k.bits a ^^^ BitVec.ofInt k.bits b).toNat
def andNotI (k : IntKind) (a b : Int) : Int := k.wrap (BitVec.ofInt k.bits a &&& ~~~ BitVec.ofInt k.bits b).toNat
def notI (k : IntKind) (n : Int) : Int := k.wrap (BitVec.ofInt k.bits (if k.signed then -1 else k.max) ^^^ BitVec.ofInt k.bits n).toNat
def shlI (k : IntKind) (a b : Int) : Option Int := if b < 0 then none else some (k.wrap (a * 2 ^ min b.toNat k.bits))
def shrI (k : IntKind) (a b : Int) : Option Int := if b < 0 then none else some (a.fdiv (2 ^ min b.toNat k.bits))
def mmI (mx : Bool) (a b : Int) : Int := if mx then (if b > a then b else a) else (if b < a then b else a)
def convI (k : IntKind) (a : Int) : Int := k.wrap a
def atI (l : List α) (i : Int) : Option α := if 0 ≤ i then l[i.toNat]? else none
def cutI (l : List α) (lo hi : Int) : Option (List α) := if 0 ≤ lo ∧ lo ≤ hi ∧ hi ≤ l.length then some ((l.take hi.toNat).drop lo.toNat) else none
def catI (a b : List UInt8) : Option (List UInt8) := if a.length + b.length ≤ 4611686018427387904 then some (a ++ b) else none
def s2bI (a : List UInt8) : Option (List UInt8) := if a.length ≤ 4611686018427387904 then some a else none
def roomN (n bytes : Nat) : Bool := decide (n * bytes ≤ 140737488355328) && decide (n ≤ 9223372036854775807)
def room (a : List α) (b : List β) (bytes : Nat) : Bool := roomN (a.length + b.length) bytes
def room1 (a : List α) (k bytes : Nat) : Bool := roomN (a.length + k) bytes
def mkI (n : Int) (bytes : Nat) : Option Nat := if 0 ≤ n ∧ n * bytes ≤ 140737488355328 then some n.toNat else none
def encI (n : Int) : List UInt8 := (Utf8.encode n).data.toList
def ixB (l : List UInt8) (c : Int) : Int := Lib.indexByte l c.toNat.toUInt8
def ctB (l : List UInt8) (c : Int) : Int := (Lib.countByte l c.toNat.toUInt8 : Nat)
inductive O1 (α : Type) where
 | a (x : α)
inductive O2 (α β : Type) where
 | a (x : α)
 | b (x : β)
inductive O3 (α β γ : Type) where
 | a (x : α)
 | b (x : β)
 | c (x : γ)
inductive O4 (α β γ δ : Type) where
 | a (x : α)
 | b (x : β)
 | c (x : γ)
 | d (x : δ)
inductive O5 (α β γ δ ε : Type) where
 | a (x : α)
 | b (x : β)
 | c (x : γ)
 | d (x : δ)
 | e (x : ε)
inductive O6 (α β γ δ ε ζ : Type) where
 | a (x : α)
 | b (x : β)
 | c (x : γ)
 | d (x : δ)
 | e (x : ε)
 | f (x : ζ)
def O2.el (f : α → γ) (g : β → γ) : O2 α β → γ
 | .a x => f x
 | .b x => g x
def O3.el (f : α → ζ) (g : β → ζ) (h : γ → ζ) : O3 α β γ → ζ
 | .a x => f x
 | .b x => g x
 | .c x => h x
def O4.el {η : Type} (f : α → η) (g : β → η) (h : γ → η) (i : δ → η) : O4 α β γ δ → η
 | .a x => f x
 | .b x => g x
 | .c x => h x
 | .d x => i x
def O5.el {η : Type} (f : α → η) (g : β → η) (h : γ → η) (i : δ → η) (j : ε → η) : O5 α β γ δ ε → η
 | .a x => f x
 | .b x => g x
 | .c x => h x
 | .d x => i x
 | .e x => j x
def O6.el {η : Type} (f : α → η) (g : β → η) (h : γ → η) (i : δ → η) (j : ε → η) (k : ζ → η) : O6 α β γ δ ε ζ → η
 | .a x => f x
 | .b x => g x
 | .c x => h x
 | .d x => i x
 | .e x => j x
 | .f x => k x
def Ok (e : Option α) (P : α → Prop) : Prop := ∀ r, e = some r → P r
theorem Ok.ite {c : Bool} {a b : Option α} {P : α → Prop} (h1 : c = true → Ok a P) (h2 : c = false → Ok b P) : Ok (cond c a b) P := by
 cases c
 ·exact h2 rfl
 ·exact h1 rfl
theorem Ok.bind {e : Option β} {f : β → Option α} {P : α → Prop} (h : ∀ x, e = some x → Ok (f x) P) : Ok (e.bind f) P := by
 intro r hr
 obtain ⟨x, h1, h2⟩ := Option.bind_eq_some_iff.1 hr
 exact h x h1 r h2
theorem Ok.bind2 {e : Option (O2 β γ)} {f : β → Option α} {g : γ → Option α} {P : α → Prop} (hf : ∀ x, e = some (.a x) → Ok (f x) P) (hg : ∀ x, e = some (.b x) → Ok (g x) P) : Ok (e.bind (O2.el f g)) P :=
 Ok.bind fun o ho => by cases o with
  | a x => exact hf x ho
  | b x => exact hg x ho
theorem Ok.none {P : α → Prop} : Ok (none : Option α) P := fun _ h => by cases h
theorem Ok.some {x : α} {P : α → Prop} (h : P x) : Ok (some x) P := fun _ e => by injection e with e; exact e ▸ h
theorem Ok.of {e : Option α} {P : α → Prop} (h : Ok e P) {r : α} (hr : e = .some r) : P r := h r hr
attribute [simp] O2.el O3.el O4.el O5.el O6.el
end
end Go.Ev
namespace Go.Ev
set_option linter.all false
section
variable {α β : Type}
theorem cast_ln (l : List α) : ((l.length : Nat) : Int) = ln l := rfl
theorem cast_bv (b : UInt8) : ((b.toNat : Nat) : Int) = bv b := rfl
theorem u8_bv (b : UInt8) : u8 (bv b) = b := by
 unfold u8 bv
 rw [Int.toNat_natCast]
 simp
theorem bv_u8 (x : Int) (h0 : 0 ≤ x) (h1 : x ≤ 255) : bv (u8 x) = x := by
 unfold u8 bv
 rw [UInt8.toNat_ofNat']
 omega
attribute [simp] u8_bv bv_u8
theorem wrap_u8 (x : Int) : 0 ≤ IntKind.u8.wrap x ∧ IntKind.u8.wrap x ≤ 255 := by
 rw [IntKind.wrap_u8]
 omega
@[simp] theorem bv_u8_add (a b : Int) : bv (u8 (addI .u8 a b)) = addI .u8 a b := bv_u8 _ (wrap_u8 _).1 (wrap_u8 _).2
@[simp] theorem bv_u8_or (a b : Int) : bv (u8 (orI .u8 a b)) = orI .u8 a b := bv_u8 _ (wrap_u8 _).1 (wrap_u8 _).2
@[simp] theorem bv_u8_conv (a : Int) : bv (u8 (convI .u8 a)) = convI .u8 a := bv_u8 _ (wrap_u8 _).1 (wrap_u8 _).2
def binW := binAV
def unW := unAV
def convW := convAV0
def substrW := substrAV
def sliceW := sliceAV
def eqW := eqCells
def valW := evVal
def stepW := evOp
section
variable {O : Orc} {n lv : Nat} {tm : Nat → AV} {bx : Nat → Option ABox} {low : Mem} {ks : List K} {d : Option Nat} {s : St}
@[simp high] theorem goOps_consW (o : IOper) (ops : List IOper) : goOps O (o :: ops) (some ⟨n, lv, tm, bx, low⟩) ks = goOps O ops (stepW O o ⟨n, lv, tm, bx, low⟩) ks := goOps_cons o ops
def putW (d : Option Nat) (r : Option (AV × St)) : Option St := r.map fun r => r.2.put d r.1
@[simp] theorem putW_some (d : Nat) (v : AV) : putW (some d) (some (v, ⟨n, lv, tm, bx, low⟩)) = some ⟨n, lv, upd tm d v, bx, low⟩ := rfl
@[simp] theorem putW_nul (v : AV) : putW none (some (v, ⟨n, lv, tm, bx, low⟩)) = some ⟨n, lv, tm, bx, low⟩ := rfl
@[simp] theorem putW_none : putW d none = none := rfl
@[simp] theorem stepW_any (op : IOp) : stepW O ⟨op, d, none, .any⟩ ⟨n, lv, tm, bx, low⟩ = putW d (valW O op d ⟨n, lv, tm, bx, low⟩) := rfl
@[simp] theorem stepW_hint (op : IOp) (h : H) : stepW O ⟨op, d, none, h⟩ ⟨n, lv, tm, bx, low⟩ = if hintOk h (op.addr.map (St.mk n lv tm bx low).evX) lv then putW d (valW O op d ⟨n, lv, tm, bx, low⟩) else none := by
 show (if hintOk h (op.addr.map (St.mk n lv tm bx low).evX) lv then evVal O op d ⟨n, lv, tm, bx, low⟩ else none).map _ = _
 split <;> rfl
def guardW (g : AV) (want : Bool) (y : Option St) (x : Option St) : Option St :=
 match g with
 | .bool b => if b = want then y else x
 | .tup [] => x
 | _ => none
@[simp] theorem guardW_t (y x : Option St) : guardW (.bool true) true y x = y := rfl
@[simp] theorem guardW_f (y x : Option St) : guardW (.bool false) false y x = y := rfl
@[simp] theorem guardW_tf (y x : Option St) : guardW (.bool true) false y x = x := rfl
@[simp] theorem guardW_ft (y x : Option St) : guardW (.bool false) true y x = x := rfl
@[simp] theorem guardW_u (w : Bool) (y x : Option St) : guardW (.tup []) w y x = x := rfl
@[simp] theorem stepW_gh (op : IOp) (g : Nat) (want : Bool) (h : H) : stepW O ⟨op, d, some (g, want), h⟩ ⟨n, lv, tm, bx, low⟩ = guardW (tm g) want (if hintOk h (op.addr.map (St.mk n lv tm bx low).evX) lv then putW d (valW O op d ⟨n, lv, tm, bx, low⟩) else none) (putW d (some (.tup [], ⟨n, lv, tm, bx, low⟩))) := by
 have e : ∀ c : Bool, (if c = true then evVal O op d ⟨n, lv, tm, bx, low⟩ else none).map (fun r => r.2.put d r.1) = if c = true then putW d (valW O op d ⟨n, lv, tm, bx, low⟩) else none := by intro c; cases c <;> rfl
 unfold stepW evOp evO guardW evG
 simp only
 generalize tm g = v
 cases v <;> try rfl
 ·simp only
  split
  ·exact e _
  ·rfl
 ·rename_i vs
  cases vs <;> rfl
@[simp] theorem w_mov (x : X) : valW O (.mov x false) d s = some ((s.evX x).noOwn, s) := rfl
@[simp] theorem w_movT (x : X) : valW O (.mov x true) d s = some (s.evX x, s.use x) := rfl
def pickW (c a b : AV) (s : St) : Option (AV × St) :=
 match c with
 | .bool t => if t then some (a.noOwn, s) else some (b.noOwn, s)
 | _ => none
@[simp] theorem pickW_t (a b : AV) : pickW (.bool true) a b s = some (a.noOwn, s) := rfl
@[simp] theorem pickW_f (a b : AV) : pickW (.bool false) a b s = some (b.noOwn, s) := rfl
@[simp] theorem w_pick (c a b : X) : valW O (.pick c a b) d s = pickW (s.evX c) (s.evX a) (s.evX b) s := by
 show evVal O (.pick c a b) d s = _
 simp only [evVal]
 unfold pickW
 cases s.evX c <;> simp
 rename_i t
 cases t <;> rfl
@[simp] theorem w_alloc (t : TypeId) (cs : List AV) (d : Nat) : valW O (.alloc t cs) (some d) s = if (s.bx d).isNone ∧ isPtrless cs then some (.ptr s.lv d 0, { s with bx := upd s.bx d (some (.cells t cs)) }) else none := rfl
@[simp] theorem w_box (t : TypeId) (x : X) (d : Nat) : valW O (.box t x) (some d) s = if (s.bx d).isNone ∧ (s.evX x).known = true then some (.ptr s.lv d 0, { s.use x with bx := upd s.bx d (some (.cells t (s.evX x).cells)) }) else none := rfl
@[simp] theorem w_build (zero : List AV) (parts : List (Nat × Nat × X)) : valW O (.build zero parts) d s = (fillParts s zero parts).map fun r => (.agg r.1, r.2) := rfl
@[simp] theorem w_bslice (e : TypeId) (zero : List AV) (k : Nat) (parts : List (Nat × X)) : valW O (.bslice e zero k parts) d s = (fillRows s zero.length (List.replicate k zero) parts).map fun rows => (.sl (some e) zero.length rows, s) := rfl
def loadW (v : AV) (agg : Option Nat) (take : Bool) (s : St) : Option (AV × St) :=
 match v with
 | .ptr l sl o =>
   match s.get l sl with
   | some (.cells t cs) =>
     match aggOr agg cs o with
     | some v => if take then (if agg.isSome || v.one then some (v, s.setBox l sl (.cells t (splice cs o (v.cells.map AV.noOwn1)))) else none) else some (v.noOwn, s)
     | none => none
   | _ => none
 | .row cs => (aggOr agg cs 0).map fun v => (v, s)
 | .glob g o => (globAgg agg g o).map fun v => (v, s)
 | _ => none
@[simp] theorem w_load (x : X) (agg : Option Nat) (take : Bool) : valW O (.load x agg take) d s = loadW (s.evX x) agg take s := rfl
@[simp] theorem loadW_row (cs : List AV) (agg : Option Nat) (take : Bool) : loadW (.row cs) agg take s = (aggOr agg cs 0).map fun v => (v, s) := rfl
@[simp] theorem loadW_glob (g o : Nat) (agg : Option Nat) (take : Bool) : loadW (.glob g o) agg take s = (globAgg agg g o).map fun v => (v, s) := rfl
def loadB (b : Option ABox) (l sl o : Nat) (agg : Option Nat) (take : Bool) (s : St) : Option (AV × St) :=
 match b with
 | some (.cells t cs) =>
   match aggOr agg cs o with
   | some v => if take then (if agg.isSome || v.one then some (v, s.setBox l sl (.cells t (splice cs o (v.cells.map AV.noOwn1)))) else none) else some (v.noOwn, s)
   | none => none
 | _ => none
def loadC (t : TypeId) (cs : List AV) (v : Option AV) (l sl o : Nat) (agg : Option Nat) (take : Bool) (s : St) : Option (AV × St) :=
 match v with
 | some v => if take then (if agg.isSome || v.one then some (v, s.setBox l sl (.cells t (splice cs o (v.cells.map AV.noOwn1)))) else none) else some (v.noOwn, s)
 | none => none
@[simp] theorem loadW_ptr (l sl o : Nat) (agg : Option Nat) (take : Bool) : loadW (.ptr l sl o) agg take s = loadB (s.get l sl) l sl o agg take s := rfl
@[simp] theorem loadB_cells (t : TypeId) (cs : List AV) (l sl o : Nat) (agg : Option Nat) (take : Bool) : loadB (some (.cells t cs)) l sl o agg take s = loadC t cs (aggOr agg cs o) l sl o agg take s := rfl
@[simp] theorem loadC_f (t : TypeId) (cs : List AV) (v : AV) (l sl o : Nat) (agg : Option Nat) : loadC t cs (some v) l sl o agg false s = some (v.noOwn, s) := rfl
@[simp] theorem loadC_t (t : TypeId) (cs : List AV) (v : AV) (l sl o : Nat) (agg : Option Nat) : loadC t cs (some v) l sl o agg true s = if agg.isSome || v.one then some (v, s.setBox l sl (.cells t (splice cs o (v.cells.map AV.noOwn1)))) else none := rfl
def storeW (a v : AV) (x : X) (sz : Nat) (s : St) : Option (AV × St) :=
 match a with
 | .ptr l sl o =>
   match s.get l sl with
   | some (.cells t cs) =>
     let u := v.cells
     if u.length = sz ∧ v.known = true ∧ o + sz ≤ cs.length ∧ (l = s.lv ∨ okPs (fun l' _ => decide (l' ≤ l)) u = true) then some (.tup [], (s.use x).setBox l sl (.cells t (splice cs o u))) else none
   | _ => none
 | _ => none
def storeB (b : Option ABox) (l sl o : Nat) (v : AV) (x : X) (sz : Nat) (s : St) : Option (AV × St) :=
 match b with
 | some (.cells t cs) => if v.cells.length = sz ∧ v.known = true ∧ o + sz ≤ cs.length ∧ (l = s.lv ∨ okPs (fun l' _ => decide (l' ≤ l)) v.cells = true) then some (.tup [], (s.use x).setBox l sl (.cells t (splice cs o v.cells))) else none
 | _ => none
@[simp] theorem w_store (x v : X) (sz : Nat) : valW O (.store x v sz) d s = storeW (s.evX x) (s.evX v) v sz s := rfl
@[simp] theorem storeW_ptr (l sl o : Nat) (v : AV) (x : X) (sz : Nat) : storeW (.ptr l sl o) v x sz s = storeB (s.get l sl) l sl o v x sz s := rfl
@[simp] theorem storeB_cells (t : TypeId) (cs : List AV) (l sl o : Nat) (v : AV) (x : X) (sz : Nat) : storeB (some (.cells t cs)) l sl o v x sz s = if v.cells.length = sz ∧ v.known = true ∧ o + sz ≤ cs.length ∧ (l = s.lv ∨ okPs (fun l' _ => decide (l' ≤ l)) v.cells = true) then some (.tup [], (s.use x).setBox l sl (.cells t (splice cs o v.cells))) else none := rfl
def chkW (v : AV) (s : St) : Option (AV × St) :=
 match v with
 | .ptr l sl o => some (.ptr l sl o, s)
 | .row cs => some (.row cs, s)
 | .glob g o => some (.glob g o, s)
 | _ => none
@[simp] theorem w_chk (x : X) : valW O (.chk x) d s = chkW (s.evX x) s := rfl
@[simp] theorem chkW_ptr (l sl o : Nat) : chkW (.ptr l sl o) s = some (.ptr l sl o, s) := rfl
@[simp] theorem chkW_row (cs : List AV) : chkW (.row cs) s = some (.row cs, s) := rfl
@[simp] theorem chkW_glob (g o : Nat) : chkW (.glob g o) s = some (.glob g o, s) := rfl
@[simp] theorem w_bin (op : BinOp) (x y : X) : valW O (.bin op x y) d s = (binW op (s.evX x) (s.evX y)).map fun v => (v, s) := rfl
def eqbW (neg : Bool) (x y : AV) (s : St) : Option (AV × St) :=
 match x, y with
 | .bool a, .bool b => some (.bool (if neg then !(a == b) else a == b), s)
 | _, _ => none
@[simp] theorem w_eqb (neg : Bool) (x y : X) : valW O (.eqb neg x y) d s = eqbW neg (s.evX x) (s.evX y) s := rfl
@[simp] theorem eqbW_b (neg a b : Bool) : eqbW neg (.bool a) (.bool b) s = some (.bool (if neg then !(a == b) else a == b), s) := rfl
def eqaW (neg : Bool) (ks : List CK) (x y : AV) (s : St) : Option (AV × St) :=
 match x, y with
 | .agg a, .agg b => (eqW ks a b).map fun r => (.bool (if neg then !r else r), s)
 | _, _ => none
@[simp] theorem w_eq (neg : Bool) (kk : List CK) (x y : X) : valW O (.eq neg kk x y) d s = eqaW neg kk (s.evX x) (s.evX y) s := rfl
@[simp] theorem eqaW_a (neg : Bool) (kk : List CK) (a b : List AV) : eqaW neg kk (.agg a) (.agg b) s = (eqW kk a b).map fun r => (.bool (if neg then !r else r), s) := rfl
@[simp] theorem w_un (op : UnOp) (x : X) : valW O (.un op x) d s = (unW op (s.evX x)).map fun v => (v, s) := rfl
def convM (k : Cv) (v : AV) (s : St) : Option (AV × St) := (convAV k v).map fun v => (v, s)
@[simp] theorem w_conv (k : Cv) (x : X) : valW O (.conv k x) d s = convM k (s.evX x) s := rfl
@[simp] theorem convM_mki (v : AV) : convM .mki v s = some (.ifc true, s) := rfl
@[simp] theorem convM_int (k : IntKind) (v : AV) : convM (.int k) v s = (convW (.int k) v).map fun v => (v, s) := rfl
@[simp] theorem convM_same (v : AV) : convM .same v s = (convW .same v).map fun v => (v, s) := rfl
@[simp] theorem convM_b2s (v : AV) : convM .b2s v s = (convW .b2s v).map fun v => (v, s) := rfl
@[simp] theorem convM_s2b (e : TypeId) (v : AV) : convM (.s2b e) v s = (convW (.s2b e) v).map fun v => (v, s) := rfl
@[simp] theorem convM_r2s (v : AV) : convM .r2s v s = (convW .r2s v).map fun v => (v, s) := rfl
@[simp] theorem convM_isnil (b : Bool) (v : AV) : convM (.isnil b) v s = (convW (.isnil b) v).map fun v => (v, s) := rfl
@[simp] theorem w_slice (x : X) (lo hi : Option X) (sz : Nat) : valW O (.slice x lo hi sz) d s = (sliceW (s.evX x) (lo.map s.evX) (hi.map s.evX) sz).map fun v => (v, s) := rfl
@[simp] theorem w_substr (x : X) (lo hi : Option X) : valW O (.substr x lo hi) d s = (substrW (s.evX x) (lo.map s.evX) (hi.map s.evX)).map fun v => (v, s) := rfl
def faddrW (v : AV) (off : Nat) (s : St) : Option (AV × St) :=
 match v with
 | .ptr l sl o => some (.ptr l sl (o + off), s)
 | .row cs => if off < cs.length then some (.row (cs.drop off), s) else none
 | .glob g o => some (.glob g (o + off), s)
 | _ => none
@[simp] theorem w_faddr (x : X) (off : Nat) : valW O (.faddr x off) d s = faddrW (s.evX x) off s := rfl
@[simp] theorem faddrW_ptr (l sl o off : Nat) : faddrW (.ptr l sl o) off s = some (.ptr l sl (o + off), s) := rfl
@[simp] theorem faddrW_row (cs : List AV) (off : Nat) : faddrW (.row cs) off s = if off < cs.length then some (.row (cs.drop off), s) else none := rfl
@[simp] theorem faddrW_glob (g o off : Nat) : faddrW (.glob g o) off s = some (.glob g (o + off), s) := rfl
def fieldW (v : AV) (off : Nat) (agg : Option Nat) (s : St) : Option (AV × St) :=
 match v with
 | .agg cs => (aggOr agg cs off).map fun v => (v.noOwn, s)
 | _ => none
@[simp] theorem w_field (x : X) (off : Nat) (agg : Option Nat) : valW O (.field x off agg) d s = fieldW (s.evX x) off agg s := rfl
@[simp] theorem fieldW_agg (cs : List AV) (off : Nat) (agg : Option Nat) : fieldW (.agg cs) off agg s = (aggOr agg cs off).map fun v => (v.noOwn, s) := rfl
def extW (v : AV) (x : X) (i : Nat) (take : Bool) (s : St) : Option (AV × St) :=
 match v, x with
 | .tup vs, .t n => (vs[i]?).bind fun v => if v.isTup then none else if take then some (v, { s with tm := upd s.tm n (.tup (vs.set i v.noOwnA)) }) else some (v.noOwnA, s)
 | _, _ => none
@[simp] theorem w_ext (x : X) (i : Nat) (take : Bool) : valW O (.ext x i take) d s = extW (s.evX x) x i take s := rfl
@[simp] theorem extW_tup (vs : List AV) (n i : Nat) (take : Bool) : extW (.tup vs) (.t n) i take s = (cellAt vs i).bind fun v => if v.isTup then none else if take then some (v, { s with tm := upd s.tm n (.tup (vs.set i v.noOwnA)) }) else some (v.noOwnA, s) := rfl
def lenW (v : AV) (s : St) : Option (AV × St) :=
 match v with
 | .sl _ _ rows => some (.int .i64 rows.length, s)
 | .win _ _ _ m _ => some (.int .i64 m, s)
 | .asl _ _ _ m _ => some (.int .i64 m, s)
 | _ => none
@[simp] theorem w_len (x : X) : valW O (.len x) d s = lenW (s.evX x) s := rfl
@[simp] theorem lenW_sl (o : Option TypeId) (z : Nat) (rows : List (List AV)) : lenW (.sl o z rows) s = some (.int .i64 (rows.length : Int), s) := rfl
def lenSW (v : AV) (s : St) : Option (AV × St) :=
 match v with
 | .str b => some (.int .i64 b.size, s)
 | _ => none
@[simp] theorem w_lenS (x : X) : valW O (.lenS x) d s = lenSW (s.evX x) s := rfl
@[simp] theorem lenSW_s (l : List UInt8) : lenSW (.str (bs l)) s = some (.int .i64 (l.length : Int), s) := rfl
def retW (r : Option (List AV × Mem)) (s : St) : Option (AV × St) := r.map fun r => (retAV r.1, s.after r.2)
@[simp] theorem retW_some (vs : List AV) (m : Mem) : retW (some (vs, m)) s = some (retAV vs, s.after m) := rfl
def retP (r : Option (List AV × Mem)) (s : St) : Option (AV × St) := r.map fun r => (retAV r.1, s)
@[simp] theorem retP_some (vs : List AV) (m : Mem) : retP (some (vs, m)) s = some (retAV vs, s) := rfl
def callW (O : Orc) (pure : Bool) (f : AV) (vs : List AV) (s : St) : Option (AV × St) :=
 match f with
 | .fn g caps => if pure then (if isPtrless (vs ++ caps.map AV.noOwn) then retP (O.call g (vs ++ caps.map AV.noOwn) noMem 0) s else none) else retW (O.call g (vs ++ caps.map AV.noOwn) s.mem (s.lv + 1)) s
 | _ => none
@[simp] theorem w_call (pure : Bool) (f : X) (args : List X) : valW O (.call pure f args) d s = callW O pure (s.evX f) (args.map fun x => (s.evX x).noOwn) s := by
 show evVal O (.call pure f args) d s = _
 simp only [evVal]
 unfold callW
 cases s.evX f <;> simp
 cases pure <;> simp [retP, retW]
@[simp] theorem callW_p (g : FuncId) (caps vs : List AV) : callW O true (.fn g caps) vs s = if isPtrless (vs ++ caps.map AV.noOwn) then retP (O.call g (vs ++ caps.map AV.noOwn) noMem 0) s else none := rfl
@[simp] theorem callW_f (g : FuncId) (caps vs : List AV) : callW O false (.fn g caps) vs s = retW (O.call g (vs ++ caps.map AV.noOwn) s.mem (s.lv + 1)) s := rfl
def retH (r : Option (List AV × Mem)) (s : St) : Option (AV × St) :=
 match r with
 | some (rs, low') => if (retAV rs).okP (fun l _ => decide (l ≠ s.lv)) = true then some (retAV rs, { s with low := fun l => if l < s.lv then low' l else s.low l }) else none
 | none => none
def callHW (O : Orc) (f : AV) (vs : List AV) (s : St) : Option (AV × St) :=
 match f with
 | .fn g caps => if okPs (fun l _ => decide (l ≠ s.lv)) (vs ++ caps.map AV.noOwn) then retH (O.call g (vs ++ caps.map AV.noOwn) (hidMem s.lv s.mem) (s.lv + 1)) s else none
 | _ => none
@[simp] theorem w_callH (f : X) (args : List X) : valW O (.callH f args) d s = callHW O (s.evX f) (args.map fun x => (s.evX x).noOwn) s := rfl
@[simp] theorem callHW_f (g : FuncId) (caps vs : List AV) : callHW O (.fn g caps) vs s = if okPs (fun l _ => decide (l ≠ s.lv)) (vs ++ caps.map AV.noOwn) then retH (O.call g (vs ++ caps.map AV.noOwn) (hidMem s.lv s.mem) (s.lv + 1)) s else none := rfl
@[simp] theorem mem_at (l : Nat) (h : l < lv) : (St.mk n lv tm bx low).mem l = low l := by
 unfold St.mem
 simp only
 rw [if_neg (by omega), if_pos h]
@[simp] theorem updM_at (m : Mem) (l sl : Nat) (B : ABox) : updM m l sl B l sl = some B := by rw [updM_eq, if_pos ⟨rfl, rfl⟩]
theorem updM_self {m : Mem} {l sl : Nat} {B : ABox} (h : m l sl = some B) : updM m l sl B = m := by
 funext a b
 rw [updM_eq]
 split
 ·rename_i h1; rw [h1.1, h1.2, h]
 ·rfl
attribute [simp] updM_updM after_own
@[simp] theorem after_low' (l sl : Nat) (B : ABox) (h : l < lv) : (St.mk n lv tm bx low).after (updM ((St.mk n lv tm bx low).mem) l sl B) = ⟨n, lv, tm, bx, updM low l sl B⟩ := after_low n lv tm bx low l sl B h
@[simp] theorem w_mkf (f : FuncId) (caps : List X) : valW O (.mkf f caps) d s = some (.fn f (caps.map fun x => (s.evX x).noOwn), s) := rfl
@[simp] theorem w_fail : valW O .fail d s = none := rfl
@[simp] theorem w_unnot (b : Bool) : unW .not (.bool b) = some (.bool (!b)) := rfl
@[simp] theorem w_same (b : ByteArray) : convW .same (.str b) = some (.str b) := rfl
@[simp] theorem w_b2s (o : Option TypeId) (z : Nat) (rows : List (List AV)) : convW .b2s (.sl o z rows) = (bytesOf rows).map fun l => .str (bs l) := rfl
@[simp] theorem w_isnil (neg nn : Bool) : convW (.isnil neg) (.ifc nn) = some (.bool (nn == neg)) := rfl
@[simp] theorem w_eqnil : eqW [] [] [] = some true := rfl
@[simp] theorem w_eqb' (kk : List CK) (a b : Bool) (r q : List AV) : eqW (.b :: kk) (.bool a :: r) (.bool b :: q) = (eqW kk r q).map ((a == b) && ·) := rfl
end
@[simp high] theorem x_add (k : IntKind) (a b : Int) : binW .add (.int k a) (.int k b) = some (.int k (addI k a b)) := by simp [binW, binAV, addI]
@[simp high] theorem x_sub (k : IntKind) (a b : Int) : binW .sub (.int k a) (.int k b) = some (.int k (subI k a b)) := by simp [binW, binAV, subI]
@[simp high] theorem x_mul (k : IntKind) (a b : Int) : binW .mul (.int k a) (.int k b) = some (.int k (mulI k a b)) := by simp [binW, binAV, mulI]
@[simp high] theorem x_rem (k : IntKind) (a b : Int) : binW .rem (.int k a) (.int k b) = (remI k a b).map (.int k ·) := by simp only [binW, binAV, binInt, remI]; split <;> simp_all
@[simp high] theorem x_and (k : IntKind) (a b : Int) : binW .and (.int k a) (.int k b) = some (.int k (andI k a b)) := by simp [binW, binAV, andI]
@[simp high] theorem x_or (k : IntKind) (a b : Int) : binW .or (.int k a) (.int k b) = some (.int k (orI k a b)) := by simp [binW, binAV, orI]
@[simp high] theorem x_andNot (k : IntKind) (a b : Int) : binW .andNot (.int k a) (.int k b) = some (.int k (andNotI k a b)) := by simp [binW, binAV, andNotI]
@[simp high] theorem x_shl (k k' : IntKind) (a b : Int) : binW .shl (.int k a) (.int k' b) = (shlI k a b).map (.int k ·) := by simp only [binW, binAV, binInt, shlI]; split <;> simp_all
@[simp high] theorem x_shr (k k' : IntKind) (a b : Int) : binW .shr (.int k a) (.int k' b) = (shrI k a b).map (.int k ·) := by simp only [binW, binAV, binInt, shrI]; split <;> simp_all
@[simp high] theorem x_eql (k : IntKind) (a b : Int) : binW .eql (.int k a) (.int k b) = some (.bool (eqI a b)) := by simp [binW, binAV, eqI]
@[simp high] theorem x_neq (k : IntKind) (a b : Int) : binW .neq (.int k a) (.int k b) = some (.bool (!eqI a b)) := by simp [binW, binAV, eqI]; rfl
@[simp high] theorem x_lss (k : IntKind) (a b : Int) : binW .lss (.int k a) (.int k b) = some (.bool (ltI a b)) := by simp [binW, binAV, ltI]
@[simp high] theorem x_leq (k : IntKind) (a b : Int) : binW .leq (.int k a) (.int k b) = some (.bool (leI a b)) := by simp [binW, binAV, leI]
@[simp high] theorem x_gtr (k : IntKind) (a b : Int) : binW .gtr (.int k a) (.int k b) = some (.bool (ltI b a)) := by simp [binW, binAV, ltI]
@[simp high] theorem x_geq (k : IntKind) (a b : Int) : binW .geq (.int k a) (.int k b) = some (.bool (leI b a)) := by simp [binW, binAV, leI]
@[simp high] theorem x_neg (k : IntKind) (n : Int) : unW .neg (.int k n) = some (.int k (negI k n)) := rfl
@[simp high] theorem x_not (k : IntKind) (n : Int) : unW .xor (.int k n) = some (.int k (notI k n)) := rfl
@[simp high] theorem x_conv (k k' : IntKind) (n : Int) : convW (.int k) (.int k' n) = some (.int k (convI k n)) := rfl
@[simp high] theorem x_mm (O : Orc) (d : Option Nat) (s : St) (mx : Bool) (x y : X) : valW O (.mm mx x y) d s = (match s.evX x, s.evX y with | .int k a, .int _ b => some (.int k (mmI mx a b), s) | _, _ => none) := rfl
@[simp high] theorem x_sadd (a b : List UInt8) : binW .add (.str (bs a)) (.str (bs b)) = (catI a b).map (fun l => .str (bs l)) := by
 simp only [binW, binAV, binStr, catI, bs_size, bs_append]
 split <;> rfl
@[simp high] theorem x_seql (a b : List UInt8) : binW .eql (.str (bs a)) (.str (bs b)) = some (.bool (eqS a b)) := by simp [binW, binAV, binStr, eqS]
@[simp high] theorem x_sneq (a b : List UInt8) : binW .neq (.str (bs a)) (.str (bs b)) = some (.bool (!eqS a b)) := by simp [binW, binAV, binStr, eqS]
def idxSv (x i : AV) (s : St) : Option (AV × St) :=
 match x, i with
 | .str b, .int _ n => if 0 ≤ n then (b[n.toNat]?).map fun c => (.int .u8 c.toNat, s) else none
 | _, _ => none
@[simp high] theorem x_idxS (O : Orc) (d : Option Nat) (s : St) (x i : X) : valW O (.idxS x i) d s = idxSv (s.evX x) (s.evX i) s := rfl
@[simp] theorem x_idxSv (l : List UInt8) (k : IntKind) (n : Int) (s : St) : idxSv (.str (bs l)) (.int k n) s = (atI l n).map fun c => (.int .u8 (bv c), s) := by
 unfold idxSv atI
 simp only [bs_get]
 split <;> rfl
@[simp high] theorem x_substr (l : List UInt8) (k k' : IntKind) (a b : Int) : substrW (.str (bs l)) (some (.int k a)) (some (.int k' b)) = (cutI l a b).map fun l => .str (bs l) := by
 simp only [substrW, substrAV, bound, cutI, bs_extract, bs_size]
 split <;> simp_all
@[simp high] theorem x_substr0 (l : List UInt8) (k' : IntKind) (b : Int) : substrW (.str (bs l)) none (some (.int k' b)) = (cutI l 0 b).map fun l => .str (bs l) := by
 simp only [substrW, substrAV, bound, cutI, bs_extract, bs_size]
 split <;> simp_all
@[simp high] theorem x_substr1 (l : List UInt8) (k : IntKind) (a : Int) : substrW (.str (bs l)) (some (.int k a)) none = (cutI l a (ln l)).map fun l => .str (bs l) := by
 simp only [substrW, substrAV, bound, cutI, bs_extract, bs_size, ln]
 split <;> simp_all
@[simp] theorem x_bytes (x : Int) (r : List (List AV)) : bytesOf ([.int .u8 x] :: r) = (bytesOf r).map (u8 x :: ·) := rfl
attribute [-simp] bytesOf_cons
@[simp high] theorem x_slice1 (o : Option TypeId) (z sz : Nat) (f : α → List AV) (l : List α) (k : IntKind) (a : Int) (h : z = sz) : sliceW (.sl o z (l.map f)) (some (.int k a)) none sz = (cutI l a (ln l)).map fun l => .sl none z (l.map f) := by
 simp only [sliceW, sliceAV, bound, cutI, List.length_map, ← List.map_take, ← List.map_drop, h, and_true, ln]
 split <;> simp_all
def iaddrSv (x i : AV) (sz : Nat) (s : St) : Option (AV × St) :=
 match x, i with
 | .sl _ z rows, .int _ n => if 0 ≤ n ∧ n < rows.length ∧ z = sz then some (.row (rows.getD n.toNat []), s) else none
 | .win l sl o m z, .int _ n => if 0 ≤ n ∧ n < m ∧ z = sz then some (.ptr l sl (o + n.toNat * sz), s) else none
 | .asl l sl o m z, .int _ n => if 0 ≤ n ∧ n < m ∧ z = sz then some (.ptr l sl (o + n.toNat * sz), s) else none
 | _, _ => none
@[simp high] theorem x_iaddrS (O : Orc) (d : Option Nat) (s : St) (x i : X) (sz : Nat) : valW O (.iaddrS x i sz) d s = iaddrSv (s.evX x) (s.evX i) sz s := rfl
@[simp] theorem x_iaddrSv (o : Option TypeId) (z sz : Nat) (f : α → List AV) (l : List α) (k : IntKind) (n : Int) (s : St) (h : z = sz) : iaddrSv (.sl o z (l.map f)) (.int k n) sz s = (atI l n).map fun x => (.row (f x), s) := by
 unfold iaddrSv atI
 subst h
 simp only [List.length_map, and_true]
 by_cases h1 : 0 ≤ n
 ·by_cases h2 : n < (l.length : Int)
  ·rw [if_pos ⟨h1, h2⟩, if_pos h1]
   have h3 : n.toNat < l.length := by omega
   rw [List.getElem?_eq_getElem h3]
   simp [h3]
  ·rw [if_neg (fun h => h2 h.2), if_pos h1, List.getElem?_eq_none (by omega)]
   rfl
 ·rw [if_neg (fun h => h1 h.1), if_neg h1]
  rfl
def appV (x y : AV) (e : TypeId) (sz bytes : Nat) (s : St) : Option (AV × St) :=
 match x, y with
 | .sl (some e') z rows, .sl _ z' more => if e' = e ∧ z = sz ∧ z' = sz then (if room rows more bytes then some (.sl (some e) sz (rows ++ more), s) else none) else none
 | _, _ => none
@[simp high] theorem x_app (O : Orc) (d : Nat) (s : St) (x y : X) (e : TypeId) (sz bytes : Nat) : valW O (.app x y e sz bytes) (some d) s = appV (s.evX x) (s.evX y) e sz bytes (s.use x) := by
 simp only [valW, evVal, appV]
 split
 ·rename_i e' z rows o z' more _ _
  rename_i h1 h2
  rw [h1, h2]
  simp only [room, roomN]
  by_cases c1 : e' = e ∧ z = sz ∧ z' = sz
  ·rw [if_pos c1]
   by_cases c2 : (rows.length + more.length) * bytes ≤ 140737488355328 ∧ rows.length + more.length ≤ 9223372036854775807
   ·have h3 : (decide ((rows.length + more.length) * bytes ≤ 140737488355328) && decide (rows.length + more.length ≤ 9223372036854775807)) = true := by rw [decide_eq_true c2.1, decide_eq_true c2.2]; rfl
    rw [if_pos ⟨rfl, c1.1, c1.2.1, c1.2.2, c2.1, c2.2⟩]; simp only [h3, if_true]
   ·have h3 : ¬ (decide ((rows.length + more.length) * bytes ≤ 140737488355328) && decide (rows.length + more.length ≤ 9223372036854775807)) = true := by
     rw [Bool.and_eq_true, decide_eq_true_iff, decide_eq_true_iff]
     exact c2
    rw [if_neg (fun h => c2 ⟨h.2.2.2.2.1, h.2.2.2.2.2⟩)]; simp only [h3, if_false]; rfl
  ·rw [if_neg (fun h => c1 ⟨h.2.1, h.2.2.1, h.2.2.2.1⟩), if_neg c1]
 ·rename_i hne
  split
  ·rename_i h1 h2
   exact absurd h2 (hne _ _ _ _ _ _ h1)
  ·rfl
@[simp] theorem x_appV (e' e : TypeId) (o : Option TypeId) (z z' sz bytes : Nat) (rows more : List (List AV)) (s : St) (h1 : e' = e) (h2 : z = sz) (h3 : z' = sz) : appV (.sl (some e') z rows) (.sl o z' more) e sz bytes s = if room rows more bytes then some (.sl (some e) sz (rows ++ more), s) else none := by
 unfold appV
 simp only
 rw [if_pos ⟨h1, h2, h3⟩]
@[simp] theorem room_l1 (l : List α) {γ : Type} (x : γ) (b : Nat) : room l [x] b = room1 l 1 b := rfl
@[simp] theorem room_l2 (l : List α) {γ : Type} (x y : γ) (b : Nat) : room l [x, y] b = room1 l 2 b := rfl
@[simp] theorem room_l3 (l : List α) {γ : Type} (x y z : γ) (b : Nat) : room l [x, y, z] b = room1 l 3 b := rfl
@[simp] theorem room_l4 (l : List α) {γ : Type} (x y z u : γ) (b : Nat) : room l [x, y, z, u] b = room1 l 4 b := rfl
@[simp] theorem room_l5 (l : List α) {γ : Type} (x y z u v : γ) (b : Nat) : room l [x, y, z, u, v] b = room1 l 5 b := rfl
@[simp] theorem room_l6 (l : List α) {γ : Type} (x y z u v w : γ) (b : Nat) : room l [x, y, z, u, v, w] b = room1 l 6 b := rfl
@[simp] theorem room_l7 (l : List α) {γ : Type} (x y z u v w q : γ) (b : Nat) : room l [x, y, z, u, v, w, q] b = room1 l 7 b := rfl
@[simp] theorem room1_map (f : α → β) (l : List α) (k b : Nat) : room1 (l.map f) k b = room1 l k b := by unfold room1; rw [List.length_map]
@[simp high] theorem x_mks (O : Orc) (d : Option Nat) (s : St) (e : TypeId) (bytes : Nat) (zero : List AV) (x : X) : valW O (.mks e bytes zero x) d s = (match s.evX x with | .int _ n => (mkI n bytes).map fun k => (.sl (some e) zero.length (List.replicate k zero), s) | _ => none) := by
 simp only [valW, evVal]
 split
 ·rename_i h
  rw [h]
  simp only [mkI]
  split <;> rfl
 ·rename_i h
  split
  ·rename_i h2
   exact absurd h2 (h _ _)
  ·rfl
@[simp high] theorem x_nat2 (O : Orc) (d : Option Nat) (s : St) (k : N2) (x y : X) : valW O (.nat2 k x y) d s = (match s.evX x, s.evX y with | .str b, .int .u8 c => some (.int .i64 (n2 k b c), s) | _, _ => none) := rfl
@[simp] theorem x_idxB (l : List UInt8) (c : Int) : n2 .idxByte (bs l) c = ixB l c := rfl
@[simp] theorem x_ctB (l : List UInt8) (c : Int) : n2 .cntByte (bs l) c = ctB l c := rfl
@[simp high] theorem x_eqi (k k1 k2 : IntKind) (ks : List CK) (a b : Int) (r q : List AV) (h : k1 = k ∧ k2 = k) : eqW (.i k :: ks) (.int k1 a :: r) (.int k2 b :: q) = (eqW ks r q).map (eqI a b && ·) := by simp only [eqW, eqCells, if_pos h]; rfl
@[simp high] theorem x_eqs (ks : List CK) (a b : List UInt8) (r q : List AV) : eqW (.s :: ks) (.str (bs a) :: r) (.str (bs b) :: q) = (eqW ks r q).map (eqS a b && ·) := by simp [eqW, eqCells, eqS]
attribute [simp] AV.one
def iRow (k : IntKind) (x : Int) : List AV := [.int k x]
def bRow (x : Bool) : List AV := [.bool x]
def eRow (x : Bool) : List AV := [.ifc x]
def sRow (x : List UInt8) : List AV := [.str (bs x)]
def lRow (z : Nat) (f : α → List AV) (x : List α) : List AV := [.sl none z (x.map f)]
@[simp] theorem byteRow_bv (b : UInt8) : byteRow b = [.int .u8 (bv b)] := rfl
attribute [simp] iRow bRow eRow sRow lRow
@[simp] theorem cond_ite (c : Bool) (a b : α) : (if c = true then a else b) = cond c a b := by cases c <;> rfl
attribute [simp] cast_ln cast_bv
end
end Go.Ev
namespace Go.Ev
set_option linter.all false
section
variable {α β : Type}
class One (f : α → List AV) where
 un : AV → α
 one : ∀ x, ∃ c, f x = [c] ∧ c.isData = true ∧ c.noOwn1 = c
instance : One byteRow where
 un c := match c with | .int _ x => u8 x | _ => 0
 one x := ⟨_, rfl, rfl, rfl⟩
instance (k : IntKind) : One (iRow k) where
 un c := match c with | .int _ x => x | _ => 0
 one x := ⟨_, rfl, rfl, rfl⟩
instance : One bRow where
 un c := match c with | .bool x => x | _ => false
 one x := ⟨_, rfl, rfl, rfl⟩
instance : One sRow where
 un c := match c with | .str b => b.data.toList | _ => []
 one x := ⟨_, rfl, rfl, rfl⟩
@[simp] theorem un_s (l : List UInt8) : One.un sRow (.str (bs l)) = l := by show (bs l).data.toList = l; simp
def fl (f : α → List AV) (l : List α) : List AV := (l.map f).flatten
def flr (k : Nat) (c : List AV) : List AV := (List.replicate k c).flatten
@[simp] theorem fl_nil (f : α → List AV) : fl f [] = [] := rfl
@[simp] theorem fl_cons (f : α → List AV) (x : α) (l : List α) : fl f (x :: l) = f x ++ fl f l := rfl
@[simp] theorem fl_rep (f : α → List AV) (k : Nat) (x : α) : fl f (List.replicate k x) = flr k (f x) := by unfold fl flr; rw [List.map_replicate]
variable {f : α → List AV} [One f]
def hdA (l : List AV) : AV := l.headD .undef
@[simp] theorem hdA_one (c : AV) : hdA [c] = c := rfl
theorem one_hd (x : α) : f x = [hdA (f x)] ∧ (hdA (f x)).isData = true ∧ (hdA (f x)).noOwn1 = hdA (f x) := by
 obtain ⟨c, h1, h2, h3⟩ := One.one (f := f) x
 rw [h1]
 exact ⟨rfl, h2, h3⟩
theorem fl_map (l : List α) : fl f l = l.map fun x => hdA (f x) := by
 induction l with
 | nil => rfl
 | cons x l ih => rw [fl_cons, ih, (one_hd (f := f) x).1]; rfl
theorem fl_len (l : List α) : (fl f l).length = l.length := by rw [fl_map, List.length_map]
@[simp] theorem y_okPs (p : Nat → Nat → Bool) (l : List α) : okPs p (fl f l) = true := by
 rw [fl_map]
 exact (okPs_iff _ _).2 fun c hc => by
  obtain ⟨x, _, rfl⟩ := List.mem_map.1 hc
  exact okP_data _ (one_hd (f := f) x).2.1
theorem y_okPr (p : Nat → Nat → Bool) (k : Nat) (c : AV) (h : c.isData = true) : okPs p (flr k [c]) = true := by
 unfold flr
 refine (okPs_iff _ _).2 fun c' hc => ?_
 obtain ⟨r, h1, h2⟩ := List.mem_flatten.1 hc
 rw [List.eq_of_mem_replicate h1, List.mem_singleton] at h2
 rw [h2]
 exact okP_data _ h
@[simp] theorem y_okPs' (p : Nat → Nat → Bool) (n : Nat) (x : ByteArray) : okPs p (flr n [.str x]) = true := y_okPr p n _ rfl
omit [One f] in
def inN (i : Int) (m : Nat) : Bool := decide (0 ≤ i) && decide (i < m)
def offN (o : Nat) (i : Int) (sz : Nat) : Nat := o + i.toNat * sz
def nI (m : Nat) : Int := m
def isZ (m : Nat) : Bool := m == 0
def atO (l : List α) (o : Nat) (i : Int) : Option α := l[o + i.toNat]?
def setO (l : List α) (o : Nat) (i : Int) (v : α) : Option (List α) := if o + i.toNat < l.length then some (l.set (o + i.toNat) v) else none
def winI (l : List α) (o m : Nat) : Option (List α) := if o + m ≤ l.length then some ((l.drop o).take m) else none
def arrI (lo hi : Int) (m : Nat) : Option (Nat × Nat) := if 0 ≤ lo ∧ lo ≤ hi ∧ hi ≤ m then some (lo.toNat, hi.toNat - lo.toNat) else none
def arrI0 (hi : Int) (m : Nat) : Option Nat := if 0 ≤ hi ∧ hi ≤ m then some hi.toNat else none
def cpI (l : List α) (o m : Nat) (src : List α) : Option (List α) := if o + m ≤ l.length then some (l.take o ++ src.take m ++ l.drop (o + (src.take m).length)) else none
def mnI (src : List α) (m : Nat) : Int := (min src.length m : Nat)
def ex8 : List α → Option (α × α × α × α × α × α × α × α)
 | a :: b :: c :: d :: e :: f :: g :: h :: _ => some (a, b, c, d, e, f, g, h)
 | _ => none
variable {O : Orc} {n lv : Nat} {tm : Nat → AV} {bx : Nat → Option ABox} {low : Mem} {d : Option Nat} {s : St}
def mkWv (v : AV) (e : TypeId) (bytes : Nat) (zero : List AV) (d : Nat) (s : St) : Option (AV × St) :=
 if (s.bx d).isNone then
  match v with
  | .int _ n => (mkI n bytes).bind fun k => cond (isZ k) (some (.sl none zero.length [], s)) (some (.win s.lv d 0 k zero.length, { s with bx := upd s.bx d (some (.cells e (flr k zero))) }))
  | _ => none
 else none
@[simp high] theorem y_mkW (e : TypeId) (bytes : Nat) (zero : List AV) (x : X) (d : Nat) : valW O (.mkW e bytes zero x) (some d) s = mkWv (s.evX x) e bytes zero d s := by
 show evVal O (.mkW e bytes zero x) (some d) s = _
 simp only [evVal]
 unfold mkWv
 cases h : s.evX x <;> simp only [ite_self]
 rename_i k m
 unfold mkI
 by_cases h1 : (s.bx d).isNone = true
 ·rw [if_pos h1]
  by_cases h2 : 0 ≤ m ∧ m * bytes ≤ 140737488355328
  ·rw [if_pos ⟨h2.1, h2.2, h1⟩, if_pos h2]
   simp only [Option.bind_some, isZ]
   by_cases h3 : m = 0
   ·subst h3; rfl
   ·rw [if_neg h3]
    have : (m.toNat == 0) = false := by
     rw [beq_eq_false_iff_ne]
     omega
    rw [this]
    rfl
  ·rw [if_neg (fun h => h2 ⟨h.1, h.2.1⟩), if_neg h2]
   rfl
 ·rw [if_neg h1, if_neg (fun h => h1 h.2.2)]
@[simp] theorem y_mkWv (k : IntKind) (m : Int) (e : TypeId) (bytes : Nat) (zero : List AV) (d : Nat) : mkWv (.int k m) e bytes zero d ⟨n, lv, tm, bx, low⟩ = if (bx d).isNone = true then (mkI m bytes).bind fun k => cond (isZ k) (some (.sl none zero.length [], ⟨n, lv, tm, bx, low⟩)) (some (.win lv d 0 k zero.length, ⟨n, lv, tm, upd bx d (some (.cells e (flr k zero))), low⟩)) else none := rfl
@[simp] theorem y_iaddrW (l sl o m z sz : Nat) (k : IntKind) (i : Int) (h : z = sz) : iaddrSv (.win l sl o m z) (.int k i) sz s = cond (inN i m) (some (.ptr l sl (offN o i sz), s)) none := by
 unfold iaddrSv inN offN
 subst h
 by_cases h1 : 0 ≤ i <;> by_cases h2 : i < (m : Int) <;> simp [h1, h2]
def iaddrAv (x i : AV) (len sz : Nat) (s : St) : Option (AV × St) :=
 match x, i with
 | .ptr l sl o, .int _ n => cond (inN n len) (some (.ptr l sl (offN o n sz), s)) none
 | .glob g o, .int _ n => cond (inN n len) (some (.glob g (offN o n sz), s)) none
 | _, _ => none
@[simp high] theorem y_iaddrA (x i : X) (len sz : Nat) : valW O (.iaddrA x i len sz) d s = iaddrAv (s.evX x) (s.evX i) len sz s := by
 show evVal O (.iaddrA x i len sz) d s = _
 simp only [evVal]
 unfold iaddrAv inN offN
 cases h1 : s.evX x <;> cases h2 : s.evX i <;> simp only
 ·rename_i l sl o k m
  by_cases h3 : 0 ≤ m <;> by_cases h4 : m < (len : Int) <;> simp [h3, h4]
 ·rename_i g o k m
  by_cases h3 : 0 ≤ m <;> by_cases h4 : m < (len : Int) <;> simp [h3, h4]
@[simp] theorem y_iaddrG (g o len sz : Nat) (k : IntKind) (i : Int) : iaddrAv (.glob g o) (.int k i) len sz s = cond (inN i len) (some (.glob g (offN o i sz), s)) none := rfl
@[simp] theorem y_iaddrAv (l sl o len sz : Nat) (k : IntKind) (i : Int) : iaddrAv (.ptr l sl o) (.int k i) len sz s = cond (inN i len) (some (.ptr l sl (offN o i sz), s)) none := rfl
@[simp high] theorem y_agg (l : List α) (o : Nat) (i : Int) : aggOr none (fl f l) (offN o i 1) = (atO l o i).map fun x => hdA (f x) := by
 rw [fl_map]
 simp [aggOr, cellAt, offN, atO]
@[simp high] theorem y_agg8 (l : List α) : aggOr (some 8) (fl f l) 0 = (ex8 l).map fun p => .agg [hdA (f p.1), hdA (f p.2.1), hdA (f p.2.2.1), hdA (f p.2.2.2.1), hdA (f p.2.2.2.2.1), hdA (f p.2.2.2.2.2.1), hdA (f p.2.2.2.2.2.2.1), hdA (f p.2.2.2.2.2.2.2)] := by
 rw [fl_map]
 match l with
 | [] | [_] | [_, _] | [_, _, _] | [_, _, _, _] | [_, _, _, _, _] | [_, _, _, _, _, _] | [_, _, _, _, _, _, _] => rfl
 | a :: b :: c :: d :: e :: g :: h :: i :: r => simp [aggOr, ex8, sub]
@[simp high] theorem y_store (t : TypeId) (l : List α) (lv' sl o : Nat) (i : Int) (c : AV) (x : X) (hc : f (One.un f c) = [c]) : storeB (some (.cells t (fl f l))) lv' sl (offN o i 1) c x 1 ⟨n, lv, tm, bx, low⟩ = (setO l o i (One.un f c)).map fun l' => (.tup [], ((St.mk n lv tm bx low).use x).setBox lv' sl (.cells t (fl f l'))) := by
 obtain ⟨c', h1, h2, h3⟩ := One.one (f := f) (One.un f c)
 rw [hc] at h1
 injection h1 with h1
 subst h1
 have hk : c.cells = [c] ∧ c.known = true := by cases c <;> first | exact ⟨rfl, rfl⟩ | (simp [AV.isData] at h2; done)
 have hp : okPs (fun l' _ => decide (l' ≤ lv')) [c] = true := (okPs_iff _ _).2 fun c' hc' => by rw [List.mem_singleton.1 hc']; exact okP_data _ h2
 unfold storeB setO offN
 simp only [hk.1, hk.2, List.length_singleton, fl_len, true_and, Nat.mul_one]
 by_cases h : o + i.toNat < l.length
 ·rw [if_pos ⟨by omega, .inr hp⟩, if_pos h]
  simp only [Option.map_some, Option.some.injEq, Prod.mk.injEq, true_and]
  congr 2
  rw [fl_map, fl_map, List.map_set]
  unfold splice
  have e1 : hdA (f (One.un f c)) = c := by rw [hc]; rfl
  rw [e1, List.length_singleton, List.set_eq_take_append_cons_drop, if_pos (by rw [List.length_map]; exact h), List.append_assoc]
  rfl
 ·rw [if_neg (fun h' => h (by omega)), if_neg h]
  rfl
@[simp] theorem y_lenW (l sl o m z : Nat) : lenW (.win l sl o m z) s = some (.int .i64 (nI m), s) := rfl
@[simp] theorem y_lenA (l sl o m z : Nat) : lenW (.asl l sl o m z) s = some (.int .i64 (nI m), s) := rfl
@[simp] theorem y_slice0 (l sl o m z sz : Nat) (k' : IntKind) (b : Int) (h : z = sz) : sliceW (.win l sl o m z) none (some (.int k' b)) sz = (arrI0 b m).bind fun p => cond (isZ p) (some (.sl none z [])) (some (.win l sl o p z)) := by
 subst h
 simp only [sliceW, sliceAV, bound, arrI0]
 by_cases h1 : 0 ≤ b ∧ b ≤ (m : Int)
 ·rw [if_pos ⟨Int.le_refl 0, h1.1, h1.2, trivial⟩, if_pos h1]
  simp only [Option.bind_some, isZ]
  by_cases h2 : ((0 : Nat) : Int) = b
  ·subst h2; simp
  ·have : (b.toNat == 0) = false := by rw [beq_eq_false_iff_ne]; omega
   rw [if_neg h2, this]; simp
 ·rw [if_neg (fun h => h1 ⟨h.2.1, h.2.2.1⟩), if_neg h1]; rfl
def arrW (v : AV) (lo hi : Option AV) (len sz : Nat) (s : St) : Option (AV × St) := (arrAV v lo hi len sz).map fun v => (v, s)
@[simp high] theorem y_arrS (x : X) (lo hi : Option X) (len sz : Nat) : valW O (.arrS x lo hi len sz) d s = arrW (s.evX x) (lo.map s.evX) (hi.map s.evX) len sz s := rfl
@[simp] theorem y_arr (l sl o len sz : Nat) (k k' : IntKind) (a b : Int) : arrW (.ptr l sl o) (some (.int k a)) (some (.int k' b)) len sz s = (arrI a b len).bind fun p => cond (isZ p.2) (some (.sl none sz [], s)) (some (.asl l sl (o + p.1 * sz) p.2 sz, s)) := by
 simp only [arrW, arrAV, bound, arrI]
 by_cases h1 : 0 ≤ a ∧ a ≤ b ∧ b ≤ (len : Int)
 ·rw [if_pos h1, if_pos h1]
  simp only [Option.bind_some, isZ, Option.map_some]
  by_cases h2 : a = b
  ·subst h2; simp
  ·have : (b.toNat - a.toNat == 0) = false := by rw [beq_eq_false_iff_ne]; omega
   rw [if_neg h2, this]; rfl
 ·rw [if_neg h1, if_neg h1]; rfl
@[simp] theorem y_arr1 (l sl o len sz : Nat) (k : IntKind) (a : Int) : arrW (.ptr l sl o) (some (.int k a)) none len sz s = (arrI a (nI len) len).bind fun p => cond (isZ p.2) (some (.sl none sz [], s)) (some (.asl l sl (o + p.1 * sz) p.2 sz, s)) := by
 rw [← y_arr l sl o len sz k .i64 a (nI len)]
 simp only [arrW, arrAV, bound, nI]
@[simp] theorem y_arrAll (l sl o len sz : Nat) : arrW (.ptr l sl o) none none len sz s = cond (isZ len) (some (.sl none sz [], s)) (some (.asl l sl o len sz, s)) := by
 simp only [arrW, arrAV, bound, isZ]
 cases len with
 | zero => simp
 | succ k =>
   rw [if_pos ⟨Int.le_refl 0, by omega, Int.le_refl _⟩, if_neg (by omega)]
   simp
def copyV (x y : AV) (s : St) : Option (AV × St) :=
 match x, y with
 | .sl _ _ [], .sl _ _ _ => some (.int .i64 0, s)
 | .asl l sl o n z, .sl _ z' rows =>
   match s.get l sl with
   | some (.cells t cs) => if z = 1 ∧ z' = 1 ∧ o + n ≤ cs.length then some (.int .i64 (min rows.length n : Nat), s.setBox l sl (.cells t (splice cs o (rows.take n).flatten))) else none
   | _ => none
 | _, _ => none
def copyB (b : Option ABox) (l sl o n z z' : Nat) (rows : List (List AV)) (s : St) : Option (AV × St) :=
 match b with
 | some (.cells t cs) => if z = 1 ∧ z' = 1 ∧ o + n ≤ cs.length then some (.int .i64 (min rows.length n : Nat), s.setBox l sl (.cells t (splice cs o (rows.take n).flatten))) else none
 | _ => none
@[simp high] theorem y_copy (x y : X) : valW O (.copyA x y) d s = copyV (s.evX x) (s.evX y) s := by
 show evVal O (.copyA x y) d s = _
 simp only [evVal]
 unfold copyV
 rfl
@[simp] theorem y_copy0 (o o' : Option TypeId) (z z' : Nat) (rows : List (List AV)) : copyV (.sl o z []) (.sl o' z' rows) s = some (.int .i64 0, s) := rfl
@[simp] theorem y_copyV (l sl o m z : Nat) (o' : Option TypeId) (z' : Nat) (rows : List (List AV)) : copyV (.asl l sl o m z) (.sl o' z' rows) s = copyB (s.get l sl) l sl o m z z' rows s := rfl
@[simp] theorem y_copyB (t : TypeId) (l : List α) (lv' sl o m : Nat) (src : List α) : copyB (some (.cells t (fl f l))) lv' sl o m 1 1 (src.map f) s = (cpI l o m src).map fun l' => (.int .i64 (mnI src m), s.setBox lv' sl (.cells t (fl f l'))) := by
 have e : ((src.map f).take m).flatten = fl f (src.take m) := by rw [← List.map_take]; rfl
 simp only [copyB, cpI, fl_len, List.length_map, true_and, mnI]
 split
 ·simp only [Option.map_some, e]
  congr 4
  unfold splice
  rw [fl_len]
  simp only [fl_map, List.map_append, List.map_take, List.map_drop]
 ·rfl
@[simp] theorem y_okPa (p : Nat → Nat → Bool) (l s o n z : Nat) : (AV.asl l s o n z).okP p = p l s := rfl
@[simp] theorem y_okPw (p : Nat → Nat → Bool) (l s o n z : Nat) : (AV.win l s o n z).okP p = p l s := rfl
@[simp] theorem y_noOwn1 (l s o n z : Nat) : (AV.asl l s o n z).noOwn1 = .asl l s o n z := rfl
@[simp] theorem y_noOwnA (l s o n z : Nat) : (AV.asl l s o n z).noOwnA = .asl l s o n z := rfl
@[simp] theorem y_noOwn (l s o n z : Nat) : (AV.asl l s o n z).noOwn = .asl l s o n z := rfl
@[simp] theorem y_isData (l s o n z : Nat) : (AV.asl l s o n z).isData = false := rfl
@[simp] theorem y_foldu (x : Int) : UInt8.ofNat x.toNat = u8 x := rfl
@[simp] theorem isZ_8 : isZ 8 = false := rfl
section
variable (k : IntKind) (a0 a1 a2 a3 a4 a5 a6 a7 : Int)
@[simp] theorem y_copy_8 (t : TypeId) (lv' sl o m : Nat) (src : List Int) : copyB (some (.cells t [.int k a0, .int k a1, .int k a2, .int k a3, .int k a4, .int k a5, .int k a6, .int k a7])) lv' sl o m 1 1 (src.map (iRow k)) s = (cpI [a0, a1, a2, a3, a4, a5, a6, a7] o m src).map fun l' => (.int .i64 (mnI src m), s.setBox lv' sl (.cells t (fl (iRow k) l'))) := y_copyB (f := iRow k) t [a0, a1, a2, a3, a4, a5, a6, a7] lv' sl o m src
end
def bxDel (k : Nat) : List (Nat × Option ABox) → List (Nat × Option ABox)
 | [] => []
 | (i, v) :: r => if i = k then bxDel k r else (i, v) :: bxDel k r
@[simp] theorem bxDel_nil (k : Nat) : bxDel k [] = [] := rfl
@[simp] theorem bxDel_cons (k i : Nat) (v : Option ABox) (r : List (Nat × Option ABox)) : bxDel k ((i, v) :: r) = if i = k then bxDel k r else (i, v) :: bxDel k r := rfl
theorem bxDel_of (k : Nat) : ∀ (l : List (Nat × Option ABox)) (i : Nat), bxOf (bxDel k l) i = if i = k then none else bxOf l i
 | [], i => by simp
 | (j, v) :: r, i => by
   rw [bxDel_cons]
   have ih := bxDel_of k r i
   by_cases h1 : j = k
   ·rw [if_pos h1, ih]
    by_cases h2 : i = k
    ·rw [if_pos h2, if_pos h2]
    ·rw [if_neg h2, if_neg h2, bxOf_cons, if_neg (fun e => h2 (e.trans h1))]
   ·rw [if_neg h1, bxOf_cons, bxOf_cons, ih]
    by_cases h2 : i = j
    ·rw [if_pos h2, if_pos h2, if_neg (fun e => h1 (h2.symm.trans e))]
    ·rw [if_neg h2, if_neg h2]
@[simp] theorem y_bxOf (k : Nat) (l : List (Nat × Option ABox)) : bxOf ((k, none) :: l) = bxOf (bxDel k l) := by
 funext i
 rw [bxOf_cons, bxDel_of]
theorem y_sub (l : List α) (o m : Nat) (h : o + m ≤ l.length) : sub (fl f l) o (m * 1) = fl f ((l.drop o).take m) := by
 unfold sub
 simp only [fl_map, Nat.mul_one, List.map_take, List.map_drop]
theorem y_frzRows (l : List α) (o m : Nat) (h : o + m ≤ l.length) : frzRows (fl f l) o m 1 = ((l.drop o).take m).map f := by
 have hl : ((l.drop o).take m).length = m := by rw [List.length_take, List.length_drop]; omega
 unfold frzRows
 rw [y_sub l o m h]
 generalize (l.drop o).take m = r at hl ⊢
 subst hl
 have e : (fl f r).map AV.noOwn1 = fl f r := by
  rw [fl_map, List.map_map]
  exact List.map_congr_left fun x _ => (one_hd (f := f) x).2.2
 rw [e]
 refine List.ext_getElem? fun i => ?_
 unfold pieces
 rw [List.getElem?_map, List.getElem?_map]
 by_cases hi : i < r.length
 ·rw [List.getElem?_range hi, List.getElem?_eq_getElem hi]
  simp only [Option.map_some, Option.some.injEq]
  unfold sub
  rw [fl_map, (one_hd (f := f) r[i]).1, Nat.mul_one]
  rw [List.drop_eq_getElem_cons (by rw [List.length_map]; exact hi)]
  simp
 ·rw [List.getElem?_eq_none (by simpa using hi), List.getElem?_eq_none (by simpa using hi)]
  rfl
theorem y_frzData (l : List α) (o m : Nat) : frzData (fl f l) o m 1 = true := by
 unfold frzData
 rw [List.all_eq_true]
 intro c hc
 unfold sub at hc
 have := List.mem_of_mem_drop (List.mem_of_mem_take hc)
 rw [fl_map] at this
 obtain ⟨x, _, rfl⟩ := List.mem_map.1 this
 rw [(one_hd (f := f) x).2.2]
 exact (one_hd (f := f) x).2.1
def snapB (b : Option ABox) (o m z : Nat) : Option AV :=
 match b with
 | some (.cells _ cs) => if o + m * z ≤ cs.length ∧ frzData cs o m z = true then some (.sl none z (frzRows cs o m z)) else none
 | _ => none
def snapW := snap1
@[simp] theorem snaps_nil : snaps s [] = some [] := rfl
@[simp] theorem snaps_cons (v : AV) (r : List AV) : snaps s (v :: r) = (snapW s v).bind fun v' => (snaps s r).map (v' :: ·) := rfl
@[simp] theorem snapW_win (l sl o m z : Nat) : snapW s (.win l sl o m z) = snapB (s.get l sl) o m z := rfl
@[simp] theorem snapW_asl (l sl o m z : Nat) : snapW s (.asl l sl o m z) = snapB (s.get l sl) o m z := rfl
@[simp] theorem snapW_int (k : IntKind) (x : Int) : snapW s (.int k x) = some (.int k x) := rfl
@[simp] theorem snapW_bool (x : Bool) : snapW s (.bool x) = some (.bool x) := rfl
@[simp] theorem snapW_str (x : ByteArray) : snapW s (.str x) = some (.str x) := rfl
@[simp] theorem snapW_ifc (x : Bool) : snapW s (.ifc x) = some (.ifc x) := rfl
@[simp] theorem snapW_agg (x : List AV) : snapW s (.agg x) = some (.agg x) := rfl
@[simp] theorem snapW_sl (o : Option TypeId) (z : Nat) (r : List (List AV)) : snapW s (.sl o z r) = some (.sl o z r) := rfl
def retS (r : Option (List AV × Mem)) (s : St) : Option (AV × St) :=
 match r with
 | some (rs, _) => if rs.all flatA then some (retAV rs, s) else none
 | none => none
@[simp] theorem retS_some (rs : List AV) (m : Mem) : retS (some (rs, m)) s = if rs.all flatA = true then some (retAV rs, s) else none := rfl
def callSV (O : Orc) (f : AV) (vs : Option (List AV)) (s : St) : Option (AV × St) :=
 match f with
 | .fn g _ => vs.bind fun vs => if isPtrless vs then retS (O.call g vs noMem 0) s else none
 | _ => none
def capsA (f : AV) : List AV :=
 match f with
 | .fn _ caps => caps.map AV.noOwn
 | _ => []
@[simp] theorem capsA_fn (g : FuncId) (caps : List AV) : capsA (.fn g caps) = caps.map AV.noOwn := rfl
@[simp] theorem y_callSV (g : FuncId) (caps vs : List AV) : callSV O (.fn g caps) (some vs) s = if isPtrless vs then retS (O.call g vs noMem 0) s else none := rfl
@[simp] theorem y_callSVn (g : FuncId) (caps : List AV) : callSV O (.fn g caps) none s = none := rfl
attribute [simp] flatA flat1
def strB (b : Option ABox) (o m z : Nat) (s : St) : Option (AV × St) :=
 match b with
 | some (.cells _ cs) => if o + m ≤ cs.length ∧ z = 1 then (bytesOf ((sub cs o m).map fun c => [c])).map fun l => (.str ⟨l.toArray⟩, s) else none
 | _ => none
def strV (v : AV) (s : St) : Option (AV × St) :=
 match v with
 | .sl _ _ rows => (bytesOf rows).map fun l => (.str ⟨l.toArray⟩, s)
 | .win l sl o n z => strB (s.get l sl) o n z s
 | .asl l sl o n z => strB (s.get l sl) o n z s
 | _ => none
@[simp high] theorem y_strw (x : X) : valW O (.strw x) d s = strV (s.evX x) s := rfl
@[simp] theorem y_strV (l sl o m z : Nat) : strV (.win l sl o m z) s = strB (s.get l sl) o m z s := rfl
@[simp] theorem y_strVa (l sl o m z : Nat) : strV (.asl l sl o m z) s = strB (s.get l sl) o m z s := rfl
@[simp] theorem y_strV0 (o : Option TypeId) (z : Nat) : strV (.sl o z []) s = some (.str (bs []), s) := rfl
def frzV (b : Option ABox) (ws : List AV) (j : Option Nat) (lv sl o m z : Nat) : Option AV :=
 match b with
 | some (.cells t cs) =>
   if o + m * z ≤ cs.length ∧ frzData cs o m z = true ∧ o + m * z ≤ ((posAt lv sl ws 0).map (·.2)).getD (o + m * z) then
    some (.sl (frzOwn (posAt lv sl ws 0) j o (m * z) t) z (frzRows cs o m z))
   else none
 | _ => none
@[simp high] theorem y_frz (ws : List AV) (j : Option Nat) (sl o m z : Nat) : frz1 ⟨n, lv, tm, bx, low⟩ ws j (.win lv sl o m z) = frzV (bx sl) ws j lv sl o m z := by
 simp only [frz1, if_true]
 rfl
@[simp] theorem y_frzV (t : TypeId) (l : List α) (sl m : Nat) : frzV (some (.cells t (fl f l))) [.win lv sl 0 m 1] (some 0) lv sl 0 m 1 = (winI l 0 m).map fun r => .sl (some t) 1 (r.map f) := by
 simp only [frzV, winI, fl_len, y_frzData, posAt, and_self, if_true, Option.map_some, Option.getD_some, true_and, Nat.zero_add, Nat.le_refl, and_true, Nat.mul_one]
 split
 ·rename_i h
  rw [y_frzRows l 0 m (by omega)]
  simp [frzOwn]
 ·rfl
end
end Go.Ev
