/- ShP, ShX, joined. Condition: each part's own. -/
import Derived.Test.YthnmdocmomkekaaGreatDoorRtB
import Derived.Test.YthnmdocmomkekaaGreatDoorEvR
/- Words for what a function's text computes, kept shut so that a walk compares them as they stand. Condition: none. -/
namespace Go.Ev
set_option linter.all false
section
variable {α β γ δ ε ζ : Type}
def ln (l : List α) : Int := (l.length : Int)
def bv (b : UInt8) : Int := (b.toNat : Int)
def u8 (x : Int) : UInt8 := UInt8.ofNat x.toNat
def isB (x : Int) : Bool := decide (0 ≤ x) && decide (x ≤ 255)
def eqI (a b : Int) : Bool := a == b
def ltI (a b : Int) : Bool := decide (a < b)
def leI (a b : Int) : Bool := decide (a ≤ b)
def eqS (a b : List UInt8) : Bool := a == b
def ltS (a b : List UInt8) : Bool := Op.bytesLess a b
def addI (k : IntKind) (a b : Int) : Int := k.wrap (a + b)
def subI (k : IntKind) (a b : Int) : Int := k.wrap (a - b)
def mulI (k : IntKind) (a b : Int) : Int := k.wrap (a * b)
def negI (k : IntKind) (a : Int) : Int := k.wrap (0 - a)
def quoI (k : IntKind) (a b : Int) : Option Int := if b = 0 then none else some (k.wrap (a.tdiv b))
def remI (k : IntKind) (a b : Int) : Option Int := if b = 0 then none else some (a.tmod b)
def andI (k : IntKind) (a b : Int) : Int := k.wrap (BitVec.ofInt k.bits a &&& BitVec.ofInt k.bits b).toNat
def orI (k : IntKind) (a b : Int) : Int := k.wrap (BitVec.ofInt k.bits a ||| BitVec.ofInt k.bits b).toNat
def xorI (k : IntKind) (a b : Int) : Int := k.wrap (BitVec.ofInt k.bits a ^^^ BitVec.ofInt k.bits b).toNat
def andNotI (k : IntKind) (a b : Int) : Int := k.wrap (BitVec.ofInt k.bits a &&& ~~~ BitVec.ofInt k.bits b).toNat
def notI (k : IntKind) (n : Int) : Int := k.wrap (BitVec.ofInt k.bits (if k.signed then -1 else k.max) ^^^ BitVec.ofInt k.bits n).toNat
def shlI (k : IntKind) (a b : Int) : Option Int := if b < 0 then none else some (k.wrap (a * 2 ^ min b.toNat k.bits))
def shrI (k : IntKind) (a b : Int) : Option Int := if b < 0 then none else some (a.fdiv (2 ^ min b.toNat k.bits))
def mmI (mx : Bool) (a b : Int) : Int := if mx then (if b > a then b else a) else (if b < a then b else a)
def convI (k : IntKind) (a : Int) : Int := k.wrap a
def atI (l : List α) (i : Int) : Option α := if 0 ≤ i then l[i.toNat]? else none
def cutI (l : List α) (lo hi : Int) : Option (List α) := if 0 ≤ lo ∧ lo ≤ hi ∧ hi ≤ l.length then some ((l.take hi.toNat).drop lo.toNat) else none
def catI (a b : List UInt8) : Option (List UInt8) := if a.length + b.length ≤ 4611686018427387904 then some (a ++ b) else none
def s2bI (a : List UInt8) : Option (List UInt8) := if a.length ≤ 4611686018427387904 then some a else none
def roomN (n bytes : Nat) : Bool := decide (n * bytes ≤ 140737488355328) && decide (n ≤ 9223372036854775807)
def room (a : List α) (b : List β) (bytes : Nat) : Bool := roomN (a.length + b.length) bytes
def room1 (a : List α) (k bytes : Nat) : Bool := roomN (a.length + k) bytes
def mkI (n : Int) (bytes : Nat) : Option Nat := if 0 ≤ n ∧ n * bytes ≤ 140737488355328 then some n.toNat else none
def encI (n : Int) : List UInt8 := (Utf8.encode n).data.toList
def ixB (l : List UInt8) (c : Int) : Int := Lib.indexByte l c.toNat.toUInt8
def ctB (l : List UInt8) (c : Int) : Int := (Lib.countByte l c.toNat.toUInt8 : Nat)

/-- How a loop went out. -/
inductive O1 (α : Type) where
  | a (x : α)
inductive O2 (α β : Type) where
  | a (x : α)
  | b (x : β)
inductive O3 (α β γ : Type) where
  | a (x : α)
  | b (x : β)
  | c (x : γ)
inductive O4 (α β γ δ : Type) where
  | a (x : α)
  | b (x : β)
  | c (x : γ)
  | d (x : δ)
inductive O5 (α β γ δ ε : Type) where
  | a (x : α)
  | b (x : β)
  | c (x : γ)
  | d (x : δ)
  | e (x : ε)
inductive O6 (α β γ δ ε ζ : Type) where
  | a (x : α)
  | b (x : β)
  | c (x : γ)
  | d (x : δ)
  | e (x : ε)
  | f (x : ζ)
def O2.el (f : α → γ) (g : β → γ) : O2 α β → γ
  | .a x => f x
  | .b x => g x
def O3.el (f : α → ζ) (g : β → ζ) (h : γ → ζ) : O3 α β γ → ζ
  | .a x => f x
  | .b x => g x
  | .c x => h x
def O4.el {η : Type} (f : α → η) (g : β → η) (h : γ → η) (i : δ → η) : O4 α β γ δ → η
  | .a x => f x
  | .b x => g x
  | .c x => h x
  | .d x => i x
def O5.el {η : Type} (f : α → η) (g : β → η) (h : γ → η) (i : δ → η) (j : ε → η) : O5 α β γ δ ε → η
  | .a x => f x
  | .b x => g x
  | .c x => h x
  | .d x => i x
  | .e x => j x
def O6.el {η : Type} (f : α → η) (g : β → η) (h : γ → η) (i : δ → η) (j : ε → η) (k : ζ → η) : O6 α β γ δ ε ζ → η
  | .a x => f x
  | .b x => g x
  | .c x => h x
  | .d x => i x
  | .e x => j x
  | .f x => k x
/-- Whatever comes out satisfies P. -/
def Ok (e : Option α) (P : α → Prop) : Prop := ∀ r, e = some r → P r
theorem Ok.ite {c : Bool} {a b : Option α} {P : α → Prop} (h1 : c = true → Ok a P) (h2 : c = false → Ok b P) : Ok (cond c a b) P := by
  cases c
  · exact h2 rfl
  · exact h1 rfl
theorem Ok.bind {e : Option β} {f : β → Option α} {P : α → Prop} (h : ∀ x, e = some x → Ok (f x) P) : Ok (e.bind f) P := by
  intro r hr
  obtain ⟨x, h1, h2⟩ := Option.bind_eq_some_iff.1 hr
  exact h x h1 r h2
theorem Ok.bind2 {e : Option (O2 β γ)} {f : β → Option α} {g : γ → Option α} {P : α → Prop} (hf : ∀ x, e = some (.a x) → Ok (f x) P) (hg : ∀ x, e = some (.b x) → Ok (g x) P) : Ok (e.bind (O2.el f g)) P :=
  Ok.bind fun o ho => by cases o with
    | a x => exact hf x ho
    | b x => exact hg x ho
theorem Ok.bind3 {e : Option (O3 β γ δ)} {f : β → Option α} {g : γ → Option α} {h : δ → Option α} {P : α → Prop} (hf : ∀ x, e = some (.a x) → Ok (f x) P) (hg : ∀ x, e = some (.b x) → Ok (g x) P) (hh : ∀ x, e = some (.c x) → Ok (h x) P) : Ok (e.bind (O3.el f g h)) P :=
  Ok.bind fun o ho => by cases o with
    | a x => exact hf x ho
    | b x => exact hg x ho
    | c x => exact hh x ho
theorem Ok.bind4 {e : Option (O4 β γ δ ε)} {f : β → Option α} {g : γ → Option α} {h : δ → Option α} {i : ε → Option α} {P : α → Prop} (hf : ∀ x, e = some (.a x) → Ok (f x) P) (hg : ∀ x, e = some (.b x) → Ok (g x) P) (hh : ∀ x, e = some (.c x) → Ok (h x) P) (hi : ∀ x, e = some (.d x) → Ok (i x) P) : Ok (e.bind (O4.el f g h i)) P :=
  Ok.bind fun o ho => by cases o with
    | a x => exact hf x ho
    | b x => exact hg x ho
    | c x => exact hh x ho
    | d x => exact hi x ho
theorem Ok.bind5 {e : Option (O5 β γ δ ε ζ)} {f : β → Option α} {g : γ → Option α} {h : δ → Option α} {i : ε → Option α} {j : ζ → Option α} {P : α → Prop} (hf : ∀ x, e = some (.a x) → Ok (f x) P) (hg : ∀ x, e = some (.b x) → Ok (g x) P) (hh : ∀ x, e = some (.c x) → Ok (h x) P) (hi : ∀ x, e = some (.d x) → Ok (i x) P) (hj : ∀ x, e = some (.e x) → Ok (j x) P) : Ok (e.bind (O5.el f g h i j)) P :=
  Ok.bind fun o ho => by cases o with
    | a x => exact hf x ho
    | b x => exact hg x ho
    | c x => exact hh x ho
    | d x => exact hi x ho
    | e x => exact hj x ho
theorem Ok.bind6 {η : Type} {e : Option (O6 β γ δ ε ζ η)} {f : β → Option α} {g : γ → Option α} {h : δ → Option α} {i : ε → Option α} {j : ζ → Option α} {k : η → Option α} {P : α → Prop} (hf : ∀ x, e = some (.a x) → Ok (f x) P) (hg : ∀ x, e = some (.b x) → Ok (g x) P) (hh : ∀ x, e = some (.c x) → Ok (h x) P) (hi : ∀ x, e = some (.d x) → Ok (i x) P) (hj : ∀ x, e = some (.e x) → Ok (j x) P) (hk : ∀ x, e = some (.f x) → Ok (k x) P) : Ok (e.bind (O6.el f g h i j k)) P :=
  Ok.bind fun o ho => by cases o with
    | a x => exact hf x ho
    | b x => exact hg x ho
    | c x => exact hh x ho
    | d x => exact hi x ho
    | e x => exact hj x ho
    | f x => exact hk x ho
theorem Ok.none {P : α → Prop} : Ok (none : Option α) P := fun _ h => by cases h
theorem Ok.some {x : α} {P : α → Prop} (h : P x) : Ok (some x) P := fun _ e => by injection e with e; exact e ▸ h
theorem Ok.loop {e : Option α} {P : α → Prop} (h : ∀ x, e = .some x → P x) : Ok e P := h
theorem Ok.of {e : Option α} {P : α → Prop} (h : Ok e P) {r : α} (hr : e = .some r) : P r := h r hr
attribute [simp] O2.el O3.el O4.el O5.el O6.el
end
end Go.Ev
/- The evaluator's steps in those words. Condition: none. -/
namespace Go.Ev
set_option linter.all false
section
variable {α β : Type}
theorem cast_ln (l : List α) : ((l.length : Nat) : Int) = ln l := rfl
theorem cast_bv (b : UInt8) : ((b.toNat : Nat) : Int) = bv b := rfl
theorem u8_bv (b : UInt8) : u8 (bv b) = b := by
  unfold u8 bv
  rw [Int.toNat_natCast]
  simp
theorem bv_lo (b : UInt8) : 0 ≤ bv b := by unfold bv; omega
theorem bv_hi (b : UInt8) : bv b ≤ 255 := by have := b.toNat_lt; unfold bv; omega
theorem bv_u8 (x : Int) (h0 : 0 ≤ x) (h1 : x ≤ 255) : bv (u8 x) = x := by
  unfold u8 bv
  rw [UInt8.toNat_ofNat']
  omega
attribute [simp] u8_bv bv_u8
@[simp] theorem bv_u8_is (x : Int) (h : isB x = true) : bv (u8 x) = x := by
  unfold isB at h
  rw [Bool.and_eq_true, decide_eq_true_iff, decide_eq_true_iff] at h
  exact bv_u8 x h.1 h.2
theorem wrap_u8 (x : Int) : 0 ≤ IntKind.u8.wrap x ∧ IntKind.u8.wrap x ≤ 255 := by
  rw [IntKind.wrap_u8]
  omega
@[simp] theorem bv_u8_add (a b : Int) : bv (u8 (addI .u8 a b)) = addI .u8 a b := bv_u8 _ (wrap_u8 _).1 (wrap_u8 _).2
@[simp] theorem bv_u8_sub (a b : Int) : bv (u8 (subI .u8 a b)) = subI .u8 a b := bv_u8 _ (wrap_u8 _).1 (wrap_u8 _).2
@[simp] theorem bv_u8_mul (a b : Int) : bv (u8 (mulI .u8 a b)) = mulI .u8 a b := bv_u8 _ (wrap_u8 _).1 (wrap_u8 _).2
@[simp] theorem bv_u8_and (a b : Int) : bv (u8 (andI .u8 a b)) = andI .u8 a b := bv_u8 _ (wrap_u8 _).1 (wrap_u8 _).2
@[simp] theorem bv_u8_or (a b : Int) : bv (u8 (orI .u8 a b)) = orI .u8 a b := bv_u8 _ (wrap_u8 _).1 (wrap_u8 _).2
@[simp] theorem bv_u8_xor (a b : Int) : bv (u8 (xorI .u8 a b)) = xorI .u8 a b := bv_u8 _ (wrap_u8 _).1 (wrap_u8 _).2
@[simp] theorem bv_u8_conv (a : Int) : bv (u8 (convI .u8 a)) = convI .u8 a := bv_u8 _ (wrap_u8 _).1 (wrap_u8 _).2
/-! ### The same under names that are not opened -/
def binW := binAV
def unW := unAV
def convW := convAV0
def substrW := substrAV
def sliceW := sliceAV
def eqW := eqCells
def valW := evVal
def stepW := evOp
section
variable {O : Orc} {n lv : Nat} {tm : Nat → AV} {bx : Nat → Option ABox} {low : Mem} {ks : List K} {d : Option Nat} {s : St}
@[simp high] theorem goOps_consW (o : IOper) (ops : List IOper) : goOps O (o :: ops) (some ⟨n, lv, tm, bx, low⟩) ks = goOps O ops (stepW O o ⟨n, lv, tm, bx, low⟩) ks := goOps_cons o ops
/-- What is behind an operation. -/
def putW (d : Option Nat) (r : Option (AV × St)) : Option St := r.map fun r => r.2.put d r.1
@[simp] theorem putW_some (d : Nat) (v : AV) : putW (some d) (some (v, ⟨n, lv, tm, bx, low⟩)) = some ⟨n, lv, upd tm d v, bx, low⟩ := rfl
@[simp] theorem putW_nul (v : AV) : putW none (some (v, ⟨n, lv, tm, bx, low⟩)) = some ⟨n, lv, tm, bx, low⟩ := rfl
@[simp] theorem putW_none : putW d none = none := rfl
@[simp] theorem putW_cond (c : Bool) (a b : Option (AV × St)) : putW d (cond c a b) = cond c (putW d a) (putW d b) := by cases c <;> rfl
@[simp] theorem stepW_any (op : IOp) : stepW O ⟨op, d, none, .any⟩ ⟨n, lv, tm, bx, low⟩ = putW d (valW O op d ⟨n, lv, tm, bx, low⟩) := rfl
@[simp] theorem stepW_hint (op : IOp) (h : H) : stepW O ⟨op, d, none, h⟩ ⟨n, lv, tm, bx, low⟩ = if hintOk h (op.addr.map (St.mk n lv tm bx low).evX) lv then putW d (valW O op d ⟨n, lv, tm, bx, low⟩) else none := by
  show (if hintOk h (op.addr.map (St.mk n lv tm bx low).evX) lv then evVal O op d ⟨n, lv, tm, bx, low⟩ else none).map _ = _
  split <;> rfl
def guardW (g : AV) (want : Bool) (y : Option St) (x : Option St) : Option St :=
  match g with
  | .bool b => if b = want then y else x
  | .tup [] => x
  | _ => none
@[simp] theorem guardW_t (y x : Option St) : guardW (.bool true) true y x = y := rfl
@[simp] theorem guardW_f (y x : Option St) : guardW (.bool false) false y x = y := rfl
@[simp] theorem guardW_tf (y x : Option St) : guardW (.bool true) false y x = x := rfl
@[simp] theorem guardW_ft (y x : Option St) : guardW (.bool false) true y x = x := rfl
@[simp] theorem guardW_u (w : Bool) (y x : Option St) : guardW (.tup []) w y x = x := rfl
@[simp] theorem stepW_guard (op : IOp) (g : Nat) (want : Bool) : stepW O ⟨op, d, some (g, want), .any⟩ ⟨n, lv, tm, bx, low⟩ = guardW (tm g) want (putW d (valW O op d ⟨n, lv, tm, bx, low⟩)) (putW d (some (.tup [], ⟨n, lv, tm, bx, low⟩))) := by
  unfold stepW evOp evO guardW
  simp only
  generalize tm g = v
  cases v <;> try rfl
  · simp only
    split <;> rfl
  · rename_i vs
    cases vs <;> rfl
@[simp] theorem stepW_gh (op : IOp) (g : Nat) (want : Bool) (h : H) : stepW O ⟨op, d, some (g, want), h⟩ ⟨n, lv, tm, bx, low⟩ = guardW (tm g) want (if hintOk h (op.addr.map (St.mk n lv tm bx low).evX) lv then putW d (valW O op d ⟨n, lv, tm, bx, low⟩) else none) (putW d (some (.tup [], ⟨n, lv, tm, bx, low⟩))) := by
  have e : ∀ c : Bool, (if c = true then evVal O op d ⟨n, lv, tm, bx, low⟩ else none).map (fun r => r.2.put d r.1) = if c = true then putW d (valW O op d ⟨n, lv, tm, bx, low⟩) else none := by intro c; cases c <;> rfl
  unfold stepW evOp evO guardW evG
  simp only
  generalize tm g = v
  cases v <;> try rfl
  · simp only
    split
    · exact e _
    · rfl
  · rename_i vs
    cases vs <;> rfl
@[simp] theorem w_mov (x : X) : valW O (.mov x false) d s = some ((s.evX x).noOwn, s) := rfl
@[simp] theorem w_movT (x : X) : valW O (.mov x true) d s = some (s.evX x, s.use x) := rfl
def pickW (c a b : AV) (s : St) : Option (AV × St) :=
  match c with
  | .bool t => if t then some (a.noOwn, s) else some (b.noOwn, s)
  | _ => none
@[simp] theorem pickW_t (a b : AV) : pickW (.bool true) a b s = some (a.noOwn, s) := rfl
@[simp] theorem pickW_f (a b : AV) : pickW (.bool false) a b s = some (b.noOwn, s) := rfl
@[simp] theorem w_pick (c a b : X) : valW O (.pick c a b) d s = pickW (s.evX c) (s.evX a) (s.evX b) s := by
  show evVal O (.pick c a b) d s = _
  simp only [evVal]
  unfold pickW
  cases s.evX c <;> simp
  rename_i t
  cases t <;> rfl
@[simp] theorem w_alloc (t : TypeId) (cs : List AV) (d : Nat) : valW O (.alloc t cs) (some d) s = if (s.bx d).isNone ∧ isPtrless cs then some (.ptr s.lv d 0, { s with bx := upd s.bx d (some (.cells t cs)) }) else none := rfl
@[simp] theorem w_box (t : TypeId) (x : X) (d : Nat) : valW O (.box t x) (some d) s = if (s.bx d).isNone ∧ (s.evX x).known = true then some (.ptr s.lv d 0, { s.use x with bx := upd s.bx d (some (.cells t (s.evX x).cells)) }) else none := rfl
@[simp] theorem w_build (zero : List AV) (parts : List (Nat × Nat × X)) : valW O (.build zero parts) d s = (fillParts s zero parts).map fun r => (.agg r.1, r.2) := rfl
@[simp] theorem w_bslice (e : TypeId) (zero : List AV) (k : Nat) (parts : List (Nat × X)) : valW O (.bslice e zero k parts) d s = (fillRows s zero.length (List.replicate k zero) parts).map fun rows => (.sl (some e) zero.length rows, s) := rfl
def loadW (v : AV) (agg : Option Nat) (take : Bool) (s : St) : Option (AV × St) :=
  match v with
  | .ptr l sl o =>
    match s.get l sl with
    | some (.cells t cs) =>
      match aggOr agg cs o with
      | some v => if take then (if agg.isSome || v.one then some (v, s.setBox l sl (.cells t (splice cs o (v.cells.map AV.noOwn1)))) else none) else some (v.noOwn, s)
      | none => none
    | _ => none
  | .row cs => (aggOr agg cs 0).map fun v => (v, s)
  | .glob g o => (globAgg agg g o).map fun v => (v, s)
  | _ => none
@[simp] theorem w_load (x : X) (agg : Option Nat) (take : Bool) : valW O (.load x agg take) d s = loadW (s.evX x) agg take s := rfl
@[simp] theorem loadW_row (cs : List AV) (agg : Option Nat) (take : Bool) : loadW (.row cs) agg take s = (aggOr agg cs 0).map fun v => (v, s) := rfl
@[simp] theorem loadW_glob (g o : Nat) (agg : Option Nat) (take : Bool) : loadW (.glob g o) agg take s = (globAgg agg g o).map fun v => (v, s) := rfl
def loadB (b : Option ABox) (l sl o : Nat) (agg : Option Nat) (take : Bool) (s : St) : Option (AV × St) :=
  match b with
  | some (.cells t cs) =>
    match aggOr agg cs o with
    | some v => if take then (if agg.isSome || v.one then some (v, s.setBox l sl (.cells t (splice cs o (v.cells.map AV.noOwn1)))) else none) else some (v.noOwn, s)
    | none => none
  | _ => none
def loadC (t : TypeId) (cs : List AV) (v : Option AV) (l sl o : Nat) (agg : Option Nat) (take : Bool) (s : St) : Option (AV × St) :=
  match v with
  | some v => if take then (if agg.isSome || v.one then some (v, s.setBox l sl (.cells t (splice cs o (v.cells.map AV.noOwn1)))) else none) else some (v.noOwn, s)
  | none => none
@[simp] theorem loadW_ptr (l sl o : Nat) (agg : Option Nat) (take : Bool) : loadW (.ptr l sl o) agg take s = loadB (s.get l sl) l sl o agg take s := rfl
@[simp] theorem loadB_cells (t : TypeId) (cs : List AV) (l sl o : Nat) (agg : Option Nat) (take : Bool) : loadB (some (.cells t cs)) l sl o agg take s = loadC t cs (aggOr agg cs o) l sl o agg take s := rfl
@[simp] theorem loadC_f (t : TypeId) (cs : List AV) (v : AV) (l sl o : Nat) (agg : Option Nat) : loadC t cs (some v) l sl o agg false s = some (v.noOwn, s) := rfl
@[simp] theorem loadC_t (t : TypeId) (cs : List AV) (v : AV) (l sl o : Nat) (agg : Option Nat) : loadC t cs (some v) l sl o agg true s = if agg.isSome || v.one then some (v, s.setBox l sl (.cells t (splice cs o (v.cells.map AV.noOwn1)))) else none := rfl
def storeW (a v : AV) (x : X) (sz : Nat) (s : St) : Option (AV × St) :=
  match a with
  | .ptr l sl o =>
    match s.get l sl with
    | some (.cells t cs) =>
      let u := v.cells
      if u.length = sz ∧ v.known = true ∧ o + sz ≤ cs.length ∧ (l = s.lv ∨ okPs (fun l' _ => decide (l' ≤ l)) u = true) then some (.tup [], (s.use x).setBox l sl (.cells t (splice cs o u))) else none
    | _ => none
  | _ => none
def storeB (b : Option ABox) (l sl o : Nat) (v : AV) (x : X) (sz : Nat) (s : St) : Option (AV × St) :=
  match b with
  | some (.cells t cs) => if v.cells.length = sz ∧ v.known = true ∧ o + sz ≤ cs.length ∧ (l = s.lv ∨ okPs (fun l' _ => decide (l' ≤ l)) v.cells = true) then some (.tup [], (s.use x).setBox l sl (.cells t (splice cs o v.cells))) else none
  | _ => none
@[simp] theorem w_store (x v : X) (sz : Nat) : valW O (.store x v sz) d s = storeW (s.evX x) (s.evX v) v sz s := rfl
@[simp] theorem storeW_ptr (l sl o : Nat) (v : AV) (x : X) (sz : Nat) : storeW (.ptr l sl o) v x sz s = storeB (s.get l sl) l sl o v x sz s := rfl
@[simp] theorem storeB_cells (t : TypeId) (cs : List AV) (l sl o : Nat) (v : AV) (x : X) (sz : Nat) : storeB (some (.cells t cs)) l sl o v x sz s = if v.cells.length = sz ∧ v.known = true ∧ o + sz ≤ cs.length ∧ (l = s.lv ∨ okPs (fun l' _ => decide (l' ≤ l)) v.cells = true) then some (.tup [], (s.use x).setBox l sl (.cells t (splice cs o v.cells))) else none := rfl
def chkW (v : AV) (s : St) : Option (AV × St) :=
  match v with
  | .ptr l sl o => some (.ptr l sl o, s)
  | .row cs => some (.row cs, s)
  | .glob g o => some (.glob g o, s)
  | _ => none
@[simp] theorem w_chk (x : X) : valW O (.chk x) d s = chkW (s.evX x) s := rfl
@[simp] theorem chkW_ptr (l sl o : Nat) : chkW (.ptr l sl o) s = some (.ptr l sl o, s) := rfl
@[simp] theorem chkW_row (cs : List AV) : chkW (.row cs) s = some (.row cs, s) := rfl
@[simp] theorem chkW_glob (g o : Nat) : chkW (.glob g o) s = some (.glob g o, s) := rfl
@[simp] theorem w_bin (op : BinOp) (x y : X) : valW O (.bin op x y) d s = (binW op (s.evX x) (s.evX y)).map fun v => (v, s) := rfl
def eqbW (neg : Bool) (x y : AV) (s : St) : Option (AV × St) :=
  match x, y with
  | .bool a, .bool b => some (.bool (if neg then !(a == b) else a == b), s)
  | _, _ => none
@[simp] theorem w_eqb (neg : Bool) (x y : X) : valW O (.eqb neg x y) d s = eqbW neg (s.evX x) (s.evX y) s := rfl
@[simp] theorem eqbW_b (neg a b : Bool) : eqbW neg (.bool a) (.bool b) s = some (.bool (if neg then !(a == b) else a == b), s) := rfl
def eqaW (neg : Bool) (ks : List CK) (x y : AV) (s : St) : Option (AV × St) :=
  match x, y with
  | .agg a, .agg b => (eqW ks a b).map fun r => (.bool (if neg then !r else r), s)
  | _, _ => none
@[simp] theorem w_eq (neg : Bool) (kk : List CK) (x y : X) : valW O (.eq neg kk x y) d s = eqaW neg kk (s.evX x) (s.evX y) s := rfl
@[simp] theorem eqaW_a (neg : Bool) (kk : List CK) (a b : List AV) : eqaW neg kk (.agg a) (.agg b) s = (eqW kk a b).map fun r => (.bool (if neg then !r else r), s) := rfl
@[simp] theorem w_un (op : UnOp) (x : X) : valW O (.un op x) d s = (unW op (s.evX x)).map fun v => (v, s) := rfl
def convM (k : Cv) (v : AV) (s : St) : Option (AV × St) := (convAV k v).map fun v => (v, s)
@[simp] theorem w_conv (k : Cv) (x : X) : valW O (.conv k x) d s = convM k (s.evX x) s := rfl
@[simp] theorem convM_mki (v : AV) : convM .mki v s = some (.ifc true, s) := rfl
@[simp] theorem convM_int (k : IntKind) (v : AV) : convM (.int k) v s = (convW (.int k) v).map fun v => (v, s) := rfl
@[simp] theorem convM_same (v : AV) : convM .same v s = (convW .same v).map fun v => (v, s) := rfl
@[simp] theorem convM_b2s (v : AV) : convM .b2s v s = (convW .b2s v).map fun v => (v, s) := rfl
@[simp] theorem convM_s2b (e : TypeId) (v : AV) : convM (.s2b e) v s = (convW (.s2b e) v).map fun v => (v, s) := rfl
@[simp] theorem convM_r2s (v : AV) : convM .r2s v s = (convW .r2s v).map fun v => (v, s) := rfl
@[simp] theorem convM_isnil (b : Bool) (v : AV) : convM (.isnil b) v s = (convW (.isnil b) v).map fun v => (v, s) := rfl
@[simp] theorem w_slice (x : X) (lo hi : Option X) (sz : Nat) : valW O (.slice x lo hi sz) d s = (sliceW (s.evX x) (lo.map s.evX) (hi.map s.evX) sz).map fun v => (v, s) := rfl
@[simp] theorem w_substr (x : X) (lo hi : Option X) : valW O (.substr x lo hi) d s = (substrW (s.evX x) (lo.map s.evX) (hi.map s.evX)).map fun v => (v, s) := rfl
def faddrW (v : AV) (off : Nat) (s : St) : Option (AV × St) :=
  match v with
  | .ptr l sl o => some (.ptr l sl (o + off), s)
  | .row cs => if off < cs.length then some (.row (cs.drop off), s) else none
  | .glob g o => some (.glob g (o + off), s)
  | _ => none
@[simp] theorem w_faddr (x : X) (off : Nat) : valW O (.faddr x off) d s = faddrW (s.evX x) off s := rfl
@[simp] theorem faddrW_ptr (l sl o off : Nat) : faddrW (.ptr l sl o) off s = some (.ptr l sl (o + off), s) := rfl
@[simp] theorem faddrW_row (cs : List AV) (off : Nat) : faddrW (.row cs) off s = if off < cs.length then some (.row (cs.drop off), s) else none := rfl
@[simp] theorem faddrW_glob (g o off : Nat) : faddrW (.glob g o) off s = some (.glob g (o + off), s) := rfl
def fieldW (v : AV) (off : Nat) (agg : Option Nat) (s : St) : Option (AV × St) :=
  match v with
  | .agg cs => (aggOr agg cs off).map fun v => (v.noOwn, s)
  | _ => none
@[simp] theorem w_field (x : X) (off : Nat) (agg : Option Nat) : valW O (.field x off agg) d s = fieldW (s.evX x) off agg s := rfl
@[simp] theorem fieldW_agg (cs : List AV) (off : Nat) (agg : Option Nat) : fieldW (.agg cs) off agg s = (aggOr agg cs off).map fun v => (v.noOwn, s) := rfl
def extW (v : AV) (x : X) (i : Nat) (take : Bool) (s : St) : Option (AV × St) :=
  match v, x with
  | .tup vs, .t n => (vs[i]?).bind fun v => if v.isTup then none else if take then some (v, { s with tm := upd s.tm n (.tup (vs.set i v.noOwnA)) }) else some (v.noOwnA, s)
  | _, _ => none
@[simp] theorem w_ext (x : X) (i : Nat) (take : Bool) : valW O (.ext x i take) d s = extW (s.evX x) x i take s := rfl
@[simp] theorem extW_tup (vs : List AV) (n i : Nat) (take : Bool) : extW (.tup vs) (.t n) i take s = (cellAt vs i).bind fun v => if v.isTup then none else if take then some (v, { s with tm := upd s.tm n (.tup (vs.set i v.noOwnA)) }) else some (v.noOwnA, s) := rfl
def lenW (v : AV) (s : St) : Option (AV × St) :=
  match v with
  | .sl _ _ rows => some (.int .i64 rows.length, s)
  | .win _ _ _ m _ => some (.int .i64 m, s)
  | _ => none
@[simp] theorem w_len (x : X) : valW O (.len x) d s = lenW (s.evX x) s := rfl
@[simp] theorem lenW_sl (o : Option TypeId) (z : Nat) (rows : List (List AV)) : lenW (.sl o z rows) s = some (.int .i64 (rows.length : Int), s) := rfl
@[simp] theorem lenW_win (l sl o m z : Nat) : lenW (.win l sl o m z) s = some (.int .i64 (m : Int), s) := rfl
def lenSW (v : AV) (s : St) : Option (AV × St) :=
  match v with
  | .str b => some (.int .i64 b.size, s)
  | _ => none
@[simp] theorem w_lenS (x : X) : valW O (.lenS x) d s = lenSW (s.evX x) s := rfl
@[simp] theorem lenSW_s (l : List UInt8) : lenSW (.str (bs l)) s = some (.int .i64 (l.length : Int), s) := rfl
def retW (r : Option (List AV × Mem)) (s : St) : Option (AV × St) := r.map fun r => (retAV r.1, s.after r.2)
@[simp] theorem retW_some (vs : List AV) (m : Mem) : retW (some (vs, m)) s = some (retAV vs, s.after m) := rfl
def retP (r : Option (List AV × Mem)) (s : St) : Option (AV × St) := r.map fun r => (retAV r.1, s)
@[simp] theorem retP_some (vs : List AV) (m : Mem) : retP (some (vs, m)) s = some (retAV vs, s) := rfl
def callW (O : Orc) (pure : Bool) (f : AV) (vs : List AV) (s : St) : Option (AV × St) :=
  match f with
  | .fn g caps => if pure then (if isPtrless (vs ++ caps.map AV.noOwn) then retP (O.call g (vs ++ caps.map AV.noOwn) noMem 0) s else none) else retW (O.call g (vs ++ caps.map AV.noOwn) s.mem (s.lv + 1)) s
  | _ => none
@[simp] theorem w_call (pure : Bool) (f : X) (args : List X) : valW O (.call pure f args) d s = callW O pure (s.evX f) (args.map fun x => (s.evX x).noOwn) s := by
  show evVal O (.call pure f args) d s = _
  simp only [evVal]
  unfold callW
  cases s.evX f <;> simp
  cases pure <;> simp [retP, retW]
@[simp] theorem callW_p (g : FuncId) (caps vs : List AV) : callW O true (.fn g caps) vs s = if isPtrless (vs ++ caps.map AV.noOwn) then retP (O.call g (vs ++ caps.map AV.noOwn) noMem 0) s else none := rfl
@[simp] theorem callW_f (g : FuncId) (caps vs : List AV) : callW O false (.fn g caps) vs s = retW (O.call g (vs ++ caps.map AV.noOwn) s.mem (s.lv + 1)) s := rfl
def retH (r : Option (List AV × Mem)) (s : St) : Option (AV × St) :=
  match r with
  | some (rs, low') => if (retAV rs).okP (fun l _ => decide (l ≠ s.lv)) = true then some (retAV rs, { s with low := fun l => if l < s.lv then low' l else s.low l }) else none
  | none => none
def callHW (O : Orc) (f : AV) (vs : List AV) (s : St) : Option (AV × St) :=
  match f with
  | .fn g caps => if okPs (fun l _ => decide (l ≠ s.lv)) (vs ++ caps.map AV.noOwn) then retH (O.call g (vs ++ caps.map AV.noOwn) (hidMem s.lv s.mem) (s.lv + 1)) s else none
  | _ => none
@[simp] theorem w_callH (f : X) (args : List X) : valW O (.callH f args) d s = callHW O (s.evX f) (args.map fun x => (s.evX x).noOwn) s := rfl
@[simp] theorem callHW_f (g : FuncId) (caps vs : List AV) : callHW O (.fn g caps) vs s = if okPs (fun l _ => decide (l ≠ s.lv)) (vs ++ caps.map AV.noOwn) then retH (O.call g (vs ++ caps.map AV.noOwn) (hidMem s.lv s.mem) (s.lv + 1)) s else none := rfl
@[simp] theorem mem_at (l : Nat) (h : l < lv) : (St.mk n lv tm bx low).mem l = low l := by
  unfold St.mem
  simp only
  rw [if_neg (by omega), if_pos h]
@[simp] theorem hid_at (l sl : Nat) (h : l < lv) : hidMem lv (St.mk n lv tm bx low).mem l sl = low l sl := by
  unfold hidMem
  rw [if_neg (by omega), mem_at l h]
@[simp] theorem retH_upd (rs : List AV) (l sl : Nat) (B : ABox) (h : l < lv) : retH (some (rs, updM (hidMem lv (St.mk n lv tm bx low).mem) l sl B)) ⟨n, lv, tm, bx, low⟩ = if (retAV rs).okP (fun l _ => decide (l ≠ lv)) = true then some (retAV rs, ⟨n, lv, tm, bx, updM low l sl B⟩) else none := by
  unfold retH
  simp only
  split
  · congr 3
    funext a
    by_cases h1 : a < lv
    · rw [if_pos h1]
      funext b
      rw [updM_eq, updM_eq, hid_at a b h1]
    · rw [if_neg h1]
      funext b
      rw [updM_eq, if_neg (by omega)]
  · rfl
@[simp] theorem retH_same (rs : List AV) : retH (some (rs, hidMem lv (St.mk n lv tm bx low).mem)) ⟨n, lv, tm, bx, low⟩ = if (retAV rs).okP (fun l _ => decide (l ≠ lv)) = true then some (retAV rs, ⟨n, lv, tm, bx, low⟩) else none := by
  unfold retH
  simp only
  split
  · congr 3
    funext a
    by_cases h1 : a < lv
    · rw [if_pos h1]
      funext b
      rw [hid_at a b h1]
    · rw [if_neg h1]
  · rfl
@[simp] theorem updM_at (m : Mem) (l sl : Nat) (B : ABox) : updM m l sl B l sl = some B := by rw [updM_eq, if_pos ⟨rfl, rfl⟩]
theorem updM_self {m : Mem} {l sl : Nat} {B : ABox} (h : m l sl = some B) : updM m l sl B = m := by
  funext a b
  rw [updM_eq]
  split
  · rename_i h1; rw [h1.1, h1.2, h]
  · rfl
attribute [simp] updM_updM after_own
@[simp] theorem after_low' (l sl : Nat) (B : ABox) (h : l < lv) : (St.mk n lv tm bx low).after (updM ((St.mk n lv tm bx low).mem) l sl B) = ⟨n, lv, tm, bx, updM low l sl B⟩ := after_low n lv tm bx low l sl B h
@[simp] theorem w_mkf (f : FuncId) (caps : List X) : valW O (.mkf f caps) d s = some (.fn f (caps.map fun x => (s.evX x).noOwn), s) := rfl
@[simp] theorem w_fail : valW O .fail d s = none := rfl
@[simp] theorem w_unnot (b : Bool) : unW .not (.bool b) = some (.bool (!b)) := rfl
@[simp] theorem w_same (b : ByteArray) : convW .same (.str b) = some (.str b) := rfl
@[simp] theorem w_b2s (o : Option TypeId) (z : Nat) (rows : List (List AV)) : convW .b2s (.sl o z rows) = (bytesOf rows).map fun l => .str (bs l) := rfl
@[simp] theorem w_isnil (neg nn : Bool) : convW (.isnil neg) (.ifc nn) = some (.bool (nn == neg)) := rfl
@[simp] theorem w_eqnil : eqW [] [] [] = some true := rfl
@[simp] theorem w_eqb' (kk : List CK) (a b : Bool) (r q : List AV) : eqW (.b :: kk) (.bool a :: r) (.bool b :: q) = (eqW kk r q).map ((a == b) && ·) := rfl
end
/-! ### Numbers -/
@[simp high] theorem x_add (k : IntKind) (a b : Int) : binW .add (.int k a) (.int k b) = some (.int k (addI k a b)) := by simp [binW, binAV, addI]
@[simp high] theorem x_sub (k : IntKind) (a b : Int) : binW .sub (.int k a) (.int k b) = some (.int k (subI k a b)) := by simp [binW, binAV, subI]
@[simp high] theorem x_mul (k : IntKind) (a b : Int) : binW .mul (.int k a) (.int k b) = some (.int k (mulI k a b)) := by simp [binW, binAV, mulI]
@[simp high] theorem x_quo (k : IntKind) (a b : Int) : binW .quo (.int k a) (.int k b) = (quoI k a b).map (.int k ·) := by simp only [binW, binAV, binInt, quoI]; split <;> simp_all
@[simp high] theorem x_rem (k : IntKind) (a b : Int) : binW .rem (.int k a) (.int k b) = (remI k a b).map (.int k ·) := by simp only [binW, binAV, binInt, remI]; split <;> simp_all
@[simp high] theorem x_and (k : IntKind) (a b : Int) : binW .and (.int k a) (.int k b) = some (.int k (andI k a b)) := by simp [binW, binAV, andI]
@[simp high] theorem x_or (k : IntKind) (a b : Int) : binW .or (.int k a) (.int k b) = some (.int k (orI k a b)) := by simp [binW, binAV, orI]
@[simp high] theorem x_xor (k : IntKind) (a b : Int) : binW .xor (.int k a) (.int k b) = some (.int k (xorI k a b)) := by simp [binW, binAV, xorI]
@[simp high] theorem x_andNot (k : IntKind) (a b : Int) : binW .andNot (.int k a) (.int k b) = some (.int k (andNotI k a b)) := by simp [binW, binAV, andNotI]
@[simp high] theorem x_shl (k k' : IntKind) (a b : Int) : binW .shl (.int k a) (.int k' b) = (shlI k a b).map (.int k ·) := by simp only [binW, binAV, binInt, shlI]; split <;> simp_all
@[simp high] theorem x_shr (k k' : IntKind) (a b : Int) : binW .shr (.int k a) (.int k' b) = (shrI k a b).map (.int k ·) := by simp only [binW, binAV, binInt, shrI]; split <;> simp_all
@[simp high] theorem x_eql (k : IntKind) (a b : Int) : binW .eql (.int k a) (.int k b) = some (.bool (eqI a b)) := by simp [binW, binAV, eqI]
@[simp high] theorem x_neq (k : IntKind) (a b : Int) : binW .neq (.int k a) (.int k b) = some (.bool (!eqI a b)) := by simp [binW, binAV, eqI]; rfl
@[simp high] theorem x_lss (k : IntKind) (a b : Int) : binW .lss (.int k a) (.int k b) = some (.bool (ltI a b)) := by simp [binW, binAV, ltI]
@[simp high] theorem x_leq (k : IntKind) (a b : Int) : binW .leq (.int k a) (.int k b) = some (.bool (leI a b)) := by simp [binW, binAV, leI]
@[simp high] theorem x_gtr (k : IntKind) (a b : Int) : binW .gtr (.int k a) (.int k b) = some (.bool (ltI b a)) := by simp [binW, binAV, ltI]
@[simp high] theorem x_geq (k : IntKind) (a b : Int) : binW .geq (.int k a) (.int k b) = some (.bool (leI b a)) := by simp [binW, binAV, leI]
@[simp high] theorem x_neg (k : IntKind) (n : Int) : unW .neg (.int k n) = some (.int k (negI k n)) := rfl
@[simp high] theorem x_not (k : IntKind) (n : Int) : unW .xor (.int k n) = some (.int k (notI k n)) := rfl
@[simp high] theorem x_conv (k k' : IntKind) (n : Int) : convW (.int k) (.int k' n) = some (.int k (convI k n)) := rfl
@[simp high] theorem x_r2s (k' : IntKind) (n : Int) : convW .r2s (.int k' n) = some (.str (bs (encI n))) := by simp [encI]; rfl
@[simp high] theorem x_s2b (e : TypeId) (l : List UInt8) : convW (.s2b e) (.str (bs l)) = (s2bI l).map (fun l => .sl none 1 (l.map byteRow)) := by
  simp only [convW, convAV0, s2bI, bs_size, bs_data]
  by_cases h : l.length ≤ 4611686018427387904 <;> simp [h]
@[simp high] theorem x_mm (O : Orc) (d : Option Nat) (s : St) (mx : Bool) (x y : X) : valW O (.mm mx x y) d s = (match s.evX x, s.evX y with | .int k a, .int _ b => some (.int k (mmI mx a b), s) | _, _ => none) := rfl
/-! ### Strings -/
@[simp high] theorem x_sadd (a b : List UInt8) : binW .add (.str (bs a)) (.str (bs b)) = (catI a b).map (fun l => .str (bs l)) := by
  simp only [binW, binAV, binStr, catI, bs_size, bs_append]
  split <;> rfl
@[simp high] theorem x_seql (a b : List UInt8) : binW .eql (.str (bs a)) (.str (bs b)) = some (.bool (eqS a b)) := by simp [binW, binAV, binStr, eqS]
@[simp high] theorem x_sneq (a b : List UInt8) : binW .neq (.str (bs a)) (.str (bs b)) = some (.bool (!eqS a b)) := by simp [binW, binAV, binStr, eqS]
@[simp high] theorem x_slss (a b : List UInt8) : binW .lss (.str (bs a)) (.str (bs b)) = some (.bool (ltS a b)) := by simp [binW, binAV, binStr, ltS]
@[simp high] theorem x_sleq (a b : List UInt8) : binW .leq (.str (bs a)) (.str (bs b)) = some (.bool (ltS a b || eqS a b)) := by simp [binW, binAV, binStr, ltS, eqS]
@[simp high] theorem x_sgtr (a b : List UInt8) : binW .gtr (.str (bs a)) (.str (bs b)) = some (.bool (!(ltS a b || eqS a b))) := by simp [binW, binAV, binStr, ltS, eqS]
@[simp high] theorem x_sgeq (a b : List UInt8) : binW .geq (.str (bs a)) (.str (bs b)) = some (.bool (!ltS a b)) := by simp [binW, binAV, binStr, ltS]
def idxSv (x i : AV) (s : St) : Option (AV × St) :=
  match x, i with
  | .str b, .int _ n => if 0 ≤ n then (b[n.toNat]?).map fun c => (.int .u8 c.toNat, s) else none
  | _, _ => none
@[simp high] theorem x_idxS (O : Orc) (d : Option Nat) (s : St) (x i : X) : valW O (.idxS x i) d s = idxSv (s.evX x) (s.evX i) s := rfl
@[simp] theorem x_idxSv (l : List UInt8) (k : IntKind) (n : Int) (s : St) : idxSv (.str (bs l)) (.int k n) s = (atI l n).map fun c => (.int .u8 (bv c), s) := by
  unfold idxSv atI
  simp only [bs_get]
  split <;> rfl
@[simp high] theorem x_substr (l : List UInt8) (k k' : IntKind) (a b : Int) : substrW (.str (bs l)) (some (.int k a)) (some (.int k' b)) = (cutI l a b).map fun l => .str (bs l) := by
  simp only [substrW, substrAV, bound, cutI, bs_extract, bs_size]
  split <;> simp_all
@[simp high] theorem x_substr0 (l : List UInt8) (k' : IntKind) (b : Int) : substrW (.str (bs l)) none (some (.int k' b)) = (cutI l 0 b).map fun l => .str (bs l) := by
  simp only [substrW, substrAV, bound, cutI, bs_extract, bs_size]
  split <;> simp_all
@[simp high] theorem x_substr1 (l : List UInt8) (k : IntKind) (a : Int) : substrW (.str (bs l)) (some (.int k a)) none = (cutI l a (ln l)).map fun l => .str (bs l) := by
  simp only [substrW, substrAV, bound, cutI, bs_extract, bs_size, ln]
  split <;> simp_all
@[simp] theorem x_bytes (x : Int) (r : List (List AV)) : bytesOf ([.int .u8 x] :: r) = (bytesOf r).map (u8 x :: ·) := rfl
@[simp] theorem x_bytes_app (l : List UInt8) (r : List (List AV)) : bytesOf (l.map byteRow ++ r) = (bytesOf r).map (l ++ ·) := bytesOf_app l r
attribute [-simp] bytesOf_cons
/-! ### Slices -/
@[simp high] theorem x_slice (o : Option TypeId) (z sz : Nat) (f : α → List AV) (l : List α) (k k' : IntKind) (a b : Int) (h : z = sz) : sliceW (.sl o z (l.map f)) (some (.int k a)) (some (.int k' b)) sz = (cutI l a b).map fun l => .sl none z (l.map f) := by
  simp only [sliceW, sliceAV, bound, cutI, List.length_map, ← List.map_take, ← List.map_drop, h, and_true]
  split <;> simp_all
@[simp high] theorem x_slice0 (o : Option TypeId) (z sz : Nat) (f : α → List AV) (l : List α) (k' : IntKind) (b : Int) (h : z = sz) : sliceW (.sl o z (l.map f)) none (some (.int k' b)) sz = (cutI l 0 b).map fun l => .sl none z (l.map f) := by
  simp only [sliceW, sliceAV, bound, cutI, List.length_map, ← List.map_take, ← List.map_drop, h, and_true]
  split <;> simp_all
@[simp high] theorem x_slice1 (o : Option TypeId) (z sz : Nat) (f : α → List AV) (l : List α) (k : IntKind) (a : Int) (h : z = sz) : sliceW (.sl o z (l.map f)) (some (.int k a)) none sz = (cutI l a (ln l)).map fun l => .sl none z (l.map f) := by
  simp only [sliceW, sliceAV, bound, cutI, List.length_map, ← List.map_take, ← List.map_drop, h, and_true, ln]
  split <;> simp_all
def iaddrSv (x i : AV) (sz : Nat) (s : St) : Option (AV × St) :=
  match x, i with
  | .sl _ z rows, .int _ n => if 0 ≤ n ∧ n < rows.length ∧ z = sz then some (.row (rows.getD n.toNat []), s) else none
  | .win l sl o m z, .int _ n => if 0 ≤ n ∧ n < m ∧ z = sz then some (.ptr l sl (o + n.toNat * sz), s) else none
  | _, _ => none
@[simp high] theorem x_iaddrS (O : Orc) (d : Option Nat) (s : St) (x i : X) (sz : Nat) : valW O (.iaddrS x i sz) d s = iaddrSv (s.evX x) (s.evX i) sz s := rfl
@[simp] theorem x_iaddrSv (o : Option TypeId) (z sz : Nat) (f : α → List AV) (l : List α) (k : IntKind) (n : Int) (s : St) (h : z = sz) : iaddrSv (.sl o z (l.map f)) (.int k n) sz s = (atI l n).map fun x => (.row (f x), s) := by
  unfold iaddrSv atI
  subst h
  simp only [List.length_map, and_true]
  by_cases h1 : 0 ≤ n
  · by_cases h2 : n < (l.length : Int)
    · rw [if_pos ⟨h1, h2⟩, if_pos h1]
      have h3 : n.toNat < l.length := by omega
      rw [List.getElem?_eq_getElem h3]
      simp [h3]
    · rw [if_neg (fun h => h2 h.2), if_pos h1, List.getElem?_eq_none (by omega)]
      rfl
  · rw [if_neg (fun h => h1 h.1), if_neg h1]
    rfl
@[simp] theorem x_iaddrSnil (o : Option TypeId) (z sz : Nat) (k : IntKind) (n : Int) (s : St) : iaddrSv (.sl o z []) (.int k n) sz s = none := by
  unfold iaddrSv
  simp only [List.length_nil]
  rw [if_neg]
  intro h
  have := h.1
  have := h.2.1
  omega
/-- Appending: what is asked of the sizes stands shut. -/
def appV (x y : AV) (e : TypeId) (sz bytes : Nat) (s : St) : Option (AV × St) :=
  match x, y with
  | .sl (some e') z rows, .sl _ z' more => if e' = e ∧ z = sz ∧ z' = sz then (if room rows more bytes then some (.sl (some e) sz (rows ++ more), s) else none) else none
  | _, _ => none
@[simp high] theorem x_app (O : Orc) (d : Nat) (s : St) (x y : X) (e : TypeId) (sz bytes : Nat) : valW O (.app x y e sz bytes) (some d) s = appV (s.evX x) (s.evX y) e sz bytes (s.use x) := by
  simp only [valW, evVal, appV]
  split
  · rename_i e' z rows o z' more _ _
    rename_i h1 h2
    rw [h1, h2]
    simp only [room, roomN]
    by_cases c1 : e' = e ∧ z = sz ∧ z' = sz
    · rw [if_pos c1]
      by_cases c2 : (rows.length + more.length) * bytes ≤ 140737488355328 ∧ rows.length + more.length ≤ 9223372036854775807
      · have h3 : (decide ((rows.length + more.length) * bytes ≤ 140737488355328) && decide (rows.length + more.length ≤ 9223372036854775807)) = true := by rw [decide_eq_true c2.1, decide_eq_true c2.2]; rfl
        rw [if_pos ⟨rfl, c1.1, c1.2.1, c1.2.2, c2.1, c2.2⟩]; simp only [h3, if_true]
      · have h3 : ¬ (decide ((rows.length + more.length) * bytes ≤ 140737488355328) && decide (rows.length + more.length ≤ 9223372036854775807)) = true := by
          rw [Bool.and_eq_true, decide_eq_true_iff, decide_eq_true_iff]
          exact c2
        rw [if_neg (fun h => c2 ⟨h.2.2.2.2.1, h.2.2.2.2.2⟩)]; simp only [h3, if_false]; rfl
    · rw [if_neg (fun h => c1 ⟨h.2.1, h.2.2.1, h.2.2.2.1⟩), if_neg c1]
  · rename_i hne
    split
    · rename_i h1 h2
      exact absurd h2 (hne _ _ _ _ _ _ h1)
    · rfl
@[simp] theorem x_appV (e' e : TypeId) (o : Option TypeId) (z z' sz bytes : Nat) (rows more : List (List AV)) (s : St) (h1 : e' = e) (h2 : z = sz) (h3 : z' = sz) : appV (.sl (some e') z rows) (.sl o z' more) e sz bytes s = if room rows more bytes then some (.sl (some e) sz (rows ++ more), s) else none := by
  unfold appV
  simp only
  rw [if_pos ⟨h1, h2, h3⟩]
@[simp] theorem room_map1 (f : α → β) (l : List α) {γ : Type} (r : List γ) (b : Nat) : room (l.map f) r b = room l r b := by unfold room; rw [List.length_map]
@[simp] theorem room_map2 (f : α → β) (l : List α) {γ : Type} (r : List γ) (b : Nat) : room r (l.map f) b = room r l b := by unfold room; rw [List.length_map]
@[simp] theorem room_app (l m : List α) {γ : Type} (r : List γ) (b : Nat) : room (l ++ m) r b = roomN (l.length + m.length + r.length) b := by unfold room; rw [List.length_append]
@[simp] theorem room_l1 (l : List α) {γ : Type} (x : γ) (b : Nat) : room l [x] b = room1 l 1 b := rfl
@[simp] theorem room_l2 (l : List α) {γ : Type} (x y : γ) (b : Nat) : room l [x, y] b = room1 l 2 b := rfl
@[simp] theorem room_l3 (l : List α) {γ : Type} (x y z : γ) (b : Nat) : room l [x, y, z] b = room1 l 3 b := rfl
@[simp] theorem room_l4 (l : List α) {γ : Type} (x y z u : γ) (b : Nat) : room l [x, y, z, u] b = room1 l 4 b := rfl
@[simp] theorem room_l5 (l : List α) {γ : Type} (x y z u v : γ) (b : Nat) : room l [x, y, z, u, v] b = room1 l 5 b := rfl
@[simp] theorem room_l6 (l : List α) {γ : Type} (x y z u v w : γ) (b : Nat) : room l [x, y, z, u, v, w] b = room1 l 6 b := rfl
@[simp] theorem room_l7 (l : List α) {γ : Type} (x y z u v w q : γ) (b : Nat) : room l [x, y, z, u, v, w, q] b = room1 l 7 b := rfl
@[simp] theorem room1_map (f : α → β) (l : List α) (k b : Nat) : room1 (l.map f) k b = room1 l k b := by unfold room1; rw [List.length_map]
@[simp] theorem room1_nil (k b : Nat) : room1 ([] : List α) k b = roomN k b := by unfold room1; rw [List.length_nil, Nat.zero_add]
@[simp] theorem room1_cons (x : α) (l : List α) (k b : Nat) : room1 (x :: l) k b = room1 l (k + 1) b := by unfold room1; rw [List.length_cons]; congr 1; omega
@[simp] theorem roomN_small (k b : Nat) (h : k * b ≤ 1000000) (h2 : k ≤ 1000000) : roomN k b = true := by
  unfold roomN
  rw [Bool.and_eq_true, decide_eq_true_iff, decide_eq_true_iff]
  omega
@[simp high] theorem x_mks (O : Orc) (d : Option Nat) (s : St) (e : TypeId) (bytes : Nat) (zero : List AV) (x : X) : valW O (.mks e bytes zero x) d s = (match s.evX x with | .int _ n => (mkI n bytes).map fun k => (.sl (some e) zero.length (List.replicate k zero), s) | _ => none) := by
  simp only [valW, evVal]
  split
  · rename_i h
    rw [h]
    simp only [mkI]
    split <;> rfl
  · rename_i h
    split
    · rename_i h2
      exact absurd h2 (h _ _)
    · rfl
@[simp high] theorem x_nat2 (O : Orc) (d : Option Nat) (s : St) (k : N2) (x y : X) : valW O (.nat2 k x y) d s = (match s.evX x, s.evX y with | .str b, .int .u8 c => some (.int .i64 (n2 k b c), s) | _, _ => none) := rfl
@[simp] theorem x_idxB (l : List UInt8) (c : Int) : n2 .idxByte (bs l) c = ixB l c := rfl
@[simp] theorem x_ctB (l : List UInt8) (c : Int) : n2 .cntByte (bs l) c = ctB l c := rfl
/-! ### Equality of structs -/
@[simp high] theorem x_eqi (k k1 k2 : IntKind) (ks : List CK) (a b : Int) (r q : List AV) (h : k1 = k ∧ k2 = k) : eqW (.i k :: ks) (.int k1 a :: r) (.int k2 b :: q) = (eqW ks r q).map (eqI a b && ·) := by simp only [eqW, eqCells, if_pos h]; rfl
@[simp high] theorem x_eqs (ks : List CK) (a b : List UInt8) (r q : List AV) : eqW (.s :: ks) (.str (bs a) :: r) (.str (bs b) :: q) = (eqW ks r q).map (eqS a b && ·) := by simp [eqW, eqCells, eqS]
attribute [simp] AV.one
/-! ### Rows -/
def iRow (k : IntKind) (x : Int) : List AV := [.int k x]
def bRow (x : Bool) : List AV := [.bool x]
def eRow (x : Bool) : List AV := [.ifc x]
def sRow (x : List UInt8) : List AV := [.str (bs x)]
def lRow (z : Nat) (f : α → List AV) (x : List α) : List AV := [.sl none z (x.map f)]
@[simp] theorem byteRow_bv (b : UInt8) : byteRow b = [.int .u8 (bv b)] := rfl
attribute [simp] iRow bRow eRow sRow lRow
/-! ### Tests -/
@[simp] theorem cond_ite (c : Bool) (a b : α) : (if c = true then a else b) = cond c a b := by cases c <;> rfl
attribute [simp] cast_ln cast_bv
end
end Go.Ev
