/- A small language into which the functions of a program are turned, and what it answers, over values: slices are lists, a struct is its cells. (That the Go code answers so: the texts that follow.) Condition: none. -/
import Derived.Test.YtcnlfelalgaepaaGreatDoorEvQ0
import Derived.Below
import Derived.Orders
import Derived.LoopN
import Derived.Lib.Bytealg
namespace Go.Ev
set_option linter.all false
inductive ABox where
 | cells (t : TypeId) (cs : List AV)
 | iter (s : ByteArray) (pos : Nat)
 deriving Inhabited
abbrev Mem := Nat → Nat → Option ABox
def upd {α : Type} (f : Nat → α) (i : Nat) (v : α) : Nat → α := fun j => if j = i then v else f j
structure St where
 n : Nat
 lv : Nat
 tm : Nat → AV
 bx : Nat → Option ABox
 low : Mem
def AV.noOwn1 : AV → AV
 | .sl _ z r => .sl none z r
 | v => v
def AV.noOwnA : AV → AV
 | .agg cs => .agg (cs.map noOwn1)
 | v => v.noOwn1
def AV.noOwn : AV → AV
 | .tup vs => .tup (vs.map noOwnA)
 | v => v.noOwnA
def AV.isData : AV → Bool
 | .bool _ | .int _ _ | .str _ | .sl none _ _ | .ifc _ => true
 | _ => false
def AV.one : AV → Bool
 | .agg _ | .tup _ => false
 | _ => true
def AV.isTup : AV → Bool
 | .tup _ => true
 | _ => false
def AV.known : AV → Bool
 | .undef | .tup _ => false
 | _ => true
def AV.cells : AV → List AV
 | .agg cs => cs
 | v => [v]
mutual
def AV.okP (p : Nat → Nat → Bool) : AV → Bool
 | .ptr l s _ => p l s
 | .win l s _ _ _ => p l s
 | .asl l s _ _ _ => p l s
 | .agg cs => okPs p cs
 | .tup cs => okPs p cs
 | .fn _ cs => okPs p cs
 | _ => true
def okPs (p : Nat → Nat → Bool) : List AV → Bool
 | [] => true
 | v :: r => v.okP p && okPs p r
end
def isPtrless (vs : List AV) : Bool := okPs (fun _ _ => false) vs
inductive CK where
 | b
 | i (k : IntKind)
 | s
 deriving DecidableEq, Inhabited
inductive X where
 | t (n : Nat)
 | c (v : AV)
 deriving Inhabited
inductive Cv where
 | int (k : IntKind)
 | same
 | b2s
 | s2b (e : TypeId)
 | r2s
 | mki
 | isnil (neg : Bool)
 deriving Inhabited
inductive N2 where
 | idxByte
 | cntByte
 deriving DecidableEq, Inhabited
def n2 (k : N2) (s : ByteArray) (c : Int) : Int :=
 match k with
 | .idxByte => Lib.indexByte s.data.toList c.toNat.toUInt8
 | .cntByte => (Lib.countByte s.data.toList c.toNat.toUInt8 : Nat)
inductive IOp where
 | mov (x : X) (take : Bool)
 | pick (c a b : X)
 | alloc (t : TypeId) (cs : List AV)
 | box (t : TypeId) (x : X)
 | build (zero : List AV) (parts : List (Nat × Nat × X))
 | bslice (e : TypeId) (zero : List AV) (n : Nat) (parts : List (Nat × X))
 | load (x : X) (agg : Option Nat) (take : Bool)
 | store (x v : X) (sz : Nat)
 | chk (x : X)
 | bin (op : BinOp) (x y : X)
 | mm (mx : Bool) (x y : X)
 | eqb (neg : Bool) (x y : X)
 | eq (neg : Bool) (ks : List CK) (x y : X)
 | nilq (neg : Bool) (x : X)
 | un (op : UnOp) (x : X)
 | conv (k : Cv) (x : X)
 | mks (e : TypeId) (bytes : Nat) (zero : List AV) (len : X)
 | slice (x : X) (lo hi : Option X) (sz : Nat)
 | substr (x : X) (lo hi : Option X)
 | faddr (x : X) (off : Nat)
 | field (x : X) (off : Nat) (agg : Option Nat)
 | iaddrS (x i : X) (sz : Nat)
 | iaddrA (x i : X) (len sz : Nat)
 | idxS (x i : X)
 | idxA (x i : X) (len sz : Nat) (agg : Option Nat)
 | ext (x : X) (i : Nat) (take : Bool)
 | len (x : X)
 | lenS (x : X)
 | app (x y : X) (e : TypeId) (sz bytes : Nat)
 | call (pure : Bool) (f : X) (args : List X)
 | mkf (f : FuncId) (caps : List X)
 | clone (g : FuncId) (x : X) (e : TypeId) (sz bytes : Nat)
 | callA (f : X) (args : List X)
 | callH (f : X) (args : List X)
 | del (g : FuncId) (x i j : X) (sz : Nat)
 | cloneV (g : FuncId) (x : X) (e : TypeId) (sz bytes : Nat)
 | appW (x y : X) (e : TypeId) (sz bytes : Nat)
 | rng (x : X)
 | nxt (x : X)
 | mkW (e : TypeId) (bytes : Nat) (zero : List AV) (x : X)
 | strw (x : X)
 | nat2 (k : N2) (x y : X)
 | callS (f : X) (args : List X)
 | buildP (zero : List AV) (parts : List (Nat × Nat × X))
 | arrS (x : X) (lo hi : Option X) (len sz : Nat)
 | copyA (x y : X)
 | fail
 deriving Inhabited
inductive H where
 | any
 | box (b : Nat)
 | out
 deriving Inhabited
structure IOper where
 op : IOp
 dst : Option Nat
 guard : Option (Nat × Bool)
 hint : H
 deriving Inhabited
inductive IC where
 | skip
 | reg (ops : List IOper)
 | seq (a b : IC)
 | cond (x : X) (a b : IC)
 | blk (id : Nat) (c : IC)
 | loop (kt kb : List Nat) (c : IC)
 | exit (id : Nat)
 | ret
 | exitK (id : Nat) (kt kb : List Nat)
 | retK (kt kb : List Nat)
 deriving Inhabited
inductive Fl where
 | norm
 | ex (id : Nat)
 | ret
 deriving DecidableEq, Inhabited
structure Orc where
 call : FuncId → List AV → Mem → Nat → Option (List AV × Mem)
 carry : FuncId → List AV → Mem → Nat → Option (Option ABox × (Nat × Nat × Nat) × Mem)
 loop : List Nat → List Nat → IC → St → Option (Fl × St)
def noMem : Mem := fun _ _ => none
def St.evX (s : St) : X → AV
 | .t n => s.tm n
 | .c v => v
def St.use (s : St) : X → St
 | .t n => { s with tm := upd s.tm n (s.tm n).noOwn }
 | .c _ => s
def St.put (s : St) (d : Option Nat) (v : AV) : St :=
 match d with
 | some d => { s with tm := upd s.tm d v }
 | none => s
def St.get (s : St) (l sl : Nat) : Option ABox := if l = s.lv then s.bx sl else if l < s.lv then s.low l sl else none
def St.mem (s : St) : Mem := fun l => if l = s.lv then s.bx else if l < s.lv then s.low l else fun _ => none
def St.after (s : St) (m : Mem) : St := { s with bx := m s.lv, low := fun l => if l < s.lv then m l else s.low l }
def St.setBox (s : St) (l sl : Nat) (b : ABox) : St :=
 if l = s.lv then { s with bx := upd s.bx sl (some b) } else { s with low := upd s.low l (upd (s.low l) sl (some b)) }
def splice (cs : List AV) (o : Nat) (ds : List AV) : List AV := cs.take o ++ ds ++ cs.drop (o + ds.length)
def sub (cs : List AV) (o n : Nat) : List AV := (cs.drop o).take n
def binInt (op : BinOp) (k : IntKind) (a b : Int) : Option AV :=
 match op with
 | .add => some (.int k (k.wrap (a + b)))
 | .sub => some (.int k (k.wrap (a - b)))
 | .mul => some (.int k (k.wrap (a * b)))
 | .quo => if b = 0 then none else some (.int k (k.wrap (a.tdiv b)))
 | .rem => if b = 0 then none else some (.int k (a.tmod b))
 | .and => some (.int k (k.wrap (BitVec.ofInt k.bits a &&& BitVec.ofInt k.bits b).toNat))
 | .or => some (.int k (k.wrap (BitVec.ofInt k.bits a ||| BitVec.ofInt k.bits b).toNat))
 | .xor => some (.int k (k.wrap (BitVec.ofInt k.bits a ^^^ BitVec.ofInt k.bits b).toNat))
 | .andNot => some (.int k (k.wrap (BitVec.ofInt k.bits a &&& ~~~ BitVec.ofInt k.bits b).toNat))
 | .eql => some (.bool (a == b))
 | .neq => some (.bool (a != b))
 | .lss => some (.bool (decide (a < b)))
 | .leq => some (.bool (decide (a ≤ b)))
 | .gtr => some (.bool (decide (a > b)))
 | .geq => some (.bool (decide (a ≥ b)))
 | _ => none
def binStr (op : BinOp) (a b : ByteArray) : Option AV :=
 match op with
 | .add => if a.size + b.size ≤ 4611686018427387904 then some (.str (a ++ b)) else none
 | .eql => some (.bool (a.toList == b.toList))
 | .neq => some (.bool (!(a.toList == b.toList)))
 | .lss => some (.bool (Op.bytesLess a.toList b.toList))
 | .leq => some (.bool (Op.bytesLess a.toList b.toList || a.toList == b.toList))
 | .gtr => some (.bool (!(Op.bytesLess a.toList b.toList || a.toList == b.toList)))
 | .geq => some (.bool (!Op.bytesLess a.toList b.toList))
 | _ => none
def binAV (op : BinOp) : AV → AV → Option AV
 | .int k a, .int k' b =>
   match op with
   | .shl => if b < 0 then none else some (.int k (k.wrap (a * 2 ^ min b.toNat k.bits)))
   | .shr => if b < 0 then none else some (.int k (a.fdiv (2 ^ min b.toNat k.bits)))
   | _ => if k = k' then binInt op k a b else none
 | .str a, .str b => binStr op a b
 | _, _ => none
def eqCells : List CK → List AV → List AV → Option Bool
 | [], [], [] => some true
 | .i k :: ks, .int k1 a :: r, .int k2 b :: q => if k1 = k ∧ k2 = k then (eqCells ks r q).map ((a == b) && ·) else none
 | .b :: ks, .bool a :: r, .bool b :: q => (eqCells ks r q).map ((a == b) && ·)
 | .s :: ks, .str a :: r, .str b :: q => (eqCells ks r q).map ((a == b) && ·)
 | _, _, _ => none
def unAV (op : UnOp) : AV → Option AV
 | .int k n =>
   match op with
   | .neg => some (.int k (k.wrap (0 - n)))
   | .xor => some (.int k (k.wrap (BitVec.ofInt k.bits (if k.signed then -1 else k.max) ^^^ BitVec.ofInt k.bits n).toNat))
   | _ => none
 | .bool b =>
   match op with
   | .not => some (.bool (!b))
   | _ => none
 | _ => none
def bytesOf : List (List AV) → Option (List UInt8)
 | [] => some []
 | [.int .u8 n] :: r => (bytesOf r).map (UInt8.ofNat n.toNat :: ·)
 | _ => none
def byteRow (b : UInt8) : List AV := [.int .u8 b.toNat]
def convAV0 (k : Cv) : AV → Option AV
 | .int k' n =>
   match k with
   | .int k => some (.int k (k.wrap n))
   | .r2s => some (.str (Utf8.encode n))
   | _ => none
 | .str s =>
   match k with
   | .same => some (.str s)
   | .s2b _ => if s.size ≤ 4611686018427387904 then some (.sl none 1 (s.data.toList.map byteRow)) else none
   | _ => none
 | .sl _ _ rows =>
   match k with
   | .b2s => (bytesOf rows).map fun l => .str ⟨l.toArray⟩
   | _ => none
 | .ifc nn =>
   match k with
   | .isnil neg => some (.bool (nn == neg))
   | _ => none
 | _ => none
def convAV (k : Cv) (v : AV) : Option AV :=
 match k with
 | .mki => some (.ifc true)
 | k => convAV0 k v
def fillParts : St → List AV → List (Nat × Nat × X) → Option (List AV × St)
 | s, cs, [] => some (cs, s)
 | s, cs, (o, n, x) :: r => if (s.evX x).cells.length = n ∧ (s.evX x).known = true ∧ o + n ≤ cs.length then fillParts (s.use x) (splice cs o (s.evX x).cells) r else none
def fillRows (s : St) (n : Nat) : List (List AV) → List (Nat × X) → Option (List (List AV))
 | rows, [] => some rows
 | rows, (i, x) :: r =>
   let v := (s.evX x).cells.map AV.noOwn1
   if v.length = n ∧ i < rows.length ∧ v.all AV.isData then fillRows s n (rows.set i v) r else none
def aggOr (agg : Option Nat) (cs : List AV) (o : Nat) : Option AV :=
 match agg with
 | some n => if o + n ≤ cs.length then some (.agg (sub cs o n)) else none
 | none => cs[o]?
def globCells (g o : Nat) : Nat → Option (List AV)
 | 0 => some []
 | n + 1 =>
   match glob g o, globCells g (o + 1) n with
   | some v, some r => some (v :: r)
   | _, _ => none
def globAgg (agg : Option Nat) (g o : Nat) : Option AV :=
 match agg with
 | some n => (globCells g o n).map .agg
 | none => glob g o
def bound (x : Option AV) (d : Nat) : Option Int :=
 match x with
 | none => some d
 | some (.int _ n) => some n
 | _ => none
def sliceAV (x : AV) (lo hi : Option AV) (sz : Nat) : Option AV :=
 match x with
 | .sl _ z rows =>
   match bound lo 0, bound hi rows.length with
   | some l, some h => if 0 ≤ l ∧ l ≤ h ∧ h ≤ rows.length ∧ z = sz then some (.sl none z ((rows.take h.toNat).drop l.toNat)) else none
   | _, _ => none
 | .win v sl o m z =>
   match bound lo 0, bound hi m with
   | some l, some h => if 0 ≤ l ∧ l ≤ h ∧ h ≤ m ∧ z = sz then some (if l = h then .sl none z [] else .win v sl (o + l.toNat * z) (h.toNat - l.toNat) z) else none
   | _, _ => none
 | _ => none
def arrAV (x : AV) (lo hi : Option AV) (n sz : Nat) : Option AV :=
 match x with
 | .ptr v sl o =>
   match bound lo 0, bound hi n with
   | some l, some h => if 0 ≤ l ∧ l ≤ h ∧ h ≤ n then some (if l = h then .sl none sz [] else .asl v sl (o + l.toNat * sz) (h.toNat - l.toNat) sz) else none
   | _, _ => none
 | _ => none
def substrAV (x : AV) (lo hi : Option AV) : Option AV :=
 match x with
 | .str b =>
   match bound lo 0, bound hi b.size with
   | some l, some h => if 0 ≤ l ∧ l ≤ h ∧ h ≤ b.size then some (.str (b.extract l.toNat h.toNat)) else none
   | _, _ => none
 | _ => none
def retAV : List AV → AV
 | [r] => r
 | rs => .tup rs
def delCells (cs : List AV) (k n sz : Nat) : List AV := (cs.take (k * sz) ++ (cs.take (n * sz)).drop ((k + 1) * sz)).map AV.noOwn1
def hidMem (lv : Nat) (low : Mem) : Mem := fun l => if l = lv then fun _ => none else low l
def backMem (lv : Nat) (low low' : Mem) : Mem := fun l => if l = lv then low lv else low' l
def pieces (sz n : Nat) (cs : List AV) : List (List AV) := (List.range n).map fun i => sub cs (i * sz) sz
def frzRows (cs : List AV) (o n z : Nat) : List (List AV) := pieces z n ((sub cs o (n * z)).map AV.noOwn1)
def frzData (cs : List AV) (o n z : Nat) : Bool := (sub cs o (n * z)).all (fun c => c.noOwn1.isData)
def snap1 (s : St) : AV → Option AV
 | .win l sl o n z =>
   match s.get l sl with
   | some (.cells _ cs) => if o + n * z ≤ cs.length ∧ frzData cs o n z = true then some (.sl none z (frzRows cs o n z)) else none
   | _ => none
 | .asl l sl o n z =>
   match s.get l sl with
   | some (.cells _ cs) => if o + n * z ≤ cs.length ∧ frzData cs o n z = true then some (.sl none z (frzRows cs o n z)) else none
   | _ => none
 | v => some v
def snaps (s : St) : List AV → Option (List AV)
 | [] => some []
 | v :: r => (snap1 s v).bind fun v' => (snaps s r).map (v' :: ·)
def flat1 : AV → Bool
 | .bool _ | .int _ _ | .str _ | .ifc _ => true
 | _ => false
def flatA : AV → Bool
 | .agg cs => cs.all flat1
 | v => flat1 v
def plain1 : AV → Bool
 | .sl (some _) _ _ => false
 | _ => true
def plainA : AV → Bool
 | .agg cs => cs.all plain1
 | .tup _ => false
 | v => plain1 v
def evVal (O : Orc) (op : IOp) (d : Option Nat) (s : St) : Option (AV × St) :=
 match op with
 | .mov x take => if take then some (s.evX x, s.use x) else some ((s.evX x).noOwn, s)
 | .pick c a b =>
   match s.evX c with
   | .bool t => some ((if t then s.evX a else s.evX b).noOwn, s)
   | _ => none
 | .alloc t cs =>
   match d with
   | some d => if (s.bx d).isNone ∧ isPtrless cs then some (.ptr s.lv d 0, { s with bx := upd s.bx d (some (.cells t cs)) }) else none
   | none => none
 | .box t x =>
   match d with
   | some d => if (s.bx d).isNone ∧ (s.evX x).known = true then some (.ptr s.lv d 0, { s.use x with bx := upd s.bx d (some (.cells t (s.evX x).cells)) }) else none
   | none => none
 | .build zero parts => (fillParts s zero parts).map fun r => (.agg r.1, r.2)
 | .bslice e zero n parts => (fillRows s zero.length (List.replicate n zero) parts).map fun rows => (.sl (some e) zero.length rows, s)
 | .buildP zero parts => if (parts.all fun p => plainA (s.evX p.2.2)) = true then (fillParts s zero parts).map fun r => (.agg r.1, s) else none
 | .load x agg take =>
   match s.evX x with
   | .ptr l sl o =>
     match s.get l sl with
     | some (.cells t cs) =>
       match aggOr agg cs o with
       | some v => if take then (if agg.isSome || v.one then some (v, s.setBox l sl (.cells t (splice cs o (v.cells.map AV.noOwn1)))) else none) else some (v.noOwn, s)
       | none => none
     | _ => none
   | .row cs => (aggOr agg cs 0).map fun v => (v, s)
   | .glob g o => (globAgg agg g o).map fun v => (v, s)
   | _ => none
 | .store x v sz =>
   match s.evX x with
   | .ptr l sl o =>
     match s.get l sl with
     | some (.cells t cs) =>
       let u := (s.evX v).cells
       if u.length = sz ∧ (s.evX v).known = true ∧ o + sz ≤ cs.length ∧ (l = s.lv ∨ okPs (fun l' _ => decide (l' ≤ l)) u = true) then some (.tup [], (s.use v).setBox l sl (.cells t (splice cs o u))) else none
     | _ => none
   | _ => none
 | .chk x =>
   match s.evX x with
   | .ptr l sl o => some (.ptr l sl o, s)
   | .row cs => some (.row cs, s)
   | .glob g o => some (.glob g o, s)
   | _ => none
 | .bin op x y => (binAV op (s.evX x) (s.evX y)).map fun v => (v, s)
 | .mm mx x y =>
   match s.evX x, s.evX y with
   | .int k a, .int _ b => some (.int k (if mx then (if b > a then b else a) else (if b < a then b else a)), s)
   | _, _ => none
 | .eqb neg x y =>
   match s.evX x, s.evX y with
   | .bool a, .bool b => some (.bool (if neg then !(a == b) else a == b), s)
   | _, _ => none
 | .eq neg ks x y =>
   match s.evX x, s.evX y with
   | .agg a, .agg b => (eqCells ks a b).map fun r => (.bool (if neg then !r else r), s)
   | _, _ => none
 | .nilq neg x =>
   match s.evX x with
   | .sl _ _ (_ :: _) => some (.bool neg, s)
   | .sl _ _ [] => some (.ub, s)
   | .win _ _ _ _ _ => some (.bool neg, s)
   | _ => none
 | .un op x => (unAV op (s.evX x)).map fun v => (v, s)
 | .conv k x => (convAV k (s.evX x)).map fun v => (v, s)
 | .mks e bytes zero len =>
   match s.evX len with
   | .int _ n => if 0 ≤ n ∧ n * bytes ≤ 140737488355328 then some (.sl (some e) zero.length (List.replicate n.toNat zero), s) else none
   | _ => none
 | .slice x lo hi sz => (sliceAV (s.evX x) (lo.map s.evX) (hi.map s.evX) sz).map fun v => (v, s)
 | .arrS x lo hi n sz => (arrAV (s.evX x) (lo.map s.evX) (hi.map s.evX) n sz).map fun v => (v, s)
 | .copyA x y =>
   match s.evX x, s.evX y with
   | .sl _ _ [], .sl _ _ _ => some (.int .i64 0, s)
   | .asl l sl o n z, .sl _ z' rows =>
     match s.get l sl with
     | some (.cells t cs) => if z = 1 ∧ z' = 1 ∧ o + n ≤ cs.length then some (.int .i64 (min rows.length n : Nat), s.setBox l sl (.cells t (splice cs o (rows.take n).flatten))) else none
     | _ => none
   | _, _ => none
 | .substr x lo hi => (substrAV (s.evX x) (lo.map s.evX) (hi.map s.evX)).map fun v => (v, s)
 | .faddr x off =>
   match s.evX x with
   | .ptr l sl o => some (.ptr l sl (o + off), s)
   | .row cs => if off < cs.length then some (.row (cs.drop off), s) else none
   | .glob g o => some (.glob g (o + off), s)
   | _ => none
 | .field x off agg =>
   match s.evX x with
   | .agg cs => (aggOr agg cs off).map fun v => (v.noOwn, s)
   | _ => none
 | .iaddrS x i sz =>
   match s.evX x, s.evX i with
   | .sl _ z rows, .int _ n => if 0 ≤ n ∧ n < rows.length ∧ z = sz then some (.row (rows.getD n.toNat []), s) else none
   | .win l sl o m z, .int _ n => if 0 ≤ n ∧ n < m ∧ z = sz then some (.ptr l sl (o + n.toNat * sz), s) else none
   | .asl l sl o m z, .int _ n => if 0 ≤ n ∧ n < m ∧ z = sz then some (.ptr l sl (o + n.toNat * sz), s) else none
   | _, _ => none
 | .iaddrA x i len sz =>
   match s.evX x, s.evX i with
   | .ptr l sl o, .int _ n => if 0 ≤ n ∧ n < len then some (.ptr l sl (o + n.toNat * sz), s) else none
   | .glob g o, .int _ n => if 0 ≤ n ∧ n < len then some (.glob g (o + n.toNat * sz), s) else none
   | _, _ => none
 | .idxS x i =>
   match s.evX x, s.evX i with
   | .str b, .int _ n => if 0 ≤ n then (b[n.toNat]?).map fun c => (.int .u8 c.toNat, s) else none
   | _, _ => none
 | .idxA x i len sz agg =>
   match s.evX x, s.evX i with
   | .agg cs, .int _ n => if 0 ≤ n ∧ n < len then (aggOr agg cs (n.toNat * sz)).map fun v => (v.noOwn, s) else none
   | _, _ => none
 | .ext x i take =>
   match s.evX x, x with
   | .tup vs, .t n => (vs[i]?).bind fun v => if v.isTup then none else if take then some (v, { s with tm := upd s.tm n (.tup (vs.set i v.noOwnA)) }) else some (v.noOwnA, s)
   | _, _ => none
 | .len x =>
   match s.evX x with
   | .sl _ _ rows => some (.int .i64 rows.length, s)
   | .win _ _ _ m _ => some (.int .i64 m, s)
   | .asl _ _ _ m _ => some (.int .i64 m, s)
   | _ => none
 | .lenS x =>
   match s.evX x with
   | .str b => some (.int .i64 b.size, s)
   | _ => none
 | .app x y e sz bytes =>
   match s.evX x, s.evX y with
   | .sl (some e') z rows, .sl _ z' more => if d.isSome = true ∧ e' = e ∧ z = sz ∧ z' = sz ∧ (rows.length + more.length) * bytes ≤ 140737488355328 ∧ rows.length + more.length ≤ 9223372036854775807 then some (.sl (some e) sz (rows ++ more), s.use x) else none
   | _, _ => none
 | .call pure f args =>
   match s.evX f with
   | .fn g caps =>
     let vs := args.map (fun x => (s.evX x).noOwn) ++ caps.map AV.noOwn
     if pure then
      if isPtrless vs then (O.call g vs noMem 0).map fun r => (retAV r.1, s) else none
     else
      (O.call g vs s.mem (s.lv + 1)).map fun r => (retAV r.1, s.after r.2)
   | _ => none
 | .mkf f caps => some (.fn f (caps.map fun x => (s.evX x).noOwn), s)
 | .clone _ x e sz bytes =>
   match s.evX x, d with
   | .sl _ z rows, some d =>
     if z = sz ∧ rows.length ≤ 9223372036854775807 ∧ rows.length * bytes ≤ 140737488355328 ∧ (s.bx d).isNone then
      if rows.length = 0 then some (.sl (some e) sz [], s) else some (.win s.lv d 0 rows.length sz, { s with bx := upd s.bx d (some (.cells e rows.flatten)) })
     else none
   | _, _ => none
 | .appW x y e sz bytes =>
   match s.evX x, s.evX y, d with
   | .sl (some e') z [], .sl _ z' more, some d =>
     if e' = e ∧ z = sz ∧ z' = sz ∧ more.length * bytes ≤ 140737488355328 ∧ more.length ≤ 9223372036854775807 ∧ (s.bx d).isNone then
      if more.length = 0 then some (.sl none sz [], s.use x) else some (.win s.lv d 0 more.length sz, { s.use x with bx := upd s.bx d (some (.cells e more.flatten)) })
     else none
   | _, _, _ => none
 | .cloneV _ x e sz bytes =>
   match s.evX x with
   | .sl _ z rows => if d.isSome = true ∧ z = sz ∧ rows.length ≤ 9223372036854775807 ∧ rows.length * bytes ≤ 140737488355328 then some (.sl (some e) sz rows, s) else none
   | _ => none
 | .callH f args =>
   match s.evX f with
   | .fn g caps =>
     if okPs (fun l _ => decide (l ≠ s.lv)) (args.map (fun x => (s.evX x).noOwn) ++ caps.map AV.noOwn) then
      match O.call g (args.map (fun x => (s.evX x).noOwn) ++ caps.map AV.noOwn) (hidMem s.lv s.mem) (s.lv + 1) with
      | some (rs, low') => if (retAV rs).okP (fun l _ => decide (l ≠ s.lv)) = true then some (retAV rs, { s with low := fun l => if l < s.lv then low' l else s.low l }) else none
      | none => none
     else none
   | _ => none
 | .callA f args =>
   match s.evX f, d with
   | .fn g caps, some d =>
     match O.carry g (args.map (fun x => (s.evX x).noOwn) ++ caps.map AV.noOwn) s.mem (s.lv + 1) with
     | some (some B, (o, n, z), low') => if (low' s.lv d).isNone then some (.win s.lv d o n z, { s.after low' with bx := upd (low' s.lv) d (some B) }) else none
     | some (none, (_, _, z), low') => some (.sl none z [], s.after low')
     | none => none
   | _, _ => none
 | .del _ x i j sz =>
   match s.evX x, s.evX i, s.evX j with
   | .win l sl o n z, .int .i64 a, .int .i64 b =>
     match s.get l sl with
     | some (.cells t cs) =>
       if o = 0 ∧ z = sz ∧ 0 ≤ a ∧ b = a + 1 ∧ b ≤ n ∧ n * sz ≤ cs.length then
        some (if n = 1 then .sl none sz [] else .win l sl 0 (n - 1) sz, s.setBox l sl (.cells t (delCells cs a.toNat n sz)))
       else none
     | _ => none
   | _, _, _ => none
 | .rng x =>
   match s.evX x, d with
   | .str b, some d => if (s.bx d).isNone then some (.ptr s.lv d 0, { s with bx := upd s.bx d (some (.iter b 0)) }) else none
   | _, _ => none
 | .nxt x =>
   match s.evX x with
   | .ptr l sl o =>
     match s.get l sl with
     | some (.iter b pos) =>
       if o ≠ 0 then none else
       if pos < b.size then some (.tup [.bool true, .int .i64 pos, .int .i32 (Utf8.decode b pos).1], s.setBox l sl (.iter b (pos + (Utf8.decode b pos).2)))
       else some (.tup [.bool false], s)
     | _ => none
   | _ => none
 | .mkW e bytes zero x =>
   match s.evX x, d with
   | .int _ n, some d =>
     if 0 ≤ n ∧ n * bytes ≤ 140737488355328 ∧ (s.bx d).isNone then
      if n = 0 then some (.sl none zero.length [], s) else some (.win s.lv d 0 n.toNat zero.length, { s with bx := upd s.bx d (some (.cells e (List.replicate n.toNat zero).flatten)) })
     else none
   | _, _ => none
 | .strw x =>
   match s.evX x with
   | .sl _ _ rows => (bytesOf rows).map fun l => (.str ⟨l.toArray⟩, s)
   | .win l sl o n z =>
     match s.get l sl with
     | some (.cells _ cs) => if o + n ≤ cs.length ∧ z = 1 then (bytesOf ((sub cs o n).map fun c => [c])).map fun l => (.str ⟨l.toArray⟩, s) else none
     | _ => none
   | .asl l sl o n z =>
     match s.get l sl with
     | some (.cells _ cs) => if o + n ≤ cs.length ∧ z = 1 then (bytesOf ((sub cs o n).map fun c => [c])).map fun l => (.str ⟨l.toArray⟩, s) else none
     | _ => none
   | _ => none
 | .nat2 k x y =>
   match s.evX x, s.evX y with
   | .str b, .int .u8 c => some (.int .i64 (n2 k b c), s)
   | _, _ => none
 | .callS f args =>
   match s.evX f with
   | .fn g caps =>
     match snaps s (args.map (fun x => (s.evX x).noOwn) ++ caps.map AV.noOwn) with
     | some vs =>
       if isPtrless vs then
        match O.call g vs noMem 0 with
        | some (rs, _) => if rs.all flatA then some (retAV rs, s) else none
        | none => none
       else none
     | none => none
   | _ => none
 | .fail => none
def IOp.addr : IOp → Option X
 | .load x _ _ => some x
 | .store x _ _ => some x
 | .del _ x _ _ _ => some x
 | .nxt x => some x
 | .strw x => some x
 | .copyA x _ => some x
 | _ => none
def hintOk : H → Option AV → Nat → Bool
 | .any, _, _ => true
 | .box b, some (.ptr l sl _), lv => l == lv && sl == b
 | .box b, some (.win l sl _ _ _), lv => l == lv && sl == b
 | .box b, some (.asl l sl _ _ _), lv => l == lv && sl == b
 | .box _, _, _ => false
 | .out, some (.ptr l _ _), lv => l != lv
 | .out, some (.win l _ _ _ _), lv => l != lv
 | .out, some (.asl l _ _ _ _), lv => l != lv
 | .out, _, _ => true
def evG (O : Orc) (o : IOper) (s : St) : Option (AV × St) := if hintOk o.hint (o.op.addr.map s.evX) s.lv then evVal O o.op o.dst s else none
def evO (O : Orc) (o : IOper) (s : St) : Option (AV × St) :=
 match o.guard with
 | none => evG O o s
 | some (g, want) =>
   match s.tm g with
   | .bool b => if b = want then evG O o s else some (.tup [], s)
   | .tup [] => some (.tup [], s)
   | _ => none
def evOp (O : Orc) (o : IOper) (s : St) : Option St := (evO O o s).map fun r => r.2.put o.dst r.1
def evOps (O : Orc) : List IOper → St → Option St
 | [], s => some s
 | o :: r, s => (evOp O o s).bind (evOps O r)
def tmOf : List (Nat × AV) → Nat → AV
 | [], _ => .undef
 | (k, v) :: r, t => if t = k then v else tmOf r t
def bxOf : List (Nat × Option ABox) → Nat → Option ABox
 | [], _ => none
 | (k, v) :: r, t => if t = k then v else bxOf r t
def ABox.okP (p : Nat → Nat → Bool) : ABox → Bool
 | .cells _ cs => okPs p cs
 | .iter _ _ => true
def St.mask (s : St) (kt kb : List Nat) : Option St :=
 let p : Nat → Nat → Bool := fun l sl => l != s.lv || kb.contains sl
 if kt.all (fun t => (s.tm t).okP p) && kb.all (fun b => ((s.bx b).map (ABox.okP p)).getD true) then
  some { s with tm := tmOf (kt.map fun t => (t, s.tm t)), bx := bxOf (kb.map fun b => (b, s.bx b)) }
 else none
def evC (O : Orc) : IC → St → Option (Fl × St)
 | .skip, s => some (.norm, s)
 | .reg ops, s => (evOps O ops s).map fun s' => (.norm, s')
 | .seq a b, s =>
   match evC O a s with
   | some (.norm, s') => evC O b s'
   | r => r
 | .cond x a b, s =>
   match s.evX x with
   | .bool t => if t then evC O a s else evC O b s
   | _ => none
 | .blk id c, s =>
   match evC O c s with
   | some (.ex i, s') => if i = id then some (.norm, s') else some (.ex i, s')
   | r => r
 | .loop kt kb c, s => O.loop kt kb c s
 | .exit id, s => some (.ex id, s)
 | .ret, s => some (.ret, s)
 | .exitK id kt kb, s => (s.mask kt kb).map fun s => (.ex id, s)
 | .retK kt kb, s => (s.mask kt kb).map fun s => (.ret, s)
inductive RV where
 | tmp (t : Nat)
 | cell (t : Nat) (agg : Option Nat)
 deriving Inhabited
structure IFunc where
 n : Nat
 np : Nat
 results : List RV
 body : IC
 deriving Inhabited
def resVal (s : St) : RV → Option AV
 | .tmp t => some (s.tm t)
 | .cell t agg =>
   match s.tm t with
   | .ptr l sl o =>
     if l = s.lv then
      match s.bx sl with
      | some (.cells _ cs) => aggOr agg cs o
      | _ => none
     else none
   | _ => none
def resRest (s : St) : List RV → Option (List AV)
 | [] => some []
 | r :: rs => (resVal s r).bind fun v => (resRest s rs).map (v.noOwnA :: ·)
def resOf0 (s : St) : List RV → Option (List AV)
 | [] => some []
 | r :: rs => (resVal s r).bind fun v => (resRest s rs).map (v :: ·)
def posAt (lv sl : Nat) : List AV → Nat → Option (Nat × Nat)
 | [], _ => none
 | .win l s o n z :: r, j => if l = lv ∧ s = sl ∧ o = 0 then some (j, n * z) else posAt lv sl r (j + 1)
 | _ :: r, j => posAt lv sl r (j + 1)
def frzOwn (p : Option (Nat × Nat)) (j : Option Nat) (o m : Nat) (t : TypeId) : Option TypeId :=
 match p, j with
 | some (j0, t0), some j => if j0 = j ∧ t0 = m ∧ o = 0 then some t else none
 | _, _ => none
def frz1 (s : St) (ws : List AV) (j : Option Nat) (c : AV) : Option AV :=
 match c with
 | .win l sl o n z =>
   if l = s.lv then
    match s.bx sl with
    | some (.cells t cs) =>
      if o + n * z ≤ cs.length ∧ frzData cs o n z = true ∧ o + n * z ≤ ((posAt s.lv sl ws 0).map (·.2)).getD (o + n * z) then
       some (.sl (frzOwn (posAt s.lv sl ws 0) j o (n * z) t) z (frzRows cs o n z))
      else none
    | _ => none
   else some c
 | c => some c
def frzs (s : St) (ws : List AV) (j : Option Nat) : List AV → Option (List AV)
 | [] => some []
 | c :: r => (frz1 s ws j c).bind fun c' => (frzs s ws (j.map (· + 1)) r).map (c' :: ·)
def frzA (s : St) (ws : List AV) (j : Option Nat) (v : AV) : Option AV :=
 match v with
 | .agg cs => (frzs s ws j cs).map .agg
 | .tup cs => some (.tup cs)
 | v => frz1 s ws j v
def frzRest (s : St) (ws : List AV) : List AV → Option (List AV)
 | [] => some []
 | v :: r => (frzA s ws none v).bind fun v' => (frzRest s ws r).map (v'.noOwnA :: ·)
def frzRes (s : St) (vs : List AV) : Option (List AV) :=
 match vs with
 | [] => some []
 | v :: r => (frzA s v.cells (some 0) v).bind fun v' => (frzRest s v.cells r).map (v' :: ·)
def resOf (s : St) (rvs : List RV) : Option (List AV) := (resOf0 s rvs).bind (frzRes s)
def enter (F : IFunc) (args : List AV) (low : Mem) (lv : Nat) : St :=
 { n := F.n, lv, tm := fun t => args.getD t .undef, bx := fun _ => none, low := low }
def leave (F : IFunc) (lv : Nat) : Option (Fl × St) → Option (List AV × Mem)
 | some (.norm, s) | some (.ret, s) =>
   match resOf s F.results with
   | some rs => if okPs (fun l _ => decide (l < lv)) rs then some (rs, s.low) else none
   | none => none
 | _ => none
def leaveW (F : IFunc) (lv : Nat) : Option (Fl × St) → Option (Option ABox × (Nat × Nat × Nat) × Mem)
 | some (.norm, s) | some (.ret, s) =>
   match resOf0 s F.results with
   | some [.win l sl o n z] =>
     if l = lv then
      match s.bx sl with
      | some (.cells t cs) => if okPs (fun l _ => decide (l < lv)) cs then some (some (.cells t cs), (o, n, z), s.low) else none
      | _ => none
     else none
   | some [.sl _ z []] => some (none, (0, 0, z), s.low)
   | _ => none
 | _ => none
structure Tab where
 fns : FuncId → Option IFunc
 given : FuncId → Option (List AV → Mem → Nat → Option (List AV × Mem))
def callBy (T : Tab) (O : Orc) (f : FuncId) (args : List AV) (low : Mem) (lv : Nat) : Option (List AV × Mem) :=
 match T.given f with
 | some g => g args low lv
 | none =>
   match T.fns f with
   | some F => if args.length = F.np then leave F lv (evC O F.body (enter F args low lv)) else none
   | none => none
def carryBy (T : Tab) (O : Orc) (f : FuncId) (args : List AV) (low : Mem) (lv : Nat) : Option (Option ABox × (Nat × Nat × Nat) × Mem) :=
 match T.given f with
 | some _ => none
 | none =>
   match T.fns f with
   | some F => if args.length = F.np then leaveW F lv (evC O F.body (enter F args low lv)) else none
   | none => none
def loopBy (O : Orc) (kt kb : List Nat) (c : IC) (s : St) : Option (Fl × St) :=
 match s.mask kt kb with
 | some s =>
   match evC O c s with
   | some (.norm, s') => O.loop kt kb c s'
   | r => r
 | none => none
def orc (T : Tab) : Nat → Orc
 | 0 => { call := fun _ _ _ _ => none, carry := fun _ _ _ _ => none, loop := fun _ _ _ _ => none }
 | n + 1 => { call := callBy T (orc T n), carry := carryBy T (orc T n), loop := loopBy (orc T n) }
end Go.Ev
