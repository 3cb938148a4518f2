/- The operations and the functions of a program turned into the evaluator's language. Condition: none. -/
import Derived.Test.YtcnlfelalgaepaaGreatDoorEvI
namespace Go.Ev
set_option linter.all false
open Go.RowKit
def isTmp (d : Nat) : Operand → Bool
 | .tmp x => x == d
 | _ => false
def takesDst (ops : List Oper) (d : Option Nat) : Bool :=
 match d with
 | none => false
 | some d => ops.any fun o =>
   match o.op with
   | .assign x | .box _ x => isTmp d x
   | .store _ _ x => isTmp d x
   | .build _ ps => ps.any fun p => isTmp d p.2
   | .call { callee := .builtin .append, args := as, .. } => (as[0]?).any (isTmp d)
   | _ => false
def sliceTy (P : Program) : Nat → TypeId → Bool
 | 0, _ => true
 | d + 1, t =>
   match P.underlying t with
   | some .bool | some (.int _) | some .string | some (.pointer _) => false
   | some (.array _ e) => sliceTy P d e
   | some (.struct fs) => fs.toList.any fun f => sliceTy P d f.type
   | _ => true
inductive Mk where
 | box
 | same (t : Nat)
 | out
 | any
def mkOf (P : Program) (o : Oper) : Mk :=
 match o.op with
 | .alloc _ | .box _ _ => .box
 | .fieldAddr _ (.tmp t) _ | .nilCheck (.tmp t) | .move (.tmp t) => .same t
 | .indexAddr ty (.tmp t) _ =>
   match P.underlying ty with
   | some (.slice _) => .out
   | _ => .same t
 | _ => .any
def opMks (P : Program) : List Oper → List (Nat × Mk)
 | [] => []
 | o :: r =>
   match o.dst with
   | some d => (d, mkOf P o) :: opMks P r
   | none => opMks P r
def codeMks (P : Program) : Code → List (Nat × Mk)
 | .region _ ops _ => opMks P ops.toList
 | .seq a b => codeMks P a ++ codeMks P b
 | .cond _ a b => codeMks P a ++ codeMks P b
 | .block _ c => codeMks P c
 | .loop c => codeMks P c
 | _ => []
def madeBy (l : List (Nat × Mk)) (t : Nat) : List Mk := l.filterMap fun p => if p.1 == t then some p.2 else none
def hintAt (l : List (Nat × Mk)) (np : Nat) : Nat → Nat → H
 | 0, _ => .any
 | d + 1, t =>
   match madeBy l t with
   | [] => if t < np then .out else .any
   | [.box] => .box t
   | [.same u] => hintAt l np d u
   | [.out] => .out
   | _ => .any
def plainTy (P : Program) : Nat → TypeId → Bool
 | 0, _ => false
 | d + 1, t =>
   match P.underlying t with
   | some .bool | some (.int _) | some .string => true
   | some (.slice e) => plainTy P d e
   | some (.array _ e) => plainTy P d e
   | some (.struct fs) => fs.toList.all fun f => plainTy P d f.type
   | _ => false
def placeOf (P : Program) (t : TypeId) (k : Nat) : Option (Nat × Nat × TypeId) :=
 match P.underlying t with
 | some (.struct fs) => (fs[k]?).map fun f => (f.offset, P.cellsOf f.type, f.type)
 | some (.array _ e) => some (k * P.cellsOf e, P.cellsOf e, e)
 | _ => none
def cParts (P : Program) (t : TypeId) (d : Option Nat) : List (Nat × Operand) → Option (List (Nat × Nat × X))
 | [] => some []
 | (k, o) :: r =>
   match placeOf P t k with
   | some (off, n, ty) =>
     match cX P ty o with
     | some x => if isTmp (d.getD 0) o then none else (cParts P t d r).map ((off, n, x) :: ·)
     | none => none
   | none => none
def cRowParts (P : Program) (e : TypeId) : List (Nat × Operand) → Option (List (Nat × X))
 | [] => some []
 | (k, o) :: r =>
   match cX P e o with
   | some x => (cRowParts P e r).map ((k, x) :: ·)
   | none => none
def buildable (P : Program) (t : TypeId) : Bool :=
 match P.underlying t with
 | some (.struct fs) => fs.toList.all fun f => (P.info? f.type).isSome
 | some (.array _ e) => (P.info? e).isSome
 | _ => false
def cOptX (P : Program) : Option Operand → Option (Option X)
 | none => some none
 | some o => (cX P 0 o).map some
def cBin (P : Program) (op : BinOp) (t : TypeId) (x y : X) : Option IOp :=
 match P.underlying t with
 | some (.int _) | some .string => some (.bin op x y)
 | some .bool =>
   match op with
   | .eql => some (.eqb false x y)
   | .neq => some (.eqb true x y)
   | _ => none
 | some (.struct _) =>
   if P.eqGuardType P.depth t then none else
   match flatKinds P 12 t, op with
   | some ks, .eql => some (.eq false ks x y)
   | some ks, .neq => some (.eq true ks x y)
   | _, _ => none
 | _ => none
def isNilI : Operand → Bool
 | .const .nilIface => true
 | _ => false
def cNilI (P : Program) (op : BinOp) (t : TypeId) (x : X) : Option IOp :=
 match P.underlying t with
 | some (.interface _) =>
   match op with
   | .eql => some (.conv (.isnil false) x)
   | .neq => some (.conv (.isnil true) x)
   | _ => none
 | _ => none
def cMki (P : Program) (t : TypeId) (x : X) : Option IOp :=
 match P.underlying t with
 | some (.interface _) => none
 | some _ => some (.conv .mki x)
 | none => none
def isNilC : Operand → Bool
 | .const (.slice none 0 0) => true
 | _ => false
def cNil (P : Program) (op : BinOp) (t : TypeId) (x : X) : Option IOp :=
 match P.underlying t with
 | some (.slice _) =>
   match op with
   | .eql => some (.nilq false x)
   | .neq => some (.nilq true x)
   | _ => none
 | _ => none
def cConv (P : Program) (src dst : TypeId) (x : X) : Option IOp :=
 match P.underlying src, P.underlying dst with
 | some (.int _), some (.int k) => some (.conv (.int k) x)
 | some (.int _), some .string => some (.conv .r2s x)
 | some .string, some .string => some (.conv .same x)
 | some .string, some (.slice e) =>
   match P.underlying e with
   | some (.int .u8) => some (.conv (.s2b e) x)
   | _ => none
 | some (.slice e), some .string =>
   match P.underlying e with
   | some (.int .u8) => some (.conv .b2s x)
   | _ => none
 | _, _ => none
def known (P : Program) (t : TypeId) : Bool := (P.underlying t).isSome && (P.info? t).isSome
def sameOpd : Operand → Operand → Bool
 | .tmp a, .tmp b => a == b
 | .const (.int k a), .const (.int k' b) => k == k' && a == b
 | _, _ => false
theorem sameOpd_eq {l c : Operand} (h : sameOpd l c = true) : l = c := by
 unfold sameOpd at h
 split at h <;> simp_all
def cMkf (P : Program) (fn : Fn) (first captured : Array Operand) : Option IOp :=
 match fn with
 | .func f => if first.size = 0 then (cXs P captured.toList []).map fun xs => .mkf f xs else none
 | _ => none
def cLen (P : Program) (t : TypeId) (x : X) : Option IOp :=
 match P.underlying t with
 | some (.slice _) => some (.len x)
 | some .string => some (.lenS x)
 | _ => none
def cApp (P : Program) (t : TypeId) (x y : X) : Option IOp :=
 match P.underlying t with
 | some (.slice e) =>
   match czero P e with
   | some cs => if 0 < P.cellsOf e ∧ cs.length = P.cellsOf e then some (.app x y e (P.cellsOf e) (P.bytesOf e)) else none
   | none => none
 | _ => none
def cMM (P : Program) (mx : Bool) (as : List Operand) (ts : List TypeId) : Option IOp :=
 match as with
 | [x, y] =>
   match cX P (ts.headD 0) x, cX P (ts.tail.headD 0) y with
   | some x, some y => some (.mm mx x y)
   | _, _ => none
 | _ => none
def cArr (P : Program) (n : Nat) (e : TypeId) (x : X) (lo hi : Option X) : Option IOp :=
 if (P.info? e).isSome ∧ 0 < P.cellsOf e ∧ n ≤ 65536 then some (.arrS x lo hi n (P.cellsOf e)) else none
def cCopy (P : Program) (as : List Operand) (ts : List TypeId) : Option IOp :=
 match as, ts with
 | [x, y], [t, t'] =>
   match cX P t x, cX P t' y with
   | some x, some y =>
     match P.underlying t with
     | some (.slice e) => if (P.info? e).isSome ∧ P.cellsOf e = 1 then some (.copyA x y) else none
     | _ => none
   | _, _ => none
 | _, _ => none
def isFunc : Operand → Bool
 | .func _ => true
 | _ => false
def cCall (P : Program) (c : Call) : Option IOp :=
 match c.callee with
 | .value f =>
   match cX P 0 f, cXs P c.args.toList c.argTypes.toList with
   | some f', some xs => some (.call (c.argTypes.toList.all (plainTy P 12) && isFunc f) f' xs)
   | _, _ => none
 | .builtin .len =>
   match c.args.toList, c.argTypes.toList with
   | [x], [t] =>
     match cX P t x with
     | some x => cLen P t x
     | none => none
   | _, _ => none
 | .builtin .append =>
   match c.args.toList, c.argTypes.toList with
   | [x, y], [t, t'] =>
     match cX P t x, cX P t y with
     | some x, some y => if t = t' then cApp P t x y else none
     | _, _ => none
   | _, _ => none
 | .builtin .copy => cCopy P c.args.toList c.argTypes.toList
 | .builtin .min => cMM P false c.args.toList c.argTypes.toList
 | .builtin .max => cMM P true c.args.toList c.argTypes.toList
 | _ => none
def cOp (P : Program) (tk : Bool) (ops : List Oper) (o : Oper) : Option IOp :=
 match o.op with
 | .move x => (cX P o.type x).map fun x => .mov x (tk && takesDst ops o.dst && sliceTy P 12 o.type)
 | .assign x => (cX P o.type x).map fun x => .mov x (tk && sliceTy P 12 o.type)
 | .pick c a b =>
   match cX P o.type c, cX P o.type a, cX P o.type b with
   | some c, some a, some b => some (.pick c a b)
   | _, _, _ => none
 | .alloc t => (czero P t).map fun cs => .alloc t cs
 | .box t x => (cX P t x).map fun x => .box t x
 | .build t parts =>
   if buildable P t then
    match czero P t, cParts P t o.dst parts.toList with
    | some cs, some ps => some (.build cs ps)
    | _, _ => none
   else none
 | .buildSlice t n parts =>
   match P.underlying t with
   | some (.slice e) =>
     match czrow P e, cRowParts P e parts.toList with
     | some zero, some ps => if n * zero.length ≤ 16777216 then some (.bslice e zero n ps) else none
     | _, _ => none
   | _ => none
 | .load t x => if known P t then (cX P 0 x).map fun x => .load x (aggOf P t) (tk && takesDst ops o.dst && sliceTy P 12 t) else none
 | .store t x y =>
   if known P t then
    match cX P 0 x, cX P t y with
    | some x, some y => some (.store x y (P.cellsOf t))
    | _, _ => none
   else none
 | .nilCheck x => (cX P 0 x).map fun x => .chk x
 | .binOp op t x y _ =>
   match cX P t x, cX P t y with
   | some x', some y' => if isNilC y then cNil P op t x' else if isNilI y then cNilI P op t x' else cBin P op t x' y'
   | _, _ => none
 | .unOp op _ x => (cX P 0 x).map fun x => .un op x
 | .convert src dst x =>
   match cX P src x with
   | some x => cConv P src dst x
   | none => none
 | .makeSlice t l c =>
   match P.underlying t with
   | some (.slice e) =>
     match czrow P e, cX P 0 l with
     | some zero, some x => if sameOpd l c ∧ 0 < P.bytesOf e then some (.mks e (P.bytesOf e) zero x) else none
     | _, _ => none
   | _ => none
 | .slice t x lo hi none =>
   match cX P t x, cOptX P lo, cOptX P hi with
   | some x, some lo, some hi =>
     match P.underlying t with
     | some .string => some (.substr x lo hi)
     | some (.slice e) => if (P.info? e).isSome then some (.slice x lo hi (P.cellsOf e)) else none
     | some (.array n e) => cArr P n e x lo hi
     | _ => none
   | _, _, _ => none
 | .fieldAddr t x k =>
   match P.underlying t, cX P 0 x with
   | some (.struct fs), some x =>
     match fs[k]? with
     | some f => if (P.info? f.type).isSome ∧ P.cellsOf f.type ≠ 0 then some (.faddr x f.offset) else none
     | none => none
   | _, _ => none
 | .field t x k =>
   match P.underlying t, cX P 0 x with
   | some (.struct fs), some x =>
     match fs[k]? with
     | some f => if known P f.type then some (.field x f.offset (aggOf P f.type)) else none
     | none => none
   | _, _ => none
 | .indexAddr t x y =>
   match cX P t x, cX P 0 y with
   | some x, some y =>
     match P.underlying t with
     | some (.slice e) => if (P.info? e).isSome then some (.iaddrS x y (P.cellsOf e)) else none
     | some (.array n e) => if (P.info? e).isSome then some (.iaddrA x y n (P.cellsOf e)) else none
     | _ => none
   | _, _ => none
 | .index t x y =>
   match cX P t x, cX P 0 y with
   | some x, some y =>
     match P.underlying t with
     | some .string => some (.idxS x y)
     | some (.array n e) => if known P e then some (.idxA x y n (P.cellsOf e) (aggOf P e)) else none
     | _ => none
   | _, _ => none
 | .extract x i => (cX P 0 x).map fun x => .ext x i (tk && sliceTy P 12 o.type)
 | .makeFunc fn first captured => cMkf P fn first captured
 | .call c => cCall P c
 | .makeInterface t x => (cX P t x).bind fun x => cMki P t x
 | .range t x =>
   match P.underlying t with
   | some .string => (cX P t x).map .rng
   | _ => none
 | .next x true => (cX P 0 x).map .nxt
 | _ => none
theorem info_cells {P : Program} {t : TypeId} {i : TypeInfo} (h : P.info? t = some i) : P.cellsOf t = i.size ∧ P.bytesOf t = i.bytes := by simp [Program.cellsOf, Program.bytesOf, h]
theorem known_ok {P : Program} {t : TypeId} (h : known P t = true) : AggOk P t (aggOf P t) ∧ ∃ i, P.info? t = some i := by
 unfold known at h
 rw [Bool.and_eq_true] at h
 obtain ⟨d, hd⟩ := Option.isSome_iff_exists.1 h.1
 obtain ⟨i, hi⟩ := Option.isSome_iff_exists.1 h.2
 exact ⟨aggOf_ok hd hi, i, hi⟩
theorem cParts_ok {P : Program} {t : TypeId} {d : Option Nat} : ∀ {ps : List (Nat × Operand)} {qs : List (Nat × Nat × X)}, cParts P t d ps = some qs → PartsOk (fun k => (placeOf P t k).map fun p => (p.1, p.2.1)) qs ps ∧ ∀ q ∈ qs, q.2.2 ≠ .t (d.getD 0)
 | [], qs, h => by
   simp only [cParts] at h
   injection h with h
   subst h
   exact ⟨⟨rfl, fun i p p' hp => by simp at hp⟩, fun q hq => by cases hq⟩
 | (k, o) :: r, qs, h => by
   simp only [cParts] at h
   split at h
   ·rename_i off n ty hpl
    split at h
    ·rename_i x hx
     split at h
     ·cases h
     ·rename_i hnt
      obtain ⟨qs', h1, rfl⟩ := Option.map_eq_some_iff.1 h
      obtain ⟨⟨q1, q2⟩, q3⟩ := cParts_ok h1
      refine ⟨⟨by simp [q1], fun i p p' hp hp' => ?_⟩, fun q hq => ?_⟩
      ·cases i with
       | zero => simp at hp hp'; subst hp hp'; exact ⟨by simp [hpl], cX_ok hx⟩
       | succ i => exact q2 i p p' (by simpa using hp) (by simpa using hp')
      ·rcases List.mem_cons.1 hq with rfl | hq
       ·intro he
        have he : x = .t (d.getD 0) := he
        subst he
        have ho := cX_ok hx
        have ho : o = .tmp (d.getD 0) := ho
        subst ho
        simp [isTmp] at hnt
       ·exact q3 q hq
    ·cases h
   ·cases h
theorem cRowParts_ok {P : Program} {e : TypeId} : ∀ {ps : List (Nat × Operand)} {qs : List (Nat × X)}, cRowParts P e ps = some qs → RowParts qs ps
 | [], qs, h => by
   simp only [cRowParts] at h
   injection h with h
   subst h
   exact ⟨rfl, fun i p p' hp => by simp at hp⟩
 | (k, o) :: r, qs, h => by
   simp only [cRowParts] at h
   split at h
   ·rename_i x hx
    obtain ⟨qs', h1, rfl⟩ := Option.map_eq_some_iff.1 h
    obtain ⟨q1, q2⟩ := cRowParts_ok h1
    refine ⟨by simp [q1], fun i p p' hp hp' => ?_⟩
    cases i with
    | zero => simp at hp hp'; subst hp hp'; exact ⟨rfl, cX_ok hx⟩
    | succ i => exact q2 i p p' (by simpa using hp) (by simpa using hp')
   ·cases h
theorem buildable_ok {P : Program} {t : TypeId} (h : buildable P t = true) : BuildOk P t (fun k => (placeOf P t k).map fun p => (p.1, p.2.1)) := by
 unfold buildable at h
 split at h
 ·rename_i fs hu
  refine .inl ⟨fs, hu, fun f hf => ?_, fun k => ?_⟩
  ·have := List.all_eq_true.1 h f (by simpa using hf)
   exact Option.isSome_iff_exists.1 this
  ·unfold placeOf
   rw [hu]
   show ((fs[k]?).map fun f => (f.offset, P.cellsOf f.type, f.type)).map (fun p => (p.1, p.2.1)) = _
   rw [Option.map_map]
   rfl
 ·rename_i n e hu
  obtain ⟨i, hi⟩ := Option.isSome_iff_exists.1 h
  refine .inr ⟨n, e, i, hu, hi, fun k => ?_⟩
  unfold placeOf
  rw [hu]
  simp [(info_cells hi).1]
 ·cases h
theorem cOptX_ok {P : Program} {o : Option Operand} {x : Option X} (h : cOptX P o = some x) : OptOk x o := by
 cases o with
 | none => simp only [cOptX] at h; injection h with h; subst h; trivial
 | some o =>
   simp only [cOptX] at h
   obtain ⟨x', h1, rfl⟩ := Option.map_eq_some_iff.1 h
   exact cX_ok h1
theorem cBin_ok {P : Program} {d : Option Nat} {op : BinOp} {t t' : TypeId} {x y : X} {x' y' : Operand} {io : IOp} (h : cBin P op t x y = some io) (hx : OpdOk x x') (hy : OpdOk y y') : OpOk P d io (.binOp op t x' y' t') := by
 unfold cBin at h
 split at h
 ·injection h with h; subst h; exact .bin op t t' x y x' y' hx hy
 ·injection h with h; subst h; exact .bin op t t' x y x' y' hx hy
 ·rename_i hu
  split at h
  ·injection h with h; subst h; exact .eqb false t t' x y x' y' hu hx hy
  ·injection h with h; subst h; exact .eqb true t t' x y x' y' hu hx hy
  ·cases h
 ·rename_i fs hu
  split at h
  ·cases h
  ·rename_i hg
   split at h
   ·rename_i ks hk
    injection h with h; subst h; exact .eq false t t' fs ks 12 x y x' y' hu (by simpa using hg) hk (by omega) hx hy
   ·rename_i ks hk
    injection h with h; subst h; exact .eq true t t' fs ks 12 x y x' y' hu (by simpa using hg) hk (by omega) hx hy
   ·cases h
 ·cases h
theorem cNil_ok {P : Program} {d : Option Nat} {op : BinOp} {t t' : TypeId} {x : X} {x' y' : Operand} {io : IOp} (h : cNil P op t x = some io) (hy : isNilC y' = true) (hx : OpdOk x x') : OpOk P d io (.binOp op t x' y' t') := by
 have hy' : y' = .const (.slice none 0 0) := by
  unfold isNilC at hy
  split at hy
  ·rfl
  ·cases hy
 subst hy'
 unfold cNil at h
 split at h
 ·rename_i e hu
  split at h
  ·injection h with h; subst h; exact .nilq false t t' e x x' hu hx
  ·injection h with h; subst h; exact .nilq true t t' e x x' hu hx
  ·cases h
 ·cases h
theorem cNilI_ok {P : Program} {d : Option Nat} {op : BinOp} {t t' : TypeId} {x : X} {x' y' : Operand} {io : IOp} (h : cNilI P op t x = some io) (hy : isNilI y' = true) (hx : OpdOk x x') : OpOk P d io (.binOp op t x' y' t') := by
 have hy' : y' = .const .nilIface := by
  unfold isNilI at hy
  split at hy
  ·rfl
  ·cases hy
 subst hy'
 unfold cNilI at h
 split at h
 ·rename_i e hu
  split at h
  ·injection h with h; subst h; exact .isnil false t t' e x x' hu hx
  ·injection h with h; subst h; exact .isnil true t t' e x x' hu hx
  ·cases h
 ·cases h
theorem cMki_ok {P : Program} {d : Option Nat} {t : TypeId} {x : X} {x' : Operand} {io : IOp} (h : cMki P t x = some io) (hx : OpdOk x x') : OpOk P d io (.makeInterface t x') := by
 unfold cMki at h
 split at h
 ·cases h
 ·rename_i u hu hne
  injection h with h; subst h
  exact .mki t u x x' hne (fun ms e => hu ms e) hx
 ·cases h
theorem cConv_ok {P : Program} {d : Option Nat} {src dst : TypeId} {x : X} {x' : Operand} {io : IOp} (h : cConv P src dst x = some io) (hx : OpdOk x x') : OpOk P d io (.convert src dst x') := by
 unfold cConv at h
 split at h
 ·rename_i k0 k h1 h2
  injection h with h; subst h; exact .convI src dst k k0 x x' h1 h2 hx
 ·rename_i k0 h1 h2
  injection h with h; subst h; exact .convR src dst k0 x x' h1 h2 hx
 ·rename_i h1 h2
  injection h with h; subst h; exact .convS src dst x x' h1 h2 hx
 ·rename_i e h1 h2
  split at h
  ·rename_i h3
   injection h with h; subst h; exact .convY src dst e x x' h1 h2 h3 hx
  ·cases h
 ·rename_i e h1 h2
  split at h
  ·rename_i h3
   injection h with h; subst h; exact .convB src dst e default x x' h1 h3 h2 hx
  ·cases h
 ·cases h
theorem cMkf_ok {P : Program} {d : Option Nat} {fn : Fn} {first captured : Array Operand} {io : IOp} (h : cMkf P fn first captured = some io) : OpOk P d io (.makeFunc fn first captured) := by
 unfold cMkf at h
 split at h
 ·split at h
  ·rename_i hz
   obtain ⟨xs, h1, rfl⟩ := Option.map_eq_some_iff.1 h
   obtain rfl : first = #[] := Array.eq_empty_of_size_eq_zero hz
   exact .mkf _ _ _ (cXs_ok h1)
  ·cases h
 ·cases h
theorem cMM_ok {P : Program} {d : Option Nat} {mx : Bool} {args : Array Operand} {ts : Array TypeId} {io : IOp} (h : cMM P mx args.toList ts.toList = some io) : OpOk P d io (.call { callee := .builtin (if mx then .max else .min), args := args, argTypes := ts }) := by
 unfold cMM at h
 split at h
 ·rename_i x y ha
  obtain rfl : args = #[x, y] := Array.ext' ha
  split at h
  ·rename_i h1 h2
   injection h with h; subst h; exact .mm mx _ _ _ _ _ (cX_ok h1) (cX_ok h2)
  ·cases h
 ·cases h
theorem cArr_ok {P : Program} {d : Option Nat} {t e : TypeId} {n : Nat} {x : X} {lo hi : Option X} {x' : Operand} {lo' hi' : Option Operand} {io : IOp} (ht : P.underlying t = some (.array n e)) (hx : OpdOk x x') (hl : OptOk lo lo') (hh : OptOk hi hi') (h : cArr P n e x lo hi = some io) : OpOk P d io (.slice t x' lo' hi' none) := by
 unfold cArr at h
 split at h
 ·rename_i hc
  obtain ⟨h1, h2, h3⟩ := hc
  obtain ⟨i, hi⟩ := Option.isSome_iff_exists.1 h1
  injection h with h
  subst h
  have q := (info_cells hi).1
  rw [q]
  exact .arrS _ _ _ i _ _ _ _ _ _ ht hi (by omega) (Nat.le_trans h3 (by unfold maxLen; decide)) hx hl hh
 ·cases h
theorem cCopy_ok {P : Program} {d : Option Nat} {args : Array Operand} {ts : Array TypeId} {io : IOp} (h : cCopy P args.toList ts.toList = some io) : OpOk P d io (.call { callee := .builtin .copy, args := args, argTypes := ts }) := by
 unfold cCopy at h
 split at h
 ·rename_i x y t t' ha ht
  obtain rfl : args = #[x, y] := Array.ext' ha
  obtain rfl : ts = #[t, t'] := Array.ext' ht
  split at h
  ·rename_i h1 h2
   split at h
   ·rename_i e hu
    split at h
    ·rename_i hc
     obtain ⟨hc1, hc2⟩ := hc
     obtain ⟨i, hi⟩ := Option.isSome_iff_exists.1 hc1
     injection h with h
     subst h
     exact .copyA _ _ _ i _ _ _ _ hu hi ((info_cells hi).1.symm.trans hc2) (cX_ok h1) (cX_ok h2)
    ·cases h
   ·cases h
  ·cases h
 ·cases h
theorem cCall_ok {P : Program} {d : Option Nat} {c : Call} {io : IOp} (h : cCall P c = some io) : OpOk P d io (.call c) := by
 obtain ⟨callee, args, ts⟩ := c
 unfold cCall at h
 split at h
 ·rename_i f hc
  have hc : callee = .value f := hc
  subst hc
  split at h
  ·rename_i h1 h2
   injection h with h; subst h; exact .call _ _ _ _ _ _ (cX_ok h1) (cXs_ok h2)
  ·cases h
 ·rename_i hc
  have hc : callee = .builtin .len := hc
  subst hc
  split at h
  ·rename_i x t ha ht
   obtain rfl : args = #[x] := Array.ext' ha
   obtain rfl : ts = #[t] := Array.ext' ht
   split at h
   ·rename_i h1
    unfold cLen at h
    split at h
    ·rename_i e hu
     injection h with h; subst h; exact .len _ _ _ _ hu (cX_ok h1)
    ·rename_i hu
     injection h with h; subst h; exact .lenS _ _ _ hu (cX_ok h1)
    ·cases h
   ·cases h
  ·cases h
 ·rename_i hc
  have hc : callee = .builtin .append := hc
  subst hc
  split at h
  ·rename_i x y t t' ha ht
   obtain rfl : args = #[x, y] := Array.ext' ha
   obtain rfl : ts = #[t, t'] := Array.ext' ht
   split at h
   ·rename_i h1 h2
    split at h
    ·rename_i htt
     subst htt
     unfold cApp at h
     split at h
     ·rename_i e hu
      split at h
      ·rename_i cs hz
       split at h
       ·rename_i hc
        obtain ⟨hc1, hc2⟩ := hc
        injection h with h; subst h
        obtain ⟨i, z, hi, hzz, hs, _⟩ := czero_ok hz
        obtain ⟨q1, q2⟩ := info_cells hi
        rw [q1, q2]
        exact .app _ _ i z _ _ _ _ hu hi hzz (by omega) (by omega) (cX_ok h1) (cX_ok h2)
       ·cases h
      ·cases h
     ·cases h
    ·cases h
   ·cases h
  ·cases h
 ·rename_i hc
  have hc : callee = .builtin .copy := hc
  subst hc
  exact cCopy_ok h
 ·rename_i hc
  have hc : callee = .builtin .min := hc
  subst hc
  exact cMM_ok (mx := false) h
 ·rename_i hc
  have hc : callee = .builtin .max := hc
  subst hc
  exact cMM_ok (mx := true) h
 ·cases h
end Go.Ev
