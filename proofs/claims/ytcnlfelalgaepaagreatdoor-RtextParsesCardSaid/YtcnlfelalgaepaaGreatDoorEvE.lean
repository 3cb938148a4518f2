/- All operations: what the evaluator answers for one, the run comes to. Condition: none. -/
import Derived.Test.YtcnlfelalgaepaaGreatDoorEvD
import Derived.Test.YtcnlfelalgaepaaGreatDoorEvV
import Derived.Test.YtcnlfelalgaepaaGreatDoorEvM
import Derived.Test.YtcnlfelalgaepaaGreatDoorEvW
namespace Go.Ev
set_option linter.all false
open Go.RowKit
inductive OpOk (P : Program) (d : Option Nat) : IOp → Op → Prop
 | move (x : X) (x' : Operand) (tk : Bool) (hx : OpdOk x x') : OpOk P d (.mov x tk) (.move x')
 | assign (x : X) (x' : Operand) (tk : Bool) (hx : OpdOk x x') : OpOk P d (.mov x tk) (.assign x')
 | pick (c x y : X) (c' x' y' : Operand) (hc : OpdOk c c') (hx : OpdOk x x') (hy : OpdOk y y') : OpOk P d (.pick c x y) (.pick c' x' y')
 | chk (x : X) (x' : Operand) (hx : OpdOk x x') : OpOk P d (.chk x) (.nilCheck x')
 | alloc (t : TypeId) (cs : List AV) (hz : ZeroOk P t cs) : OpOk P d (.alloc t cs) (.alloc t)
 | box (t : TypeId) (x : X) (x' : Operand) (hx : OpdOk x x') : OpOk P d (.box t x) (.box t x')
 | build (t : TypeId) (cs : List AV) (parts : List (Nat × Nat × X)) (parts' : Array (Nat × Operand)) (place : Nat → Option (Nat × Nat)) (hz : ZeroOk P t cs) (hb : BuildOk P t place) (hp : PartsOk place parts parts'.toList) (hd : ∀ p ∈ parts, p.2.2 ≠ .t (d.getD 0)) : OpOk P d (.build cs parts) (.build t parts')
 | buildP (t : TypeId) (cs : List AV) (parts : List (Nat × Nat × X)) (parts' : Array (Nat × Operand)) (place : Nat → Option (Nat × Nat)) (hz : ZeroOk P t cs) (hb : BuildOk P t place) (hp : PartsOk place parts parts'.toList) (hd : ∀ p ∈ parts, p.2.2 ≠ .t (d.getD 0)) : OpOk P d (.buildP cs parts) (.build t parts')
 | bslice (t e : TypeId) (i : TypeInfo) (z : Value) (zero : List AV) (n : Nat) (parts : List (Nat × X)) (parts' : Array (Nat × Operand)) (hu : P.underlying t = some (.slice e)) (hz : ZRow P e i z zero) (hn : n * i.size ≤ 16777216) (hp : RowParts parts parts'.toList) : OpOk P d (.bslice e zero n parts) (.buildSlice t n parts')
 | load (t : TypeId) (agg : Option Nat) (x : X) (x' : Operand) (tk : Bool) (hag : AggOk P t agg) (hx : OpdOk x x') : OpOk P d (.load x agg tk) (.load t x')
 | store (t : TypeId) (i : TypeInfo) (x y : X) (x' y' : Operand) (hi : P.info? t = some i) (hx : OpdOk x x') (hy : OpdOk y y') : OpOk P d (.store x y i.size) (.store t x' y')
 | bin (op : BinOp) (t t' : TypeId) (x y : X) (x' y' : Operand) (hx : OpdOk x x') (hy : OpdOk y y') : OpOk P d (.bin op x y) (.binOp op t x' y' t')
 | nilq (neg : Bool) (t t' e : TypeId) (x : X) (x' : Operand) (hu : P.underlying t = some (.slice e)) (hx : OpdOk x x') : OpOk P d (.nilq neg x) (.binOp (if neg then .neq else .eql) t x' (.const (.slice none 0 0)) t')
 | mm (mx : Bool) (x y : X) (x' y' : Operand) (ts : Array TypeId) (hx : OpdOk x x') (hy : OpdOk y y') : OpOk P d (.mm mx x y) (.call { callee := .builtin (if mx then .max else .min), args := #[x', y'], argTypes := ts })
 | eqb (neg : Bool) (t t' : TypeId) (x y : X) (x' y' : Operand) (hu : P.underlying t = some .bool) (hx : OpdOk x x') (hy : OpdOk y y') : OpOk P d (.eqb neg x y) (.binOp (if neg then .neq else .eql) t x' y' t')
 | eq (neg : Bool) (t t' : TypeId) (fs : Array Field) (ks : List CK) (n : Nat) (x y : X) (x' y' : Operand) (hu : P.underlying t = some (.struct fs)) (hg : P.eqGuardType P.depth t = false) (hk : flatKinds P n t = some ks) (hn : n ≤ 10000) (hx : OpdOk x x') (hy : OpdOk y y') : OpOk P d (.eq neg ks x y) (.binOp (if neg then .neq else .eql) t x' y' t')
 | un (op : UnOp) (t : TypeId) (x : X) (x' : Operand) (hx : OpdOk x x') : OpOk P d (.un op x) (.unOp op t x')
 | convY (src dst e : TypeId) (x : X) (x' : Operand) (hs : P.underlying src = some .string) (hd : P.underlying dst = some (.slice e)) (he : P.underlying e = some (.int .u8)) (hx : OpdOk x x') : OpOk P d (.conv (.s2b e) x) (.convert src dst x')
 | convI (src dst : TypeId) (k k0 : IntKind) (x : X) (x' : Operand) (hs : P.underlying src = some (.int k0)) (hd : P.underlying dst = some (.int k)) (hx : OpdOk x x') : OpOk P d (.conv (.int k) x) (.convert src dst x')
 | convS (src dst : TypeId) (x : X) (x' : Operand) (hs : P.underlying src = some .string) (hd : P.underlying dst = some .string) (hx : OpdOk x x') : OpOk P d (.conv .same x) (.convert src dst x')
 | convB (src dst e : TypeId) (ie : TypeInfo) (x : X) (x' : Operand) (hs : P.underlying src = some (.slice e)) (he8 : P.underlying e = some (.int .u8)) (hd : P.underlying dst = some .string) (hx : OpdOk x x') : OpOk P d (.conv .b2s x) (.convert src dst x')
 | mks (t e : TypeId) (i : TypeInfo) (z : Value) (zero : List AV) (x : X) (x' : Operand) (hu : P.underlying t = some (.slice e)) (hz : ZRow P e i z zero) (hby : 0 < i.bytes) (hx : OpdOk x x') : OpOk P d (.mks e i.bytes zero x) (.makeSlice t x' x')
 | slice (t e : TypeId) (ie : TypeInfo) (x : X) (lo hi : Option X) (x' : Operand) (lo' hi' : Option Operand) (ht : P.underlying t = some (.slice e)) (hie : P.info? e = some ie) (hx : OpdOk x x') (hl : OptOk lo lo') (hh : OptOk hi hi') : OpOk P d (.slice x lo hi ie.size) (.slice t x' lo' hi' none)
 | substr (t : TypeId) (x : X) (lo hi : Option X) (x' : Operand) (lo' hi' : Option Operand) (ht : P.underlying t = some .string) (hx : OpdOk x x') (hl : OptOk lo lo') (hh : OptOk hi hi') : OpOk P d (.substr x lo hi) (.slice t x' lo' hi' none)
 | faddr (t : TypeId) (k : Nat) (fs : Array Field) (fl : Field) (i : TypeInfo) (x : X) (x' : Operand) (hu : P.underlying t = some (.struct fs)) (hf : fs[k]? = some fl) (hi : P.info? fl.type = some i) (hz : i.size ≠ 0) (hx : OpdOk x x') : OpOk P d (.faddr x fl.offset) (.fieldAddr t x' k)
 | field (t : TypeId) (k : Nat) (fs : Array Field) (fl : Field) (agg : Option Nat) (x : X) (x' : Operand) (hu : P.underlying t = some (.struct fs)) (hf : fs[k]? = some fl) (hag : AggOk P fl.type agg) (hx : OpdOk x x') : OpOk P d (.field x fl.offset agg) (.field t x' k)
 | iaddrS (t e : TypeId) (i : TypeInfo) (x y : X) (x' y' : Operand) (hu : P.underlying t = some (.slice e)) (hi : P.info? e = some i) (hx : OpdOk x x') (hy : OpdOk y y') : OpOk P d (.iaddrS x y i.size) (.indexAddr t x' y')
 | iaddrA (t e : TypeId) (n : Nat) (i : TypeInfo) (x y : X) (x' y' : Operand) (hu : P.underlying t = some (.array n e)) (hi : P.info? e = some i) (hx : OpdOk x x') (hy : OpdOk y y') : OpOk P d (.iaddrA x y n i.size) (.indexAddr t x' y')
 | idxS (t : TypeId) (x y : X) (x' y' : Operand) (hu : P.underlying t = some .string) (hx : OpdOk x x') (hy : OpdOk y y') : OpOk P d (.idxS x y) (.index t x' y')
 | idxA (t e : TypeId) (n : Nat) (i : TypeInfo) (agg : Option Nat) (x y : X) (x' y' : Operand) (hu : P.underlying t = some (.array n e)) (hi : P.info? e = some i) (hag : AggOk P e agg) (hx : OpdOk x x') (hy : OpdOk y y') : OpOk P d (.idxA x y n i.size agg) (.index t x' y')
 | ext (x : X) (x' : Operand) (i : Nat) (tk : Bool) (hx : OpdOk x x') : OpOk P d (.ext x i tk) (.extract x' i)
 | len (t e : TypeId) (x : X) (x' : Operand) (hu : P.underlying t = some (.slice e)) (hx : OpdOk x x') : OpOk P d (.len x) (.call { callee := .builtin .len, args := #[x'], argTypes := #[t] })
 | lenS (t : TypeId) (x : X) (x' : Operand) (hu : P.underlying t = some .string) (hx : OpdOk x x') : OpOk P d (.lenS x) (.call { callee := .builtin .len, args := #[x'], argTypes := #[t] })
 | app (t e : TypeId) (i : TypeInfo) (z : Value) (x y : X) (x' y' : Operand) (ht : P.underlying t = some (.slice e)) (hi : P.info? e = some i) (hz : i.zero = some z) (hzs : z.cells.size = i.size) (hsz : 0 < i.size) (hx : OpdOk x x') (hy : OpdOk y y') : OpOk P d (.app x y e i.size i.bytes) (.call { callee := .builtin .append, args := #[x', y'], argTypes := #[t, t] })
 | call (pure : Bool) (f : X) (f' : Operand) (args : List X) (args' : Array Operand) (ts : Array TypeId) (hf : OpdOk f f') (hx : OpdsOk args args'.toList) : OpOk P d (.call pure f args) (.call { callee := .value f', args := args', argTypes := ts })
 | mkf (f : FuncId) (xs : List X) (xs' : Array Operand) (hx : OpdsOk xs xs'.toList) : OpOk P d (.mkf f xs) (.makeFunc (.func f) #[] xs')
 | clone (g : FuncId) (e : TypeId) (i : TypeInfo) (x : X) (x' : Operand) (ts : Array TypeId) (hcl : CloneOk P g e i) (hsz : 0 < i.size) (hx : OpdOk x x') : OpOk P d (.clone g x e i.size i.bytes) (.call { callee := .value (.func g), args := #[x'], argTypes := ts })
 | callA (f : X) (f' : Operand) (args : List X) (args' : Array Operand) (ts : Array TypeId) (hf : OpdOk f f') (hx : OpdsOk args args'.toList) : OpOk P d (.callA f args) (.call { callee := .value f', args := args', argTypes := ts })
 | callH (f : X) (f' : Operand) (args : List X) (args' : Array Operand) (ts : Array TypeId) (hf : OpdOk f f') (hx : OpdsOk args args'.toList) : OpOk P d (.callH f args) (.call { callee := .value f', args := args', argTypes := ts })
 | callS (f : X) (f' : Operand) (args : List X) (args' : Array Operand) (ts : Array TypeId) (hf : OpdOk f f') (hx : OpdsOk args args'.toList) : OpOk P d (.callS f args) (.call { callee := .value f', args := args', argTypes := ts })
 | del (g : FuncId) (i : TypeInfo) (x y z : X) (x' y' z' : Operand) (ts : Array TypeId) (hde : DeleteOk P g i) (hsz : 0 < i.size) (hx : OpdOk x x') (hy : OpdOk y y') (hz : OpdOk z z') : OpOk P d (.del g x y z i.size) (.call { callee := .value (.func g), args := #[x', y', z'], argTypes := ts })
 | cloneV (g : FuncId) (e : TypeId) (i : TypeInfo) (x : X) (x' : Operand) (ts : Array TypeId) (hcl : CloneOk P g e i) (hsz : 0 < i.size) (hx : OpdOk x x') : OpOk P d (.cloneV g x e i.size i.bytes) (.call { callee := .value (.func g), args := #[x'], argTypes := ts })
 | appW (t e : TypeId) (i : TypeInfo) (z : Value) (x y : X) (x' y' : Operand) (ht : P.underlying t = some (.slice e)) (hi : P.info? e = some i) (hz : i.zero = some z) (hzs : z.cells.size = i.size) (hsz : 0 < i.size) (hx : OpdOk x x') (hy : OpdOk y y') : OpOk P d (.appW x y e i.size i.bytes) (.call { callee := .builtin .append, args := #[x', y'], argTypes := #[t, t] })
 | mki (t : TypeId) (u : TypeDesc) (x : X) (x' : Operand) (hu : P.underlying t = some u) (hi : ∀ ms, u ≠ .interface ms) (hx : OpdOk x x') : OpOk P d (.conv .mki x) (.makeInterface t x')
 | isnil (neg : Bool) (t t' : TypeId) (ms : Array (String × TypeId)) (x : X) (x' : Operand) (hu : P.underlying t = some (.interface ms)) (hx : OpdOk x x') : OpOk P d (.conv (.isnil neg) x) (.binOp (if neg then .neq else .eql) t x' (.const .nilIface) t')
 | convR (src dst : TypeId) (k0 : IntKind) (x : X) (x' : Operand) (hs : P.underlying src = some (.int k0)) (hd : P.underlying dst = some .string) (hx : OpdOk x x') : OpOk P d (.conv .r2s x) (.convert src dst x')
 | rng (t : TypeId) (x : X) (x' : Operand) (hu : P.underlying t = some .string) (hx : OpdOk x x') : OpOk P d (.rng x) (.range t x')
 | nxt (x : X) (x' : Operand) (hx : OpdOk x x') : OpOk P d (.nxt x) (.next x' true)
 | mkW (t e : TypeId) (i : TypeInfo) (z : Value) (zero : List AV) (x : X) (x' : Operand) (hu : P.underlying t = some (.slice e)) (hz : ZRow P e i z zero) (hby : 0 < i.bytes) (hx : OpdOk x x') : OpOk P d (.mkW e i.bytes zero x) (.makeSlice t x' x')
 | strw (src dst e : TypeId) (x : X) (x' : Operand) (hs : P.underlying src = some (.slice e)) (he8 : P.underlying e = some (.int .u8)) (hd : P.underlying dst = some .string) (hx : OpdOk x x') : OpOk P d (.strw x) (.convert src dst x')
 | nat2 (g : FuncId) (k : N2) (x y : X) (x' y' : Operand) (ts : Array TypeId) (hg : NatOk P g k) (hx : OpdOk x x') (hy : OpdOk y y') : OpOk P d (.nat2 k x y) (.call { callee := .value (.func g), args := #[x', y'], argTypes := ts })
 | arrS (t e : TypeId) (n : Nat) (ie : TypeInfo) (x : X) (lo hi : Option X) (x' : Operand) (lo' hi' : Option Operand) (ht : P.underlying t = some (.array n e)) (hie : P.info? e = some ie) (hsz : 0 < ie.size) (hn : n ≤ maxLen) (hx : OpdOk x x') (hl : OptOk lo lo') (hh : OptOk hi hi') : OpOk P d (.arrS x lo hi n ie.size) (.slice t x' lo' hi' none)
 | copyA (t t' e : TypeId) (ie : TypeInfo) (x y : X) (x' y' : Operand) (ht : P.underlying t = some (.slice e)) (hie : P.info? e = some ie) (hsz : ie.size = 1) (hx : OpdOk x x') (hy : OpdOk y y') : OpOk P d (.copyA x y) (.call { callee := .builtin .copy, args := #[x', y'], argTypes := #[t, t'] })
 | fail (o : Op) : OpOk P d .fail o
def OrcOk (P : Program) (O : Orc) : Prop := CallOk P O.call ∧ CarryOk P O.carry
section
variable {w0 w w' : World} {W0 : Base} {W W' : Nat → Own} {φ φ' : Nat → Nat → Option Blk} {s s' : St} {a : Act} {P : Program} {O : Orc} {d : Option Nat} {av : AV} {v : Value} {t : TypeId} {agg : Option Nat}
theorem op_ok (hO : OrcOk P O) {o : Oper} {io : IOp} (hk : OpOk P o.dst io o.op) (h : Rel w0 W0 s a φ W w) (he : evVal O io o.dst s = some (av, s')) (hn : ∀ x, o.dst = some x → x < a.tmps.size) {K : Act → World → Prop} {Q : Exit → Act → World → Prop}
 (hK : ∀ (a' : Act) w' φ W, a'.tmps.size = a.tmps.size → Rel w0 W0 (s'.put o.dst av) a' φ W w' → K a' w') : o.wp P a w K Q := by
 generalize hop : o.op = op at hk
 cases hk with
 | move x x' tk hx => exact (ok_mov (.inl hop) hx h he).wp hn hK
 | assign x x' tk hx => exact (ok_mov (.inr hop) hx h he).wp hn hK
 | pick c x y c' x' y' hc hx hy => exact (ok_pick hop hc hx hy h he).wp hn hK
 | chk x x' hx => exact (ok_chk hop hx h he).wp hn hK
 | alloc t cs hz => exact (ok_alloc hop hz h he).wp hn hK
 | box t x x' hx => exact (ok_box hop hx h he).wp hn hK
 | build t cs parts parts' place hz hb hp hd => exact (ok_build hop hz hb hp hd h he).wp hn hK
 | buildP t cs parts parts' place hz hb hp hd =>
   have he2 : evVal O (.build cs parts) o.dst s = some (av, s') := by
    simp only [evVal] at he ⊢
    split at he
    case isFalse => cases he
    rename_i hpl
    obtain ⟨⟨q, s1⟩, hq, he⟩ := Option.map_eq_some_iff.1 he
    have := fill_plain hpl hq
    subst this
    rw [hq, Option.map_some]
    exact congrArg some he
   exact (ok_build hop hz hb hp hd h he2).wp hn hK
 | bslice t e i z zero n parts parts' hu hz hn' hp => exact (ok_bslice hop hu hz hn' hp h he).wp hn hK
 | load t agg x x' tk hag hx => exact (ok_load hop hag hx h he).wp hn hK
 | store t i x y x' y' hi hx hy => exact (ok_store hop hi hx hy h he).wp hn hK
 | bin op t t' x y x' y' hx hy => exact (ok_bin hop hx hy h he).wp hn hK
 | nilq neg t t' e x x' hu hx => exact (ok_nilq hop hx hu h he).wp hn hK
 | mm mx x y x' y' ts hx hy => exact (ok_mm hop hx hy h he).wp hn hK
 | eqb neg t t' x y x' y' hu hx hy => exact (ok_eqb hop hx hy hu h he).wp hn hK
 | eq neg t t' fs ks n x y x' y' hu hg hk hn' hx hy => exact (ok_eq (i := default) hop hx hy hu hg hk hn' h he).wp hn hK
 | un op t x x' hx => exact (ok_un hop hx h he).wp hn hK
 | convY src dst e x x' hs hd he8 hx => exact (ok_s2b hop hs hd he8 hx h he).wp hn hK
 | convI src dst k k0 x x' hs hd hx => exact (ok_convI hop hs hd hx h he).wp hn hK
 | convS src dst x x' hs hd hx => exact (ok_convSame hop hs hd hx h he).wp hn hK
 | convB src dst e ie x x' hs he8 hd hx => exact (ok_b2s (ie := ie) hop hs he8 hd hx h he).wp hn hK
 | mks t e i z zero x x' hu hz hby hx => exact (ok_mks hop rfl hu hz hx h he hby).wp hn hK
 | slice t e ie x lo hi x' lo' hi' ht hie hx hl hh => exact (ok_slice hop ht hie hx hl hh h he).wp hn hK
 | substr t x lo hi x' lo' hi' ht hx hl hh => exact (ok_substr hop ht hx hl hh h he).wp hn hK
 | faddr t k fs fl i x x' hu hf hi hz hx => exact (ok_faddr hop hu hf hi hz hx h he).wp hn hK
 | field t k fs fl agg x x' hu hf hag hx => exact (ok_field hop hu hf hag hx h he).wp hn hK
 | iaddrS t e i x y x' y' hu hi hx hy => exact (ok_iaddrS hop hu hi hx hy h he).wp hn hK
 | iaddrA t e n i x y x' y' hu hi hx hy => exact (ok_iaddrA hop hu hi hx hy h he).wp hn hK
 | idxS t x y x' y' hu hx hy => exact (ok_idxS hop hu hx hy h he).wp hn hK
 | idxA t e n i agg x y x' y' hu hi hag hx hy => exact (ok_idxA hop hu hi hag hx hy h he).wp hn hK
 | ext x x' i tk hx => exact (ok_ext hop hx h he).wp hn hK
 | len t e x x' hu hx => exact (ok_len hop hu hx h he).wp hn hK
 | lenS t x x' hu hx => exact (ok_lenS hop hu hx h he).wp hn hK
 | app t e i z x y x' y' ht hi hz hzs hsz hx hy => exact (ok_app hop ht hi hz hzs hsz hx hy h he).wp hn hK
 | call pure f f' args args' ts hf hx => exact ok_call hO.1 hop hf hx h he hn hK
 | mkf f xs xs' hx => exact (ok_mkf hop hx h he).wp hn hK
 | clone g e i x x' ts hcl hsz hx => exact ok_clone hcl hsz hop hx h he hn hK
 | callA f f' args args' ts hf hx => exact ok_callA hO.2 hop hf hx h he hn hK
 | callH f f' args args' ts hf hx => exact ok_callH hO.1 hop hf hx h he hn hK
 | callS f f' args args' ts hf hx => exact ok_callS hO.1 hop hf hx h he hn hK
 | del g i x y z x' y' z' ts hde hsz hx hy hz => exact ok_del hde hsz hop hx hy hz h he hn hK
 | cloneV g e i x x' ts hcl hsz hx => exact ok_cloneV hcl hsz hop hx h he hn hK
 | appW t e i z x y x' y' ht hi hz hzs hsz hx hy => exact (ok_appW hop ht hi hz hzs hsz hx hy h he).wp hn hK
 | mki t u x x' hu hi hx => exact (ok_mki hop hu hi hx h he).wp hn hK
 | isnil neg t t' ms x x' hu hx => exact (ok_isnil hop hu hx h he).wp hn hK
 | convR src dst k0 x x' hs hd hx => exact (ok_r2s hop hs hd hx h he).wp hn hK
 | rng t x x' hu hx => exact (ok_rng hop hu hx h he).wp hn hK
 | nxt x x' hx => exact (ok_nxt hop hx h he).wp hn hK
 | mkW t e i z zero x x' hu hz hby hx => exact (ok_mkW hop rfl hu hz hx h he hby).wp hn hK
 | strw src dst e x x' hs he8 hd hx => exact (ok_strw hop hs he8 hd hx h he).wp hn hK
 | arrS t e n ie x lo hi x' lo' hi' ht hie hsz hn' hx hl hh => exact (ok_arrS hop ht hie hsz hn' hx hl hh h he).wp hn hK
 | copyA t t' e ie x y x' y' ht hie hsz hx hy => exact ok_copyA hop ht hie hsz hx hy h he hn hK
 | nat2 g k x y x' y' ts hg hx hy => exact (ok_nat2 hg hop hx hy h he).wp hn hK
 | fail o => simp only [evVal] at he; cases he
end
end Go.Ev
