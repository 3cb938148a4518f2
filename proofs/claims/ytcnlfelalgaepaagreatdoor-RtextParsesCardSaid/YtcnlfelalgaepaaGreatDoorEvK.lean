/- A program's functions turned into the evaluator's language tell of the program. Condition: none. -/
import Derived.Test.YtcnlfelalgaepaaGreatDoorEvJ
namespace Go.Ev
set_option linter.all false
open Go.RowKit
theorem cOp_ok {P : Program} {tk : Bool} {ops : List Oper} {o : Oper} {io : IOp} (h : cOp P tk ops o = some io) : OpOk P o.dst io o.op := by
 unfold cOp at h
 split at h
 ·rename_i x hop
  rw [hop]
  obtain ⟨x', h1, rfl⟩ := Option.map_eq_some_iff.1 h
  exact .move _ _ _ (cX_ok h1)
 ·rename_i x hop
  rw [hop]
  obtain ⟨x', h1, rfl⟩ := Option.map_eq_some_iff.1 h
  exact .assign _ _ _ (cX_ok h1)
 ·rename_i c a b hop
  rw [hop]
  split at h
  ·rename_i h1 h2 h3
   injection h with h; subst h; exact .pick _ _ _ _ _ _ (cX_ok h1) (cX_ok h2) (cX_ok h3)
  ·cases h
 ·rename_i t hop
  rw [hop]
  obtain ⟨cs, h1, rfl⟩ := Option.map_eq_some_iff.1 h
  exact .alloc _ _ (czero_ok h1)
 ·rename_i t x hop
  rw [hop]
  obtain ⟨x', h1, rfl⟩ := Option.map_eq_some_iff.1 h
  exact .box _ _ _ (cX_ok h1)
 ·rename_i t parts hop
  rw [hop]
  split at h
  ·rename_i hb
   split at h
   ·rename_i cs ps h1 h2
    injection h with h; subst h
    obtain ⟨q1, q2⟩ := cParts_ok h2
    exact .build _ _ _ _ _ (czero_ok h1) (buildable_ok hb) q1 q2
   ·cases h
  ·cases h
 ·rename_i t n parts hop
  rw [hop]
  split at h
  ·rename_i e hu
   split at h
   ·rename_i zero ps h1 h2
    split at h
    ·rename_i hn
     injection h with h; subst h
     obtain ⟨i, z, hz, _⟩ := czrow_ok h1
     exact .bslice _ _ i z _ _ _ _ hu hz (by rw [← hz.len]; exact hn) (cRowParts_ok h2)
    ·cases h
   ·cases h
  ·cases h
 ·rename_i t x hop
  rw [hop]
  split at h
  ·rename_i hk
   obtain ⟨x', h1, rfl⟩ := Option.map_eq_some_iff.1 h
   exact .load _ _ _ _ _ (known_ok hk).1 (cX_ok h1)
  ·cases h
 ·rename_i t x y hop
  rw [hop]
  split at h
  ·rename_i hk
   obtain ⟨_, i, hi⟩ := known_ok hk
   split at h
   ·rename_i h1 h2
    injection h with h; subst h
    rw [(info_cells hi).1]
    exact .store _ i _ _ _ _ hi (cX_ok h1) (cX_ok h2)
   ·cases h
  ·cases h
 ·rename_i x hop
  rw [hop]
  obtain ⟨x', h1, rfl⟩ := Option.map_eq_some_iff.1 h
  exact .chk _ _ (cX_ok h1)
 ·rename_i op t x y t' hop
  rw [hop]
  split at h
  ·rename_i h1 h2
   split at h
   ·rename_i hy
    exact cNil_ok h hy (cX_ok h1)
   ·split at h
    ·rename_i hy
     exact cNilI_ok h hy (cX_ok h1)
    ·exact cBin_ok h (cX_ok h1) (cX_ok h2)
  ·cases h
 ·rename_i op t x hop
  rw [hop]
  obtain ⟨x', h1, rfl⟩ := Option.map_eq_some_iff.1 h
  exact .un _ _ _ _ (cX_ok h1)
 ·rename_i src dst x hop
  rw [hop]
  split at h
  ·rename_i h1
   exact cConv_ok h (cX_ok h1)
  ·cases h
 ·rename_i t l c hop
  rw [hop]
  split at h
  ·rename_i e hu
   split at h
   ·rename_i zero x h1 h2
    split at h
    ·rename_i hc
     injection h with h; subst h
     obtain ⟨i, z, hz, _⟩ := czrow_ok h1
     have hlc : l = c := by
      exact sameOpd_eq hc.1
     subst hlc
     rw [(info_cells hz.info).2]
     exact .mks _ _ i z _ _ _ hu hz (by rw [← (info_cells hz.info).2]; exact hc.2) (cX_ok h2)
    ·cases h
   ·cases h
  ·cases h
 ·rename_i t x lo hi hop
  rw [hop]
  split at h
  ·rename_i h1 h2 h3
   split at h
   ·rename_i hu
    injection h with h; subst h
    exact .substr _ _ _ _ _ _ _ hu (cX_ok h1) (cOptX_ok h2) (cOptX_ok h3)
   ·rename_i e hu
    split at h
    ·rename_i hi'
     injection h with h; subst h
     obtain ⟨i, hi'⟩ := Option.isSome_iff_exists.1 hi'
     rw [(info_cells hi').1]
     exact .slice _ _ i _ _ _ _ _ _ hu hi' (cX_ok h1) (cOptX_ok h2) (cOptX_ok h3)
    ·cases h
   ·rename_i n e hu
    exact cArr_ok hu (cX_ok h1) (cOptX_ok h2) (cOptX_ok h3) h
   ·cases h
  ·cases h
 ·rename_i t x k hop
  rw [hop]
  split at h
  ·rename_i fs x' hu h1
   split at h
   ·rename_i f hf
    split at h
    ·rename_i hc
     injection h with h; subst h
     obtain ⟨i, hi⟩ := Option.isSome_iff_exists.1 hc.1
     exact .faddr _ _ _ _ i _ _ hu hf hi (by rw [← (info_cells hi).1]; exact hc.2) (cX_ok h1)
    ·cases h
   ·cases h
  ·cases h
 ·rename_i t x k hop
  rw [hop]
  split at h
  ·rename_i fs x' hu h1
   split at h
   ·rename_i f hf
    split at h
    ·rename_i hc
     injection h with h; subst h
     exact .field _ _ _ _ _ _ _ hu hf (known_ok hc).1 (cX_ok h1)
    ·cases h
   ·cases h
  ·cases h
 ·rename_i t x y hop
  rw [hop]
  split at h
  ·rename_i h1 h2
   split at h
   ·rename_i e hu
    split at h
    ·rename_i hi
     injection h with h; subst h
     obtain ⟨i, hi⟩ := Option.isSome_iff_exists.1 hi
     rw [(info_cells hi).1]
     exact .iaddrS _ _ i _ _ _ _ hu hi (cX_ok h1) (cX_ok h2)
    ·cases h
   ·rename_i n e hu
    split at h
    ·rename_i hi
     injection h with h; subst h
     obtain ⟨i, hi⟩ := Option.isSome_iff_exists.1 hi
     rw [(info_cells hi).1]
     exact .iaddrA _ _ _ i _ _ _ _ hu hi (cX_ok h1) (cX_ok h2)
    ·cases h
   ·cases h
  ·cases h
 ·rename_i t x y hop
  rw [hop]
  split at h
  ·rename_i h1 h2
   split at h
   ·rename_i hu
    injection h with h; subst h
    exact .idxS _ _ _ _ _ hu (cX_ok h1) (cX_ok h2)
   ·rename_i n e hu
    split at h
    ·rename_i hk
     injection h with h; subst h
     obtain ⟨hag, i, hi⟩ := known_ok hk
     rw [(info_cells hi).1]
     exact .idxA _ _ _ i _ _ _ _ _ hu hi hag (cX_ok h1) (cX_ok h2)
    ·cases h
   ·cases h
  ·cases h
 ·rename_i x i hop
  rw [hop]
  obtain ⟨x', h1, rfl⟩ := Option.map_eq_some_iff.1 h
  exact .ext _ _ _ _ (cX_ok h1)
 ·rename_i fn first captured hop
  rw [hop]
  exact cMkf_ok h
 ·rename_i c hop
  rw [hop]
  exact cCall_ok h
 ·rename_i t x hop
  rw [hop]
  obtain ⟨x', h1, h⟩ := Option.bind_eq_some_iff.1 h
  exact cMki_ok h (cX_ok h1)
 ·rename_i t x hop
  rw [hop]
  split at h
  ·rename_i hu
   obtain ⟨x', h1, rfl⟩ := Option.map_eq_some_iff.1 h
   exact .rng t _ _ hu (cX_ok h1)
  ·cases h
 ·rename_i x hop
  rw [hop]
  obtain ⟨x', h1, rfl⟩ := Option.map_eq_some_iff.1 h
  exact .nxt _ _ (cX_ok h1)
 ·cases h
structure Ann where
 loops : Nat → List Nat × List Nat := fun _ => ([], [])
 clones : FuncId → Option TypeId := fun _ => none
 mu : Nat → Bool := fun _ => false
 dels : FuncId → Option TypeId := fun _ => none
 adopt : Nat → Bool := fun _ => false
 hid : Nat → Bool := fun _ => false
 snap : Nat → Bool := fun _ => false
 imp : Nat → Bool := fun _ => false
 plain : Nat → Bool := fun _ => false
 strw : Nat → Bool := fun _ => false
 hint : Nat → Option H := fun _ => none
 exits : Nat → Option (List Nat × List Nat) := fun _ => none
 rets : Option (List Nat × List Nat) := none
 nats : FuncId → Option N2 := fun _ => none
def ann0 : Ann := {}
structure ClonesOk (P : Program) (A : Ann) : Prop where
 nats : ∀ g k, A.nats g = some k → NatOk P g k
 clones : ∀ g e, A.clones g = some e → ∃ i, CloneOk P g e i ∧ P.info? e = some i ∧ 0 < i.size
 dels : ∀ g e, A.dels g = some e → ∃ i, DeleteOk P g i ∧ P.info? e = some i ∧ 0 < i.size
def cClone (P : Program) (A : Ann) (o : Oper) (io : IOp) : IOp :=
 match o.op with
 | .call c =>
   match c.callee with
   | .value (.func g) =>
     match A.clones g, c.args.toList, c.argTypes.toList with
     | some e, [x'], t :: _ =>
       match cX P t x' with
       | some x => if A.mu (o.dst.getD 0) then .clone g x e (P.cellsOf e) (P.bytesOf e) else .cloneV g x e (P.cellsOf e) (P.bytesOf e)
       | none => io
     | _, _, _ => io
   | _ => io
 | _ => io
theorem cClone_ok {P : Program} {A : Ann} (hA : ClonesOk P A) {o : Oper} {io : IOp} (h : OpOk P o.dst io o.op) : OpOk P o.dst (cClone P A o io) o.op := by
 unfold cClone
 split
 ·rename_i c hop
  split
  ·rename_i g hc
   split
   ·rename_i e x' t r hcl ha ht
    split
    ·rename_i x hx
     obtain ⟨i, h1, h2, h3⟩ := hA.clones g e hcl
     rw [hop, (info_cells h2).1, (info_cells h2).2]
     obtain ⟨callee, args, ts⟩ := c
     have hc : callee = .value (.func g) := hc
     subst hc
     obtain rfl : args = #[x'] := Array.ext' ha
     split
     ·exact .clone g e i x x' ts h1 h3 (cX_ok hx)
     ·exact .cloneV g e i x x' ts h1 h3 (cX_ok hx)
    ·exact h
   ·exact h
  ·exact h
 ·exact h
def cDel (P : Program) (A : Ann) (o : Oper) (io : IOp) : IOp :=
 match o.op with
 | .call c =>
   match c.callee with
   | .value (.func g) =>
     match A.dels g, c.args.toList with
     | some e, [x', y', z'] =>
       match cX P 0 x', cX P 0 y', cX P 0 z' with
       | some x, some y, some z => if A.mu (o.dst.getD 0) then .del g x y z (P.cellsOf e) else io
       | _, _, _ => io
     | _, _ => io
   | _ => io
 | _ => io
theorem cDel_ok {P : Program} {A : Ann} (hA : ClonesOk P A) {o : Oper} {io : IOp} (h : OpOk P o.dst io o.op) : OpOk P o.dst (cDel P A o io) o.op := by
 unfold cDel
 split
 ·rename_i c hop
  split
  ·rename_i g hc
   split
   ·rename_i e x' y' z' hcl ha
    split
    ·rename_i x y z hx hy hz
     split
     ·obtain ⟨i, h1, h2, h3⟩ := hA.dels g e hcl
      rw [hop, (info_cells h2).1]
      obtain ⟨callee, args, ts⟩ := c
      have hc : callee = .value (.func g) := hc
      subst hc
      obtain rfl : args = #[x', y', z'] := Array.ext' ha
      exact .del g i x y z x' y' z' ts h1 h3 (cX_ok hx) (cX_ok hy) (cX_ok hz)
     ·exact h
    ·exact h
   ·exact h
  ·exact h
 ·exact h
def cNat (P : Program) (A : Ann) (o : Oper) (io : IOp) : IOp :=
 match o.op with
 | .call c =>
   match c.callee with
   | .value (.func g) =>
     match A.nats g, c.args.toList with
     | some k, [x', y'] =>
       match cX P 0 x', cX P 0 y' with
       | some x, some y => .nat2 k x y
       | _, _ => io
     | _, _ => io
   | _ => io
 | _ => io
theorem cNat_ok {P : Program} {A : Ann} (hA : ClonesOk P A) {o : Oper} {io : IOp} (h : OpOk P o.dst io o.op) : OpOk P o.dst (cNat P A o io) o.op := by
 unfold cNat
 split
 ·rename_i c hop
  split
  ·rename_i g hc
   split
   ·rename_i k x' y' hcl ha
    split
    ·rename_i x y hx hy
     rw [hop]
     obtain ⟨callee, args, ts⟩ := c
     have hc : callee = .value (.func g) := hc
     subst hc
     obtain rfl : args = #[x', y'] := Array.ext' ha
     exact .nat2 g k x y x' y' ts (hA.nats g k hcl) (cX_ok hx) (cX_ok hy)
    ·exact h
   ·exact h
  ·exact h
 ·exact h
def cAdopt (A : Ann) (d : Option Nat) (io : IOp) : IOp :=
 match io with
 | .app x y e sz b => if A.mu (d.getD 0) then .appW x y e sz b else .app x y e sz b
 | .call p f args => if A.adopt (d.getD 0) then .callA f args else if A.hid (d.getD 0) then .callH f args else if A.snap (d.getD 0) then .callS f args else if A.imp (d.getD 0) then .call false f args else .call p f args
 | .mks e b z x => if A.mu (d.getD 0) then .mkW e b z x else .mks e b z x
 | .build z ps => if A.plain (d.getD 0) then .buildP z ps else .build z ps
 | .conv .b2s x => if A.strw (d.getD 0) then .strw x else .conv .b2s x
 | io => io
theorem cAdopt_ok {P : Program} {A : Ann} {d : Option Nat} {io : IOp} {op : Op} (h : OpOk P d io op) : OpOk P d (cAdopt A d io) op := by
 unfold cAdopt
 split
 ·rename_i x y e sz b
  split
  ·cases h with
   | app t _ i z _ _ x' y' ht hi hz hzs hsz hx hy => exact .appW t e i z x y x' y' ht hi hz hzs hsz hx hy
  ·exact h
 ·rename_i p f args
  split
  ·cases h with
   | call _ _ f' _ args' ts hf hx => exact .callA f f' args args' ts hf hx
  ·split
   ·cases h with
    | call _ _ f' _ args' ts hf hx => exact .callH f f' args args' ts hf hx
   ·split
    ·cases h with
     | call _ _ f' _ args' ts hf hx => exact .callS f f' args args' ts hf hx
    ·split
     ·cases h with
      | call _ _ f' _ args' ts hf hx => exact .call false f f' args args' ts hf hx
     ·exact h
 ·rename_i e b z x
  split
  ·cases h with
   | mks t _ i zz _ _ x' hu hz hby hx => exact .mkW t e i zz z x x' hu hz hby hx
  ·exact h
 ·rename_i z ps
  split
  ·cases h with
   | build t _ _ parts' place hz hb hp hd => exact .buildP t z ps parts' place hz hb hp hd
  ·exact h
 ·rename_i x
  split
  ·cases h with
   | convB src dst e ie _ x' hs he8 hd hx => exact .strw src dst e x x' hs he8 hd hx
  ·exact h
 ·exact h
def cOne (P : Program) (A : Ann) (tk : Bool) (all : List Oper) (o : Oper) : IOp :=
 match cOp P tk all o with
 | some io => cAdopt A o.dst (cNat P A o (cDel P A o (cClone P A o io)))
 | none => .fail
theorem cOne_ok {P : Program} {A : Ann} (hA : ClonesOk P A) {tk : Bool} {all : List Oper} {o : Oper} : OpOk P o.dst (cOne P A tk all o) o.op := by
 unfold cOne
 split
 ·rename_i io hio
  exact cAdopt_ok (cNat_ok hA (cDel_ok hA (cClone_ok hA (cOp_ok hio))))
 ·exact .fail _
def hintIO (g : Nat → H) (io : IOp) : H :=
 match io.addr with
 | some (.t t) => g t
 | _ => .any
def cOpers (P : Program) (A : Ann) (n : Nat) (g : Nat → H) (tk : Bool) (all : List Oper) : List Oper → Option (List IOper)
 | [] => some []
 | o :: r =>
   if o.dst.all (· < n) then
    match o.guard with
    | none => (cOpers P A n g tk all r).map (⟨cOne P A tk all o, o.dst, none, hintIO g (cOne P A tk all o)⟩ :: ·)
    | some (j, want) =>
      match (all[j]?).bind (·.dst) with
      | some gd => (cOpers P A n g tk all r).map (⟨cOne P A tk all o, o.dst, some (gd, want), hintIO g (cOne P A tk all o)⟩ :: ·)
      | none => none
   else none
theorem cOpers_ok {P : Program} {A : Ann} (hA : ClonesOk P A) {n : Nat} {g : Nat → H} {tk : Bool} {all : Array Oper} : ∀ {l : List Oper} {r : List IOper}, cOpers P A n g tk all.toList l = some r → r.length = l.length ∧ ∀ (i : Nat) o io, l[i]? = some o → r[i]? = some io → io.dst = o.dst ∧ OpOk P o.dst io.op o.op ∧ (∀ x, o.dst = some x → x < n) ∧
 ((o.guard = none ∧ io.guard = none) ∨ ∃ j want g, o.guard = some (j, want) ∧ (all[j]?).bind (·.dst) = some g ∧ io.guard = some (g, want))
 | [], r, h => by
   simp only [cOpers] at h
   injection h with h
   subst h
   exact ⟨rfl, fun i o io ho => by simp at ho⟩
 | o :: l, r, h => by
   simp only [cOpers] at h
   split at h
   ·rename_i hd
    have hd' : ∀ x, o.dst = some x → x < n := fun x hx => by rw [hx] at hd; simpa using hd
    split at h
    ·rename_i hg
     obtain ⟨r', h1, rfl⟩ := Option.map_eq_some_iff.1 h
     obtain ⟨q1, q2⟩ := cOpers_ok hA h1
     refine ⟨by simp [q1], fun i o' io' ho hio' => ?_⟩
     cases i with
     | zero => simp at ho hio'; subst ho hio'; exact ⟨rfl, cOne_ok hA, hd', .inl ⟨hg, rfl⟩⟩
     | succ i => exact q2 i o' io' (by simpa using ho) (by simpa using hio')
    ·rename_i j want hg
     split at h
     ·rename_i g hgg
      obtain ⟨r', h1, rfl⟩ := Option.map_eq_some_iff.1 h
      obtain ⟨q1, q2⟩ := cOpers_ok hA h1
      refine ⟨by simp [q1], fun i o' io' ho hio' => ?_⟩
      cases i with
      | zero => simp at ho hio'; subst ho hio'; exact ⟨rfl, cOne_ok hA, hd', .inr ⟨j, want, g, hg, by simpa using hgg, rfl⟩⟩
      | succ i => exact q2 i o' io' (by simpa using ho) (by simpa using hio')
     ·cases h
   ·cases h
def cReg (P : Program) (A : Ann) (n : Nat) (g : Nat → H) (ops : Array Oper) (draw : Bool) : Option (List IOper) :=
 if draw then
  match cOpers P A n g true ops.toList ops.toList with
  | some iops =>
    if drawOk ops iops then some iops else
     match cOpers P A n g false ops.toList ops.toList with
     | some iops => if drawOk ops iops then some iops else none
     | none => none
  | none => none
 else cOpers P A n (fun _ => .any) true ops.toList ops.toList
theorem cReg_ok {P : Program} {A : Ann} {n : Nat} {g : Nat → H} {ops : Array Oper} {draw : Bool} {iops : List IOper} (h : cReg P A n g ops draw = some iops) : ∃ g tk, cOpers P A n g tk ops.toList ops.toList = some iops ∧ (draw = true → drawOk ops iops = true) := by
 unfold cReg at h
 split at h
 ·split at h
  ·rename_i i1 h1
   split at h
   ·rename_i hd
    injection h with h; subst h
    exact ⟨_, _, h1, fun _ => hd⟩
   ·split at h
    ·rename_i i2 h2
     split at h
     ·rename_i hd
      injection h with h; subst h
      exact ⟨_, _, h2, fun _ => hd⟩
     ·cases h
    ·cases h
  ·cases h
 ·rename_i hd
  exact ⟨_, _, h, fun hd' => absurd hd' hd⟩
def firstReg : Code → Nat
 | .region id _ _ => id
 | .seq a _ => firstReg a
 | .block _ c => firstReg c
 | .loop c => firstReg c
 | .cond _ a _ => firstReg a
 | .scope c => firstReg c
 | _ => 0
def cCode (P : Program) (n : Nat) (g : Nat → H) (A : Ann) : Code → Option IC
 | .skip => some .skip
 | .ret => some (match A.rets with | some k => .retK k.1 k.2 | none => .ret)
 | .exit id => some (match A.exits id with | some k => .exitK id k.1 k.2 | none => .exit id)
 | .region _ ops draw =>
   match cReg P A n g ops draw with
   | some iops => some (.reg iops)
   | none => some deadReg
 | .seq a b =>
   match cCode P n g A a, cCode P n g A b with
   | some x, some y => some (.seq x y)
   | _, _ => none
 | .cond c a b =>
   match cX P 0 c, cCode P n g A a, cCode P n g A b with
   | some c, some x, some y => some (.cond c x y)
   | _, _, _ => none
 | .block id c => (cCode P n g A c).map (.blk id ·)
 | .loop c => (cCode P n g A c).map (.loop (A.loops (firstReg c)).1 (A.loops (firstReg c)).2 ·)
 | .label _ => some .skip
 | .scope c => cCode P n g A c
 | _ => some deadReg
theorem cCode_ok {P : Program} {n : Nat} {g : Nat → H} {A : Ann} (hA : ClonesOk P A) : ∀ {c : Code} {ic : IC}, cCode P n g A c = some ic → CodeOk P n ic c
 | .skip, ic, h => by simp only [cCode] at h; injection h with h; subst h; exact .skip
 | .ret, ic, h => by
   simp only [cCode] at h
   injection h with h
   subst h
   split
   ·exact .retK _ _
   ·exact .ret
 | .exit id, ic, h => by
   simp only [cCode] at h
   injection h with h
   subst h
   split
   ·exact .exitK _ _ _
   ·exact .exit id
 | .region id ops draw, ic, h => by
   simp only [cCode] at h
   split at h
   ·rename_i iops hi
    obtain ⟨g', tk, hi, hd⟩ := cReg_ok hi
    obtain ⟨q1, q2⟩ := cOpers_ok hA hi
    have hr : RegOk P n ops iops := ⟨by simpa using q1, fun i o io ho hio => q2 i o io (by simpa using ho) hio⟩
    injection h with h; subst h; exact .reg id ops iops draw hr fun hd' => drawOk_ok (hd hd')
   ·injection h with h; subst h; exact .dead _
 | .seq a b, ic, h => by
   simp only [cCode] at h
   split at h
   ·rename_i h1 h2
    injection h with h; subst h; exact .seq _ _ _ _ (cCode_ok hA h1) (cCode_ok hA h2)
   ·cases h
 | .cond c a b, ic, h => by
   simp only [cCode] at h
   split at h
   ·rename_i h0 h1 h2
    injection h with h; subst h; exact .cond _ _ _ _ _ _ (cX_ok h0) (cCode_ok hA h1) (cCode_ok hA h2)
   ·cases h
 | .block id c, ic, h => by
   simp only [cCode] at h
   obtain ⟨x, h1, rfl⟩ := Option.map_eq_some_iff.1 h
   exact .blk _ _ _ (cCode_ok hA h1)
 | .loop c, ic, h => by
   simp only [cCode] at h
   obtain ⟨x, h1, rfl⟩ := Option.map_eq_some_iff.1 h
   exact .loop _ _ _ _ (cCode_ok hA h1)
 | .rangeFunc _ _ _ _, ic, h => by simp only [cCode] at h; injection h with h; subst h; exact .dead _
 | .scope c, ic, h => by simp only [cCode] at h; exact .scope _ _ (cCode_ok hA h)
 | .label l, ic, h => by simp only [cCode] at h; injection h with h; subst h; exact .label _
 | .goto _, ic, h => by simp only [cCode] at h; injection h with h; subst h; exact .dead _
 | .refuse _, ic, h => by simp only [cCode] at h; injection h with h; subst h; exact .dead _
def cRes (P : Program) : List ResultVar → Option (List RV)
 | [] => some []
 | .tmp t :: r => (cRes P r).map (.tmp t :: ·)
 | .cell t ty :: r => if known P ty then (cRes P r).map (.cell t (aggOf P ty) :: ·) else none
theorem cRes_ok {P : Program} : ∀ {l : List ResultVar} {r : List RV}, cRes P l = some r → r.length = l.length ∧ ∀ (i : Nat) rv x, r[i]? = some rv → l[i]? = some x → ResOk P rv x
 | [], r, h => by
   simp only [cRes] at h
   injection h with h
   subst h
   exact ⟨rfl, fun i rv x hx => by simp at hx⟩
 | .tmp t :: l, r, h => by
   simp only [cRes] at h
   obtain ⟨r', h1, rfl⟩ := Option.map_eq_some_iff.1 h
   obtain ⟨q1, q2⟩ := cRes_ok h1
   refine ⟨by simp [q1], fun i rv x hr hx => ?_⟩
   cases i with
   | zero => simp at hr hx; subst hr hx; rfl
   | succ i => exact q2 i rv x (by simpa using hr) (by simpa using hx)
 | .cell t ty :: l, r, h => by
   simp only [cRes] at h
   split at h
   ·rename_i hk
    obtain ⟨r', h1, rfl⟩ := Option.map_eq_some_iff.1 h
    obtain ⟨q1, q2⟩ := cRes_ok h1
    refine ⟨by simp [q1], fun i rv x hr hx => ?_⟩
    cases i with
    | zero => simp at hr hx; subst hr hx; exact ⟨rfl, (known_ok hk).1⟩
    | succ i => exact q2 i rv x (by simpa using hr) (by simpa using hx)
   ·cases h
def cFunc (P : Program) (A : Ann) (fn : Func) : Option IFunc :=
 match fn.body with
 | some c =>
   match cCode P fn.ntmps (fun t => (A.hint t).getD (hintAt (codeMks P c) (fn.params.size + fn.nfree) 8 t)) A c, cRes P fn.results.toList with
   | some ic, some rs => if (fn.name == "runtime.NumGoroutine") = false ∧ fn.params.size + fn.nfree ≤ fn.ntmps then some ⟨fn.ntmps, fn.params.size + fn.nfree, rs, ic⟩ else none
   | _, _ => none
 | none => none
theorem cFunc_ok {P : Program} {A : Ann} (hA : ClonesOk P A) {f : FuncId} {fn : Func} {F : IFunc} (hf : P.funcs[f]? = some fn) (h : cFunc P A fn = some F) : FuncOk P f F := by
 unfold cFunc at h
 split at h
 ·rename_i c hb
  split at h
  ·rename_i ic rs h1 h2
   split at h
   ·rename_i hc
    injection h with h
    subst h
    obtain ⟨q1, q2⟩ := cRes_ok h2
    exact ⟨fn, c, hf, hb, hc.1, rfl, hc.2, cCode_ok hA h1, by simpa using q1, fun i rv r hr hx => q2 i rv r hr (by simpa using hx)⟩
   ·cases h
  ·cases h
 ·cases h
end Go.Ev
