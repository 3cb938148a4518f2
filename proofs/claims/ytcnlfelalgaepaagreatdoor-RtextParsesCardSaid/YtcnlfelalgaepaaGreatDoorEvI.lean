/- The code of a program's functions turned into the evaluator's language. Condition: none. -/
import Derived.Test.YtcnlfelalgaepaaGreatDoorEvH
namespace Go.Ev
set_option linter.all false
open Go.RowKit
def constAV (P : Program) (ty : TypeId) : Value → Option AV
 | .bool b => some (.bool b)
 | .int k n => some (.int k n)
 | .string b => some (.str b)
 | .pointer none => some .nilp
 | .nilIface => some (.ifc false)
 | .slice none 0 0 =>
   match P.underlying ty with
   | some (.slice e) => some (.sl (some e) (P.cellsOf e) [])
   | _ => none
 | _ => none
def cX (P : Program) (ty : TypeId) : Operand → Option X
 | .tmp t => some (.t t)
 | .const v => (constAV P ty v).map .c
 | .func f => some (.c (.fn f []))
 | .global g => some (.c (.glob g 0))
def cXs (P : Program) : List Operand → List TypeId → Option (List X)
 | [], _ => some []
 | o :: os, ts =>
   match cX P (ts.headD 0) o with
   | some x => (cXs P os ts.tail).map (x :: ·)
   | none => none
def zcells (P : Program) : Nat → TypeId → Option (List AV)
 | 0, _ => none
 | d + 1, t =>
   match P.underlying t with
   | some .bool => some [.bool false]
   | some (.int k) => some [.int k 0]
   | some .string => some [.str .empty]
   | some (.pointer _) => some [.nilp]
   | some (.slice e) => some [.sl (some e) (P.cellsOf e) []]
   | some (.struct fs) => (fs.toList.mapM fun f => zcells P d f.type).map List.flatten
   | some (.array n e) => (zcells P d e).map fun c => (List.replicate n c).flatten
   | some (.interface _) => some [.ifc false]
   | some (.map _ _) | some (.func _ _ _) | some (.chan _ _) => some [.undef]
   | _ => none
def zm1 : AV → Value → Bool
 | .bool b, .bool c => b == c
 | .int k n, .int k' n' => k == k' && n == n'
 | .str s, .string s' => s.data.toList == s'.data.toList
 | .nilp, .pointer none => true
 | .sl (some _) _ [], .slice none 0 0 => true
 | .ifc false, .nilIface => true
 | .undef, .map none | .undef, .nilFunc | .undef, .chan none => true
 | _, _ => false
def zmatch : List AV → List Value → Bool
 | [], [] => true
 | c :: cs, v :: vs => zm1 c v && zmatch cs vs
 | _, _ => false
def czero (P : Program) (t : TypeId) : Option (List AV) :=
 match P.info? t with
 | some i =>
   match i.zero, zcells P 12 t with
   | some z, some cs => if zmatch cs z.cells.toList then some cs else none
   | _, _ => none
 | none => none
def cdata : AV → AV
 | .sl _ z r => .sl none z r
 | v => v
def czrow (P : Program) (e : TypeId) : Option (List AV) := (czero P e).bind fun cs => if (cs.map cdata).all AV.isData ∧ 0 < cs.length ∧ cs.length = P.cellsOf e then some (cs.map cdata) else none
theorem constAV_ok {P : Program} {ty : TypeId} {v : Value} {av : AV} (h : constAV P ty v = some av) : OpdOk (.c av) (.const v) := by
 intro a w φ W lv pos
 show TmOk w φ W lv pos av v
 unfold constAV at h
 split at h
 ·injection h with h; subst h; exact ⟨.bool _, rfl, .of_noFlag (bool_noFlag _)⟩
 ·injection h with h; subst h; exact ⟨.int .., rfl, .of_noFlag (int_noFlag _ _)⟩
 ·injection h with h; subst h; exact ⟨.str _, rfl, .of_noFlag (str_noFlag _)⟩
 ·injection h with h; subst h; exact ⟨.nilp, rfl, .of_noFlag (one_noFlag rfl (fun _ _ _ h => by cases h))⟩
 ·injection h with h; subst h; exact ⟨.ifcN, rfl, .of_noFlag (one_noFlag rfl (fun _ _ _ h => by cases h))⟩
 ·split at h
  ·injection h with h
   subst h
   refine ⟨.slE .., rfl, fun i j e sz rows cv hp hc => ?_⟩
   simp only [AV.part, AV.part1] at hp
   split at hp
   ·split at hp
    ·rename_i h1 h2
     subst h1 h2
     injection hp with hp
     injection hp with q1 q2 q3
     injection q1 with q1
     subst q1 q2 q3
     have : cv = .slice none 0 0 := by simpa [Value.part, Value.part1] using hc.symm
     subst this
     exact ⟨[], World.ownsRow_nil w 0 _ _, fun g hg => by simp [Value.ownBlock] at hg⟩
    ·cases hp
   ·cases hp
  ·cases h
 ·cases h
theorem cX_ok {P : Program} {ty : TypeId} {o : Operand} {x : X} (h : cX P ty o = some x) : OpdOk x o := by
 cases o with
 | tmp t => simp only [cX] at h; injection h with h; subst h; rfl
 | const v =>
   simp only [cX] at h
   obtain ⟨av, h1, rfl⟩ := Option.map_eq_some_iff.1 h
   exact constAV_ok h1
 | func f =>
   simp only [cX] at h
   injection h with h
   subst h
   intro a w φ W lv pos
   exact ⟨.fn f [] #[] rfl (fun i c v hc => by simp at hc), rfl, .of_noFlag (one_noFlag rfl (fun _ _ _ h => by cases h))⟩
 | global g =>
   simp only [cX] at h
   injection h with h
   subst h
   intro a w φ W lv pos
   exact ⟨.glob g 0, rfl, .of_noFlag (one_noFlag rfl (fun _ _ _ h => by cases h))⟩
theorem cXs_ok {P : Program} : ∀ {os : List Operand} {ts : List TypeId} {xs : List X}, cXs P os ts = some xs → OpdsOk xs os
 | [], ts, xs, h => by
   simp only [cXs] at h
   injection h with h
   subst h
   exact ⟨rfl, fun i x o hx => by simp at hx⟩
 | o :: os, ts, xs, h => by
   simp only [cXs] at h
   split at h
   ·rename_i x hx
    obtain ⟨xs', h1, rfl⟩ := Option.map_eq_some_iff.1 h
    obtain ⟨q1, q2⟩ := cXs_ok h1
    refine ⟨by simp [q1], fun i x' o' hx' ho' => ?_⟩
    cases i with
    | zero => simp at hx' ho'; subst hx' ho'; exact cX_ok hx
    | succ i => exact q2 i x' o' (by simpa using hx') (by simpa using ho')
   ·cases h
theorem zm1_ok {c : AV} {v : Value} (h : zm1 c v = true) : CC c v := by
 unfold zm1 at h
 split at h
 ·simp at h; subst h; exact ⟨rfl, rfl, fun _ => rfl, fun _ _ _ => .bool _, fun _ _ _ _ _ _ h => by cases h⟩
 ·simp at h; obtain ⟨rfl, rfl⟩ := h; exact ⟨rfl, rfl, fun _ => rfl, fun _ _ _ => .int .., fun _ _ _ _ _ _ h => by cases h⟩
 ·rename_i s s'
  have : s = s' := by
   apply ByteArray.ext
   apply Array.ext'
   simpa using h
  subst this
  exact ⟨rfl, rfl, fun _ => rfl, fun _ _ _ => .str _, fun _ _ _ _ _ _ h => by cases h⟩
 ·exact ⟨rfl, rfl, fun _ => rfl, fun _ _ _ => .nilp, fun _ _ _ _ _ _ h => by cases h⟩
 ·refine ⟨rfl, rfl, fun _ => rfl, fun _ _ _ => .slE .., fun w W p e sz rows he => ?_⟩
  injection he with q1 q2 q3
  subst q2 q3
  exact ⟨[], World.ownsRow_nil w 0 _ _, fun g hg => by simp [Value.ownBlock] at hg⟩
 ·exact ⟨rfl, rfl, fun _ => rfl, fun _ _ _ => .ifcN, fun _ _ _ _ _ _ h => by cases h⟩
 all_goals first
  | exact ⟨rfl, rfl, fun _ => rfl, fun _ _ _ => .undef _, fun _ _ _ _ _ _ h => by cases h⟩
  | cases h
theorem zmatch_ok : ∀ {cs : List AV} {vs : List Value}, zmatch cs vs = true → vs.length = cs.length ∧ ∀ (j : Nat) c v, cs[j]? = some c → vs[j]? = some v → CC c v
 | [], [], _ => ⟨rfl, fun j c v hc => by simp at hc⟩
 | [], _ :: _, h => by simp [zmatch] at h
 | _ :: _, [], h => by simp [zmatch] at h
 | c :: cs, v :: vs, h => by
   simp only [zmatch, Bool.and_eq_true] at h
   obtain ⟨h1, h2⟩ := h
   obtain ⟨q1, q2⟩ := zmatch_ok h2
   refine ⟨by simp [q1], fun j c' v' hc hv => ?_⟩
   cases j with
   | zero => simp at hc hv; subst hc hv; exact zm1_ok h1
   | succ j => exact q2 j c' v' (by simpa using hc) (by simpa using hv)
theorem czero_ok {P : Program} {t : TypeId} {cs : List AV} (h : czero P t = some cs) : ZeroOk P t cs := by
 unfold czero at h
 split at h
 ·rename_i i hi
  split at h
  ·rename_i z cs' hz hc
   split at h
   ·rename_i hm
    injection h with h
    subst h
    obtain ⟨q1, q2⟩ := zmatch_ok hm
    exact ⟨i, z, hi, hz, by simpa using q1, fun j c v hc hv => q2 j c v hc (by simpa using hv)⟩
   ·cases h
  ·cases h
 ·cases h
theorem CC.data {c : AV} {v : Value} (h : CC c v) (hd : (cdata c).isData = true) : CC (cdata c) v := by
 cases c <;> simp_all [cdata]
 exact ⟨rfl, h.cell, fun _ => rfl, fun w φ W => (h.rel w φ W).noOwn1, fun _ _ _ _ _ _ he => by cases he⟩
theorem czrow_ok {P : Program} {e : TypeId} {zero : List AV} (h : czrow P e = some zero) : ∃ i z, ZRow P e i z zero ∧ P.cellsOf e = i.size := by
 unfold czrow at h
 obtain ⟨cs, h1, h⟩ := Option.bind_eq_some_iff.1 h
 split at h
 ·rename_i hc
  obtain ⟨hd, hp, hl⟩ := hc
  injection h with h
  subst h
  obtain ⟨i, z, hi, hz, hs, hcc⟩ := czero_ok h1
  have hce : P.cellsOf e = i.size := by simp [Program.cellsOf, hi]
  have hd' : ∀ c ∈ cs.map cdata, c.isData = true := fun c hc => List.all_eq_true.1 hd c hc
  refine ⟨i, z, ⟨hi, hz, by omega, by omega, by simp; omega, hd', fun j c v hc hv => ?_⟩, hce⟩
  rw [List.getElem?_map] at hc
  obtain ⟨c', hc', rfl⟩ := Option.map_eq_some_iff.1 hc
  exact (hcc j c' v hc' hv).data (hd' _ (List.mem_map.2 ⟨c', List.mem_of_getElem? hc', rfl⟩))
 ·cases h
end Go.Ev
