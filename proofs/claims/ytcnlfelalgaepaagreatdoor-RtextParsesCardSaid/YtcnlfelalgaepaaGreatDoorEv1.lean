/- What the evaluator's values say of a world, and how that outlives a step. Condition: none. -/
import Derived.Test.YtcnlfelalgaepaaGreatDoorEv0
import Derived.Laws.OwnMore
import Derived.OwnWalk
namespace Go.Ev
set_option linter.all false
open Go.RowKit
inductive Pos where
 | tmp (t i j : Nat)
 | box (l s j : Nat)
 deriving DecidableEq
inductive Own where
 | free
 | lim (t : Nat)
 | row (p : Pos) (t : Nat)
 | box (l s : Nat)
def Own.quiet : Own → Prop
 | .free | .lim _ => True
 | _ => False
def stC (W : Nat → Own) (b o : Nat) : Prop :=
 match W b with
 | .free => True
 | .lim t => o < t
 | .row _ t => o < t
 | .box _ _ => False
abbrev Blk := Nat × Nat
inductive VRel (w : World) (φ : Nat → Nat → Option Blk) (W : Nat → Own) : AV → Value → Prop
 | undef (v : Value) : VRel w φ W .undef v
 | bool (b : Bool) : VRel w φ W (.bool b) (.bool b)
 | ub (b : Bool) : VRel w φ W .ub (.bool b)
 | int (k : IntKind) (n : Int) : VRel w φ W (.int k n) (.int k n)
 | str (s : ByteArray) : VRel w φ W (.str s) (.string s)
 | nilp : VRel w φ W .nilp (.pointer none)
 | glob (g o : Nat) : VRel w φ W (.glob g o) (.pointer (some ⟨g, o, none⟩))
 | ifcN : VRel w φ W (.ifc false) .nilIface
 | ifc (t : TypeId) (v : Value) : VRel w φ W (.ifc true) (.iface t v)
 | ptr (l s o : Nat) (b : Blk) (h : φ l s = some b) : VRel w φ W (.ptr l s o) (.pointer (some ⟨b.1, o, none⟩))
 | win (l s o n sz cap : Nat) (b : Blk) (h : φ l s = some b) (hn : 0 < n) (hcap : n ≤ cap) (hm : cap ≤ maxLen) (hk : 0 < sz ∧ (o = 0 → b.2 = cap * sz)) : VRel w φ W (.win l s o n sz) (.slice (some ⟨b.1, o, none⟩) n cap)
 | asl (l s o n sz cap : Nat) (b : Blk) (h : φ l s = some b) (hn : 0 < n) (hcap : n ≤ cap) (hm : cap ≤ maxLen) (hk : 0 < sz) : VRel w φ W (.asl l s o n sz) (.slice (some ⟨b.1, o, none⟩) n cap)
 | row (cs : List AV) (b o : Nat) (f : Nat → Value) (hd : ∀ c ∈ cs, c.isData = true) (hc : ∀ k, k < cs.length → stC W b (o + k) ∧ w.cell? ⟨b, o + k, none⟩ = some (f k))
    (hv : ∀ k c, cs[k]? = some c → VRel w φ W c (f k)) : VRel w φ W (.row cs) (.pointer (some ⟨b, o, none⟩))
 | slE (own : Option TypeId) (sz : Nat) (a : Option Addr) (cap : Nat) : VRel w φ W (.sl own sz []) (.slice a 0 cap)
 | sl (own : Option TypeId) (sz : Nat) (rows : List (List AV)) (b o cap : Nat) (f : Nat → Value) (hn : 0 < rows.length) (hcap : rows.length ≤ cap) (hm : cap ≤ maxLen) (hz : ∀ r ∈ rows, r.length = sz) (hp : 0 < sz)
    (hd : ∀ r ∈ rows, ∀ c ∈ r, c.isData = true) (hc : ∀ k, k < rows.length * sz → stC W b (o + k) ∧ w.cell? ⟨b, o + k, none⟩ = some (f k))
    (hv : ∀ (i j : Nat) (r : List AV) c, rows[i]? = some r → r[j]? = some c → VRel w φ W c (f (i * sz + j))) : VRel w φ W (.sl own sz rows) (.slice (some ⟨b, o, none⟩) rows.length cap)
 | agg (cs : List AV) (vs : Array Value) (hl : vs.size = cs.length) (h1 : ∀ c ∈ cs, c.one = true) (h2 : ∀ v ∈ vs, v.oneCell' = true)
    (hv : ∀ (i : Nat) c v, cs[i]? = some c → vs[i]? = some v → VRel w φ W c v) : VRel w φ W (.agg cs) (.agg vs)
 | tup (cs : List AV) (vs : Array Value) (hl : vs.size = cs.length) (hv : ∀ (i : Nat) c v, cs[i]? = some c → vs[i]? = some v → VRel w φ W c v) : VRel w φ W (.tup cs) (.tuple vs)
 | fn (f : FuncId) (cs : List AV) (vs : Array Value) (hl : vs.size = cs.length) (hv : ∀ (i : Nat) c v, cs[i]? = some c → vs[i]? = some v → VRel w φ W c v) : VRel w φ W (.fn f cs) (.func (.func f) #[] vs)
theorem okPs_iff (p : Nat → Nat → Bool) (cs : List AV) : okPs p cs = true ↔ ∀ c ∈ cs, c.okP p = true := by
 induction cs with
 | nil => simp [okPs]
 | cons c r ih => simp [okPs, ih]
theorem okP_data (p : Nat → Nat → Bool) {c : AV} (h : c.isData = true) : c.okP p = true := by
 cases c <;> simp_all [AV.isData, AV.okP]
theorem VRel.move {w w' : World} {φ φ' : Nat → Nat → Option Blk} {W W' : Nat → Own} (p : Nat → Nat → Bool) (hφ : ∀ l s b, p l s = true → φ l s = some b → φ' l s = some b)
 (hst : ∀ b o v, stC W b o → w.cell? ⟨b, o, none⟩ = some v → stC W' b o ∧ w'.cell? ⟨b, o, none⟩ = some v) {av : AV} {v : Value} (h : VRel w φ W av v) : av.okP p = true → VRel w' φ' W' av v := by
 induction h with
 | undef v => exact fun _ => .undef v
 | bool b => exact fun _ => .bool b
 | ub b => exact fun _ => .ub b
 | int k n => exact fun _ => .int k n
 | str s => exact fun _ => .str s
 | nilp => exact fun _ => .nilp
 | glob g o => exact fun _ => .glob g o
 | ifcN => exact fun _ => .ifcN
 | ifc t v => exact fun _ => .ifc t v
 | ptr l s o b h => exact fun hp => .ptr l s o b (hφ l s b hp h)
 | win l s o n sz cap b h hn hcap hm hk => exact fun hp => .win l s o n sz cap b (hφ l s b hp h) hn hcap hm hk
 | asl l s o n sz cap b h hn hcap hm hk => exact fun hp => .asl l s o n sz cap b (hφ l s b hp h) hn hcap hm hk
 | row cs b o f hd hc hv ih =>
   exact fun _ => .row cs b o f hd (fun k hk => hst _ _ _ (hc k hk).1 (hc k hk).2) (fun k c hk => ih k c hk (okP_data p (hd c (List.mem_of_getElem? hk))))
 | slE own sz a cap => exact fun _ => .slE own sz a cap
 | sl own sz rows b o cap f hn hcap hm hz hp hd hc hv ih =>
   exact fun _ => .sl own sz rows b o cap f hn hcap hm hz hp hd (fun k hk => hst _ _ _ (hc k hk).1 (hc k hk).2)
    (fun i j r c hr hj => ih i j r c hr hj (okP_data p (hd r (List.mem_of_getElem? hr) c (List.mem_of_getElem? hj))))
 | agg cs vs hl h1 h2 hv ih =>
   exact fun hp => .agg cs vs hl h1 h2 fun i c v hc hv' => ih i c v hc hv' ((okPs_iff p cs).1 (by simpa [AV.okP] using hp) c (List.mem_of_getElem? hc))
 | tup cs vs hl hv ih =>
   exact fun hp => .tup cs vs hl fun i c v hc hv' => ih i c v hc hv' ((okPs_iff p cs).1 (by simpa [AV.okP] using hp) c (List.mem_of_getElem? hc))
 | fn f cs vs hl hv ih =>
   exact fun hp => .fn f cs vs hl fun i c v hc hv' => ih i c v hc hv' ((okPs_iff p cs).1 (by simpa [AV.okP] using hp) c (List.mem_of_getElem? hc))
mutual
theorem okP_mono {p q : Nat → Nat → Bool} (h : ∀ l s, p l s = true → q l s = true) : ∀ (v : AV), v.okP p = true → v.okP q = true
 | .ptr l s o, hv => h l s hv
 | .win l s _ _ _, hv => h l s hv
 | .asl l s _ _ _, hv => h l s hv
 | .agg cs, hv => okPs_mono h cs hv
 | .tup cs, hv => okPs_mono h cs hv
 | .fn f cs, hv => okPs_mono h cs hv
 | .undef, _ | .ub, _ | .glob _ _, _ | .ifc _, _ | .bool _, _ | .int _ _, _ | .str _, _ | .nilp, _ | .row _, _ | .sl _ _ _, _ => rfl
theorem okPs_mono {p q : Nat → Nat → Bool} (h : ∀ l s, p l s = true → q l s = true) : ∀ (cs : List AV), okPs p cs = true → okPs q cs = true
 | [], _ => rfl
 | c :: r, hv => by
   simp only [okPs, Bool.and_eq_true] at hv ⊢
   exact ⟨okP_mono h c hv.1, okPs_mono h r hv.2⟩
end
mutual
theorem okP_true : ∀ (v : AV), v.okP (fun _ _ => true) = true
 | .ptr l s o => rfl
 | .win _ _ _ _ _ => rfl
 | .asl _ _ _ _ _ => rfl
 | .ub => rfl
 | .glob _ _ => rfl
 | .ifc _ => rfl
 | .agg cs => okPs_true cs
 | .tup cs => okPs_true cs
 | .fn f cs => okPs_true cs
 | .undef | .bool _ | .int _ _ | .str _ | .nilp | .row _ | .sl _ _ _ => rfl
theorem okPs_true : ∀ (cs : List AV), okPs (fun _ _ => true) cs = true
 | [] => rfl
 | c :: r => by simp [okPs, okP_true c, okPs_true r]
end
theorem VRel.mono {w w' : World} {φ φ' : Nat → Nat → Option Blk} {W W' : Nat → Own} {av : AV} {v : Value} (h : VRel w φ W av v) (hφ : ∀ l s b, φ l s = some b → φ' l s = some b)
 (hst : ∀ b o v, stC W b o → w.cell? ⟨b, o, none⟩ = some v → stC W' b o ∧ w'.cell? ⟨b, o, none⟩ = some v) : VRel w' φ' W' av v :=
 h.move (fun _ _ => true) (fun l s b _ => hφ l s b) hst (okP_true av)
theorem VRel.noOwn1 {w : World} {φ : Nat → Nat → Option Blk} {W : Nat → Own} {av : AV} {v : Value} (h : VRel w φ W av v) : VRel w φ W av.noOwn1 v := by
 cases h with
 | slE own sz a cap => exact .slE none sz a cap
 | sl own sz rows b o cap f hn hcap hm hz hp hd hc hv => exact .sl none sz rows b o cap f hn hcap hm hz hp hd hc hv
 | undef v => exact .undef v
 | bool b => exact .bool b
 | ub b => exact .ub b
 | int k n => exact .int k n
 | str s => exact .str s
 | nilp => exact .nilp
 | glob g o => exact .glob g o
 | ifcN => exact .ifcN
 | ifc t v => exact .ifc t v
 | ptr l s o b h => exact .ptr l s o b h
 | win l s o n sz cap b h hn hcap hm hk => exact .win l s o n sz cap b h hn hcap hm hk
 | asl l s o n sz cap b h hn hcap hm hk => exact .asl l s o n sz cap b h hn hcap hm hk
 | row cs b o f hd hc hv => exact .row cs b o f hd hc hv
 | agg cs vs hl h1 h2 hv => exact .agg cs vs hl h1 h2 hv
 | tup cs vs hl hv => exact .tup cs vs hl hv
 | fn f cs vs hl hv => exact .fn f cs vs hl hv
theorem noOwn1_one (c : AV) : c.noOwn1.one = c.one := by cases c <;> rfl
theorem VRel.noOwnA {w : World} {φ : Nat → Nat → Option Blk} {W : Nat → Own} {av : AV} {v : Value} (h : VRel w φ W av v) : VRel w φ W av.noOwnA v := by
 cases h with
 | agg cs vs hl h1 h2 hv =>
   refine .agg _ vs (by simpa using hl) (fun c hc => ?_) h2 (fun i c v hc hv' => ?_)
   ·obtain ⟨c', hm, rfl⟩ := List.mem_map.1 hc
    rw [noOwn1_one]; exact h1 c' hm
   ·rw [List.getElem?_map] at hc
    obtain ⟨c', hc', rfl⟩ := Option.map_eq_some_iff.1 hc
    exact (hv i c' v hc' hv').noOwn1
 | slE own sz a cap => exact .slE none sz a cap
 | sl own sz rows b o cap f hn hcap hm hz hp hd hc hv => exact .sl none sz rows b o cap f hn hcap hm hz hp hd hc hv
 | undef v => exact .undef v
 | bool b => exact .bool b
 | ub b => exact .ub b
 | int k n => exact .int k n
 | str s => exact .str s
 | nilp => exact .nilp
 | glob g o => exact .glob g o
 | ifcN => exact .ifcN
 | ifc t v => exact .ifc t v
 | ptr l s o b h => exact .ptr l s o b h
 | win l s o n sz cap b h hn hcap hm hk => exact .win l s o n sz cap b h hn hcap hm hk
 | asl l s o n sz cap b h hn hcap hm hk => exact .asl l s o n sz cap b h hn hcap hm hk
 | row cs b o f hd hc hv => exact .row cs b o f hd hc hv
 | tup cs vs hl hv => exact .tup cs vs hl hv
 | fn f cs vs hl hv => exact .fn f cs vs hl hv
theorem VRel.noOwn {w : World} {φ : Nat → Nat → Option Blk} {W : Nat → Own} {av : AV} {v : Value} (h : VRel w φ W av v) : VRel w φ W av.noOwn v := by
 cases av with
 | tup cs =>
   cases h with
   | tup _ vs hl hv =>
     refine .tup _ vs (by simpa using hl) (fun i c v hc hv' => ?_)
     rw [List.getElem?_map] at hc
     obtain ⟨c', hc', rfl⟩ := Option.map_eq_some_iff.1 hc
     exact (hv i c' v hc' hv').noOwnA
 | _ => exact h.noOwnA
theorem okP_noOwn1 (p : Nat → Nat → Bool) (c : AV) : c.noOwn1.okP p = c.okP p := by cases c <;> simp [AV.noOwn1, AV.okP]
theorem okPs_map_noOwn1 (p : Nat → Nat → Bool) (cs : List AV) : okPs p (cs.map AV.noOwn1) = okPs p cs := by
 induction cs with
 | nil => rfl
 | cons c r ih => simp [okPs, okP_noOwn1, ih]
theorem okP_noOwnA (p : Nat → Nat → Bool) (c : AV) : c.noOwnA.okP p = c.okP p := by
 cases c <;> simp [AV.noOwnA, AV.okP, okP_noOwn1, okPs_map_noOwn1] <;> rfl
theorem okPs_map_noOwnA (p : Nat → Nat → Bool) (cs : List AV) : okPs p (cs.map AV.noOwnA) = okPs p cs := by
 induction cs with
 | nil => rfl
 | cons c r ih => simp [okPs, okP_noOwnA, ih]
theorem okP_noOwn (p : Nat → Nat → Bool) (c : AV) : c.noOwn.okP p = c.okP p := by
 cases c <;> simp [AV.noOwn, AV.okP, okP_noOwnA, okPs_map_noOwnA] <;> rfl
def AV.part1 (c : AV) (j : Nat) : Option AV :=
 match c with
 | .agg cs => cs[j]?
 | v => if j = 0 then some v else none
def AV.part (c : AV) (i j : Nat) : Option AV :=
 match c with
 | .tup vs => (vs[i]?).bind (·.part1 j)
 | v => if i = 0 then v.part1 j else none
def _root_.Go.Value.part1 (c : Value) (j : Nat) : Option Value :=
 match c with
 | .agg cs => cs[j]?
 | v => if j = 0 then some v else none
def _root_.Go.Value.part (c : Value) (i j : Nat) : Option Value :=
 match c with
 | .tuple vs => (vs[i]?).bind (·.part1 j)
 | v => if i = 0 then v.part1 j else none
def OwnOk (w : World) (W : Nat → Own) (p : Pos) (e : TypeId) (sz : Nat) (rows : List (List AV)) (cv : Value) : Prop :=
 ∃ xs, w.ownsRow 0 e sz cv rows.length xs ∧ ∀ g, cv.ownBlock = some g → W g = .row p (rows.length * sz)
def OwnAt (w : World) (W : Nat → Own) (pos : Nat → Nat → Pos) (av : AV) (v : Value) : Prop :=
 ∀ i j e sz rows cv, av.part i j = some (.sl (some e) sz rows) → v.part i j = some cv → OwnOk w W (pos i j) e sz rows cv
def AV.noFlag (av : AV) : Prop := ∀ i j e sz rows, av.part i j ≠ some (.sl (some e) sz rows)
theorem noOwn1_flag (c : AV) (e : TypeId) (sz : Nat) (rows : List (List AV)) : c.noOwn1 ≠ .sl (some e) sz rows := by
 cases c <;> simp [AV.noOwn1]
theorem noOwnA_part1 (c : AV) (j : Nat) (e : TypeId) (sz : Nat) (rows : List (List AV)) : c.noOwnA.part1 j ≠ some (.sl (some e) sz rows) := by
 cases c <;> simp [AV.noOwnA, AV.part1, AV.noOwn1]
 rename_i cs
 intro x _ h
 exact noOwn1_flag x e sz rows h
theorem noOwn_noFlag (c : AV) : c.noOwn.noFlag := by
 intro i j e sz rows
 cases c with
 | tup vs =>
   simp only [AV.noOwn, AV.part, List.getElem?_map]
   cases vs[i]? with
   | none => simp
   | some v => exact noOwnA_part1 v j e sz rows
 | agg cs =>
   have := noOwnA_part1 (.agg cs) j e sz rows
   simp only [AV.noOwn, AV.noOwnA, AV.part]
   simp only [AV.noOwnA] at this
   split
   ·exact this
   ·simp
 | _ => simp [AV.noOwn, AV.noOwnA, AV.noOwn1, AV.part, AV.part1]
structure GlobOk (w : World) (W : Nat → Own) : Prop where
 cell : ∀ g o av, glob g o = some av → ∃ v, w.cell? ⟨g, o, none⟩ = some v ∧ stC W g o ∧ VRel w (fun _ _ => none) W av v ∧ v.oneCell' = true ∧ av.isData = true
 size : ∀ g n, globN g = some n → (W g).quiet ∧ ∃ cs t fz, w.heap[g]? = some (.cells cs t fz) ∧ cs.size = n
 ints : ∀ g, globI g = true → ∃ m, w.cell? ⟨g, 0, none⟩ = some (.int .i64 m) ∧ stC W g 0
theorem isData_one {c : AV} (h : c.isData = true) : c.one = true := by
 cases c <;> simp_all [AV.isData, AV.one]
theorem GlobOk.same {w : World} {W W' : Nat → Own} (h : GlobOk w W) (hst : ∀ b o, stC W b o → stC W' b o) (hq : ∀ b, (W b).quiet → (W' b).quiet) : GlobOk w W' where
 cell g o av hg := by
  obtain ⟨v, h1, h2, h3, h4, h5⟩ := h.cell g o av hg
  exact ⟨v, h1, hst _ _ h2, h3.mono (fun _ _ _ h => h) (fun b o v hs hc => ⟨hst _ _ hs, hc⟩), h4, h5⟩
 size g n hg := ⟨hq g (h.size g n hg).1, (h.size g n hg).2⟩
 ints g hg := by
  obtain ⟨m, h1, h2⟩ := h.ints g hg
  exact ⟨m, h1, hst _ _ h2⟩
theorem OwnAt.of_noFlag {w : World} {W : Nat → Own} {pos : Nat → Nat → Pos} {av : AV} {v : Value} (h : av.noFlag) : OwnAt w W pos av v :=
 fun i j e sz rows _ hp => absurd hp (h i j e sz rows)
end Go.Ev
