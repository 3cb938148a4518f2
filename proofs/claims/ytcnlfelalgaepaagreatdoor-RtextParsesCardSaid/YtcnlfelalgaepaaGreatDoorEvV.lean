/- Pure calls to which windows are handed as lists. Condition: none. -/
import Derived.Test.YtcnlfelalgaepaaGreatDoorEvP
namespace Go.Ev
set_option linter.all false
open Go.RowKit
section
variable {w0 w w' : World} {W0 : Base} {W W' : Nat → Own} {φ φ' : Nat → Nat → Option Blk} {s s' : St} {a : Act} {P : Program} {O : Orc} {d : Option Nat} {av : AV} {v : Value} {t : TypeId} {agg : Option Nat}
theorem pieces_get {sz n : Nat} {cs : List AV} (h : cs.length = n * sz) {i : Nat} {r : List AV} (hi : (pieces sz n cs)[i]? = some r) : i < n ∧ r.length = sz ∧ ∀ j, j < sz → r[j]? = cs[i * sz + j]? := by
 unfold pieces at hi
 have hlt := (List.getElem?_eq_some_iff.1 hi).1
 rw [List.length_map, List.length_range] at hlt
 rw [List.getElem?_map, List.getElem?_range hlt] at hi
 have hi : sub cs (i * sz) sz = r := by simpa using hi
 subst hi
 have hmul : i * sz + sz ≤ n * sz := by
  have : (i + 1) * sz ≤ n * sz := Nat.mul_le_mul_right _ hlt
  rwa [Nat.add_mul, Nat.one_mul] at this
 refine ⟨hlt, by unfold sub; rw [List.length_take, List.length_drop]; omega, fun j hj => ?_⟩
 unfold sub
 rw [List.getElem?_take, if_pos hj, List.getElem?_drop]
theorem pieces_length (sz n : Nat) (cs : List AV) : (pieces sz n cs).length = n := by simp [pieces]
def still (W : Nat → Own) : Nat → Own := fun b =>
 match W b with
 | .row _ t => .lim t
 | .box _ _ => .free
 | o => o
theorem still_stC {W : Nat → Own} {b o : Nat} (h : stC W b o) : stC (still W) b o := by
 unfold stC still at *
 cases hb : W b <;> rw [hb] at h <;> simp_all
theorem still_quiet (W : Nat → Own) (b : Nat) : (still W b).quiet := by
 unfold still
 cases W b <;> trivial
theorem snapW_ok (h : Rel w0 W0 s a φ W w) {l sl o n z cap : Nat} {b : Blk} {c' : AV} (hb' : φ l sl = some b) (hn : 0 < n) (hcap : n ≤ cap) (hm : cap ≤ maxLen) (hz0 : 0 < z)
 (he : (match s.get l sl with
   | some (.cells _ cs) => if o + n * z ≤ cs.length ∧ frzData cs o n z = true then some (.sl none z (frzRows cs o n z)) else none
   | _ => none) = some c') : VRel w (fun _ _ => none) (still W) c' (.slice (some ⟨b.1, o, none⟩) n cap) := by
 have plain : ∀ {c : AV} {u : Value}, VRel w φ W c u → c.okP (fun _ _ => false) = true → VRel w (fun _ _ => none) (still W) c u := fun hr hp => hr.move (fun _ _ => false) (fun _ _ _ h => by cases h) (fun b o v hs hc => ⟨still_stC hs, hc⟩) hp
 split at he
 case h_2 => cases he
 rename_i t cs hbx
 split at he
 case isFalse => cases he
 rename_i hc
 obtain ⟨hlen, hall⟩ := hc
 injection he with he
 subst he
 obtain ⟨b0, arr, k1, k2, k3, k4, k5, k6, k7⟩ := h.box l sl _ hbx
 rw [hb'] at k1
 injection k1 with k1
 subst k1
 have hW : still W b.1 = .free := by unfold still; rw [h.phi l sl b hb']
 have hsub : (sub cs o (n * z)).length = n * z := by unfold sub; rw [List.length_take, List.length_drop]; omega
 have hml : ((sub cs o (n * z)).map AV.noOwn1).length = n * z := by rw [List.length_map, hsub]
 have hsget : ∀ q c, ((sub cs o (n * z)).map AV.noOwn1)[q]? = some c → ∃ c0, cs[o + q]? = some c0 ∧ c = c0.noOwn1 ∧ c.isData = true := fun q c hq => by
  rw [List.getElem?_map] at hq
  obtain ⟨c0, hc0, rfl⟩ := Option.map_eq_some_iff.1 hq
  have hm := List.all_eq_true.1 hall c0 (List.mem_of_getElem? hc0)
  have hql := (List.getElem?_eq_some_iff.1 hc0).1
  unfold sub at hc0
  rw [List.getElem?_take, if_pos (by omega), List.getElem?_drop] at hc0
  exact ⟨c0, hc0, rfl, hm⟩
 have hpg : ∀ (i j : Nat) (r : List AV) c, (pieces z n ((sub cs o (n * z)).map AV.noOwn1))[i]? = some r → r[j]? = some c → ∃ c0, cs[o + (i * z + j)]? = some c0 ∧ c = c0.noOwn1 ∧ c.isData = true := fun i j r c hi hj => by
  obtain ⟨q1, q2, q3⟩ := pieces_get hml hi
  have hjl := (List.getElem?_eq_some_iff.1 hj).1
  rw [q3 j (by omega)] at hj
  exact hsget _ c hj
 have hfk : ∀ k (hk : k < arr.size), arr.getD k undef = arr[k] := fun k hk => by simp [hk]
 have hv2 := VRel.sl (w := w) (φ := fun _ _ => none) (W := still W) none z (pieces z n ((sub cs o (n * z)).map AV.noOwn1)) b.1 o cap (fun k => arr.getD (o + k) undef) (by rw [pieces_length]; exact hn) (by rw [pieces_length]; exact hcap) hm (fun r hr => by
  obtain ⟨i, hi⟩ := List.mem_iff_getElem?.1 hr
  exact (pieces_get hml hi).2.1) hz0 (fun r hr c hc => by
  obtain ⟨i, hi⟩ := List.mem_iff_getElem?.1 hr
  obtain ⟨j, hj⟩ := List.mem_iff_getElem?.1 hc
  obtain ⟨_, _, _, q⟩ := hpg i j r c hi hj
  exact q) (fun k hk => by
  rw [pieces_length] at hk
  refine ⟨by unfold stC; rw [hW]; trivial, ?_⟩
  rw [cell_of_row w b.1 _ arr t (0, 0) k2]
  simp [Array.getElem?_eq_getElem (show o + k < arr.size by omega), show o + k < arr.size by omega]) (fun i j r c hi hj => by
  obtain ⟨c0, q1, q2, qd⟩ := hpg i j r c hi hj
  have hj := (List.getElem?_eq_some_iff.1 q1).1
  have hr := (k7 _ c0 (arr.getD (o + (i * z + j)) undef) q1 (by rw [hfk _ (by omega)]; exact Array.getElem?_eq_getElem _)).1.noOwn1
  rw [← q2] at hr
  exact plain hr (okP_data _ qd))
 rw [pieces_length] at hv2
 exact hv2
theorem snap1_ok (h : Rel w0 W0 s a φ W w) {c c' : AV} {u : Value} (hv : VRel w φ W c u) (hp : c'.okP (fun _ _ => false) = true) (he : snap1 s c = some c') : VRel w (fun _ _ => none) (still W) c' u := by
 unfold snap1 at he
 split at he
 case h_3 => injection he with he; subst he; exact hv.move (fun _ _ => false) (fun _ _ _ h => by cases h) (fun b o v hs hc => ⟨still_stC hs, hc⟩) hp
 case h_1 l sl o n z =>
  cases hv with
  | win _ _ _ _ _ cap b hb hn hcap hm hk => exact snapW_ok h hb hn hcap hm hk.1 he
 case h_2 l sl o n z =>
  cases hv with
  | asl _ _ _ _ _ cap b hb hn hcap hm hk => exact snapW_ok h hb hn hcap hm hk he
theorem snaps_get : ∀ {vs vs' : List AV}, snaps s vs = some vs' → vs'.length = vs.length ∧ ∀ (i : Nat) c', vs'[i]? = some c' → ∃ c, vs[i]? = some c ∧ snap1 s c = some c'
 | [], vs', he => by simp only [snaps] at he; injection he with he; subst he; exact ⟨rfl, fun i c' h => by simp at h⟩
 | v :: r, vs', he => by
   simp only [snaps] at he
   obtain ⟨c1, h1, he⟩ := Option.bind_eq_some_iff.1 he
   obtain ⟨r1, h2, rfl⟩ := Option.map_eq_some_iff.1 he
   obtain ⟨q1, q2⟩ := snaps_get h2
   refine ⟨by simp [q1], fun i c' hc => ?_⟩
   cases i with
   | zero => simp at hc; subst hc; exact ⟨v, rfl, h1⟩
   | succ i => exact q2 i c' (by simpa using hc)
theorem snap_noFlag {c c' : AV} (he : snap1 s c = some c') (h : c.noFlag) : c'.noFlag := by
 unfold snap1 at he
 split at he
 ·split at he
  ·split at he
   ·injection he with he; subst he
    intro i j e sz rows hp
    simp only [AV.part, AV.part1] at hp
    split at hp <;> simp_all
   ·cases he
  ·cases he
 ·split at he
  ·split at he
   ·injection he with he; subst he
    intro i j e sz rows hp
    simp only [AV.part, AV.part1] at hp
    split at hp <;> simp_all
   ·cases he
  ·cases he
 ·injection he with he; subst he; exact h
theorem flat1_move {W2 : Nat → Own} {φ2 : Nat → Nat → Option Blk} {c : AV} {u : Value} (h : VRel w φ W c u) (hf : flat1 c = true) : VRel w φ2 W2 c u := by
 cases h <;> first | (simp [flat1] at hf; done) | constructor
theorem flat1_okP {c : AV} (hf : flat1 c = true) (p : Nat → Nat → Bool) : c.okP p = true := by
 cases c <;> first | rfl | (simp [flat1] at hf; done)
theorem flatA_move {W2 : Nat → Own} {φ2 : Nat → Nat → Option Blk} {c : AV} {u : Value} (h : VRel w φ W c u) (hf : flatA c = true) : VRel w φ2 W2 c u := by
 cases c with
 | agg cs =>
   cases h with
   | agg _ vs hl h1 h2 hv => exact .agg cs vs hl h1 h2 fun i c v hc hv' => flat1_move (hv i c v hc hv') (List.all_eq_true.1 hf c (List.mem_of_getElem? hc))
 | _ => exact flat1_move h hf
theorem flat_ret {rs : List AV} {u : Value} {W2 : Nat → Own} {φ2 : Nat → Nat → Option Blk} (h : VRel w φ W (retAV rs) u) (hf : rs.all flatA = true) : VRel w φ2 W2 (retAV rs) u := by
 rw [List.all_eq_true] at hf
 unfold retAV at h ⊢
 split
 ·rename_i r
  exact flatA_move h (hf r (by simp))
 ·rename_i hne
  split at h
  ·rename_i r
   exact absurd rfl (hne r)
  ·cases h with
   | tup cs vs hl hv => exact .tup _ vs hl fun i c v hc hv' => flatA_move (hv i c v hc hv') (hf c (List.mem_of_getElem? hc))
theorem flatA_okP {c : AV} (hf : flatA c = true) (p : Nat → Nat → Bool) : c.okP p = true := by
 unfold flatA at hf
 split at hf
 ·exact (okPs_iff p _).2 fun c hc => flat1_okP (List.all_eq_true.1 hf c hc) p
 ·exact flat1_okP hf p
theorem flat1_part {c : AV} (hf : flat1 c = true) (j : Nat) (e : TypeId) (sz : Nat) (rows : List (List AV)) : c.part1 j ≠ some (.sl (some e) sz rows) := by
 cases c <;> first | (simp [flat1] at hf; done) | (simp only [AV.part1]; split <;> simp)
theorem flatA_part {c : AV} (hf : flatA c = true) (j : Nat) (e : TypeId) (sz : Nat) (rows : List (List AV)) : c.part1 j ≠ some (.sl (some e) sz rows) := by
 unfold flatA at hf
 split at hf
 ·rename_i cs
  intro h
  simp only [AV.part1] at h
  have hm := List.mem_of_getElem? h
  have := List.all_eq_true.1 hf _ hm
  simp [flat1] at this
 ·exact flat1_part hf j e sz rows
theorem flat_noFlag {rs : List AV} (hf : rs.all flatA = true) : (retAV rs).noFlag := by
 rw [List.all_eq_true] at hf
 intro i j e sz rows hp
 unfold retAV at hp
 split at hp
 ·rename_i r
  have := flatA_part (hf r (by simp)) j e sz rows
  cases r <;> simp only [AV.part] at hp <;> first | (split at hp <;> first | exact this hp | cases hp) | exact this hp | (have := hf _ (List.mem_singleton.2 rfl); simp [flatA, flat1] at this)
 ·simp only [AV.part] at hp
  obtain ⟨c, hc, hp⟩ := Option.bind_eq_some_iff.1 hp
  exact flatA_part (hf c (List.mem_of_getElem? hc)) j e sz rows hp
theorem ok_callS (hO : CallOk P O.call) {o : Oper} {f : X} {f' : Operand} {args : List X} {args' : Array Operand} {ts : Array TypeId} (ho : o.op = .call { callee := .value f', args := args', argTypes := ts }) (hf : OpdOk f f') (hx : OpdsOk args args'.toList)
 (h : Rel w0 W0 s a φ W w) (he : evVal O (.callS f args) o.dst s = some (av, s')) (hn : ∀ x, o.dst = some x → x < a.tmps.size) {K : Act → World → Prop} {Q : Exit → Act → World → Prop}
 (hK : ∀ (a' : Act) w' φ W, a'.tmps.size = a.tmps.size → Rel w0 W0 (s'.put o.dst av) a' φ W w' → K a' w') : o.wp P a w K Q := by
 simp only [evVal] at he
 have hfv := h.opd hf
 split at he
 case h_2 => cases he
 rename_i g caps hff
 rw [hff] at hfv
 obtain ⟨hfr, hfl⟩ := hfv
 generalize hfe : a.eval f' = fv at hfr
 cases hfr
 rename_i cv hl hv
 obtain ⟨ha1, ha2⟩ := args_get hx hl h hv (by simpa [AV.okP] using hfl)
 split at he
 case h_2 => cases he
 rename_i vs hvs
 split at he
 case isFalse => cases he
 rename_i hpl
 split at he
 case h_2 => cases he
 rename_i rs low' hc
 split at he
 case isFalse => cases he
 rename_i hfl
 injection he with he
 injection he with e1 e2
 subst e1 e2
 obtain ⟨sl1, sl2⟩ := snaps_get hvs
 have hent : EntryOk w (fun _ _ => none) (still W) 0 noMem vs (args'.map a.eval ++ cv) := by
  refine ⟨ha1.trans sl1.symm, fun i c v hc hv' => ?_, (fun l sl B hl => by omega), (fun l sl b hb => by cases hb), (fun l sl hl => by omega), (h.fr.glob h.g0).same (fun b o hs => still_stC hs) (fun b _ => still_quiet W b)⟩
  obtain ⟨c0, hc0, hs0⟩ := sl2 i c hc
  obtain ⟨q1, q2, q3⟩ := ha2 i c0 v hc0 hv'
  have hp : c.okP (fun _ _ => false) = true := okPs_get _ hpl (List.mem_of_getElem? hc)
  exact ⟨snap1_ok h q1 hp hs0, okP_mono (fun _ _ h => by cases h) _ hp, snap_noFlag hs0 q3⟩
 obtain ⟨⟨fn, f1, f2, f3⟩, hcall⟩ := hO g _ noMem 0 rs low' w _ _ _ hc hent
 unfold Oper.wp
 rw [run_call ho hfe f1 f2 f3]
 show Calls P g _ w _
 refine hcall.mono fun e w' hex => ?_
 obtain ⟨v, φ', W', rfl, hex⟩ := hex
 have hst : Step w W w' W none := by
  refine ⟨⟨hex.fr.os, hex.fr.tape, hex.fr.output, hex.fr.size, fun k hk _ => hex.fr.blk k hk (still_quiet W k)⟩, fun b hb _ => rfl, (fun b hb => by cases hb), (fun b hb => by cases hb)⟩
 have hr := (h.step hst (fun g hg => by cases hg)).clr o.dst
 have hgood : Good w0 W0 s a o.dst (retAV rs) w' v := by
  refine ⟨φ, W, hr, fun x hx => ?_⟩
  refine ⟨flat_ret hex.rel hfl, ?_, .of_noFlag (flat_noFlag hfl)⟩
  unfold retAV
  rw [List.all_eq_true] at hfl
  split
  ·rename_i r
   exact flatA_okP (hfl r (by simp)) _
  ·exact (okPs_iff _ _).2 fun c hc => flatA_okP (hfl c hc) _
 obtain ⟨φ3, W3, hrel⟩ := hgood.put hn
 exact hK _ w' φ3 W3 (size_put a o.dst v) hrel
end
end Go.Ev
