/- The operations one by one: rows that are made, and append. Condition: none. -/
import Derived.Test.YtcnlfelalgaepaaGreatDoorEv8
namespace Go.Ev
set_option linter.all false
open Go.RowKit
section
variable {w0 w w' : World} {W0 : Base} {W W' : Nat → Own} {φ φ' : Nat → Nat → Option Blk} {s s' : St} {a : Act} {P : Program} {O : Orc} {d : Option Nat} {av : AV} {v : Value} {t : TypeId} {agg : Option Nat}
theorem Rel.newRow (h : Rel w0 W0 s a φ W w) (d : Option Nat) (e : TypeId) (z : Nat) (rows : List (List AV)) (arr : Array Value) (hz : ∀ r ∈ rows, r.length = z) (hp : 0 < z) (hm : rows.length ≤ maxLen) (hl : arr.size = rows.length * z) (hd : ∀ r ∈ rows, ∀ c ∈ r, c.isData = true)
 (hv : ∀ (i j : Nat) (r : List AV) c, rows[i]? = some r → r[j]? = some c → VRel w φ W c (arr.getD (i * z + j) undef)) :
 Good w0 W0 s a d (.sl (some e) z rows) (w.alloc (.cells arr e)) (.slice (some ⟨w.heap.size, 0, none⟩) rows.length rows.length) := by
 have hst := Step.alloc w W (.cells arr e) (.row (.tmp (d.getD 0) 0 0) (rows.length * z))
 have hr := (h.step hst (fun g hg => by cases hg)).clr d
 refine ⟨φ, _, hr, fun x hx => ?_⟩
 subst hx
 have hvr : VRel (w.alloc (.cells arr e)) φ (upd W w.heap.size (.row (.tmp x 0 0) (rows.length * z))) (.sl (some e) z rows) (.slice (some ⟨w.heap.size, 0, none⟩) rows.length rows.length) := by
  cases hrr : rows with
  | nil => exact .slE ..
  | cons r0 rs =>
    rw [← hrr]
    refine .sl _ _ _ _ _ _ (fun k => arr.getD k undef) (by rw [hrr]; simp) (Nat.le_refl _) hm hz hp hd (fun k hk => ⟨?_, ?_⟩) (fun i j r c hi hj => hst.vrel (fun _ _ _ h => h) (hv i j r c hi hj))
    ·simp only [stC, upd, if_true]
     omega
    ·rw [Nat.zero_add, cell_of_row _ _ _ arr e (0, 0) (heap_alloc_new w _)]
     simp [show k < arr.size by omega]
 refine ⟨hvr, rfl, fun i j e' sz rows' cv hp' hc => ?_⟩
 have : i = 0 ∧ j = 0 ∧ e' = e ∧ sz = z ∧ rows' = rows ∧ cv = .slice (some ⟨w.heap.size, 0, none⟩) rows.length rows.length := by
  simp only [AV.part, AV.part1] at hp'
  split at hp'
  ·split at hp'
   ·rename_i h1 h2
    subst h1 h2
    injection hp' with hp'
    injection hp' with q1 q2 q3
    injection q1 with q1
    refine ⟨rfl, rfl, q1.symm, q2.symm, q3.symm, ?_⟩
    simpa [Value.part, Value.part1] using hc.symm
   ·cases hp'
  ·cases hp'
 obtain ⟨rfl, rfl, rfl, rfl, rfl, rfl⟩ := this
 refine ⟨arr.toList, World.ownsRow_lit w arr rows'.length (Nat.zero_le _) hm hl, fun g hg => ?_⟩
 have : w.heap.size = g := by simpa [Value.ownBlock] using hg
 subst this
 simp [upd]
theorem run_append_more {e : TypeId} {i : TypeInfo} {z : Value} (ht : P.underlying t = some (.slice e)) (hi : P.info? e = some i) (hz : i.zero = some z) (hzs : z.cells.size = i.size) (hsz : 0 < i.size)
 {cv : Value} {n : Nat} {xs : List Value} (hown : w.ownsRow 0 e i.size cv n xs) (ad : Addr) (m c : Nat) (news : List Value) (hl : news.length = m * i.size) (hnews : ∀ (j : Nat) u, news[j]? = some u → w.cell? (ad.add j) = some u)
 (h1 : ∀ u ∈ news, u.oneCell' = true) (h63 : n + m ≤ 9223372036854775807) (hbytes : (n + m) * i.bytes ≤ 140737488355328) (ty : TypeId) :
 ∃ v' w', (Builtin.append_ #[t, t] ty #[cv, .slice (some ad) m c]).run P w = .ok v' w' ∧ w'.ownsRow 0 e i.size v' (n + m) (xs ++ news) ∧
  ((v'.ownBlock = cv.ownBlock ∧ w.grownBy w' cv.ownBlock) ∨ (v'.ownBlock = some w.heap.size ∧ w.grownBy w' none)) := by
 have hxs := hown.1
 have hmx : n + m ≤ maxLen := by unfold maxLen; omega
 have hlen : (xs ++ news).length = (n + m) * i.size := by rw [List.length_append, hxs, hl, Nat.add_mul]
 have fresh : ∀ old, (w.drew.alloc (.cells (xs.toArray ++ news.toArray ++ Builtin.zeroCells z.cells (grownCap w (n + m) old e - (n + m))) e)).ownsRow 0 e i.size (.slice (some ⟨w.heap.size, 0, none⟩) (n + m) (grownCap w (n + m) old e)) (n + m) (xs ++ news) := by
  intro old
  have hge := grownCap_ge w (n + m) old e
  refine ⟨hlen, .inr ⟨w.heap.size, _, _, rfl, Nat.zero_le _, heap_alloc_new w.drew _, hge, grownCap_le_maxLen w (n + m) old e hmx, ?_, ?_⟩⟩
  ·rw [Array.size_append, Array.size_append, List.size_toArray, List.size_toArray, size_zeroCells, hzs, hxs, hl, ← Nat.add_mul, ← Nat.add_mul]
   congr 1
   omega
  ·rw [Array.toList_append, Array.toList_append, ← hlen]
   exact List.take_left' rfl
 have gnone : ∀ o, w.grownBy (w.drew.alloc o) none := fun o => ⟨rfl, rfl, rfl, by simp, fun k hk _ => heap_alloc_old w.drew o k hk⟩
 rcases hown.2 with ⟨rfl, rfl⟩ | ⟨g, cap, cur, rfl, _, hg, hnc, hcm, hcs, htake⟩
 ·obtain rfl : xs = [] := List.eq_nil_of_length_eq_zero (by simpa using hxs)
  rcases Nat.eq_zero_or_pos m with rfl | hm
  ·obtain rfl : news = [] := List.eq_nil_of_length_eq_zero (by simpa using hl)
   refine ⟨.slice none 0 0, w, ?_, World.ownsRow_nil w 0 e i.size, .inl ⟨rfl, World.grownBy.refl w _⟩⟩
   simp [Builtin.append_, run_underlying ht, sizeOf, typeInfo, hi, Builtin.lenOf, Builtin.firstCells, loadCells, loadCellsFrom]
  ·have hr := run_append_nil (P := P) w t ty e i z ht hi hz ad m c news hl hnews hm (by omega) (by have := hbytes; rw [Nat.zero_add] at this; omega)
   have hf := fresh 0
   simp only [Nat.zero_add, List.nil_append, Array.empty_append] at hf ⊢
   exact ⟨_, _, hr, hf, .inr ⟨rfl, gnone _⟩⟩
 ·by_cases hroom : n + m ≤ cap
  ·have hmul : (n + m) * i.size ≤ cap * i.size := Nat.mul_le_mul_right _ hroom
   have hfit : n * i.size + news.length ≤ cur.size := by rw [hl, hcs, ← Nat.add_mul]; exact hmul
   have hr := run_append_room (P := P) w t ty e i ht hi g n cap cur hg ad m c news hl hnews h1 hroom hfit
   refine ⟨_, _, hr, ⟨hlen, .inr ⟨g, cap, _, rfl, Nat.zero_le _, setRow_heap w g cur _ e _ hg, hroom, hcm, ?_, ?_⟩⟩, .inl ⟨rfl, ⟨rfl, rfl, rfl, by simp, fun k _ hk => setRow_other w g k _ (fun q => hk (by simp [Value.ownBlock, q]))⟩⟩⟩
   ·simp only [List.size_toArray, List.length_append, List.length_take, List.length_drop, Array.length_toList]
    omega
   ·show (cur.toList.take (n * i.size) ++ news ++ cur.toList.drop (n * i.size + news.length)).take ((n + m) * i.size) = xs ++ news
    rw [htake, ← hlen]
    exact List.take_left' rfl
  ·have holds : ∀ (j : Nat) u, xs[j]? = some u → w.cell? ((⟨g, 0, none⟩ : Addr).add j) = some u := hown.cells (g := g) rfl
   have hr := run_append_grow (P := P) w t ty e i z ht hi hz ⟨g, 0, none⟩ n cap xs hxs holds ad m c news hl hnews (by omega) (by omega) (growslice_fits (by omega) hbytes)
   exact ⟨_, _, hr, fresh cap, .inr ⟨rfl, gnone _⟩⟩
theorem run_append_none {e : TypeId} {i : TypeInfo} (ht : P.underlying t = some (.slice e)) (hi : P.info? e = some i) {cv : Value} {n : Nat} {xs : List Value} (hown : w.ownsRow 0 e i.size cv n xs) (c : Nat) (ty : TypeId) :
 (Builtin.append_ #[t, t] ty #[cv, .slice none 0 c]).run P w = .ok cv w := by
 rcases hown.2 with ⟨rfl, rfl⟩ | ⟨g, cap, cur, rfl, _, _, hnc, _⟩
 ·simp [Builtin.append_, run_underlying ht, sizeOf, typeInfo, hi, Builtin.lenOf, Builtin.firstCells]
 ·simp [Builtin.append_, run_underlying ht, sizeOf, typeInfo, hi, Builtin.lenOf, Builtin.firstCells, hnc, storeCells]
theorem vrel_own {e : TypeId} {z : Nat} {rows : List (List AV)} {cv : Value} {xs : List Value} (ho : w.ownsRow 0 e z cv rows.length xs) (hp : 0 < z) (hz : ∀ r ∈ rows, r.length = z) (hd : ∀ r ∈ rows, ∀ c ∈ r, c.isData = true)
 (hW : ∀ g, cv.ownBlock = some g → ∀ k, k < rows.length * z → stC W g k) (own : Option TypeId) (hv : ∀ (i j : Nat) (r : List AV) c u, rows[i]? = some r → r[j]? = some c → xs[i * z + j]? = some u → VRel w φ W c u) : VRel w φ W (.sl own z rows) cv := by
 have hx := ho.1
 cases hrr : rows with
 | nil =>
   subst hrr
   rcases ho.2 with ⟨rfl, _⟩ | ⟨g, cap, cur, rfl, _⟩
   ·exact .slE ..
   ·exact .slE ..
 | cons r0 rs =>
   rw [← hrr]
   have hpos : 0 < rows.length := by rw [hrr]; simp
   obtain ⟨g, cap, rfl, _, hlt⟩ := ho.form hpos
   have hcells := ho.cells (g := g) rfl
   obtain ⟨hc1, hc2⟩ : rows.length ≤ cap ∧ cap ≤ maxLen := by
    rcases ho.2 with ⟨h, _⟩ | ⟨g', cap', cur, h, _, _, h1, h2, _⟩
    ·cases h
    ·injection h with _ _ h
     subst h
     exact ⟨h1, h2⟩
   refine .sl own z rows g 0 cap (fun k => xs.getD k undef) hpos hc1 hc2 hz hp hd (fun k hk => ⟨by rw [Nat.zero_add]; exact hW g rfl k hk, ?_⟩) (fun i j r c hi hj => ?_)
   ·have := hcells k _ (List.getElem?_eq_getElem (by omega : k < xs.length))
    rw [add_lit] at this
    rw [this]
    simp [show k < xs.length by omega]
   ·have hi' := (List.getElem?_eq_some_iff.1 hi).1
    have hj' := (List.getElem?_eq_some_iff.1 hj).1
    have hrz := hz r (List.mem_of_getElem? hi)
    have hmul : i * z + z ≤ rows.length * z := by
     have : (i + 1) * z ≤ rows.length * z := Nat.mul_le_mul_right _ hi'
     rwa [Nat.add_mul, Nat.one_mul] at this
    have hlt : i * z + j < xs.length := by omega
    have := hv i j r c xs[i * z + j] hi hj (List.getElem?_eq_getElem hlt)
    simpa [hlt] using this
theorem ok_app {o : Oper} {x y : X} {x' y' : Operand} {e : TypeId} {i : TypeInfo} {z : Value} (ho : o.op = .call { callee := .builtin .append, args := #[x', y'], argTypes := #[t, t] }) (ht : P.underlying t = some (.slice e)) (hi : P.info? e = some i) (hz : i.zero = some z) (hzs : z.cells.size = i.size) (hsz : 0 < i.size)
 (hx : OpdOk x x') (hy : OpdOk y y') (h : Rel w0 W0 s a φ W w) (he : evVal O (.app x y e i.size i.bytes) o.dst s = some (av, s')) : Comes' P w0 W0 s' a o av w := by
 simp only [evVal] at he
 split at he
 ·rename_i e' z1 rows own z2 more hxx hyy
  split at he
  ·rename_i hc
   obtain ⟨hds, rfl, rfl, rfl, hbytes, h63⟩ := hc
   obtain ⟨dd, hdd⟩ := Option.isSome_iff_exists.1 hds
   injection he with he
   injection he with e1 e2
   subst e1 e2
   obtain ⟨f, h1, h2, _⟩ := h.opdTake hx (Pos.tmp dd)
   rw [hxx] at h2
   have hyv := ((h.opd hy).1).relab f
   rw [hyy] at hyv
   have hr1 := h1.clr o.dst
   generalize hxe : a.eval x' = xv at h2
   have hxv := h2.rel
   have hpart : xv.part 0 0 = some xv := by
    obtain ⟨A, cap, hv, _⟩ := hxv.slice_inv
    rw [hv]; rfl
   obtain ⟨xs, hown, hW⟩ := h2.own 0 0 e' i.size rows xv rfl hpart
   obtain ⟨A, cap, hye, hym⟩ := hyv.slice_inv
   have hrun : ∃ v' w' news, (Builtin.append_ #[t, t] o.type #[xv, .slice A more.length cap]).run P w = .ok v' w' ∧ w'.ownsRow 0 e' i.size v' (rows.length + more.length) (xs ++ news) ∧
    ((v'.ownBlock = xv.ownBlock ∧ w.grownBy w' xv.ownBlock) ∨ (v'.ownBlock = some w.heap.size ∧ w.grownBy w' none)) ∧
    ∀ (p j : Nat) (r : List AV) c u, more[p]? = some r → r[j]? = some c → news[p * i.size + j]? = some u → VRel w φ (relab f W) c u := by
    rcases hym with rfl | ⟨b, off, g, rfl, hn, hcap, hm, hz2, hp2, hd2, hc2, hv2⟩
    ·cases A with
     | none => exact ⟨xv, w, [], run_append_none ht hi hown cap o.type, by simpa using hown, .inl ⟨rfl, World.grownBy.refl w _⟩, fun p j r c u hp => by simp at hp⟩
     | some ad =>
       obtain ⟨v', w', k1, k2, k3⟩ := run_append_more ht hi hz hzs hsz hown ad 0 cap [] (by simp) (fun j u hu => by simp at hu) (fun u hu => by cases hu) (by omega) (by simpa using hbytes) o.type
       exact ⟨v', w', [], k1, k2, k3, fun p j r c u hp => by simp at hp⟩
    ·let news := (List.range (more.length * i.size)).map g
     have hnl : news.length = more.length * i.size := by simp [news]
     have hng : ∀ (j : Nat) u, news[j]? = some u → j < more.length * i.size ∧ u = g j := fun j u hu => by
      have hj := (List.getElem?_eq_some_iff.1 hu).1
      rw [hnl] at hj
      simp [news, hj] at hu
      exact ⟨hj, hu.symm⟩
     have hcell1 : ∀ u ∈ news, u.oneCell' = true := fun u hu => by
      obtain ⟨k, hk, rfl⟩ := List.mem_map.1 hu
      have hk := List.mem_range.1 hk
      have hdiv : k / i.size < more.length := Nat.div_lt_of_lt_mul (by rwa [Nat.mul_comm])
      have hmod := Nat.mod_lt k hsz
      have hrl := hz2 _ (List.getElem_mem hdiv)
      have hv := hv2 (k / i.size) (k % i.size) _ _ (List.getElem?_eq_getElem hdiv) (List.getElem?_eq_getElem (by rw [hrl]; exact hmod))
      have e1 : k / i.size * i.size + k % i.size = k := by rw [Nat.mul_comm]; exact Nat.div_add_mod k i.size
      rw [e1] at hv
      exact hv.oneCell (hd2 _ (List.getElem_mem hdiv) _ (List.getElem_mem _))
     obtain ⟨v', w', k1, k2, k3⟩ := run_append_more ht hi hz hzs hsz hown ⟨b, off, none⟩ more.length cap news hnl (fun j u hu => by
      obtain ⟨hj, rfl⟩ := hng j u hu
      rw [add_lit]
      exact (hc2 j hj).2) hcell1 (by omega) hbytes o.type
     exact ⟨v', w', news, k1, k2, k3, fun p j r c u hp hj hu => by
      obtain ⟨_, rfl⟩ := hng _ u hu
      exact hv2 p j r c hp hj⟩
   obtain ⟨v', w', news, k1, k2, k3, k4⟩ := hrun
   let W2 : Nat → Own := fun b => if v'.ownBlock = some b then .row (.tmp dd 0 0) ((rows.length + more.length) * i.size) else relab f W b
   have hrow : ∀ g, xv.ownBlock = some g → relab f W g = .row (.tmp dd 0 0) (rows.length * i.size) := hW
   have hstep : ∃ row, (row = none ∨ row = xv.ownBlock) ∧ Step w (relab f W) w' W2 row := by
    rcases k3 with ⟨q1, q2⟩ | ⟨q1, q2⟩
    ·refine ⟨xv.ownBlock, .inr rfl, q2, fun b hb hne => ?_, fun b hb hlt o' ho' => ?_, fun b hb hlt hf => ?_⟩
     ·show (if v'.ownBlock = some b then _ else _) = _
      rw [if_neg (fun e => hne (by rw [← q1, e]))]
     ·have hw := hrow b hb
      unfold stC at ho'
      rw [hw] at ho'
      refine ⟨?_, fun u hu => ?_⟩
      ·show stC W2 b o'
       unfold stC
       show (match (if v'.ownBlock = some b then _ else _ : Own) with | .free => True | .lim t => o' < t | .row _ t => o' < t | .box _ _ => False)
       rw [if_pos (by rw [q1, hb])]
       have : rows.length * i.size ≤ (rows.length + more.length) * i.size := Nat.mul_le_mul_right _ (by omega)
       exact Nat.lt_of_lt_of_le ho' this
      ·have hx1 := hown.cells hb o'
       have hx2 := k2.cells (g := b) (by rw [q1, hb]) o'
       have hxl := hown.1
       have hg := List.getElem?_eq_getElem (by omega : o' < xs.length)
       have e1 := hx1 _ hg
       rw [add_lit, Nat.zero_add, hu] at e1
       injection e1 with e1
       have e2 := hx2 _ (by rw [List.getElem?_append_left (by omega), hg])
       rw [add_lit, Nat.zero_add] at e2
       rw [e2, e1]
     ·rw [hrow b hb] at hf
      exact hf
    ·refine ⟨none, .inl rfl, q2, fun b hb _ => ?_, (fun b hb => by cases hb), (fun b hb => by cases hb)⟩
     show (if v'.ownBlock = some b then _ else _) = _
     rw [if_neg]
     rw [q1]
     intro e
     injection e with e
     omega
   obtain ⟨row, hrw, hstep⟩ := hstep
   have hr2 := hr1.step hstep (fun g hg hlt => by
    rcases hrw with rfl | rfl
    ·cases hg
    ·refine ⟨dd, 0, 0, _, hrow g hg, ?_⟩
     rw [hdd]
     simp only [St.put, upd, if_true]
     intro p q e'' sz rr hp
     simp only [AV.part, AV.part1] at hp
     split at hp
     ·split at hp <;> cases hp
     ·cases hp)
   have hvr : VRel w' φ W2 (.sl (some e') i.size (rows ++ more)) v' := by
    obtain ⟨A0, cap0, hve0, hxc⟩ := hxv.slice_inv
    have hk2 : w'.ownsRow 0 e' i.size v' (rows ++ more).length (xs ++ news) := by rw [List.length_append]; exact k2
    have hzr : ∀ r ∈ rows, r.length = i.size ∧ ∀ c ∈ r, c.isData = true := fun r hr => by
     rcases hxc with rfl | ⟨_, _, _, _, _, _, _, hz3, _, hd3, _⟩
     ·cases hr
     ·exact ⟨hz3 r hr, hd3 r hr⟩
    have hzm : ∀ r ∈ more, r.length = i.size ∧ ∀ c ∈ r, c.isData = true := fun r hr => by
     rcases hym with rfl | ⟨_, _, _, _, _, _, _, hz3, _, hd3, _⟩
     ·cases hr
     ·exact ⟨hz3 r hr, hd3 r hr⟩
    refine vrel_own hk2 hsz (fun r hr => ?_) (fun r hr => ?_) (fun g hg k hk => ?_) _ (fun p j r c u hp hj hu => ?_)
    ·rcases List.mem_append.1 hr with hr | hr
     ·exact (hzr r hr).1
     ·exact (hzm r hr).1
    ·rcases List.mem_append.1 hr with hr | hr
     ·exact (hzr r hr).2
     ·exact (hzm r hr).2
    ·unfold stC
     show (match (if v'.ownBlock = some g then _ else _ : Own) with | .free => True | .lim t => k < t | .row _ t => k < t | .box _ _ => False)
     rw [if_pos hg]
     rw [List.length_append] at hk
     exact hk
    ·have hxl := hown.1
     by_cases hpl : p < rows.length
     ·rw [List.getElem?_append_left hpl] at hp
      have hjl := (List.getElem?_eq_some_iff.1 hj).1
      have hrl := (hzr r (List.mem_of_getElem? hp)).1
      have hmul : p * i.size + i.size ≤ rows.length * i.size := by
       have : (p + 1) * i.size ≤ rows.length * i.size := Nat.mul_le_mul_right _ hpl
       rwa [Nat.add_mul, Nat.one_mul] at this
      have hlt : p * i.size + j < xs.length := by omega
      rw [List.getElem?_append_left hlt] at hu
      refine hstep.vrel (fun _ _ _ h => h) ?_
      rcases hxc with rfl | ⟨b, off, g, rfl, _, _, _, hz3, _, hd3, hc3, hv3⟩
      ·simp at hpl
      ·have hq := hv3 p j r c hp hj
       have hcell := (hc3 (p * i.size + j) (by omega)).2
       rcases hown.2 with ⟨q, _⟩ | ⟨g0, cap1, cur, q, _⟩
       ·rw [hve0] at q; cases q
       ·rw [hve0] at q
        injection q with q _ _
        injection q with q
        injection q with q1 q2 _
        subst q1 q2
        have := hown.cells (g := b) (by rw [hve0]; rfl) _ u hu
        rw [add_lit] at this
        rw [this] at hcell
        injection hcell with hcell
        rw [hcell]
        exact hq
     ·rw [List.getElem?_append_right (by omega)] at hp
      have : (p - rows.length) * i.size + j = p * i.size + j - xs.length := by
       rw [hxl, Nat.sub_mul]
       have : rows.length * i.size ≤ p * i.size := Nat.mul_le_mul_right _ (by omega)
       omega
      have hge : rows.length * i.size ≤ p * i.size := Nat.mul_le_mul_right _ (by omega)
      rw [List.getElem?_append_right (by omega), ← this] at hu
      exact hstep.vrel (fun _ _ _ h => h) (k4 _ j r c u hp hj hu)
   refine ⟨v', w', .inl ?_, φ, W2, hr2, fun x2 hx2 => ?_⟩
   ·simp only [execOp, ho, resolve, invoke, builtin]
    simp [hxe, hye, k1]
   ·rw [hdd] at hx2
    injection hx2 with hx2
    subst hx2
    refine ⟨hvr, rfl, fun p q e'' sz rr cv hp hc => ?_⟩
    have hv1 : v'.part 0 0 = some v' := by
     obtain ⟨A, cap, hv, _⟩ := hvr.slice_inv
     rw [hv]; rfl
    simp only [AV.part, AV.part1] at hp
    split at hp
    ·split at hp
     ·rename_i hp0 hq0
      subst hp0 hq0
      injection hp with hp
      injection hp with q1 q2 q3
      injection q1 with q1
      subst q1 q2 q3
      rw [hv1] at hc
      injection hc with hc
      subst hc
      refine ⟨xs ++ news, by rw [List.length_append]; exact k2, fun g hg => ?_⟩
      show (if v'.ownBlock = some g then _ else _) = _
      rw [if_pos hg, List.length_append]
     ·cases hp
    ·cases hp
  ·cases he
 ·cases he
end
end Go.Ev
