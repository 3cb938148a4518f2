/- slices.Delete of one element: the steps of its text. Condition: named in each. -/
import Derived.Test.YtcnlfelalgaepaaGreatDoorEvT
import Derived.ArgAppend
import Derived.Below
namespace Go.Ev
set_option linter.all false
open Go.RowKit

theorem heap_setFar {g : Nat} : ∀ (vs : List Value) (o : Nat) {w : World} (k : Nat), k ≠ g → (w.setCells g o vs).heap[k]? = w.heap[k]?
  | [], _, _, _, _ => rfl
  | v :: r, o, w, k, hk => by
    rw [World.setCells, heap_setFar r (o + 1) k hk]
    exact Below.heap_setCell w ⟨g, o, none⟩ v k hk
theorem setCells_rest (g : Nat) : ∀ (vs : List Value) (o : Nat) (w : World), (w.setCells g o vs).os = w.os ∧ (w.setCells g o vs).tape = w.tape ∧ (w.setCells g o vs).output = w.output ∧ (w.setCells g o vs).heap.size = w.heap.size
  | [], _, _ => ⟨rfl, rfl, rfl, rfl⟩
  | v :: r, o, w => by
    obtain ⟨h1, h2, h3, h4⟩ := setCells_rest g r (o + 1) (w.setCell ⟨g, o, none⟩ v)
    rw [World.setCells]
    exact ⟨h1, h2, h3, by rw [h4]; simp [World.setCell]⟩
theorem heap_setCell_at {w : World} {g o : Nat} {e : TypeId} {cur : Array Value} (h : w.heap[g]? = some (.cells cur e (0, 0))) (v : Value) : (w.setCell ⟨g, o, none⟩ v).heap[g]? = some (.cells (cur.setIfInBounds o v) e (0, 0)) := by
  have hlt := (Array.getElem?_eq_some_iff.1 h).1
  have hw := (Array.getElem?_eq_some_iff.1 h).2
  simp [World.setCell, hlt, hw, Array.getElem_modify_self]
theorem setCells_get {g : Nat} {e : TypeId} : ∀ (vs : List Value) (o : Nat) (w : World) (cur : Array Value), w.heap[g]? = some (.cells cur e (0, 0)) → o + vs.length ≤ cur.size →
    ∃ cur', (w.setCells g o vs).heap[g]? = some (.cells cur' e (0, 0)) ∧ cur'.size = cur.size ∧ ∀ q, cur'[q]? = if o ≤ q ∧ q < o + vs.length then vs[q - o]? else cur[q]?
  | [], o, w, cur, h, _ => ⟨cur, h, rfl, fun q => by rw [if_neg (by simp only [List.length_nil]; omega)]⟩
  | v :: r, o, w, cur, h, hl => by
    simp only [List.length_cons] at hl
    obtain ⟨cur', h3, h4, h5⟩ := setCells_get r (o + 1) (w.setCell ⟨g, o, none⟩ v) _ (heap_setCell_at h v) (by simp; omega)
    refine ⟨cur', h3, by rw [h4]; simp, fun q => ?_⟩
    rw [h5 q]
    simp only [List.length_cons]
    by_cases h1 : q = o
    · subst h1
      rw [if_neg (by omega), if_pos (by omega), Nat.sub_self]
      simp [show q < cur.size by omega]
    · by_cases h2 : o + 1 ≤ q ∧ q < o + 1 + r.length
      · rw [if_pos h2, if_pos (by omega), show q - o = (q - (o + 1)) + 1 by omega, List.getElem?_cons_succ]
      · rw [if_neg h2, if_neg (by omega), Array.getElem?_setIfInBounds_ne (fun e => h1 e.symm)]
section
variable {P : Program} {ops : Array Oper} {o : Oper} {a : Act} {Q : Exit → Act → World → Prop} {Kc : Act → World → Prop}
/-- The append of slices.Delete, at one element: what stands behind it moves forward. -/
theorem delete_step (hw : Region.wanted o (yielded ops a.tmps) = true) (s x : Operand) (t e : TypeId) (ho : o.op = .call { callee := .builtin .append, args := #[s, x], argTypes := #[t, t] })
    (ht : P.underlying t = some (.slice e)) {i : TypeInfo} (hi : P.info? e = some i) {W : World} {g n c k m c2 : Nat} {A : Option Addr} {te : TypeId} {arr : Array Value}
    (hs : a.eval s = .slice (some ⟨g, 0, none⟩) k c) (hx : a.eval x = .slice A m c2) (hA : A = if c = k + 1 then some ⟨g, 0, none⟩ else (some (⟨g, 0, none⟩ : Addr)).map (·.add ((k + 1) * i.size))) (hm : m = n - (k + 1))
    (hg : W.heap[g]? = some (.cells arr te (0, 0))) (hsz : arr.size = c * i.size) (hk : k < n) (hn : n ≤ c) (hone : ∀ (q : Nat) v, q < n * i.size → arr[q]? = some v → v.oneCell' = true)
    (h : ∀ w1 arr1, w1.heap[g]? = some (.cells arr1 te (0, 0)) → arr1.size = arr.size → (∀ q, q < (n - 1) * i.size → arr1[q]? = if q < k * i.size then arr[q]? else arr[q + i.size]?) → W.grownBy w1 (some g) → Kc (a.put o.dst (.slice (some ⟨g, 0, none⟩) (n - 1) c)) w1) :
    if Region.wanted o (yielded ops a.tmps) = true then Oper.wp P o a W Kc Q else Kc (a.put o.dst undef) W := by
  subst hm
  have hk1 : (k + 1) * i.size ≤ n * i.size := Nat.mul_le_mul_right _ hk
  have hks : (k + 1) * i.size = k * i.size + i.size := Nat.succ_mul _ _
  have hnc : n * i.size ≤ c * i.size := Nat.mul_le_mul_right _ hn
  have hsub : (n - (k + 1)) * i.size = n * i.size - (k + 1) * i.size := Nat.sub_mul _ _ _
  have hn1 : (n - 1) * i.size = n * i.size - i.size := by rw [Nat.sub_mul, Nat.one_mul]
  obtain ⟨news, hnews⟩ : ∃ news, news = (arr.toList.take (n * i.size)).drop ((k + 1) * i.size) := ⟨_, rfl⟩
  have hnl : news.length = (n - (k + 1)) * i.size := by rw [hnews, List.length_drop, List.length_take, Array.length_toList]; omega
  have hnget : ∀ (j : Nat), j < news.length → news[j]? = arr[(k + 1) * i.size + j]? := fun j hj => by
    rw [hnews, List.getElem?_drop, List.getElem?_take, if_pos (by omega), Array.getElem?_toList]
  obtain ⟨ad, rfl, hcell⟩ : ∃ ad, A = some ad ∧ ∀ j u, news[j]? = some u → W.cell? (ad.add j) = some u := by
    by_cases hck : c = k + 1
    · rw [if_pos hck] at hA
      refine ⟨_, hA, fun j u hu => ?_⟩
      have h0 : news = [] := List.eq_nil_of_length_eq_zero (by rw [hnl, show n - (k + 1) = 0 by omega, Nat.zero_mul])
      rw [h0] at hu
      simp at hu
    · rw [if_neg hck, Option.map_some] at hA
      refine ⟨_, hA, fun j u hu => ?_⟩
      have hj : j < news.length := (List.getElem?_eq_some_iff.1 hu).1
      rw [hnget j hj] at hu
      rw [add_lit, add_lit, cell_of_row W g _ arr te (0, 0) hg, Nat.zero_add]
      exact hu
  have hone2 : ∀ u ∈ news, u.oneCell' = true := fun u hu => by
    obtain ⟨j, hj⟩ := List.mem_iff_getElem?.1 hu
    have hjl := (List.getElem?_eq_some_iff.1 hj).1
    rw [hnget j hjl] at hj
    exact hone _ u (by omega) hj
  have hfit : 0 + k * i.size + news.length ≤ arr.size := by omega
  have hrun := run_append_room_cells (P := P) (w := W) t o.type e i ht hi g 0 k c ad (n - (k + 1)) c2 news hnl hcell hone2 (by omega)
    (fun j hj => by rw [cell_of_row W g _ arr te (0, 0) hg]; simp; omega) (fun j _ => by simp [World.frozen?, hg])
  rw [show k + (n - (k + 1)) = n - 1 by omega] at hrun
  obtain ⟨cur', h3, h4, h5⟩ := setCells_get news (0 + k * i.size) W arr hg hfit
  obtain ⟨s1, s2, s3, s4⟩ := setCells_rest g news (0 + k * i.size) W
  rw [if_pos hw]
  unfold Oper.wp execOp
  simp only [ho, resolve, invoke, builtin, Sem.run_bind, Sem.run_pure, Result.andThen_ok, List.map_toArray, List.map_cons, List.map_nil, hs, hx, hrun]
  refine h _ cur' h3 h4 (fun q hq => ?_) ⟨s1, s2, s3, by rw [s4]; exact Nat.le_refl _, fun k' _ hk' => heap_setFar news _ k' (fun he => hk' (by rw [he]))⟩
  rw [h5 q]
  by_cases hqk : q < k * i.size
  · rw [if_neg (by omega), if_pos hqk]
  · rw [if_pos (by omega), if_neg hqk, hnget _ (by omega)]
    congr 1
    omega
end
end Go.Ev
