/- Strings as lists of bytes. Condition: none. -/
import Derived.Test.YtcnlfelalgaepaaGreatDoorEvS
namespace Go.Ev
set_option linter.all false
def bs (l : List UInt8) : ByteArray := ⟨l.toArray⟩
@[simp] theorem mk_bs (l : List UInt8) : ByteArray.mk (List.toArray l) = bs l := rfl
theorem ex_bs (s : ByteArray) : ∃ l, s = bs l ∧ l.length = s.size := ⟨s.data.toList, by cases s; rfl, Array.length_toList⟩
@[simp] theorem bs_data (l : List UInt8) : (bs l).data = l.toArray := rfl
@[simp] theorem bs_size (l : List UInt8) : (bs l).size = l.length := rfl
@[simp] theorem bs_append (a b : List UInt8) : bs a ++ bs b = bs (a ++ b) := by
 apply ByteArray.ext
 rw [ByteArray.data_append]
 simp
@[simp] theorem bs_get (l : List UInt8) (i : Nat) : (bs l)[i]? = l[i]? := by
 rcases Nat.lt_or_ge i l.length with h | h
 ·rw [getElem?_pos (bs l) i (by simpa using h), List.getElem?_eq_getElem h]
  rfl
 ·rw [getElem?_neg (bs l) i (by simpa using h), List.getElem?_eq_none h]
@[simp] theorem bs_extract (l : List UInt8) (i j : Nat) : (bs l).extract i j = bs ((l.take j).drop i) := by
 apply ByteArray.ext
 rw [ByteArray.data_extract]
 simp [List.extract_eq_take_drop, List.drop_take]
@[simp] theorem bs_toList (l : List UInt8) : (bs l).toList = l := by rw [ByteArray.toList_eq]; simp
theorem bs_inj {a b : List UInt8} : bs a = bs b ↔ a = b := ⟨fun h => by simpa using congrArg (fun x => x.data.toList) h, fun h => h ▸ rfl⟩
@[simp] theorem bs_beq (a b : List UInt8) : (bs a == bs b) = (a == b) := by
 rw [Bool.eq_iff_iff, beq_iff_eq, beq_iff_eq, bs_inj]
@[simp] theorem bytesOf_nil : bytesOf [] = some [] := rfl
@[simp] theorem bytesOf_cons (n : Int) (r : List (List AV)) : bytesOf ([.int .u8 n] :: r) = (bytesOf r).map (UInt8.ofNat n.toNat :: ·) := rfl
@[simp] theorem bytesOf_bytes : ∀ (l : List UInt8), bytesOf (l.map byteRow) = some l
 | [] => rfl
 | b :: l => by
   rw [List.map_cons, byteRow, bytesOf_cons, bytesOf_bytes l]
   simp
section
variable (b : Bool)
@[simp] theorem s_noOwn1_ifc : (AV.ifc b).noOwn1 = (AV.ifc b) := rfl
@[simp] theorem s_noOwnA_ifc : (AV.ifc b).noOwnA = (AV.ifc b) := rfl
@[simp] theorem s_noOwn_ifc : (AV.ifc b).noOwn = (AV.ifc b) := rfl
@[simp] theorem s_isData_ifc : (AV.ifc b).isData = true := rfl
@[simp] theorem s_isTup_ifc : (AV.ifc b).isTup = false := rfl
@[simp] theorem s_known_ifc : (AV.ifc b).known = true := rfl
@[simp] theorem s_cells_ifc : (AV.ifc b).cells = [AV.ifc b] := rfl
@[simp] theorem s_okP_ifc (p : Nat → Nat → Bool) : (AV.ifc b).okP p = true := rfl
@[simp] theorem s_frz1_ifc (st : St) (ws : List AV) (j : Option Nat) : frz1 st ws j (AV.ifc b) = some (AV.ifc b) := rfl
@[simp] theorem s_frzA_ifc (st : St) (ws : List AV) (j : Option Nat) : frzA st ws j (AV.ifc b) = frz1 st ws j (AV.ifc b) := rfl
end
theorem byte_all (p : UInt8 → Prop) [DecidablePred p] (h : ∀ n : Fin 256, p (UInt8.ofNat n.val)) (b : UInt8) : p b := by
 have := h ⟨b.toNat, b.toNat_lt⟩
 simpa using this
theorem loop_to {T : Tab} {kt kb : List Nat} {L : IC} {s : St} {r r' : Fl × St} (h : (sem T).loop kt kb L s = some r) (e : r = r') : (sem T).loop kt kb L s = some r' := e ▸ h
theorem loop_congr {T : Tab} {kt kb : List Nat} {c : IC} {s s' : St} {r : Fl × St} (h : s.mask kt kb = s'.mask kt kb) (hr : (sem T).loop kt kb c s = some r) : (sem T).loop kt kb c s' = some r := by
 obtain ⟨n, hn⟩ := sem_loop_iff.1 hr
 refine sem_loop_iff.2 ⟨n, ?_⟩
 cases n with
 | zero => cases hn
 | succ n =>
   have hn : loopBy (orc T n) kt kb c s = some r := hn
   show loopBy (orc T n) kt kb c s' = some r
   unfold loopBy at hn ⊢
   rw [← h]
   exact hn
theorem loop_all {T : Tab} {kt kb : List Nat} {c : IC} {s0 s1 : St} {p : Fl × St → Prop} (h0 : s0.mask kt kb = some s1) (h : ∃ r, (sem T).loop kt kb c s0 = some r ∧ p r) : ∃ r, (∀ s, s.mask kt kb = some s1 → (sem T).loop kt kb c s = some r) ∧ p r := by
 obtain ⟨r, h1, h2⟩ := h
 exact ⟨r, fun s hs => loop_congr (h0.trans hs.symm) h1, h2⟩
end Go.Ev
