/- ShG, RsJ, ShU, joined. Condition: each part's own. -/
import Derived.Test.YtcnlfelalgaepaaGreatDoorLibT
import Derived.Test.YtcnlfelalgaepaaGreatDoorShA
import Derived.Test.YtcnlfelalgaepaaGreatDoorRsK
/- The library's answers in the shallow words. Condition: none. -/
namespace Go.Ev
set_option linter.all false
theorem call_giv {T : Tab} {f : FuncId} {g : List AV → Mem → Nat → Option (List AV × Mem)} {args : List AV} {m : Mem} {l : Nat} {r : List AV × Mem} (hg : T.given f = some g) (h : g args m l = some r) : (sem T).call f args m l = some r := by
  apply sem_call
  unfold callBy
  rw [hg]
  exact h
def itoaI (_ : Nat) (n : Int) : Option (List UInt8) := if -9223372036854775808 ≤ n ∧ n ≤ 9223372036854775807 then some (itoaB n).data.toList else none
theorem itoaI_call {N : Nat} {n : Int} {r : List UInt8} (h : itoaI N n = some r) (m : Mem) (lv : Nat) : (sem T).call 50 [.int .i64 n] m lv = some (((fun p => ([.str (bs p)], m)) : _ → List AV × Mem) r) := by
  refine call_giv (g := gItoa) rfl ?_
  unfold itoaI at h
  unfold gItoa
  simp only
  split at h
  · rename_i hc
    injection h with h
    subst h
    rw [if_pos hc]
    rfl
  · cases h
def atoiI (_ : Nat) (s : List UInt8) : Option (Int × Bool) :=
  if s.length ≤ 281474976710656 then
    some (match Lib.atoiAll s with
    | .ok v => (v, false)
    | .range => (Lib.atoiSat s, true)
    | _ => (0, true))
  else none
theorem atoiI_call {N : Nat} {s : List UInt8} {r : Int × Bool} (h : atoiI N s = some r) (m : Mem) (lv : Nat) : (sem T).call 100 [.str (bs s)] m lv = some (((fun p => ([.int .i64 p.1, .ifc p.2], m)) : _ → List AV × Mem) r) := by
  refine call_giv (g := gAtoi) rfl ?_
  unfold atoiI at h
  unfold gAtoi
  simp only
  split at h
  · rename_i hc
    injection h with h
    subst h
    rw [if_pos (by simpa using hc)]
    unfold atoiG
    simp only [bs_data]
    split <;> simp_all
  · cases h
def joinI (_ : Nat) (xs : List (List UInt8)) (sep : List UInt8) : Option (List UInt8) := if xs.length ≤ 140737488355328 ∧ (Lib.join xs sep).length ≤ 140737488355328 then some (Lib.join xs sep) else none
theorem strsOf_map (xs : List (List UInt8)) : strsOf (xs.map sRow) = some (xs.map bs) := by
  induction xs with
  | nil => rfl
  | cons x r ih =>
    show strsOf ([.str (bs x)] :: r.map sRow) = _
    simp only [strsOf, ih, Option.map_some, List.map_cons]
theorem joinI_call {N : Nat} {xs : List (List UInt8)} {sep r : List UInt8} (h : joinI N xs sep = some r) (m : Mem) (lv : Nat) : (sem T).call 29 [.sl none 1 (List.map sRow xs), .str (bs sep)] m lv = some (((fun p => ([.str (bs p)], m)) : _ → List AV × Mem) r) := by
  refine call_giv (g := gJoin) rfl ?_
  unfold joinI at h
  unfold gJoin
  have e : joinB (xs.map bs) (bs sep) = bs (Lib.join xs sep) := by
    unfold joinB
    simp only [List.map_map, bs_data]
    have : xs.map ((fun x : ByteArray => x.data.toList) ∘ bs) = xs := by
      conv => rhs; rw [← List.map_id xs]
      exact List.map_congr_left fun x _ => by simp
    rw [this]
    rfl
  simp only [strsOf_map, e, List.length_map, bs_size]
  split at h
  · rename_i hc
    injection h with h
    subst h
    rw [if_pos hc]
  · cases h
def lowerI (_ : Nat) (s : List UInt8) : Option (List UInt8) := if s.length ≤ 140737488355328 then some (s.map lowB) else none
theorem lowerI_call {N : Nat} {s r : List UInt8} (h : lowerI N s = some r) (m : Mem) (lv : Nat) : (sem T).call 135 [.str (bs s)] m lv = some (((fun p => ([.str (bs p)], m)) : _ → List AV × Mem) r) := by
  refine call_giv (g := gLower) rfl ?_
  unfold lowerI at h
  unfold gLower
  simp only
  split at h
  · rename_i hc
    injection h with h
    subst h
    rw [if_pos (by rw [bs_size]; exact hc)]
    unfold lowerB
    simp only [bs_data]
    rfl
  · cases h
/-! ### Tables -/
def pow10I (i : Int) : Option Int := if i.toNat < 20 then some (10 ^ i.toNat) else none
@[simp] theorem y_pow10 (i : Int) : glob 0 (offN 0 i 1) = (pow10I i).map fun z => .int .u64 z := by
  have e : offN 0 i 1 = i.toNat := by unfold offN; omega
  rw [e]
  unfold pow10I
  show (if i.toNat < 20 then some (AV.int .u64 (10 ^ i.toNat)) else none) = _
  split <;> rfl
def dbI (i : Int) : Option Int := dB64[i.toNat]?
@[simp] theorem y_db (i : Int) : glob 7 (offN 0 i 1) = (dbI i).map fun z => .int .u8 z := by
  have e : offN 0 i 1 = i.toNat := by unfold offN; omega
  rw [e]
  rfl
end Go.Ev
/- Layer 6's quoted texts, decimals in the shallow words; math/bits at sixteen. Condition: none. -/
namespace Go.Ev
set_option linter.all false
def quoteI (_ : Nat) (s : List UInt8) : Option (List UInt8) := if s.length ≤ 17592186044416 then some (quoteL s) else none
theorem quoteI_callP {N : Nat} {s r : List UInt8} (h : quoteI N s = some r) (m : Mem) (lv : Nat) : (sem T).call 28 [.str (bs s)] m lv = some (((fun p => ([.str (bs p)], m)) : _ → List AV × Mem) r) := by
  unfold quoteI at h
  split at h
  · injection h with h
    subst h
    rw [call11 _ (by assumption)]
  · cases h
theorem quoteI_callR {N : Nat} {s r : List UInt8} (h : quoteI N s = some r) (m : Mem) (lv : Nat) : (sem T).call 30 [.str (bs s)] m lv = some (((fun p => ([.str (bs p)], m)) : _ → List AV × Mem) r) := by
  unfold quoteI at h
  split at h
  · injection h with h
    subst h
    rw [call12 _ (by assumption)]
  · cases h
def decI (_ : Nat) (n : Int) : Option (List UInt8) := if 0 ≤ n ∧ n ≤ 9223372036854775807 then some (Lib.decDigits n.toNat) else none
theorem decI_call {N : Nat} {n : Int} {r : List UInt8} (h : decI N n = some r) (m : Mem) (lv : Nat) : (sem T).call 62 [.int .i64 n] m lv = some (((fun p => ([.str (bs p)], m)) : _ → List AV × Mem) r) := by
  unfold decI at h
  split at h
  · rename_i hc
    injection h with h
    subst h
    have e : n = ((n.toNat : Nat) : Int) := by omega
    conv => lhs; rw [e]
    rw [call38 n.toNat (by omega)]
  · cases h
def tzI (_ : Nat) (n : Int) : Option Int := if n = 16 then some 4 else none
theorem tz16 (m : Mem) (lv : Nat) : (orc T 20).call 147 [.int .u64 16] m lv = some ([.int .i64 4], m) := by kernel_rfl
theorem tzI_call {N : Nat} {n r : Int} (h : tzI N n = some r) (m : Mem) (lv : Nat) : (sem T).call 147 [.int .u64 n] m lv = some (((fun p => ([.int .i64 p], m)) : _ → List AV × Mem) r) := by
  unfold tzI at h
  split at h
  · rename_i hc
    injection h with h
    subst h
    subst hc
    exact sem_call_iff.2 ⟨20, tz16 m lv⟩
  · cases h
end Go.Ev
/- Room behind lists that are told one by one. Condition: none. -/
namespace Go.Ev
set_option linter.all false
theorem Ok.go {α : Type} {e : Option α} {P : α → Prop} (hP : Ok e P) : ∀ r, e = Option.some r → P r := hP
section
variable {γ : Type}
@[simp] theorem room_u1 (x : List AV) (r : List γ) (b : Nat) : room [x] r b = room [()] r b := rfl
@[simp] theorem room_u2 (x y : List AV) (r : List γ) (b : Nat) : room [x, y] r b = room [(), ()] r b := rfl
@[simp] theorem room_u3 (x y z : List AV) (r : List γ) (b : Nat) : room [x, y, z] r b = room [(), (), ()] r b := rfl
end
end Go.Ev
