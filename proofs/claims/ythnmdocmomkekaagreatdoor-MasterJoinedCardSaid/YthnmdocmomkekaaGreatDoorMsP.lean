/- The entries of a zone file: plain laws. Condition: none. -/
import Derived.Test.YthnmdocmomkekaaGreatDoorRtB
namespace Go.Ev
set_option linter.all false
structure Wd where
  text : List UInt8
  q : Bool
structure Ln where
  num : Nat
  blank : Bool
  words : List Wd
def dg (b : UInt8) : Bool := decide (48 ≤ b.toNat) && decide (b.toNat ≤ 57)
def pln (b : UInt8) : Bool := decide (33 ≤ b.toNat) && decide (b.toNat ≤ 126) && decide (b ≠ 34) && decide (b ≠ 40) && decide (b ≠ 41) && decide (b ≠ 59) && decide (b ≠ 92)
def blk (b : UInt8) : Bool := decide (b = 32) || decide (b = 9)
def blkAt (l : List UInt8) : Bool := match l with | [] => false | b :: _ => blk b
/-- What stands behind a backslash: the byte, and how many bytes it takes. -/
def escL : List UInt8 → Option (UInt8 × Nat)
  | [] => none
  | a :: r =>
    if dg a = true then
      match r with
      | b :: c :: _ => if dg b = true ∧ dg c = true ∧ 100 * (a.toNat - 48) + 10 * (b.toNat - 48) + (c.toNat - 48) ≤ 255 then some (UInt8.ofNat (100 * (a.toNat - 48) + 10 * (b.toNat - 48) + (c.toNat - 48)), 3) else none
      | _ => none
    else if 33 ≤ a.toNat ∧ a.toNat ≤ 126 then some (a, 1) else none
theorem escL_pos {l : List UInt8} {b : UInt8} {k : Nat} (h : escL l = some (b, k)) : 1 ≤ k ∧ k ≤ l.length := by
  unfold escL at h
  split at h
  · cases h
  · split at h
    · split at h
      · split at h
        · cases h; simp
        · cases h
      · cases h
    · split at h
      · cases h; simp
      · cases h
/-- A quoted word, behind its first mark. -/
def quoL : Nat → List UInt8 → List UInt8 → Option (List UInt8 × List UInt8)
  | 0, _, _ => none
  | _ + 1, _, [] => none
  | k + 1, out, c :: t =>
    if c = 34 then some (out, t) else
    if c = 92 then (match escL t with | none => none | some (b, n) => quoL k (out ++ [b]) (t.drop n)) else
    if 32 ≤ c.toNat ∧ c.toNat ≤ 126 then quoL k (out ++ [c]) t else none
theorem quoL_len : ∀ (k : Nat) (out l o r : List UInt8), quoL k out l = some (o, r) → r.length < l.length
  | 0, out, l, o, r, h => by cases h
  | k + 1, out, [], o, r, h => by cases h
  | k + 1, out, c :: t, o, r, h => by
    unfold quoL at h
    split at h
    · cases h; simp
    · split at h
      · split at h
        · cases h
        · have := quoL_len k _ _ o r h
          simp only [List.length_drop, List.length_cons] at *
          omega
      · split at h
        · have := quoL_len k _ _ o r h
          simp only [List.length_cons]
          omega
        · cases h
inductive Scn where
  | ok (l : List Ln)
  | bad (n : Nat)
def addLn (out : List Ln) (x : Ln) : List Ln := if x.words = [] then out else out ++ [x]
/-- The text from a place on; fuel: its length is enough. -/
def scanL : Nat → List UInt8 → Nat → Bool → Ln → List Ln → Scn
  | _, [], n, op, x, out => if op then .bad n else .ok (addLn out x)
  | 0, _ :: _, n, op, x, out => .bad n
  | k + 1, c :: t, n, op, x, out =>
    if c = 10 then (if op then scanL k t (n + 1) op x out else scanL k t (n + 1) op ⟨n + 1, blkAt t, []⟩ (addLn out x)) else
    if blk c = true then scanL k t n op x out else
    if c = 59 then scanL k (t.dropWhile (· ≠ 10)) n op x out else
    if c = 40 ∧ op = false then scanL k t n true x out else
    if c = 41 ∧ op = true then scanL k t n false x out else
    if c = 34 then (match quoL t.length.succ [] t with | none => .bad n | some (w, r) => scanL k r n op { x with words := x.words ++ [⟨w, true⟩] } out) else
    if pln c = true then scanL k (t.dropWhile pln) n op { x with words := x.words ++ [⟨c :: t.takeWhile pln, false⟩] } out else .bad n
end Go.Ev
