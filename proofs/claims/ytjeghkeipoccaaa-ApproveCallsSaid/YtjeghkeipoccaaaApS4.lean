/- A request's own check. Condition: few votes. -/
import Derived.Test.YtjeghkeipoccaaaApS3
namespace Go.Ev
set_option linter.all false
structure Chg where
  k1 : Int
  b1 : Bool
  h1 : Int
  l1 : Int
  n1 : Int
  k2 : Int
  s1 : ByteArray
  s2 : ByteArray
  n2 : Int
  n3 : Int
  n4 : Int
  s3 : ByteArray
  b2 : Bool
  h2 : Int
  l2 : Int
  n5 : Int
  s4 : ByteArray
def Chg.av (x : Chg) : List AV := [.int .i64 x.k1, .bool x.b1, .int .u64 x.h1, .int .u64 x.l1, .int .i64 x.n1, .int .i64 x.k2, .str x.s1, .str x.s2, .int .i64 x.n2, .int .i64 x.n3, .int .i64 x.n4, .str x.s3, .bool x.b2, .int .u64 x.h2, .int .u64 x.l2, .int .i64 x.n5, .str x.s4]
structure Ask where
  id : Int
  own : ByteArray
  chg : List Chg
  votes : List ByteArray
  need : Int
  til : Int
  st : Int
@[simp] def Ask.av (x : Ask) : List AV := [.int .i64 x.id, .str x.own, .sl none 17 (x.chg.map Chg.av), .sl none 1 (x.votes.map (one1 sAv)), .int .i64 x.need, .int .i64 x.til, .int .i64 x.st]
def dup (b : ByteArray) (l : List ByteArray) (k : Nat) : Bool := (l.getD k ⟨#[]⟩ == b) || (l.take k).any (l.getD k ⟨#[]⟩ == ·)
def timeB (n : Int) : Bool := decide (0 ≤ n) && decide (n ≤ 4294967295)
def badA (x : Ask) : Bool := !person x.own || (x.votes.any (fun s => !person s) || (decide (x.need < 1) || (decide (8 < x.need) || decide (x.need < (x.votes.length : Int)))))
def badB2 (x : Ask) : Bool := decide ((x.chg.length : Int) < 1) || (decide (64 < (x.chg.length : Int)) || (decide (x.st < 1) || (decide (5 < x.st) || !timeB x.til)))
def badV (x : Ask) : Bool := if x.st = 1 then decide ((x.votes.length : Int) = x.need) else if x.st = 2 ∨ x.st = 4 then decide (¬ (x.votes.length : Int) = x.need) else false
def rightE (i : Nat) (x : Ask) : Int := if x.id ≠ (i : Int) + 1 then 7 else if badA x then 1 else if badB2 x then 1 else if (List.range' 0 x.votes.length).any (dup x.own x.votes) then 12 else if badV x then 26 else 0
theorem right_loop (x : Ask) (hx : x.votes.length ≤ 9223372036854775807) (m : Mem) (lv : Nat) : ∀ (d i : Nat), i + d = x.votes.length → ∀ t : St, t.mask [3, 69, 70, 71] [3] = some ⟨108, lv, tmOf [(3, .ptr lv 3 0), (69, .sl none 1 (x.votes.map (one1 sAv))), (70, .int .i64 (x.votes.length : Int)), (71, .int .i64 (i : Int))], bxOf [(3, some (.cells 29 x.av))], m⟩ →
    (sem T).loop [3, 69, 70, 71] [3] L21_0 t = some (if (List.range' i d).any (dup x.own x.votes) then (.ret, ⟨108, lv, tmOf [(4, .int .i64 12)], bxOf [], m⟩) else (.ex 1, ⟨108, lv, tmOf [(3, .ptr lv 3 0)], bxOf [(3, some (.cells 29 x.av))], m⟩))
  | 0, i, hd, t, hs => by
    obtain rfl : i = x.votes.length := by omega
    refine loop_to (loop_end (fl := .ex 1) hs ?_ (by intro e; cases e)) rfl
    simp [L21_0]
  | d + 1, i, hd, t, hs => by
    have hi : i < x.votes.length := by omega
    have hi' : i ≤ x.votes.length := by omega
    have hw := IntWalk.i64_in ((i : Int) + 1) (by omega)
    have hg : x.votes.getD i ⟨#[]⟩ = x.votes[i] := by rw [List.getD_eq_getElem?_getD, List.getElem?_eq_getElem hi]; rfl
    have ht : (x.votes.take i).length ≤ 9223372036854775807 := by rw [List.length_take]; omega
    have hc := call39 x.votes[i] (x.votes.take i) ht
    rw [List.map_take] at hc
    rw [List.range'_succ, List.any_cons]
    cases hb : dup x.own x.votes i with
    | true =>
      refine loop_to (loop_end (fl := .ret) (s' := ⟨108, lv, tmOf [(4, .int .i64 12)], bxOf [], m⟩) hs ?_ (by intro e; cases e)) rfl
      unfold dup at hb; rw [hg] at hb
      cases hq : x.votes[i] == x.own
      · rw [hq, Bool.false_or] at hb
        simp [L21_0, hi, hi', one1, sAv, hq, hc, hb]
      · have hq := beq_iff_eq.1 hq
        simp [L21_0, hi, hi', one1, sAv, hq]
    | false =>
      rw [Bool.false_or]
      refine loop_round hs ?_ (right_loop x hx m lv d (i + 1) (by omega))
      unfold dup at hb; rw [hg, Bool.or_eq_false_iff] at hb
      simp [L21_0, hi, hi', one1, sAv, hb.1, hb.2, hc, hw]
theorem ask_loop (x : Ask) (hx : x.votes.length ≤ 9223372036854775807) (m : Mem) (lv : Nat) : ∀ (d i : Nat), i + d = x.votes.length → ∀ t : St, t.mask [2, 5] [2] = some ⟨119, lv, tmOf [(2, .ptr lv 2 0), (5, .int .i64 (i : Int))], bxOf [(2, some (.cells 29 x.av))], m⟩ →
    (sem T).loop [2, 5] [2] L22_0 t = some (if (List.range' i d).any (dup x.own x.votes) then (.ret, ⟨119, lv, tmOf [(4, .int .i64 12)], bxOf [], m⟩) else (.ex 0, ⟨119, lv, tmOf [(2, .ptr lv 2 0)], bxOf [(2, some (.cells 29 x.av))], m⟩))
  | 0, i, hd, t, hs => by
    obtain rfl : i = x.votes.length := by omega
    refine loop_to (loop_end (fl := .ex 0) hs ?_ (by intro e; cases e)) rfl
    simp [L22_0]
  | d + 1, i, hd, t, hs => by
    have hi : i < x.votes.length := by omega
    have hi' : i ≤ x.votes.length := by omega
    have hw := IntWalk.i64_in ((i : Int) + 1) (by omega)
    have hg : x.votes.getD i ⟨#[]⟩ = x.votes[i] := by rw [List.getD_eq_getElem?_getD, List.getElem?_eq_getElem hi]; rfl
    have ht : (x.votes.take i).length ≤ 9223372036854775807 := by rw [List.length_take]; omega
    have hc := call46 x.votes[i] (x.votes.take i) ht
    rw [List.map_take] at hc
    rw [List.range'_succ, List.any_cons]
    cases hb : dup x.own x.votes i with
    | true =>
      refine loop_to (loop_end (fl := .ret) (s' := ⟨119, lv, tmOf [(4, .int .i64 12)], bxOf [], m⟩) hs ?_ (by intro e; cases e)) rfl
      unfold dup at hb; rw [hg] at hb
      cases hq : x.votes[i] == x.own
      · rw [hq, Bool.false_or] at hb
        simp [L22_0, hi, hi', one1, sAv, hq, hc, hb]
      · have hq := beq_iff_eq.1 hq
        simp [L22_0, hi, hi', one1, sAv, hq]
    | false =>
      rw [Bool.false_or]
      refine loop_round hs ?_ (ask_loop x hx m lv d (i + 1) (by omega))
      unfold dup at hb; rw [hg, Bool.or_eq_false_iff] at hb
      simp [L22_0, hi, hi', one1, sAv, hb.1, hb.2, hc, hw]
end Go.Ev
