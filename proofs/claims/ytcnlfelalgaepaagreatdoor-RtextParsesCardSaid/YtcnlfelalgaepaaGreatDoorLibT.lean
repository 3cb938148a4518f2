/- LibD, Tab, joined. Condition: each part's own. -/
import Derived.Test.YtcnlfelalgaepaaGreatDoorEvU
import Derived.Lib.AtoiAll
import Derived.Lib.ItoaNum
import Derived.Lib.Join
import Derived.Lib.IndexMore
import Derived.Test.YtcnlfelalgaepaaGreatDoorMsG
/- The table of functions: what is answered for the library's. Condition: none. -/
namespace Go.Ev
set_option linter.all false
def digs : Nat → Nat → List UInt8
 | 0, _ => []
 | k + 1, u => if u < 10 then [UInt8.ofNat (48 + u)] else digs k (u / 10) ++ [UInt8.ofNat (48 + u % 10)]
def itoaB (n : Int) : ByteArray := ⟨(if n < 0 then 45 :: digs 20 n.natAbs else digs 20 n.toNat).toArray⟩
def atoiG (s : ByteArray) : List AV :=
 match Lib.atoiAll s.data.toList with
 | .ok v => [.int .i64 v, .ifc false]
 | .range => [.int .i64 (Lib.atoiSat s.data.toList), .ifc true]
 | _ => [.int .i64 0, .ifc true]
def strsOf : List (List AV) → Option (List ByteArray)
 | [] => some []
 | [.str s] :: r => (strsOf r).map (s :: ·)
 | _ => none
def joinB (xs : List ByteArray) (sep : ByteArray) : ByteArray := ⟨(Lib.join (xs.map (·.data.toList)) sep.data.toList).toArray⟩
def lowB (b : UInt8) : UInt8 := if 65 ≤ b.toNat ∧ b.toNat ≤ 90 then UInt8.ofNat (b.toNat + 32) else b
def lowerB (s : ByteArray) : ByteArray := ⟨(s.data.toList.map lowB).toArray⟩
def gAtoi (args : List AV) (m : Mem) (_ : Nat) : Option (List AV × Mem) :=
 match args with
 | [.str s] => if s.size ≤ 281474976710656 then some (atoiG s, m) else none
 | _ => none
def gItoa (args : List AV) (m : Mem) (_ : Nat) : Option (List AV × Mem) :=
 match args with
 | [.int .i64 n] => if -9223372036854775808 ≤ n ∧ n ≤ 9223372036854775807 then some ([.str (itoaB n)], m) else none
 | _ => none
def gJoin (args : List AV) (m : Mem) (_ : Nat) : Option (List AV × Mem) :=
 match args with
 | [.sl _ 1 rows, .str sep] =>
   match strsOf rows with
   | some xs => if xs.length ≤ 140737488355328 ∧ (joinB xs sep).size ≤ 140737488355328 then some ([.str (joinB xs sep)], m) else none
   | none => none
 | _ => none
def gLower (args : List AV) (m : Mem) (_ : Nat) : Option (List AV × Mem) :=
 match args with
 | [.str s] => if s.size ≤ 140737488355328 then some ([.str (lowerB s)], m) else none
 | _ => none
def gCut (args : List AV) (m : Mem) (_ : Nat) : Option (List AV × Mem) :=
 match args with
 | [.str s, .str sep] => if s.size ≤ 1000000000 then some ([.str ⟨(Lib.cut s.data.toList sep.data.toList).1.toArray⟩, .str ⟨(Lib.cut s.data.toList sep.data.toList).2.1.toArray⟩, .bool (Lib.cut s.data.toList sep.data.toList).2.2], m) else none
 | _ => none
end Go.Ev
/- The table of functions: those that are turned, and what is answered for the library's. Condition: none. -/
namespace Go.Ev
set_option linter.all false
def givens (f : FuncId) : Option (List AV → Mem → Nat → Option (List AV × Mem)) :=
 match f with
 | 100 => some gAtoi
 | 50 => some gItoa
 | 29 => some gJoin
 | 135 => some gLower
 | 155 => some gCut
 | _ => none
def T : Tab := { fns := fns, given := givens }
end Go.Ev
