/- The package's variables that hold something known: strconv's errors, the powers of ten, a table of math/bits. Condition: none. -/
import Derived.Test.YtcnlfelalgaepaaGreatDoorEvQ
namespace Go.Ev
set_option linter.all false
def dB64 : List Int := [0, 1, 56, 2, 57, 49, 28, 3, 61, 58, 42, 50, 38, 29, 17, 4, 62, 47, 59, 36, 45, 43, 51, 22, 53, 39, 33, 30, 24, 18, 12, 5, 63, 55, 48, 27, 60, 41, 37, 16, 46, 35, 44, 21, 52, 32, 23, 11, 54, 26, 40, 15, 34, 20, 31, 10, 25, 14, 19, 9, 13, 8, 7, 6]
def glob (g o : Nat) : Option AV :=
 match g with
 | 2 | 3 => if o = 0 then some (.ifc true) else none
 | 0 => if o < 20 then some (.int .u64 (10 ^ o)) else none
 | 7 => (dB64[o]?).map fun z => .int .u8 z
 | _ => none
def globN (g : Nat) : Option Nat := if g = 0 then some 20 else if g = 7 then some 64 else none
def globI (g : Nat) : Bool := g == 1
end Go.Ev
