/- Functions as plain Lean, and that the evaluator's texts answer so. Condition: none. -/
import Derived.Test.YthnmdocmomkekaaGreatDoorShA
import Derived.Test.YthnmdocmomkekaaGreatDoorTab
import Derived.Test.YthnmdocmomkekaaGreatDoorMsA
namespace Go.Ev
set_option linter.all false
set_option maxRecDepth 10000
set_option maxHeartbeats 8000000
@[ext] structure Rw1 where
  c0 : List UInt8
  c1 : Bool
  deriving DecidableEq
def Rw1E (x : Rw1) : List AV := [(.str (bs x.c0)), (.bool x.c1)]
attribute [simp] Rw1E

@[ext] structure Rw0 where
  c0 : Int
  c1 : Bool
  c2 : List Rw1
  deriving DecidableEq
def Rw0E (x : Rw0) : List AV := [(.int .i64 x.c0), (.bool x.c1), (.sl none 2 (List.map Rw1E x.c2))]
attribute [simp] Rw0E
def master_isDigit (N : Nat) (a0 : Int) : Option (Bool) :=
  bif leI 48 a0 then
    bif leI a0 57 then
      some true
    else
      some false
  else
    some false
theorem master_isDigit_ok (N : Nat) (a0 : Int) (m : Mem) (lv : Nat) : Ok (master_isDigit N a0) (fun r => (sem T).call 130 [(.int .u8 a0)] m lv = some (((fun p => ([(.bool p)], m)) : _ → List AV × Mem) r)) := by
  unfold master_isDigit
  repeat' (with_reducible first | (refine Ok.ite (fun _ => ?_) (fun _ => ?_)))
  all_goals (refine Ok.some (call_go rfl rfl rfl ?_); simp [F130, *])
theorem master_isDigit_call {N : Nat} {a0 : Int} {r : Bool} (h : master_isDigit N a0 = some r) (m : Mem) (lv : Nat) : (sem T).call 130 [(.int .u8 a0)] m lv = some (((fun p => ([(.bool p)], m)) : _ → List AV × Mem) r) := (master_isDigit_ok N a0 m lv).of h
def i_stringslite_IndexByte (N : Nat) (a0 : List UInt8) (a1 : Int) : Option (Int) :=
  some (ixB a0 a1)
theorem i_stringslite_IndexByte_ok (N : Nat) (a0 : List UInt8) (a1 : Int) (m : Mem) (lv : Nat) : Ok (i_stringslite_IndexByte N a0 a1) (fun r => (sem T).call 131 [(.str (bs a0)), (.int .u8 a1)] m lv = some (((fun p => ([(.int .i64 p)], m)) : _ → List AV × Mem) r)) := by
  unfold i_stringslite_IndexByte
  repeat' (with_reducible first | (refine Ok.ite (fun _ => ?_) (fun _ => ?_)))
  all_goals (refine Ok.some (call_go rfl rfl rfl ?_); simp [F131, *])
theorem i_stringslite_IndexByte_call {N : Nat} {a0 : List UInt8} {a1 : Int} {r : Int} (h : i_stringslite_IndexByte N a0 a1 = some r) (m : Mem) (lv : Nat) : (sem T).call 131 [(.str (bs a0)), (.int .u8 a1)] m lv = some (((fun p => ([(.int .i64 p)], m)) : _ → List AV × Mem) r) := (i_stringslite_IndexByte_ok N a0 a1 m lv).of h
def strings_IndexByte (N : Nat) (a0 : List UInt8) (a1 : Int) : Option (Int) :=
  Option.bind (i_stringslite_IndexByte N a0 a1) fun r1 =>
  some r1
theorem strings_IndexByte_ok (N : Nat) (a0 : List UInt8) (a1 : Int) (m : Mem) (lv : Nat) : Ok (strings_IndexByte N a0 a1) (fun r => (sem T).call 84 [(.str (bs a0)), (.int .u8 a1)] m lv = some (((fun p => ([(.int .i64 p)], m)) : _ → List AV × Mem) r)) := by
  unfold strings_IndexByte
  repeat' (with_reducible first | (refine Ok.ite (fun _ => ?_) (fun _ => ?_)) | (refine Ok.bind (fun _ h => ?_); (first | (have h := i_stringslite_IndexByte_call h) | skip)))
  all_goals (refine Ok.some (call_go rfl rfl rfl ?_); simp [F84, *])
theorem strings_IndexByte_call {N : Nat} {a0 : List UInt8} {a1 : Int} {r : Int} (h : strings_IndexByte N a0 a1 = some r) (m : Mem) (lv : Nat) : (sem T).call 84 [(.str (bs a0)), (.int .u8 a1)] m lv = some (((fun p => ([(.int .i64 p)], m)) : _ → List AV × Mem) r) := (strings_IndexByte_ok N a0 a1 m lv).of h
def master_plain (N : Nat) (a0 : Int) : Option (Bool) :=
  bif leI 33 a0 then
    bif leI a0 126 then
      Option.bind (strings_IndexByte N ([34, 40, 41, 59, 92] : List UInt8) a0) fun r1 =>
      bif ltI r1 0 then
        some true
      else
        some false
    else
      some false
  else
    some false
theorem master_plain_ok (N : Nat) (a0 : Int) (m : Mem) (lv : Nat) : Ok (master_plain N a0) (fun r => (sem T).call 51 [(.int .u8 a0)] m lv = some (((fun p => ([(.bool p)], m)) : _ → List AV × Mem) r)) := by
  unfold master_plain
  repeat' (with_reducible first | (refine Ok.ite (fun _ => ?_) (fun _ => ?_)) | (refine Ok.bind (fun _ h => ?_); (first | (have h := strings_IndexByte_call h) | skip)))
  all_goals (refine Ok.some (call_go rfl rfl rfl ?_); simp [F51, *])
theorem master_plain_call {N : Nat} {a0 : Int} {r : Bool} (h : master_plain N a0 = some r) (m : Mem) (lv : Nat) : (sem T).call 51 [(.int .u8 a0)] m lv = some (((fun p => ([(.bool p)], m)) : _ → List AV × Mem) r) := (master_plain_ok N a0 m lv).of h
def r09_plain (N : Nat) (a0 : Int) : Option (Bool) :=
  bif leI 33 a0 then
    bif leI a0 126 then
      bif eqI a0 34 then
        some false
      else
      bif eqI a0 40 then
        some false
      else
      bif eqI a0 41 then
        some false
      else
      bif eqI a0 59 then
        some false
      else
      bif eqI a0 92 then
        some false
      else
        some true
    else
      some false
  else
    some false
theorem r09_plain_ok (N : Nat) (a0 : Int) (m : Mem) (lv : Nat) : Ok (r09_plain N a0) (fun r => (sem T).call 27 [(.int .u8 a0)] m lv = some (((fun p => ([(.bool p)], m)) : _ → List AV × Mem) r)) := by
  unfold r09_plain
  repeat' (with_reducible first | (refine Ok.ite (fun _ => ?_) (fun _ => ?_)))
  all_goals (refine Ok.some (call_go rfl rfl rfl ?_); simp [F27, *])
theorem r09_plain_call {N : Nat} {a0 : Int} {r : Bool} (h : r09_plain N a0 = some r) (m : Mem) (lv : Nat) : (sem T).call 27 [(.int .u8 a0)] m lv = some (((fun p => ([(.bool p)], m)) : _ → List AV × Mem) r) := (r09_plain_ok N a0 m lv).of h
def r09_blank (N : Nat) (a0 : List UInt8) (a1 : Int) : Option (Bool) :=
  bif ltI a1 (ln a0) then
    Option.bind (atI a0 a1) fun c1 =>
    bif eqI (bv c1) 32 then
      some true
    else
    bif eqI (bv c1) 9 then
      some true
    else
      some false
  else
    some false
theorem r09_blank_ok (N : Nat) (a0 : List UInt8) (a1 : Int) (m : Mem) (lv : Nat) : Ok (r09_blank N a0 a1) (fun r => (sem T).call 25 [(.str (bs a0)), (.int .i64 a1)] m lv = some (((fun p => ([(.bool p)], m)) : _ → List AV × Mem) r)) := by
  unfold r09_blank
  repeat' (with_reducible first | (refine Ok.ite (fun _ => ?_) (fun _ => ?_)) | (refine Ok.bind (fun _ h => ?_)))
  all_goals (refine Ok.some (call_go rfl rfl rfl ?_); simp [F25, *])
theorem r09_blank_call {N : Nat} {a0 : List UInt8} {a1 : Int} {r : Bool} (h : r09_blank N a0 a1 = some r) (m : Mem) (lv : Nat) : (sem T).call 25 [(.str (bs a0)), (.int .i64 a1)] m lv = some (((fun p => ([(.bool p)], m)) : _ → List AV × Mem) r) := (r09_blank_ok N a0 a1 m lv).of h
def r09_digit (N : Nat) (a0 : List UInt8) (a1 : Int) : Option (Bool) :=
  bif ltI a1 (ln a0) then
    Option.bind (atI a0 a1) fun c1 =>
    bif leI 48 (bv c1) then
      bif leI (bv c1) 57 then
        some true
      else
        some false
    else
      some false
  else
    some false
theorem r09_digit_ok (N : Nat) (a0 : List UInt8) (a1 : Int) (m : Mem) (lv : Nat) : Ok (r09_digit N a0 a1) (fun r => (sem T).call 85 [(.str (bs a0)), (.int .i64 a1)] m lv = some (((fun p => ([(.bool p)], m)) : _ → List AV × Mem) r)) := by
  unfold r09_digit
  repeat' (with_reducible first | (refine Ok.ite (fun _ => ?_) (fun _ => ?_)) | (refine Ok.bind (fun _ h => ?_)))
  all_goals (refine Ok.some (call_go rfl rfl rfl ?_); simp [F85, *])
theorem r09_digit_call {N : Nat} {a0 : List UInt8} {a1 : Int} {r : Bool} (h : r09_digit N a0 a1 = some r) (m : Mem) (lv : Nat) : (sem T).call 85 [(.str (bs a0)), (.int .i64 a1)] m lv = some (((fun p => ([(.bool p)], m)) : _ → List AV × Mem) r) := (r09_digit_ok N a0 a1 m lv).of h
def master_escape (N : Nat) (a0 : List UInt8) : Option (Int × Int) :=
  bif eqS a0 ([] : List UInt8) then
    some (0, 0)
  else
  Option.bind (atI a0 0) fun c1 =>
  Option.bind (master_isDigit N (bv c1)) fun r2 =>
  bif r2 then
    bif ltI (ln a0) 3 then
      some (0, 0)
    else
    Option.bind (atI a0 1) fun c3 =>
    Option.bind (master_isDigit N (bv c3)) fun r4 =>
    bif r4 then
      Option.bind (atI a0 2) fun c5 =>
      Option.bind (master_isDigit N (bv c5)) fun r6 =>
      bif r6 then
        bif ltI 255 (addI .i64 (addI .i64 (mulI .i64 100 (convI .i64 (subI .u8 (bv c1) 48))) (mulI .i64 10 (convI .i64 (subI .u8 (bv c3) 48)))) (convI .i64 (subI .u8 (bv c5) 48))) then
          some (0, 0)
        else
          some (convI .u8 (addI .i64 (addI .i64 (mulI .i64 100 (convI .i64 (subI .u8 (bv c1) 48))) (mulI .i64 10 (convI .i64 (subI .u8 (bv c3) 48)))) (convI .i64 (subI .u8 (bv c5) 48))), 3)
      else
        some (0, 0)
    else
      some (0, 0)
  else
  bif ltI (bv c1) 33 then
    some (0, 0)
  else
  bif ltI 126 (bv c1) then
    some (0, 0)
  else
    some (bv c1, 1)
theorem master_escape_ok (N : Nat) (a0 : List UInt8) (m : Mem) (lv : Nat) : Ok (master_escape N a0) (fun r => (sem T).call 83 [(.str (bs a0))] m lv = some (((fun p => ([(.int .u8 p.1), (.int .i64 p.2)], m)) : _ → List AV × Mem) r)) := by
  unfold master_escape
  repeat' (with_reducible first | (refine Ok.ite (fun _ => ?_) (fun _ => ?_)) | (refine Ok.bind (fun _ h => ?_); (first | (have h := master_isDigit_call h) | skip)))
  all_goals (refine Ok.some (call_go rfl rfl rfl ?_); simp [F83, *])
theorem master_escape_call {N : Nat} {a0 : List UInt8} {r : Int × Int} (h : master_escape N a0 = some r) (m : Mem) (lv : Nat) : (sem T).call 83 [(.str (bs a0))] m lv = some (((fun p => ([(.int .u8 p.1), (.int .i64 p.2)], m)) : _ → List AV × Mem) r) := (master_escape_ok N a0 m lv).of h
def r09_escape (N : Nat) (a0 : List UInt8) (a1 : Int) : Option (Int × Int) :=
  bif leI (ln a0) (addI .i64 a1 1) then
    some (0, 0)
  else
  Option.bind (atI a0 (addI .i64 a1 1)) fun c1 =>
  bif ltI (bv c1) 33 then
    some (0, 0)
  else
  bif ltI 126 (bv c1) then
    some (0, 0)
  else
  Option.bind (r09_digit N a0 (addI .i64 a1 1)) fun r2 =>
  bif r2 then
    Option.bind (r09_digit N a0 (addI .i64 a1 2)) fun r3 =>
    bif r3 then
      Option.bind (r09_digit N a0 (addI .i64 a1 3)) fun r4 =>
      bif r4 then
        Option.bind (atI a0 (addI .i64 a1 2)) fun c5 =>
        Option.bind (atI a0 (addI .i64 a1 3)) fun c6 =>
        bif ltI 255 (addI .i64 (addI .i64 (mulI .i64 100 (convI .i64 (subI .u8 (bv c1) 48))) (mulI .i64 10 (convI .i64 (subI .u8 (bv c5) 48)))) (convI .i64 (subI .u8 (bv c6) 48))) then
          some (0, 0)
        else
          some (convI .u8 (addI .i64 (addI .i64 (mulI .i64 100 (convI .i64 (subI .u8 (bv c1) 48))) (mulI .i64 10 (convI .i64 (subI .u8 (bv c5) 48)))) (convI .i64 (subI .u8 (bv c6) 48))), 4)
      else
        some (0, 0)
    else
      some (0, 0)
  else
    some (bv c1, 2)
theorem r09_escape_ok (N : Nat) (a0 : List UInt8) (a1 : Int) (m : Mem) (lv : Nat) : Ok (r09_escape N a0 a1) (fun r => (sem T).call 53 [(.str (bs a0)), (.int .i64 a1)] m lv = some (((fun p => ([(.int .u8 p.1), (.int .i64 p.2)], m)) : _ → List AV × Mem) r)) := by
  unfold r09_escape
  repeat' (with_reducible first | (refine Ok.ite (fun _ => ?_) (fun _ => ?_)) | (refine Ok.bind (fun _ h => ?_); (first | (have h := r09_digit_call h) | skip)))
  all_goals (refine Ok.some (call_go rfl rfl rfl ?_); simp [F53, *])
theorem r09_escape_call {N : Nat} {a0 : List UInt8} {a1 : Int} {r : Int × Int} (h : r09_escape N a0 a1 = some r) (m : Mem) (lv : Nat) : (sem T).call 53 [(.str (bs a0)), (.int .i64 a1)] m lv = some (((fun p => ([(.int .u8 p.1), (.int .i64 p.2)], m)) : _ → List AV × Mem) r) := (r09_escape_ok N a0 a1 m lv).of h
def r09_quoted_L0 (N : Nat) : Nat → List UInt8 → Int → List UInt8 → Option (O2 (List UInt8 × Int × Bool) (Unit))
  | 0, _, _, _ => none
  | n + 1, p0, p1, p2 =>
    bif ltI p1 (ln p0) then
      Option.bind (atI p0 p1) fun c1 =>
      bif eqI (bv c1) 34 then
        some (.a (p2, addI .i64 p1 1, true))
      else
      bif ltI (bv c1) 32 then
        some (.a (([] : List UInt8), 0, false))
      else
      bif ltI 126 (bv c1) then
        some (.a (([] : List UInt8), 0, false))
      else
      bif eqI (bv c1) 92 then
        Option.bind (r09_escape N p0 p1) fun r2 =>
        bif eqI r2.2 0 then
          some (.a (([] : List UInt8), 0, false))
        else
        bif isB r2.1 then
          bif room1 p2 1 1 then
            r09_quoted_L0 N n p0 (addI .i64 p1 r2.2) (p2 ++ [u8 r2.1])
          else
          none
        else
        none
      else
      bif eqI 1 0 then
        some (.a (([] : List UInt8), 0, false))
      else
      bif room1 p2 1 1 then
        r09_quoted_L0 N n p0 (addI .i64 p1 1) (p2 ++ [c1])
      else
      none
    else
      some (.b ())
theorem r09_quoted_L0_ok (N : Nat) (m : Mem) (lv : Nat) : ∀ (n : Nat) (p0 : List UInt8) (p1 : Int) (p2 : List UInt8), Ok (r09_quoted_L0 N n p0 p1 p2) (fun r => ∀ s : St, s.mask [0, 1, 7] [] = some ⟨48, lv, tmOf [(0, (.str (bs p0))), (1, (.int .i64 p1)), (7, (.sl (some 5) 1 (List.map byteRow p2)))], bxOf [], m⟩ → (sem T).loop [0, 1, 7] [] L26_0 s = some ((O2.el (fun p => (.ret, ⟨48, lv, tmOf [(4, (.str (bs p.1))), (5, (.int .i64 p.2.1)), (6, (.bool p.2.2))], bxOf [], m⟩)) (fun p => (.ex 0, ⟨48, lv, tmOf [], bxOf [], m⟩)) : _ → Fl × St) r))
  | 0, _, _, _ => Ok.none
  | n + 1, p0, p1, p2 => by
    unfold r09_quoted_L0
    repeat' (with_reducible first | (refine Ok.ite (fun _ => ?_) (fun _ => ?_)) | exact Ok.none | (refine Ok.bind (fun _ h => ?_); (first | (have h := r09_escape_call h) | skip)))
    all_goals first
      | (refine Ok.some (fun s hs => loop_end hs ?_ (by intro e; cases e)); simp [L26_0, *]; done)
      | (refine fun r hr s hs => loop_round hs ?_ (r09_quoted_L0_ok N m lv n _ _ _ r hr); simp [L26_0, *]; done)
def r09_quoted (N : Nat) (a0 : List UInt8) (a1 : Int) : Option (List UInt8 × Int × Bool) :=
  Option.bind (r09_quoted_L0 N N a0 (addI .i64 a1 1) []) (O2.el
    (fun o1 =>
      some (o1.1, o1.2.1, o1.2.2))
    (fun o2 =>
      some (([] : List UInt8), 0, false)))
theorem r09_quoted_ok (N : Nat) (a0 : List UInt8) (a1 : Int) (m : Mem) (lv : Nat) : Ok (r09_quoted N a0 a1) (fun r => (sem T).call 26 [(.str (bs a0)), (.int .i64 a1)] m lv = some (((fun p => ([(.str (bs p.1)), (.int .i64 p.2.1), (.bool p.2.2)], m)) : _ → List AV × Mem) r)) := by
  unfold r09_quoted
  repeat' (with_reducible first | (refine Ok.ite (fun _ => ?_) (fun _ => ?_)) | (refine Ok.bind2 (fun _ h => ?_) (fun _ h => ?_) <;> (first | (have h := (r09_quoted_L0_ok N m lv _ _ _ _).of h) | skip)))
  all_goals (refine Ok.some (call_go rfl rfl rfl ?_); simp [F26, *])
theorem r09_quoted_call {N : Nat} {a0 : List UInt8} {a1 : Int} {r : List UInt8 × Int × Bool} (h : r09_quoted N a0 a1 = some r) (m : Mem) (lv : Nat) : (sem T).call 26 [(.str (bs a0)), (.int .i64 a1)] m lv = some (((fun p => ([(.str (bs p.1)), (.int .i64 p.2.1), (.bool p.2.2)], m)) : _ → List AV × Mem) r) := (r09_quoted_ok N a0 a1 m lv).of h
def r09_Scan_L1 (N : Nat) : Nat → List UInt8 → List Rw0 → Bool → Int → Int → Int → Bool → List Rw1 → Option (Int)
  | 0, _, _, _, _, _, _, _, _ => none
  | n + 1, p0, p1, p2, p3, p4, p5, p6, p7 =>
    bif ltI p4 (ln p0) then
      Option.bind (atI p0 p4) fun c1 =>
      bif eqI (bv c1) 10 then
        some p4
      else
      r09_Scan_L1 N n p0 p1 p2 p3 (addI .i64 p4 1) p5 p6 p7
    else
      some p4
theorem r09_Scan_L1_ok (N : Nat) (m : Mem) (lv : Nat) : ∀ (n : Nat) (p0 : List UInt8) (p1 : List Rw0) (p2 : Bool) (p3 : Int) (p4 : Int) (p5 : Int) (p6 : Bool) (p7 : List Rw1), Ok (r09_Scan_L1 N n p0 p1 p2 p3 p4 p5 p6 p7) (fun r => ∀ s : St, s.mask [0, 5, 6, 7, 8, 9] [6] = some ⟨147, lv, tmOf [(0, (.str (bs p0))), (5, (.sl (some 66) 3 (List.map Rw0E p1))), (6, (.ptr lv 6 0)), (7, (.bool p2)), (8, (.int .i64 p3)), (9, (.int .i64 p4))], bxOf [(6, some (.cells 66 [(.int .i64 p5), (.bool p6), (.sl (some 69) 2 (List.map Rw1E p7))]))], m⟩ → (sem T).loop [0, 5, 6, 7, 8, 9] [6] L11_1 s = some (((fun p => (.ex 3, ⟨147, lv, tmOf [(0, (.str (bs p0))), (5, (.sl (some 66) 3 (List.map Rw0E p1))), (6, (.ptr lv 6 0)), (7, (.bool p2)), (8, (.int .i64 p3)), (9, (.int .i64 p))], bxOf [(6, some (.cells 66 [(.int .i64 p5), (.bool p6), (.sl (some 69) 2 (List.map Rw1E p7))]))], m⟩)) : _ → Fl × St) r))
  | 0, _, _, _, _, _, _, _, _ => Ok.none
  | n + 1, p0, p1, p2, p3, p4, p5, p6, p7 => by
    unfold r09_Scan_L1
    repeat' (with_reducible first | (refine Ok.ite (fun _ => ?_) (fun _ => ?_)) | (refine Ok.bind (fun _ h => ?_)))
    all_goals first
      | (refine Ok.some (fun s hs => loop_end hs ?_ (by intro e; cases e)); simp [L11_1, *]; done)
      | (refine fun r hr s hs => loop_round hs ?_ (r09_Scan_L1_ok N m lv n _ _ _ _ _ _ _ _ r hr); simp [L11_1, *]; done)
def r09_Scan_L0 (N : Nat) : Nat → List UInt8 → List Rw0 → Bool → Int → Int → Int → Int → Bool → List Rw1 → Option (Int)
  | 0, _, _, _, _, _, _, _, _, _ => none
  | n + 1, p0, p1, p2, p3, p4, p5, p6, p7, p8 =>
    bif ltI p4 (ln p0) then
      Option.bind (atI p0 p4) fun c1 =>
      Option.bind (r09_plain N (bv c1)) fun r2 =>
      bif r2 then
        r09_Scan_L0 N n p0 p1 p2 p3 (addI .i64 p4 1) p5 p6 p7 p8
      else
        some p4
    else
      some p4
theorem r09_Scan_L0_ok (N : Nat) (m : Mem) (lv : Nat) : ∀ (n : Nat) (p0 : List UInt8) (p1 : List Rw0) (p2 : Bool) (p3 : Int) (p4 : Int) (p5 : Int) (p6 : Int) (p7 : Bool) (p8 : List Rw1), Ok (r09_Scan_L0 N n p0 p1 p2 p3 p4 p5 p6 p7 p8) (fun r => ∀ s : St, s.mask [0, 5, 6, 7, 8, 9, 14] [6] = some ⟨147, lv, tmOf [(0, (.str (bs p0))), (5, (.sl (some 66) 3 (List.map Rw0E p1))), (6, (.ptr lv 6 0)), (7, (.bool p2)), (8, (.int .i64 p3)), (9, (.int .i64 p4)), (14, (.int .i64 p5))], bxOf [(6, some (.cells 66 [(.int .i64 p6), (.bool p7), (.sl (some 69) 2 (List.map Rw1E p8))]))], m⟩ → (sem T).loop [0, 5, 6, 7, 8, 9, 14] [6] L11_0 s = some (((fun p => (.ex 5, ⟨147, lv, tmOf [(0, (.str (bs p0))), (5, (.sl (some 66) 3 (List.map Rw0E p1))), (6, (.ptr lv 6 0)), (7, (.bool p2)), (8, (.int .i64 p3)), (9, (.int .i64 p)), (14, (.int .i64 p5))], bxOf [(6, some (.cells 66 [(.int .i64 p6), (.bool p7), (.sl (some 69) 2 (List.map Rw1E p8))]))], m⟩)) : _ → Fl × St) r))
  | 0, _, _, _, _, _, _, _, _, _ => Ok.none
  | n + 1, p0, p1, p2, p3, p4, p5, p6, p7, p8 => by
    unfold r09_Scan_L0
    repeat' (with_reducible first | (refine Ok.ite (fun _ => ?_) (fun _ => ?_)) | (refine Ok.bind (fun _ h => ?_); (first | (have h := r09_plain_call h) | skip)))
    all_goals first
      | (refine Ok.some (fun s hs => loop_end hs ?_ (by intro e; cases e)); simp [L11_0, *]; done)
      | (refine fun r hr s hs => loop_round hs ?_ (r09_Scan_L0_ok N m lv n _ _ _ _ _ _ _ _ _ r hr); simp [L11_0, *]; done)
def r09_Scan_L2 (N : Nat) : Nat → List UInt8 → List Rw0 → Bool → Int → Int → Int → Bool → List Rw1 → Option (O2 (List Rw0 × Int × Int) (List Rw0 × Bool × Int × Int × Bool × List Rw1))
  | 0, _, _, _, _, _, _, _, _ => none
  | n + 1, p0, p1, p2, p3, p4, p5, p6, p7 =>
    bif ltI p4 (ln p0) then
      Option.bind (atI p0 p4) fun c1 =>
      bif eqI (bv c1) 10 then
        bif p2 then
          r09_Scan_L2 N n p0 p1 true (addI .i64 p3 1) (addI .i64 p4 1) p5 p6 p7
        else
        bif ltI 0 (ln p7) then
          bif room1 p1 1 40 then
            Option.bind (r09_blank N p0 (addI .i64 p4 1)) fun r2 =>
            r09_Scan_L2 N n p0 (p1 ++ [(⟨p5, p6, p7⟩ : Rw0)]) false (addI .i64 p3 1) (addI .i64 p4 1) (addI .i64 p3 1) r2 []
          else
          none
        else
        Option.bind (r09_blank N p0 (addI .i64 p4 1)) fun r3 =>
        r09_Scan_L2 N n p0 p1 false (addI .i64 p3 1) (addI .i64 p4 1) (addI .i64 p3 1) r3 []
      else
      Option.bind (r09_blank N p0 p4) fun r4 =>
      bif r4 then
        r09_Scan_L2 N n p0 p1 p2 p3 (addI .i64 p4 1) p5 p6 p7
      else
      bif eqI (bv c1) 59 then
        Option.bind (r09_Scan_L1 N N p0 p1 p2 p3 p4 p5 p6 p7) fun o5 =>
        r09_Scan_L2 N n p0 p1 p2 p3 o5 p5 p6 p7
      else
      bif eqI (bv c1) 40 then
        bif p2 then
          bif eqI (bv c1) 41 then
            r09_Scan_L2 N n p0 p1 false p3 (addI .i64 p4 1) p5 p6 p7
          else
          bif eqI (bv c1) 34 then
            Option.bind (r09_quoted N p0 p4) fun r6 =>
            bif r6.2.2 then
              bif room1 p7 1 24 then
                r09_Scan_L2 N n p0 p1 true p3 r6.2.1 p5 p6 (p7 ++ [(⟨r6.1, true⟩ : Rw1)])
              else
              none
            else
              some (.a ([], p3, 30))
          else
          Option.bind (r09_plain N (bv c1)) fun r7 =>
          bif r7 then
            Option.bind (r09_Scan_L0 N N p0 p1 true p3 p4 p4 p5 p6 p7) fun o8 =>
            Option.bind (cutI p0 p4 o8) fun s9 =>
            bif room1 p7 1 24 then
              r09_Scan_L2 N n p0 p1 true p3 o8 p5 p6 (p7 ++ [(⟨s9, false⟩ : Rw1)])
            else
            none
          else
            some (.a ([], p3, 30))
        else
        r09_Scan_L2 N n p0 p1 true p3 (addI .i64 p4 1) p5 p6 p7
      else
      bif eqI (bv c1) 41 then
        bif p2 then
          r09_Scan_L2 N n p0 p1 false p3 (addI .i64 p4 1) p5 p6 p7
        else
        bif eqI (bv c1) 34 then
          Option.bind (r09_quoted N p0 p4) fun r10 =>
          bif r10.2.2 then
            bif room1 p7 1 24 then
              r09_Scan_L2 N n p0 p1 false p3 r10.2.1 p5 p6 (p7 ++ [(⟨r10.1, true⟩ : Rw1)])
            else
            none
          else
            some (.a ([], p3, 30))
        else
        Option.bind (r09_plain N (bv c1)) fun r11 =>
        bif r11 then
          Option.bind (r09_Scan_L0 N N p0 p1 false p3 p4 p4 p5 p6 p7) fun o12 =>
          Option.bind (cutI p0 p4 o12) fun s13 =>
          bif room1 p7 1 24 then
            r09_Scan_L2 N n p0 p1 false p3 o12 p5 p6 (p7 ++ [(⟨s13, false⟩ : Rw1)])
          else
          none
        else
          some (.a ([], p3, 30))
      else
      bif eqI (bv c1) 34 then
        Option.bind (r09_quoted N p0 p4) fun r14 =>
        bif r14.2.2 then
          bif room1 p7 1 24 then
            r09_Scan_L2 N n p0 p1 p2 p3 r14.2.1 p5 p6 (p7 ++ [(⟨r14.1, true⟩ : Rw1)])
          else
          none
        else
          some (.a ([], p3, 30))
      else
      Option.bind (r09_plain N (bv c1)) fun r15 =>
      bif r15 then
        Option.bind (r09_Scan_L0 N N p0 p1 p2 p3 p4 p4 p5 p6 p7) fun o16 =>
        Option.bind (cutI p0 p4 o16) fun s17 =>
        bif room1 p7 1 24 then
          r09_Scan_L2 N n p0 p1 p2 p3 o16 p5 p6 (p7 ++ [(⟨s17, false⟩ : Rw1)])
        else
        none
      else
        some (.a ([], p3, 30))
    else
      some (.b (p1, p2, p3, p5, p6, p7))
theorem r09_Scan_L2_ok (N : Nat) (m : Mem) (lv : Nat) : ∀ (n : Nat) (p0 : List UInt8) (p1 : List Rw0) (p2 : Bool) (p3 : Int) (p4 : Int) (p5 : Int) (p6 : Bool) (p7 : List Rw1), Ok (r09_Scan_L2 N n p0 p1 p2 p3 p4 p5 p6 p7) (fun r => ∀ s : St, s.mask [0, 5, 6, 7, 8, 9] [6] = some ⟨147, lv, tmOf [(0, (.str (bs p0))), (5, (.sl (some 66) 3 (List.map Rw0E p1))), (6, (.ptr lv 6 0)), (7, (.bool p2)), (8, (.int .i64 p3)), (9, (.int .i64 p4))], bxOf [(6, some (.cells 66 [(.int .i64 p5), (.bool p6), (.sl (some 69) 2 (List.map Rw1E p7))]))], m⟩ → (sem T).loop [0, 5, 6, 7, 8, 9] [6] L11_2 s = some ((O2.el (fun p => (.ret, ⟨147, lv, tmOf [(2, (.sl (some 66) 3 (List.map Rw0E p.1))), (3, (.int .i64 p.2.1)), (4, (.int .i64 p.2.2))], bxOf [], m⟩)) (fun p => (.ex 0, ⟨147, lv, tmOf [(5, (.sl (some 66) 3 (List.map Rw0E p.1))), (6, (.ptr lv 6 0)), (7, (.bool p.2.1)), (8, (.int .i64 p.2.2.1))], bxOf [(6, some (.cells 66 [(.int .i64 p.2.2.2.1), (.bool p.2.2.2.2.1), (.sl (some 69) 2 (List.map Rw1E p.2.2.2.2.2))]))], m⟩)) : _ → Fl × St) r))
  | 0, _, _, _, _, _, _, _, _ => Ok.none
  | n + 1, p0, p1, p2, p3, p4, p5, p6, p7 => by
    unfold r09_Scan_L2
    repeat' (with_reducible first | (refine Ok.ite (fun _ => ?_) (fun _ => ?_)) | exact Ok.none | (refine Ok.bind (fun _ h => ?_); (first | (have h := r09_blank_call h) | (have h := r09_plain_call h) | (have h := r09_quoted_call h) | (have h := (r09_Scan_L0_ok N m lv _ _ _ _ _ _ _ _ _ _).of h) | (have h := (r09_Scan_L1_ok N m lv _ _ _ _ _ _ _ _ _).of h) | skip)))
    all_goals first
      | (refine Ok.some (fun s hs => loop_end hs ?_ (by intro e; cases e)); simp [L11_2, *]; done)
      | (refine fun r hr s hs => loop_round hs ?_ (r09_Scan_L2_ok N m lv n _ _ _ _ _ _ _ _ r hr); simp [L11_2, *]; done)
def r09_Scan (N : Nat) (a0 : List UInt8) : Option (List Rw0 × Int × Int) :=
  bif ltI 65536 (ln a0) then
    some ([], 0, 9)
  else
  Option.bind (r09_blank N a0 0) fun r1 =>
  Option.bind (r09_Scan_L2 N N a0 [] false 1 0 1 r1 []) (O2.el
    (fun o2 =>
      some (o2.1, o2.2.1, o2.2.2))
    (fun o3 =>
      bif o3.2.1 then
        some ([], o3.2.2.1, 30)
      else
      bif ltI 0 (ln o3.2.2.2.2.2) then
        bif room1 o3.1 1 40 then
          some (o3.1 ++ [(⟨o3.2.2.2.1, o3.2.2.2.2.1, o3.2.2.2.2.2⟩ : Rw0)], 0, 0)
        else
        none
      else
        some (o3.1, 0, 0)))
theorem r09_Scan_ok (N : Nat) (a0 : List UInt8) (m : Mem) (lv : Nat) : Ok (r09_Scan N a0) (fun r => (sem T).call 11 [(.str (bs a0))] m lv = some (((fun p => ([(.sl (some 66) 3 (List.map Rw0E p.1)), (.int .i64 p.2.1), (.int .i64 p.2.2)], m)) : _ → List AV × Mem) r)) := by
  unfold r09_Scan
  repeat' (with_reducible first | (refine Ok.ite (fun _ => ?_) (fun _ => ?_)) | exact Ok.none | (refine Ok.bind2 (fun _ h => ?_) (fun _ h => ?_) <;> (first | (have h := r09_blank_call h) | (have h := (r09_Scan_L2_ok N m lv _ _ _ _ _ _ _ _ _).of h) | skip)) | (refine Ok.bind (fun _ h => ?_); (first | (have h := r09_blank_call h) | (have h := (r09_Scan_L2_ok N m lv _ _ _ _ _ _ _ _ _).of h) | skip)))
  all_goals (refine Ok.some (call_go rfl rfl rfl ?_); simp [F11, *])
theorem r09_Scan_call {N : Nat} {a0 : List UInt8} {r : List Rw0 × Int × Int} (h : r09_Scan N a0 = some r) (m : Mem) (lv : Nat) : (sem T).call 11 [(.str (bs a0))] m lv = some (((fun p => ([(.sl (some 66) 3 (List.map Rw0E p.1)), (.int .i64 p.2.1), (.int .i64 p.2.2)], m)) : _ → List AV × Mem) r) := (r09_Scan_ok N a0 m lv).of h
def w09_feeds_L0 (N : Nat) : Nat → List UInt8 → Int → Int → Option (Int)
  | 0, _, _, _ => none
  | n + 1, p0, p1, p2 =>
    bif ltI p2 (ln p0) then
      Option.bind (atI p0 p2) fun c1 =>
      bif eqI (bv c1) 10 then
        w09_feeds_L0 N n p0 (addI .i64 p1 1) (addI .i64 p2 1)
      else
      w09_feeds_L0 N n p0 p1 (addI .i64 p2 1)
    else
      some p1
theorem w09_feeds_L0_ok (N : Nat) (m : Mem) (lv : Nat) : ∀ (n : Nat) (p0 : List UInt8) (p1 : Int) (p2 : Int), Ok (w09_feeds_L0 N n p0 p1 p2) (fun r => ∀ s : St, s.mask [0, 3, 4] [] = some ⟨18, lv, tmOf [(0, (.str (bs p0))), (3, (.int .i64 p1)), (4, (.int .i64 p2))], bxOf [], m⟩ → (sem T).loop [0, 3, 4] [] L22_0 s = some (((fun p => (.ex 0, ⟨18, lv, tmOf [(3, (.int .i64 p))], bxOf [], m⟩)) : _ → Fl × St) r))
  | 0, _, _, _ => Ok.none
  | n + 1, p0, p1, p2 => by
    unfold w09_feeds_L0
    repeat' (with_reducible first | (refine Ok.ite (fun _ => ?_) (fun _ => ?_)) | (refine Ok.bind (fun _ h => ?_)))
    all_goals first
      | (refine Ok.some (fun s hs => loop_end hs ?_ (by intro e; cases e)); simp [L22_0, *]; done)
      | (refine fun r hr s hs => loop_round hs ?_ (w09_feeds_L0_ok N m lv n _ _ _ r hr); simp [L22_0, *]; done)
def w09_feeds (N : Nat) (a0 : List UInt8) : Option (Int) :=
  Option.bind (w09_feeds_L0 N N a0 0 0) fun o1 =>
  some o1
theorem w09_feeds_ok (N : Nat) (a0 : List UInt8) (m : Mem) (lv : Nat) : Ok (w09_feeds N a0) (fun r => (sem T).call 22 [(.str (bs a0))] m lv = some (((fun p => ([(.int .i64 p)], m)) : _ → List AV × Mem) r)) := by
  unfold w09_feeds
  repeat' (with_reducible first | (refine Ok.ite (fun _ => ?_) (fun _ => ?_)) | (refine Ok.bind (fun _ h => ?_); (first | (have h := (w09_feeds_L0_ok N m lv _ _ _ _).of h) | skip)))
  all_goals (refine Ok.some (call_go rfl rfl rfl ?_); simp [F22, *])
theorem w09_feeds_call {N : Nat} {a0 : List UInt8} {r : Int} (h : w09_feeds N a0 = some r) (m : Mem) (lv : Nat) : (sem T).call 22 [(.str (bs a0))] m lv = some (((fun p => ([(.int .i64 p)], m)) : _ → List AV × Mem) r) := (w09_feeds_ok N a0 m lv).of h
def w09_lines_L0 (N : Nat) : Nat → List Rw0 → List Rw0 → Int → Int → Int → Option (O2 (Bool) (Unit))
  | 0, _, _, _, _, _ => none
  | n + 1, p0, p1, p2, p3, p4 =>
    Option.bind (atI p0 p3) fun e1 =>
    bif ltI p4 (ln e1.c2) then
      Option.bind (atI e1.c2 p4) fun e2 =>
      Option.bind (atI p1 p3) fun e3 =>
      Option.bind (atI e3.c2 p4) fun e4 =>
      bif eqS e2.c0 e4.c0 then
        bif e2.c1 then
          bif e4.c1 then
            w09_lines_L0 N n p0 p1 p2 p3 (addI .i64 p4 1)
          else
            some (.a false)
        else
        bif e4.c1 then
          some (.a false)
        else
        w09_lines_L0 N n p0 p1 p2 p3 (addI .i64 p4 1)
      else
        some (.a false)
    else
      some (.b ())
theorem w09_lines_L0_ok (N : Nat) (m : Mem) (lv : Nat) : ∀ (n : Nat) (p0 : List Rw0) (p1 : List Rw0) (p2 : Int) (p3 : Int) (p4 : Int), Ok (w09_lines_L0 N n p0 p1 p2 p3 p4) (fun r => ∀ s : St, s.mask [0, 1, 2, 7, 8] [] = some ⟨111, lv, tmOf [(0, (.sl none 3 (List.map Rw0E p0))), (1, (.sl none 3 (List.map Rw0E p1))), (2, (.int .i64 p2)), (7, (.int .i64 p3)), (8, (.int .i64 p4))], bxOf [], m⟩ → (sem T).loop [0, 1, 2, 7, 8] [] L12_0 s = some ((O2.el (fun p => (.ret, ⟨111, lv, tmOf [(6, (.bool p))], bxOf [], m⟩)) (fun p => (.ex 2, ⟨111, lv, tmOf [(0, (.sl none 3 (List.map Rw0E p0))), (1, (.sl none 3 (List.map Rw0E p1))), (2, (.int .i64 p2)), (7, (.int .i64 p3))], bxOf [], m⟩)) : _ → Fl × St) r))
  | 0, _, _, _, _, _ => Ok.none
  | n + 1, p0, p1, p2, p3, p4 => by
    unfold w09_lines_L0
    repeat' (with_reducible first | (refine Ok.ite (fun _ => ?_) (fun _ => ?_)) | (refine Ok.bind (fun _ h => ?_)))
    all_goals first
      | (refine Ok.some (fun s hs => loop_end hs ?_ (by intro e; cases e)); simp [L12_0, *]; done)
      | (refine fun r hr s hs => loop_round hs ?_ (w09_lines_L0_ok N m lv n _ _ _ _ _ r hr); simp [L12_0, *]; done)
def w09_lines_L1 (N : Nat) : Nat → List Rw0 → List Rw0 → Int → Int → Option (O2 (Bool) (Unit))
  | 0, _, _, _, _ => none
  | n + 1, p0, p1, p2, p3 =>
    bif ltI p3 (ln p0) then
      Option.bind (atI p0 p3) fun e1 =>
      Option.bind (atI p1 p3) fun e2 =>
      bif eqI e1.c0 (addI .i64 e2.c0 p2) then
        bif e1.c1 then
          bif e2.c1 then
            bif eqI (ln e1.c2) (ln e2.c2) then
              Option.bind (w09_lines_L0 N N p0 p1 p2 p3 0) (O2.el
                (fun o3 =>
                  some (.a o3))
                (fun o4 =>
                  w09_lines_L1 N n p0 p1 p2 (addI .i64 p3 1)))
            else
              some (.a false)
          else
            some (.a false)
        else
        bif e2.c1 then
          some (.a false)
        else
        bif eqI (ln e1.c2) (ln e2.c2) then
          Option.bind (w09_lines_L0 N N p0 p1 p2 p3 0) (O2.el
            (fun o5 =>
              some (.a o5))
            (fun o6 =>
              w09_lines_L1 N n p0 p1 p2 (addI .i64 p3 1)))
        else
          some (.a false)
      else
        some (.a false)
    else
      some (.b ())
theorem w09_lines_L1_ok (N : Nat) (m : Mem) (lv : Nat) : ∀ (n : Nat) (p0 : List Rw0) (p1 : List Rw0) (p2 : Int) (p3 : Int), Ok (w09_lines_L1 N n p0 p1 p2 p3) (fun r => ∀ s : St, s.mask [0, 1, 2, 7] [] = some ⟨111, lv, tmOf [(0, (.sl none 3 (List.map Rw0E p0))), (1, (.sl none 3 (List.map Rw0E p1))), (2, (.int .i64 p2)), (7, (.int .i64 p3))], bxOf [], m⟩ → (sem T).loop [0, 1, 2, 7] [] L12_1 s = some ((O2.el (fun p => (.ret, ⟨111, lv, tmOf [(6, (.bool p))], bxOf [], m⟩)) (fun p => (.ex 0, ⟨111, lv, tmOf [], bxOf [], m⟩)) : _ → Fl × St) r))
  | 0, _, _, _, _ => Ok.none
  | n + 1, p0, p1, p2, p3 => by
    unfold w09_lines_L1
    repeat' (with_reducible first | (refine Ok.ite (fun _ => ?_) (fun _ => ?_)) | (refine Ok.bind2 (fun _ h => ?_) (fun _ h => ?_) <;> (first | (have h := (w09_lines_L0_ok N m lv _ _ _ _ _ _).of h) | skip)) | (refine Ok.bind (fun _ h => ?_); (first | (have h := (w09_lines_L0_ok N m lv _ _ _ _ _ _).of h) | skip)))
    all_goals first
      | (refine Ok.some (fun s hs => loop_end hs ?_ (by intro e; cases e)); simp [L12_1, *]; done)
      | (refine fun r hr s hs => loop_round hs ?_ (w09_lines_L1_ok N m lv n _ _ _ _ r hr); simp [L12_1, *]; done)
def w09_lines (N : Nat) (a0 : List Rw0) (a1 : List Rw0) (a2 : Int) : Option (Bool) :=
  bif eqI (ln a0) (ln a1) then
    Option.bind (w09_lines_L1 N N a0 a1 a2 0) (O2.el
      (fun o1 =>
        some o1)
      (fun o2 =>
        some true))
  else
    some false
theorem w09_lines_ok (N : Nat) (a0 : List Rw0) (a1 : List Rw0) (a2 : Int) (m : Mem) (lv : Nat) : Ok (w09_lines N a0 a1 a2) (fun r => (sem T).call 12 [(.sl none 3 (List.map Rw0E a0)), (.sl none 3 (List.map Rw0E a1)), (.int .i64 a2)] m lv = some (((fun p => ([(.bool p)], m)) : _ → List AV × Mem) r)) := by
  unfold w09_lines
  repeat' (with_reducible first | (refine Ok.ite (fun _ => ?_) (fun _ => ?_)) | (refine Ok.bind2 (fun _ h => ?_) (fun _ h => ?_) <;> (first | (have h := (w09_lines_L1_ok N m lv _ _ _ _ _).of h) | skip)))
  all_goals (refine Ok.some (call_go rfl rfl rfl ?_); simp [F12, *])
theorem w09_lines_call {N : Nat} {a0 : List Rw0} {a1 : List Rw0} {a2 : Int} {r : Bool} (h : w09_lines N a0 a1 a2 = some r) (m : Mem) (lv : Nat) : (sem T).call 12 [(.sl none 3 (List.map Rw0E a0)), (.sl none 3 (List.map Rw0E a1)), (.int .i64 a2)] m lv = some (((fun p => ([(.bool p)], m)) : _ → List AV × Mem) r) := (w09_lines_ok N a0 a1 a2 m lv).of h
def master_scanner_comment_L0 (N : Nat) : Nat → List UInt8 → Int → Int → Bool → Option (Int)
  | 0, _, _, _, _ => none
  | n + 1, p0, p1, p2, p3 =>
    bif ltI p1 (ln p0) then
      Option.bind (atI p0 p1) fun c1 =>
      bif eqI (bv c1) 10 then
        some p1
      else
      master_scanner_comment_L0 N n p0 (addI .i64 p1 1) p2 p3
    else
      some p1
theorem master_scanner_comment_L0_ok (N : Nat) (m : Mem) (lv : Nat) (cl0 sl0 : Nat) (hc0 : cl0 < lv) : ∀ (n : Nat) (p0 : List UInt8) (p1 : Int) (p2 : Int) (p3 : Bool), Ok (master_scanner_comment_L0 N n p0 p1 p2 p3) (fun r => ∀ s : St, s.mask [0] [] = some ⟨31, lv, tmOf [(0, (.ptr cl0 sl0 0))], bxOf [], (updM m cl0 sl0 (.cells 60 [(.str (bs p0)), (.int .i64 p1), (.int .i64 p2), (.bool p3)]))⟩ → (sem T).loop [0] [] L49_0 s = some (((fun p => (.ex 0, ⟨31, lv, tmOf [], bxOf [], (updM m cl0 sl0 (.cells 60 [(.str (bs p0)), (.int .i64 p), (.int .i64 p2), (.bool p3)]))⟩)) : _ → Fl × St) r))
  | 0, _, _, _, _ => Ok.none
  | n + 1, p0, p1, p2, p3 => by
    have e0_1 : (cl0 = lv) = False := eq_false (by omega)
    have e0_2 : (lv = cl0) = False := eq_false (by omega)
    have e0_3 : cl0 < lv + 1 := by omega
    unfold master_scanner_comment_L0
    repeat' (with_reducible first | (refine Ok.ite (fun _ => ?_) (fun _ => ?_)) | (refine Ok.bind (fun _ h => ?_)))
    all_goals first
      | (refine Ok.some (fun s hs => loop_end hs ?_ (by intro e; cases e)); simp [L49_0, *]; done)
      | (refine fun r hr s hs => loop_round hs ?_ (master_scanner_comment_L0_ok N m lv cl0 sl0 hc0 n _ _ _ _ r hr); simp [L49_0, *]; done)
def master_scanner_comment (N : Nat) (a0_0 : List UInt8) (a0_1 : Int) (a0_2 : Int) (a0_3 : Bool) : Option (Int) :=
  Option.bind (master_scanner_comment_L0 N N a0_0 a0_1 a0_2 a0_3) fun o1 =>
  some o1
theorem master_scanner_comment_ok (N : Nat) (a0_0 : List UInt8) (a0_1 : Int) (a0_2 : Int) (a0_3 : Bool) (m : Mem) (lv : Nat) (cl0 sl0 : Nat) (hc0 : cl0 < lv) : Ok (master_scanner_comment N a0_0 a0_1 a0_2 a0_3) (fun r => (sem T).call 49 [(.ptr cl0 sl0 0)] (updM m cl0 sl0 (.cells 60 [(.str (bs a0_0)), (.int .i64 a0_1), (.int .i64 a0_2), (.bool a0_3)])) lv = some (((fun p => ([], (updM m cl0 sl0 (.cells 60 [(.str (bs a0_0)), (.int .i64 p), (.int .i64 a0_2), (.bool a0_3)])))) : _ → List AV × Mem) r)) := by
  have e0_1 : (cl0 = lv) = False := eq_false (by omega)
  have e0_2 : (lv = cl0) = False := eq_false (by omega)
  have e0_3 : cl0 < lv + 1 := by omega
  unfold master_scanner_comment
  repeat' (with_reducible first | (refine Ok.ite (fun _ => ?_) (fun _ => ?_)) | (refine Ok.bind (fun _ h => ?_); (first | (have h := (master_scanner_comment_L0_ok N m lv cl0 sl0 hc0 _ _ _ _ _).of h) | skip)))
  all_goals (refine Ok.some (call_go rfl rfl rfl ?_); simp [F49, *])
theorem master_scanner_comment_call {N : Nat} {a0_0 : List UInt8} {a0_1 : Int} {a0_2 : Int} {a0_3 : Bool} {r : Int} (h : master_scanner_comment N a0_0 a0_1 a0_2 a0_3 = some r) (M : Mem) (lv : Nat) (cl0 sl0 : Nat) (hc0 : cl0 < lv) (hm0 : M cl0 sl0 = some (.cells 60 [(.str (bs a0_0)), (.int .i64 a0_1), (.int .i64 a0_2), (.bool a0_3)])) : (sem T).call 49 [(.ptr cl0 sl0 0)] M lv = some (((fun p => ([], (updM M cl0 sl0 (.cells 60 [(.str (bs a0_0)), (.int .i64 p), (.int .i64 a0_2), (.bool a0_3)])))) : _ → List AV × Mem) r) := (congrArg (fun x => (sem T).call 49 _ x lv) (updM_self hm0)).symm.trans ((master_scanner_comment_ok N a0_0 a0_1 a0_2 a0_3 M lv cl0 sl0 hc0).of h)
def master_scanner_quoted_L0 (N : Nat) : Nat → List UInt8 → Int → List UInt8 → Bool → List UInt8 → Int → Int → Bool → Option (O2 (Bool × List UInt8 × Bool × Int) (Unit))
  | 0, _, _, _, _, _, _, _, _ => none
  | n + 1, p0, p1, p2, p3, p4, p5, p6, p7 =>
    bif ltI p1 (ln p4) then
      Option.bind (atI p4 p1) fun c1 =>
      bif eqI (bv c1) 34 then
        some (.a (true, p0, true, addI .i64 p1 1))
      else
      bif eqI (bv c1) 92 then
        Option.bind (cutI p4 (addI .i64 p1 1) (ln p4)) fun s2 =>
        Option.bind (master_escape N s2) fun r3 =>
        bif eqI r3.2 0 then
          some (.a (false, ([] : List UInt8), false, p5))
        else
        bif isB r3.1 then
          bif room1 p0 1 1 then
            master_scanner_quoted_L0 N n (p0 ++ [u8 r3.1]) (addI .i64 (addI .i64 p1 r3.2) 1) p2 p3 p4 p5 p6 p7
          else
          none
        else
        none
      else
      bif ltI (bv c1) 32 then
        some (.a (false, ([] : List UInt8), false, p5))
      else
      bif ltI 126 (bv c1) then
        some (.a (false, ([] : List UInt8), false, p5))
      else
      bif room1 p0 1 1 then
        master_scanner_quoted_L0 N n (p0 ++ [c1]) (addI .i64 p1 1) p2 p3 p4 p5 p6 p7
      else
      none
    else
      some (.b ())
theorem master_scanner_quoted_L0_ok (N : Nat) (m : Mem) (lv : Nat) (cl0 sl0 : Nat) (hc0 : cl0 < lv) : ∀ (n : Nat) (p0 : List UInt8) (p1 : Int) (p2 : List UInt8) (p3 : Bool) (p4 : List UInt8) (p5 : Int) (p6 : Int) (p7 : Bool), Ok (master_scanner_quoted_L0 N n p0 p1 p2 p3 p4 p5 p6 p7) (fun r => ∀ s : St, s.mask [0, 2, 4, 5] [2] = some ⟨77, lv, tmOf [(0, (.ptr cl0 sl0 0)), (2, (.ptr lv 2 0)), (4, (.sl (some 5) 1 (List.map byteRow p0))), (5, (.int .i64 p1))], bxOf [(2, some (.cells 55 [(.str (bs p2)), (.bool p3)]))], (updM m cl0 sl0 (.cells 60 [(.str (bs p4)), (.int .i64 p5), (.int .i64 p6), (.bool p7)]))⟩ → (sem T).loop [0, 2, 4, 5] [2] L50_0 s = some ((O2.el (fun p => (.ret, ⟨77, lv, tmOf [(2, (.ptr lv 2 0)), (3, (.bool p.1))], bxOf [(2, some (.cells 55 [(.str (bs p.2.1)), (.bool p.2.2.1)]))], (updM m cl0 sl0 (.cells 60 [(.str (bs p4)), (.int .i64 p.2.2.2), (.int .i64 p6), (.bool p7)]))⟩)) (fun p => (.ex 0, ⟨77, lv, tmOf [(2, (.ptr lv 2 0))], bxOf [(2, some (.cells 55 [(.str (bs p2)), (.bool p3)]))], (updM m cl0 sl0 (.cells 60 [(.str (bs p4)), (.int .i64 p5), (.int .i64 p6), (.bool p7)]))⟩)) : _ → Fl × St) r))
  | 0, _, _, _, _, _, _, _, _ => Ok.none
  | n + 1, p0, p1, p2, p3, p4, p5, p6, p7 => by
    have e0_1 : (cl0 = lv) = False := eq_false (by omega)
    have e0_2 : (lv = cl0) = False := eq_false (by omega)
    have e0_3 : cl0 < lv + 1 := by omega
    unfold master_scanner_quoted_L0
    repeat' (with_reducible first | (refine Ok.ite (fun _ => ?_) (fun _ => ?_)) | exact Ok.none | (refine Ok.bind (fun _ h => ?_); (first | (have h := master_escape_call h) | skip)))
    all_goals first
      | (refine Ok.some (fun s hs => loop_end hs ?_ (by intro e; cases e)); simp [L50_0, *]; done)
      | (refine fun r hr s hs => loop_round hs ?_ (master_scanner_quoted_L0_ok N m lv cl0 sl0 hc0 n _ _ _ _ _ _ _ _ r hr); simp [L50_0, *]; done)
def master_scanner_quoted (N : Nat) (a0_0 : List UInt8) (a0_1 : Int) (a0_2 : Int) (a0_3 : Bool) : Option (List UInt8 × Bool × Bool × Int) :=
  Option.bind (master_scanner_quoted_L0 N N [] (addI .i64 a0_1 1) ([] : List UInt8) false a0_0 a0_1 a0_2 a0_3) (O2.el
    (fun o1 =>
      some (o1.2.1, o1.2.2.1, o1.1, o1.2.2.2))
    (fun o2 =>
      some (([] : List UInt8), false, false, a0_1)))
theorem master_scanner_quoted_ok (N : Nat) (a0_0 : List UInt8) (a0_1 : Int) (a0_2 : Int) (a0_3 : Bool) (m : Mem) (lv : Nat) (cl0 sl0 : Nat) (hc0 : cl0 < lv) : Ok (master_scanner_quoted N a0_0 a0_1 a0_2 a0_3) (fun r => (sem T).call 50 [(.ptr cl0 sl0 0)] (updM m cl0 sl0 (.cells 60 [(.str (bs a0_0)), (.int .i64 a0_1), (.int .i64 a0_2), (.bool a0_3)])) lv = some (((fun p => ([(.agg [(.str (bs p.1)), (.bool p.2.1)]), (.bool p.2.2.1)], (updM m cl0 sl0 (.cells 60 [(.str (bs a0_0)), (.int .i64 p.2.2.2), (.int .i64 a0_2), (.bool a0_3)])))) : _ → List AV × Mem) r)) := by
  have e0_1 : (cl0 = lv) = False := eq_false (by omega)
  have e0_2 : (lv = cl0) = False := eq_false (by omega)
  have e0_3 : cl0 < lv + 1 := by omega
  unfold master_scanner_quoted
  repeat' (with_reducible first | (refine Ok.ite (fun _ => ?_) (fun _ => ?_)) | (refine Ok.bind2 (fun _ h => ?_) (fun _ h => ?_) <;> (first | (have h := (master_scanner_quoted_L0_ok N m lv cl0 sl0 hc0 _ _ _ _ _ _ _ _ _).of h) | skip)))
  all_goals (refine Ok.some (call_go rfl rfl rfl ?_); simp [F50, *])
theorem master_scanner_quoted_call {N : Nat} {a0_0 : List UInt8} {a0_1 : Int} {a0_2 : Int} {a0_3 : Bool} {r : List UInt8 × Bool × Bool × Int} (h : master_scanner_quoted N a0_0 a0_1 a0_2 a0_3 = some r) (M : Mem) (lv : Nat) (cl0 sl0 : Nat) (hc0 : cl0 < lv) (hm0 : M cl0 sl0 = some (.cells 60 [(.str (bs a0_0)), (.int .i64 a0_1), (.int .i64 a0_2), (.bool a0_3)])) : (sem T).call 50 [(.ptr cl0 sl0 0)] M lv = some (((fun p => ([(.agg [(.str (bs p.1)), (.bool p.2.1)]), (.bool p.2.2.1)], (updM M cl0 sl0 (.cells 60 [(.str (bs a0_0)), (.int .i64 p.2.2.2), (.int .i64 a0_2), (.bool a0_3)])))) : _ → List AV × Mem) r) := (congrArg (fun x => (sem T).call 50 _ x lv) (updM_self hm0)).symm.trans ((master_scanner_quoted_ok N a0_0 a0_1 a0_2 a0_3 M lv cl0 sl0 hc0).of h)
def master_scanner_unquoted_L0 (N : Nat) : Nat → Int → List UInt8 → Bool → List UInt8 → Int → Int → Bool → Option (Int)
  | 0, _, _, _, _, _, _, _ => none
  | n + 1, p0, p1, p2, p3, p4, p5, p6 =>
    bif ltI p4 (ln p3) then
      Option.bind (atI p3 p4) fun c1 =>
      Option.bind (master_plain N (bv c1)) fun r2 =>
      bif r2 then
        master_scanner_unquoted_L0 N n p0 p1 p2 p3 (addI .i64 p4 1) p5 p6
      else
        some p4
    else
      some p4
theorem master_scanner_unquoted_L0_ok (N : Nat) (m : Mem) (lv : Nat) (cl0 sl0 : Nat) (hc0 : cl0 < lv) : ∀ (n : Nat) (p0 : Int) (p1 : List UInt8) (p2 : Bool) (p3 : List UInt8) (p4 : Int) (p5 : Int) (p6 : Bool), Ok (master_scanner_unquoted_L0 N n p0 p1 p2 p3 p4 p5 p6) (fun r => ∀ s : St, s.mask [0, 2, 3] [2] = some ⟨48, lv, tmOf [(0, (.ptr cl0 sl0 0)), (2, (.ptr lv 2 0)), (3, (.int .i64 p0))], bxOf [(2, some (.cells 55 [(.str (bs p1)), (.bool p2)]))], (updM m cl0 sl0 (.cells 60 [(.str (bs p3)), (.int .i64 p4), (.int .i64 p5), (.bool p6)]))⟩ → (sem T).loop [0, 2, 3] [2] L52_0 s = some (((fun p => (.ex 0, ⟨48, lv, tmOf [(0, (.ptr cl0 sl0 0)), (2, (.ptr lv 2 0)), (3, (.int .i64 p0))], bxOf [(2, some (.cells 55 [(.str (bs p1)), (.bool p2)]))], (updM m cl0 sl0 (.cells 60 [(.str (bs p3)), (.int .i64 p), (.int .i64 p5), (.bool p6)]))⟩)) : _ → Fl × St) r))
  | 0, _, _, _, _, _, _, _ => Ok.none
  | n + 1, p0, p1, p2, p3, p4, p5, p6 => by
    have e0_1 : (cl0 = lv) = False := eq_false (by omega)
    have e0_2 : (lv = cl0) = False := eq_false (by omega)
    have e0_3 : cl0 < lv + 1 := by omega
    unfold master_scanner_unquoted_L0
    repeat' (with_reducible first | (refine Ok.ite (fun _ => ?_) (fun _ => ?_)) | (refine Ok.bind (fun _ h => ?_); (first | (have h := master_plain_call h) | skip)))
    all_goals first
      | (refine Ok.some (fun s hs => loop_end hs ?_ (by intro e; cases e)); simp [L52_0, *]; done)
      | (refine fun r hr s hs => loop_round hs ?_ (master_scanner_unquoted_L0_ok N m lv cl0 sl0 hc0 n _ _ _ _ _ _ _ r hr); simp [L52_0, *]; done)
def master_scanner_unquoted (N : Nat) (a0_0 : List UInt8) (a0_1 : Int) (a0_2 : Int) (a0_3 : Bool) : Option (List UInt8 × Bool × Int) :=
  Option.bind (master_scanner_unquoted_L0 N N a0_1 ([] : List UInt8) false a0_0 a0_1 a0_2 a0_3) fun o1 =>
  Option.bind (cutI a0_0 a0_1 o1) fun s2 =>
  some (s2, false, o1)
theorem master_scanner_unquoted_ok (N : Nat) (a0_0 : List UInt8) (a0_1 : Int) (a0_2 : Int) (a0_3 : Bool) (m : Mem) (lv : Nat) (cl0 sl0 : Nat) (hc0 : cl0 < lv) : Ok (master_scanner_unquoted N a0_0 a0_1 a0_2 a0_3) (fun r => (sem T).call 52 [(.ptr cl0 sl0 0)] (updM m cl0 sl0 (.cells 60 [(.str (bs a0_0)), (.int .i64 a0_1), (.int .i64 a0_2), (.bool a0_3)])) lv = some (((fun p => ([(.agg [(.str (bs p.1)), (.bool p.2.1)])], (updM m cl0 sl0 (.cells 60 [(.str (bs a0_0)), (.int .i64 p.2.2), (.int .i64 a0_2), (.bool a0_3)])))) : _ → List AV × Mem) r)) := by
  have e0_1 : (cl0 = lv) = False := eq_false (by omega)
  have e0_2 : (lv = cl0) = False := eq_false (by omega)
  have e0_3 : cl0 < lv + 1 := by omega
  unfold master_scanner_unquoted
  repeat' (with_reducible first | (refine Ok.ite (fun _ => ?_) (fun _ => ?_)) | (refine Ok.bind (fun _ h => ?_); (first | (have h := (master_scanner_unquoted_L0_ok N m lv cl0 sl0 hc0 _ _ _ _ _ _ _ _).of h) | skip)))
  all_goals (refine Ok.some (call_go rfl rfl rfl ?_); simp [F52, *])
theorem master_scanner_unquoted_call {N : Nat} {a0_0 : List UInt8} {a0_1 : Int} {a0_2 : Int} {a0_3 : Bool} {r : List UInt8 × Bool × Int} (h : master_scanner_unquoted N a0_0 a0_1 a0_2 a0_3 = some r) (M : Mem) (lv : Nat) (cl0 sl0 : Nat) (hc0 : cl0 < lv) (hm0 : M cl0 sl0 = some (.cells 60 [(.str (bs a0_0)), (.int .i64 a0_1), (.int .i64 a0_2), (.bool a0_3)])) : (sem T).call 52 [(.ptr cl0 sl0 0)] M lv = some (((fun p => ([(.agg [(.str (bs p.1)), (.bool p.2.1)])], (updM M cl0 sl0 (.cells 60 [(.str (bs a0_0)), (.int .i64 p.2.2), (.int .i64 a0_2), (.bool a0_3)])))) : _ → List AV × Mem) r) := (congrArg (fun x => (sem T).call 52 _ x lv) (updM_self hm0)).symm.trans ((master_scanner_unquoted_ok N a0_0 a0_1 a0_2 a0_3 M lv cl0 sl0 hc0).of h)
def master_scanner_entry_L0 (N : Nat) : Nat → Int → Bool → List Rw1 → Int → Bool → List Rw1 → List UInt8 → Int → Int → Bool → Option (O2 (List Rw1 × Int × Int × Bool) (Bool × Int × Bool × List Rw1 × Int × Int × Bool))
  | 0, _, _, _, _, _, _, _, _, _, _ => none
  | n + 1, p0, p1, p2, p3, p4, p5, p6, p7, p8, p9 =>
    bif ltI p7 (ln p6) then
      Option.bind (atI p6 p7) fun c1 =>
      bif eqI (bv c1) 10 then
        bif p9 then
          master_scanner_entry_L0 N n p0 p1 p2 p3 p4 p5 p6 (addI .i64 p7 1) (addI .i64 p8 1) true
        else
          some (.a (p5, addI .i64 p7 1, addI .i64 p8 1, false))
      else
      bif eqI (bv c1) 32 then
        master_scanner_entry_L0 N n p0 p1 p2 p3 p4 p5 p6 (addI .i64 p7 1) p8 p9
      else
      bif eqI (bv c1) 9 then
        master_scanner_entry_L0 N n p0 p1 p2 p3 p4 p5 p6 (addI .i64 p7 1) p8 p9
      else
      bif eqI (bv c1) 59 then
        bif p9 then
          Option.bind (master_scanner_comment N p6 p7 p8 true) fun r2 =>
          master_scanner_entry_L0 N n p0 p1 p2 p3 p4 p5 p6 r2 p8 true
        else
        Option.bind (master_scanner_comment N p6 p7 p8 false) fun r3 =>
        master_scanner_entry_L0 N n p0 p1 p2 p3 p4 p5 p6 r3 p8 false
      else
      bif eqI (bv c1) 40 then
        bif p9 then
          bif eqI (bv c1) 41 then
            master_scanner_entry_L0 N n p0 p1 p2 p3 p4 p5 p6 (addI .i64 p7 1) p8 true
          else
          bif eqI (bv c1) 34 then
            Option.bind (master_scanner_quoted N p6 p7 p8 true) fun r4 =>
            bif r4.2.2.1 then
              bif room1 p5 1 24 then
                master_scanner_entry_L0 N n p0 p1 p2 p3 p4 (p5 ++ [(⟨r4.1, r4.2.1⟩ : Rw1)]) p6 r4.2.2.2 p8 true
              else
              none
            else
              some (.b (false, 0, false, [], r4.2.2.2, p8, true))
          else
          Option.bind (master_plain N (bv c1)) fun r5 =>
          bif r5 then
            Option.bind (master_scanner_unquoted N p6 p7 p8 true) fun r6 =>
            bif room1 p5 1 24 then
              master_scanner_entry_L0 N n p0 p1 p2 p3 p4 (p5 ++ [(⟨r6.1, r6.2.1⟩ : Rw1)]) p6 r6.2.2 p8 true
            else
            none
          else
            some (.b (false, 0, false, [], p7, p8, true))
        else
        master_scanner_entry_L0 N n p0 p1 p2 p3 p4 p5 p6 (addI .i64 p7 1) p8 true
      else
      bif eqI (bv c1) 41 then
        bif p9 then
          master_scanner_entry_L0 N n p0 p1 p2 p3 p4 p5 p6 (addI .i64 p7 1) p8 false
        else
        bif eqI (bv c1) 34 then
          Option.bind (master_scanner_quoted N p6 p7 p8 false) fun r7 =>
          bif r7.2.2.1 then
            bif room1 p5 1 24 then
              master_scanner_entry_L0 N n p0 p1 p2 p3 p4 (p5 ++ [(⟨r7.1, r7.2.1⟩ : Rw1)]) p6 r7.2.2.2 p8 false
            else
            none
          else
            some (.b (false, 0, false, [], r7.2.2.2, p8, false))
        else
        Option.bind (master_plain N (bv c1)) fun r8 =>
        bif r8 then
          Option.bind (master_scanner_unquoted N p6 p7 p8 false) fun r9 =>
          bif room1 p5 1 24 then
            master_scanner_entry_L0 N n p0 p1 p2 p3 p4 (p5 ++ [(⟨r9.1, r9.2.1⟩ : Rw1)]) p6 r9.2.2 p8 false
          else
          none
        else
          some (.b (false, 0, false, [], p7, p8, false))
      else
      bif eqI (bv c1) 34 then
        bif p9 then
          Option.bind (master_scanner_quoted N p6 p7 p8 true) fun r10 =>
          bif r10.2.2.1 then
            bif room1 p5 1 24 then
              master_scanner_entry_L0 N n p0 p1 p2 p3 p4 (p5 ++ [(⟨r10.1, r10.2.1⟩ : Rw1)]) p6 r10.2.2.2 p8 true
            else
            none
          else
            some (.b (false, 0, false, [], r10.2.2.2, p8, true))
        else
        Option.bind (master_scanner_quoted N p6 p7 p8 false) fun r11 =>
        bif r11.2.2.1 then
          bif room1 p5 1 24 then
            master_scanner_entry_L0 N n p0 p1 p2 p3 p4 (p5 ++ [(⟨r11.1, r11.2.1⟩ : Rw1)]) p6 r11.2.2.2 p8 false
          else
          none
        else
          some (.b (false, 0, false, [], r11.2.2.2, p8, false))
      else
      Option.bind (master_plain N (bv c1)) fun r12 =>
      bif r12 then
        bif p9 then
          Option.bind (master_scanner_unquoted N p6 p7 p8 true) fun r13 =>
          bif room1 p5 1 24 then
            master_scanner_entry_L0 N n p0 p1 p2 p3 p4 (p5 ++ [(⟨r13.1, r13.2.1⟩ : Rw1)]) p6 r13.2.2 p8 true
          else
          none
        else
        Option.bind (master_scanner_unquoted N p6 p7 p8 false) fun r14 =>
        bif room1 p5 1 24 then
          master_scanner_entry_L0 N n p0 p1 p2 p3 p4 (p5 ++ [(⟨r14.1, r14.2.1⟩ : Rw1)]) p6 r14.2.2 p8 false
        else
        none
      else
        some (.b (false, 0, false, [], p7, p8, p9))
    else
      some (.a (p5, p7, p8, p9))
theorem master_scanner_entry_L0_ok (N : Nat) (m : Mem) (lv : Nat) (cl0 sl0 : Nat) (hc0 : cl0 < lv) : ∀ (n : Nat) (p0 : Int) (p1 : Bool) (p2 : List Rw1) (p3 : Int) (p4 : Bool) (p5 : List Rw1) (p6 : List UInt8) (p7 : Int) (p8 : Int) (p9 : Bool), Ok (master_scanner_entry_L0 N n p0 p1 p2 p3 p4 p5 p6 p7 p8 p9) (fun r => ∀ s : St, s.mask [0, 2, 4] [2, 4] = some ⟨183, lv, tmOf [(0, (.ptr cl0 sl0 0)), (2, (.ptr lv 2 0)), (4, (.ptr lv 4 0))], bxOf [(2, some (.cells 53 [(.int .i64 p0), (.bool p1), (.sl (some 55) 2 (List.map Rw1E p2))])), (4, some (.cells 53 [(.int .i64 p3), (.bool p4), (.sl (some 55) 2 (List.map Rw1E p5))]))], (updM m cl0 sl0 (.cells 60 [(.str (bs p6)), (.int .i64 p7), (.int .i64 p8), (.bool p9)]))⟩ → (sem T).loop [0, 2, 4] [2, 4] L24_0 s = some ((O2.el (fun p => (.ex 0, ⟨183, lv, tmOf [(0, (.ptr cl0 sl0 0)), (2, (.ptr lv 2 0)), (4, (.ptr lv 4 0))], bxOf [(2, some (.cells 53 [(.int .i64 p0), (.bool p1), (.sl (some 55) 2 (List.map Rw1E p2))])), (4, some (.cells 53 [(.int .i64 p3), (.bool p4), (.sl (some 55) 2 (List.map Rw1E p.1))]))], (updM m cl0 sl0 (.cells 60 [(.str (bs p6)), (.int .i64 p.2.1), (.int .i64 p.2.2.1), (.bool p.2.2.2)]))⟩)) (fun p => (.ret, ⟨183, lv, tmOf [(2, (.ptr lv 2 0)), (3, (.bool p.1))], bxOf [(2, some (.cells 53 [(.int .i64 p.2.1), (.bool p.2.2.1), (.sl (some 55) 2 (List.map Rw1E p.2.2.2.1))]))], (updM m cl0 sl0 (.cells 60 [(.str (bs p6)), (.int .i64 p.2.2.2.2.1), (.int .i64 p.2.2.2.2.2.1), (.bool p.2.2.2.2.2.2)]))⟩)) : _ → Fl × St) r))
  | 0, _, _, _, _, _, _, _, _, _, _ => Ok.none
  | n + 1, p0, p1, p2, p3, p4, p5, p6, p7, p8, p9 => by
    have e0_1 : (cl0 = lv) = False := eq_false (by omega)
    have e0_2 : (lv = cl0) = False := eq_false (by omega)
    have e0_3 : cl0 < lv + 1 := by omega
    unfold master_scanner_entry_L0
    repeat' (with_reducible first | (refine Ok.ite (fun _ => ?_) (fun _ => ?_)) | exact Ok.none | (refine Ok.bind (fun _ h => ?_); (first | (have h := master_plain_call h) | (have h := master_scanner_comment_call h) | (have h := master_scanner_quoted_call h) | (have h := master_scanner_unquoted_call h) | skip)))
    all_goals first
      | (refine Ok.some (fun s hs => loop_end hs ?_ (by intro e; cases e)); simp [L24_0, *]; done)
      | (refine fun r hr s hs => loop_round hs ?_ (master_scanner_entry_L0_ok N m lv cl0 sl0 hc0 n _ _ _ _ _ _ _ _ _ _ r hr); simp [L24_0, *]; done)
def master_scanner_entry (N : Nat) (a0_0 : List UInt8) (a0_1 : Int) (a0_2 : Int) (a0_3 : Bool) : Option (Int × Bool × List Rw1 × Bool × Int × Int × Bool) :=
  bif ltI a0_1 (ln a0_0) then
    Option.bind (atI a0_0 a0_1) fun c1 =>
    bif eqI (bv c1) 32 then
      Option.bind (master_scanner_entry_L0 N N 0 false [] a0_2 true [] a0_0 a0_1 a0_2 a0_3) (O2.el
        (fun o2 =>
          bif ltI o2.2.1 (ln a0_0) then
            some (a0_2, true, o2.1, true, o2.2.1, o2.2.2.1, o2.2.2.2)
          else
          bif o2.2.2.2 then
            some (a0_2, true, o2.1, false, o2.2.1, o2.2.2.1, true)
          else
            some (a0_2, true, o2.1, true, o2.2.1, o2.2.2.1, false))
        (fun o3 =>
          some (o3.2.1, o3.2.2.1, o3.2.2.2.1, o3.1, o3.2.2.2.2.1, o3.2.2.2.2.2.1, o3.2.2.2.2.2.2)))
    else
    bif eqI (bv c1) 9 then
      Option.bind (master_scanner_entry_L0 N N 0 false [] a0_2 true [] a0_0 a0_1 a0_2 a0_3) (O2.el
        (fun o4 =>
          bif ltI o4.2.1 (ln a0_0) then
            some (a0_2, true, o4.1, true, o4.2.1, o4.2.2.1, o4.2.2.2)
          else
          bif o4.2.2.2 then
            some (a0_2, true, o4.1, false, o4.2.1, o4.2.2.1, true)
          else
            some (a0_2, true, o4.1, true, o4.2.1, o4.2.2.1, false))
        (fun o5 =>
          some (o5.2.1, o5.2.2.1, o5.2.2.2.1, o5.1, o5.2.2.2.2.1, o5.2.2.2.2.2.1, o5.2.2.2.2.2.2)))
    else
    Option.bind (master_scanner_entry_L0 N N 0 false [] a0_2 false [] a0_0 a0_1 a0_2 a0_3) (O2.el
      (fun o6 =>
        bif ltI o6.2.1 (ln a0_0) then
          some (a0_2, false, o6.1, true, o6.2.1, o6.2.2.1, o6.2.2.2)
        else
        bif o6.2.2.2 then
          some (a0_2, false, o6.1, false, o6.2.1, o6.2.2.1, true)
        else
          some (a0_2, false, o6.1, true, o6.2.1, o6.2.2.1, false))
      (fun o7 =>
        some (o7.2.1, o7.2.2.1, o7.2.2.2.1, o7.1, o7.2.2.2.2.1, o7.2.2.2.2.2.1, o7.2.2.2.2.2.2)))
  else
  Option.bind (master_scanner_entry_L0 N N 0 false [] a0_2 false [] a0_0 a0_1 a0_2 a0_3) (O2.el
    (fun o8 =>
      bif ltI o8.2.1 (ln a0_0) then
        some (a0_2, false, o8.1, true, o8.2.1, o8.2.2.1, o8.2.2.2)
      else
      bif o8.2.2.2 then
        some (a0_2, false, o8.1, false, o8.2.1, o8.2.2.1, true)
      else
        some (a0_2, false, o8.1, true, o8.2.1, o8.2.2.1, false))
    (fun o9 =>
      some (o9.2.1, o9.2.2.1, o9.2.2.2.1, o9.1, o9.2.2.2.2.1, o9.2.2.2.2.2.1, o9.2.2.2.2.2.2)))
theorem master_scanner_entry_ok (N : Nat) (a0_0 : List UInt8) (a0_1 : Int) (a0_2 : Int) (a0_3 : Bool) (m : Mem) (lv : Nat) (cl0 sl0 : Nat) (hc0 : cl0 < lv) : Ok (master_scanner_entry N a0_0 a0_1 a0_2 a0_3) (fun r => (sem T).call 24 [(.ptr cl0 sl0 0)] (updM m cl0 sl0 (.cells 60 [(.str (bs a0_0)), (.int .i64 a0_1), (.int .i64 a0_2), (.bool a0_3)])) lv = some (((fun p => ([(.agg [(.int .i64 p.1), (.bool p.2.1), (.sl (some 55) 2 (List.map Rw1E p.2.2.1))]), (.bool p.2.2.2.1)], (updM m cl0 sl0 (.cells 60 [(.str (bs a0_0)), (.int .i64 p.2.2.2.2.1), (.int .i64 p.2.2.2.2.2.1), (.bool p.2.2.2.2.2.2)])))) : _ → List AV × Mem) r)) := by
  have e0_1 : (cl0 = lv) = False := eq_false (by omega)
  have e0_2 : (lv = cl0) = False := eq_false (by omega)
  have e0_3 : cl0 < lv + 1 := by omega
  unfold master_scanner_entry
  repeat' (with_reducible first | (refine Ok.ite (fun _ => ?_) (fun _ => ?_)) | (refine Ok.bind2 (fun _ h => ?_) (fun _ h => ?_) <;> (first | (have h := (master_scanner_entry_L0_ok N m lv cl0 sl0 hc0 _ _ _ _ _ _ _ _ _ _ _).of h) | skip)) | (refine Ok.bind (fun _ h => ?_); (first | (have h := (master_scanner_entry_L0_ok N m lv cl0 sl0 hc0 _ _ _ _ _ _ _ _ _ _ _).of h) | skip)))
  all_goals (refine Ok.some (call_go rfl rfl rfl ?_); simp [F24, *])
theorem master_scanner_entry_call {N : Nat} {a0_0 : List UInt8} {a0_1 : Int} {a0_2 : Int} {a0_3 : Bool} {r : Int × Bool × List Rw1 × Bool × Int × Int × Bool} (h : master_scanner_entry N a0_0 a0_1 a0_2 a0_3 = some r) (M : Mem) (lv : Nat) (cl0 sl0 : Nat) (hc0 : cl0 < lv) (hm0 : M cl0 sl0 = some (.cells 60 [(.str (bs a0_0)), (.int .i64 a0_1), (.int .i64 a0_2), (.bool a0_3)])) : (sem T).call 24 [(.ptr cl0 sl0 0)] M lv = some (((fun p => ([(.agg [(.int .i64 p.1), (.bool p.2.1), (.sl (some 55) 2 (List.map Rw1E p.2.2.1))]), (.bool p.2.2.2.1)], (updM M cl0 sl0 (.cells 60 [(.str (bs a0_0)), (.int .i64 p.2.2.2.2.1), (.int .i64 p.2.2.2.2.2.1), (.bool p.2.2.2.2.2.2)])))) : _ → List AV × Mem) r) := (congrArg (fun x => (sem T).call 24 _ x lv) (updM_self hm0)).symm.trans ((master_scanner_entry_ok N a0_0 a0_1 a0_2 a0_3 M lv cl0 sl0 hc0).of h)
def master_Scan_L0 (N : Nat) : Nat → List UInt8 → List Rw0 → List UInt8 → Int → Int → Bool → Option (O2 (List Rw0 × Int × Int) (List Rw0))
  | 0, _, _, _, _, _, _ => none
  | n + 1, p0, p1, p2, p3, p4, p5 =>
    bif ltI p3 (ln p0) then
      bif p5 then
        Option.bind (master_scanner_entry N p2 p3 p4 true) fun r1 =>
        bif r1.2.2.2.1 then
          bif ltI 0 (ln r1.2.2.1) then
            bif room1 p1 1 40 then
              master_Scan_L0 N n p0 (p1 ++ [(⟨r1.1, r1.2.1, r1.2.2.1⟩ : Rw0)]) p2 r1.2.2.2.2.1 r1.2.2.2.2.2.1 r1.2.2.2.2.2.2
            else
            none
          else
          master_Scan_L0 N n p0 p1 p2 r1.2.2.2.2.1 r1.2.2.2.2.2.1 r1.2.2.2.2.2.2
        else
          some (.a ([], r1.2.2.2.2.2.1, 30))
      else
      Option.bind (master_scanner_entry N p2 p3 p4 false) fun r2 =>
      bif r2.2.2.2.1 then
        bif ltI 0 (ln r2.2.2.1) then
          bif room1 p1 1 40 then
            master_Scan_L0 N n p0 (p1 ++ [(⟨r2.1, r2.2.1, r2.2.2.1⟩ : Rw0)]) p2 r2.2.2.2.2.1 r2.2.2.2.2.2.1 r2.2.2.2.2.2.2
          else
          none
        else
        master_Scan_L0 N n p0 p1 p2 r2.2.2.2.2.1 r2.2.2.2.2.2.1 r2.2.2.2.2.2.2
      else
        some (.a ([], r2.2.2.2.2.2.1, 30))
    else
      some (.b p1)
theorem master_Scan_L0_ok (N : Nat) (m : Mem) (lv : Nat) : ∀ (n : Nat) (p0 : List UInt8) (p1 : List Rw0) (p2 : List UInt8) (p3 : Int) (p4 : Int) (p5 : Bool), Ok (master_Scan_L0 N n p0 p1 p2 p3 p4 p5) (fun r => ∀ s : St, s.mask [0, 5, 6] [14] = some ⟨42, lv, tmOf [(0, (.str (bs p0))), (5, (.ptr lv 14 0)), (6, (.sl (some 53) 3 (List.map Rw0E p1)))], bxOf [(14, some (.cells 60 [(.str (bs p2)), (.int .i64 p3), (.int .i64 p4), (.bool p5)]))], m⟩ → (sem T).loop [0, 5, 6] [14] L10_0 s = some ((O2.el (fun p => (.ret, ⟨42, lv, tmOf [(2, (.sl (some 53) 3 (List.map Rw0E p.1))), (3, (.int .i64 p.2.1)), (4, (.int .i64 p.2.2))], bxOf [], m⟩)) (fun p => (.ex 0, ⟨42, lv, tmOf [(6, (.sl (some 53) 3 (List.map Rw0E p)))], bxOf [], m⟩)) : _ → Fl × St) r))
  | 0, _, _, _, _, _, _ => Ok.none
  | n + 1, p0, p1, p2, p3, p4, p5 => by
    unfold master_Scan_L0
    repeat' (with_reducible first | (refine Ok.ite (fun _ => ?_) (fun _ => ?_)) | exact Ok.none | (refine Ok.bind (fun _ h => ?_); (first | (have h := master_scanner_entry_call h) | skip)))
    all_goals first
      | (refine Ok.some (fun s hs => loop_end hs ?_ (by intro e; cases e)); simp [L10_0, *]; done)
      | (refine fun r hr s hs => loop_round hs ?_ (master_Scan_L0_ok N m lv n _ _ _ _ _ _ r hr); simp [L10_0, *]; done)
def master_Scan (N : Nat) (a0 : List UInt8) : Option (List Rw0 × Int × Int) :=
  bif ltI 65536 (ln a0) then
    some ([], 0, 9)
  else
  Option.bind (master_Scan_L0 N N a0 [] a0 0 1 false) (O2.el
    (fun o1 =>
      some (o1.1, o1.2.1, o1.2.2))
    (fun o2 =>
      some (o2, 0, 0)))
theorem master_Scan_ok (N : Nat) (a0 : List UInt8) (m : Mem) (lv : Nat) : Ok (master_Scan N a0) (fun r => (sem T).call 10 [(.str (bs a0))] m lv = some (((fun p => ([(.sl (some 53) 3 (List.map Rw0E p.1)), (.int .i64 p.2.1), (.int .i64 p.2.2)], m)) : _ → List AV × Mem) r)) := by
  unfold master_Scan
  repeat' (with_reducible first | (refine Ok.ite (fun _ => ?_) (fun _ => ?_)) | (refine Ok.bind2 (fun _ h => ?_) (fun _ h => ?_) <;> (first | (have h := (master_Scan_L0_ok N m lv _ _ _ _ _ _ _).of h) | skip)))
  all_goals (refine Ok.some (call_go rfl rfl rfl ?_); simp [F10, *])
theorem master_Scan_call {N : Nat} {a0 : List UInt8} {r : List Rw0 × Int × Int} (h : master_Scan N a0 = some r) (m : Mem) (lv : Nat) : (sem T).call 10 [(.str (bs a0))] m lv = some (((fun p => ([(.sl (some 53) 3 (List.map Rw0E p.1)), (.int .i64 p.2.1), (.int .i64 p.2.2)], m)) : _ → List AV × Mem) r) := (master_Scan_ok N a0 m lv).of h
def w09_MasterScans (N : Nat) (a0 : List UInt8) : Option (Bool) :=
  Option.bind (master_Scan N a0) fun r1 =>
  Option.bind (r09_Scan N a0) fun r2 =>
  Option.bind (w09_lines N r1.1 r2.1 0) fun r3 =>
  bif r3 then
    bif eqI r1.2.1 r2.2.1 then
      bif eqI r1.2.2 r2.2.2 then
        Option.bind (w09_awake N) fun r4 =>
        some r4
      else
        some false
    else
      some false
  else
    some false
theorem w09_MasterScans_ok (N : Nat) (a0 : List UInt8) (m : Mem) (lv : Nat) : Ok (w09_MasterScans N a0) (fun r => (sem T).call 3 [(.str (bs a0))] m lv = some (((fun p => ([(.bool p)], m)) : _ → List AV × Mem) r)) := by
  unfold w09_MasterScans
  repeat' (with_reducible first | (refine Ok.ite (fun _ => ?_) (fun _ => ?_)) | (refine Ok.bind (fun _ h => ?_); (first | (have h := master_Scan_call h) | (have h := r09_Scan_call h) | (have h := w09_awake_call h) | (have h := w09_lines_call h) | skip)))
  all_goals (refine Ok.some (call_go rfl rfl rfl ?_); simp [F3, *])
theorem w09_MasterScans_call {N : Nat} {a0 : List UInt8} {r : Bool} (h : w09_MasterScans N a0 = some r) (m : Mem) (lv : Nat) : (sem T).call 3 [(.str (bs a0))] m lv = some (((fun p => ([(.bool p)], m)) : _ → List AV × Mem) r) := (w09_MasterScans_ok N a0 m lv).of h
def w09_MasterLines_L0 (N : Nat) : Nat → List Rw0 → Int → Int → Int → Int → Int → Option (O2 (Bool) (Unit))
  | 0, _, _, _, _, _, _ => none
  | n + 1, p0, p1, p2, p3, p4, p5 =>
    Option.bind (atI p0 p4) fun e1 =>
    bif ltI p5 (ln e1.c2) then
      Option.bind (atI e1.c2 p5) fun e2 =>
      bif e2.c1 then
        w09_MasterLines_L0 N n p0 p1 p2 p3 p4 (addI .i64 p5 1)
      else
      bif eqS e2.c0 ([] : List UInt8) then
        some (.a false)
      else
      w09_MasterLines_L0 N n p0 p1 p2 p3 p4 (addI .i64 p5 1)
    else
      some (.b ())
theorem w09_MasterLines_L0_ok (N : Nat) (m : Mem) (lv : Nat) : ∀ (n : Nat) (p0 : List Rw0) (p1 : Int) (p2 : Int) (p3 : Int) (p4 : Int) (p5 : Int), Ok (w09_MasterLines_L0 N n p0 p1 p2 p3 p4 p5) (fun r => ∀ s : St, s.mask [3, 4, 6, 7, 8, 9] [] = some ⟨131, lv, tmOf [(3, (.sl none 3 (List.map Rw0E p0))), (4, (.int .i64 p1)), (6, (.int .i64 p2)), (7, (.int .i64 p3)), (8, (.int .i64 p4)), (9, (.int .i64 p5))], bxOf [], m⟩ → (sem T).loop [3, 4, 6, 7, 8, 9] [] L7_0 s = some ((O2.el (fun p => (.ret, ⟨131, lv, tmOf [(2, (.bool p))], bxOf [], m⟩)) (fun p => (.ex 2, ⟨131, lv, tmOf [(3, (.sl none 3 (List.map Rw0E p0))), (4, (.int .i64 p1)), (6, (.int .i64 p2)), (7, (.int .i64 p3)), (8, (.int .i64 p4))], bxOf [], m⟩)) : _ → Fl × St) r))
  | 0, _, _, _, _, _, _ => Ok.none
  | n + 1, p0, p1, p2, p3, p4, p5 => by
    unfold w09_MasterLines_L0
    repeat' (with_reducible first | (refine Ok.ite (fun _ => ?_) (fun _ => ?_)) | (refine Ok.bind (fun _ h => ?_)))
    all_goals first
      | (refine Ok.some (fun s hs => loop_end hs ?_ (by intro e; cases e)); simp [L7_0, *]; done)
      | (refine fun r hr s hs => loop_round hs ?_ (w09_MasterLines_L0_ok N m lv n _ _ _ _ _ _ r hr); simp [L7_0, *]; done)
def w09_MasterLines_L1 (N : Nat) : Nat → List Rw0 → Int → Int → Int → Int → Option (O2 (Bool) (Unit))
  | 0, _, _, _, _, _ => none
  | n + 1, p0, p1, p2, p3, p4 =>
    bif ltI p4 (ln p0) then
      Option.bind (atI p0 p4) fun e1 =>
      bif leI e1.c0 p3 then
        some (.a false)
      else
      bif ltI p2 e1.c0 then
        some (.a false)
      else
      bif eqI (ln e1.c2) 0 then
        some (.a false)
      else
      Option.bind (w09_MasterLines_L0 N N p0 p1 p2 e1.c0 p4 0) (O2.el
        (fun o2 =>
          some (.a o2))
        (fun o3 =>
          w09_MasterLines_L1 N n p0 p1 p2 e1.c0 (addI .i64 p4 1)))
    else
      some (.b ())
theorem w09_MasterLines_L1_ok (N : Nat) (m : Mem) (lv : Nat) : ∀ (n : Nat) (p0 : List Rw0) (p1 : Int) (p2 : Int) (p3 : Int) (p4 : Int), Ok (w09_MasterLines_L1 N n p0 p1 p2 p3 p4) (fun r => ∀ s : St, s.mask [3, 4, 6, 7, 8] [] = some ⟨131, lv, tmOf [(3, (.sl none 3 (List.map Rw0E p0))), (4, (.int .i64 p1)), (6, (.int .i64 p2)), (7, (.int .i64 p3)), (8, (.int .i64 p4))], bxOf [], m⟩ → (sem T).loop [3, 4, 6, 7, 8] [] L7_1 s = some ((O2.el (fun p => (.ret, ⟨131, lv, tmOf [(2, (.bool p))], bxOf [], m⟩)) (fun p => (.ex 0, ⟨131, lv, tmOf [(4, (.int .i64 p1))], bxOf [], m⟩)) : _ → Fl × St) r))
  | 0, _, _, _, _, _ => Ok.none
  | n + 1, p0, p1, p2, p3, p4 => by
    unfold w09_MasterLines_L1
    repeat' (with_reducible first | (refine Ok.ite (fun _ => ?_) (fun _ => ?_)) | (refine Ok.bind2 (fun _ h => ?_) (fun _ h => ?_) <;> (first | (have h := (w09_MasterLines_L0_ok N m lv _ _ _ _ _ _ _).of h) | skip)) | (refine Ok.bind (fun _ h => ?_); (first | (have h := (w09_MasterLines_L0_ok N m lv _ _ _ _ _ _ _).of h) | skip)))
    all_goals first
      | (refine Ok.some (fun s hs => loop_end hs ?_ (by intro e; cases e)); simp [L7_1, *]; done)
      | (refine fun r hr s hs => loop_round hs ?_ (w09_MasterLines_L1_ok N m lv n _ _ _ _ _ r hr); simp [L7_1, *]; done)
def w09_MasterLines (N : Nat) (a0 : List UInt8) : Option (Bool) :=
  Option.bind (master_Scan N a0) fun r1 =>
  Option.bind (w09_feeds N a0) fun r2 =>
  bif eqI r1.2.2 0 then
    Option.bind (w09_MasterLines_L1 N N r1.1 r1.2.1 (addI .i64 1 r2) 0 0) (O2.el
      (fun o3 =>
        some o3)
      (fun o4 =>
        bif eqI r1.2.1 0 then
          Option.bind (w09_awake N) fun r5 =>
          some r5
        else
          some false))
  else
  bif eqI (ln r1.1) 0 then
    bif eqI r1.2.2 9 then
      bif eqI r1.2.1 0 then
        bif ltI 65536 (ln a0) then
          Option.bind (w09_awake N) fun r6 =>
          some r6
        else
        bif eqI r1.2.2 30 then
          bif leI 1 r1.2.1 then
            bif leI r1.2.1 (addI .i64 1 r2) then
              bif leI (ln a0) 65536 then
                Option.bind (w09_awake N) fun r7 =>
                some r7
              else
                some false
            else
              some false
          else
            some false
        else
          some false
      else
      bif eqI r1.2.2 30 then
        bif leI 1 r1.2.1 then
          bif leI r1.2.1 (addI .i64 1 r2) then
            bif leI (ln a0) 65536 then
              Option.bind (w09_awake N) fun r8 =>
              some r8
            else
              some false
          else
            some false
        else
          some false
      else
        some false
    else
    bif eqI r1.2.2 30 then
      bif leI 1 r1.2.1 then
        bif leI r1.2.1 (addI .i64 1 r2) then
          bif leI (ln a0) 65536 then
            Option.bind (w09_awake N) fun r9 =>
            some r9
          else
            some false
        else
          some false
      else
        some false
    else
      some false
  else
    some false
theorem w09_MasterLines_ok (N : Nat) (a0 : List UInt8) (m : Mem) (lv : Nat) : Ok (w09_MasterLines N a0) (fun r => (sem T).call 7 [(.str (bs a0))] m lv = some (((fun p => ([(.bool p)], m)) : _ → List AV × Mem) r)) := by
  unfold w09_MasterLines
  repeat' (with_reducible first | (refine Ok.ite (fun _ => ?_) (fun _ => ?_)) | (refine Ok.bind2 (fun _ h => ?_) (fun _ h => ?_) <;> (first | (have h := master_Scan_call h) | (have h := w09_awake_call h) | (have h := w09_feeds_call h) | (have h := (w09_MasterLines_L1_ok N m lv _ _ _ _ _ _).of h) | skip)) | (refine Ok.bind (fun _ h => ?_); (first | (have h := master_Scan_call h) | (have h := w09_awake_call h) | (have h := w09_feeds_call h) | (have h := (w09_MasterLines_L1_ok N m lv _ _ _ _ _ _).of h) | skip)))
  all_goals (refine Ok.some (call_go rfl rfl rfl ?_); simp [F7, *])
theorem w09_MasterLines_call {N : Nat} {a0 : List UInt8} {r : Bool} (h : w09_MasterLines N a0 = some r) (m : Mem) (lv : Nat) : (sem T).call 7 [(.str (bs a0))] m lv = some (((fun p => ([(.bool p)], m)) : _ → List AV × Mem) r) := (w09_MasterLines_ok N a0 m lv).of h
def w09_MasterJoined_L0 (N : Nat) : Nat → List UInt8 → List Rw0 → List Rw0 → List Rw0 → Int → Int → Int → Bool → List Rw1 → Option (O2 (Bool) (Unit))
  | 0, _, _, _, _, _, _, _, _, _ => none
  | n + 1, p0, p1, p2, p3, p4, p5, p6, p7, p8 =>
    bif ltI p5 (ln p8) then
      Option.bind (atI p3 p4) fun e1 =>
      Option.bind (atI e1.c2 p5) fun e2 =>
      Option.bind (atI p8 p5) fun e3 =>
      bif eqS e2.c0 e3.c0 then
        bif e2.c1 then
          bif e3.c1 then
            w09_MasterJoined_L0 N n p0 p1 p2 p3 p4 (addI .i64 p5 1) p6 p7 p8
          else
            some (.a false)
        else
        bif e3.c1 then
          some (.a false)
        else
        w09_MasterJoined_L0 N n p0 p1 p2 p3 p4 (addI .i64 p5 1) p6 p7 p8
      else
        some (.a false)
    else
      some (.b ())
theorem w09_MasterJoined_L0_ok (N : Nat) (m : Mem) (lv : Nat) : ∀ (n : Nat) (p0 : List UInt8) (p1 : List Rw0) (p2 : List Rw0) (p3 : List Rw0) (p4 : Int) (p5 : Int) (p6 : Int) (p7 : Bool) (p8 : List Rw1), Ok (w09_MasterJoined_L0 N n p0 p1 p2 p3 p4 p5 p6 p7 p8) (fun r => ∀ s : St, s.mask [0, 5, 8, 11, 14, 15, 17] [15] = some ⟨174, lv, tmOf [(0, (.str (bs p0))), (5, (.sl none 3 (List.map Rw0E p1))), (8, (.sl none 3 (List.map Rw0E p2))), (11, (.sl none 3 (List.map Rw0E p3))), (14, (.int .i64 p4)), (15, (.ptr lv 15 0)), (17, (.int .i64 p5))], bxOf [(15, some (.cells 53 [(.int .i64 p6), (.bool p7), (.sl none 2 (List.map Rw1E p8))]))], m⟩ → (sem T).loop [0, 5, 8, 11, 14, 15, 17] [15] L8_0 s = some ((O2.el (fun p => (.ret, ⟨174, lv, tmOf [(4, (.bool p))], bxOf [], m⟩)) (fun p => (.ex 2, ⟨174, lv, tmOf [(0, (.str (bs p0))), (5, (.sl none 3 (List.map Rw0E p1))), (8, (.sl none 3 (List.map Rw0E p2))), (11, (.sl none 3 (List.map Rw0E p3))), (14, (.int .i64 p4))], bxOf [], m⟩)) : _ → Fl × St) r))
  | 0, _, _, _, _, _, _, _, _, _ => Ok.none
  | n + 1, p0, p1, p2, p3, p4, p5, p6, p7, p8 => by
    unfold w09_MasterJoined_L0
    repeat' (with_reducible first | (refine Ok.ite (fun _ => ?_) (fun _ => ?_)) | (refine Ok.bind (fun _ h => ?_)))
    all_goals first
      | (refine Ok.some (fun s hs => loop_end hs ?_ (by intro e; cases e)); simp [L8_0, *]; done)
      | (refine fun r hr s hs => loop_round hs ?_ (w09_MasterJoined_L0_ok N m lv n _ _ _ _ _ _ _ _ _ r hr); simp [L8_0, *]; done)
def w09_MasterJoined_L1 (N : Nat) : Nat → List UInt8 → List Rw0 → List Rw0 → List Rw0 → Int → Option (O2 (Bool) (Unit))
  | 0, _, _, _, _, _ => none
  | n + 1, p0, p1, p2, p3, p4 =>
    bif ltI p4 (ln p3) then
      bif ltI p4 (ln p1) then
        Option.bind (atI p1 p4) fun e1 =>
        Option.bind (atI p3 p4) fun e2 =>
        bif eqI e2.c0 (addI .i64 e1.c0 0) then
          bif e2.c1 then
            bif e1.c1 then
              bif eqI (ln e2.c2) (ln e1.c2) then
                Option.bind (w09_MasterJoined_L0 N N p0 p1 p2 p3 p4 0 e1.c0 true e1.c2) (O2.el
                  (fun o3 =>
                    some (.a o3))
                  (fun o4 =>
                    w09_MasterJoined_L1 N n p0 p1 p2 p3 (addI .i64 p4 1)))
              else
                some (.a false)
            else
              some (.a false)
          else
          bif e1.c1 then
            some (.a false)
          else
          bif eqI (ln e2.c2) (ln e1.c2) then
            Option.bind (w09_MasterJoined_L0 N N p0 p1 p2 p3 p4 0 e1.c0 false e1.c2) (O2.el
              (fun o5 =>
                some (.a o5))
              (fun o6 =>
                w09_MasterJoined_L1 N n p0 p1 p2 p3 (addI .i64 p4 1)))
          else
            some (.a false)
        else
          some (.a false)
      else
      Option.bind (atI p2 (subI .i64 p4 (ln p1))) fun e7 =>
      Option.bind (w09_feeds N p0) fun r8 =>
      Option.bind (atI p3 p4) fun e9 =>
      bif eqI e9.c0 (addI .i64 e7.c0 r8) then
        bif e9.c1 then
          bif e7.c1 then
            bif eqI (ln e9.c2) (ln e7.c2) then
              Option.bind (w09_MasterJoined_L0 N N p0 p1 p2 p3 p4 0 e7.c0 true e7.c2) (O2.el
                (fun o10 =>
                  some (.a o10))
                (fun o11 =>
                  w09_MasterJoined_L1 N n p0 p1 p2 p3 (addI .i64 p4 1)))
            else
              some (.a false)
          else
            some (.a false)
        else
        bif e7.c1 then
          some (.a false)
        else
        bif eqI (ln e9.c2) (ln e7.c2) then
          Option.bind (w09_MasterJoined_L0 N N p0 p1 p2 p3 p4 0 e7.c0 false e7.c2) (O2.el
            (fun o12 =>
              some (.a o12))
            (fun o13 =>
              w09_MasterJoined_L1 N n p0 p1 p2 p3 (addI .i64 p4 1)))
        else
          some (.a false)
      else
        some (.a false)
    else
      some (.b ())
theorem w09_MasterJoined_L1_ok (N : Nat) (m : Mem) (lv : Nat) : ∀ (n : Nat) (p0 : List UInt8) (p1 : List Rw0) (p2 : List Rw0) (p3 : List Rw0) (p4 : Int), Ok (w09_MasterJoined_L1 N n p0 p1 p2 p3 p4) (fun r => ∀ s : St, s.mask [0, 5, 8, 11, 14] [] = some ⟨174, lv, tmOf [(0, (.str (bs p0))), (5, (.sl none 3 (List.map Rw0E p1))), (8, (.sl none 3 (List.map Rw0E p2))), (11, (.sl none 3 (List.map Rw0E p3))), (14, (.int .i64 p4))], bxOf [], m⟩ → (sem T).loop [0, 5, 8, 11, 14] [] L8_1 s = some ((O2.el (fun p => (.ret, ⟨174, lv, tmOf [(4, (.bool p))], bxOf [], m⟩)) (fun p => (.ex 0, ⟨174, lv, tmOf [], bxOf [], m⟩)) : _ → Fl × St) r))
  | 0, _, _, _, _, _ => Ok.none
  | n + 1, p0, p1, p2, p3, p4 => by
    unfold w09_MasterJoined_L1
    repeat' (with_reducible first | (refine Ok.ite (fun _ => ?_) (fun _ => ?_)) | (refine Ok.bind2 (fun _ h => ?_) (fun _ h => ?_) <;> (first | (have h := w09_feeds_call h) | (have h := (w09_MasterJoined_L0_ok N m lv _ _ _ _ _ _ _ _ _ _).of h) | skip)) | (refine Ok.bind (fun _ h => ?_); (first | (have h := w09_feeds_call h) | (have h := (w09_MasterJoined_L0_ok N m lv _ _ _ _ _ _ _ _ _ _).of h) | skip)))
    all_goals first
      | (refine Ok.some (fun s hs => loop_end hs ?_ (by intro e; cases e)); simp [L8_1, *]; done)
      | (refine fun r hr s hs => loop_round hs ?_ (w09_MasterJoined_L1_ok N m lv n _ _ _ _ _ r hr); simp [L8_1, *]; done)
def w09_MasterJoined (N : Nat) (a0 : List UInt8) (a1 : List UInt8) : Option (Bool) :=
  bif ltI 65536 (addI .i64 (addI .i64 (ln a0) (ln a1)) 1) then
    Option.bind (w09_awake N) fun r1 =>
    some r1
  else
  Option.bind (catI a0 ([10] : List UInt8)) fun s2 =>
  Option.bind (master_Scan N s2) fun r3 =>
  Option.bind (master_Scan N a1) fun r4 =>
  Option.bind (catI s2 a1) fun s5 =>
  Option.bind (master_Scan N s5) fun r6 =>
  bif eqI r3.2.2 0 then
    bif eqI r4.2.2 0 then
      bif eqI r6.2.2 0 then
        bif eqI (ln r6.1) (addI .i64 (ln r3.1) (ln r4.1)) then
          Option.bind (w09_MasterJoined_L1 N N s2 r3.1 r4.1 r6.1 0) (O2.el
            (fun o7 =>
              some o7)
            (fun o8 =>
              Option.bind (w09_awake N) fun r9 =>
              some r9))
        else
          some false
      else
        some false
    else
    bif eqI r6.2.2 r4.2.2 then
      Option.bind (w09_feeds N s2) fun r10 =>
      bif eqI r6.2.1 (addI .i64 r4.2.1 r10) then
        Option.bind (w09_awake N) fun r11 =>
        some r11
      else
        some false
    else
      some false
  else
  Option.bind (w09_feeds N s2) fun r12 =>
  bif eqI r3.2.1 (addI .i64 1 r12) then
    Option.bind (w09_awake N) fun r13 =>
    some r13
  else
  bif eqI r6.2.2 r3.2.2 then
    bif eqI r6.2.1 r3.2.1 then
      Option.bind (w09_awake N) fun r14 =>
      some r14
    else
      some false
  else
    some false
theorem w09_MasterJoined_ok (N : Nat) (a0 : List UInt8) (a1 : List UInt8) (m : Mem) (lv : Nat) : Ok (w09_MasterJoined N a0 a1) (fun r => (sem T).call 8 [(.str (bs a0)), (.str (bs a1))] m lv = some (((fun p => ([(.bool p)], m)) : _ → List AV × Mem) r)) := by
  unfold w09_MasterJoined
  repeat' (with_reducible first | (refine Ok.ite (fun _ => ?_) (fun _ => ?_)) | (refine Ok.bind2 (fun _ h => ?_) (fun _ h => ?_) <;> (first | (have h := master_Scan_call h) | (have h := w09_awake_call h) | (have h := w09_feeds_call h) | (have h := (w09_MasterJoined_L1_ok N m lv _ _ _ _ _ _).of h) | skip)) | (refine Ok.bind (fun _ h => ?_); (first | (have h := master_Scan_call h) | (have h := w09_awake_call h) | (have h := w09_feeds_call h) | (have h := (w09_MasterJoined_L1_ok N m lv _ _ _ _ _ _).of h) | skip)))
  all_goals (refine Ok.some (call_go rfl rfl rfl ?_); simp [F8, *])
theorem w09_MasterJoined_call {N : Nat} {a0 : List UInt8} {a1 : List UInt8} {r : Bool} (h : w09_MasterJoined N a0 a1 = some r) (m : Mem) (lv : Nat) : (sem T).call 8 [(.str (bs a0)), (.str (bs a1))] m lv = some (((fun p => ([(.bool p)], m)) : _ → List AV × Mem) r) := (w09_MasterJoined_ok N a0 a1 m lv).of h
end Go.Ev
