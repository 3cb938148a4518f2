/- ShT1d, ShVad, ShVbd, ShT2d, joined. Condition: each part's own. -/
import Derived.Test.YtcnlfelalgaepaaGreatDoorRsL
/- Functions as plain Lean. Condition: none. -/
namespace Go.Ev
set_option linter.all false
set_option maxRecDepth 10000
set_option maxHeartbeats 8000000
@[ext] structure Rw3 where
  c0 : Int
  c1 : List UInt8
  c2 : List UInt8
  deriving DecidableEq
def Rw3E (x : Rw3) : List AV := [(.int .i64 x.c0), (.str (bs x.c1)), (.str (bs x.c2))]
attribute [simp] Rw3E

def rdata_kinds (N : Nat) : Option (List Rw3) :=
 some [(⟨1, ([65] : List UInt8), ([52] : List UInt8)⟩ : Rw3), (⟨2, ([78, 83] : List UInt8), ([104] : List UInt8)⟩ : Rw3), (⟨5, ([67, 78, 65, 77, 69] : List UInt8), ([104] : List UInt8)⟩ : Rw3), (⟨6, ([83, 79, 65] : List UInt8), ([104, 109, 118, 119, 120, 121, 122] : List UInt8)⟩ : Rw3), (⟨12, ([80, 84, 82] : List UInt8), ([104] : List UInt8)⟩ : Rw3), (⟨15, ([77, 88] : List UInt8), ([65, 104] : List UInt8)⟩ : Rw3), (⟨16, ([84, 88, 84] : List UInt8), ([116] : List UInt8)⟩ : Rw3), (⟨28, ([65, 65, 65, 65] : List UInt8), ([54] : List UInt8)⟩ : Rw3), (⟨33, ([83, 82, 86] : List UInt8), ([65, 66, 67, 104] : List UInt8)⟩ : Rw3), (⟨39, ([68, 78, 65, 77, 69] : List UInt8), ([104] : List UInt8)⟩ : Rw3), (⟨43, ([68, 83] : List UInt8), ([65, 98, 99, 114] : List UInt8)⟩ : Rw3), (⟨46, ([82, 82, 83, 73, 71] : List UInt8), ([65, 115, 98, 120, 121, 122, 70, 104, 114] : List UInt8)⟩ : Rw3), (⟨47, ([78, 83, 69, 67] : List UInt8), ([104, 110] : List UInt8)⟩ : Rw3), (⟨48, ([68, 78, 83, 75, 69, 89] : List UInt8), ([65, 98, 99, 114] : List UInt8)⟩ : Rw3)]
def rdata_find_L0 (N : Nat) : Nat → Int → List Rw3 → Int → Int → Int → List UInt8 → List UInt8 → Option (O2 (Bool × Int × List UInt8 × List UInt8) (Unit))
  | 0, _, _, _, _, _, _, _ => none
  | n + 1, p0, p1, p2, p3, p4, p5, p6 =>
  bif ltI p3 p2 then
   Option.bind (atI p1 p3) fun e1 =>
   bif eqI e1.c0 p0 then
    some (.a (true, e1.c0, e1.c1, e1.c2))
   else
   rdata_find_L0 N n p0 p1 p2 (addI .i64 p3 1) p4 p5 p6
  else
   some (.b ())
def rdata_find (N : Nat) (a0 : Int) : Option (Int × List UInt8 × List UInt8 × Bool) :=
 Option.bind (rdata_kinds N) fun r1 =>
 Option.bind (rdata_find_L0 N N a0 r1 (ln r1) 0 0 ([] : List UInt8) ([] : List UInt8)) (O2.el
   (fun o2 =>
   some (o2.2.1, o2.2.2.1, o2.2.2.2, o2.1))
   (fun o3 =>
   some (0, ([] : List UInt8), ([] : List UInt8), false)))
def rdata_Known (N : Nat) (a0 : Int) : Option (Bool) :=
 Option.bind (rdata_find N a0) fun r1 =>
 some r1.2.2.2
def addr_Valid (N : Nat) (a0_0 : Bool) (a0_1 a0_2 : Int) : Option (Bool) :=
 bif a0_0 then
  some true
 else
 bif eqI a0_1 0 then
  bif leI a0_2 4294967295 then
   some true
  else
   some false
 else
  some false
def i_stringslite_HasSuffix (N : Nat) (a0 a1 : List UInt8) : Option (Bool) :=
 bif leI (ln a1) (ln a0) then
  Option.bind (cutI a0 (subI .i64 (ln a0) (ln a1)) (ln a0)) fun s1 =>
  bif eqS s1 a1 then
   some true
  else
   some false
 else
  some false
def strings_HasSuffix (N : Nat) (a0 a1 : List UInt8) : Option (Bool) :=
 Option.bind (i_stringslite_HasSuffix N a0 a1) fun r1 =>
 some r1
def i_stringslite_IndexByte (N : Nat) (a0 : List UInt8) (a1 : Int) : Option (Int) :=
 some (ixB a0 a1)
def i_stringslite_Index (N : Nat) (a0 a1 : List UInt8) : Option (Int) :=
 bif eqI (ln a1) 0 then
  some 0
 else
 bif eqS a1 a0 then
  some 0
 else
 bif eqI (ln a1) 1 then
  Option.bind (atI a1 0) fun c1 =>
  Option.bind (i_stringslite_IndexByte N a0 (bv c1)) fun r2 =>
  some r2
 else
 bif leI (ln a0) (ln a1) then
  some (-1)
 else
 none
def strings_Index (N : Nat) (a0 a1 : List UInt8) : Option (Int) :=
 Option.bind (i_stringslite_Index N a0 a1) fun r1 =>
 some r1
def strings_Count_L0 (N : Nat) : Nat → List UInt8 → List UInt8 → Int → Option (Int)
  | 0, _, _, _ => none
  | n + 1, p0, p1, p2 =>
  Option.bind (strings_Index N p0 p1) fun r1 =>
  bif eqI r1 (-1) then
   some p2
  else
  Option.bind (cutI p0 (addI .i64 r1 (ln p1)) (ln p0)) fun s2 =>
  strings_Count_L0 N n s2 p1 (addI .i64 p2 1)
def strings_Count (N : Nat) (a0 a1 : List UInt8) : Option (Int) :=
 bif eqI (ln a1) 0 then
  none
 else
 bif eqI (ln a1) 1 then
  Option.bind (atI a1 0) fun c1 =>
  some (ctB a0 (bv c1))
 else
 Option.bind (strings_Count_L0 N N a0 a1 0) fun o2 =>
 some o2
def strings_genSplit_L0 (N : Nat) : Nat → List UInt8 → List UInt8 → Int → Int → List (List UInt8) → Int → Option (Unit)
  | 0, _, _, _, _, _, _ => none
  | n + 1, p0, p1, p2, p3, p4, p5 =>
  bif ltI p5 p3 then
   Option.bind (strings_Index N p0 p1) fun r1 =>
   bif ltI r1 0 then
    some ()
   else
   Option.bind (cutI p0 0 (addI .i64 r1 p2)) fun s2 =>
   Option.bind (atI p4 p5) fun e3 =>
   none
  else
   some ()
def strings_genSplit_L0b (N : Nat) : Nat → List UInt8 → List UInt8 → Int → Int → Nat → Int → List (List UInt8) → Option (List UInt8 × Int × List (List UInt8))
  | 0, _, _, _, _, _, _, _ => none
  | n + 1, p0, p1, p2, p3, p4, p5, p6 =>
  bif ltI p5 p3 then
   Option.bind (strings_Index N p0 p1) fun r1 =>
   bif ltI r1 0 then
    some (p0, p5, p6)
   else
   Option.bind (cutI p0 0 (addI .i64 r1 p2)) fun s2 =>
   bif inN p5 p4 then
    Option.bind (setO p6 0 p5 s2) fun l3 =>
    Option.bind (cutI p0 (addI .i64 r1 (ln p1)) (ln p0)) fun s4 =>
    strings_genSplit_L0b N n s4 p1 p2 p3 p4 (addI .i64 p5 1) l3
   else
   none
  else
   some (p0, p5, p6)
def strings_genSplit (N : Nat) (a0 a1 : List UInt8) (a2 a3 : Int) : Option (O2 (List (List UInt8)) (List (List UInt8))) :=
 bif eqI a3 0 then
  some (.a [])
 else
 bif eqS a1 ([] : List UInt8) then
  none
 else
 bif ltI a3 0 then
  Option.bind (strings_Count N a0 a1) fun r1 =>
  Option.bind (mkI (mmI false (addI .i64 r1 1) (addI .i64 (ln a0) 1)) 16) fun k2 =>
  bif isZ k2 then
   Option.bind (strings_genSplit_L0 N N a0 a1 a2 (subI .i64 (mmI false (addI .i64 r1 1) (addI .i64 (ln a0) 1)) 1) [] 0) fun o3 =>
   none
  else
  Option.bind (strings_genSplit_L0b N N a0 a1 a2 (subI .i64 (mmI false (addI .i64 r1 1) (addI .i64 (ln a0) 1)) 1) k2 0 (List.replicate k2 ([] : List UInt8))) fun o4 =>
  bif inN o4.2.1 k2 then
   Option.bind (setO o4.2.2 0 o4.2.1 o4.1) fun l5 =>
   Option.bind (arrI0 (addI .i64 o4.2.1 1) k2) fun m6 =>
   bif isZ m6 then
    some (.b [])
   else
   Option.bind (winI l5 0 m6) fun l7 =>
   some (.a l7)
  else
  none
 else
 Option.bind (mkI (mmI false a3 (addI .i64 (ln a0) 1)) 16) fun k8 =>
 bif isZ k8 then
  Option.bind (strings_genSplit_L0 N N a0 a1 a2 (subI .i64 (mmI false a3 (addI .i64 (ln a0) 1)) 1) [] 0) fun o9 =>
  none
 else
 Option.bind (strings_genSplit_L0b N N a0 a1 a2 (subI .i64 (mmI false a3 (addI .i64 (ln a0) 1)) 1) k8 0 (List.replicate k8 ([] : List UInt8))) fun o10 =>
 bif inN o10.2.1 k8 then
  Option.bind (setO o10.2.2 0 o10.2.1 o10.1) fun l11 =>
  Option.bind (arrI0 (addI .i64 o10.2.1 1) k8) fun m12 =>
  bif isZ m12 then
   some (.b [])
  else
  Option.bind (winI l11 0 m12) fun l13 =>
  some (.a l13)
 else
 none
def strings_Split (N : Nat) (a0 a1 : List UInt8) : Option (O2 (List (List UInt8)) (List (List UInt8))) :=
 Option.bind (strings_genSplit N a0 a1 0 (-1)) (O2.el
   (fun r1 =>
   some (.a r1))
   (fun r2 =>
   some (.b r2)))
def dname_ordinary_L0 (N : Nat) : Nat → List UInt8 → Int → Int → Option (O2 (Bool) (Unit))
  | 0, _, _, _ => none
  | n + 1, p0, p1, p2 =>
  bif ltI p2 p1 then
   Option.bind (atI p0 p2) fun c1 =>
   bif ltI (bv c1) 97 then
    bif ltI (bv c1) 48 then
     bif eqI (bv c1) 45 then
      dname_ordinary_L0 N n p0 p1 (addI .i64 p2 1)
     else
     bif eqI (bv c1) 95 then
      dname_ordinary_L0 N n p0 p1 (addI .i64 p2 1)
     else
      some (.a false)
    else
    bif ltI 57 (bv c1) then
     bif eqI (bv c1) 45 then
      dname_ordinary_L0 N n p0 p1 (addI .i64 p2 1)
     else
     bif eqI (bv c1) 95 then
      dname_ordinary_L0 N n p0 p1 (addI .i64 p2 1)
     else
      some (.a false)
    else
    dname_ordinary_L0 N n p0 p1 (addI .i64 p2 1)
   else
   bif ltI 122 (bv c1) then
    bif ltI (bv c1) 48 then
     bif eqI (bv c1) 45 then
      dname_ordinary_L0 N n p0 p1 (addI .i64 p2 1)
     else
     bif eqI (bv c1) 95 then
      dname_ordinary_L0 N n p0 p1 (addI .i64 p2 1)
     else
      some (.a false)
    else
    bif ltI 57 (bv c1) then
     bif eqI (bv c1) 45 then
      dname_ordinary_L0 N n p0 p1 (addI .i64 p2 1)
     else
     bif eqI (bv c1) 95 then
      dname_ordinary_L0 N n p0 p1 (addI .i64 p2 1)
     else
      some (.a false)
    else
    dname_ordinary_L0 N n p0 p1 (addI .i64 p2 1)
   else
   dname_ordinary_L0 N n p0 p1 (addI .i64 p2 1)
  else
   some (.b ())
def dname_ordinary (N : Nat) (a0 : List UInt8) : Option (Bool) :=
 bif eqS a0 ([] : List UInt8) then
  some false
 else
 bif ltI 63 (ln a0) then
  some false
 else
 Option.bind (dname_ordinary_L0 N N a0 (ln a0) 0) (O2.el
   (fun o1 =>
   some o1)
   (fun o2 =>
   some true))
def dname_Valid_L0 (N : Nat) : Nat → List (List UInt8) → Int → Int → Option (O2 (Bool) (Unit))
  | 0, _, _, _ => none
  | n + 1, p0, p1, p2 =>
  bif ltI p2 p1 then
   Option.bind (atI p0 p2) fun e1 =>
   Option.bind (dname_ordinary N e1) fun r2 =>
   bif r2 then
    dname_Valid_L0 N n p0 p1 (addI .i64 p2 1)
   else
   bif ltI 0 p2 then
    some (.a false)
   else
   bif eqS e1 ([42] : List UInt8) then
    dname_Valid_L0 N n p0 p1 (addI .i64 p2 1)
   else
    some (.a false)
  else
   some (.b ())
def dname_Valid_L0b (N : Nat) : Nat → List (List UInt8) → Int → Int → Option (O2 (Bool) (Unit))
  | 0, _, _, _ => none
  | n + 1, p0, p1, p2 =>
  bif ltI p2 p1 then
   Option.bind (atI p0 p2) fun e1 =>
   Option.bind (dname_ordinary N e1) fun r2 =>
   bif r2 then
    dname_Valid_L0b N n p0 p1 (addI .i64 p2 1)
   else
   bif ltI 0 p2 then
    some (.a false)
   else
   bif eqS e1 ([42] : List UInt8) then
    dname_Valid_L0b N n p0 p1 (addI .i64 p2 1)
   else
    some (.a false)
  else
   some (.b ())
def dname_Valid (N : Nat) (a0 : List UInt8) : Option (Bool) :=
 bif eqS a0 ([46] : List UInt8) then
  some true
 else
 bif leI 255 (ln a0) then
  some false
 else
 Option.bind (strings_HasSuffix N a0 ([46] : List UInt8)) fun r1 =>
 bif r1 then
  Option.bind (cutI a0 0 (subI .i64 (ln a0) 1)) fun s2 =>
  Option.bind (strings_Split N s2 ([46] : List UInt8)) (O2.el
    (fun r3 =>
    Option.bind (dname_Valid_L0 N N r3 (ln r3) 0) (O2.el
      (fun o4 =>
      some o4)
      (fun o5 =>
      some true)))
    (fun r6 =>
    Option.bind (dname_Valid_L0b N N r6 (ln r6) 0) (O2.el
      (fun o7 =>
      some o7)
      (fun o8 =>
      some true))))
 else
  some false
def i_stringslite_HasPrefix (N : Nat) (a0 a1 : List UInt8) : Option (Bool) :=
 bif leI (ln a1) (ln a0) then
  Option.bind (cutI a0 0 (ln a1)) fun s1 =>
  bif eqS s1 a1 then
   some true
  else
   some false
 else
  some false
def strings_HasPrefix (N : Nat) (a0 a1 : List UInt8) : Option (Bool) :=
 Option.bind (i_stringslite_HasPrefix N a0 a1) fun r1 =>
 some r1
def rdata_host (N : Nat) (a0 : List UInt8) : Option (Bool) :=
 Option.bind (dname_Valid N a0) fun r1 =>
 bif r1 then
  Option.bind (strings_HasPrefix N a0 ([42] : List UInt8)) fun r2 =>
  bif r2 then
   some false
  else
   some true
 else
  some false
def serial_Valid (N : Nat) (a0 : Int) : Option (Bool) :=
 bif leI 0 a0 then
  bif ltI a0 4294967296 then
   some true
  else
   some false
 else
  some false
def rdata_within (N : Nat) (a0 a1 : Int) : Option (Bool) :=
 bif leI 0 a0 then
  bif leI a0 a1 then
   some true
  else
   some false
 else
  some false
def rdata_long (N : Nat) (a0 : List UInt8) : Option (Bool) :=
 bif leI 1 (ln a0) then
  bif leI (ln a0) 255 then
   some true
  else
   some false
 else
  some false
def rdata_all_L0 (N : Nat) : Nat → Int → List Rw3 → Int → Int → Option (Int)
  | 0, _, _, _, _ => none
  | n + 1, p0, p1, p2, p3 =>
  bif ltI p3 p2 then
   Option.bind (atI p1 p3) fun e1 =>
   Option.bind (shlI .u64 1 e1.c0) fun n2 =>
   rdata_all_L0 N n (orI .u64 p0 n2) p1 p2 (addI .i64 p3 1)
  else
   some p0
def rdata_all (N : Nat) : Option (Int) :=
 Option.bind (rdata_kinds N) fun r1 =>
 Option.bind (rdata_all_L0 N N 0 r1 (ln r1) 0) fun o2 =>
 some o2
def rdata_Mnemonic (N : Nat) (a0 : Int) : Option (List UInt8) :=
 Option.bind (rdata_find N a0) fun r1 =>
 some r1.2.1
def r05_Mnemonic (N : Nat) (a0 : Int) : Option (List UInt8) :=
 bif eqI a0 1 then
  some ([65] : List UInt8)
 else
 bif eqI a0 2 then
  some ([78, 83] : List UInt8)
 else
 bif eqI a0 5 then
  some ([67, 78, 65, 77, 69] : List UInt8)
 else
 bif eqI a0 6 then
  some ([83, 79, 65] : List UInt8)
 else
 bif eqI a0 12 then
  some ([80, 84, 82] : List UInt8)
 else
 bif eqI a0 15 then
  some ([77, 88] : List UInt8)
 else
 bif eqI a0 16 then
  some ([84, 88, 84] : List UInt8)
 else
 bif eqI a0 28 then
  some ([65, 65, 65, 65] : List UInt8)
 else
 bif eqI a0 33 then
  some ([83, 82, 86] : List UInt8)
 else
 bif eqI a0 39 then
  some ([68, 78, 65, 77, 69] : List UInt8)
 else
 bif eqI a0 43 then
  some ([68, 83] : List UInt8)
 else
 bif eqI a0 46 then
  some ([82, 82, 83, 73, 71] : List UInt8)
 else
 bif eqI a0 47 then
  some ([78, 83, 69, 67] : List UInt8)
 else
 bif eqI a0 48 then
  some ([68, 78, 83, 75, 69, 89] : List UInt8)
 else
  some ([] : List UInt8)
def r05_Known (N : Nat) (a0 : Int) : Option (Bool) :=
 Option.bind (r05_Mnemonic N a0) fun r1 =>
 bif eqS r1 ([] : List UInt8) then
  some false
 else
  some true
def r05_used (N : Nat) (a0 : Int) (a1_0 : Bool) (a1_1 a1_2 : Int) (a1_3 a1_4 a1_5 : List UInt8) (a1_6 a1_7 a1_8 a1_9 a1_10 a1_11 a1_12 : Int) : Option (Bool × Int × Int × List UInt8 × List UInt8 × List UInt8 × Int × Int × Int × Int × Int × Int × Int) :=
 bif eqI a0 1 then
  some (a1_0, a1_1, a1_2, ([] : List UInt8), ([] : List UInt8), ([] : List UInt8), 0, 0, 0, 0, 0, 0, 0)
 else
 bif eqI a0 28 then
  some (a1_0, a1_1, a1_2, ([] : List UInt8), ([] : List UInt8), ([] : List UInt8), 0, 0, 0, 0, 0, 0, 0)
 else
 bif eqI a0 2 then
  some (false, 0, 0, a1_3, ([] : List UInt8), ([] : List UInt8), 0, 0, 0, 0, 0, 0, 0)
 else
 bif eqI a0 5 then
  some (false, 0, 0, a1_3, ([] : List UInt8), ([] : List UInt8), 0, 0, 0, 0, 0, 0, 0)
 else
 bif eqI a0 12 then
  some (false, 0, 0, a1_3, ([] : List UInt8), ([] : List UInt8), 0, 0, 0, 0, 0, 0, 0)
 else
 bif eqI a0 39 then
  some (false, 0, 0, a1_3, ([] : List UInt8), ([] : List UInt8), 0, 0, 0, 0, 0, 0, 0)
 else
 bif eqI a0 6 then
  some (false, 0, 0, a1_3, a1_4, ([] : List UInt8), a1_6, a1_7, a1_8, a1_9, a1_10, 0, 0)
 else
 bif eqI a0 15 then
  some (false, 0, 0, a1_3, ([] : List UInt8), ([] : List UInt8), a1_6, 0, 0, 0, 0, 0, 0)
 else
 bif eqI a0 16 then
  some (false, 0, 0, ([] : List UInt8), ([] : List UInt8), a1_5, 0, 0, 0, 0, 0, 0, 0)
 else
 bif eqI a0 33 then
  some (false, 0, 0, a1_3, ([] : List UInt8), ([] : List UInt8), a1_6, a1_7, a1_8, 0, 0, 0, 0)
 else
 bif eqI a0 43 then
  some (false, 0, 0, ([] : List UInt8), ([] : List UInt8), a1_5, a1_6, a1_7, a1_8, 0, 0, 0, 0)
 else
 bif eqI a0 48 then
  some (false, 0, 0, ([] : List UInt8), ([] : List UInt8), a1_5, a1_6, a1_7, a1_8, 0, 0, 0, 0)
 else
 bif eqI a0 46 then
  some (false, 0, 0, a1_3, ([] : List UInt8), a1_5, a1_6, a1_7, a1_8, a1_9, a1_10, a1_11, 0)
 else
  some (false, 0, 0, a1_3, ([] : List UInt8), ([] : List UInt8), 0, 0, 0, 0, 0, 0, a1_12)
def r02_Valid (N : Nat) (a0_0 : Bool) (a0_1 a0_2 : Int) : Option (Bool) :=
 bif a0_0 then
  some true
 else
 bif eqI a0_1 0 then
  bif ltI a0_2 4294967296 then
   some true
  else
   some false
 else
  some false
def r01_isLabel_L0 (N : Nat) : Nat → List UInt8 → Int → Option (O2 (Bool) (Unit))
  | 0, _, _ => none
  | n + 1, p0, p1 =>
  bif ltI p1 (ln p0) then
   Option.bind (atI p0 p1) fun c1 =>
   bif leI 97 (bv c1) then
    bif leI (bv c1) 122 then
     r01_isLabel_L0 N n p0 (addI .i64 p1 1)
    else
    bif leI 48 (bv c1) then
     bif leI (bv c1) 57 then
      r01_isLabel_L0 N n p0 (addI .i64 p1 1)
     else
     bif eqI (bv c1) 45 then
      r01_isLabel_L0 N n p0 (addI .i64 p1 1)
     else
     bif eqI (bv c1) 95 then
      r01_isLabel_L0 N n p0 (addI .i64 p1 1)
     else
      some (.a false)
    else
    bif eqI (bv c1) 45 then
     r01_isLabel_L0 N n p0 (addI .i64 p1 1)
    else
    bif eqI (bv c1) 95 then
     r01_isLabel_L0 N n p0 (addI .i64 p1 1)
    else
     some (.a false)
   else
   bif leI 48 (bv c1) then
    bif leI (bv c1) 57 then
     r01_isLabel_L0 N n p0 (addI .i64 p1 1)
    else
    bif eqI (bv c1) 45 then
     r01_isLabel_L0 N n p0 (addI .i64 p1 1)
    else
    bif eqI (bv c1) 95 then
     r01_isLabel_L0 N n p0 (addI .i64 p1 1)
    else
     some (.a false)
   else
   bif eqI (bv c1) 45 then
    r01_isLabel_L0 N n p0 (addI .i64 p1 1)
   else
   bif eqI (bv c1) 95 then
    r01_isLabel_L0 N n p0 (addI .i64 p1 1)
   else
    some (.a false)
  else
   some (.b ())
def r01_isLabel (N : Nat) (a0 : List UInt8) : Option (Bool) :=
 bif eqS a0 ([42] : List UInt8) then
  some true
 else
 bif ltI (ln a0) 1 then
  some false
 else
 bif ltI 63 (ln a0) then
  some false
 else
 Option.bind (r01_isLabel_L0 N N a0 0) (O2.el
   (fun o1 =>
   some o1)
   (fun o2 =>
   some true))
def r01_split_L0 (N : Nat) : Nat → List UInt8 → List (List UInt8) → Int → Int → Option (O2 (List (List UInt8) × Bool) (List (List UInt8)))
  | 0, _, _, _, _ => none
  | n + 1, p0, p1, p2, p3 =>
  bif ltI p3 (ln p0) then
   Option.bind (atI p0 p3) fun c1 =>
   bif eqI (bv c1) 46 then
    Option.bind (cutI p0 p2 p3) fun s2 =>
    Option.bind (r01_isLabel N s2) fun r3 =>
    bif r3 then
     bif eqS s2 ([42] : List UInt8) then
      bif ltI 0 p2 then
       some (.a ([], false))
      else
      bif room1 p1 1 16 then
       r01_split_L0 N n p0 (p1 ++ [s2]) (addI .i64 p3 1) (addI .i64 p3 1)
      else
      none
     else
     bif room1 p1 1 16 then
      r01_split_L0 N n p0 (p1 ++ [s2]) (addI .i64 p3 1) (addI .i64 p3 1)
     else
     none
    else
     some (.a ([], false))
   else
   r01_split_L0 N n p0 p1 p2 (addI .i64 p3 1)
  else
   some (.b p1)
def r01_split (N : Nat) (a0 : List UInt8) : Option (List (List UInt8) × Bool) :=
 bif eqS a0 ([46] : List UInt8) then
  some ([], true)
 else
 bif ltI (ln a0) 2 then
  some ([], false)
 else
 bif ltI 254 (ln a0) then
  some ([], false)
 else
 Option.bind (atI a0 (subI .i64 (ln a0) 1)) fun c1 =>
 bif eqI (bv c1) 46 then
  Option.bind (r01_split_L0 N N a0 [] 0 0) (O2.el
    (fun o2 =>
    some (o2.1, o2.2))
    (fun o3 =>
    some (o3, true)))
 else
  some ([], false)
def r01_Valid (N : Nat) (a0 : List UInt8) : Option (Bool) :=
 Option.bind (r01_split N a0) fun r1 =>
 some r1.2
def r05_host (N : Nat) (a0 : List UInt8) : Option (Bool) :=
 Option.bind (r01_Valid N a0) fun r1 =>
 bif r1 then
  Option.bind (atI a0 0) fun c2 =>
  bif eqI (bv c2) 42 then
   some false
  else
   some true
 else
  some false
def r04_Valid (N : Nat) (a0 : Int) : Option (Bool) :=
 bif leI 0 a0 then
  bif ltI a0 4294967296 then
   some true
  else
   some false
 else
  some false
def r05_in (N : Nat) (a0 a1 : Int) : Option (Bool) :=
 bif leI 0 a0 then
  bif leI a0 a1 then
   some true
  else
   some false
 else
  some false
def r05_text (N : Nat) (a0 : List UInt8) : Option (Bool) :=
 bif leI 1 (ln a0) then
  bif leI (ln a0) 255 then
   some true
  else
   some false
 else
  some false
def r05_all_L0 (N : Nat) : Nat → Int → Int → Option (O2 (Bool) (Unit))
  | 0, _, _ => none
  | n + 1, p0, p1 =>
  bif ltI p1 64 then
   Option.bind (shrI .u64 p0 (convI .u64 p1)) fun n1 =>
   bif eqI (andI .u64 n1 1) 1 then
    Option.bind (r05_Known N p1) fun r2 =>
    bif r2 then
     r05_all_L0 N n p0 (addI .i64 p1 1)
    else
     some (.a false)
   else
   r05_all_L0 N n p0 (addI .i64 p1 1)
  else
   some (.b ())
def r05_all (N : Nat) (a0 : Int) : Option (Bool) :=
 Option.bind (r05_all_L0 N N a0 0) (O2.el
   (fun o1 =>
   some o1)
   (fun o2 =>
   some true))
def r06_Fields (N : Nat) (a0 : Int) : Option (List UInt8) :=
 bif eqI a0 1 then
  some ([97] : List UInt8)
 else
 bif eqI a0 28 then
  some ([97] : List UInt8)
 else
 bif eqI a0 2 then
  some ([110] : List UInt8)
 else
 bif eqI a0 5 then
  some ([110] : List UInt8)
 else
 bif eqI a0 12 then
  some ([110] : List UInt8)
 else
 bif eqI a0 39 then
  some ([110] : List UInt8)
 else
 bif eqI a0 6 then
  some ([110, 109, 65, 98, 99, 100, 101] : List UInt8)
 else
 bif eqI a0 15 then
  some ([65, 110] : List UInt8)
 else
 bif eqI a0 16 then
  some ([116] : List UInt8)
 else
 bif eqI a0 33 then
  some ([65, 66, 67, 110] : List UInt8)
 else
 bif eqI a0 43 then
  some ([65, 66, 67, 120] : List UInt8)
 else
 bif eqI a0 48 then
  some ([65, 66, 67, 120] : List UInt8)
 else
 bif eqI a0 46 then
  some ([121, 115, 66, 67, 68, 69, 70, 110, 120] : List UInt8)
 else
 bif eqI a0 47 then
  some ([110, 122] : List UInt8)
 else
  some ([] : List UInt8)
def w06_same_L0 (N : Nat) : Nat → List (List UInt8) → List (List UInt8) → Int → Option (O2 (Bool) (Unit))
  | 0, _, _, _ => none
  | n + 1, p0, p1, p2 =>
  bif ltI p2 (ln p0) then
   Option.bind (atI p0 p2) fun e1 =>
   Option.bind (atI p1 p2) fun e2 =>
   bif eqS e1 e2 then
    w06_same_L0 N n p0 p1 (addI .i64 p2 1)
   else
    some (.a false)
  else
   some (.b ())
def w06_same (N : Nat) (a0 a1 : List (List UInt8)) : Option (Bool) :=
 bif eqI (ln a0) (ln a1) then
  Option.bind (w06_same_L0 N N a0 a1 0) (O2.el
    (fun o1 =>
    some o1)
    (fun o2 =>
    some true))
 else
  some false
end Go.Ev
/- Functions as plain Lean. Condition: none. -/
namespace Go.Ev
set_option linter.all false
set_option maxRecDepth 10000
set_option maxHeartbeats 8000000
def rdata_Valid (N : Nat) (a0 : Int) (a1_0 : Bool) (a1_1 a1_2 : Int) (a1_3 a1_4 a1_5 : List UInt8) (a1_6 a1_7 a1_8 a1_9 a1_10 a1_11 a1_12 : Int) : Option (Bool) :=
 bif eqI a0 1 then
  bif a1_0 then
   bif eqI a1_1 a1_1 then
    bif eqI a1_2 a1_2 then
     bif eqS a1_3 ([] : List UInt8) then
      bif eqS a1_4 ([] : List UInt8) then
       bif eqS a1_5 ([] : List UInt8) then
        bif eqI a1_6 0 then
         bif eqI a1_7 0 then
          bif eqI a1_8 0 then
           bif eqI a1_9 0 then
            bif eqI a1_10 0 then
             bif eqI a1_11 0 then
              bif eqI a1_12 0 then
               Option.bind (addr_Valid N true a1_1 a1_2) fun r1 =>
               bif r1 then
                bif eqI a0 28 then
                 some true
                else
                 some false
               else
                some false
              else
               some false
             else
              some false
            else
             some false
           else
            some false
          else
           some false
         else
          some false
        else
         some false
       else
        some false
      else
       some false
     else
      some false
    else
     some false
   else
    some false
  else
  bif eqI a1_1 a1_1 then
   bif eqI a1_2 a1_2 then
    bif eqS a1_3 ([] : List UInt8) then
     bif eqS a1_4 ([] : List UInt8) then
      bif eqS a1_5 ([] : List UInt8) then
       bif eqI a1_6 0 then
        bif eqI a1_7 0 then
         bif eqI a1_8 0 then
          bif eqI a1_9 0 then
           bif eqI a1_10 0 then
            bif eqI a1_11 0 then
             bif eqI a1_12 0 then
              Option.bind (addr_Valid N false a1_1 a1_2) fun r2 =>
              bif r2 then
               bif eqI a0 28 then
                some false
               else
                some true
              else
               some false
             else
              some false
            else
             some false
           else
            some false
          else
           some false
         else
          some false
        else
         some false
       else
        some false
      else
       some false
     else
      some false
    else
     some false
   else
    some false
  else
   some false
 else
 bif eqI a0 28 then
  bif a1_0 then
   bif eqI a1_1 a1_1 then
    bif eqI a1_2 a1_2 then
     bif eqS a1_3 ([] : List UInt8) then
      bif eqS a1_4 ([] : List UInt8) then
       bif eqS a1_5 ([] : List UInt8) then
        bif eqI a1_6 0 then
         bif eqI a1_7 0 then
          bif eqI a1_8 0 then
           bif eqI a1_9 0 then
            bif eqI a1_10 0 then
             bif eqI a1_11 0 then
              bif eqI a1_12 0 then
               Option.bind (addr_Valid N true a1_1 a1_2) fun r3 =>
               bif r3 then
                some true
               else
                some false
              else
               some false
             else
              some false
            else
             some false
           else
            some false
          else
           some false
         else
          some false
        else
         some false
       else
        some false
      else
       some false
     else
      some false
    else
     some false
   else
    some false
  else
  bif eqI a1_1 a1_1 then
   bif eqI a1_2 a1_2 then
    bif eqS a1_3 ([] : List UInt8) then
     bif eqS a1_4 ([] : List UInt8) then
      bif eqS a1_5 ([] : List UInt8) then
       bif eqI a1_6 0 then
        bif eqI a1_7 0 then
         bif eqI a1_8 0 then
          bif eqI a1_9 0 then
           bif eqI a1_10 0 then
            bif eqI a1_11 0 then
             bif eqI a1_12 0 then
              Option.bind (addr_Valid N false a1_1 a1_2) fun r4 =>
              bif r4 then
               some false
              else
               some false
             else
              some false
            else
             some false
           else
            some false
          else
           some false
         else
          some false
        else
         some false
       else
        some false
      else
       some false
     else
      some false
    else
     some false
   else
    some false
  else
   some false
 else
 bif eqI a0 2 then
  bif a1_0 then
   some false
  else
  bif eqI a1_1 0 then
   bif eqI a1_2 0 then
    bif eqS a1_3 a1_3 then
     bif eqS a1_4 ([] : List UInt8) then
      bif eqS a1_5 ([] : List UInt8) then
       bif eqI a1_6 0 then
        bif eqI a1_7 0 then
         bif eqI a1_8 0 then
          bif eqI a1_9 0 then
           bif eqI a1_10 0 then
            bif eqI a1_11 0 then
             bif eqI a1_12 0 then
              Option.bind (rdata_host N a1_3) fun r5 =>
              some r5
             else
              some false
            else
             some false
           else
            some false
          else
           some false
         else
          some false
        else
         some false
       else
        some false
      else
       some false
     else
      some false
    else
     some false
   else
    some false
  else
   some false
 else
 bif eqI a0 5 then
  bif a1_0 then
   some false
  else
  bif eqI a1_1 0 then
   bif eqI a1_2 0 then
    bif eqS a1_3 a1_3 then
     bif eqS a1_4 ([] : List UInt8) then
      bif eqS a1_5 ([] : List UInt8) then
       bif eqI a1_6 0 then
        bif eqI a1_7 0 then
         bif eqI a1_8 0 then
          bif eqI a1_9 0 then
           bif eqI a1_10 0 then
            bif eqI a1_11 0 then
             bif eqI a1_12 0 then
              Option.bind (rdata_host N a1_3) fun r6 =>
              some r6
             else
              some false
            else
             some false
           else
            some false
          else
           some false
         else
          some false
        else
         some false
       else
        some false
      else
       some false
     else
      some false
    else
     some false
   else
    some false
  else
   some false
 else
 bif eqI a0 12 then
  bif a1_0 then
   some false
  else
  bif eqI a1_1 0 then
   bif eqI a1_2 0 then
    bif eqS a1_3 a1_3 then
     bif eqS a1_4 ([] : List UInt8) then
      bif eqS a1_5 ([] : List UInt8) then
       bif eqI a1_6 0 then
        bif eqI a1_7 0 then
         bif eqI a1_8 0 then
          bif eqI a1_9 0 then
           bif eqI a1_10 0 then
            bif eqI a1_11 0 then
             bif eqI a1_12 0 then
              Option.bind (rdata_host N a1_3) fun r7 =>
              some r7
             else
              some false
            else
             some false
           else
            some false
          else
           some false
         else
          some false
        else
         some false
       else
        some false
      else
       some false
     else
      some false
    else
     some false
   else
    some false
  else
   some false
 else
 bif eqI a0 39 then
  bif a1_0 then
   some false
  else
  bif eqI a1_1 0 then
   bif eqI a1_2 0 then
    bif eqS a1_3 a1_3 then
     bif eqS a1_4 ([] : List UInt8) then
      bif eqS a1_5 ([] : List UInt8) then
       bif eqI a1_6 0 then
        bif eqI a1_7 0 then
         bif eqI a1_8 0 then
          bif eqI a1_9 0 then
           bif eqI a1_10 0 then
            bif eqI a1_11 0 then
             bif eqI a1_12 0 then
              Option.bind (rdata_host N a1_3) fun r8 =>
              some r8
             else
              some false
            else
             some false
           else
            some false
          else
           some false
         else
          some false
        else
         some false
       else
        some false
      else
       some false
     else
      some false
    else
     some false
   else
    some false
  else
   some false
 else
 bif eqI a0 6 then
  bif a1_0 then
   some false
  else
  bif eqI a1_1 0 then
   bif eqI a1_2 0 then
    bif eqS a1_3 a1_3 then
     bif eqS a1_4 a1_4 then
      bif eqS a1_5 ([] : List UInt8) then
       bif eqI a1_6 a1_6 then
        bif eqI a1_7 a1_7 then
         bif eqI a1_8 a1_8 then
          bif eqI a1_9 a1_9 then
           bif eqI a1_10 a1_10 then
            bif eqI a1_11 0 then
             bif eqI a1_12 0 then
              Option.bind (rdata_host N a1_3) fun r9 =>
              bif r9 then
               Option.bind (rdata_host N a1_4) fun r10 =>
               bif r10 then
                Option.bind (serial_Valid N a1_6) fun r11 =>
                bif r11 then
                 Option.bind (rdata_within N a1_7 2147483647) fun r12 =>
                 bif r12 then
                  Option.bind (rdata_within N a1_8 2147483647) fun r13 =>
                  bif r13 then
                   Option.bind (rdata_within N a1_9 2147483647) fun r14 =>
                   bif r14 then
                    Option.bind (rdata_within N a1_10 2147483647) fun r15 =>
                    some r15
                   else
                    some false
                  else
                   some false
                 else
                  some false
                else
                 some false
               else
                some false
              else
               some false
             else
              some false
            else
             some false
           else
            some false
          else
           some false
         else
          some false
        else
         some false
       else
        some false
      else
       some false
     else
      some false
    else
     some false
   else
    some false
  else
   some false
 else
 bif eqI a0 15 then
  bif a1_0 then
   some false
  else
  bif eqI a1_1 0 then
   bif eqI a1_2 0 then
    bif eqS a1_3 a1_3 then
     bif eqS a1_4 ([] : List UInt8) then
      bif eqS a1_5 ([] : List UInt8) then
       bif eqI a1_6 a1_6 then
        bif eqI a1_7 0 then
         bif eqI a1_8 0 then
          bif eqI a1_9 0 then
           bif eqI a1_10 0 then
            bif eqI a1_11 0 then
             bif eqI a1_12 0 then
              Option.bind (rdata_host N a1_3) fun r16 =>
              bif r16 then
               Option.bind (rdata_within N a1_6 65535) fun r17 =>
               some r17
              else
               some false
             else
              some false
            else
             some false
           else
            some false
          else
           some false
         else
          some false
        else
         some false
       else
        some false
      else
       some false
     else
      some false
    else
     some false
   else
    some false
  else
   some false
 else
 bif eqI a0 16 then
  bif a1_0 then
   some false
  else
  bif eqI a1_1 0 then
   bif eqI a1_2 0 then
    bif eqS a1_3 ([] : List UInt8) then
     bif eqS a1_4 ([] : List UInt8) then
      bif eqS a1_5 a1_5 then
       bif eqI a1_6 0 then
        bif eqI a1_7 0 then
         bif eqI a1_8 0 then
          bif eqI a1_9 0 then
           bif eqI a1_10 0 then
            bif eqI a1_11 0 then
             bif eqI a1_12 0 then
              bif leI (ln a1_5) 255 then
               some true
              else
               some false
             else
              some false
            else
             some false
           else
            some false
          else
           some false
         else
          some false
        else
         some false
       else
        some false
      else
       some false
     else
      some false
    else
     some false
   else
    some false
  else
   some false
 else
 bif eqI a0 33 then
  bif a1_0 then
   some false
  else
  bif eqI a1_1 0 then
   bif eqI a1_2 0 then
    bif eqS a1_3 a1_3 then
     bif eqS a1_4 ([] : List UInt8) then
      bif eqS a1_5 ([] : List UInt8) then
       bif eqI a1_6 a1_6 then
        bif eqI a1_7 a1_7 then
         bif eqI a1_8 a1_8 then
          bif eqI a1_9 0 then
           bif eqI a1_10 0 then
            bif eqI a1_11 0 then
             bif eqI a1_12 0 then
              Option.bind (rdata_host N a1_3) fun r18 =>
              bif r18 then
               Option.bind (rdata_within N a1_6 65535) fun r19 =>
               bif r19 then
                Option.bind (rdata_within N a1_7 65535) fun r20 =>
                bif r20 then
                 Option.bind (rdata_within N a1_8 65535) fun r21 =>
                 some r21
                else
                 some false
               else
                some false
              else
               some false
             else
              some false
            else
             some false
           else
            some false
          else
           some false
         else
          some false
        else
         some false
       else
        some false
      else
       some false
     else
      some false
    else
     some false
   else
    some false
  else
   some false
 else
 bif eqI a0 43 then
  bif a1_0 then
   some false
  else
  bif eqI a1_1 0 then
   bif eqI a1_2 0 then
    bif eqS a1_3 ([] : List UInt8) then
     bif eqS a1_4 ([] : List UInt8) then
      bif eqS a1_5 a1_5 then
       bif eqI a1_6 a1_6 then
        bif eqI a1_7 a1_7 then
         bif eqI a1_8 a1_8 then
          bif eqI a1_9 0 then
           bif eqI a1_10 0 then
            bif eqI a1_11 0 then
             bif eqI a1_12 0 then
              Option.bind (rdata_long N a1_5) fun r22 =>
              bif r22 then
               Option.bind (rdata_within N a1_6 65535) fun r23 =>
               bif r23 then
                Option.bind (rdata_within N a1_7 255) fun r24 =>
                bif r24 then
                 Option.bind (rdata_within N a1_8 255) fun r25 =>
                 some r25
                else
                 some false
               else
                some false
              else
               some false
             else
              some false
            else
             some false
           else
            some false
          else
           some false
         else
          some false
        else
         some false
       else
        some false
      else
       some false
     else
      some false
    else
     some false
   else
    some false
  else
   some false
 else
 bif eqI a0 46 then
  bif a1_0 then
   some false
  else
  bif eqI a1_1 0 then
   bif eqI a1_2 0 then
    bif eqS a1_3 a1_3 then
     bif eqS a1_4 ([] : List UInt8) then
      bif eqS a1_5 a1_5 then
       bif eqI a1_6 a1_6 then
        bif eqI a1_7 a1_7 then
         bif eqI a1_8 a1_8 then
          bif eqI a1_9 a1_9 then
           bif eqI a1_10 a1_10 then
            bif eqI a1_11 a1_11 then
             bif eqI a1_12 0 then
              Option.bind (rdata_long N a1_5) fun r26 =>
              bif r26 then
               Option.bind (rdata_host N a1_3) fun r27 =>
               bif r27 then
                Option.bind (rdata_Known N a1_6) fun r28 =>
                bif r28 then
                 bif eqI a1_6 46 then
                  some false
                 else
                 Option.bind (rdata_within N a1_7 127) fun r29 =>
                 bif r29 then
                  Option.bind (rdata_within N a1_8 2147483647) fun r30 =>
                  bif r30 then
                   Option.bind (rdata_within N a1_9 4294967295) fun r31 =>
                   bif r31 then
                    Option.bind (rdata_within N a1_10 4294967295) fun r32 =>
                    bif r32 then
                     Option.bind (rdata_within N a1_11 65535) fun r33 =>
                     some r33
                    else
                     some false
                   else
                    some false
                  else
                   some false
                 else
                  some false
                else
                 some false
               else
                some false
              else
               some false
             else
              some false
            else
             some false
           else
            some false
          else
           some false
         else
          some false
        else
         some false
       else
        some false
      else
       some false
     else
      some false
    else
     some false
   else
    some false
  else
   some false
 else
 bif eqI a0 47 then
  bif a1_0 then
   some false
  else
  bif eqI a1_1 0 then
   bif eqI a1_2 0 then
    bif eqS a1_3 a1_3 then
     bif eqS a1_4 ([] : List UInt8) then
      bif eqS a1_5 ([] : List UInt8) then
       bif eqI a1_6 0 then
        bif eqI a1_7 0 then
         bif eqI a1_8 0 then
          bif eqI a1_9 0 then
           bif eqI a1_10 0 then
            bif eqI a1_11 0 then
             bif eqI a1_12 a1_12 then
              Option.bind (dname_Valid N a1_3) fun r34 =>
              bif r34 then
               bif eqI a1_12 0 then
                some false
               else
               Option.bind (rdata_all N) fun r35 =>
               bif eqI (andNotI .u64 a1_12 r35) 0 then
                some true
               else
                some false
              else
               some false
             else
              some false
            else
             some false
           else
            some false
          else
           some false
         else
          some false
        else
         some false
       else
        some false
      else
       some false
     else
      some false
    else
     some false
   else
    some false
  else
   some false
 else
 bif eqI a0 48 then
  bif a1_0 then
   some false
  else
  bif eqI a1_1 0 then
   bif eqI a1_2 0 then
    bif eqS a1_3 ([] : List UInt8) then
     bif eqS a1_4 ([] : List UInt8) then
      bif eqS a1_5 a1_5 then
       bif eqI a1_6 a1_6 then
        bif eqI a1_7 a1_7 then
         bif eqI a1_8 a1_8 then
          bif eqI a1_9 0 then
           bif eqI a1_10 0 then
            bif eqI a1_11 0 then
             bif eqI a1_12 0 then
              Option.bind (rdata_long N a1_5) fun r36 =>
              bif r36 then
               bif eqI a1_6 256 then
                bif eqI a1_7 3 then
                 Option.bind (rdata_within N a1_8 255) fun r37 =>
                 some r37
                else
                 some false
               else
               bif eqI a1_6 257 then
                bif eqI a1_7 3 then
                 Option.bind (rdata_within N a1_8 255) fun r38 =>
                 some r38
                else
                 some false
               else
                some false
              else
               some false
             else
              some false
            else
             some false
           else
            some false
          else
           some false
         else
          some false
        else
         some false
       else
        some false
      else
       some false
     else
      some false
    else
     some false
   else
    some false
  else
   some false
 else
  some false
end Go.Ev
/- Functions as plain Lean. Condition: none. -/
namespace Go.Ev
set_option linter.all false
set_option maxRecDepth 10000
set_option maxHeartbeats 8000000
def r05_Valid (N : Nat) (a0 : Int) (a1_0 : Bool) (a1_1 a1_2 : Int) (a1_3 a1_4 a1_5 : List UInt8) (a1_6 a1_7 a1_8 a1_9 a1_10 a1_11 a1_12 : Int) : Option (Bool) :=
 Option.bind (r05_Known N a0) fun r1 =>
 bif r1 then
  Option.bind (r05_used N a0 a1_0 a1_1 a1_2 a1_3 a1_4 a1_5 a1_6 a1_7 a1_8 a1_9 a1_10 a1_11 a1_12) fun r2 =>
  bif r2.1 then
   bif a1_0 then
    bif eqI r2.2.1 a1_1 then
     bif eqI r2.2.2.1 a1_2 then
      bif eqS r2.2.2.2.1 a1_3 then
       bif eqS r2.2.2.2.2.1 a1_4 then
        bif eqS r2.2.2.2.2.2.1 a1_5 then
         bif eqI r2.2.2.2.2.2.2.1 a1_6 then
          bif eqI r2.2.2.2.2.2.2.2.1 a1_7 then
           bif eqI r2.2.2.2.2.2.2.2.2.1 a1_8 then
            bif eqI r2.2.2.2.2.2.2.2.2.2.1 a1_9 then
             bif eqI r2.2.2.2.2.2.2.2.2.2.2.1 a1_10 then
              bif eqI r2.2.2.2.2.2.2.2.2.2.2.2.1 a1_11 then
               bif eqI r2.2.2.2.2.2.2.2.2.2.2.2.2 a1_12 then
                bif eqI a0 1 then
                 Option.bind (r02_Valid N true a1_1 a1_2) fun r3 =>
                 bif r3 then
                  some false
                 else
                  some false
                else
                bif eqI a0 28 then
                 some true
                else
                bif eqI a0 6 then
                 Option.bind (r05_host N a1_3) fun r4 =>
                 bif r4 then
                  Option.bind (r05_host N a1_4) fun r5 =>
                  bif r5 then
                   Option.bind (r04_Valid N a1_6) fun r6 =>
                   bif r6 then
                    Option.bind (r05_in N a1_7 2147483647) fun r7 =>
                    bif r7 then
                     Option.bind (r05_in N a1_8 2147483647) fun r8 =>
                     bif r8 then
                      Option.bind (r05_in N a1_9 2147483647) fun r9 =>
                      bif r9 then
                       Option.bind (r05_in N a1_10 2147483647) fun r10 =>
                       some r10
                      else
                       some false
                     else
                      some false
                    else
                     some false
                   else
                    some false
                  else
                   some false
                 else
                  some false
                else
                bif eqI a0 15 then
                 Option.bind (r05_host N a1_3) fun r11 =>
                 bif r11 then
                  Option.bind (r05_in N a1_6 65535) fun r12 =>
                  some r12
                 else
                  some false
                else
                bif eqI a0 16 then
                 bif leI (ln a1_5) 255 then
                  some true
                 else
                  some false
                else
                bif eqI a0 33 then
                 Option.bind (r05_host N a1_3) fun r13 =>
                 bif r13 then
                  Option.bind (r05_in N a1_6 65535) fun r14 =>
                  bif r14 then
                   Option.bind (r05_in N a1_7 65535) fun r15 =>
                   bif r15 then
                    Option.bind (r05_in N a1_8 65535) fun r16 =>
                    some r16
                   else
                    some false
                  else
                   some false
                 else
                  some false
                else
                bif eqI a0 43 then
                 Option.bind (r05_in N a1_6 65535) fun r17 =>
                 bif r17 then
                  Option.bind (r05_in N a1_7 255) fun r18 =>
                  bif r18 then
                   Option.bind (r05_in N a1_8 255) fun r19 =>
                   bif r19 then
                    Option.bind (r05_text N a1_5) fun r20 =>
                    some r20
                   else
                    some false
                  else
                   some false
                 else
                  some false
                else
                bif eqI a0 46 then
                 Option.bind (r05_Known N a1_6) fun r21 =>
                 bif r21 then
                  bif eqI a1_6 46 then
                   some false
                  else
                  Option.bind (r05_in N a1_7 127) fun r22 =>
                  bif r22 then
                   Option.bind (r05_in N a1_8 2147483647) fun r23 =>
                   bif r23 then
                    Option.bind (r05_in N a1_9 4294967295) fun r24 =>
                    bif r24 then
                     Option.bind (r05_in N a1_10 4294967295) fun r25 =>
                     bif r25 then
                      Option.bind (r05_in N a1_11 65535) fun r26 =>
                      bif r26 then
                       Option.bind (r05_host N a1_3) fun r27 =>
                       bif r27 then
                        Option.bind (r05_text N a1_5) fun r28 =>
                        some r28
                       else
                        some false
                      else
                       some false
                     else
                      some false
                    else
                     some false
                   else
                    some false
                  else
                   some false
                 else
                  some false
                else
                bif eqI a0 47 then
                 Option.bind (r01_Valid N a1_3) fun r29 =>
                 bif r29 then
                  bif eqI a1_12 0 then
                   some false
                  else
                  Option.bind (r05_all N a1_12) fun r30 =>
                  some r30
                 else
                  some false
                else
                bif eqI a0 48 then
                 bif eqI a1_6 256 then
                  bif eqI a1_7 3 then
                   Option.bind (r05_in N a1_8 255) fun r31 =>
                   bif r31 then
                    Option.bind (r05_text N a1_5) fun r32 =>
                    some r32
                   else
                    some false
                  else
                   some false
                 else
                 bif eqI a1_6 257 then
                  bif eqI a1_7 3 then
                   Option.bind (r05_in N a1_8 255) fun r33 =>
                   bif r33 then
                    Option.bind (r05_text N a1_5) fun r34 =>
                    some r34
                   else
                    some false
                  else
                   some false
                 else
                  some false
                else
                Option.bind (r05_host N a1_3) fun r35 =>
                some r35
               else
                some false
              else
               some false
             else
              some false
            else
             some false
           else
            some false
          else
           some false
         else
          some false
        else
         some false
       else
        some false
      else
       some false
     else
      some false
    else
     some false
   else
    some false
  else
  bif a1_0 then
   some false
  else
  bif eqI r2.2.1 a1_1 then
   bif eqI r2.2.2.1 a1_2 then
    bif eqS r2.2.2.2.1 a1_3 then
     bif eqS r2.2.2.2.2.1 a1_4 then
      bif eqS r2.2.2.2.2.2.1 a1_5 then
       bif eqI r2.2.2.2.2.2.2.1 a1_6 then
        bif eqI r2.2.2.2.2.2.2.2.1 a1_7 then
         bif eqI r2.2.2.2.2.2.2.2.2.1 a1_8 then
          bif eqI r2.2.2.2.2.2.2.2.2.2.1 a1_9 then
           bif eqI r2.2.2.2.2.2.2.2.2.2.2.1 a1_10 then
            bif eqI r2.2.2.2.2.2.2.2.2.2.2.2.1 a1_11 then
             bif eqI r2.2.2.2.2.2.2.2.2.2.2.2.2 a1_12 then
              bif eqI a0 1 then
               Option.bind (r02_Valid N false a1_1 a1_2) fun r36 =>
               bif r36 then
                some true
               else
                some false
              else
              bif eqI a0 28 then
               some false
              else
              bif eqI a0 6 then
               Option.bind (r05_host N a1_3) fun r37 =>
               bif r37 then
                Option.bind (r05_host N a1_4) fun r38 =>
                bif r38 then
                 Option.bind (r04_Valid N a1_6) fun r39 =>
                 bif r39 then
                  Option.bind (r05_in N a1_7 2147483647) fun r40 =>
                  bif r40 then
                   Option.bind (r05_in N a1_8 2147483647) fun r41 =>
                   bif r41 then
                    Option.bind (r05_in N a1_9 2147483647) fun r42 =>
                    bif r42 then
                     Option.bind (r05_in N a1_10 2147483647) fun r43 =>
                     some r43
                    else
                     some false
                   else
                    some false
                  else
                   some false
                 else
                  some false
                else
                 some false
               else
                some false
              else
              bif eqI a0 15 then
               Option.bind (r05_host N a1_3) fun r44 =>
               bif r44 then
                Option.bind (r05_in N a1_6 65535) fun r45 =>
                some r45
               else
                some false
              else
              bif eqI a0 16 then
               bif leI (ln a1_5) 255 then
                some true
               else
                some false
              else
              bif eqI a0 33 then
               Option.bind (r05_host N a1_3) fun r46 =>
               bif r46 then
                Option.bind (r05_in N a1_6 65535) fun r47 =>
                bif r47 then
                 Option.bind (r05_in N a1_7 65535) fun r48 =>
                 bif r48 then
                  Option.bind (r05_in N a1_8 65535) fun r49 =>
                  some r49
                 else
                  some false
                else
                 some false
               else
                some false
              else
              bif eqI a0 43 then
               Option.bind (r05_in N a1_6 65535) fun r50 =>
               bif r50 then
                Option.bind (r05_in N a1_7 255) fun r51 =>
                bif r51 then
                 Option.bind (r05_in N a1_8 255) fun r52 =>
                 bif r52 then
                  Option.bind (r05_text N a1_5) fun r53 =>
                  some r53
                 else
                  some false
                else
                 some false
               else
                some false
              else
              bif eqI a0 46 then
               Option.bind (r05_Known N a1_6) fun r54 =>
               bif r54 then
                bif eqI a1_6 46 then
                 some false
                else
                Option.bind (r05_in N a1_7 127) fun r55 =>
                bif r55 then
                 Option.bind (r05_in N a1_8 2147483647) fun r56 =>
                 bif r56 then
                  Option.bind (r05_in N a1_9 4294967295) fun r57 =>
                  bif r57 then
                   Option.bind (r05_in N a1_10 4294967295) fun r58 =>
                   bif r58 then
                    Option.bind (r05_in N a1_11 65535) fun r59 =>
                    bif r59 then
                     Option.bind (r05_host N a1_3) fun r60 =>
                     bif r60 then
                      Option.bind (r05_text N a1_5) fun r61 =>
                      some r61
                     else
                      some false
                    else
                     some false
                   else
                    some false
                  else
                   some false
                 else
                  some false
                else
                 some false
               else
                some false
              else
              bif eqI a0 47 then
               Option.bind (r01_Valid N a1_3) fun r62 =>
               bif r62 then
                bif eqI a1_12 0 then
                 some false
                else
                Option.bind (r05_all N a1_12) fun r63 =>
                some r63
               else
                some false
              else
              bif eqI a0 48 then
               bif eqI a1_6 256 then
                bif eqI a1_7 3 then
                 Option.bind (r05_in N a1_8 255) fun r64 =>
                 bif r64 then
                  Option.bind (r05_text N a1_5) fun r65 =>
                  some r65
                 else
                  some false
                else
                 some false
               else
               bif eqI a1_6 257 then
                bif eqI a1_7 3 then
                 Option.bind (r05_in N a1_8 255) fun r66 =>
                 bif r66 then
                  Option.bind (r05_text N a1_5) fun r67 =>
                  some r67
                 else
                  some false
                else
                 some false
               else
                some false
              else
              Option.bind (r05_host N a1_3) fun r68 =>
              some r68
             else
              some false
            else
             some false
           else
            some false
          else
           some false
         else
          some false
        else
         some false
       else
        some false
      else
       some false
     else
      some false
    else
     some false
   else
    some false
  else
   some false
 else
  some false
end Go.Ev
/- Functions as plain Lean. Condition: none. -/
namespace Go.Ev
set_option linter.all false
set_option maxRecDepth 10000
set_option maxHeartbeats 8000000
def i_strconv_small (N : Nat) (a0 : Int) : Option (List UInt8) :=
 bif ltI a0 10 then
  Option.bind (cutI ([48, 49, 50, 51, 52, 53, 54, 55, 56, 57, 97, 98, 99, 100, 101, 102, 103, 104, 105, 106, 107, 108, 109, 110, 111, 112, 113, 114, 115, 116, 117, 118, 119, 120, 121, 122] : List UInt8) a0 (addI .i64 a0 1)) fun s1 =>
  some s1
 else
 Option.bind (cutI Sl_8f3ef309 (mulI .i64 a0 2) (addI .i64 (mulI .i64 a0 2) 2)) fun s2 =>
 some s2
def math_bits_Len64 (N : Nat) (a0 : Int) : Option (Int) :=
 bif leI 4294967296 a0 then
  Option.bind (shrI .u64 a0 32) fun n1 =>
  bif leI 65536 n1 then
   Option.bind (shrI .u64 n1 16) fun n2 =>
   bif leI 256 n2 then
    Option.bind (shrI .u64 n2 8) fun n3 =>
    Option.bind (atI Sl_c9535661 (convI .u8 n3)) fun c4 =>
    some (addI .i64 (addI .i64 (addI .i64 32 16) 8) (convI .i64 (bv c4)))
   else
   Option.bind (atI Sl_c9535661 (convI .u8 n2)) fun c5 =>
   some (addI .i64 (addI .i64 32 16) (convI .i64 (bv c5)))
  else
  bif leI 256 n1 then
   Option.bind (shrI .u64 n1 8) fun n6 =>
   Option.bind (atI Sl_c9535661 (convI .u8 n6)) fun c7 =>
   some (addI .i64 (addI .i64 32 8) (convI .i64 (bv c7)))
  else
  Option.bind (atI Sl_c9535661 (convI .u8 n1)) fun c8 =>
  some (addI .i64 32 (convI .i64 (bv c8)))
 else
 bif leI 65536 a0 then
  Option.bind (shrI .u64 a0 16) fun n9 =>
  bif leI 256 n9 then
   Option.bind (shrI .u64 n9 8) fun n10 =>
   Option.bind (atI Sl_c9535661 (convI .u8 n10)) fun c11 =>
   some (addI .i64 (addI .i64 (addI .i64 0 16) 8) (convI .i64 (bv c11)))
  else
  Option.bind (atI Sl_c9535661 (convI .u8 n9)) fun c12 =>
  some (addI .i64 (addI .i64 0 16) (convI .i64 (bv c12)))
 else
 bif leI 256 a0 then
  Option.bind (shrI .u64 a0 8) fun n13 =>
  Option.bind (atI Sl_c9535661 (convI .u8 n13)) fun c14 =>
  some (addI .i64 (addI .i64 0 8) (convI .i64 (bv c14)))
 else
 Option.bind (atI Sl_c9535661 (convI .u8 a0)) fun c15 =>
 some (addI .i64 0 (convI .i64 (bv c15)))
def i_strconv_log10Pow2 (N : Nat) (a0 : Int) : Option (Int) :=
 Option.bind (shrI .i64 (mulI .i64 a0 78913) 18) fun n1 =>
 some n1
def i_strconv_bool2_int (N : Nat) (a0 : Bool) : Option (Int) :=
 bif a0 then
  some 1
 else
  some 0
def i_strconv_numDigits (N : Nat) (a0 : Int) : Option (Int) :=
 Option.bind (math_bits_Len64 N a0) fun r1 =>
 Option.bind (i_strconv_log10Pow2 N r1) fun r2 =>
 bif inN r2 20 then
  Option.bind (pow10I r2) fun e3 =>
  bif leI e3 a0 then
   Option.bind (i_strconv_bool2_int N true) fun r4 =>
   some (addI .i64 r2 r4)
  else
  Option.bind (i_strconv_bool2_int N false) fun r5 =>
  some (addI .i64 r2 r5)
 else
 none
def i_strconv_formatBase10_L0 (N : Nat) : Nat → Nat → Nat → Int → Int → List UInt8 → Option (Int × Int × List UInt8)
  | 0, _, _, _, _, _ => none
  | n + 1, p0, p1, p2, p3, p4 =>
  bif leI 8 p3 then
   Option.bind (remI .u64 p2 100000000) fun n1 =>
   Option.bind (quoI .u64 p2 100000000) fun n2 =>
   Option.bind (quoI .u32 (convI .u32 n1) 10000) fun n3 =>
   Option.bind (remI .u32 (convI .u32 n1) 10000) fun n4 =>
   Option.bind (quoI .u32 n4 100) fun n5 =>
   Option.bind (remI .u32 n4 100) fun n6 =>
   Option.bind (quoI .u32 n3 100) fun n7 =>
   Option.bind (remI .u32 n3 100) fun n8 =>
   Option.bind (atI Sl_8f3ef309 (addI .u32 (mulI .u32 n6 2) 1)) fun c9 =>
   Option.bind (atI Sl_8f3ef309 (mulI .u32 n6 2)) fun c10 =>
   bif inN (subI .i64 p3 1) p1 then
    Option.bind (setO p4 p0 (subI .i64 p3 1) c9) fun l11 =>
    bif inN (subI .i64 p3 2) p1 then
     Option.bind (setO l11 p0 (subI .i64 p3 2) c10) fun l12 =>
     Option.bind (atI Sl_8f3ef309 (addI .u32 (mulI .u32 n5 2) 1)) fun c13 =>
     Option.bind (atI Sl_8f3ef309 (mulI .u32 n5 2)) fun c14 =>
     bif inN (subI .i64 p3 3) p1 then
      Option.bind (setO l12 p0 (subI .i64 p3 3) c13) fun l15 =>
      bif inN (subI .i64 p3 4) p1 then
       Option.bind (setO l15 p0 (subI .i64 p3 4) c14) fun l16 =>
       Option.bind (atI Sl_8f3ef309 (addI .u32 (mulI .u32 n8 2) 1)) fun c17 =>
       Option.bind (atI Sl_8f3ef309 (mulI .u32 n8 2)) fun c18 =>
       bif inN (subI .i64 p3 5) p1 then
        Option.bind (setO l16 p0 (subI .i64 p3 5) c17) fun l19 =>
        bif inN (subI .i64 p3 6) p1 then
         Option.bind (setO l19 p0 (subI .i64 p3 6) c18) fun l20 =>
         Option.bind (atI Sl_8f3ef309 (addI .u32 (mulI .u32 n7 2) 1)) fun c21 =>
         Option.bind (atI Sl_8f3ef309 (mulI .u32 n7 2)) fun c22 =>
         bif inN (subI .i64 p3 7) p1 then
          Option.bind (setO l20 p0 (subI .i64 p3 7) c21) fun l23 =>
          bif inN (subI .i64 p3 8) p1 then
           Option.bind (setO l23 p0 (subI .i64 p3 8) c22) fun l24 =>
           i_strconv_formatBase10_L0 N n p0 p1 n2 (subI .i64 p3 8) l24
          else
          none
         else
         none
        else
        none
       else
       none
      else
      none
     else
     none
    else
    none
   else
   none
  else
   some (p2, p3, p4)
def i_strconv_formatBase10 (N : Nat) (a0o a0m : Nat) (a0 : List UInt8) (a1 : Int) : Option (List UInt8) :=
 Option.bind (i_strconv_formatBase10_L0 N N a0o a0m a1 (nI a0m) a0) fun o1 =>
 bif leI 4 o1.2.1 then
  Option.bind (remI .u32 (convI .u32 o1.1) 10000) fun n2 =>
  Option.bind (quoI .u32 (convI .u32 o1.1) 10000) fun n3 =>
  Option.bind (quoI .u32 n2 100) fun n4 =>
  Option.bind (remI .u32 n2 100) fun n5 =>
  Option.bind (atI Sl_8f3ef309 (addI .u32 (mulI .u32 n5 2) 1)) fun c6 =>
  Option.bind (atI Sl_8f3ef309 (mulI .u32 n5 2)) fun c7 =>
  bif inN (subI .i64 o1.2.1 1) a0m then
   Option.bind (setO o1.2.2 a0o (subI .i64 o1.2.1 1) c6) fun l8 =>
   bif inN (subI .i64 o1.2.1 2) a0m then
    Option.bind (setO l8 a0o (subI .i64 o1.2.1 2) c7) fun l9 =>
    Option.bind (atI Sl_8f3ef309 (addI .u32 (mulI .u32 n4 2) 1)) fun c10 =>
    Option.bind (atI Sl_8f3ef309 (mulI .u32 n4 2)) fun c11 =>
    bif inN (subI .i64 o1.2.1 3) a0m then
     Option.bind (setO l9 a0o (subI .i64 o1.2.1 3) c10) fun l12 =>
     bif inN (subI .i64 o1.2.1 4) a0m then
      Option.bind (setO l12 a0o (subI .i64 o1.2.1 4) c11) fun l13 =>
      bif leI 2 (subI .i64 o1.2.1 4) then
       Option.bind (remI .u32 n3 100) fun n14 =>
       Option.bind (quoI .u32 n3 100) fun n15 =>
       Option.bind (atI Sl_8f3ef309 (addI .u32 (mulI .u32 n14 2) 1)) fun c16 =>
       Option.bind (atI Sl_8f3ef309 (mulI .u32 n14 2)) fun c17 =>
       bif inN (subI .i64 (subI .i64 o1.2.1 4) 1) a0m then
        Option.bind (setO l13 a0o (subI .i64 (subI .i64 o1.2.1 4) 1) c16) fun l18 =>
        bif inN (subI .i64 (subI .i64 o1.2.1 4) 2) a0m then
         Option.bind (setO l18 a0o (subI .i64 (subI .i64 o1.2.1 4) 2) c17) fun l19 =>
         bif ltI 0 (subI .i64 (subI .i64 o1.2.1 4) 2) then
          bif inN 0 a0m then
           Option.bind (setO l19 a0o 0 (u8 (convI .u8 (addI .u32 48 n15)))) fun l20 =>
           some l20
          else
          none
         else
          some l19
        else
        none
       else
       none
      else
      bif ltI 0 (subI .i64 o1.2.1 4) then
       bif inN 0 a0m then
        Option.bind (setO l13 a0o 0 (u8 (convI .u8 (addI .u32 48 n3)))) fun l21 =>
        some l21
       else
       none
      else
       some l13
     else
     none
    else
    none
   else
   none
  else
  none
 else
 bif leI 2 o1.2.1 then
  Option.bind (remI .u32 (convI .u32 o1.1) 100) fun n22 =>
  Option.bind (quoI .u32 (convI .u32 o1.1) 100) fun n23 =>
  Option.bind (atI Sl_8f3ef309 (addI .u32 (mulI .u32 n22 2) 1)) fun c24 =>
  Option.bind (atI Sl_8f3ef309 (mulI .u32 n22 2)) fun c25 =>
  bif inN (subI .i64 o1.2.1 1) a0m then
   Option.bind (setO o1.2.2 a0o (subI .i64 o1.2.1 1) c24) fun l26 =>
   bif inN (subI .i64 o1.2.1 2) a0m then
    Option.bind (setO l26 a0o (subI .i64 o1.2.1 2) c25) fun l27 =>
    bif ltI 0 (subI .i64 o1.2.1 2) then
     bif inN 0 a0m then
      Option.bind (setO l27 a0o 0 (u8 (convI .u8 (addI .u32 48 n23)))) fun l28 =>
      some l28
     else
     none
    else
     some l27
   else
   none
  else
  none
 else
 bif ltI 0 o1.2.1 then
  bif inN 0 a0m then
   Option.bind (setO o1.2.2 a0o 0 (u8 (convI .u8 (addI .u32 48 (convI .u32 o1.1))))) fun l29 =>
   some l29
  else
  none
 else
  some o1.2.2
def i_strconv_isPowerOfTwo (N : Nat) (a0 : Int) : Option (Bool) :=
 bif eqI (andI .i64 a0 (subI .i64 a0 1)) 0 then
  some true
 else
  some false
def i_strconv_formatBits_L1 (N : Nat) : Nat → List UInt8 → Int → Bool → Bool → List UInt8 → List UInt8 → Int → Int → Int → Int → List UInt8 → Option (Int × Int × List UInt8)
  | 0, _, _, _, _, _, _, _, _, _, _, _ => none
  | n + 1, p0, p1, p2, p3, p4, p5, p6, p7, p8, p9, p10 =>
  bif leI p8 p1 then
   Option.bind (atI ([48, 49, 50, 51, 52, 53, 54, 55, 56, 57, 97, 98, 99, 100, 101, 102, 103, 104, 105, 106, 107, 108, 109, 110, 111, 112, 113, 114, 115, 116, 117, 118, 119, 120, 121, 122] : List UInt8) (andI .u64 p1 p9)) fun c1 =>
   bif inN (subI .i64 p6 1) 65 then
    Option.bind (setO p10 0 (subI .i64 p6 1) c1) fun l2 =>
    Option.bind (shrI .u64 p1 p7) fun n3 =>
    i_strconv_formatBits_L1 N n p0 n3 p2 p3 p4 p5 (subI .i64 p6 1) p7 p8 p9 l2
   else
   none
  else
   some (p1, p6, p10)
def i_strconv_formatBits_L0 (N : Nat) : Nat → List UInt8 → Int → Bool → Bool → List UInt8 → List UInt8 → Int → Int → List UInt8 → Option (Int × Int × List UInt8)
  | 0, _, _, _, _, _, _, _, _, _ => none
  | n + 1, p0, p1, p2, p3, p4, p5, p6, p7, p8 =>
  bif leI p7 p1 then
   Option.bind (quoI .u64 p1 p7) fun n1 =>
   Option.bind (atI ([48, 49, 50, 51, 52, 53, 54, 55, 56, 57, 97, 98, 99, 100, 101, 102, 103, 104, 105, 106, 107, 108, 109, 110, 111, 112, 113, 114, 115, 116, 117, 118, 119, 120, 121, 122] : List UInt8) (subI .u64 p1 (mulI .u64 n1 p7))) fun c2 =>
   bif inN (subI .i64 p6 1) 65 then
    Option.bind (setO p8 0 (subI .i64 p6 1) c2) fun l3 =>
    i_strconv_formatBits_L0 N n p0 n1 p2 p3 p4 p5 (subI .i64 p6 1) p7 l3
   else
   none
  else
   some (p1, p6, p8)
def i_strconv_formatBits (N : Nat) (a0 : List UInt8) (a1 a2 : Int) (a3 a4 : Bool) : Option (List UInt8 × List UInt8) :=
 bif ltI a2 2 then
  none
 else
 bif eqI a2 10 then
  none
 else
 bif ltI 36 a2 then
  none
 else
 bif a3 then
  Option.bind (i_strconv_isPowerOfTwo N a2) fun r1 =>
  bif r1 then
   Option.bind (tzI N (convI .u64 a2)) fun r2 =>
   Option.bind (i_strconv_formatBits_L1 N N a0 (negI .u64 a1) true a4 [] ([] : List UInt8) 65 (convI .u64 r2) (convI .u64 a2) (subI .u64 (convI .u64 a2) 1) [u8 0, u8 0, u8 0, u8 0, u8 0, u8 0, u8 0, u8 0, u8 0, u8 0, u8 0, u8 0, u8 0, u8 0, u8 0, u8 0, u8 0, u8 0, u8 0, u8 0, u8 0, u8 0, u8 0, u8 0, u8 0, u8 0, u8 0, u8 0, u8 0, u8 0, u8 0, u8 0, u8 0, u8 0, u8 0, u8 0, u8 0, u8 0, u8 0, u8 0, u8 0, u8 0, u8 0, u8 0, u8 0, u8 0, u8 0, u8 0, u8 0, u8 0, u8 0, u8 0, u8 0, u8 0, u8 0, u8 0, u8 0, u8 0, u8 0, u8 0, u8 0, u8 0, u8 0, u8 0, u8 0]) fun o3 =>
   Option.bind (atI ([48, 49, 50, 51, 52, 53, 54, 55, 56, 57, 97, 98, 99, 100, 101, 102, 103, 104, 105, 106, 107, 108, 109, 110, 111, 112, 113, 114, 115, 116, 117, 118, 119, 120, 121, 122] : List UInt8) o3.1) fun c4 =>
   bif inN (subI .i64 o3.2.1 1) 65 then
    Option.bind (setO o3.2.2 0 (subI .i64 o3.2.1 1) c4) fun l5 =>
    bif inN (subI .i64 (subI .i64 o3.2.1 1) 1) 65 then
     Option.bind (setO l5 0 (subI .i64 (subI .i64 o3.2.1 1) 1) (u8 45)) fun l6 =>
     bif a4 then
      Option.bind (arrI (subI .i64 (subI .i64 o3.2.1 1) 1) (nI 65) 65) fun m7 =>
      bif isZ m7.2 then
       none
      else
      none
     else
     Option.bind (arrI (subI .i64 (subI .i64 o3.2.1 1) 1) (nI 65) 65) fun m8 =>
     bif isZ m8.2 then
      some ([], ([] : List UInt8))
     else
     Option.bind (winI l6 m8.1 m8.2) fun l9 =>
     some ([], l9)
    else
    none
   else
   none
  else
  Option.bind (i_strconv_formatBits_L0 N N a0 (negI .u64 a1) true a4 [] ([] : List UInt8) 65 (convI .u64 a2) [u8 0, u8 0, u8 0, u8 0, u8 0, u8 0, u8 0, u8 0, u8 0, u8 0, u8 0, u8 0, u8 0, u8 0, u8 0, u8 0, u8 0, u8 0, u8 0, u8 0, u8 0, u8 0, u8 0, u8 0, u8 0, u8 0, u8 0, u8 0, u8 0, u8 0, u8 0, u8 0, u8 0, u8 0, u8 0, u8 0, u8 0, u8 0, u8 0, u8 0, u8 0, u8 0, u8 0, u8 0, u8 0, u8 0, u8 0, u8 0, u8 0, u8 0, u8 0, u8 0, u8 0, u8 0, u8 0, u8 0, u8 0, u8 0, u8 0, u8 0, u8 0, u8 0, u8 0, u8 0, u8 0]) fun o10 =>
  Option.bind (atI ([48, 49, 50, 51, 52, 53, 54, 55, 56, 57, 97, 98, 99, 100, 101, 102, 103, 104, 105, 106, 107, 108, 109, 110, 111, 112, 113, 114, 115, 116, 117, 118, 119, 120, 121, 122] : List UInt8) o10.1) fun c11 =>
  bif inN (subI .i64 o10.2.1 1) 65 then
   Option.bind (setO o10.2.2 0 (subI .i64 o10.2.1 1) c11) fun l12 =>
   bif inN (subI .i64 (subI .i64 o10.2.1 1) 1) 65 then
    Option.bind (setO l12 0 (subI .i64 (subI .i64 o10.2.1 1) 1) (u8 45)) fun l13 =>
    bif a4 then
     Option.bind (arrI (subI .i64 (subI .i64 o10.2.1 1) 1) (nI 65) 65) fun m14 =>
     bif isZ m14.2 then
      none
     else
     none
    else
    Option.bind (arrI (subI .i64 (subI .i64 o10.2.1 1) 1) (nI 65) 65) fun m15 =>
    bif isZ m15.2 then
     some ([], ([] : List UInt8))
    else
    Option.bind (winI l13 m15.1 m15.2) fun l16 =>
    some ([], l16)
   else
   none
  else
  none
 else
 Option.bind (i_strconv_isPowerOfTwo N a2) fun r17 =>
 bif r17 then
  Option.bind (tzI N (convI .u64 a2)) fun r18 =>
  Option.bind (i_strconv_formatBits_L1 N N a0 a1 false a4 [] ([] : List UInt8) 65 (convI .u64 r18) (convI .u64 a2) (subI .u64 (convI .u64 a2) 1) [u8 0, u8 0, u8 0, u8 0, u8 0, u8 0, u8 0, u8 0, u8 0, u8 0, u8 0, u8 0, u8 0, u8 0, u8 0, u8 0, u8 0, u8 0, u8 0, u8 0, u8 0, u8 0, u8 0, u8 0, u8 0, u8 0, u8 0, u8 0, u8 0, u8 0, u8 0, u8 0, u8 0, u8 0, u8 0, u8 0, u8 0, u8 0, u8 0, u8 0, u8 0, u8 0, u8 0, u8 0, u8 0, u8 0, u8 0, u8 0, u8 0, u8 0, u8 0, u8 0, u8 0, u8 0, u8 0, u8 0, u8 0, u8 0, u8 0, u8 0, u8 0, u8 0, u8 0, u8 0, u8 0]) fun o19 =>
  Option.bind (atI ([48, 49, 50, 51, 52, 53, 54, 55, 56, 57, 97, 98, 99, 100, 101, 102, 103, 104, 105, 106, 107, 108, 109, 110, 111, 112, 113, 114, 115, 116, 117, 118, 119, 120, 121, 122] : List UInt8) o19.1) fun c20 =>
  bif inN (subI .i64 o19.2.1 1) 65 then
   Option.bind (setO o19.2.2 0 (subI .i64 o19.2.1 1) c20) fun l21 =>
   bif a4 then
    Option.bind (arrI (subI .i64 o19.2.1 1) (nI 65) 65) fun m22 =>
    bif isZ m22.2 then
     none
    else
    none
   else
   Option.bind (arrI (subI .i64 o19.2.1 1) (nI 65) 65) fun m23 =>
   bif isZ m23.2 then
    some ([], ([] : List UInt8))
   else
   Option.bind (winI l21 m23.1 m23.2) fun l24 =>
   some ([], l24)
  else
  none
 else
 Option.bind (i_strconv_formatBits_L0 N N a0 a1 false a4 [] ([] : List UInt8) 65 (convI .u64 a2) [u8 0, u8 0, u8 0, u8 0, u8 0, u8 0, u8 0, u8 0, u8 0, u8 0, u8 0, u8 0, u8 0, u8 0, u8 0, u8 0, u8 0, u8 0, u8 0, u8 0, u8 0, u8 0, u8 0, u8 0, u8 0, u8 0, u8 0, u8 0, u8 0, u8 0, u8 0, u8 0, u8 0, u8 0, u8 0, u8 0, u8 0, u8 0, u8 0, u8 0, u8 0, u8 0, u8 0, u8 0, u8 0, u8 0, u8 0, u8 0, u8 0, u8 0, u8 0, u8 0, u8 0, u8 0, u8 0, u8 0, u8 0, u8 0, u8 0, u8 0, u8 0, u8 0, u8 0, u8 0, u8 0]) fun o25 =>
 Option.bind (atI ([48, 49, 50, 51, 52, 53, 54, 55, 56, 57, 97, 98, 99, 100, 101, 102, 103, 104, 105, 106, 107, 108, 109, 110, 111, 112, 113, 114, 115, 116, 117, 118, 119, 120, 121, 122] : List UInt8) o25.1) fun c26 =>
 bif inN (subI .i64 o25.2.1 1) 65 then
  Option.bind (setO o25.2.2 0 (subI .i64 o25.2.1 1) c26) fun l27 =>
  bif a4 then
   Option.bind (arrI (subI .i64 o25.2.1 1) (nI 65) 65) fun m28 =>
   bif isZ m28.2 then
    none
   else
   none
  else
  Option.bind (arrI (subI .i64 o25.2.1 1) (nI 65) 65) fun m29 =>
  bif isZ m29.2 then
   some ([], ([] : List UInt8))
  else
  Option.bind (winI l27 m29.1 m29.2) fun l30 =>
  some ([], l30)
 else
 none
def i_strconv_FormatUint (N : Nat) (a0 a1 : Int) : Option (List UInt8) :=
 bif eqI a1 10 then
  bif ltI a0 100 then
   Option.bind (i_strconv_small N (convI .i64 a0)) fun r1 =>
   some r1
  else
  Option.bind (i_strconv_numDigits N a0) fun r2 =>
  Option.bind (arrI0 r2 24) fun m3 =>
  bif isZ m3 then
   none
  else
  Option.bind (i_strconv_formatBase10 N 0 m3 [u8 0, u8 0, u8 0, u8 0, u8 0, u8 0, u8 0, u8 0, u8 0, u8 0, u8 0, u8 0, u8 0, u8 0, u8 0, u8 0, u8 0, u8 0, u8 0, u8 0, u8 0, u8 0, u8 0, u8 0] a0) fun r4 =>
  Option.bind (winI r4 0 m3) fun l5 =>
  some l5
 else
 Option.bind (i_strconv_formatBits N [] a0 a1 false false) fun r6 =>
 some r6.2
def strconv_FormatUint (N : Nat) (a0 a1 : Int) : Option (List UInt8) :=
 Option.bind (i_strconv_FormatUint N a0 a1) fun r1 =>
 some r1
def addr_groupsOf_L0 (N : Nat) : Nat → Int → Bool → Int → Int → List Int → List Int → Option (List Int)
  | 0, _, _, _, _, _, _ => none
  | n + 1, p0, p1, p2, p3, p4, p5 =>
  bif ltI p0 4 then
   Option.bind (shrI .u64 p2 (subI .i64 48 (mulI .i64 16 p0))) fun n1 =>
   bif inN p0 8 then
    Option.bind (setO p5 0 p0 (convI .u16 n1)) fun l2 =>
    Option.bind (shrI .u64 p3 (subI .i64 48 (mulI .i64 16 p0))) fun n3 =>
    bif inN (addI .i64 4 p0) 8 then
     Option.bind (setO l2 0 (addI .i64 4 p0) (convI .u16 n3)) fun l4 =>
     addr_groupsOf_L0 N n (addI .i64 p0 1) p1 p2 p3 p4 l4
    else
    none
   else
   none
  else
   some p5
def addr_groupsOf (N : Nat) (a0_0 : Bool) (a0_1 a0_2 : Int) : Option (Int × Int × Int × Int × Int × Int × Int × Int) :=
 Option.bind (addr_groupsOf_L0 N N 0 a0_0 a0_1 a0_2 [0, 0, 0, 0, 0, 0, 0, 0] [0, 0, 0, 0, 0, 0, 0, 0]) fun o1 =>
 Option.bind (ex8 o1) fun q2 =>
 some (q2.1, q2.2.1, q2.2.2.1, q2.2.2.2.1, q2.2.2.2.2.1, q2.2.2.2.2.2.1, q2.2.2.2.2.2.2.1, q2.2.2.2.2.2.2.2)
def addr_groups_longest_L0 (N : Nat) : Nat → Int → Int → Int → Int → Int → List Int → Option (Int)
  | 0, _, _, _, _, _, _ => none
  | n + 1, p0, p1, p2, p3, p4, p5 =>
  bif ltI (addI .i64 p2 p3) 8 then
   bif inN (addI .i64 p2 p3) 8 then
    Option.bind (atO p5 0 (addI .i64 p2 p3)) fun e1 =>
    bif eqI e1 0 then
     addr_groups_longest_L0 N n p0 p1 p2 (addI .i64 p3 1) p4 p5
    else
     some p3
   else
   none
  else
   some p3
def addr_groups_longest_L1 (N : Nat) : Nat → Int → Int → Int → List Int → Option (Int × Int)
  | 0, _, _, _, _ => none
  | n + 1, p0, p1, p2, p3 =>
  bif ltI p2 8 then
   Option.bind (addr_groups_longest_L0 N N p0 p1 p2 0 p2 p3) fun o1 =>
   bif ltI p1 o1 then
    addr_groups_longest_L1 N n p2 o1 (addI .i64 p2 1) p3
   else
   addr_groups_longest_L1 N n p0 p1 (addI .i64 p2 1) p3
  else
   some (p0, p1)
def addr_groups_longest (N : Nat) (a0_0 a0_1 a0_2 a0_3 a0_4 a0_5 a0_6 a0_7 : Int) : Option (Int × Int) :=
 Option.bind (addr_groups_longest_L1 N N 0 0 0 [a0_0, a0_1, a0_2, a0_3, a0_4, a0_5, a0_6, a0_7]) fun o1 =>
 some (o1.1, o1.2)
def addr_text_L0 (N : Nat) : Nat → List Int → List (List UInt8) → Int → Int → Option (Unit)
  | 0, _, _, _, _ => none
  | n + 1, p0, p1, p2, p3 =>
  bif ltI p3 p2 then
   Option.bind (atI p0 p3) fun e1 =>
   Option.bind (strconv_FormatUint N (convI .u64 e1) 16) fun r2 =>
   Option.bind (atI p1 p3) fun e3 =>
   none
  else
   some ()
def addr_text_L0b (N : Nat) : Nat → List Int → Nat → Int → Int → List (List UInt8) → Option (List (List UInt8))
  | 0, _, _, _, _, _ => none
  | n + 1, p0, p1, p2, p3, p4 =>
  bif ltI p3 p2 then
   Option.bind (atI p0 p3) fun e1 =>
   Option.bind (strconv_FormatUint N (convI .u64 e1) 16) fun r2 =>
   bif inN p3 p1 then
    Option.bind (setO p4 0 p3 r2) fun l3 =>
    addr_text_L0b N n p0 p1 p2 (addI .i64 p3 1) l3
   else
   none
  else
   some p4
def addr_text (N : Nat) (a0 : List Int) : Option (List UInt8) :=
 Option.bind (mkI (ln a0) 16) fun k1 =>
 bif isZ k1 then
  Option.bind (addr_text_L0 N N a0 [] 0 0) fun o2 =>
  Option.bind (joinI N [] ([58] : List UInt8)) fun r3 =>
  some r3
 else
 Option.bind (addr_text_L0b N N a0 k1 (nI k1) 0 (List.replicate k1 ([] : List UInt8))) fun o4 =>
 Option.bind (winI o4 0 k1) fun l5 =>
 Option.bind (joinI N l5 ([58] : List UInt8)) fun r6 =>
 some r6
def addr_Print_L0 (N : Nat) : Nat → Nat → Int → Int → Bool → Int → Int → List (List UInt8) → Option (List (List UInt8))
  | 0, _, _, _, _, _, _, _ => none
  | n + 1, p0, p1, p2, p3, p4, p5, p6 =>
  bif ltI p2 p1 then
   Option.bind (shrI .u64 p5 (subI .i64 24 (mulI .i64 8 p2))) fun n1 =>
   Option.bind (strconv_FormatUint N (andI .u64 n1 255) 10) fun r2 =>
   bif inN p2 p0 then
    Option.bind (setO p6 0 p2 r2) fun l3 =>
    addr_Print_L0 N n p0 p1 (addI .i64 p2 1) p3 p4 p5 l3
   else
   none
  else
   some p6
def addr_Print (N : Nat) (a0_0 : Bool) (a0_1 a0_2 : Int) : Option (List UInt8 × Int) :=
 Option.bind (addr_Valid N a0_0 a0_1 a0_2) fun r1 =>
 bif r1 then
  bif a0_0 then
   Option.bind (addr_groupsOf N true a0_1 a0_2) fun r2 =>
   Option.bind (addr_groups_longest N r2.1 r2.2.1 r2.2.2.1 r2.2.2.2.1 r2.2.2.2.2.1 r2.2.2.2.2.2.1 r2.2.2.2.2.2.2.1 r2.2.2.2.2.2.2.2) fun r3 =>
   bif ltI r3.2 2 then
    Option.bind (winI [r2.1, r2.2.1, r2.2.2.1, r2.2.2.2.1, r2.2.2.2.2.1, r2.2.2.2.2.2.1, r2.2.2.2.2.2.2.1, r2.2.2.2.2.2.2.2] 0 8) fun l4 =>
    Option.bind (addr_text N l4) fun r5 =>
    some (r5, 0)
   else
   Option.bind (arrI0 r3.1 8) fun m6 =>
   bif isZ m6 then
    Option.bind (addr_text N []) fun r7 =>
    Option.bind (catI r7 ([58, 58] : List UInt8)) fun s8 =>
    Option.bind (arrI (addI .i64 r3.1 r3.2) (nI 8) 8) fun m9 =>
    bif isZ m9.2 then
     Option.bind (catI s8 r7) fun s10 =>
     some (s10, 0)
    else
    Option.bind (winI [r2.1, r2.2.1, r2.2.2.1, r2.2.2.2.1, r2.2.2.2.2.1, r2.2.2.2.2.2.1, r2.2.2.2.2.2.2.1, r2.2.2.2.2.2.2.2] m9.1 m9.2) fun l11 =>
    Option.bind (addr_text N l11) fun r12 =>
    Option.bind (catI s8 r12) fun s13 =>
    some (s13, 0)
   else
   Option.bind (winI [r2.1, r2.2.1, r2.2.2.1, r2.2.2.2.1, r2.2.2.2.2.1, r2.2.2.2.2.2.1, r2.2.2.2.2.2.2.1, r2.2.2.2.2.2.2.2] 0 m6) fun l14 =>
   Option.bind (addr_text N l14) fun r15 =>
   Option.bind (catI r15 ([58, 58] : List UInt8)) fun s16 =>
   Option.bind (arrI (addI .i64 r3.1 r3.2) (nI 8) 8) fun m17 =>
   bif isZ m17.2 then
    Option.bind (addr_text N []) fun r18 =>
    Option.bind (catI s16 r18) fun s19 =>
    some (s19, 0)
   else
   Option.bind (winI [r2.1, r2.2.1, r2.2.2.1, r2.2.2.2.1, r2.2.2.2.2.1, r2.2.2.2.2.2.1, r2.2.2.2.2.2.2.1, r2.2.2.2.2.2.2.2] m17.1 m17.2) fun l20 =>
   Option.bind (addr_text N l20) fun r21 =>
   Option.bind (catI s16 r21) fun s22 =>
   some (s22, 0)
  else
  Option.bind (mkI 4 16) fun k23 =>
  bif isZ k23 then
   none
  else
  Option.bind (addr_Print_L0 N N k23 (nI k23) 0 false a0_1 a0_2 (List.replicate k23 ([] : List UInt8))) fun o24 =>
  Option.bind (winI o24 0 k23) fun l25 =>
  Option.bind (joinI N l25 ([46] : List UInt8)) fun r26 =>
  some (r26, 0)
 else
  some (([] : List UInt8), 3)
def rtext_numbers_L0 (N : Nat) : Nat → List (List UInt8) → List Int → Int → Int → Option (List (List UInt8))
  | 0, _, _, _, _ => none
  | n + 1, p0, p1, p2, p3 =>
  bif ltI p3 p2 then
   Option.bind (atI p1 p3) fun e1 =>
   Option.bind (itoaI N e1) fun r2 =>
   bif room1 p0 1 16 then
    rtext_numbers_L0 N n (p0 ++ [r2]) p1 p2 (addI .i64 p3 1)
   else
   none
  else
   some p0
def rtext_numbers (N : Nat) (a0 : List Int) : Option (List (List UInt8)) :=
 Option.bind (rtext_numbers_L0 N N [] a0 (ln a0) 0) fun o1 =>
 some o1
def rtext_digits_L0 (N : Nat) : Nat → List UInt8 → List UInt8 → Int → Option (List UInt8)
  | 0, _, _, _ => none
  | n + 1, p0, p1, p2 =>
  bif ltI p2 (ln p0) then
   Option.bind (atI p0 p2) fun c1 =>
   Option.bind (shrI .u8 (bv c1) 4) fun n2 =>
   Option.bind (atI ([48, 49, 50, 51, 52, 53, 54, 55, 56, 57, 97, 98, 99, 100, 101, 102] : List UInt8) n2) fun c3 =>
   Option.bind (atI ([48, 49, 50, 51, 52, 53, 54, 55, 56, 57, 97, 98, 99, 100, 101, 102] : List UInt8) (andI .u8 (bv c1) 15)) fun c4 =>
   bif room1 p1 2 1 then
    rtext_digits_L0 N n p0 (p1 ++ [c3, c4]) (addI .i64 p2 1)
   else
   none
  else
   some p1
def rtext_digits (N : Nat) (a0 : List UInt8) : Option (List UInt8) :=
 Option.bind (rtext_digits_L0 N N a0 [] 0) fun o1 =>
 some o1
def rdata_Types_L0 (N : Nat) : Nat → Int → List Int → List Rw3 → Int → Int → Option (List Int)
  | 0, _, _, _, _, _ => none
  | n + 1, p0, p1, p2, p3, p4 =>
  bif ltI p4 p3 then
   Option.bind (atI p2 p4) fun e1 =>
   Option.bind (shrI .u64 p0 e1.c0) fun n2 =>
   bif eqI (andI .u64 n2 1) 1 then
    bif room1 p1 1 8 then
     rdata_Types_L0 N n p0 (p1 ++ [e1.c0]) p2 p3 (addI .i64 p4 1)
    else
    none
   else
   rdata_Types_L0 N n p0 p1 p2 p3 (addI .i64 p4 1)
  else
   some p1
def rdata_Types (N : Nat) (a0 : Int) : Option (List Int) :=
 Option.bind (rdata_kinds N) fun r1 =>
 Option.bind (rdata_Types_L0 N N a0 [] r1 (ln r1) 0) fun o2 =>
 some o2
def rtext_mnemonics_L0 (N : Nat) : Nat → List (List UInt8) → List Int → Int → Int → Option (List (List UInt8))
  | 0, _, _, _, _ => none
  | n + 1, p0, p1, p2, p3 =>
  bif ltI p3 p2 then
   Option.bind (atI p1 p3) fun e1 =>
   Option.bind (rdata_Mnemonic N e1) fun r2 =>
   bif room1 p0 1 16 then
    rtext_mnemonics_L0 N n (p0 ++ [r2]) p1 p2 (addI .i64 p3 1)
   else
   none
  else
   some p0
def rtext_mnemonics (N : Nat) (a0 : Int) : Option (List (List UInt8)) :=
 Option.bind (rdata_Types N a0) fun r1 =>
 Option.bind (rtext_mnemonics_L0 N N [] r1 (ln r1) 0) fun o2 =>
 some o2
def rtext_Words (N : Nat) (a0 : Int) (a1_0 : Bool) (a1_1 a1_2 : Int) (a1_3 a1_4 a1_5 : List UInt8) (a1_6 a1_7 a1_8 a1_9 a1_10 a1_11 a1_12 : Int) : Option (List (List UInt8) × Int) :=
 Option.bind (rdata_Known N a0) fun r1 =>
 bif r1 then
  Option.bind (rdata_Valid N a0 a1_0 a1_1 a1_2 a1_3 a1_4 a1_5 a1_6 a1_7 a1_8 a1_9 a1_10 a1_11 a1_12) fun r2 =>
  bif r2 then
   bif eqI a0 1 then
    Option.bind (addr_Print N a1_0 a1_1 a1_2) fun r3 =>
    some ([r3.1], r3.2)
   else
   bif eqI a0 28 then
    Option.bind (addr_Print N a1_0 a1_1 a1_2) fun r4 =>
    some ([r4.1], r4.2)
   else
   bif eqI a0 6 then
    Option.bind (rtext_numbers N [a1_6, a1_7, a1_8, a1_9, a1_10]) fun r5 =>
    bif room [(), ()] r5 16 then
     some ([a1_3, a1_4] ++ r5, 0)
    else
    none
   else
   bif eqI a0 15 then
    Option.bind (rtext_numbers N [a1_6]) fun r6 =>
    bif room1 r6 1 16 then
     some (r6 ++ [a1_3], 0)
    else
    none
   else
   bif eqI a0 16 then
    some ([a1_5], 0)
   else
   bif eqI a0 33 then
    Option.bind (rtext_numbers N [a1_6, a1_7, a1_8]) fun r7 =>
    bif room1 r7 1 16 then
     some (r7 ++ [a1_3], 0)
    else
    none
   else
   bif eqI a0 43 then
    Option.bind (rtext_numbers N [a1_6, a1_7, a1_8]) fun r8 =>
    Option.bind (rtext_digits N a1_5) fun r9 =>
    bif room1 r8 1 16 then
     some (r8 ++ [r9], 0)
    else
    none
   else
   bif eqI a0 48 then
    Option.bind (rtext_numbers N [a1_6, a1_7, a1_8]) fun r10 =>
    Option.bind (rtext_digits N a1_5) fun r11 =>
    bif room1 r10 1 16 then
     some (r10 ++ [r11], 0)
    else
    none
   else
   bif eqI a0 46 then
    Option.bind (rdata_Mnemonic N a1_6) fun r12 =>
    Option.bind (rtext_numbers N [253, a1_7, a1_8, a1_9, a1_10, a1_11]) fun r13 =>
    bif room [()] r13 16 then
     Option.bind (rtext_digits N a1_5) fun r14 =>
     bif room1 r13 3 16 then
      some ([r12] ++ r13 ++ [a1_3, r14], 0)
     else
     none
    else
    none
   else
   bif eqI a0 47 then
    Option.bind (rtext_mnemonics N a1_12) fun r15 =>
    bif room [()] r15 16 then
     some ([a1_3] ++ r15, 0)
    else
    none
   else
    some ([a1_3], 0)
  else
   some ([], 5)
 else
  some ([], 4)
def r02_decimal (N : Nat) (a0 : Int) : Option (List UInt8) :=
 Option.bind (remI .u64 a0 10) fun n1 =>
 bif leI 10 a0 then
  Option.bind (quoI .u64 a0 10) fun n2 =>
  Option.bind (remI .u64 n2 10) fun n3 =>
  Option.bind (catI [u8 (convI .u8 (addI .u64 48 n3))] [u8 (convI .u8 (addI .u64 48 n1))]) fun s4 =>
  bif leI 100 a0 then
   Option.bind (quoI .u64 a0 100) fun n5 =>
   Option.bind (catI [u8 (convI .u8 (addI .u64 48 n5))] s4) fun s6 =>
   some s6
  else
   some s4
 else
 bif leI 100 a0 then
  Option.bind (quoI .u64 a0 100) fun n7 =>
  Option.bind (catI [u8 (convI .u8 (addI .u64 48 n7))] [u8 (convI .u8 (addI .u64 48 n1))]) fun s8 =>
  some s8
 else
  some [u8 (convI .u8 (addI .u64 48 n1))]
def r02_part_L0 (N : Nat) : Nat → Int → Int → Option (Int)
  | 0, _, _ => none
  | n + 1, p0, p1 =>
  bif ltI p1 3 then
   Option.bind (quoI .u64 p0 65536) fun n1 =>
   r02_part_L0 N n n1 (addI .i64 p1 1)
  else
   some p0
def r02_part (N : Nat) (a0_0 : Bool) (a0_1 a0_2 a1 : Int) : Option (Int) :=
 bif leI 4 a1 then
  Option.bind (r02_part_L0 N N a0_2 (subI .i64 a1 4)) fun o1 =>
  Option.bind (remI .u64 o1 65536) fun n2 =>
  some n2
 else
 Option.bind (r02_part_L0 N N a0_1 a1) fun o3 =>
 Option.bind (remI .u64 o3 65536) fun n4 =>
 some n4
def r02_run_L0 (N : Nat) : Nat → Int → Int → Int → Int → Bool → Int → Int → Option (Int)
  | 0, _, _, _, _, _, _, _ => none
  | n + 1, p0, p1, p2, p3, p4, p5, p6 =>
  bif ltI (addI .i64 p2 p3) 8 then
   Option.bind (r02_part N p4 p5 p6 (addI .i64 p2 p3)) fun r1 =>
   bif eqI r1 0 then
    r02_run_L0 N n p0 p1 p2 (addI .i64 p3 1) p4 p5 p6
   else
    some p3
  else
   some p3
def r02_run_L1 (N : Nat) : Nat → Int → Int → Int → Bool → Int → Int → Option (Int × Int)
  | 0, _, _, _, _, _, _ => none
  | n + 1, p0, p1, p2, p3, p4, p5 =>
  bif ltI p2 8 then
   Option.bind (r02_run_L0 N N p0 p1 p2 0 p3 p4 p5) fun o1 =>
   bif ltI p1 o1 then
    r02_run_L1 N n p2 o1 (addI .i64 p2 1) p3 p4 p5
   else
   r02_run_L1 N n p0 p1 (addI .i64 p2 1) p3 p4 p5
  else
   some (p0, p1)
def r02_run (N : Nat) (a0_0 : Bool) (a0_1 a0_2 : Int) : Option (Int × Int) :=
 Option.bind (r02_run_L1 N N 0 0 0 a0_0 a0_1 a0_2) fun o1 =>
 some (o1.1, o1.2)
def r02_hex (N : Nat) (a0 : Int) : Option (List UInt8) :=
 bif ltI a0 10 then
  some [u8 (convI .u8 (addI .u64 48 a0))]
 else
  some [u8 (convI .u8 (subI .u64 (addI .u64 97 a0) 10))]
def r02_groupText_L0 (N : Nat) : Nat → Int → List UInt8 → Int → Option (List UInt8)
  | 0, _, _, _ => none
  | n + 1, p0, p1, p2 =>
  bif ltI p2 3 then
   bif ltI 0 p0 then
    Option.bind (remI .u64 p0 16) fun n1 =>
    Option.bind (r02_hex N n1) fun r2 =>
    Option.bind (catI r2 p1) fun s3 =>
    Option.bind (quoI .u64 p0 16) fun n4 =>
    r02_groupText_L0 N n n4 s3 (addI .i64 p2 1)
   else
    some p1
  else
   some p1
def r02_groupText (N : Nat) (a0 : Int) : Option (List UInt8) :=
 Option.bind (remI .u64 a0 16) fun n1 =>
 Option.bind (r02_hex N n1) fun r2 =>
 Option.bind (quoI .u64 a0 16) fun n3 =>
 Option.bind (r02_groupText_L0 N N n3 r2 0) fun o4 =>
 some o4
def r02_Print_L0 (N : Nat) : Nat → Int → Int → List UInt8 → Int → Bool → Int → Int → Option (List UInt8)
  | 0, _, _, _, _, _, _, _ => none
  | n + 1, p0, p1, p2, p3, p4, p5, p6 =>
  bif ltI p3 8 then
   bif eqI p3 p0 then
    Option.bind (catI p2 ([58, 58] : List UInt8)) fun s1 =>
    bif leI p0 p3 then
     bif ltI p3 (addI .i64 p0 p1) then
      r02_Print_L0 N n p0 p1 s1 (addI .i64 p3 1) p4 p5 p6
     else
     bif ltI 0 p3 then
      bif eqI p3 (addI .i64 p0 p1) then
       Option.bind (r02_part N p4 p5 p6 p3) fun r2 =>
       Option.bind (r02_groupText N r2) fun r3 =>
       Option.bind (catI s1 r3) fun s4 =>
       r02_Print_L0 N n p0 p1 s4 (addI .i64 p3 1) p4 p5 p6
      else
      Option.bind (catI s1 ([58] : List UInt8)) fun s5 =>
      Option.bind (r02_part N p4 p5 p6 p3) fun r6 =>
      Option.bind (r02_groupText N r6) fun r7 =>
      Option.bind (catI s5 r7) fun s8 =>
      r02_Print_L0 N n p0 p1 s8 (addI .i64 p3 1) p4 p5 p6
     else
     Option.bind (r02_part N p4 p5 p6 p3) fun r9 =>
     Option.bind (r02_groupText N r9) fun r10 =>
     Option.bind (catI s1 r10) fun s11 =>
     r02_Print_L0 N n p0 p1 s11 (addI .i64 p3 1) p4 p5 p6
    else
    bif ltI 0 p3 then
     bif eqI p3 (addI .i64 p0 p1) then
      Option.bind (r02_part N p4 p5 p6 p3) fun r12 =>
      Option.bind (r02_groupText N r12) fun r13 =>
      Option.bind (catI s1 r13) fun s14 =>
      r02_Print_L0 N n p0 p1 s14 (addI .i64 p3 1) p4 p5 p6
     else
     Option.bind (catI s1 ([58] : List UInt8)) fun s15 =>
     Option.bind (r02_part N p4 p5 p6 p3) fun r16 =>
     Option.bind (r02_groupText N r16) fun r17 =>
     Option.bind (catI s15 r17) fun s18 =>
     r02_Print_L0 N n p0 p1 s18 (addI .i64 p3 1) p4 p5 p6
    else
    Option.bind (r02_part N p4 p5 p6 p3) fun r19 =>
    Option.bind (r02_groupText N r19) fun r20 =>
    Option.bind (catI s1 r20) fun s21 =>
    r02_Print_L0 N n p0 p1 s21 (addI .i64 p3 1) p4 p5 p6
   else
   bif leI p0 p3 then
    bif ltI p3 (addI .i64 p0 p1) then
     r02_Print_L0 N n p0 p1 p2 (addI .i64 p3 1) p4 p5 p6
    else
    bif ltI 0 p3 then
     bif eqI p3 (addI .i64 p0 p1) then
      Option.bind (r02_part N p4 p5 p6 p3) fun r22 =>
      Option.bind (r02_groupText N r22) fun r23 =>
      Option.bind (catI p2 r23) fun s24 =>
      r02_Print_L0 N n p0 p1 s24 (addI .i64 p3 1) p4 p5 p6
     else
     Option.bind (catI p2 ([58] : List UInt8)) fun s25 =>
     Option.bind (r02_part N p4 p5 p6 p3) fun r26 =>
     Option.bind (r02_groupText N r26) fun r27 =>
     Option.bind (catI s25 r27) fun s28 =>
     r02_Print_L0 N n p0 p1 s28 (addI .i64 p3 1) p4 p5 p6
    else
    Option.bind (r02_part N p4 p5 p6 p3) fun r29 =>
    Option.bind (r02_groupText N r29) fun r30 =>
    Option.bind (catI p2 r30) fun s31 =>
    r02_Print_L0 N n p0 p1 s31 (addI .i64 p3 1) p4 p5 p6
   else
   bif ltI 0 p3 then
    bif eqI p3 (addI .i64 p0 p1) then
     Option.bind (r02_part N p4 p5 p6 p3) fun r32 =>
     Option.bind (r02_groupText N r32) fun r33 =>
     Option.bind (catI p2 r33) fun s34 =>
     r02_Print_L0 N n p0 p1 s34 (addI .i64 p3 1) p4 p5 p6
    else
    Option.bind (catI p2 ([58] : List UInt8)) fun s35 =>
    Option.bind (r02_part N p4 p5 p6 p3) fun r36 =>
    Option.bind (r02_groupText N r36) fun r37 =>
    Option.bind (catI s35 r37) fun s38 =>
    r02_Print_L0 N n p0 p1 s38 (addI .i64 p3 1) p4 p5 p6
   else
   Option.bind (r02_part N p4 p5 p6 p3) fun r39 =>
   Option.bind (r02_groupText N r39) fun r40 =>
   Option.bind (catI p2 r40) fun s41 =>
   r02_Print_L0 N n p0 p1 s41 (addI .i64 p3 1) p4 p5 p6
  else
   some p2
def r02_Print (N : Nat) (a0_0 : Bool) (a0_1 a0_2 : Int) : Option (List UInt8 × Int) :=
 Option.bind (r02_Valid N a0_0 a0_1 a0_2) fun r1 =>
 bif r1 then
  bif a0_0 then
   Option.bind (r02_run N true a0_1 a0_2) fun r2 =>
   bif ltI r2.2 2 then
    Option.bind (r02_Print_L0 N N 8 0 ([] : List UInt8) 0 true a0_1 a0_2) fun o3 =>
    some (o3, 0)
   else
   Option.bind (r02_Print_L0 N N r2.1 r2.2 ([] : List UInt8) 0 true a0_1 a0_2) fun o4 =>
   some (o4, 0)
  else
  Option.bind (quoI .u64 a0_2 16777216) fun n5 =>
  Option.bind (r02_decimal N n5) fun r6 =>
  Option.bind (catI r6 ([46] : List UInt8)) fun s7 =>
  Option.bind (quoI .u64 a0_2 65536) fun n8 =>
  Option.bind (remI .u64 n8 256) fun n9 =>
  Option.bind (r02_decimal N n9) fun r10 =>
  Option.bind (catI s7 r10) fun s11 =>
  Option.bind (catI s11 ([46] : List UInt8)) fun s12 =>
  Option.bind (quoI .u64 a0_2 256) fun n13 =>
  Option.bind (remI .u64 n13 256) fun n14 =>
  Option.bind (r02_decimal N n14) fun r15 =>
  Option.bind (catI s12 r15) fun s16 =>
  Option.bind (catI s16 ([46] : List UInt8)) fun s17 =>
  Option.bind (remI .u64 a0_2 256) fun n18 =>
  Option.bind (r02_decimal N n18) fun r19 =>
  Option.bind (catI s17 r19) fun s20 =>
  some (s20, 0)
 else
  some (([] : List UInt8), 3)
def r06_Hex_L0 (N : Nat) : Nat → List UInt8 → List UInt8 → List UInt8 → Int → Option (List UInt8)
  | 0, _, _, _, _ => none
  | n + 1, p0, p1, p2, p3 =>
  bif ltI p3 (ln p0) then
   Option.bind (atI p0 p3) fun c1 =>
   Option.bind (quoI .u8 (bv c1) 16) fun n2 =>
   Option.bind (atI p1 n2) fun c3 =>
   Option.bind (remI .u8 (bv c1) 16) fun n4 =>
   Option.bind (atI p1 n4) fun c5 =>
   bif room1 p2 2 1 then
    r06_Hex_L0 N n p0 p1 (p2 ++ [c3, c5]) (addI .i64 p3 1)
   else
   none
  else
   some p2
def r06_Hex (N : Nat) (a0 : List UInt8) : Option (List UInt8) :=
 Option.bind (r06_Hex_L0 N N a0 ([48, 49, 50, 51, 52, 53, 54, 55, 56, 57, 97, 98, 99, 100, 101, 102] : List UInt8) [] 0) fun o1 =>
 some o1
def r06_field (N : Nat) (a0 : Int) (a1_0 : Bool) (a1_1 a1_2 : Int) (a1_3 a1_4 a1_5 : List UInt8) (a1_6 a1_7 a1_8 a1_9 a1_10 a1_11 a1_12 : Int) : Option (Int) :=
 bif eqI a0 65 then
  some a1_6
 else
 bif eqI a0 66 then
  some a1_7
 else
 bif eqI a0 98 then
  some a1_7
 else
 bif eqI a0 67 then
  some a1_8
 else
 bif eqI a0 99 then
  some a1_8
 else
 bif eqI a0 68 then
  some a1_9
 else
 bif eqI a0 100 then
  some a1_9
 else
 bif eqI a0 69 then
  some a1_10
 else
 bif eqI a0 101 then
  some a1_10
 else
  some a1_11
def r06_word (N : Nat) (a0 : Int) (a1_0 : Bool) (a1_1 a1_2 : Int) (a1_3 a1_4 a1_5 : List UInt8) (a1_6 a1_7 a1_8 a1_9 a1_10 a1_11 a1_12 : Int) : Option (List UInt8) :=
 bif eqI a0 110 then
  some a1_3
 else
 bif eqI a0 109 then
  some a1_4
 else
 bif eqI a0 97 then
  Option.bind (r02_Print N a1_0 a1_1 a1_2) fun r1 =>
  some r1.1
 else
 bif eqI a0 116 then
  some a1_5
 else
 bif eqI a0 120 then
  Option.bind (r06_Hex N a1_5) fun r2 =>
  some r2
 else
 bif eqI a0 121 then
  Option.bind (r05_Mnemonic N a1_6) fun r3 =>
  some r3
 else
 bif eqI a0 115 then
  some ([50, 53, 51] : List UInt8)
 else
 Option.bind (r06_field N a0 a1_0 a1_1 a1_2 a1_3 a1_4 a1_5 a1_6 a1_7 a1_8 a1_9 a1_10 a1_11 a1_12) fun r4 =>
 Option.bind (decI N r4) fun r5 =>
 some r5
def r05_Types_L0 (N : Nat) : Nat → Int → List Int → Int → Option (List Int)
  | 0, _, _, _ => none
  | n + 1, p0, p1, p2 =>
  bif ltI p2 64 then
   Option.bind (shrI .u64 p0 (convI .u64 p2)) fun n1 =>
   bif eqI (andI .u64 n1 1) 1 then
    Option.bind (r05_Known N p2) fun r2 =>
    bif r2 then
     bif room1 p1 1 8 then
      r05_Types_L0 N n p0 (p1 ++ [p2]) (addI .i64 p2 1)
     else
     none
    else
    r05_Types_L0 N n p0 p1 (addI .i64 p2 1)
   else
   r05_Types_L0 N n p0 p1 (addI .i64 p2 1)
  else
   some p1
def r05_Types (N : Nat) (a0 : Int) : Option (List Int) :=
 Option.bind (r05_Types_L0 N N a0 [] 0) fun o1 =>
 some o1
def r06_Words_L1 (N : Nat) : Nat → Int → List (List UInt8) → List UInt8 → Int → Bool → Int → Int → List UInt8 → List UInt8 → List UInt8 → Int → Int → Int → Int → Int → Int → Int → Option (List (List UInt8))
  | 0, _, _, _, _, _, _, _, _, _, _, _, _, _, _, _, _, _ => none
  | n + 1, p0, p1, p2, p3, p4, p5, p6, p7, p8, p9, p10, p11, p12, p13, p14, p15, p16 =>
  bif ltI p3 (ln p2) then
   Option.bind (atI p2 p3) fun c1 =>
   bif eqI (bv c1) 122 then
    r06_Words_L1 N n p0 p1 p2 (addI .i64 p3 1) p4 p5 p6 p7 p8 p9 p10 p11 p12 p13 p14 p15 p16
   else
   Option.bind (r06_word N (bv c1) p4 p5 p6 p7 p8 p9 p10 p11 p12 p13 p14 p15 p16) fun r2 =>
   bif room1 p1 1 16 then
    r06_Words_L1 N n p0 (p1 ++ [r2]) p2 (addI .i64 p3 1) p4 p5 p6 p7 p8 p9 p10 p11 p12 p13 p14 p15 p16
   else
   none
  else
   some p1
def r06_Words_L0 (N : Nat) : Nat → List (List UInt8) → List Int → Int → Option (List (List UInt8))
  | 0, _, _, _ => none
  | n + 1, p0, p1, p2 =>
  bif ltI p2 (ln p1) then
   Option.bind (atI p1 p2) fun e1 =>
   Option.bind (r05_Mnemonic N e1) fun r2 =>
   bif room1 p0 1 16 then
    r06_Words_L0 N n (p0 ++ [r2]) p1 (addI .i64 p2 1)
   else
   none
  else
   some p0
def r06_Words (N : Nat) (a0 : Int) (a1_0 : Bool) (a1_1 a1_2 : Int) (a1_3 a1_4 a1_5 : List UInt8) (a1_6 a1_7 a1_8 a1_9 a1_10 a1_11 a1_12 : Int) : Option (List (List UInt8) × Int) :=
 Option.bind (r05_Known N a0) fun r1 =>
 bif r1 then
  Option.bind (r05_Valid N a0 a1_0 a1_1 a1_2 a1_3 a1_4 a1_5 a1_6 a1_7 a1_8 a1_9 a1_10 a1_11 a1_12) fun r2 =>
  bif r2 then
   Option.bind (r06_Fields N a0) fun r3 =>
   Option.bind (r06_Words_L1 N N a0 [] r3 0 a1_0 a1_1 a1_2 a1_3 a1_4 a1_5 a1_6 a1_7 a1_8 a1_9 a1_10 a1_11 a1_12) fun o4 =>
   bif eqI a0 47 then
    Option.bind (r05_Types N a1_12) fun r5 =>
    Option.bind (r06_Words_L0 N N o4 r5 0) fun o6 =>
    some (o6, 0)
   else
    some (o4, 0)
  else
   some ([], 5)
 else
  some ([], 4)
def rtext_Print (N : Nat) (a0 : Int) (a1_0 : Bool) (a1_1 a1_2 : Int) (a1_3 a1_4 a1_5 : List UInt8) (a1_6 a1_7 a1_8 a1_9 a1_10 a1_11 a1_12 : Int) : Option (List UInt8 × Int) :=
 Option.bind (rtext_Words N a0 a1_0 a1_1 a1_2 a1_3 a1_4 a1_5 a1_6 a1_7 a1_8 a1_9 a1_10 a1_11 a1_12) fun r1 =>
 bif eqI r1.2 0 then
  bif eqI a0 16 then
   Option.bind (atI r1.1 0) fun e2 =>
   Option.bind (quoteI N e2) fun r3 =>
   some (r3, 0)
  else
  Option.bind (joinI N r1.1 ([32] : List UInt8)) fun r4 =>
  some (r4, 0)
 else
  some (([] : List UInt8), r1.2)
def r06_Print_L0 (N : Nat) : Nat → List (List UInt8) → List UInt8 → Int → Option (List UInt8)
  | 0, _, _, _ => none
  | n + 1, p0, p1, p2 =>
  bif ltI p2 (ln p0) then
   bif ltI 0 p2 then
    Option.bind (catI p1 ([32] : List UInt8)) fun s1 =>
    Option.bind (atI p0 p2) fun e2 =>
    Option.bind (catI s1 e2) fun s3 =>
    r06_Print_L0 N n p0 s3 (addI .i64 p2 1)
   else
   Option.bind (atI p0 p2) fun e4 =>
   Option.bind (catI p1 e4) fun s5 =>
   r06_Print_L0 N n p0 s5 (addI .i64 p2 1)
  else
   some p1
def r06_Print (N : Nat) (a0 : Int) (a1_0 : Bool) (a1_1 a1_2 : Int) (a1_3 a1_4 a1_5 : List UInt8) (a1_6 a1_7 a1_8 a1_9 a1_10 a1_11 a1_12 : Int) : Option (List UInt8 × Int) :=
 Option.bind (r06_Words N a0 a1_0 a1_1 a1_2 a1_3 a1_4 a1_5 a1_6 a1_7 a1_8 a1_9 a1_10 a1_11 a1_12) fun r1 =>
 bif eqI r1.2 0 then
  bif eqI a0 16 then
   Option.bind (quoteI N a1_5) fun r2 =>
   some (r2, 0)
  else
  Option.bind (r06_Print_L0 N N r1.1 ([] : List UInt8) 0) fun o3 =>
  some (o3, 0)
 else
  some (([] : List UInt8), r1.2)
end Go.Ev
