/- ShT1d, ShVad, ShVbd, ShT3d, joined. Condition: each part's own. -/
import Derived.Test.YtcnlfelalgaepaaGreatDoorRsL
/- Functions as plain Lean. Condition: none. -/
namespace Go.Ev
set_option linter.all false
set_option maxRecDepth 10000
set_option maxHeartbeats 8000000
@[ext] structure Rw3 where
 c0 : Int
 c1 : List UInt8
 c2 : List UInt8
 deriving DecidableEq
def Rw3E (x : Rw3) : List AV := [(.int .i64 x.c0), (.str (bs x.c1)), (.str (bs x.c2))]
attribute [simp] Rw3E
def rdata_kinds (N : Nat) : Option (List Rw3) :=
 some [(⟨1, ([65] : List UInt8), ([52] : List UInt8)⟩ : Rw3), (⟨2, ([78, 83] : List UInt8), ([104] : List UInt8)⟩ : Rw3), (⟨5, ([67, 78, 65, 77, 69] : List UInt8), ([104] : List UInt8)⟩ : Rw3), (⟨6, ([83, 79, 65] : List UInt8), ([104, 109, 118, 119, 120, 121, 122] : List UInt8)⟩ : Rw3), (⟨12, ([80, 84, 82] : List UInt8), ([104] : List UInt8)⟩ : Rw3), (⟨15, ([77, 88] : List UInt8), ([65, 104] : List UInt8)⟩ : Rw3), (⟨16, ([84, 88, 84] : List UInt8), ([116] : List UInt8)⟩ : Rw3), (⟨28, ([65, 65, 65, 65] : List UInt8), ([54] : List UInt8)⟩ : Rw3), (⟨33, ([83, 82, 86] : List UInt8), ([65, 66, 67, 104] : List UInt8)⟩ : Rw3), (⟨39, ([68, 78, 65, 77, 69] : List UInt8), ([104] : List UInt8)⟩ : Rw3), (⟨43, ([68, 83] : List UInt8), ([65, 98, 99, 114] : List UInt8)⟩ : Rw3), (⟨46, ([82, 82, 83, 73, 71] : List UInt8), ([65, 115, 98, 120, 121, 122, 70, 104, 114] : List UInt8)⟩ : Rw3), (⟨47, ([78, 83, 69, 67] : List UInt8), ([104, 110] : List UInt8)⟩ : Rw3), (⟨48, ([68, 78, 83, 75, 69, 89] : List UInt8), ([65, 98, 99, 114] : List UInt8)⟩ : Rw3)]
def rdata_find_L0 (N : Nat) : Nat → Int → List Rw3 → Int → Int → Int → List UInt8 → List UInt8 → Option (O2 (Bool × Int × List UInt8 × List UInt8) (Unit))
 | 0, _, _, _, _, _, _, _ => none
 | n + 1, p0, p1, p2, p3, p4, p5, p6 =>
 bif ltI p3 p2 then
  Option.bind (atI p1 p3) fun e1 =>
  bif eqI e1.c0 p0 then
   some (.a (true, e1.c0, e1.c1, e1.c2))
  else
  rdata_find_L0 N n p0 p1 p2 (addI .i64 p3 1) p4 p5 p6
 else
  some (.b ())
def rdata_find (N : Nat) (a0 : Int) : Option (Int × List UInt8 × List UInt8 × Bool) :=
 Option.bind (rdata_kinds N) fun r1 =>
 Option.bind (rdata_find_L0 N N a0 r1 (ln r1) 0 0 ([] : List UInt8) ([] : List UInt8)) (O2.el
  (fun o2 =>
  some (o2.2.1, o2.2.2.1, o2.2.2.2, o2.1))
  (fun o3 =>
  some (0, ([] : List UInt8), ([] : List UInt8), false)))
def rdata_Known (N : Nat) (a0 : Int) : Option (Bool) :=
 Option.bind (rdata_find N a0) fun r1 =>
 some r1.2.2.2
def addr_Valid (N : Nat) (a0_0 : Bool) (a0_1 a0_2 : Int) : Option (Bool) :=
 bif a0_0 then
  some true
 else
 bif eqI a0_1 0 then
  bif leI a0_2 4294967295 then
   some true
  else
   some false
 else
  some false
def i_stringslite_HasSuffix (N : Nat) (a0 a1 : List UInt8) : Option (Bool) :=
 bif leI (ln a1) (ln a0) then
  Option.bind (cutI a0 (subI .i64 (ln a0) (ln a1)) (ln a0)) fun s1 =>
  bif eqS s1 a1 then
   some true
  else
   some false
 else
  some false
def strings_HasSuffix (N : Nat) (a0 a1 : List UInt8) : Option (Bool) :=
 Option.bind (i_stringslite_HasSuffix N a0 a1) fun r1 =>
 some r1
def i_stringslite_IndexByte (N : Nat) (a0 : List UInt8) (a1 : Int) : Option (Int) :=
 some (ixB a0 a1)
def i_stringslite_Index (N : Nat) (a0 a1 : List UInt8) : Option (Int) :=
 bif eqI (ln a1) 0 then
  some 0
 else
 bif eqS a1 a0 then
  some 0
 else
 bif eqI (ln a1) 1 then
  Option.bind (atI a1 0) fun c1 =>
  Option.bind (i_stringslite_IndexByte N a0 (bv c1)) fun r2 =>
  some r2
 else
 bif leI (ln a0) (ln a1) then
  some (-1)
 else
 none
def strings_Index (N : Nat) (a0 a1 : List UInt8) : Option (Int) :=
 Option.bind (i_stringslite_Index N a0 a1) fun r1 =>
 some r1
def strings_Count_L0 (N : Nat) : Nat → List UInt8 → List UInt8 → Int → Option (Int)
 | 0, _, _, _ => none
 | n + 1, p0, p1, p2 =>
 Option.bind (strings_Index N p0 p1) fun r1 =>
 bif eqI r1 (-1) then
  some p2
 else
 Option.bind (cutI p0 (addI .i64 r1 (ln p1)) (ln p0)) fun s2 =>
 strings_Count_L0 N n s2 p1 (addI .i64 p2 1)
def strings_Count (N : Nat) (a0 a1 : List UInt8) : Option (Int) :=
 bif eqI (ln a1) 0 then
  none
 else
 bif eqI (ln a1) 1 then
  Option.bind (atI a1 0) fun c1 =>
  some (ctB a0 (bv c1))
 else
 Option.bind (strings_Count_L0 N N a0 a1 0) fun o2 =>
 some o2
def strings_genSplit_L0 (N : Nat) : Nat → List UInt8 → List UInt8 → Int → Int → List (List UInt8) → Int → Option (Unit)
 | 0, _, _, _, _, _, _ => none
 | n + 1, p0, p1, p2, p3, p4, p5 =>
 bif ltI p5 p3 then
  Option.bind (strings_Index N p0 p1) fun r1 =>
  bif ltI r1 0 then
   some ()
  else
  Option.bind (cutI p0 0 (addI .i64 r1 p2)) fun s2 =>
  Option.bind (atI p4 p5) fun e3 =>
  none
 else
  some ()
def strings_genSplit_L0b (N : Nat) : Nat → List UInt8 → List UInt8 → Int → Int → Nat → Int → List (List UInt8) → Option (List UInt8 × Int × List (List UInt8))
 | 0, _, _, _, _, _, _, _ => none
 | n + 1, p0, p1, p2, p3, p4, p5, p6 =>
 bif ltI p5 p3 then
  Option.bind (strings_Index N p0 p1) fun r1 =>
  bif ltI r1 0 then
   some (p0, p5, p6)
  else
  Option.bind (cutI p0 0 (addI .i64 r1 p2)) fun s2 =>
  bif inN p5 p4 then
   Option.bind (setO p6 0 p5 s2) fun l3 =>
   Option.bind (cutI p0 (addI .i64 r1 (ln p1)) (ln p0)) fun s4 =>
   strings_genSplit_L0b N n s4 p1 p2 p3 p4 (addI .i64 p5 1) l3
  else
  none
 else
  some (p0, p5, p6)
def strings_genSplit (N : Nat) (a0 a1 : List UInt8) (a2 a3 : Int) : Option (O2 (List (List UInt8)) (List (List UInt8))) :=
 bif eqI a3 0 then
  some (.a [])
 else
 bif eqS a1 ([] : List UInt8) then
  none
 else
 bif ltI a3 0 then
  Option.bind (strings_Count N a0 a1) fun r1 =>
  Option.bind (mkI (mmI false (addI .i64 r1 1) (addI .i64 (ln a0) 1)) 16) fun k2 =>
  bif isZ k2 then
   Option.bind (strings_genSplit_L0 N N a0 a1 a2 (subI .i64 (mmI false (addI .i64 r1 1) (addI .i64 (ln a0) 1)) 1) [] 0) fun o3 =>
   none
  else
  Option.bind (strings_genSplit_L0b N N a0 a1 a2 (subI .i64 (mmI false (addI .i64 r1 1) (addI .i64 (ln a0) 1)) 1) k2 0 (List.replicate k2 ([] : List UInt8))) fun o4 =>
  bif inN o4.2.1 k2 then
   Option.bind (setO o4.2.2 0 o4.2.1 o4.1) fun l5 =>
   Option.bind (arrI0 (addI .i64 o4.2.1 1) k2) fun m6 =>
   bif isZ m6 then
    some (.b [])
   else
   Option.bind (winI l5 0 m6) fun l7 =>
   some (.a l7)
  else
  none
 else
 Option.bind (mkI (mmI false a3 (addI .i64 (ln a0) 1)) 16) fun k8 =>
 bif isZ k8 then
  Option.bind (strings_genSplit_L0 N N a0 a1 a2 (subI .i64 (mmI false a3 (addI .i64 (ln a0) 1)) 1) [] 0) fun o9 =>
  none
 else
 Option.bind (strings_genSplit_L0b N N a0 a1 a2 (subI .i64 (mmI false a3 (addI .i64 (ln a0) 1)) 1) k8 0 (List.replicate k8 ([] : List UInt8))) fun o10 =>
 bif inN o10.2.1 k8 then
  Option.bind (setO o10.2.2 0 o10.2.1 o10.1) fun l11 =>
  Option.bind (arrI0 (addI .i64 o10.2.1 1) k8) fun m12 =>
  bif isZ m12 then
   some (.b [])
  else
  Option.bind (winI l11 0 m12) fun l13 =>
  some (.a l13)
 else
 none
def strings_Split (N : Nat) (a0 a1 : List UInt8) : Option (O2 (List (List UInt8)) (List (List UInt8))) :=
 Option.bind (strings_genSplit N a0 a1 0 (-1)) (O2.el
  (fun r1 =>
  some (.a r1))
  (fun r2 =>
  some (.b r2)))
def dname_ordinary_L0 (N : Nat) : Nat → List UInt8 → Int → Int → Option (O2 (Bool) (Unit))
 | 0, _, _, _ => none
 | n + 1, p0, p1, p2 =>
 bif ltI p2 p1 then
  Option.bind (atI p0 p2) fun c1 =>
  bif ltI (bv c1) 97 then
   bif ltI (bv c1) 48 then
    bif eqI (bv c1) 45 then
     dname_ordinary_L0 N n p0 p1 (addI .i64 p2 1)
    else
    bif eqI (bv c1) 95 then
     dname_ordinary_L0 N n p0 p1 (addI .i64 p2 1)
    else
     some (.a false)
   else
   bif ltI 57 (bv c1) then
    bif eqI (bv c1) 45 then
     dname_ordinary_L0 N n p0 p1 (addI .i64 p2 1)
    else
    bif eqI (bv c1) 95 then
     dname_ordinary_L0 N n p0 p1 (addI .i64 p2 1)
    else
     some (.a false)
   else
   dname_ordinary_L0 N n p0 p1 (addI .i64 p2 1)
  else
  bif ltI 122 (bv c1) then
   bif ltI (bv c1) 48 then
    bif eqI (bv c1) 45 then
     dname_ordinary_L0 N n p0 p1 (addI .i64 p2 1)
    else
    bif eqI (bv c1) 95 then
     dname_ordinary_L0 N n p0 p1 (addI .i64 p2 1)
    else
     some (.a false)
   else
   bif ltI 57 (bv c1) then
    bif eqI (bv c1) 45 then
     dname_ordinary_L0 N n p0 p1 (addI .i64 p2 1)
    else
    bif eqI (bv c1) 95 then
     dname_ordinary_L0 N n p0 p1 (addI .i64 p2 1)
    else
     some (.a false)
   else
   dname_ordinary_L0 N n p0 p1 (addI .i64 p2 1)
  else
  dname_ordinary_L0 N n p0 p1 (addI .i64 p2 1)
 else
  some (.b ())
def dname_ordinary (N : Nat) (a0 : List UInt8) : Option (Bool) :=
 bif eqS a0 ([] : List UInt8) then
  some false
 else
 bif ltI 63 (ln a0) then
  some false
 else
 Option.bind (dname_ordinary_L0 N N a0 (ln a0) 0) (O2.el
  (fun o1 =>
  some o1)
  (fun o2 =>
  some true))
def dname_Valid_L0 (N : Nat) : Nat → List (List UInt8) → Int → Int → Option (O2 (Bool) (Unit))
 | 0, _, _, _ => none
 | n + 1, p0, p1, p2 =>
 bif ltI p2 p1 then
  Option.bind (atI p0 p2) fun e1 =>
  Option.bind (dname_ordinary N e1) fun r2 =>
  bif r2 then
   dname_Valid_L0 N n p0 p1 (addI .i64 p2 1)
  else
  bif ltI 0 p2 then
   some (.a false)
  else
  bif eqS e1 ([42] : List UInt8) then
   dname_Valid_L0 N n p0 p1 (addI .i64 p2 1)
  else
   some (.a false)
 else
  some (.b ())
def dname_Valid_L0b (N : Nat) : Nat → List (List UInt8) → Int → Int → Option (O2 (Bool) (Unit))
 | 0, _, _, _ => none
 | n + 1, p0, p1, p2 =>
 bif ltI p2 p1 then
  Option.bind (atI p0 p2) fun e1 =>
  Option.bind (dname_ordinary N e1) fun r2 =>
  bif r2 then
   dname_Valid_L0b N n p0 p1 (addI .i64 p2 1)
  else
  bif ltI 0 p2 then
   some (.a false)
  else
  bif eqS e1 ([42] : List UInt8) then
   dname_Valid_L0b N n p0 p1 (addI .i64 p2 1)
  else
   some (.a false)
 else
  some (.b ())
def dname_Valid (N : Nat) (a0 : List UInt8) : Option (Bool) :=
 bif eqS a0 ([46] : List UInt8) then
  some true
 else
 bif leI 255 (ln a0) then
  some false
 else
 Option.bind (strings_HasSuffix N a0 ([46] : List UInt8)) fun r1 =>
 bif r1 then
  Option.bind (cutI a0 0 (subI .i64 (ln a0) 1)) fun s2 =>
  Option.bind (strings_Split N s2 ([46] : List UInt8)) (O2.el
   (fun r3 =>
   Option.bind (dname_Valid_L0 N N r3 (ln r3) 0) (O2.el
    (fun o4 =>
    some o4)
    (fun o5 =>
    some true)))
   (fun r6 =>
   Option.bind (dname_Valid_L0b N N r6 (ln r6) 0) (O2.el
    (fun o7 =>
    some o7)
    (fun o8 =>
    some true))))
 else
  some false
def i_stringslite_HasPrefix (N : Nat) (a0 a1 : List UInt8) : Option (Bool) :=
 bif leI (ln a1) (ln a0) then
  Option.bind (cutI a0 0 (ln a1)) fun s1 =>
  bif eqS s1 a1 then
   some true
  else
   some false
 else
  some false
def strings_HasPrefix (N : Nat) (a0 a1 : List UInt8) : Option (Bool) :=
 Option.bind (i_stringslite_HasPrefix N a0 a1) fun r1 =>
 some r1
def rdata_host (N : Nat) (a0 : List UInt8) : Option (Bool) :=
 Option.bind (dname_Valid N a0) fun r1 =>
 bif r1 then
  Option.bind (strings_HasPrefix N a0 ([42] : List UInt8)) fun r2 =>
  bif r2 then
   some false
  else
   some true
 else
  some false
def serial_Valid (N : Nat) (a0 : Int) : Option (Bool) :=
 bif leI 0 a0 then
  bif ltI a0 4294967296 then
   some true
  else
   some false
 else
  some false
def rdata_within (N : Nat) (a0 a1 : Int) : Option (Bool) :=
 bif leI 0 a0 then
  bif leI a0 a1 then
   some true
  else
   some false
 else
  some false
def rdata_long (N : Nat) (a0 : List UInt8) : Option (Bool) :=
 bif leI 1 (ln a0) then
  bif leI (ln a0) 255 then
   some true
  else
   some false
 else
  some false
def rdata_all_L0 (N : Nat) : Nat → Int → List Rw3 → Int → Int → Option (Int)
 | 0, _, _, _, _ => none
 | n + 1, p0, p1, p2, p3 =>
 bif ltI p3 p2 then
  Option.bind (atI p1 p3) fun e1 =>
  Option.bind (shlI .u64 1 e1.c0) fun n2 =>
  rdata_all_L0 N n (orI .u64 p0 n2) p1 p2 (addI .i64 p3 1)
 else
  some p0
def rdata_all (N : Nat) : Option (Int) :=
 Option.bind (rdata_kinds N) fun r1 =>
 Option.bind (rdata_all_L0 N N 0 r1 (ln r1) 0) fun o2 =>
 some o2
def rdata_Mnemonic (N : Nat) (a0 : Int) : Option (List UInt8) :=
 Option.bind (rdata_find N a0) fun r1 =>
 some r1.2.1
def r05_Mnemonic (N : Nat) (a0 : Int) : Option (List UInt8) :=
 bif eqI a0 1 then
  some ([65] : List UInt8)
 else
 bif eqI a0 2 then
  some ([78, 83] : List UInt8)
 else
 bif eqI a0 5 then
  some ([67, 78, 65, 77, 69] : List UInt8)
 else
 bif eqI a0 6 then
  some ([83, 79, 65] : List UInt8)
 else
 bif eqI a0 12 then
  some ([80, 84, 82] : List UInt8)
 else
 bif eqI a0 15 then
  some ([77, 88] : List UInt8)
 else
 bif eqI a0 16 then
  some ([84, 88, 84] : List UInt8)
 else
 bif eqI a0 28 then
  some ([65, 65, 65, 65] : List UInt8)
 else
 bif eqI a0 33 then
  some ([83, 82, 86] : List UInt8)
 else
 bif eqI a0 39 then
  some ([68, 78, 65, 77, 69] : List UInt8)
 else
 bif eqI a0 43 then
  some ([68, 83] : List UInt8)
 else
 bif eqI a0 46 then
  some ([82, 82, 83, 73, 71] : List UInt8)
 else
 bif eqI a0 47 then
  some ([78, 83, 69, 67] : List UInt8)
 else
 bif eqI a0 48 then
  some ([68, 78, 83, 75, 69, 89] : List UInt8)
 else
  some ([] : List UInt8)
def r05_Known (N : Nat) (a0 : Int) : Option (Bool) :=
 Option.bind (r05_Mnemonic N a0) fun r1 =>
 bif eqS r1 ([] : List UInt8) then
  some false
 else
  some true
def r05_used (N : Nat) (a0 : Int) (a1_0 : Bool) (a1_1 a1_2 : Int) (a1_3 a1_4 a1_5 : List UInt8) (a1_6 a1_7 a1_8 a1_9 a1_10 a1_11 a1_12 : Int) : Option (Bool × Int × Int × List UInt8 × List UInt8 × List UInt8 × Int × Int × Int × Int × Int × Int × Int) :=
 bif eqI a0 1 then
  some (a1_0, a1_1, a1_2, ([] : List UInt8), ([] : List UInt8), ([] : List UInt8), 0, 0, 0, 0, 0, 0, 0)
 else
 bif eqI a0 28 then
  some (a1_0, a1_1, a1_2, ([] : List UInt8), ([] : List UInt8), ([] : List UInt8), 0, 0, 0, 0, 0, 0, 0)
 else
 bif eqI a0 2 then
  some (false, 0, 0, a1_3, ([] : List UInt8), ([] : List UInt8), 0, 0, 0, 0, 0, 0, 0)
 else
 bif eqI a0 5 then
  some (false, 0, 0, a1_3, ([] : List UInt8), ([] : List UInt8), 0, 0, 0, 0, 0, 0, 0)
 else
 bif eqI a0 12 then
  some (false, 0, 0, a1_3, ([] : List UInt8), ([] : List UInt8), 0, 0, 0, 0, 0, 0, 0)
 else
 bif eqI a0 39 then
  some (false, 0, 0, a1_3, ([] : List UInt8), ([] : List UInt8), 0, 0, 0, 0, 0, 0, 0)
 else
 bif eqI a0 6 then
  some (false, 0, 0, a1_3, a1_4, ([] : List UInt8), a1_6, a1_7, a1_8, a1_9, a1_10, 0, 0)
 else
 bif eqI a0 15 then
  some (false, 0, 0, a1_3, ([] : List UInt8), ([] : List UInt8), a1_6, 0, 0, 0, 0, 0, 0)
 else
 bif eqI a0 16 then
  some (false, 0, 0, ([] : List UInt8), ([] : List UInt8), a1_5, 0, 0, 0, 0, 0, 0, 0)
 else
 bif eqI a0 33 then
  some (false, 0, 0, a1_3, ([] : List UInt8), ([] : List UInt8), a1_6, a1_7, a1_8, 0, 0, 0, 0)
 else
 bif eqI a0 43 then
  some (false, 0, 0, ([] : List UInt8), ([] : List UInt8), a1_5, a1_6, a1_7, a1_8, 0, 0, 0, 0)
 else
 bif eqI a0 48 then
  some (false, 0, 0, ([] : List UInt8), ([] : List UInt8), a1_5, a1_6, a1_7, a1_8, 0, 0, 0, 0)
 else
 bif eqI a0 46 then
  some (false, 0, 0, a1_3, ([] : List UInt8), a1_5, a1_6, a1_7, a1_8, a1_9, a1_10, a1_11, 0)
 else
  some (false, 0, 0, a1_3, ([] : List UInt8), ([] : List UInt8), 0, 0, 0, 0, 0, 0, a1_12)
def r02_Valid (N : Nat) (a0_0 : Bool) (a0_1 a0_2 : Int) : Option (Bool) :=
 bif a0_0 then
  some true
 else
 bif eqI a0_1 0 then
  bif ltI a0_2 4294967296 then
   some true
  else
   some false
 else
  some false
def r01_isLabel_L0 (N : Nat) : Nat → List UInt8 → Int → Option (O2 (Bool) (Unit))
 | 0, _, _ => none
 | n + 1, p0, p1 =>
 bif ltI p1 (ln p0) then
  Option.bind (atI p0 p1) fun c1 =>
  bif leI 97 (bv c1) then
   bif leI (bv c1) 122 then
    r01_isLabel_L0 N n p0 (addI .i64 p1 1)
   else
   bif leI 48 (bv c1) then
    bif leI (bv c1) 57 then
     r01_isLabel_L0 N n p0 (addI .i64 p1 1)
    else
    bif eqI (bv c1) 45 then
     r01_isLabel_L0 N n p0 (addI .i64 p1 1)
    else
    bif eqI (bv c1) 95 then
     r01_isLabel_L0 N n p0 (addI .i64 p1 1)
    else
     some (.a false)
   else
   bif eqI (bv c1) 45 then
    r01_isLabel_L0 N n p0 (addI .i64 p1 1)
   else
   bif eqI (bv c1) 95 then
    r01_isLabel_L0 N n p0 (addI .i64 p1 1)
   else
    some (.a false)
  else
  bif leI 48 (bv c1) then
   bif leI (bv c1) 57 then
    r01_isLabel_L0 N n p0 (addI .i64 p1 1)
   else
   bif eqI (bv c1) 45 then
    r01_isLabel_L0 N n p0 (addI .i64 p1 1)
   else
   bif eqI (bv c1) 95 then
    r01_isLabel_L0 N n p0 (addI .i64 p1 1)
   else
    some (.a false)
  else
  bif eqI (bv c1) 45 then
   r01_isLabel_L0 N n p0 (addI .i64 p1 1)
  else
  bif eqI (bv c1) 95 then
   r01_isLabel_L0 N n p0 (addI .i64 p1 1)
  else
   some (.a false)
 else
  some (.b ())
def r01_isLabel (N : Nat) (a0 : List UInt8) : Option (Bool) :=
 bif eqS a0 ([42] : List UInt8) then
  some true
 else
 bif ltI (ln a0) 1 then
  some false
 else
 bif ltI 63 (ln a0) then
  some false
 else
 Option.bind (r01_isLabel_L0 N N a0 0) (O2.el
  (fun o1 =>
  some o1)
  (fun o2 =>
  some true))
def r01_split_L0 (N : Nat) : Nat → List UInt8 → List (List UInt8) → Int → Int → Option (O2 (List (List UInt8) × Bool) (List (List UInt8)))
 | 0, _, _, _, _ => none
 | n + 1, p0, p1, p2, p3 =>
 bif ltI p3 (ln p0) then
  Option.bind (atI p0 p3) fun c1 =>
  bif eqI (bv c1) 46 then
   Option.bind (cutI p0 p2 p3) fun s2 =>
   Option.bind (r01_isLabel N s2) fun r3 =>
   bif r3 then
    bif eqS s2 ([42] : List UInt8) then
     bif ltI 0 p2 then
      some (.a ([], false))
     else
     bif room1 p1 1 16 then
      r01_split_L0 N n p0 (p1 ++ [s2]) (addI .i64 p3 1) (addI .i64 p3 1)
     else
     none
    else
    bif room1 p1 1 16 then
     r01_split_L0 N n p0 (p1 ++ [s2]) (addI .i64 p3 1) (addI .i64 p3 1)
    else
    none
   else
    some (.a ([], false))
  else
  r01_split_L0 N n p0 p1 p2 (addI .i64 p3 1)
 else
  some (.b p1)
def r01_split (N : Nat) (a0 : List UInt8) : Option (List (List UInt8) × Bool) :=
 bif eqS a0 ([46] : List UInt8) then
  some ([], true)
 else
 bif ltI (ln a0) 2 then
  some ([], false)
 else
 bif ltI 254 (ln a0) then
  some ([], false)
 else
 Option.bind (atI a0 (subI .i64 (ln a0) 1)) fun c1 =>
 bif eqI (bv c1) 46 then
  Option.bind (r01_split_L0 N N a0 [] 0 0) (O2.el
   (fun o2 =>
   some (o2.1, o2.2))
   (fun o3 =>
   some (o3, true)))
 else
  some ([], false)
def r01_Valid (N : Nat) (a0 : List UInt8) : Option (Bool) :=
 Option.bind (r01_split N a0) fun r1 =>
 some r1.2
def r05_host (N : Nat) (a0 : List UInt8) : Option (Bool) :=
 Option.bind (r01_Valid N a0) fun r1 =>
 bif r1 then
  Option.bind (atI a0 0) fun c2 =>
  bif eqI (bv c2) 42 then
   some false
  else
   some true
 else
  some false
def r04_Valid (N : Nat) (a0 : Int) : Option (Bool) :=
 bif leI 0 a0 then
  bif ltI a0 4294967296 then
   some true
  else
   some false
 else
  some false
def r05_in (N : Nat) (a0 a1 : Int) : Option (Bool) :=
 bif leI 0 a0 then
  bif leI a0 a1 then
   some true
  else
   some false
 else
  some false
def r05_text (N : Nat) (a0 : List UInt8) : Option (Bool) :=
 bif leI 1 (ln a0) then
  bif leI (ln a0) 255 then
   some true
  else
   some false
 else
  some false
def r05_all_L0 (N : Nat) : Nat → Int → Int → Option (O2 (Bool) (Unit))
 | 0, _, _ => none
 | n + 1, p0, p1 =>
 bif ltI p1 64 then
  Option.bind (shrI .u64 p0 (convI .u64 p1)) fun n1 =>
  bif eqI (andI .u64 n1 1) 1 then
   Option.bind (r05_Known N p1) fun r2 =>
   bif r2 then
    r05_all_L0 N n p0 (addI .i64 p1 1)
   else
    some (.a false)
  else
  r05_all_L0 N n p0 (addI .i64 p1 1)
 else
  some (.b ())
def r05_all (N : Nat) (a0 : Int) : Option (Bool) :=
 Option.bind (r05_all_L0 N N a0 0) (O2.el
  (fun o1 =>
  some o1)
  (fun o2 =>
  some true))
def r06_Fields (N : Nat) (a0 : Int) : Option (List UInt8) :=
 bif eqI a0 1 then
  some ([97] : List UInt8)
 else
 bif eqI a0 28 then
  some ([97] : List UInt8)
 else
 bif eqI a0 2 then
  some ([110] : List UInt8)
 else
 bif eqI a0 5 then
  some ([110] : List UInt8)
 else
 bif eqI a0 12 then
  some ([110] : List UInt8)
 else
 bif eqI a0 39 then
  some ([110] : List UInt8)
 else
 bif eqI a0 6 then
  some ([110, 109, 65, 98, 99, 100, 101] : List UInt8)
 else
 bif eqI a0 15 then
  some ([65, 110] : List UInt8)
 else
 bif eqI a0 16 then
  some ([116] : List UInt8)
 else
 bif eqI a0 33 then
  some ([65, 66, 67, 110] : List UInt8)
 else
 bif eqI a0 43 then
  some ([65, 66, 67, 120] : List UInt8)
 else
 bif eqI a0 48 then
  some ([65, 66, 67, 120] : List UInt8)
 else
 bif eqI a0 46 then
  some ([121, 115, 66, 67, 68, 69, 70, 110, 120] : List UInt8)
 else
 bif eqI a0 47 then
  some ([110, 122] : List UInt8)
 else
  some ([] : List UInt8)
def w06_same_L0 (N : Nat) : Nat → List (List UInt8) → List (List UInt8) → Int → Option (O2 (Bool) (Unit))
 | 0, _, _, _ => none
 | n + 1, p0, p1, p2 =>
 bif ltI p2 (ln p0) then
  Option.bind (atI p0 p2) fun e1 =>
  Option.bind (atI p1 p2) fun e2 =>
  bif eqS e1 e2 then
   w06_same_L0 N n p0 p1 (addI .i64 p2 1)
  else
   some (.a false)
 else
  some (.b ())
def w06_same (N : Nat) (a0 a1 : List (List UInt8)) : Option (Bool) :=
 bif eqI (ln a0) (ln a1) then
  Option.bind (w06_same_L0 N N a0 a1 0) (O2.el
   (fun o1 =>
   some o1)
   (fun o2 =>
   some true))
 else
  some false
end Go.Ev
/- Functions as plain Lean. Condition: none. -/
namespace Go.Ev
set_option linter.all false
set_option maxRecDepth 10000
set_option maxHeartbeats 8000000
def rdata_Valid (N : Nat) (a0 : Int) (a1_0 : Bool) (a1_1 a1_2 : Int) (a1_3 a1_4 a1_5 : List UInt8) (a1_6 a1_7 a1_8 a1_9 a1_10 a1_11 a1_12 : Int) : Option (Bool) :=
 bif eqI a0 1 then
 bif a1_0 then
 bif eqI a1_1 a1_1 then
 bif eqI a1_2 a1_2 then
 bif eqS a1_3 ([] : List UInt8) then
 bif eqS a1_4 ([] : List UInt8) then
 bif eqS a1_5 ([] : List UInt8) then
 bif eqI a1_6 0 then
 bif eqI a1_7 0 then
 bif eqI a1_8 0 then
 bif eqI a1_9 0 then
 bif eqI a1_10 0 then
 bif eqI a1_11 0 then
 bif eqI a1_12 0 then
 Option.bind (addr_Valid N true a1_1 a1_2) fun r1 =>
 bif r1 then
 bif eqI a0 28 then
 some true
 else
 some false
 else
 some false
 else
 some false
 else
 some false
 else
 some false
 else
 some false
 else
 some false
 else
 some false
 else
 some false
 else
 some false
 else
 some false
 else
 some false
 else
 some false
 else
 some false
 else
 bif eqI a1_1 a1_1 then
 bif eqI a1_2 a1_2 then
 bif eqS a1_3 ([] : List UInt8) then
 bif eqS a1_4 ([] : List UInt8) then
 bif eqS a1_5 ([] : List UInt8) then
 bif eqI a1_6 0 then
 bif eqI a1_7 0 then
 bif eqI a1_8 0 then
 bif eqI a1_9 0 then
 bif eqI a1_10 0 then
 bif eqI a1_11 0 then
 bif eqI a1_12 0 then
 Option.bind (addr_Valid N false a1_1 a1_2) fun r2 =>
 bif r2 then
 bif eqI a0 28 then
 some false
 else
 some true
 else
 some false
 else
 some false
 else
 some false
 else
 some false
 else
 some false
 else
 some false
 else
 some false
 else
 some false
 else
 some false
 else
 some false
 else
 some false
 else
 some false
 else
 some false
 else
 bif eqI a0 28 then
 bif a1_0 then
 bif eqI a1_1 a1_1 then
 bif eqI a1_2 a1_2 then
 bif eqS a1_3 ([] : List UInt8) then
 bif eqS a1_4 ([] : List UInt8) then
 bif eqS a1_5 ([] : List UInt8) then
 bif eqI a1_6 0 then
 bif eqI a1_7 0 then
 bif eqI a1_8 0 then
 bif eqI a1_9 0 then
 bif eqI a1_10 0 then
 bif eqI a1_11 0 then
 bif eqI a1_12 0 then
 Option.bind (addr_Valid N true a1_1 a1_2) fun r3 =>
 bif r3 then
 some true
 else
 some false
 else
 some false
 else
 some false
 else
 some false
 else
 some false
 else
 some false
 else
 some false
 else
 some false
 else
 some false
 else
 some false
 else
 some false
 else
 some false
 else
 some false
 else
 bif eqI a1_1 a1_1 then
 bif eqI a1_2 a1_2 then
 bif eqS a1_3 ([] : List UInt8) then
 bif eqS a1_4 ([] : List UInt8) then
 bif eqS a1_5 ([] : List UInt8) then
 bif eqI a1_6 0 then
 bif eqI a1_7 0 then
 bif eqI a1_8 0 then
 bif eqI a1_9 0 then
 bif eqI a1_10 0 then
 bif eqI a1_11 0 then
 bif eqI a1_12 0 then
 Option.bind (addr_Valid N false a1_1 a1_2) fun r4 =>
 bif r4 then
 some false
 else
 some false
 else
 some false
 else
 some false
 else
 some false
 else
 some false
 else
 some false
 else
 some false
 else
 some false
 else
 some false
 else
 some false
 else
 some false
 else
 some false
 else
 some false
 else
 bif eqI a0 2 then
 bif a1_0 then
 some false
 else
 bif eqI a1_1 0 then
 bif eqI a1_2 0 then
 bif eqS a1_3 a1_3 then
 bif eqS a1_4 ([] : List UInt8) then
 bif eqS a1_5 ([] : List UInt8) then
 bif eqI a1_6 0 then
 bif eqI a1_7 0 then
 bif eqI a1_8 0 then
 bif eqI a1_9 0 then
 bif eqI a1_10 0 then
 bif eqI a1_11 0 then
 bif eqI a1_12 0 then
 Option.bind (rdata_host N a1_3) fun r5 =>
 some r5
 else
 some false
 else
 some false
 else
 some false
 else
 some false
 else
 some false
 else
 some false
 else
 some false
 else
 some false
 else
 some false
 else
 some false
 else
 some false
 else
 some false
 else
 bif eqI a0 5 then
 bif a1_0 then
 some false
 else
 bif eqI a1_1 0 then
 bif eqI a1_2 0 then
 bif eqS a1_3 a1_3 then
 bif eqS a1_4 ([] : List UInt8) then
 bif eqS a1_5 ([] : List UInt8) then
 bif eqI a1_6 0 then
 bif eqI a1_7 0 then
 bif eqI a1_8 0 then
 bif eqI a1_9 0 then
 bif eqI a1_10 0 then
 bif eqI a1_11 0 then
 bif eqI a1_12 0 then
 Option.bind (rdata_host N a1_3) fun r6 =>
 some r6
 else
 some false
 else
 some false
 else
 some false
 else
 some false
 else
 some false
 else
 some false
 else
 some false
 else
 some false
 else
 some false
 else
 some false
 else
 some false
 else
 some false
 else
 bif eqI a0 12 then
 bif a1_0 then
 some false
 else
 bif eqI a1_1 0 then
 bif eqI a1_2 0 then
 bif eqS a1_3 a1_3 then
 bif eqS a1_4 ([] : List UInt8) then
 bif eqS a1_5 ([] : List UInt8) then
 bif eqI a1_6 0 then
 bif eqI a1_7 0 then
 bif eqI a1_8 0 then
 bif eqI a1_9 0 then
 bif eqI a1_10 0 then
 bif eqI a1_11 0 then
 bif eqI a1_12 0 then
 Option.bind (rdata_host N a1_3) fun r7 =>
 some r7
 else
 some false
 else
 some false
 else
 some false
 else
 some false
 else
 some false
 else
 some false
 else
 some false
 else
 some false
 else
 some false
 else
 some false
 else
 some false
 else
 some false
 else
 bif eqI a0 39 then
 bif a1_0 then
 some false
 else
 bif eqI a1_1 0 then
 bif eqI a1_2 0 then
 bif eqS a1_3 a1_3 then
 bif eqS a1_4 ([] : List UInt8) then
 bif eqS a1_5 ([] : List UInt8) then
 bif eqI a1_6 0 then
 bif eqI a1_7 0 then
 bif eqI a1_8 0 then
 bif eqI a1_9 0 then
 bif eqI a1_10 0 then
 bif eqI a1_11 0 then
 bif eqI a1_12 0 then
 Option.bind (rdata_host N a1_3) fun r8 =>
 some r8
 else
 some false
 else
 some false
 else
 some false
 else
 some false
 else
 some false
 else
 some false
 else
 some false
 else
 some false
 else
 some false
 else
 some false
 else
 some false
 else
 some false
 else
 bif eqI a0 6 then
 bif a1_0 then
 some false
 else
 bif eqI a1_1 0 then
 bif eqI a1_2 0 then
 bif eqS a1_3 a1_3 then
 bif eqS a1_4 a1_4 then
 bif eqS a1_5 ([] : List UInt8) then
 bif eqI a1_6 a1_6 then
 bif eqI a1_7 a1_7 then
 bif eqI a1_8 a1_8 then
 bif eqI a1_9 a1_9 then
 bif eqI a1_10 a1_10 then
 bif eqI a1_11 0 then
 bif eqI a1_12 0 then
 Option.bind (rdata_host N a1_3) fun r9 =>
 bif r9 then
 Option.bind (rdata_host N a1_4) fun r10 =>
 bif r10 then
 Option.bind (serial_Valid N a1_6) fun r11 =>
 bif r11 then
 Option.bind (rdata_within N a1_7 2147483647) fun r12 =>
 bif r12 then
 Option.bind (rdata_within N a1_8 2147483647) fun r13 =>
 bif r13 then
 Option.bind (rdata_within N a1_9 2147483647) fun r14 =>
 bif r14 then
 Option.bind (rdata_within N a1_10 2147483647) fun r15 =>
 some r15
 else
 some false
 else
 some false
 else
 some false
 else
 some false
 else
 some false
 else
 some false
 else
 some false
 else
 some false
 else
 some false
 else
 some false
 else
 some false
 else
 some false
 else
 some false
 else
 some false
 else
 some false
 else
 some false
 else
 some false
 else
 some false
 else
 bif eqI a0 15 then
 bif a1_0 then
 some false
 else
 bif eqI a1_1 0 then
 bif eqI a1_2 0 then
 bif eqS a1_3 a1_3 then
 bif eqS a1_4 ([] : List UInt8) then
 bif eqS a1_5 ([] : List UInt8) then
 bif eqI a1_6 a1_6 then
 bif eqI a1_7 0 then
 bif eqI a1_8 0 then
 bif eqI a1_9 0 then
 bif eqI a1_10 0 then
 bif eqI a1_11 0 then
 bif eqI a1_12 0 then
 Option.bind (rdata_host N a1_3) fun r16 =>
 bif r16 then
 Option.bind (rdata_within N a1_6 65535) fun r17 =>
 some r17
 else
 some false
 else
 some false
 else
 some false
 else
 some false
 else
 some false
 else
 some false
 else
 some false
 else
 some false
 else
 some false
 else
 some false
 else
 some false
 else
 some false
 else
 some false
 else
 bif eqI a0 16 then
 bif a1_0 then
 some false
 else
 bif eqI a1_1 0 then
 bif eqI a1_2 0 then
 bif eqS a1_3 ([] : List UInt8) then
 bif eqS a1_4 ([] : List UInt8) then
 bif eqS a1_5 a1_5 then
 bif eqI a1_6 0 then
 bif eqI a1_7 0 then
 bif eqI a1_8 0 then
 bif eqI a1_9 0 then
 bif eqI a1_10 0 then
 bif eqI a1_11 0 then
 bif eqI a1_12 0 then
 bif leI (ln a1_5) 255 then
 some true
 else
 some false
 else
 some false
 else
 some false
 else
 some false
 else
 some false
 else
 some false
 else
 some false
 else
 some false
 else
 some false
 else
 some false
 else
 some false
 else
 some false
 else
 some false
 else
 bif eqI a0 33 then
 bif a1_0 then
 some false
 else
 bif eqI a1_1 0 then
 bif eqI a1_2 0 then
 bif eqS a1_3 a1_3 then
 bif eqS a1_4 ([] : List UInt8) then
 bif eqS a1_5 ([] : List UInt8) then
 bif eqI a1_6 a1_6 then
 bif eqI a1_7 a1_7 then
 bif eqI a1_8 a1_8 then
 bif eqI a1_9 0 then
 bif eqI a1_10 0 then
 bif eqI a1_11 0 then
 bif eqI a1_12 0 then
 Option.bind (rdata_host N a1_3) fun r18 =>
 bif r18 then
 Option.bind (rdata_within N a1_6 65535) fun r19 =>
 bif r19 then
 Option.bind (rdata_within N a1_7 65535) fun r20 =>
 bif r20 then
 Option.bind (rdata_within N a1_8 65535) fun r21 =>
 some r21
 else
 some false
 else
 some false
 else
 some false
 else
 some false
 else
 some false
 else
 some false
 else
 some false
 else
 some false
 else
 some false
 else
 some false
 else
 some false
 else
 some false
 else
 some false
 else
 some false
 else
 some false
 else
 bif eqI a0 43 then
 bif a1_0 then
 some false
 else
 bif eqI a1_1 0 then
 bif eqI a1_2 0 then
 bif eqS a1_3 ([] : List UInt8) then
 bif eqS a1_4 ([] : List UInt8) then
 bif eqS a1_5 a1_5 then
 bif eqI a1_6 a1_6 then
 bif eqI a1_7 a1_7 then
 bif eqI a1_8 a1_8 then
 bif eqI a1_9 0 then
 bif eqI a1_10 0 then
 bif eqI a1_11 0 then
 bif eqI a1_12 0 then
 Option.bind (rdata_long N a1_5) fun r22 =>
 bif r22 then
 Option.bind (rdata_within N a1_6 65535) fun r23 =>
 bif r23 then
 Option.bind (rdata_within N a1_7 255) fun r24 =>
 bif r24 then
 Option.bind (rdata_within N a1_8 255) fun r25 =>
 some r25
 else
 some false
 else
 some false
 else
 some false
 else
 some false
 else
 some false
 else
 some false
 else
 some false
 else
 some false
 else
 some false
 else
 some false
 else
 some false
 else
 some false
 else
 some false
 else
 some false
 else
 some false
 else
 bif eqI a0 46 then
 bif a1_0 then
 some false
 else
 bif eqI a1_1 0 then
 bif eqI a1_2 0 then
 bif eqS a1_3 a1_3 then
 bif eqS a1_4 ([] : List UInt8) then
 bif eqS a1_5 a1_5 then
 bif eqI a1_6 a1_6 then
 bif eqI a1_7 a1_7 then
 bif eqI a1_8 a1_8 then
 bif eqI a1_9 a1_9 then
 bif eqI a1_10 a1_10 then
 bif eqI a1_11 a1_11 then
 bif eqI a1_12 0 then
 Option.bind (rdata_long N a1_5) fun r26 =>
 bif r26 then
 Option.bind (rdata_host N a1_3) fun r27 =>
 bif r27 then
 Option.bind (rdata_Known N a1_6) fun r28 =>
 bif r28 then
 bif eqI a1_6 46 then
 some false
 else
 Option.bind (rdata_within N a1_7 127) fun r29 =>
 bif r29 then
 Option.bind (rdata_within N a1_8 2147483647) fun r30 =>
 bif r30 then
 Option.bind (rdata_within N a1_9 4294967295) fun r31 =>
 bif r31 then
 Option.bind (rdata_within N a1_10 4294967295) fun r32 =>
 bif r32 then
 Option.bind (rdata_within N a1_11 65535) fun r33 =>
 some r33
 else
 some false
 else
 some false
 else
 some false
 else
 some false
 else
 some false
 else
 some false
 else
 some false
 else
 some false
 else
 some false
 else
 some false
 else
 some false
 else
 some false
 else
 some false
 else
 some false
 else
 some false
 else
 some false
 else
 some false
 else
 some false
 else
 some false
 else
 bif eqI a0 47 then
 bif a1_0 then
 some false
 else
 bif eqI a1_1 0 then
 bif eqI a1_2 0 then
 bif eqS a1_3 a1_3 then
 bif eqS a1_4 ([] : List UInt8) then
 bif eqS a1_5 ([] : List UInt8) then
 bif eqI a1_6 0 then
 bif eqI a1_7 0 then
 bif eqI a1_8 0 then
 bif eqI a1_9 0 then
 bif eqI a1_10 0 then
 bif eqI a1_11 0 then
 bif eqI a1_12 a1_12 then
 Option.bind (dname_Valid N a1_3) fun r34 =>
 bif r34 then
 bif eqI a1_12 0 then
 some false
 else
 Option.bind (rdata_all N) fun r35 =>
 bif eqI (andNotI .u64 a1_12 r35) 0 then
 some true
 else
 some false
 else
 some false
 else
 some false
 else
 some false
 else
 some false
 else
 some false
 else
 some false
 else
 some false
 else
 some false
 else
 some false
 else
 some false
 else
 some false
 else
 some false
 else
 some false
 else
 bif eqI a0 48 then
 bif a1_0 then
 some false
 else
 bif eqI a1_1 0 then
 bif eqI a1_2 0 then
 bif eqS a1_3 ([] : List UInt8) then
 bif eqS a1_4 ([] : List UInt8) then
 bif eqS a1_5 a1_5 then
 bif eqI a1_6 a1_6 then
 bif eqI a1_7 a1_7 then
 bif eqI a1_8 a1_8 then
 bif eqI a1_9 0 then
 bif eqI a1_10 0 then
 bif eqI a1_11 0 then
 bif eqI a1_12 0 then
 Option.bind (rdata_long N a1_5) fun r36 =>
 bif r36 then
 bif eqI a1_6 256 then
 bif eqI a1_7 3 then
 Option.bind (rdata_within N a1_8 255) fun r37 =>
 some r37
 else
 some false
 else
 bif eqI a1_6 257 then
 bif eqI a1_7 3 then
 Option.bind (rdata_within N a1_8 255) fun r38 =>
 some r38
 else
 some false
 else
 some false
 else
 some false
 else
 some false
 else
 some false
 else
 some false
 else
 some false
 else
 some false
 else
 some false
 else
 some false
 else
 some false
 else
 some false
 else
 some false
 else
 some false
 else
 some false
 else
 some false
end Go.Ev
/- Functions as plain Lean. Condition: none. -/
namespace Go.Ev
set_option linter.all false
set_option maxRecDepth 10000
set_option maxHeartbeats 8000000
def r05_Valid (N : Nat) (a0 : Int) (a1_0 : Bool) (a1_1 a1_2 : Int) (a1_3 a1_4 a1_5 : List UInt8) (a1_6 a1_7 a1_8 a1_9 a1_10 a1_11 a1_12 : Int) : Option (Bool) :=
 Option.bind (r05_Known N a0) fun r1 =>
 bif r1 then
 Option.bind (r05_used N a0 a1_0 a1_1 a1_2 a1_3 a1_4 a1_5 a1_6 a1_7 a1_8 a1_9 a1_10 a1_11 a1_12) fun r2 =>
 bif r2.1 then
 bif a1_0 then
 bif eqI r2.2.1 a1_1 then
 bif eqI r2.2.2.1 a1_2 then
 bif eqS r2.2.2.2.1 a1_3 then
 bif eqS r2.2.2.2.2.1 a1_4 then
 bif eqS r2.2.2.2.2.2.1 a1_5 then
 bif eqI r2.2.2.2.2.2.2.1 a1_6 then
 bif eqI r2.2.2.2.2.2.2.2.1 a1_7 then
 bif eqI r2.2.2.2.2.2.2.2.2.1 a1_8 then
 bif eqI r2.2.2.2.2.2.2.2.2.2.1 a1_9 then
 bif eqI r2.2.2.2.2.2.2.2.2.2.2.1 a1_10 then
 bif eqI r2.2.2.2.2.2.2.2.2.2.2.2.1 a1_11 then
 bif eqI r2.2.2.2.2.2.2.2.2.2.2.2.2 a1_12 then
 bif eqI a0 1 then
 Option.bind (r02_Valid N true a1_1 a1_2) fun r3 =>
 bif r3 then
 some false
 else
 some false
 else
 bif eqI a0 28 then
 some true
 else
 bif eqI a0 6 then
 Option.bind (r05_host N a1_3) fun r4 =>
 bif r4 then
 Option.bind (r05_host N a1_4) fun r5 =>
 bif r5 then
 Option.bind (r04_Valid N a1_6) fun r6 =>
 bif r6 then
 Option.bind (r05_in N a1_7 2147483647) fun r7 =>
 bif r7 then
 Option.bind (r05_in N a1_8 2147483647) fun r8 =>
 bif r8 then
 Option.bind (r05_in N a1_9 2147483647) fun r9 =>
 bif r9 then
 Option.bind (r05_in N a1_10 2147483647) fun r10 =>
 some r10
 else
 some false
 else
 some false
 else
 some false
 else
 some false
 else
 some false
 else
 some false
 else
 bif eqI a0 15 then
 Option.bind (r05_host N a1_3) fun r11 =>
 bif r11 then
 Option.bind (r05_in N a1_6 65535) fun r12 =>
 some r12
 else
 some false
 else
 bif eqI a0 16 then
 bif leI (ln a1_5) 255 then
 some true
 else
 some false
 else
 bif eqI a0 33 then
 Option.bind (r05_host N a1_3) fun r13 =>
 bif r13 then
 Option.bind (r05_in N a1_6 65535) fun r14 =>
 bif r14 then
 Option.bind (r05_in N a1_7 65535) fun r15 =>
 bif r15 then
 Option.bind (r05_in N a1_8 65535) fun r16 =>
 some r16
 else
 some false
 else
 some false
 else
 some false
 else
 bif eqI a0 43 then
 Option.bind (r05_in N a1_6 65535) fun r17 =>
 bif r17 then
 Option.bind (r05_in N a1_7 255) fun r18 =>
 bif r18 then
 Option.bind (r05_in N a1_8 255) fun r19 =>
 bif r19 then
 Option.bind (r05_text N a1_5) fun r20 =>
 some r20
 else
 some false
 else
 some false
 else
 some false
 else
 bif eqI a0 46 then
 Option.bind (r05_Known N a1_6) fun r21 =>
 bif r21 then
 bif eqI a1_6 46 then
 some false
 else
 Option.bind (r05_in N a1_7 127) fun r22 =>
 bif r22 then
 Option.bind (r05_in N a1_8 2147483647) fun r23 =>
 bif r23 then
 Option.bind (r05_in N a1_9 4294967295) fun r24 =>
 bif r24 then
 Option.bind (r05_in N a1_10 4294967295) fun r25 =>
 bif r25 then
 Option.bind (r05_in N a1_11 65535) fun r26 =>
 bif r26 then
 Option.bind (r05_host N a1_3) fun r27 =>
 bif r27 then
 Option.bind (r05_text N a1_5) fun r28 =>
 some r28
 else
 some false
 else
 some false
 else
 some false
 else
 some false
 else
 some false
 else
 some false
 else
 some false
 else
 bif eqI a0 47 then
 Option.bind (r01_Valid N a1_3) fun r29 =>
 bif r29 then
 bif eqI a1_12 0 then
 some false
 else
 Option.bind (r05_all N a1_12) fun r30 =>
 some r30
 else
 some false
 else
 bif eqI a0 48 then
 bif eqI a1_6 256 then
 bif eqI a1_7 3 then
 Option.bind (r05_in N a1_8 255) fun r31 =>
 bif r31 then
 Option.bind (r05_text N a1_5) fun r32 =>
 some r32
 else
 some false
 else
 some false
 else
 bif eqI a1_6 257 then
 bif eqI a1_7 3 then
 Option.bind (r05_in N a1_8 255) fun r33 =>
 bif r33 then
 Option.bind (r05_text N a1_5) fun r34 =>
 some r34
 else
 some false
 else
 some false
 else
 some false
 else
 Option.bind (r05_host N a1_3) fun r35 =>
 some r35
 else
 some false
 else
 some false
 else
 some false
 else
 some false
 else
 some false
 else
 some false
 else
 some false
 else
 some false
 else
 some false
 else
 some false
 else
 some false
 else
 some false
 else
 some false
 else
 bif a1_0 then
 some false
 else
 bif eqI r2.2.1 a1_1 then
 bif eqI r2.2.2.1 a1_2 then
 bif eqS r2.2.2.2.1 a1_3 then
 bif eqS r2.2.2.2.2.1 a1_4 then
 bif eqS r2.2.2.2.2.2.1 a1_5 then
 bif eqI r2.2.2.2.2.2.2.1 a1_6 then
 bif eqI r2.2.2.2.2.2.2.2.1 a1_7 then
 bif eqI r2.2.2.2.2.2.2.2.2.1 a1_8 then
 bif eqI r2.2.2.2.2.2.2.2.2.2.1 a1_9 then
 bif eqI r2.2.2.2.2.2.2.2.2.2.2.1 a1_10 then
 bif eqI r2.2.2.2.2.2.2.2.2.2.2.2.1 a1_11 then
 bif eqI r2.2.2.2.2.2.2.2.2.2.2.2.2 a1_12 then
 bif eqI a0 1 then
 Option.bind (r02_Valid N false a1_1 a1_2) fun r36 =>
 bif r36 then
 some true
 else
 some false
 else
 bif eqI a0 28 then
 some false
 else
 bif eqI a0 6 then
 Option.bind (r05_host N a1_3) fun r37 =>
 bif r37 then
 Option.bind (r05_host N a1_4) fun r38 =>
 bif r38 then
 Option.bind (r04_Valid N a1_6) fun r39 =>
 bif r39 then
 Option.bind (r05_in N a1_7 2147483647) fun r40 =>
 bif r40 then
 Option.bind (r05_in N a1_8 2147483647) fun r41 =>
 bif r41 then
 Option.bind (r05_in N a1_9 2147483647) fun r42 =>
 bif r42 then
 Option.bind (r05_in N a1_10 2147483647) fun r43 =>
 some r43
 else
 some false
 else
 some false
 else
 some false
 else
 some false
 else
 some false
 else
 some false
 else
 bif eqI a0 15 then
 Option.bind (r05_host N a1_3) fun r44 =>
 bif r44 then
 Option.bind (r05_in N a1_6 65535) fun r45 =>
 some r45
 else
 some false
 else
 bif eqI a0 16 then
 bif leI (ln a1_5) 255 then
 some true
 else
 some false
 else
 bif eqI a0 33 then
 Option.bind (r05_host N a1_3) fun r46 =>
 bif r46 then
 Option.bind (r05_in N a1_6 65535) fun r47 =>
 bif r47 then
 Option.bind (r05_in N a1_7 65535) fun r48 =>
 bif r48 then
 Option.bind (r05_in N a1_8 65535) fun r49 =>
 some r49
 else
 some false
 else
 some false
 else
 some false
 else
 bif eqI a0 43 then
 Option.bind (r05_in N a1_6 65535) fun r50 =>
 bif r50 then
 Option.bind (r05_in N a1_7 255) fun r51 =>
 bif r51 then
 Option.bind (r05_in N a1_8 255) fun r52 =>
 bif r52 then
 Option.bind (r05_text N a1_5) fun r53 =>
 some r53
 else
 some false
 else
 some false
 else
 some false
 else
 bif eqI a0 46 then
 Option.bind (r05_Known N a1_6) fun r54 =>
 bif r54 then
 bif eqI a1_6 46 then
 some false
 else
 Option.bind (r05_in N a1_7 127) fun r55 =>
 bif r55 then
 Option.bind (r05_in N a1_8 2147483647) fun r56 =>
 bif r56 then
 Option.bind (r05_in N a1_9 4294967295) fun r57 =>
 bif r57 then
 Option.bind (r05_in N a1_10 4294967295) fun r58 =>
 bif r58 then
 Option.bind (r05_in N a1_11 65535) fun r59 =>
 bif r59 then
 Option.bind (r05_host N a1_3) fun r60 =>
 bif r60 then
 Option.bind (r05_text N a1_5) fun r61 =>
 some r61
 else
 some false
 else
 some false
 else
 some false
 else
 some false
 else
 some false
 else
 some false
 else
 some false
 else
 bif eqI a0 47 then
 Option.bind (r01_Valid N a1_3) fun r62 =>
 bif r62 then
 bif eqI a1_12 0 then
 some false
 else
 Option.bind (r05_all N a1_12) fun r63 =>
 some r63
 else
 some false
 else
 bif eqI a0 48 then
 bif eqI a1_6 256 then
 bif eqI a1_7 3 then
 Option.bind (r05_in N a1_8 255) fun r64 =>
 bif r64 then
 Option.bind (r05_text N a1_5) fun r65 =>
 some r65
 else
 some false
 else
 some false
 else
 bif eqI a1_6 257 then
 bif eqI a1_7 3 then
 Option.bind (r05_in N a1_8 255) fun r66 =>
 bif r66 then
 Option.bind (r05_text N a1_5) fun r67 =>
 some r67
 else
 some false
 else
 some false
 else
 some false
 else
 Option.bind (r05_host N a1_3) fun r68 =>
 some r68
 else
 some false
 else
 some false
 else
 some false
 else
 some false
 else
 some false
 else
 some false
 else
 some false
 else
 some false
 else
 some false
 else
 some false
 else
 some false
 else
 some false
 else
 some false
end Go.Ev
/- Functions as plain Lean. Condition: none. -/
namespace Go.Ev
set_option linter.all false
set_option maxRecDepth 10000
set_option maxHeartbeats 8000000
def rtext_reader_fail (N : Nat) (a0_0 : List (List UInt8)) (a0_1 : List UInt8) (a0_2 a1 : Int) : Option (Int) :=
 bif eqI a0_2 0 then
 some a1
 else
 some a0_2
def rtext_reader_word (N : Nat) (a0_0 : List (List UInt8)) (a0_1 : List UInt8) (a0_2 : Int) : Option (List UInt8 × Bool × List (List UInt8) × Int) :=
 bif eqI a0_2 0 then
 bif eqI (ln a0_0) 0 then
 Option.bind (rtext_reader_fail N a0_0 a0_1 a0_2 6) fun r1 =>
 some (([] : List UInt8), false, a0_0, r1)
 else
 Option.bind (atI a0_0 0) fun e2 =>
 Option.bind (cutI a0_0 1 (ln a0_0)) fun l3 =>
 some (e2, true, l3, a0_2)
 else
 some (([] : List UInt8), false, a0_0, a0_2)
def addr_decimal_L0 (N : Nat) : Nat → List UInt8 → Int → Int → Int → Option (O2 (Int × Bool) (Int))
 | 0, _, _, _, _ => none
 | n + 1, p0, p1, p2, p3 =>
 bif ltI p3 p2 then
 Option.bind (atI p0 p3) fun c1 =>
 bif ltI (bv c1) 48 then
 some (.a (0, false))
 else
 bif ltI 57 (bv c1) then
 some (.a (0, false))
 else
 addr_decimal_L0 N n p0 (addI .u64 (mulI .u64 10 p1) (convI .u64 (subI .u8 (bv c1) 48))) p2 (addI .i64 p3 1)
 else
 some (.b p1)
def addr_decimal (N : Nat) (a0 : List UInt8) : Option (Int × Bool) :=
 bif ltI (ln a0) 1 then
 some (0, false)
 else
 bif ltI 3 (ln a0) then
 some (0, false)
 else
 Option.bind (atI a0 0) fun c1 =>
 bif eqI (bv c1) 48 then
 bif ltI 1 (ln a0) then
 some (0, false)
 else
 Option.bind (addr_decimal_L0 N N a0 0 (ln a0) 0) (O2.el
 (fun o2 =>
 some (o2.1, o2.2))
 (fun o3 =>
 bif leI o3 255 then
 some (o3, true)
 else
 some (o3, false)))
 else
 Option.bind (addr_decimal_L0 N N a0 0 (ln a0) 0) (O2.el
 (fun o4 =>
 some (o4.1, o4.2))
 (fun o5 =>
 bif leI o5 255 then
 some (o5, true)
 else
 some (o5, false)))
def addr_four_L0 (N : Nat) : Nat → List (List UInt8) → Int → Int → Bool → Int → Int → Bool → Int → Int → Option (O2 (Bool × Bool × Int × Int) (Int))
 | 0, _, _, _, _, _, _, _, _, _ => none
 | n + 1, p0, p1, p2, p3, p4, p5, p6, p7, p8 =>
 bif ltI p2 p1 then
 Option.bind (atI p0 p2) fun e1 =>
 Option.bind (addr_decimal N e1) fun r2 =>
 bif r2.2 then
 Option.bind (shlI .u64 p8 8) fun n3 =>
 addr_four_L0 N n p0 p1 (addI .i64 p2 1) p3 p4 p5 p6 p7 (orI .u64 n3 r2.1)
 else
 some (.a (false, false, 0, 0))
 else
 some (.b p8)
def addr_four (N : Nat) (a0 : List UInt8) : Option (Bool × Int × Int × Bool) :=
 Option.bind (strings_Split N a0 ([46] : List UInt8)) (O2.el
 (fun r1 =>
 bif eqI (ln r1) 4 then
 Option.bind (addr_four_L0 N N r1 (ln r1) 0 false 0 0 false 0 0) (O2.el
 (fun o2 =>
 some (o2.2.1, o2.2.2.1, o2.2.2.2, o2.1))
 (fun o3 =>
 some (false, 0, o3, true)))
 else
 some (false, 0, 0, false))
 (fun r4 =>
 bif eqI (ln r4) 4 then
 Option.bind (addr_four_L0 N N r4 (ln r4) 0 false 0 0 false 0 0) (O2.el
 (fun o5 =>
 some (o5.2.1, o5.2.2.1, o5.2.2.2, o5.1))
 (fun o6 =>
 some (false, 0, o6, true)))
 else
 some (false, 0, 0, false)))
def addr_digit (N : Nat) (a0 : Int) : Option (Int) :=
 bif leI 48 a0 then
 bif leI a0 57 then
 some (convI .i64 (subI .u8 a0 48))
 else
 bif leI 97 a0 then
 bif leI a0 102 then
 some (addI .i64 (convI .i64 (subI .u8 a0 97)) 10)
 else
 bif leI 65 a0 then
 bif leI a0 70 then
 some (addI .i64 (convI .i64 (subI .u8 a0 65)) 10)
 else
 some (-1)
 else
 some (-1)
 else
 bif leI 65 a0 then
 bif leI a0 70 then
 some (addI .i64 (convI .i64 (subI .u8 a0 65)) 10)
 else
 some (-1)
 else
 some (-1)
 else
 bif leI 97 a0 then
 bif leI a0 102 then
 some (addI .i64 (convI .i64 (subI .u8 a0 97)) 10)
 else
 bif leI 65 a0 then
 bif leI a0 70 then
 some (addI .i64 (convI .i64 (subI .u8 a0 65)) 10)
 else
 some (-1)
 else
 some (-1)
 else
 bif leI 65 a0 then
 bif leI a0 70 then
 some (addI .i64 (convI .i64 (subI .u8 a0 65)) 10)
 else
 some (-1)
 else
 some (-1)
def addr_list_L0 (N : Nat) : Nat → List Int → List UInt8 → Int → List (List UInt8) → Int → Int → Int → Int → Option (O2 (List Int × Bool) (Int))
 | 0, _, _, _, _, _, _, _, _ => none
 | n + 1, p0, p1, p2, p3, p4, p5, p6, p7 =>
 bif ltI p7 p6 then
 Option.bind (atI p1 p7) fun c1 =>
 Option.bind (addr_digit N (bv c1)) fun r2 =>
 bif ltI r2 0 then
 some (.a ([], false))
 else
 addr_list_L0 N n p0 p1 (addI .i64 (mulI .i64 16 p2) r2) p3 p4 p5 p6 (addI .i64 p7 1)
 else
 some (.b p2)
def addr_list_L1 (N : Nat) : Nat → List Int → List (List UInt8) → Int → Int → Option (O2 (List Int × Bool) (List Int))
 | 0, _, _, _, _ => none
 | n + 1, p0, p1, p2, p3 =>
 bif ltI p3 p2 then
 Option.bind (atI p1 p3) fun e1 =>
 bif ltI (ln e1) 1 then
 some (.a ([], false))
 else
 bif ltI 4 (ln e1) then
 some (.a ([], false))
 else
 bif eqI (ln p0) 8 then
 some (.a ([], false))
 else
 Option.bind (addr_list_L0 N N p0 e1 0 p1 p2 p3 (ln e1) 0) (O2.el
 (fun o2 =>
 some (.a (o2.1, o2.2)))
 (fun o3 =>
 bif room1 p0 1 2 then
 addr_list_L1 N n (p0 ++ [convI .u16 o3]) p1 p2 (addI .i64 p3 1)
 else
 none))
 else
 some (.b p0)
def addr_list_L0b (N : Nat) : Nat → List Int → List UInt8 → Int → List (List UInt8) → Int → Int → Int → Int → Option (O2 (List Int × Bool) (Int))
 | 0, _, _, _, _, _, _, _, _ => none
 | n + 1, p0, p1, p2, p3, p4, p5, p6, p7 =>
 bif ltI p7 p6 then
 Option.bind (atI p1 p7) fun c1 =>
 Option.bind (addr_digit N (bv c1)) fun r2 =>
 bif ltI r2 0 then
 some (.a ([], false))
 else
 addr_list_L0b N n p0 p1 (addI .i64 (mulI .i64 16 p2) r2) p3 p4 p5 p6 (addI .i64 p7 1)
 else
 some (.b p2)
def addr_list_L1b (N : Nat) : Nat → List Int → List (List UInt8) → Int → Int → Option (O2 (List Int × Bool) (List Int))
 | 0, _, _, _, _ => none
 | n + 1, p0, p1, p2, p3 =>
 bif ltI p3 p2 then
 Option.bind (atI p1 p3) fun e1 =>
 bif ltI (ln e1) 1 then
 some (.a ([], false))
 else
 bif ltI 4 (ln e1) then
 some (.a ([], false))
 else
 bif eqI (ln p0) 8 then
 some (.a ([], false))
 else
 Option.bind (addr_list_L0b N N p0 e1 0 p1 p2 p3 (ln e1) 0) (O2.el
 (fun o2 =>
 some (.a (o2.1, o2.2)))
 (fun o3 =>
 bif room1 p0 1 2 then
 addr_list_L1b N n (p0 ++ [convI .u16 o3]) p1 p2 (addI .i64 p3 1)
 else
 none))
 else
 some (.b p0)
def addr_list (N : Nat) (a0 : List UInt8) : Option (List Int × Bool) :=
 bif eqS a0 ([] : List UInt8) then
 some ([], true)
 else
 Option.bind (strings_Split N a0 ([58] : List UInt8)) (O2.el
 (fun r1 =>
 Option.bind (addr_list_L1 N N [] r1 (ln r1) 0) (O2.el
 (fun o2 =>
 some (o2.1, o2.2))
 (fun o3 =>
 some (o3, true))))
 (fun r4 =>
 Option.bind (addr_list_L1b N N [] r4 (ln r4) 0) (O2.el
 (fun o5 =>
 some (o5.1, o5.2))
 (fun o6 =>
 some (o6, true)))))
def addr_groups_addr_L0 (N : Nat) : Nat → Int → List Int → Bool → Int → Int → Bool → Int → Int → Option (Int × Int)
 | 0, _, _, _, _, _, _, _, _ => none
 | n + 1, p0, p1, p2, p3, p4, p5, p6, p7 =>
 bif ltI p0 4 then
 Option.bind (shlI .u64 p6 16) fun n1 =>
 bif inN p0 8 then
 Option.bind (atO p1 0 p0) fun e2 =>
 Option.bind (shlI .u64 p7 16) fun n3 =>
 bif inN (addI .i64 4 p0) 8 then
 Option.bind (atO p1 0 (addI .i64 4 p0)) fun e4 =>
 addr_groups_addr_L0 N n (addI .i64 p0 1) p1 p2 p3 p4 p5 (orI .u64 n1 (convI .u64 e2)) (orI .u64 n3 (convI .u64 e4))
 else
 none
 else
 none
 else
 some (p6, p7)
def addr_groups_addr (N : Nat) (a0_0 a0_1 a0_2 a0_3 a0_4 a0_5 a0_6 a0_7 : Int) : Option (Bool × Int × Int) :=
 Option.bind (addr_groups_addr_L0 N N 0 [a0_0, a0_1, a0_2, a0_3, a0_4, a0_5, a0_6, a0_7] false 0 0 true 0 0) fun o1 =>
 some (true, o1.1, o1.2)
def addr_six (N : Nat) (a0 : List UInt8) : Option (Bool × Int × Int × Bool) :=
 Option.bind (cut3I N a0 ([58, 58] : List UInt8)) fun r1 =>
 Option.bind (addr_list N r1.1) fun r2 =>
 Option.bind (addr_list N r1.2.1) fun r3 =>
 bif r2.2 then
 bif r3.2 then
 bif r1.2.2 then
 bif ltI 7 (addI .i64 (ln r2.1) (ln r3.1)) then
 some (false, 0, 0, false)
 else
 Option.bind (cpI [0, 0, 0, 0, 0, 0, 0, 0] 0 8 r2.1) fun l4 =>
 Option.bind (arrI (subI .i64 8 (ln r3.1)) (nI 8) 8) fun m5 =>
 bif isZ m5.2 then
 Option.bind (ex8 l4) fun q6 =>
 Option.bind (addr_groups_addr N q6.1 q6.2.1 q6.2.2.1 q6.2.2.2.1 q6.2.2.2.2.1 q6.2.2.2.2.2.1 q6.2.2.2.2.2.2.1 q6.2.2.2.2.2.2.2) fun r7 =>
 some (r7.1, r7.2.1, r7.2.2, true)
 else
 Option.bind (cpI l4 m5.1 m5.2 r3.1) fun l8 =>
 Option.bind (ex8 l8) fun q9 =>
 Option.bind (addr_groups_addr N q9.1 q9.2.1 q9.2.2.1 q9.2.2.2.1 q9.2.2.2.2.1 q9.2.2.2.2.2.1 q9.2.2.2.2.2.2.1 q9.2.2.2.2.2.2.2) fun r10 =>
 some (r10.1, r10.2.1, r10.2.2, true)
 else
 bif eqI (ln r2.1) 8 then
 Option.bind (cpI [0, 0, 0, 0, 0, 0, 0, 0] 0 8 r2.1) fun l11 =>
 Option.bind (arrI (subI .i64 8 (ln r3.1)) (nI 8) 8) fun m12 =>
 bif isZ m12.2 then
 Option.bind (ex8 l11) fun q13 =>
 Option.bind (addr_groups_addr N q13.1 q13.2.1 q13.2.2.1 q13.2.2.2.1 q13.2.2.2.2.1 q13.2.2.2.2.2.1 q13.2.2.2.2.2.2.1 q13.2.2.2.2.2.2.2) fun r14 =>
 some (r14.1, r14.2.1, r14.2.2, true)
 else
 Option.bind (cpI l11 m12.1 m12.2 r3.1) fun l15 =>
 Option.bind (ex8 l15) fun q16 =>
 Option.bind (addr_groups_addr N q16.1 q16.2.1 q16.2.2.1 q16.2.2.2.1 q16.2.2.2.2.1 q16.2.2.2.2.2.1 q16.2.2.2.2.2.2.1 q16.2.2.2.2.2.2.2) fun r17 =>
 some (r17.1, r17.2.1, r17.2.2, true)
 else
 some (false, 0, 0, false)
 else
 some (false, 0, 0, false)
 else
 some (false, 0, 0, false)
def addr_Parse (N : Nat) (a0 : List UInt8) : Option (Bool × Int × Int × Int) :=
 bif ltI 39 (ln a0) then
 some (false, 0, 0, 3)
 else
 Option.bind (addr_four N a0) fun r1 =>
 bif r1.2.2.2 then
 some (r1.1, r1.2.1, r1.2.2.1, 0)
 else
 Option.bind (addr_six N a0) fun r2 =>
 bif r2.2.2.2 then
 some (r2.1, r2.2.1, r2.2.2.1, 0)
 else
 some (false, 0, 0, 3)
def rtext_reader_address (N : Nat) (a0_0 : List (List UInt8)) (a0_1 : List UInt8) (a0_2 : Int) : Option (Bool × Int × Int × List (List UInt8) × Int) :=
 Option.bind (rtext_reader_word N a0_0 a0_1 a0_2) fun r1 =>
 bif r1.2.1 then
 Option.bind (addr_Parse N r1.1) fun r2 =>
 bif eqI r2.2.2.2 0 then
 some (r2.1, r2.2.1, r2.2.2.1, r1.2.2.1, r1.2.2.2)
 else
 Option.bind (rtext_reader_fail N r1.2.2.1 a0_1 r1.2.2.2 3) fun r3 =>
 some (r2.1, r2.2.1, r2.2.2.1, r1.2.2.1, r3)
 else
 some (false, 0, 0, r1.2.2.1, r1.2.2.2)
def dname_Parse (N : Nat) (a0 a1 : List UInt8) : Option (List UInt8 × Int) :=
 bif eqS a0 ([] : List UInt8) then
 some (([] : List UInt8), 2)
 else
 Option.bind (dname_Valid N a1) fun r1 =>
 bif r1 then
 Option.bind (lowerI N a0) fun r2 =>
 bif eqS r2 ([64] : List UInt8) then
 some (a1, 0)
 else
 Option.bind (strings_HasSuffix N r2 ([46] : List UInt8)) fun r3 =>
 bif r3 then
 Option.bind (dname_Valid N r2) fun r4 =>
 bif r4 then
 some (r2, 0)
 else
 some (([] : List UInt8), 2)
 else
 bif eqS a1 ([46] : List UInt8) then
 Option.bind (catI r2 ([46] : List UInt8)) fun s5 =>
 Option.bind (dname_Valid N s5) fun r6 =>
 bif r6 then
 some (s5, 0)
 else
 some (([] : List UInt8), 2)
 else
 Option.bind (catI ([46] : List UInt8) a1) fun s7 =>
 Option.bind (catI r2 s7) fun s8 =>
 Option.bind (dname_Valid N s8) fun r9 =>
 bif r9 then
 some (s8, 0)
 else
 some (([] : List UInt8), 2)
 else
 some (([] : List UInt8), 2)
def rtext_reader_name (N : Nat) (a0_0 : List (List UInt8)) (a0_1 : List UInt8) (a0_2 : Int) : Option (List UInt8 × List (List UInt8) × Int) :=
 Option.bind (rtext_reader_word N a0_0 a0_1 a0_2) fun r1 =>
 bif r1.2.1 then
 Option.bind (dname_Parse N r1.1 a0_1) fun r2 =>
 bif eqI r2.2 0 then
 some (r2.1, r1.2.2.1, r1.2.2.2)
 else
 Option.bind (rtext_reader_fail N r1.2.2.1 a0_1 r1.2.2.2 2) fun r3 =>
 some (r2.1, r1.2.2.1, r3)
 else
 some (([] : List UInt8), r1.2.2.1, r1.2.2.2)
def rtext_reader_number (N : Nat) (a0_0 : List (List UInt8)) (a0_1 : List UInt8) (a0_2 a1 : Int) : Option (Int × List (List UInt8) × Int) :=
 Option.bind (rtext_reader_word N a0_0 a0_1 a0_2) fun r1 =>
 bif r1.2.1 then
 Option.bind (numI N r1.1 a1) fun r2 =>
 bif r2.2 then
 some (r2.1, r1.2.2.1, r1.2.2.2)
 else
 Option.bind (rtext_reader_fail N r1.2.2.1 a0_1 r1.2.2.2 7) fun r3 =>
 some (r2.1, r1.2.2.1, r3)
 else
 some (0, r1.2.2.1, r1.2.2.2)
def strings_IndexByte (N : Nat) (a0 : List UInt8) (a1 : Int) : Option (Int) :=
 Option.bind (i_stringslite_IndexByte N a0 a1) fun r1 =>
 some r1
def rtext_reader_duration (N : Nat) (a0_0 : List (List UInt8)) (a0_1 : List UInt8) (a0_2 : Int) : Option (Int × List (List UInt8) × Int) :=
 Option.bind (rtext_reader_word N a0_0 a0_1 a0_2) fun r1 =>
 bif r1.2.1 then
 Option.bind (durI N r1.1) fun r2 =>
 bif r2.2 then
 some (r2.1, r1.2.2.1, r1.2.2.2)
 else
 Option.bind (rtext_reader_fail N r1.2.2.1 a0_1 r1.2.2.2 7) fun r3 =>
 some (r2.1, r1.2.2.1, r3)
 else
 some (0, r1.2.2.1, r1.2.2.2)
def rtext_digit (N : Nat) (a0 : Int) : Option (Int × Bool) :=
 bif leI 48 a0 then
 bif leI a0 57 then
 some (subI .u8 a0 48, true)
 else
 bif leI 97 a0 then
 bif leI a0 102 then
 some (addI .u8 (subI .u8 a0 97) 10, true)
 else
 bif leI 65 a0 then
 bif leI a0 70 then
 some (addI .u8 (subI .u8 a0 65) 10, true)
 else
 some (0, false)
 else
 some (0, false)
 else
 bif leI 65 a0 then
 bif leI a0 70 then
 some (addI .u8 (subI .u8 a0 65) 10, true)
 else
 some (0, false)
 else
 some (0, false)
 else
 bif leI 97 a0 then
 bif leI a0 102 then
 some (addI .u8 (subI .u8 a0 97) 10, true)
 else
 bif leI 65 a0 then
 bif leI a0 70 then
 some (addI .u8 (subI .u8 a0 65) 10, true)
 else
 some (0, false)
 else
 some (0, false)
 else
 bif leI 65 a0 then
 bif leI a0 70 then
 some (addI .u8 (subI .u8 a0 65) 10, true)
 else
 some (0, false)
 else
 some (0, false)
def rtext_reader_bytes_L0 (N : Nat) : Nat → List UInt8 → List UInt8 → Int → List (List UInt8) → List UInt8 → Int → Option (O2 (List UInt8 × Int) (List UInt8))
 | 0, _, _, _, _, _, _ => none
 | n + 1, p0, p1, p2, p3, p4, p5 =>
 bif ltI p2 (ln p0) then
 Option.bind (atI p0 p2) fun c1 =>
 Option.bind (rtext_digit N (bv c1)) fun r2 =>
 Option.bind (atI p0 (addI .i64 p2 1)) fun c3 =>
 Option.bind (rtext_digit N (bv c3)) fun r4 =>
 bif r2.2 then
 bif r4.2 then
 Option.bind (shlI .u8 r2.1 4) fun n5 =>
 bif room1 p1 1 1 then
 rtext_reader_bytes_L0 N n p0 (p1 ++ [u8 (orI .u8 n5 r4.1)]) (addI .i64 p2 2) p3 p4 p5
 else
 none
 else
 Option.bind (rtext_reader_fail N p3 p4 p5 7) fun r6 =>
 some (.a (([] : List UInt8), r6))
 else
 Option.bind (rtext_reader_fail N p3 p4 p5 7) fun r7 =>
 some (.a (([] : List UInt8), r7))
 else
 some (.b p1)
def rtext_reader_bytes (N : Nat) (a0_0 : List (List UInt8)) (a0_1 : List UInt8) (a0_2 : Int) : Option (List UInt8 × List (List UInt8) × Int) :=
 Option.bind (rtext_reader_word N a0_0 a0_1 a0_2) fun r1 =>
 bif r1.2.1 then
 Option.bind (remI .i64 (ln r1.1) 2) fun n2 =>
 bif eqI n2 0 then
 Option.bind (rtext_reader_bytes_L0 N N r1.1 [] 0 r1.2.2.1 a0_1 r1.2.2.2) (O2.el
 (fun o3 =>
 some (o3.1, r1.2.2.1, o3.2))
 (fun o4 =>
 some (o4, r1.2.2.1, r1.2.2.2)))
 else
 Option.bind (rtext_reader_fail N r1.2.2.1 a0_1 r1.2.2.2 7) fun r5 =>
 some (([] : List UInt8), r1.2.2.1, r5)
 else
 some (([] : List UInt8), r1.2.2.1, r1.2.2.2)
def rdata_Type_L0 (N : Nat) : Nat → List UInt8 → List Rw3 → Int → Int → Option (O2 (Int × Bool) (Unit))
 | 0, _, _, _, _ => none
 | n + 1, p0, p1, p2, p3 =>
 bif ltI p3 p2 then
 Option.bind (atI p1 p3) fun e1 =>
 bif eqS e1.c1 p0 then
 some (.a (e1.c0, true))
 else
 rdata_Type_L0 N n p0 p1 p2 (addI .i64 p3 1)
 else
 some (.b ())
def rdata_Type (N : Nat) (a0 : List UInt8) : Option (Int × Bool) :=
 Option.bind (rdata_kinds N) fun r1 =>
 Option.bind (rdata_Type_L0 N N a0 r1 (ln r1) 0) (O2.el
 (fun o2 =>
 some (o2.1, o2.2))
 (fun o3 =>
 some (0, false)))
def rtext_reader_mnemonic (N : Nat) (a0_0 : List (List UInt8)) (a0_1 : List UInt8) (a0_2 : Int) : Option (Int × List (List UInt8) × Int) :=
 Option.bind (rtext_reader_word N a0_0 a0_1 a0_2) fun r1 =>
 bif r1.2.1 then
 Option.bind (rdata_Type N r1.1) fun r2 =>
 bif r2.2 then
 some (r2.1, r1.2.2.1, r1.2.2.2)
 else
 Option.bind (rtext_reader_fail N r1.2.2.1 a0_1 r1.2.2.2 7) fun r3 =>
 some (r2.1, r1.2.2.1, r3)
 else
 some (0, r1.2.2.1, r1.2.2.2)
def rdata_Set_L0 (N : Nat) : Nat → Int → List Int → Int → Int → Option (O2 (Int × Bool) (Int))
 | 0, _, _, _, _ => none
 | n + 1, p0, p1, p2, p3 =>
 bif ltI p3 p2 then
 Option.bind (atI p1 p3) fun e1 =>
 Option.bind (rdata_Known N e1) fun r2 =>
 bif r2 then
 Option.bind (shlI .u64 1 e1) fun n3 =>
 rdata_Set_L0 N n (orI .u64 p0 n3) p1 p2 (addI .i64 p3 1)
 else
 some (.a (0, false))
 else
 some (.b p0)
def rdata_Set (N : Nat) (a0 : List Int) : Option (Int × Bool) :=
 Option.bind (rdata_Set_L0 N N 0 a0 (ln a0) 0) (O2.el
 (fun o1 =>
 some (o1.1, o1.2))
 (fun o2 =>
 some (o2, true)))
def rtext_reader_types_L0 (N : Nat) : Nat → List Int → List (List UInt8) → List UInt8 → Int → Option (List Int × List (List UInt8) × Int)
 | 0, _, _, _, _ => none
 | n + 1, p0, p1, p2, p3 =>
 bif eqI p3 0 then
 bif ltI 0 (ln p1) then
 Option.bind (rtext_reader_mnemonic N p1 p2 p3) fun r1 =>
 bif room1 p0 1 8 then
 rtext_reader_types_L0 N n (p0 ++ [r1.1]) r1.2.1 p2 r1.2.2
 else
 none
 else
 some (p0, p1, p3)
 else
 some (p0, p1, p3)
def rtext_reader_types (N : Nat) (a0_0 : List (List UInt8)) (a0_1 : List UInt8) (a0_2 : Int) : Option (Int × List (List UInt8) × Int) :=
 Option.bind (rtext_reader_mnemonic N a0_0 a0_1 a0_2) fun r1 =>
 Option.bind (rtext_reader_types_L0 N N [r1.1] r1.2.1 a0_1 r1.2.2) fun o2 =>
 bif eqI o2.2.2 0 then
 Option.bind (rdata_Set N o2.1) fun r3 =>
 some (r3.1, o2.2.1, o2.2.2)
 else
 some (0, o2.2.1, o2.2.2)
def rtext_reader_data (N : Nat) (a0_0 : List (List UInt8)) (a0_1 : List UInt8) (a0_2 a1 : Int) : Option (Bool × Int × Int × List UInt8 × List UInt8 × List UInt8 × Int × Int × Int × Int × Int × Int × Int × List (List UInt8) × Int) :=
 bif eqI a1 1 then
 Option.bind (rtext_reader_address N a0_0 a0_1 a0_2) fun r1 =>
 some (r1.1, r1.2.1, r1.2.2.1, ([] : List UInt8), ([] : List UInt8), ([] : List UInt8), 0, 0, 0, 0, 0, 0, 0, r1.2.2.2.1, r1.2.2.2.2)
 else
 bif eqI a1 28 then
 Option.bind (rtext_reader_address N a0_0 a0_1 a0_2) fun r2 =>
 some (r2.1, r2.2.1, r2.2.2.1, ([] : List UInt8), ([] : List UInt8), ([] : List UInt8), 0, 0, 0, 0, 0, 0, 0, r2.2.2.2.1, r2.2.2.2.2)
 else
 bif eqI a1 6 then
 Option.bind (rtext_reader_name N a0_0 a0_1 a0_2) fun r3 =>
 Option.bind (rtext_reader_name N r3.2.1 a0_1 r3.2.2) fun r4 =>
 Option.bind (rtext_reader_number N r4.2.1 a0_1 r4.2.2 4294967295) fun r5 =>
 Option.bind (rtext_reader_duration N r5.2.1 a0_1 r5.2.2) fun r6 =>
 Option.bind (rtext_reader_duration N r6.2.1 a0_1 r6.2.2) fun r7 =>
 Option.bind (rtext_reader_duration N r7.2.1 a0_1 r7.2.2) fun r8 =>
 Option.bind (rtext_reader_duration N r8.2.1 a0_1 r8.2.2) fun r9 =>
 some (false, 0, 0, r3.1, r4.1, ([] : List UInt8), r5.1, r6.1, r7.1, r8.1, r9.1, 0, 0, r9.2.1, r9.2.2)
 else
 bif eqI a1 15 then
 Option.bind (rtext_reader_number N a0_0 a0_1 a0_2 65535) fun r10 =>
 Option.bind (rtext_reader_name N r10.2.1 a0_1 r10.2.2) fun r11 =>
 some (false, 0, 0, r11.1, ([] : List UInt8), ([] : List UInt8), r10.1, 0, 0, 0, 0, 0, 0, r11.2.1, r11.2.2)
 else
 bif eqI a1 16 then
 Option.bind (rtext_reader_word N a0_0 a0_1 a0_2) fun r12 =>
 some (false, 0, 0, ([] : List UInt8), ([] : List UInt8), r12.1, 0, 0, 0, 0, 0, 0, 0, r12.2.2.1, r12.2.2.2)
 else
 bif eqI a1 33 then
 Option.bind (rtext_reader_number N a0_0 a0_1 a0_2 65535) fun r13 =>
 Option.bind (rtext_reader_number N r13.2.1 a0_1 r13.2.2 65535) fun r14 =>
 Option.bind (rtext_reader_number N r14.2.1 a0_1 r14.2.2 65535) fun r15 =>
 Option.bind (rtext_reader_name N r15.2.1 a0_1 r15.2.2) fun r16 =>
 some (false, 0, 0, r16.1, ([] : List UInt8), ([] : List UInt8), r13.1, r14.1, r15.1, 0, 0, 0, 0, r16.2.1, r16.2.2)
 else
 bif eqI a1 43 then
 Option.bind (rtext_reader_number N a0_0 a0_1 a0_2 65535) fun r17 =>
 Option.bind (rtext_reader_number N r17.2.1 a0_1 r17.2.2 255) fun r18 =>
 Option.bind (rtext_reader_number N r18.2.1 a0_1 r18.2.2 255) fun r19 =>
 Option.bind (rtext_reader_bytes N r19.2.1 a0_1 r19.2.2) fun r20 =>
 some (false, 0, 0, ([] : List UInt8), ([] : List UInt8), r20.1, r17.1, r18.1, r19.1, 0, 0, 0, 0, r20.2.1, r20.2.2)
 else
 bif eqI a1 48 then
 Option.bind (rtext_reader_number N a0_0 a0_1 a0_2 65535) fun r21 =>
 Option.bind (rtext_reader_number N r21.2.1 a0_1 r21.2.2 255) fun r22 =>
 Option.bind (rtext_reader_number N r22.2.1 a0_1 r22.2.2 255) fun r23 =>
 Option.bind (rtext_reader_bytes N r23.2.1 a0_1 r23.2.2) fun r24 =>
 some (false, 0, 0, ([] : List UInt8), ([] : List UInt8), r24.1, r21.1, r22.1, r23.1, 0, 0, 0, 0, r24.2.1, r24.2.2)
 else
 bif eqI a1 46 then
 Option.bind (rtext_reader_mnemonic N a0_0 a0_1 a0_2) fun r25 =>
 Option.bind (rtext_reader_number N r25.2.1 a0_1 r25.2.2 255) fun r26 =>
 bif eqI r26.1 253 then
 Option.bind (rtext_reader_number N r26.2.1 a0_1 r26.2.2 255) fun r27 =>
 Option.bind (rtext_reader_number N r27.2.1 a0_1 r27.2.2 2147483647) fun r28 =>
 Option.bind (rtext_reader_number N r28.2.1 a0_1 r28.2.2 4294967295) fun r29 =>
 Option.bind (rtext_reader_number N r29.2.1 a0_1 r29.2.2 4294967295) fun r30 =>
 Option.bind (rtext_reader_number N r30.2.1 a0_1 r30.2.2 65535) fun r31 =>
 Option.bind (rtext_reader_name N r31.2.1 a0_1 r31.2.2) fun r32 =>
 Option.bind (rtext_reader_bytes N r32.2.1 a0_1 r32.2.2) fun r33 =>
 some (false, 0, 0, r32.1, ([] : List UInt8), r33.1, r25.1, r27.1, r28.1, r29.1, r30.1, r31.1, 0, r33.2.1, r33.2.2)
 else
 Option.bind (rtext_reader_fail N r26.2.1 a0_1 r26.2.2 7) fun r34 =>
 Option.bind (rtext_reader_number N r26.2.1 a0_1 r34 255) fun r35 =>
 Option.bind (rtext_reader_number N r35.2.1 a0_1 r35.2.2 2147483647) fun r36 =>
 Option.bind (rtext_reader_number N r36.2.1 a0_1 r36.2.2 4294967295) fun r37 =>
 Option.bind (rtext_reader_number N r37.2.1 a0_1 r37.2.2 4294967295) fun r38 =>
 Option.bind (rtext_reader_number N r38.2.1 a0_1 r38.2.2 65535) fun r39 =>
 Option.bind (rtext_reader_name N r39.2.1 a0_1 r39.2.2) fun r40 =>
 Option.bind (rtext_reader_bytes N r40.2.1 a0_1 r40.2.2) fun r41 =>
 some (false, 0, 0, r40.1, ([] : List UInt8), r41.1, r25.1, r35.1, r36.1, r37.1, r38.1, r39.1, 0, r41.2.1, r41.2.2)
 else
 bif eqI a1 47 then
 Option.bind (rtext_reader_name N a0_0 a0_1 a0_2) fun r42 =>
 Option.bind (rtext_reader_types N r42.2.1 a0_1 r42.2.2) fun r43 =>
 some (false, 0, 0, r42.1, ([] : List UInt8), ([] : List UInt8), 0, 0, 0, 0, 0, 0, r43.1, r43.2.1, r43.2.2)
 else
 Option.bind (rtext_reader_name N a0_0 a0_1 a0_2) fun r44 =>
 some (false, 0, 0, r44.1, ([] : List UInt8), ([] : List UInt8), 0, 0, 0, 0, 0, 0, 0, r44.2.1, r44.2.2)
def rtext_Parse (N : Nat) (a0 : Int) (a1 : List (List UInt8)) (a2 : List UInt8) : Option (Bool × Int × Int × List UInt8 × List UInt8 × List UInt8 × Int × Int × Int × Int × Int × Int × Int × Int) :=
 Option.bind (rdata_Known N a0) fun r1 =>
 bif r1 then
 Option.bind (rtext_reader_data N a1 a2 0 a0) fun r2 =>
 bif eqI r2.2.2.2.2.2.2.2.2.2.2.2.2.2.2 0 then
 bif ltI 0 (ln r2.2.2.2.2.2.2.2.2.2.2.2.2.2.1) then
 some (false, 0, 0, ([] : List UInt8), ([] : List UInt8), ([] : List UInt8), 0, 0, 0, 0, 0, 0, 0, 8)
 else
 bif r2.1 then
 Option.bind (rdata_Valid N a0 true r2.2.1 r2.2.2.1 r2.2.2.2.1 r2.2.2.2.2.1 r2.2.2.2.2.2.1 r2.2.2.2.2.2.2.1 r2.2.2.2.2.2.2.2.1 r2.2.2.2.2.2.2.2.2.1 r2.2.2.2.2.2.2.2.2.2.1 r2.2.2.2.2.2.2.2.2.2.2.1 r2.2.2.2.2.2.2.2.2.2.2.2.1 r2.2.2.2.2.2.2.2.2.2.2.2.2.1) fun r3 =>
 bif r3 then
 some (true, r2.2.1, r2.2.2.1, r2.2.2.2.1, r2.2.2.2.2.1, r2.2.2.2.2.2.1, r2.2.2.2.2.2.2.1, r2.2.2.2.2.2.2.2.1, r2.2.2.2.2.2.2.2.2.1, r2.2.2.2.2.2.2.2.2.2.1, r2.2.2.2.2.2.2.2.2.2.2.1, r2.2.2.2.2.2.2.2.2.2.2.2.1, r2.2.2.2.2.2.2.2.2.2.2.2.2.1, 0)
 else
 some (false, 0, 0, ([] : List UInt8), ([] : List UInt8), ([] : List UInt8), 0, 0, 0, 0, 0, 0, 0, 5)
 else
 Option.bind (rdata_Valid N a0 false r2.2.1 r2.2.2.1 r2.2.2.2.1 r2.2.2.2.2.1 r2.2.2.2.2.2.1 r2.2.2.2.2.2.2.1 r2.2.2.2.2.2.2.2.1 r2.2.2.2.2.2.2.2.2.1 r2.2.2.2.2.2.2.2.2.2.1 r2.2.2.2.2.2.2.2.2.2.2.1 r2.2.2.2.2.2.2.2.2.2.2.2.1 r2.2.2.2.2.2.2.2.2.2.2.2.2.1) fun r4 =>
 bif r4 then
 some (false, r2.2.1, r2.2.2.1, r2.2.2.2.1, r2.2.2.2.2.1, r2.2.2.2.2.2.1, r2.2.2.2.2.2.2.1, r2.2.2.2.2.2.2.2.1, r2.2.2.2.2.2.2.2.2.1, r2.2.2.2.2.2.2.2.2.2.1, r2.2.2.2.2.2.2.2.2.2.2.1, r2.2.2.2.2.2.2.2.2.2.2.2.1, r2.2.2.2.2.2.2.2.2.2.2.2.2.1, 0)
 else
 some (false, 0, 0, ([] : List UInt8), ([] : List UInt8), ([] : List UInt8), 0, 0, 0, 0, 0, 0, 0, 5)
 else
 some (false, 0, 0, ([] : List UInt8), ([] : List UInt8), ([] : List UInt8), 0, 0, 0, 0, 0, 0, 0, r2.2.2.2.2.2.2.2.2.2.2.2.2.2.2)
 else
 some (false, 0, 0, ([] : List UInt8), ([] : List UInt8), ([] : List UInt8), 0, 0, 0, 0, 0, 0, 0, 4)
def r05_Type_L0 (N : Nat) : Nat → List UInt8 → Int → Option (O2 (Int × Bool) (Unit))
 | 0, _, _ => none
 | n + 1, p0, p1 =>
 bif leI p1 48 then
 bif eqS p0 ([] : List UInt8) then
 r05_Type_L0 N n p0 (addI .i64 p1 1)
 else
 Option.bind (r05_Mnemonic N p1) fun r1 =>
 bif eqS r1 p0 then
 some (.a (p1, true))
 else
 r05_Type_L0 N n p0 (addI .i64 p1 1)
 else
 some (.b ())
def r05_Type (N : Nat) (a0 : List UInt8) : Option (Int × Bool) :=
 Option.bind (r05_Type_L0 N N a0 1) (O2.el
 (fun o1 =>
 some (o1.1, o1.2))
 (fun o2 =>
 some (0, false)))
def r05_Set_L0 (N : Nat) : Nat → List Int → Int → Int → Option (O2 (Int × Bool) (Int))
 | 0, _, _, _ => none
 | n + 1, p0, p1, p2 =>
 bif ltI p2 (ln p0) then
 Option.bind (atI p0 p2) fun e1 =>
 Option.bind (r05_Known N e1) fun r2 =>
 bif r2 then
 Option.bind (shlI .u64 1 (convI .u64 e1)) fun n3 =>
 r05_Set_L0 N n p0 (orI .u64 p1 n3) (addI .i64 p2 1)
 else
 some (.a (0, false))
 else
 some (.b p1)
def r05_Set (N : Nat) (a0 : List Int) : Option (Int × Bool) :=
 Option.bind (r05_Set_L0 N N a0 0 0) (O2.el
 (fun o1 =>
 some (o1.1, o1.2))
 (fun o2 =>
 some (o2, true)))
def r06_set_L0 (N : Nat) : Nat → List (List UInt8) → List Int → Int → Option (O2 (Int × Int) (List Int))
 | 0, _, _, _ => none
 | n + 1, p0, p1, p2 =>
 bif ltI p2 (ln p0) then
 Option.bind (atI p0 p2) fun e1 =>
 Option.bind (r05_Type N e1) fun r2 =>
 bif r2.2 then
 bif room1 p1 1 8 then
 r06_set_L0 N n p0 (p1 ++ [r2.1]) (addI .i64 p2 1)
 else
 none
 else
 some (.a (0, 7))
 else
 some (.b p1)
def r06_set (N : Nat) (a0 : List (List UInt8)) : Option (Int × Int) :=
 bif eqI (ln a0) 0 then
 some (0, 6)
 else
 Option.bind (r06_set_L0 N N a0 [] 0) (O2.el
 (fun o1 =>
 some (o1.1, o1.2))
 (fun o2 =>
 Option.bind (r05_Set N o2) fun r3 =>
 some (r3.1, 0)))
def r01_lower_L0 (N : Nat) : Nat → List UInt8 → List UInt8 → Int → Option (List UInt8)
 | 0, _, _, _ => none
 | n + 1, p0, p1, p2 =>
 bif ltI p2 (ln p0) then
 Option.bind (atI p0 p2) fun c1 =>
 bif leI 65 (bv c1) then
 bif leI (bv c1) 90 then
 bif room1 p1 1 1 then
 r01_lower_L0 N n p0 (p1 ++ [u8 (addI .u8 (bv c1) 32)]) (addI .i64 p2 1)
 else
 none
 else
 bif room1 p1 1 1 then
 r01_lower_L0 N n p0 (p1 ++ [c1]) (addI .i64 p2 1)
 else
 none
 else
 bif room1 p1 1 1 then
 r01_lower_L0 N n p0 (p1 ++ [c1]) (addI .i64 p2 1)
 else
 none
 else
 some p1
def r01_lower (N : Nat) (a0 : List UInt8) : Option (List UInt8) :=
 Option.bind (r01_lower_L0 N N a0 [] 0) fun o1 =>
 some o1
def r01_Parse (N : Nat) (a0 a1 : List UInt8) : Option (List UInt8 × Int) :=
 Option.bind (r01_Valid N a1) fun r1 =>
 bif r1 then
 bif eqS a0 ([] : List UInt8) then
 some (([] : List UInt8), 2)
 else
 bif ltI 255 (ln a0) then
 some (([] : List UInt8), 2)
 else
 Option.bind (r01_lower N a0) fun r2 =>
 bif eqS a0 ([64] : List UInt8) then
 some (a1, 0)
 else
 Option.bind (atI a0 (subI .i64 (ln a0) 1)) fun c3 =>
 bif eqI (bv c3) 46 then
 Option.bind (r01_Valid N r2) fun r4 =>
 bif r4 then
 some (r2, 0)
 else
 some (([] : List UInt8), 2)
 else
 Option.bind (catI r2 ([46] : List UInt8)) fun s5 =>
 bif eqS a1 ([46] : List UInt8) then
 Option.bind (r01_Valid N s5) fun r6 =>
 bif r6 then
 some (s5, 0)
 else
 some (([] : List UInt8), 2)
 else
 Option.bind (catI s5 a1) fun s7 =>
 Option.bind (r01_Valid N s7) fun r8 =>
 bif r8 then
 some (s7, 0)
 else
 some (([] : List UInt8), 2)
 else
 some (([] : List UInt8), 2)
def r02_digit (N : Nat) (a0 : Int) : Option (Int) :=
 bif leI 48 a0 then
 bif leI a0 57 then
 some (convI .u64 (subI .u8 a0 48))
 else
 bif leI 97 a0 then
 bif leI a0 102 then
 some (addI .u64 (convI .u64 (subI .u8 a0 97)) 10)
 else
 bif leI 65 a0 then
 bif leI a0 70 then
 some (addI .u64 (convI .u64 (subI .u8 a0 65)) 10)
 else
 some 16
 else
 some 16
 else
 bif leI 65 a0 then
 bif leI a0 70 then
 some (addI .u64 (convI .u64 (subI .u8 a0 65)) 10)
 else
 some 16
 else
 some 16
 else
 bif leI 97 a0 then
 bif leI a0 102 then
 some (addI .u64 (convI .u64 (subI .u8 a0 97)) 10)
 else
 bif leI 65 a0 then
 bif leI a0 70 then
 some (addI .u64 (convI .u64 (subI .u8 a0 65)) 10)
 else
 some 16
 else
 some 16
 else
 bif leI 65 a0 then
 bif leI a0 70 then
 some (addI .u64 (convI .u64 (subI .u8 a0 65)) 10)
 else
 some 16
 else
 some 16
def r02_group_L0 (N : Nat) : Nat → List UInt8 → Int → Int → Option (O2 (Int × Bool) (Int))
 | 0, _, _, _ => none
 | n + 1, p0, p1, p2 =>
 bif ltI p2 (ln p0) then
 Option.bind (atI p0 p2) fun c1 =>
 Option.bind (r02_digit N (bv c1)) fun r2 =>
 bif eqI r2 16 then
 some (.a (0, false))
 else
 r02_group_L0 N n p0 (addI .u64 (mulI .u64 p1 16) r2) (addI .i64 p2 1)
 else
 some (.b p1)
def r02_group (N : Nat) (a0 : List UInt8) : Option (Int × Bool) :=
 bif ltI (ln a0) 1 then
 some (0, false)
 else
 bif ltI 4 (ln a0) then
 some (0, false)
 else
 Option.bind (r02_group_L0 N N a0 0 0) (O2.el
 (fun o1 =>
 some (o1.1, o1.2))
 (fun o2 =>
 some (o2, true)))
def r02_six_L1 (N : Nat) : Nat → List UInt8 → List Int → Int → Int → Int → Bool → Int → Int → Option (Int)
 | 0, _, _, _, _, _, _, _, _ => none
 | n + 1, p0, p1, p2, p3, p4, p5, p6, p7 =>
 bif ltI p4 (ln p0) then
 Option.bind (atI p0 p4) fun c1 =>
 bif eqI (bv c1) 58 then
 some p4
 else
 r02_six_L1 N n p0 p1 p2 p3 (addI .i64 p4 1) p5 p6 p7
 else
 some p4
def r02_six_L2 (N : Nat) : Nat → List UInt8 → List Int → Int → Int → Bool → Bool → Int → Int → Option (O2 (Int × Bool × Int × Int) (List Int × Int))
 | 0, _, _, _, _, _, _, _, _ => none
 | n + 1, p0, p1, p2, p3, p4, p5, p6, p7 =>
 bif p4 then
 Option.bind (r02_six_L1 N N p0 p1 p2 p3 p3 p5 p6 p7) fun o1 =>
 Option.bind (cutI p0 p3 o1) fun s2 =>
 Option.bind (r02_group N s2) fun r3 =>
 bif r3.2 then
 bif eqI (ln p1) 8 then
 some (.a (3, false, 0, 0))
 else
 bif room1 p1 1 8 then
 bif ltI o1 (ln p0) then
 bif eqI (addI .i64 o1 1) (ln p0) then
 some (.a (3, false, 0, 0))
 else
 Option.bind (atI p0 (addI .i64 o1 1)) fun c4 =>
 bif eqI (bv c4) 58 then
 bif leI 0 p2 then
 some (.a (3, false, 0, 0))
 else
 bif ltI (addI .i64 (addI .i64 o1 1) 1) (ln p0) then
 r02_six_L2 N n p0 (p1 ++ [r3.1]) (ln p1 + 1) (addI .i64 (addI .i64 o1 1) 1) true p5 p6 p7
 else
 r02_six_L2 N n p0 (p1 ++ [r3.1]) (ln p1 + 1) (addI .i64 (addI .i64 o1 1) 1) false p5 p6 p7
 else
 r02_six_L2 N n p0 (p1 ++ [r3.1]) p2 (addI .i64 o1 1) true p5 p6 p7
 else
 r02_six_L2 N n p0 (p1 ++ [r3.1]) p2 (addI .i64 o1 1) false p5 p6 p7
 else
 none
 else
 some (.a (3, false, 0, 0))
 else
 some (.b (p1, p2))
def r02_six_L0 (N : Nat) : Nat → List Int → Int → Int → Bool → Int → Int → Bool → Int → Int → Option (Int × Int)
 | 0, _, _, _, _, _, _, _, _, _ => none
 | n + 1, p0, p1, p2, p3, p4, p5, p6, p7, p8 =>
 bif ltI p2 8 then
 bif ltI p1 0 then
 Option.bind (atI p0 p2) fun e1 =>
 bif ltI p2 4 then
 r02_six_L0 N n p0 p1 (addI .i64 p2 1) p3 p4 p5 p6 (addI .u64 (mulI .u64 p7 65536) e1) p8
 else
 r02_six_L0 N n p0 p1 (addI .i64 p2 1) p3 p4 p5 p6 p7 (addI .u64 (mulI .u64 p8 65536) e1)
 else
 bif ltI p2 p1 then
 Option.bind (atI p0 p2) fun e2 =>
 bif ltI p2 4 then
 r02_six_L0 N n p0 p1 (addI .i64 p2 1) p3 p4 p5 p6 (addI .u64 (mulI .u64 p7 65536) e2) p8
 else
 r02_six_L0 N n p0 p1 (addI .i64 p2 1) p3 p4 p5 p6 p7 (addI .u64 (mulI .u64 p8 65536) e2)
 else
 bif leI (subI .i64 8 (subI .i64 (ln p0) p1)) p2 then
 Option.bind (atI p0 (subI .i64 p2 (subI .i64 8 (ln p0)))) fun e3 =>
 bif ltI p2 4 then
 r02_six_L0 N n p0 p1 (addI .i64 p2 1) p3 p4 p5 p6 (addI .u64 (mulI .u64 p7 65536) e3) p8
 else
 r02_six_L0 N n p0 p1 (addI .i64 p2 1) p3 p4 p5 p6 p7 (addI .u64 (mulI .u64 p8 65536) e3)
 else
 bif ltI p2 4 then
 r02_six_L0 N n p0 p1 (addI .i64 p2 1) p3 p4 p5 p6 (addI .u64 (mulI .u64 p7 65536) 0) p8
 else
 r02_six_L0 N n p0 p1 (addI .i64 p2 1) p3 p4 p5 p6 p7 (addI .u64 (mulI .u64 p8 65536) 0)
 else
 some (p7, p8)
def r02_six (N : Nat) (a0 : List UInt8) : Option (Bool × Int × Int × Int) :=
 bif leI 2 (ln a0) then
 Option.bind (atI a0 0) fun c1 =>
 bif eqI (bv c1) 58 then
 Option.bind (atI a0 1) fun c2 =>
 bif eqI (bv c2) 58 then
 bif ltI 2 (ln a0) then
 Option.bind (r02_six_L2 N N a0 [] 0 2 true false 0 0) (O2.el
 (fun o3 =>
 some (o3.2.1, o3.2.2.1, o3.2.2.2, o3.1))
 (fun o4 =>
 bif ltI o4.2 0 then
 bif eqI (ln o4.1) 8 then
 bif leI 0 o4.2 then
 bif ltI 7 (ln o4.1) then
 some (false, 0, 0, 3)
 else
 Option.bind (r02_six_L0 N N o4.1 o4.2 0 false 0 0 true 0 0) fun o5 =>
 some (true, o5.1, o5.2, 0)
 else
 Option.bind (r02_six_L0 N N o4.1 o4.2 0 false 0 0 true 0 0) fun o6 =>
 some (true, o6.1, o6.2, 0)
 else
 some (false, 0, 0, 3)
 else
 bif leI 0 o4.2 then
 bif ltI 7 (ln o4.1) then
 some (false, 0, 0, 3)
 else
 Option.bind (r02_six_L0 N N o4.1 o4.2 0 false 0 0 true 0 0) fun o7 =>
 some (true, o7.1, o7.2, 0)
 else
 Option.bind (r02_six_L0 N N o4.1 o4.2 0 false 0 0 true 0 0) fun o8 =>
 some (true, o8.1, o8.2, 0)))
 else
 bif ltI 0 0 then
 Option.bind (r02_six_L2 N N a0 [] 0 2 true false 0 0) (O2.el
 (fun o9 =>
 some (o9.2.1, o9.2.2.1, o9.2.2.2, o9.1))
 (fun o10 =>
 bif ltI o10.2 0 then
 bif eqI (ln o10.1) 8 then
 bif leI 0 o10.2 then
 bif ltI 7 (ln o10.1) then
 some (false, 0, 0, 3)
 else
 Option.bind (r02_six_L0 N N o10.1 o10.2 0 false 0 0 true 0 0) fun o11 =>
 some (true, o11.1, o11.2, 0)
 else
 Option.bind (r02_six_L0 N N o10.1 o10.2 0 false 0 0 true 0 0) fun o12 =>
 some (true, o12.1, o12.2, 0)
 else
 some (false, 0, 0, 3)
 else
 bif leI 0 o10.2 then
 bif ltI 7 (ln o10.1) then
 some (false, 0, 0, 3)
 else
 Option.bind (r02_six_L0 N N o10.1 o10.2 0 false 0 0 true 0 0) fun o13 =>
 some (true, o13.1, o13.2, 0)
 else
 Option.bind (r02_six_L0 N N o10.1 o10.2 0 false 0 0 true 0 0) fun o14 =>
 some (true, o14.1, o14.2, 0)))
 else
 Option.bind (r02_six_L2 N N a0 [] 0 2 false false 0 0) (O2.el
 (fun o15 =>
 some (o15.2.1, o15.2.2.1, o15.2.2.2, o15.1))
 (fun o16 =>
 bif ltI o16.2 0 then
 bif eqI (ln o16.1) 8 then
 bif leI 0 o16.2 then
 bif ltI 7 (ln o16.1) then
 some (false, 0, 0, 3)
 else
 Option.bind (r02_six_L0 N N o16.1 o16.2 0 false 0 0 true 0 0) fun o17 =>
 some (true, o17.1, o17.2, 0)
 else
 Option.bind (r02_six_L0 N N o16.1 o16.2 0 false 0 0 true 0 0) fun o18 =>
 some (true, o18.1, o18.2, 0)
 else
 some (false, 0, 0, 3)
 else
 bif leI 0 o16.2 then
 bif ltI 7 (ln o16.1) then
 some (false, 0, 0, 3)
 else
 Option.bind (r02_six_L0 N N o16.1 o16.2 0 false 0 0 true 0 0) fun o19 =>
 some (true, o19.1, o19.2, 0)
 else
 Option.bind (r02_six_L0 N N o16.1 o16.2 0 false 0 0 true 0 0) fun o20 =>
 some (true, o20.1, o20.2, 0)))
 else
 bif ltI 0 (ln a0) then
 Option.bind (r02_six_L2 N N a0 [] (-1) 0 true false 0 0) (O2.el
 (fun o21 =>
 some (o21.2.1, o21.2.2.1, o21.2.2.2, o21.1))
 (fun o22 =>
 bif ltI o22.2 0 then
 bif eqI (ln o22.1) 8 then
 bif leI 0 o22.2 then
 bif ltI 7 (ln o22.1) then
 some (false, 0, 0, 3)
 else
 Option.bind (r02_six_L0 N N o22.1 o22.2 0 false 0 0 true 0 0) fun o23 =>
 some (true, o23.1, o23.2, 0)
 else
 Option.bind (r02_six_L0 N N o22.1 o22.2 0 false 0 0 true 0 0) fun o24 =>
 some (true, o24.1, o24.2, 0)
 else
 some (false, 0, 0, 3)
 else
 bif leI 0 o22.2 then
 bif ltI 7 (ln o22.1) then
 some (false, 0, 0, 3)
 else
 Option.bind (r02_six_L0 N N o22.1 o22.2 0 false 0 0 true 0 0) fun o25 =>
 some (true, o25.1, o25.2, 0)
 else
 Option.bind (r02_six_L0 N N o22.1 o22.2 0 false 0 0 true 0 0) fun o26 =>
 some (true, o26.1, o26.2, 0)))
 else
 bif ltI (-1) 0 then
 Option.bind (r02_six_L2 N N a0 [] (-1) 0 true false 0 0) (O2.el
 (fun o27 =>
 some (o27.2.1, o27.2.2.1, o27.2.2.2, o27.1))
 (fun o28 =>
 bif ltI o28.2 0 then
 bif eqI (ln o28.1) 8 then
 bif leI 0 o28.2 then
 bif ltI 7 (ln o28.1) then
 some (false, 0, 0, 3)
 else
 Option.bind (r02_six_L0 N N o28.1 o28.2 0 false 0 0 true 0 0) fun o29 =>
 some (true, o29.1, o29.2, 0)
 else
 Option.bind (r02_six_L0 N N o28.1 o28.2 0 false 0 0 true 0 0) fun o30 =>
 some (true, o30.1, o30.2, 0)
 else
 some (false, 0, 0, 3)
 else
 bif leI 0 o28.2 then
 bif ltI 7 (ln o28.1) then
 some (false, 0, 0, 3)
 else
 Option.bind (r02_six_L0 N N o28.1 o28.2 0 false 0 0 true 0 0) fun o31 =>
 some (true, o31.1, o31.2, 0)
 else
 Option.bind (r02_six_L0 N N o28.1 o28.2 0 false 0 0 true 0 0) fun o32 =>
 some (true, o32.1, o32.2, 0)))
 else
 Option.bind (r02_six_L2 N N a0 [] (-1) 0 false false 0 0) (O2.el
 (fun o33 =>
 some (o33.2.1, o33.2.2.1, o33.2.2.2, o33.1))
 (fun o34 =>
 bif ltI o34.2 0 then
 bif eqI (ln o34.1) 8 then
 bif leI 0 o34.2 then
 bif ltI 7 (ln o34.1) then
 some (false, 0, 0, 3)
 else
 Option.bind (r02_six_L0 N N o34.1 o34.2 0 false 0 0 true 0 0) fun o35 =>
 some (true, o35.1, o35.2, 0)
 else
 Option.bind (r02_six_L0 N N o34.1 o34.2 0 false 0 0 true 0 0) fun o36 =>
 some (true, o36.1, o36.2, 0)
 else
 some (false, 0, 0, 3)
 else
 bif leI 0 o34.2 then
 bif ltI 7 (ln o34.1) then
 some (false, 0, 0, 3)
 else
 Option.bind (r02_six_L0 N N o34.1 o34.2 0 false 0 0 true 0 0) fun o37 =>
 some (true, o37.1, o37.2, 0)
 else
 Option.bind (r02_six_L0 N N o34.1 o34.2 0 false 0 0 true 0 0) fun o38 =>
 some (true, o38.1, o38.2, 0)))
 else
 bif ltI 0 (ln a0) then
 Option.bind (r02_six_L2 N N a0 [] (-1) 0 true false 0 0) (O2.el
 (fun o39 =>
 some (o39.2.1, o39.2.2.1, o39.2.2.2, o39.1))
 (fun o40 =>
 bif ltI o40.2 0 then
 bif eqI (ln o40.1) 8 then
 bif leI 0 o40.2 then
 bif ltI 7 (ln o40.1) then
 some (false, 0, 0, 3)
 else
 Option.bind (r02_six_L0 N N o40.1 o40.2 0 false 0 0 true 0 0) fun o41 =>
 some (true, o41.1, o41.2, 0)
 else
 Option.bind (r02_six_L0 N N o40.1 o40.2 0 false 0 0 true 0 0) fun o42 =>
 some (true, o42.1, o42.2, 0)
 else
 some (false, 0, 0, 3)
 else
 bif leI 0 o40.2 then
 bif ltI 7 (ln o40.1) then
 some (false, 0, 0, 3)
 else
 Option.bind (r02_six_L0 N N o40.1 o40.2 0 false 0 0 true 0 0) fun o43 =>
 some (true, o43.1, o43.2, 0)
 else
 Option.bind (r02_six_L0 N N o40.1 o40.2 0 false 0 0 true 0 0) fun o44 =>
 some (true, o44.1, o44.2, 0)))
 else
 bif ltI (-1) 0 then
 Option.bind (r02_six_L2 N N a0 [] (-1) 0 true false 0 0) (O2.el
 (fun o45 =>
 some (o45.2.1, o45.2.2.1, o45.2.2.2, o45.1))
 (fun o46 =>
 bif ltI o46.2 0 then
 bif eqI (ln o46.1) 8 then
 bif leI 0 o46.2 then
 bif ltI 7 (ln o46.1) then
 some (false, 0, 0, 3)
 else
 Option.bind (r02_six_L0 N N o46.1 o46.2 0 false 0 0 true 0 0) fun o47 =>
 some (true, o47.1, o47.2, 0)
 else
 Option.bind (r02_six_L0 N N o46.1 o46.2 0 false 0 0 true 0 0) fun o48 =>
 some (true, o48.1, o48.2, 0)
 else
 some (false, 0, 0, 3)
 else
 bif leI 0 o46.2 then
 bif ltI 7 (ln o46.1) then
 some (false, 0, 0, 3)
 else
 Option.bind (r02_six_L0 N N o46.1 o46.2 0 false 0 0 true 0 0) fun o49 =>
 some (true, o49.1, o49.2, 0)
 else
 Option.bind (r02_six_L0 N N o46.1 o46.2 0 false 0 0 true 0 0) fun o50 =>
 some (true, o50.1, o50.2, 0)))
 else
 Option.bind (r02_six_L2 N N a0 [] (-1) 0 false false 0 0) (O2.el
 (fun o51 =>
 some (o51.2.1, o51.2.2.1, o51.2.2.2, o51.1))
 (fun o52 =>
 bif ltI o52.2 0 then
 bif eqI (ln o52.1) 8 then
 bif leI 0 o52.2 then
 bif ltI 7 (ln o52.1) then
 some (false, 0, 0, 3)
 else
 Option.bind (r02_six_L0 N N o52.1 o52.2 0 false 0 0 true 0 0) fun o53 =>
 some (true, o53.1, o53.2, 0)
 else
 Option.bind (r02_six_L0 N N o52.1 o52.2 0 false 0 0 true 0 0) fun o54 =>
 some (true, o54.1, o54.2, 0)
 else
 some (false, 0, 0, 3)
 else
 bif leI 0 o52.2 then
 bif ltI 7 (ln o52.1) then
 some (false, 0, 0, 3)
 else
 Option.bind (r02_six_L0 N N o52.1 o52.2 0 false 0 0 true 0 0) fun o55 =>
 some (true, o55.1, o55.2, 0)
 else
 Option.bind (r02_six_L0 N N o52.1 o52.2 0 false 0 0 true 0 0) fun o56 =>
 some (true, o56.1, o56.2, 0)))
 else
 bif ltI 0 (ln a0) then
 Option.bind (r02_six_L2 N N a0 [] (-1) 0 true false 0 0) (O2.el
 (fun o57 =>
 some (o57.2.1, o57.2.2.1, o57.2.2.2, o57.1))
 (fun o58 =>
 bif ltI o58.2 0 then
 bif eqI (ln o58.1) 8 then
 bif leI 0 o58.2 then
 bif ltI 7 (ln o58.1) then
 some (false, 0, 0, 3)
 else
 Option.bind (r02_six_L0 N N o58.1 o58.2 0 false 0 0 true 0 0) fun o59 =>
 some (true, o59.1, o59.2, 0)
 else
 Option.bind (r02_six_L0 N N o58.1 o58.2 0 false 0 0 true 0 0) fun o60 =>
 some (true, o60.1, o60.2, 0)
 else
 some (false, 0, 0, 3)
 else
 bif leI 0 o58.2 then
 bif ltI 7 (ln o58.1) then
 some (false, 0, 0, 3)
 else
 Option.bind (r02_six_L0 N N o58.1 o58.2 0 false 0 0 true 0 0) fun o61 =>
 some (true, o61.1, o61.2, 0)
 else
 Option.bind (r02_six_L0 N N o58.1 o58.2 0 false 0 0 true 0 0) fun o62 =>
 some (true, o62.1, o62.2, 0)))
 else
 bif ltI (-1) 0 then
 Option.bind (r02_six_L2 N N a0 [] (-1) 0 true false 0 0) (O2.el
 (fun o63 =>
 some (o63.2.1, o63.2.2.1, o63.2.2.2, o63.1))
 (fun o64 =>
 bif ltI o64.2 0 then
 bif eqI (ln o64.1) 8 then
 bif leI 0 o64.2 then
 bif ltI 7 (ln o64.1) then
 some (false, 0, 0, 3)
 else
 Option.bind (r02_six_L0 N N o64.1 o64.2 0 false 0 0 true 0 0) fun o65 =>
 some (true, o65.1, o65.2, 0)
 else
 Option.bind (r02_six_L0 N N o64.1 o64.2 0 false 0 0 true 0 0) fun o66 =>
 some (true, o66.1, o66.2, 0)
 else
 some (false, 0, 0, 3)
 else
 bif leI 0 o64.2 then
 bif ltI 7 (ln o64.1) then
 some (false, 0, 0, 3)
 else
 Option.bind (r02_six_L0 N N o64.1 o64.2 0 false 0 0 true 0 0) fun o67 =>
 some (true, o67.1, o67.2, 0)
 else
 Option.bind (r02_six_L0 N N o64.1 o64.2 0 false 0 0 true 0 0) fun o68 =>
 some (true, o68.1, o68.2, 0)))
 else
 Option.bind (r02_six_L2 N N a0 [] (-1) 0 false false 0 0) (O2.el
 (fun o69 =>
 some (o69.2.1, o69.2.2.1, o69.2.2.2, o69.1))
 (fun o70 =>
 bif ltI o70.2 0 then
 bif eqI (ln o70.1) 8 then
 bif leI 0 o70.2 then
 bif ltI 7 (ln o70.1) then
 some (false, 0, 0, 3)
 else
 Option.bind (r02_six_L0 N N o70.1 o70.2 0 false 0 0 true 0 0) fun o71 =>
 some (true, o71.1, o71.2, 0)
 else
 Option.bind (r02_six_L0 N N o70.1 o70.2 0 false 0 0 true 0 0) fun o72 =>
 some (true, o72.1, o72.2, 0)
 else
 some (false, 0, 0, 3)
 else
 bif leI 0 o70.2 then
 bif ltI 7 (ln o70.1) then
 some (false, 0, 0, 3)
 else
 Option.bind (r02_six_L0 N N o70.1 o70.2 0 false 0 0 true 0 0) fun o73 =>
 some (true, o73.1, o73.2, 0)
 else
 Option.bind (r02_six_L0 N N o70.1 o70.2 0 false 0 0 true 0 0) fun o74 =>
 some (true, o74.1, o74.2, 0)))
def r02_number_L0 (N : Nat) : Nat → List UInt8 → Int → Int → Option (O2 (Int × Bool) (Int))
 | 0, _, _, _ => none
 | n + 1, p0, p1, p2 =>
 bif ltI p2 (ln p0) then
 Option.bind (atI p0 p2) fun c1 =>
 bif ltI (bv c1) 48 then
 some (.a (0, false))
 else
 bif ltI 57 (bv c1) then
 some (.a (0, false))
 else
 r02_number_L0 N n p0 (addI .u64 (mulI .u64 p1 10) (convI .u64 (subI .u8 (bv c1) 48))) (addI .i64 p2 1)
 else
 some (.b p1)
def r02_number (N : Nat) (a0 : List UInt8) : Option (Int × Bool) :=
 bif ltI (ln a0) 1 then
 some (0, false)
 else
 bif ltI 3 (ln a0) then
 some (0, false)
 else
 bif ltI 1 (ln a0) then
 Option.bind (atI a0 0) fun c1 =>
 bif eqI (bv c1) 48 then
 some (0, false)
 else
 Option.bind (r02_number_L0 N N a0 0 0) (O2.el
 (fun o2 =>
 some (o2.1, o2.2))
 (fun o3 =>
 bif leI o3 255 then
 some (o3, true)
 else
 some (o3, false)))
 else
 Option.bind (r02_number_L0 N N a0 0 0) (O2.el
 (fun o4 =>
 some (o4.1, o4.2))
 (fun o5 =>
 bif leI o5 255 then
 some (o5, true)
 else
 some (o5, false)))
def r02_four_L0 (N : Nat) : Nat → List UInt8 → Int → Int → Int → Int → Bool → Int → Int → Option (O2 (Int × Bool × Int × Int) (Int × Int))
 | 0, _, _, _, _, _, _, _, _ => none
 | n + 1, p0, p1, p2, p3, p4, p5, p6, p7 =>
 bif leI p4 (ln p0) then
 bif ltI p4 (ln p0) then
 Option.bind (atI p0 p4) fun c1 =>
 bif eqI (bv c1) 46 then
 Option.bind (cutI p0 p3 p4) fun s2 =>
 Option.bind (r02_number N s2) fun r3 =>
 bif r3.2 then
 bif eqI p2 4 then
 some (.a (3, false, 0, 0))
 else
 r02_four_L0 N n p0 (addI .u64 (mulI .u64 p1 256) r3.1) (addI .i64 p2 1) (addI .i64 p4 1) (addI .i64 p4 1) p5 p6 p7
 else
 some (.a (3, false, 0, 0))
 else
 r02_four_L0 N n p0 p1 p2 p3 (addI .i64 p4 1) p5 p6 p7
 else
 Option.bind (cutI p0 p3 p4) fun s4 =>
 Option.bind (r02_number N s4) fun r5 =>
 bif r5.2 then
 bif eqI p2 4 then
 some (.a (3, false, 0, 0))
 else
 r02_four_L0 N n p0 (addI .u64 (mulI .u64 p1 256) r5.1) (addI .i64 p2 1) (addI .i64 p4 1) (addI .i64 p4 1) p5 p6 p7
 else
 some (.a (3, false, 0, 0))
 else
 some (.b (p1, p2))
def r02_four (N : Nat) (a0 : List UInt8) : Option (Bool × Int × Int × Int) :=
 Option.bind (r02_four_L0 N N a0 0 0 0 0 false 0 0) (O2.el
 (fun o1 =>
 some (o1.2.1, o1.2.2.1, o1.2.2.2, o1.1))
 (fun o2 =>
 bif eqI o2.2 4 then
 some (false, 0, o2.1, 0)
 else
 some (false, 0, 0, 3)))
def r02_Parse_L0 (N : Nat) : Nat → List UInt8 → Int → Bool → Int → Int → Option (O2 (Int × Bool × Int × Int) (Unit))
 | 0, _, _, _, _, _ => none
 | n + 1, p0, p1, p2, p3, p4 =>
 bif ltI p1 (ln p0) then
 Option.bind (atI p0 p1) fun c1 =>
 bif eqI (bv c1) 58 then
 Option.bind (r02_six N p0) fun r2 =>
 some (.a (r2.2.2.2, r2.1, r2.2.1, r2.2.2.1))
 else
 r02_Parse_L0 N n p0 (addI .i64 p1 1) p2 p3 p4
 else
 some (.b ())
def r02_Parse (N : Nat) (a0 : List UInt8) : Option (Bool × Int × Int × Int) :=
 bif ltI 39 (ln a0) then
 some (false, 0, 0, 3)
 else
 Option.bind (r02_Parse_L0 N N a0 0 false 0 0) (O2.el
 (fun o1 =>
 some (o1.2.1, o1.2.2.1, o1.2.2.2, o1.1))
 (fun o2 =>
 Option.bind (r02_four N a0) fun r3 =>
 some (r3.1, r3.2.1, r3.2.2.1, r3.2.2.2)))
def r06_digit (N : Nat) (a0 : Int) : Option (Int) :=
 bif leI 48 a0 then
 bif leI a0 57 then
 some (convI .i64 (subI .u8 a0 48))
 else
 bif leI 97 a0 then
 bif leI a0 102 then
 some (addI .i64 (convI .i64 (subI .u8 a0 97)) 10)
 else
 bif leI 65 a0 then
 bif leI a0 70 then
 some (addI .i64 (convI .i64 (subI .u8 a0 65)) 10)
 else
 some (-1)
 else
 some (-1)
 else
 bif leI 65 a0 then
 bif leI a0 70 then
 some (addI .i64 (convI .i64 (subI .u8 a0 65)) 10)
 else
 some (-1)
 else
 some (-1)
 else
 bif leI 97 a0 then
 bif leI a0 102 then
 some (addI .i64 (convI .i64 (subI .u8 a0 97)) 10)
 else
 bif leI 65 a0 then
 bif leI a0 70 then
 some (addI .i64 (convI .i64 (subI .u8 a0 65)) 10)
 else
 some (-1)
 else
 some (-1)
 else
 bif leI 65 a0 then
 bif leI a0 70 then
 some (addI .i64 (convI .i64 (subI .u8 a0 65)) 10)
 else
 some (-1)
 else
 some (-1)
def r06_Unhex_L0 (N : Nat) : Nat → List UInt8 → List UInt8 → Int → Option (O2 (List UInt8 × Bool) (List UInt8))
 | 0, _, _, _ => none
 | n + 1, p0, p1, p2 =>
 bif ltI p2 (ln p0) then
 Option.bind (atI p0 p2) fun c1 =>
 Option.bind (r06_digit N (bv c1)) fun r2 =>
 Option.bind (atI p0 (addI .i64 p2 1)) fun c3 =>
 Option.bind (r06_digit N (bv c3)) fun r4 =>
 bif ltI r2 0 then
 some (.a (([] : List UInt8), false))
 else
 bif ltI r4 0 then
 some (.a (([] : List UInt8), false))
 else
 bif room1 p1 1 1 then
 r06_Unhex_L0 N n p0 (p1 ++ [u8 (convI .u8 (addI .i64 (mulI .i64 16 r2) r4))]) (addI .i64 p2 2)
 else
 none
 else
 some (.b p1)
def r06_Unhex (N : Nat) (a0 : List UInt8) : Option (List UInt8 × Bool) :=
 Option.bind (remI .i64 (ln a0) 2) fun n1 =>
 bif eqI n1 1 then
 some (([] : List UInt8), false)
 else
 Option.bind (r06_Unhex_L0 N N a0 [] 0) (O2.el
 (fun o2 =>
 some (o2.1, o2.2))
 (fun o3 =>
 some (o3, true)))
def r06_most (N : Nat) (a0 a1 : Int) : Option (Int) :=
 bif eqI a0 6 then
 some 4294967295
 else
 bif eqI a0 46 then
 bif eqI a1 67 then
 some 2147483647
 else
 bif eqI a1 68 then
 some 4294967295
 else
 bif eqI a1 69 then
 some 4294967295
 else
 bif eqI a1 66 then
 bif eqI a0 33 then
 some 65535
 else
 some 255
 else
 some 65535
 else
 bif eqI a1 66 then
 bif eqI a0 33 then
 bif eqI a1 67 then
 some 65535
 else
 some 65535
 else
 some 255
 else
 bif eqI a1 67 then
 bif eqI a0 33 then
 some 65535
 else
 some 255
 else
 some 65535
def r06_numeral (N : Nat) (a0 a1 : Int) (a2 : List UInt8) : Option (Int × Bool) :=
 bif leI 98 a1 then
 bif leI a1 101 then
 Option.bind (durI N a2) fun r1 =>
 some (r1.1, r1.2)
 else
 Option.bind (r06_most N a0 a1) fun r2 =>
 Option.bind (numI N a2 r2) fun r3 =>
 some (r3.1, r3.2)
 else
 Option.bind (r06_most N a0 a1) fun r4 =>
 Option.bind (numI N a2 r4) fun r5 =>
 some (r5.1, r5.2)
def r06_with (N : Nat) (a0_0 : Bool) (a0_1 a0_2 : Int) (a0_3 a0_4 a0_5 : List UInt8) (a0_6 a0_7 a0_8 a0_9 a0_10 a0_11 a0_12 a1 a2 : Int) : Option (Int × Int × Int × Int × Int × Int) :=
 bif eqI a1 65 then
 some (a2, a0_7, a0_8, a0_9, a0_10, a0_11)
 else
 bif eqI a1 66 then
 some (a0_6, a2, a0_8, a0_9, a0_10, a0_11)
 else
 bif eqI a1 98 then
 some (a0_6, a2, a0_8, a0_9, a0_10, a0_11)
 else
 bif eqI a1 67 then
 some (a0_6, a0_7, a2, a0_9, a0_10, a0_11)
 else
 bif eqI a1 99 then
 some (a0_6, a0_7, a2, a0_9, a0_10, a0_11)
 else
 bif eqI a1 68 then
 some (a0_6, a0_7, a0_8, a2, a0_10, a0_11)
 else
 bif eqI a1 100 then
 some (a0_6, a0_7, a0_8, a2, a0_10, a0_11)
 else
 bif eqI a1 69 then
 some (a0_6, a0_7, a0_8, a0_9, a2, a0_11)
 else
 bif eqI a1 101 then
 some (a0_6, a0_7, a0_8, a0_9, a2, a0_11)
 else
 bif eqI a1 70 then
 some (a0_6, a0_7, a0_8, a0_9, a0_10, a2)
 else
 some (a0_6, a0_7, a0_8, a0_9, a0_10, a0_11)
def r06_take (N : Nat) (a0 a1 : Int) (a2_0 : Bool) (a2_1 a2_2 : Int) (a2_3 a2_4 a2_5 : List UInt8) (a2_6 a2_7 a2_8 a2_9 a2_10 a2_11 a2_12 : Int) (a3 a4 : List UInt8) : Option (Bool × Int × Int × List UInt8 × List UInt8 × List UInt8 × Int × Int × Int × Int × Int × Int × Int) :=
 bif eqI a1 110 then
 Option.bind (r01_Parse N a3 a4) fun r1 =>
 bif eqI r1.2 0 then
 some (a2_0, a2_1, a2_2, r1.1, a2_4, a2_5, a2_6, a2_7, a2_8, a2_9, a2_10, a2_11, 0)
 else
 some (a2_0, a2_1, a2_2, a2_3, a2_4, a2_5, a2_6, a2_7, a2_8, a2_9, a2_10, a2_11, 2)
 else
 bif eqI a1 109 then
 Option.bind (r01_Parse N a3 a4) fun r2 =>
 bif eqI r2.2 0 then
 some (a2_0, a2_1, a2_2, a2_3, r2.1, a2_5, a2_6, a2_7, a2_8, a2_9, a2_10, a2_11, 0)
 else
 some (a2_0, a2_1, a2_2, a2_3, a2_4, a2_5, a2_6, a2_7, a2_8, a2_9, a2_10, a2_11, 2)
 else
 bif eqI a1 97 then
 Option.bind (r02_Parse N a3) fun r3 =>
 bif eqI r3.2.2.2 0 then
 some (r3.1, r3.2.1, r3.2.2.1, a2_3, a2_4, a2_5, a2_6, a2_7, a2_8, a2_9, a2_10, a2_11, 0)
 else
 some (a2_0, a2_1, a2_2, a2_3, a2_4, a2_5, a2_6, a2_7, a2_8, a2_9, a2_10, a2_11, 3)
 else
 bif eqI a1 116 then
 some (a2_0, a2_1, a2_2, a2_3, a2_4, a3, a2_6, a2_7, a2_8, a2_9, a2_10, a2_11, 0)
 else
 bif eqI a1 120 then
 Option.bind (r06_Unhex N a3) fun r4 =>
 bif r4.2 then
 some (a2_0, a2_1, a2_2, a2_3, a2_4, r4.1, a2_6, a2_7, a2_8, a2_9, a2_10, a2_11, 0)
 else
 some (a2_0, a2_1, a2_2, a2_3, a2_4, a2_5, a2_6, a2_7, a2_8, a2_9, a2_10, a2_11, 7)
 else
 bif eqI a1 121 then
 Option.bind (r05_Type N a3) fun r5 =>
 bif r5.2 then
 some (a2_0, a2_1, a2_2, a2_3, a2_4, a2_5, r5.1, a2_7, a2_8, a2_9, a2_10, a2_11, 0)
 else
 some (a2_0, a2_1, a2_2, a2_3, a2_4, a2_5, a2_6, a2_7, a2_8, a2_9, a2_10, a2_11, 7)
 else
 bif eqI a1 115 then
 bif eqS a3 ([50, 53, 51] : List UInt8) then
 some (a2_0, a2_1, a2_2, a2_3, a2_4, a2_5, a2_6, a2_7, a2_8, a2_9, a2_10, a2_11, 0)
 else
 some (a2_0, a2_1, a2_2, a2_3, a2_4, a2_5, a2_6, a2_7, a2_8, a2_9, a2_10, a2_11, 7)
 else
 Option.bind (r06_numeral N a0 a1 a3) fun r6 =>
 bif r6.2 then
 Option.bind (r06_with N a2_0 a2_1 a2_2 a2_3 a2_4 a2_5 a2_6 a2_7 a2_8 a2_9 a2_10 a2_11 a2_12 a1 r6.1) fun r7 =>
 some (a2_0, a2_1, a2_2, a2_3, a2_4, a2_5, r7.1, r7.2.1, r7.2.2.1, r7.2.2.2.1, r7.2.2.2.2.1, r7.2.2.2.2.2, 0)
 else
 some (a2_0, a2_1, a2_2, a2_3, a2_4, a2_5, a2_6, a2_7, a2_8, a2_9, a2_10, a2_11, 7)
def r06_Parse_L0 (N : Nat) : Nat → Int → List (List UInt8) → List UInt8 → List UInt8 → Int → Bool → Int → Int → List UInt8 → List UInt8 → List UInt8 → Int → Int → Int → Int → Int → Int → Int → Bool → Int → Int → List UInt8 → List UInt8 → List UInt8 → Int → Int → Int → Int → Int → Int → Int → Option (O2 (Int × Bool × Int × Int × List UInt8 × List UInt8 × List UInt8 × Int × Int × Int × Int × Int × Int × Int) (Bool × Int × Int × List UInt8 × List UInt8 × List UInt8 × Int × Int × Int × Int × Int × Int × Int))
 | 0, _, _, _, _, _, _, _, _, _, _, _, _, _, _, _, _, _, _, _, _, _, _, _, _, _, _, _, _, _, _, _ => none
 | n + 1, p0, p1, p2, p3, p4, p5, p6, p7, p8, p9, p10, p11, p12, p13, p14, p15, p16, p17, p18, p19, p20, p21, p22, p23, p24, p25, p26, p27, p28, p29, p30 =>
 bif ltI p4 (ln p3) then
 Option.bind (atI p3 p4) fun c1 =>
 bif eqI (bv c1) 122 then
 Option.bind (cutI p1 p4 (ln p1)) fun l2 =>
 Option.bind (r06_set N l2) fun r3 =>
 bif eqI r3.2 0 then
 r06_Parse_L0 N n p0 p1 p2 p3 (addI .i64 p4 1) p5 p6 p7 p8 p9 p10 p11 p12 p13 p14 p15 p16 p17 p18 p19 p20 p21 p22 p23 p24 p25 p26 p27 p28 p29 r3.1
 else
 some (.a (r3.2, false, 0, 0, ([] : List UInt8), ([] : List UInt8), ([] : List UInt8), 0, 0, 0, 0, 0, 0, 0))
 else
 bif leI (ln p1) p4 then
 some (.a (6, false, 0, 0, ([] : List UInt8), ([] : List UInt8), ([] : List UInt8), 0, 0, 0, 0, 0, 0, 0))
 else
 Option.bind (atI p1 p4) fun e4 =>
 Option.bind (r06_take N p0 (bv c1) p18 p19 p20 p21 p22 p23 p24 p25 p26 p27 p28 p29 p30 e4 p2) fun r5 =>
 bif eqI r5.2.2.2.2.2.2.2.2.2.2.2.2 0 then
 r06_Parse_L0 N n p0 p1 p2 p3 (addI .i64 p4 1) p5 p6 p7 p8 p9 p10 p11 p12 p13 p14 p15 p16 p17 r5.1 r5.2.1 r5.2.2.1 r5.2.2.2.1 r5.2.2.2.2.1 r5.2.2.2.2.2.1 r5.2.2.2.2.2.2.1 r5.2.2.2.2.2.2.2.1 r5.2.2.2.2.2.2.2.2.1 r5.2.2.2.2.2.2.2.2.2.1 r5.2.2.2.2.2.2.2.2.2.2.1 r5.2.2.2.2.2.2.2.2.2.2.2.1 p30
 else
 some (.a (r5.2.2.2.2.2.2.2.2.2.2.2.2, false, 0, 0, ([] : List UInt8), ([] : List UInt8), ([] : List UInt8), 0, 0, 0, 0, 0, 0, 0))
 else
 some (.b (p18, p19, p20, p21, p22, p23, p24, p25, p26, p27, p28, p29, p30))
def r06_Parse (N : Nat) (a0 : Int) (a1 : List (List UInt8)) (a2 : List UInt8) : Option (Bool × Int × Int × List UInt8 × List UInt8 × List UInt8 × Int × Int × Int × Int × Int × Int × Int × Int) :=
 Option.bind (r05_Known N a0) fun r1 =>
 bif r1 then
 Option.bind (r06_Fields N a0) fun r2 =>
 Option.bind (r06_Parse_L0 N N a0 a1 a2 r2 0 false 0 0 ([] : List UInt8) ([] : List UInt8) ([] : List UInt8) 0 0 0 0 0 0 0 false 0 0 ([] : List UInt8) ([] : List UInt8) ([] : List UInt8) 0 0 0 0 0 0 0) (O2.el
 (fun o3 =>
 some (o3.2.1, o3.2.2.1, o3.2.2.2.1, o3.2.2.2.2.1, o3.2.2.2.2.2.1, o3.2.2.2.2.2.2.1, o3.2.2.2.2.2.2.2.1, o3.2.2.2.2.2.2.2.2.1, o3.2.2.2.2.2.2.2.2.2.1, o3.2.2.2.2.2.2.2.2.2.2.1, o3.2.2.2.2.2.2.2.2.2.2.2.1, o3.2.2.2.2.2.2.2.2.2.2.2.2.1, o3.2.2.2.2.2.2.2.2.2.2.2.2.2, o3.1))
 (fun o4 =>
 bif ltI (ln r2) (ln a1) then
 bif eqI a0 47 then
 bif o4.1 then
 Option.bind (r05_Valid N a0 true o4.2.1 o4.2.2.1 o4.2.2.2.1 o4.2.2.2.2.1 o4.2.2.2.2.2.1 o4.2.2.2.2.2.2.1 o4.2.2.2.2.2.2.2.1 o4.2.2.2.2.2.2.2.2.1 o4.2.2.2.2.2.2.2.2.2.1 o4.2.2.2.2.2.2.2.2.2.2.1 o4.2.2.2.2.2.2.2.2.2.2.2.1 o4.2.2.2.2.2.2.2.2.2.2.2.2) fun r5 =>
 bif r5 then
 some (true, o4.2.1, o4.2.2.1, o4.2.2.2.1, o4.2.2.2.2.1, o4.2.2.2.2.2.1, o4.2.2.2.2.2.2.1, o4.2.2.2.2.2.2.2.1, o4.2.2.2.2.2.2.2.2.1, o4.2.2.2.2.2.2.2.2.2.1, o4.2.2.2.2.2.2.2.2.2.2.1, o4.2.2.2.2.2.2.2.2.2.2.2.1, o4.2.2.2.2.2.2.2.2.2.2.2.2, 0)
 else
 some (false, 0, 0, ([] : List UInt8), ([] : List UInt8), ([] : List UInt8), 0, 0, 0, 0, 0, 0, 0, 5)
 else
 Option.bind (r05_Valid N a0 false o4.2.1 o4.2.2.1 o4.2.2.2.1 o4.2.2.2.2.1 o4.2.2.2.2.2.1 o4.2.2.2.2.2.2.1 o4.2.2.2.2.2.2.2.1 o4.2.2.2.2.2.2.2.2.1 o4.2.2.2.2.2.2.2.2.2.1 o4.2.2.2.2.2.2.2.2.2.2.1 o4.2.2.2.2.2.2.2.2.2.2.2.1 o4.2.2.2.2.2.2.2.2.2.2.2.2) fun r6 =>
 bif r6 then
 some (false, o4.2.1, o4.2.2.1, o4.2.2.2.1, o4.2.2.2.2.1, o4.2.2.2.2.2.1, o4.2.2.2.2.2.2.1, o4.2.2.2.2.2.2.2.1, o4.2.2.2.2.2.2.2.2.1, o4.2.2.2.2.2.2.2.2.2.1, o4.2.2.2.2.2.2.2.2.2.2.1, o4.2.2.2.2.2.2.2.2.2.2.2.1, o4.2.2.2.2.2.2.2.2.2.2.2.2, 0)
 else
 some (false, 0, 0, ([] : List UInt8), ([] : List UInt8), ([] : List UInt8), 0, 0, 0, 0, 0, 0, 0, 5)
 else
 some (false, 0, 0, ([] : List UInt8), ([] : List UInt8), ([] : List UInt8), 0, 0, 0, 0, 0, 0, 0, 8)
 else
 bif o4.1 then
 Option.bind (r05_Valid N a0 true o4.2.1 o4.2.2.1 o4.2.2.2.1 o4.2.2.2.2.1 o4.2.2.2.2.2.1 o4.2.2.2.2.2.2.1 o4.2.2.2.2.2.2.2.1 o4.2.2.2.2.2.2.2.2.1 o4.2.2.2.2.2.2.2.2.2.1 o4.2.2.2.2.2.2.2.2.2.2.1 o4.2.2.2.2.2.2.2.2.2.2.2.1 o4.2.2.2.2.2.2.2.2.2.2.2.2) fun r7 =>
 bif r7 then
 some (true, o4.2.1, o4.2.2.1, o4.2.2.2.1, o4.2.2.2.2.1, o4.2.2.2.2.2.1, o4.2.2.2.2.2.2.1, o4.2.2.2.2.2.2.2.1, o4.2.2.2.2.2.2.2.2.1, o4.2.2.2.2.2.2.2.2.2.1, o4.2.2.2.2.2.2.2.2.2.2.1, o4.2.2.2.2.2.2.2.2.2.2.2.1, o4.2.2.2.2.2.2.2.2.2.2.2.2, 0)
 else
 some (false, 0, 0, ([] : List UInt8), ([] : List UInt8), ([] : List UInt8), 0, 0, 0, 0, 0, 0, 0, 5)
 else
 Option.bind (r05_Valid N a0 false o4.2.1 o4.2.2.1 o4.2.2.2.1 o4.2.2.2.2.1 o4.2.2.2.2.2.1 o4.2.2.2.2.2.2.1 o4.2.2.2.2.2.2.2.1 o4.2.2.2.2.2.2.2.2.1 o4.2.2.2.2.2.2.2.2.2.1 o4.2.2.2.2.2.2.2.2.2.2.1 o4.2.2.2.2.2.2.2.2.2.2.2.1 o4.2.2.2.2.2.2.2.2.2.2.2.2) fun r8 =>
 bif r8 then
 some (false, o4.2.1, o4.2.2.1, o4.2.2.2.1, o4.2.2.2.2.1, o4.2.2.2.2.2.1, o4.2.2.2.2.2.2.1, o4.2.2.2.2.2.2.2.1, o4.2.2.2.2.2.2.2.2.1, o4.2.2.2.2.2.2.2.2.2.1, o4.2.2.2.2.2.2.2.2.2.2.1, o4.2.2.2.2.2.2.2.2.2.2.2.1, o4.2.2.2.2.2.2.2.2.2.2.2.2, 0)
 else
 some (false, 0, 0, ([] : List UInt8), ([] : List UInt8), ([] : List UInt8), 0, 0, 0, 0, 0, 0, 0, 5)))
 else
 some (false, 0, 0, ([] : List UInt8), ([] : List UInt8), ([] : List UInt8), 0, 0, 0, 0, 0, 0, 0, 4)
end Go.Ev
