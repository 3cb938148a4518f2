/- Quote and its reference. Condition: none. -/
import Derived.Test.YtkpfaedepmgflaaGreatDoorRtA
namespace Go.Ev
set_option linter.all false
def three (b : UInt8) : List UInt8 := [48 + b / 100, 48 + b / 10 % 10, 48 + b % 10]
def escB (b : UInt8) : List UInt8 := if b = 34 ∨ b = 92 then [92, b] else if b < 32 ∨ 126 < b then 92 :: three b else [b]
def quoteL (l : List UInt8) : List UInt8 := 34 :: l.flatMap escB ++ [34]
theorem escB_len (b : UInt8) : (escB b).length ≤ 4 := by
  unfold escB three; split <;> (try split) <;> simp
theorem escs_len : ∀ (l : List UInt8), (l.flatMap escB).length ≤ 4 * l.length
  | [] => by simp
  | b :: l => by have := escs_len l; have := escB_len b; simp only [List.flatMap_cons, List.length_append, List.length_cons]; omega
/-- The three digits, as the machine works them out. -/
theorem three_at (b : UInt8) : IntKind.u8.wrap (48 + IntKind.u8.wrap ((b.toNat : Int).tdiv 100)) = ((48 + b / 100 : UInt8).toNat : Int) ∧ IntKind.u8.wrap (48 + (IntKind.u8.wrap ((b.toNat : Int).tdiv 10)).tmod 10) = ((48 + b / 10 % 10 : UInt8).toNat : Int) ∧
    IntKind.u8.wrap (48 + (b.toNat : Int).tmod 10) = ((48 + b % 10 : UInt8).toNat : Int) :=
  byte_all (fun b => IntKind.u8.wrap (48 + IntKind.u8.wrap ((b.toNat : Int).tdiv 100)) = ((48 + b / 100 : UInt8).toNat : Int) ∧ IntKind.u8.wrap (48 + (IntKind.u8.wrap ((b.toNat : Int).tdiv 10)).tmod 10) = ((48 + b / 10 % 10 : UInt8).toNat : Int) ∧
    IntKind.u8.wrap (48 + (b.toNat : Int).tmod 10) = ((48 + b % 10 : UInt8).toNat : Int)) (by decide +kernel) b
theorem three_of (b : UInt8) : ∃ x y z : UInt8, three b = [x, y, z] ∧ IntKind.u8.wrap (48 + IntKind.u8.wrap ((b.toNat : Int).tdiv 100)) = (x.toNat : Int) ∧ IntKind.u8.wrap (48 + (IntKind.u8.wrap ((b.toNat : Int).tdiv 10)).tmod 10) = (y.toNat : Int) ∧
    IntKind.u8.wrap (48 + (b.toNat : Int).tmod 10) = (z.toNat : Int) := ⟨_, _, _, rfl, three_at b⟩
theorem call32 (b : UInt8) (m : Mem) (lv : Nat) : (sem T).call 32 [.int .u8 b.toNat] m lv = some ([.str (bs (three b))], m) := by
  refine call_go rfl rfl rfl ?_
  obtain ⟨x, y, z, e, h1, h2, h3⟩ := three_of b
  simp at h1 h2 h3
  simp [F32, h1, h2, h3, e]
def outQ (out : List UInt8) : AV := .sl (some 5) 1 (out.map byteRow)
theorem quote_loop (l : List UInt8) (hl : l.length ≤ 17592186044416) (m : Mem) (lv : Nat) : ∀ (d i : Nat) (out : List UInt8), i + d = l.length → out.length + 4 * d ≤ 70368744177664 + 1 → ∀ s : St, s.mask [0, 3, 4] [] = some ⟨55, lv, tmOf [(0, .str (bs l)), (3, .sl (some 5) 1 (out.map byteRow)), (4, .int .i64 (i : Int))], bxOf [], m⟩ →
    (sem T).loop [0, 3, 4] [] L11_0 s = some (.ex 0, ⟨55, lv, tmOf [(3, .sl (some 5) 1 ((out ++ (l.drop i).flatMap escB).map byteRow))], bxOf [], m⟩)
  | 0, i, out, hd, ho, s, hs => by
    obtain rfl : i = l.length := by omega
    refine loop_to (loop_end (fl := .ex 0) hs ?_ (by intro e; cases e)) (by rw [List.drop_length])
    simp [L11_0]
  | d + 1, i, out, hd, ho, s, hs => by
    have hi : i < l.length := by omega
    have hw := IntWalk.i64_in ((i : Int) + 1) (by omega)
    have hdr : l.drop i = l[i] :: l.drop (i + 1) := List.drop_eq_getElem_cons hi
    obtain ⟨b, hb⟩ : ∃ b, l[i] = b := ⟨_, rfl⟩
    rw [hdr, hb]
    rw [List.flatMap_cons, ← List.append_assoc]
    refine loop_round hs ?_ (quote_loop l hl m lv d (i + 1) (out ++ escB b) (by omega) (by have := escB_len b; rw [List.length_append]; omega))
    have z1 : out.length + 1 ≤ 140737488355328 := by omega
    have z2 : out.length + 2 ≤ 140737488355328 := by omega
    have z4 : out.length + 4 ≤ 140737488355328 := by omega
    have y1 : out.length + 1 ≤ 9223372036854775807 := by omega
    have y2 : out.length + 2 ≤ 9223372036854775807 := by omega
    have y4 : out.length + 4 ≤ 9223372036854775807 := by omega
    by_cases h1 : b = 34
    · subst h1
      simp [L11_0, hi, hb, hw, z2, y2, escB, byteRow]
    by_cases h2 : b = 92
    · subst h2
      simp [L11_0, hi, hb, hw, z2, y2, escB, byteRow]
    have g1 : ((b.toNat : Int) = 34) = False := eq_false (fun h => h1 (by apply UInt8.toNat_inj.1; have : (34 : UInt8).toNat = 34 := rfl; omega))
    have g2 : ((b.toNat : Int) = 92) = False := eq_false (fun h => h2 (by apply UInt8.toNat_inj.1; have : (92 : UInt8).toNat = 92 := rfl; omega))
    by_cases h3 : b < 32
    · have e : escB b = 92 :: three b := by simp [escB, h1, h2, h3]
      have h3 : (b.toNat : Int) < 32 := by have := UInt8.lt_iff_toNat_lt.1 h3; have e : (32 : UInt8).toNat = 32 := rfl; omega
      obtain ⟨x, y, z, e2, k1, k2, k3⟩ := three_of b
      simp at k1 k2 k3
      rw [e, e2]
      simp [L11_0, hi, hb, hw, g1, g2, h3, k1, k2, k3, z4, y4, byteRow]
    by_cases h4 : 126 < b
    · have e : escB b = 92 :: three b := by simp [escB, h1, h2, h4]
      have h4 : 126 < (b.toNat : Int) := by have := UInt8.lt_iff_toNat_lt.1 h4; have e : (126 : UInt8).toNat = 126 := rfl; omega
      have h3 : ((b.toNat : Int) < 32) = False := eq_false (by omega)
      obtain ⟨x, y, z, e2, k1, k2, k3⟩ := three_of b
      simp at k1 k2 k3
      rw [e, e2]
      simp [L11_0, hi, hb, hw, g1, g2, h3, h4, k1, k2, k3, z4, y4, byteRow]
    · have e : escB b = [b] := by simp [escB, h1, h2, h3, h4]
      have h4 : (126 < (b.toNat : Int)) = False := eq_false (fun h => h4 (UInt8.lt_iff_toNat_lt.2 (by have e : (126 : UInt8).toNat = 126 := rfl; omega)))
      have h3 : ((b.toNat : Int) < 32) = False := eq_false (fun h => h3 (UInt8.lt_iff_toNat_lt.2 (by have e : (32 : UInt8).toNat = 32 := rfl; omega)))
      rw [e]
      simp [L11_0, hi, hb, hw, g1, g2, h3, h4, z1, y1, byteRow]
theorem call11 (l : List UInt8) (hl : l.length ≤ 17592186044416) (m : Mem) (lv : Nat) : (sem T).call 11 [.str (bs l)] m lv = some ([.str (bs (quoteL l))], m) := by
  have h := quote_loop l hl m lv l.length 0 [34] (by omega) (by simp; omega)
  have := escs_len l
  have z1 : (l.flatMap escB).length + 1 + 1 ≤ 140737488355328 := by omega
  have y1 : (l.flatMap escB).length + 1 + 1 ≤ 9223372036854775807 := by omega
  simp only [List.drop_zero, Int.natCast_zero] at h
  refine call_go rfl rfl rfl ?_
  unfold quoteL
  generalize l.flatMap escB = Q at h this z1 y1
  have e : [[AV.int .u8 34]] = [34].map byteRow := rfl
  simp only [List.cons_append, List.nil_append, List.map_cons, byteRow] at h
  simp [F11, h, bytesOf_app, z1, y1]
/-- Quote's reference. -/
theorem ref_loop (l : List UInt8) (hl : l.length ≤ 17592186044416) (m : Mem) (lv : Nat) : ∀ (d i : Nat) (out : List UInt8), i + d = l.length → out.length + 4 * d ≤ 70368744177664 + 1 → ∀ s : St, s.mask [0, 3, 4] [] = some ⟨49, lv, tmOf [(0, .str (bs l)), (3, .str (bs out)), (4, .int .i64 (i : Int))], bxOf [], m⟩ →
    (sem T).loop [0, 3, 4] [] L12_0 s = some (.ex 0, ⟨49, lv, tmOf [(3, .str (bs (out ++ (l.drop i).flatMap escB)))], bxOf [], m⟩)
  | 0, i, out, hd, ho, s, hs => by
    obtain rfl : i = l.length := by omega
    refine loop_to (loop_end (fl := .ex 0) hs ?_ (by intro e; cases e)) (by rw [List.drop_length])
    simp [L12_0]
  | d + 1, i, out, hd, ho, s, hs => by
    have hi : i < l.length := by omega
    have hw := IntWalk.i64_in ((i : Int) + 1) (by omega)
    have hdr : l.drop i = l[i] :: l.drop (i + 1) := List.drop_eq_getElem_cons hi
    obtain ⟨b, hb⟩ : ∃ b, l[i] = b := ⟨_, rfl⟩
    rw [hdr, hb, List.flatMap_cons, ← List.append_assoc]
    have hx : (l.take (i + 1)).drop i = [b] := by rw [List.drop_take, hdr, hb]; simp
    have he : ((i : Int) ≤ (i : Int) + 1) = True := eq_true (by omega)
    have hn : ((i : Int) + 1).toNat = i + 1 := by omega
    have hle : ((l.length : Int) < (i : Int) + 1) = False := eq_false (by omega)
    refine loop_round hs ?_ (ref_loop l hl m lv d (i + 1) (out ++ escB b) (by omega) (by have := escB_len b; rw [List.length_append]; omega))
    have z1 : out.length + 1 ≤ 4611686018427387904 := by omega
    have z2 : out.length + 1 + 1 ≤ 4611686018427387904 := by omega
    have z4 : out.length + 1 + 3 ≤ 4611686018427387904 := by omega
    have c32 := call32 b
    by_cases h1 : b = 34
    · subst h1
      simp [L12_0, hi, hb, hw, he, hle, hx, z1, z2, escB]
    by_cases h2 : b = 92
    · subst h2
      simp [L12_0, hi, hb, hw, he, hle, hx, z1, z2, escB]
    have g1 : ((b.toNat : Int) = 34) = False := eq_false (fun h => h1 (by apply UInt8.toNat_inj.1; have : (34 : UInt8).toNat = 34 := rfl; omega))
    have g2 : ((b.toNat : Int) = 92) = False := eq_false (fun h => h2 (by apply UInt8.toNat_inj.1; have : (92 : UInt8).toNat = 92 := rfl; omega))
    have l3 : (three b).length = 3 := rfl
    by_cases h3 : b < 32
    · have e : escB b = 92 :: three b := by simp [escB, h1, h2, h3]
      have h3 : (b.toNat : Int) < 32 := by have := UInt8.lt_iff_toNat_lt.1 h3; have e : (32 : UInt8).toNat = 32 := rfl; omega
      rw [e]
      simp [L12_0, hi, hb, hw, g1, g2, h3, z1, z4, l3, c32]
    by_cases h4 : 126 < b
    · have e : escB b = 92 :: three b := by simp [escB, h1, h2, h4]
      have h4 : 126 < (b.toNat : Int) := by have := UInt8.lt_iff_toNat_lt.1 h4; have e : (126 : UInt8).toNat = 126 := rfl; omega
      have h3 : ((b.toNat : Int) < 32) = False := eq_false (by omega)
      rw [e]
      simp [L12_0, hi, hb, hw, g1, g2, h3, h4, z1, z4, l3, c32]
    · have e : escB b = [b] := by simp [escB, h1, h2, h3, h4]
      have h4 : (126 < (b.toNat : Int)) = False := eq_false (fun h => h4 (UInt8.lt_iff_toNat_lt.2 (by have e : (126 : UInt8).toNat = 126 := rfl; omega)))
      have h3 : ((b.toNat : Int) < 32) = False := eq_false (fun h => h3 (UInt8.lt_iff_toNat_lt.2 (by have e : (32 : UInt8).toNat = 32 := rfl; omega)))
      rw [e]
      simp [L12_0, hi, hb, hw, he, hle, hx, g1, g2, h3, h4, z1]
theorem call12 (l : List UInt8) (hl : l.length ≤ 17592186044416) (m : Mem) (lv : Nat) : (sem T).call 12 [.str (bs l)] m lv = some ([.str (bs (quoteL l))], m) := by
  have h := ref_loop l hl m lv l.length 0 [34] (by omega) (by simp; omega)
  have := escs_len l
  have z1 : (l.flatMap escB).length + 1 + 1 ≤ 4611686018427387904 := by omega
  simp only [List.drop_zero, Int.natCast_zero] at h
  refine call_go rfl rfl rfl ?_
  unfold quoteL
  generalize l.flatMap escB = Q at h this z1
  simp only [List.cons_append, List.nil_append] at h
  simp [F12, h, z1]
theorem quotes_spec (l : List UInt8) (hl : l.length ≤ 17592186044416) : ∃ m, (sem T).call 3 [.str (bs l)] noMem 0 = some ([.bool true], m) := by
  obtain ⟨m0, haw⟩ := awake_spec
  have h1 := call11 l hl
  have h2 := call12 l hl
  refine ⟨noMem, call_go rfl rfl rfl ?_⟩
  simp [F3, h1, h2, haw]
end Go.Ev
