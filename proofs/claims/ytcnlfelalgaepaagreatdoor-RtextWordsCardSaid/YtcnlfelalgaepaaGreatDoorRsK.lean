/- RsS, RsQ, joined. Condition: each part's own. -/
import Derived.Test.YtcnlfelalgaepaaGreatDoorLibT
import Derived.Test.YtcnlfelalgaepaaGreatDoorRtB
import Derived.Test.YtcnlfelalgaepaaGreatDoorLibMp
import Derived.Lib.ItoaNum
/- Decimal, Span and its reference. Condition: none. -/
namespace Go.Ev
set_option linter.all false
theorem call_given {T : Tab} {f : FuncId} {g : List AV → Mem → Nat → Option (List AV × Mem)} {args : List AV} {m : Mem} {l : Nat} {r : List AV × Mem} (hg : T.given f = some g) (h : g args m l = some r) : (sem T).call f args m l = some r := by
  apply sem_call
  unfold callBy
  rw [hg]
  exact h
theorem itoaB_nat (v : Nat) (h : v ≤ 9223372036854775807) : itoaB (v : Int) = bs (Lib.decDigits v) := by
  unfold itoaB
  rw [if_neg (by omega), Int.toNat_natCast, digs_eq 20 v (by omega) (by omega)]
  rfl
theorem dec_len : ∀ (k v : Nat), v < 10 ^ k → 0 < k → (Lib.decDigits v).length ≤ k
  | 0, v, h, hk => by omega
  | k + 1, v, h, _ => by
    rw [Lib.decDigits]
    split
    · simp
    · rename_i hv
      have hk : 0 < k := by
        rcases Nat.eq_zero_or_pos k with h0 | h0
        · subst h0; simp at h; omega
        · exact h0
      have := dec_len k (v / 10) (by rw [Nat.pow_succ] at h; omega) hk
      simp only [List.length_append, List.length_cons, List.length_nil]
      omega
theorem dec_loop (m : Mem) (lv : Nat) : ∀ (k n i : Nat) (out : List UInt8), n < 10 ^ k → n ≤ 9223372036854775807 → i + k ≤ 20 → out.length ≤ i → ∀ s : St, s.mask [0, 3, 4] [] = some ⟨31, lv, tmOf [(0, .int .i64 (n : Int)), (3, .str (bs out)), (4, .int .i64 (i : Int))], bxOf [], m⟩ →
    (sem T).loop [0, 3, 4] [] L62_0 s = some (.ex 0, ⟨31, lv, tmOf [(3, .str (bs (if n = 0 then out else Lib.decDigits n ++ out)))], bxOf [], m⟩)
  | 0, n, i, out, hn, hb, hi, ho, s, hs => by
    obtain rfl : n = 0 := by simpa using hn
    refine loop_end (fl := .ex 0) hs ?_ (by intro e; cases e)
    rcases le_or 20 (i : Int) with ⟨p, q⟩ | ⟨p, q⟩ <;> simp [L62_0, q]
  | k + 1, n, i, out, hn, hb, hi, ho, s, hs => by
    by_cases h0 : n = 0
    · subst h0
      refine loop_end (fl := .ex 0) hs ?_ (by intro e; cases e)
      rcases le_or 20 (i : Int) with ⟨p, q⟩ | ⟨p, q⟩ <;> simp [L62_0, q]
    · have q1 : ((i : Int) < 20) = True := eq_true (by omega)
      have q2 : ((0 : Int) < (n : Int)) = True := eq_true (by omega)
      have q3 : (0 < n) = True := eq_true (by omega)
      have hw := IntWalk.i64_in ((i : Int) + 1) (by omega)
      obtain ⟨r, hr⟩ : ∃ r, n % 10 = r := ⟨_, rfl⟩
      obtain ⟨e, he⟩ : ∃ e, n / 10 = e := ⟨_, rfl⟩
      have r1 : ((n : Int).tmod 10) = (r : Int) := by rw [Int.tmod_eq_emod_of_nonneg (by omega)]; omega
      have r2 : ((n : Int) % 10) = (r : Int) := by omega
      have e1 : ((n : Int).tdiv 10) = (e : Int) := by rw [Int.tdiv_eq_ediv_of_nonneg (by omega)]; omega
      have e2 : ((n : Int) / 10) = (e : Int) := by omega
      have w1 := IntWalk.i64_in (48 + (r : Int)) (by omega)
      have w2 := IntWalk.u8_in (48 + (r : Int)) (by omega)
      have w3 := IntWalk.i64_in (e : Int) (by omega)
      have t1 : (48 + (r : Int)).toNat = 48 + r := by omega
      have z1 : 1 + out.length ≤ 4611686018427387904 := by omega
      have ih := dec_loop m lv k e (i + 1) (UInt8.ofNat (48 + r) :: out) (by rw [Nat.pow_succ] at hn; omega) (by omega) (by omega) (by simp; omega)
      have eq : (if e = 0 then UInt8.ofNat (48 + r) :: out else Lib.decDigits e ++ UInt8.ofNat (48 + r) :: out) = (if n = 0 then out else Lib.decDigits n ++ out) := by
        rw [if_neg h0]
        by_cases hn10 : n < 10
        · rw [if_pos (by omega), Lib.decDigits_one hn10, show r = n by omega]
          rfl
        · rw [if_neg (by omega)]
          conv => rhs; rw [Lib.decDigits, dif_neg hn10, he, hr]
          simp
      rw [eq] at ih
      refine loop_round hs ?_ ih
      simp [L62_0, q1, q2, q3, hw, r1, r2, e1, e2, w1, w2, w3, t1, z1]
theorem call38 (n : Nat) (hn : n ≤ 9223372036854775807) (m : Mem) (lv : Nat) : (sem T).call 62 [.int .i64 (n : Int)] m lv = some ([.str (bs (Lib.decDigits n))], m) := by
  refine call_go rfl rfl rfl ?_
  rcases le_or 10 (n : Int) with ⟨p, q⟩ | ⟨p, q⟩
  · have p' := of_eq_true p
    have h := dec_loop m lv 20 n 0 [] (by omega) hn (by omega) (by simp)
    rw [if_neg (by omega), List.append_nil] at h
    simp only [Int.natCast_zero] at h
    simp [F62, q, h]
  · have q' := of_eq_true q
    have w1 := IntWalk.i64_in (48 + (n : Int)) (by omega)
    have w2 := IntWalk.u8_in (48 + (n : Int)) (by omega)
    have t1 : (48 + (n : Int)).toNat = 48 + n := by omega
    rw [Lib.decDigits_one (by omega)]
    simp [F62, q, w1, w2, t1]
end Go.Ev
/- Quote and its reference. Condition: none. -/
namespace Go.Ev
set_option linter.all false
def three (b : UInt8) : List UInt8 := [48 + b / 100, 48 + b / 10 % 10, 48 + b % 10]
def escB (b : UInt8) : List UInt8 := if b = 34 ∨ b = 92 then [92, b] else if b < 32 ∨ 126 < b then 92 :: three b else [b]
def quoteL (l : List UInt8) : List UInt8 := 34 :: l.flatMap escB ++ [34]
theorem escB_len (b : UInt8) : (escB b).length ≤ 4 := by
  unfold escB three; split <;> (try split) <;> simp
theorem escs_len : ∀ (l : List UInt8), (l.flatMap escB).length ≤ 4 * l.length
  | [] => by simp
  | b :: l => by have := escs_len l; have := escB_len b; simp only [List.flatMap_cons, List.length_append, List.length_cons]; omega
/-- The three digits, as the machine works them out. -/
theorem three_at (b : UInt8) : IntKind.u8.wrap (48 + IntKind.u8.wrap ((b.toNat : Int).tdiv 100)) = ((48 + b / 100 : UInt8).toNat : Int) ∧ IntKind.u8.wrap (48 + (IntKind.u8.wrap ((b.toNat : Int).tdiv 10)).tmod 10) = ((48 + b / 10 % 10 : UInt8).toNat : Int) ∧
    IntKind.u8.wrap (48 + (b.toNat : Int).tmod 10) = ((48 + b % 10 : UInt8).toNat : Int) :=
  byte_all (fun b => IntKind.u8.wrap (48 + IntKind.u8.wrap ((b.toNat : Int).tdiv 100)) = ((48 + b / 100 : UInt8).toNat : Int) ∧ IntKind.u8.wrap (48 + (IntKind.u8.wrap ((b.toNat : Int).tdiv 10)).tmod 10) = ((48 + b / 10 % 10 : UInt8).toNat : Int) ∧
    IntKind.u8.wrap (48 + (b.toNat : Int).tmod 10) = ((48 + b % 10 : UInt8).toNat : Int)) (by decide +kernel) b
theorem three_of (b : UInt8) : ∃ x y z : UInt8, three b = [x, y, z] ∧ IntKind.u8.wrap (48 + IntKind.u8.wrap ((b.toNat : Int).tdiv 100)) = (x.toNat : Int) ∧ IntKind.u8.wrap (48 + (IntKind.u8.wrap ((b.toNat : Int).tdiv 10)).tmod 10) = (y.toNat : Int) ∧
    IntKind.u8.wrap (48 + (b.toNat : Int).tmod 10) = (z.toNat : Int) := ⟨_, _, _, rfl, three_at b⟩
theorem call32 (b : UInt8) (m : Mem) (lv : Nat) : (sem T).call 67 [.int .u8 b.toNat] m lv = some ([.str (bs (three b))], m) := by
  refine call_go rfl rfl rfl ?_
  obtain ⟨x, y, z, e, h1, h2, h3⟩ := three_of b
  simp at h1 h2 h3
  simp [F67, h1, h2, h3, e]
def outQ (out : List UInt8) : AV := .sl (some 5) 1 (out.map byteRow)
theorem quote_loop (l : List UInt8) (hl : l.length ≤ 17592186044416) (m : Mem) (lv : Nat) : ∀ (d i : Nat) (out : List UInt8), i + d = l.length → out.length + 4 * d ≤ 70368744177664 + 1 → ∀ s : St, s.mask [0, 3, 4] [] = some ⟨55, lv, tmOf [(0, .str (bs l)), (3, .sl (some 5) 1 (out.map byteRow)), (4, .int .i64 (i : Int))], bxOf [], m⟩ →
    (sem T).loop [0, 3, 4] [] L28_0 s = some (.ex 0, ⟨55, lv, tmOf [(3, .sl (some 5) 1 ((out ++ (l.drop i).flatMap escB).map byteRow))], bxOf [], m⟩)
  | 0, i, out, hd, ho, s, hs => by
    obtain rfl : i = l.length := by omega
    refine loop_to (loop_end (fl := .ex 0) hs ?_ (by intro e; cases e)) (by rw [List.drop_length])
    simp [L28_0]
  | d + 1, i, out, hd, ho, s, hs => by
    have hi : i < l.length := by omega
    have hw := IntWalk.i64_in ((i : Int) + 1) (by omega)
    have hdr : l.drop i = l[i] :: l.drop (i + 1) := List.drop_eq_getElem_cons hi
    obtain ⟨b, hb⟩ : ∃ b, l[i] = b := ⟨_, rfl⟩
    rw [hdr, hb]
    rw [List.flatMap_cons, ← List.append_assoc]
    refine loop_round hs ?_ (quote_loop l hl m lv d (i + 1) (out ++ escB b) (by omega) (by have := escB_len b; rw [List.length_append]; omega))
    have z1 : out.length + 1 ≤ 140737488355328 := by omega
    have z2 : out.length + 2 ≤ 140737488355328 := by omega
    have z4 : out.length + 4 ≤ 140737488355328 := by omega
    have y1 : out.length + 1 ≤ 9223372036854775807 := by omega
    have y2 : out.length + 2 ≤ 9223372036854775807 := by omega
    have y4 : out.length + 4 ≤ 9223372036854775807 := by omega
    by_cases h1 : b = 34
    · subst h1
      simp [L28_0, hi, hb, hw, z2, y2, escB, byteRow]
    by_cases h2 : b = 92
    · subst h2
      simp [L28_0, hi, hb, hw, z2, y2, escB, byteRow]
    have g1 : ((b.toNat : Int) = 34) = False := eq_false (fun h => h1 (by apply UInt8.toNat_inj.1; have : (34 : UInt8).toNat = 34 := rfl; omega))
    have g2 : ((b.toNat : Int) = 92) = False := eq_false (fun h => h2 (by apply UInt8.toNat_inj.1; have : (92 : UInt8).toNat = 92 := rfl; omega))
    by_cases h3 : b < 32
    · have e : escB b = 92 :: three b := by simp [escB, h1, h2, h3]
      have h3 : (b.toNat : Int) < 32 := by have := UInt8.lt_iff_toNat_lt.1 h3; have e : (32 : UInt8).toNat = 32 := rfl; omega
      obtain ⟨x, y, z, e2, k1, k2, k3⟩ := three_of b
      simp at k1 k2 k3
      rw [e, e2]
      simp [L28_0, hi, hb, hw, g1, g2, h3, k1, k2, k3, z4, y4, byteRow]
    by_cases h4 : 126 < b
    · have e : escB b = 92 :: three b := by simp [escB, h1, h2, h4]
      have h4 : 126 < (b.toNat : Int) := by have := UInt8.lt_iff_toNat_lt.1 h4; have e : (126 : UInt8).toNat = 126 := rfl; omega
      have h3 : ((b.toNat : Int) < 32) = False := eq_false (by omega)
      obtain ⟨x, y, z, e2, k1, k2, k3⟩ := three_of b
      simp at k1 k2 k3
      rw [e, e2]
      simp [L28_0, hi, hb, hw, g1, g2, h3, h4, k1, k2, k3, z4, y4, byteRow]
    · have e : escB b = [b] := by simp [escB, h1, h2, h3, h4]
      have h4 : (126 < (b.toNat : Int)) = False := eq_false (fun h => h4 (UInt8.lt_iff_toNat_lt.2 (by have e : (126 : UInt8).toNat = 126 := rfl; omega)))
      have h3 : ((b.toNat : Int) < 32) = False := eq_false (fun h => h3 (UInt8.lt_iff_toNat_lt.2 (by have e : (32 : UInt8).toNat = 32 := rfl; omega)))
      rw [e]
      simp [L28_0, hi, hb, hw, g1, g2, h3, h4, z1, y1, byteRow]
theorem call11 (l : List UInt8) (hl : l.length ≤ 17592186044416) (m : Mem) (lv : Nat) : (sem T).call 28 [.str (bs l)] m lv = some ([.str (bs (quoteL l))], m) := by
  have h := quote_loop l hl m lv l.length 0 [34] (by omega) (by simp; omega)
  have := escs_len l
  have z1 : (l.flatMap escB).length + 1 + 1 ≤ 140737488355328 := by omega
  have y1 : (l.flatMap escB).length + 1 + 1 ≤ 9223372036854775807 := by omega
  simp only [List.drop_zero, Int.natCast_zero] at h
  refine call_go rfl rfl rfl ?_
  unfold quoteL
  generalize l.flatMap escB = Q at h this z1 y1
  have e : [[AV.int .u8 34]] = [34].map byteRow := rfl
  simp only [List.cons_append, List.nil_append, List.map_cons, byteRow] at h
  simp [F28, h, bytesOf_app, z1, y1]
/-- Quote's reference. -/
theorem ref_loop (l : List UInt8) (hl : l.length ≤ 17592186044416) (m : Mem) (lv : Nat) : ∀ (d i : Nat) (out : List UInt8), i + d = l.length → out.length + 4 * d ≤ 70368744177664 + 1 → ∀ s : St, s.mask [0, 3, 4] [] = some ⟨49, lv, tmOf [(0, .str (bs l)), (3, .str (bs out)), (4, .int .i64 (i : Int))], bxOf [], m⟩ →
    (sem T).loop [0, 3, 4] [] L30_0 s = some (.ex 0, ⟨49, lv, tmOf [(3, .str (bs (out ++ (l.drop i).flatMap escB)))], bxOf [], m⟩)
  | 0, i, out, hd, ho, s, hs => by
    obtain rfl : i = l.length := by omega
    refine loop_to (loop_end (fl := .ex 0) hs ?_ (by intro e; cases e)) (by rw [List.drop_length])
    simp [L30_0]
  | d + 1, i, out, hd, ho, s, hs => by
    have hi : i < l.length := by omega
    have hw := IntWalk.i64_in ((i : Int) + 1) (by omega)
    have hdr : l.drop i = l[i] :: l.drop (i + 1) := List.drop_eq_getElem_cons hi
    obtain ⟨b, hb⟩ : ∃ b, l[i] = b := ⟨_, rfl⟩
    rw [hdr, hb, List.flatMap_cons, ← List.append_assoc]
    have hx : (l.take (i + 1)).drop i = [b] := by rw [List.drop_take, hdr, hb]; simp
    have he : ((i : Int) ≤ (i : Int) + 1) = True := eq_true (by omega)
    have hn : ((i : Int) + 1).toNat = i + 1 := by omega
    have hle : ((l.length : Int) < (i : Int) + 1) = False := eq_false (by omega)
    refine loop_round hs ?_ (ref_loop l hl m lv d (i + 1) (out ++ escB b) (by omega) (by have := escB_len b; rw [List.length_append]; omega))
    have z1 : out.length + 1 ≤ 4611686018427387904 := by omega
    have z2 : out.length + 1 + 1 ≤ 4611686018427387904 := by omega
    have z4 : out.length + 1 + 3 ≤ 4611686018427387904 := by omega
    have c32 := call32 b
    by_cases h1 : b = 34
    · subst h1
      simp [L30_0, hi, hb, hw, he, hle, hx, z1, z2, escB]
    by_cases h2 : b = 92
    · subst h2
      simp [L30_0, hi, hb, hw, he, hle, hx, z1, z2, escB]
    have g1 : ((b.toNat : Int) = 34) = False := eq_false (fun h => h1 (by apply UInt8.toNat_inj.1; have : (34 : UInt8).toNat = 34 := rfl; omega))
    have g2 : ((b.toNat : Int) = 92) = False := eq_false (fun h => h2 (by apply UInt8.toNat_inj.1; have : (92 : UInt8).toNat = 92 := rfl; omega))
    have l3 : (three b).length = 3 := rfl
    by_cases h3 : b < 32
    · have e : escB b = 92 :: three b := by simp [escB, h1, h2, h3]
      have h3 : (b.toNat : Int) < 32 := by have := UInt8.lt_iff_toNat_lt.1 h3; have e : (32 : UInt8).toNat = 32 := rfl; omega
      rw [e]
      simp [L30_0, hi, hb, hw, g1, g2, h3, z1, z4, l3, c32]
    by_cases h4 : 126 < b
    · have e : escB b = 92 :: three b := by simp [escB, h1, h2, h4]
      have h4 : 126 < (b.toNat : Int) := by have := UInt8.lt_iff_toNat_lt.1 h4; have e : (126 : UInt8).toNat = 126 := rfl; omega
      have h3 : ((b.toNat : Int) < 32) = False := eq_false (by omega)
      rw [e]
      simp [L30_0, hi, hb, hw, g1, g2, h3, h4, z1, z4, l3, c32]
    · have e : escB b = [b] := by simp [escB, h1, h2, h3, h4]
      have h4 : (126 < (b.toNat : Int)) = False := eq_false (fun h => h4 (UInt8.lt_iff_toNat_lt.2 (by have e : (126 : UInt8).toNat = 126 := rfl; omega)))
      have h3 : ((b.toNat : Int) < 32) = False := eq_false (fun h => h3 (UInt8.lt_iff_toNat_lt.2 (by have e : (32 : UInt8).toNat = 32 := rfl; omega)))
      rw [e]
      simp [L30_0, hi, hb, hw, he, hle, hx, g1, g2, h3, h4, z1]
theorem call12 (l : List UInt8) (hl : l.length ≤ 17592186044416) (m : Mem) (lv : Nat) : (sem T).call 30 [.str (bs l)] m lv = some ([.str (bs (quoteL l))], m) := by
  have h := ref_loop l hl m lv l.length 0 [34] (by omega) (by simp; omega)
  have := escs_len l
  have z1 : (l.flatMap escB).length + 1 + 1 ≤ 4611686018427387904 := by omega
  simp only [List.drop_zero, Int.natCast_zero] at h
  refine call_go rfl rfl rfl ?_
  unfold quoteL
  generalize l.flatMap escB = Q at h this z1
  simp only [List.cons_append, List.nil_append] at h
  simp [F30, h, z1]
end Go.Ev
