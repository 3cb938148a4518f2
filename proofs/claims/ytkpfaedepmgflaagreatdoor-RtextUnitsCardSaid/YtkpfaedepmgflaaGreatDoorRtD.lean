/- Duration and its reference. Condition: none. -/
import Derived.Test.YtkpfaedepmgflaaGreatDoorRtN
import Derived.Test.YtkpfaedepmgflaaGreatDoorRtD0
namespace Go.Ev
set_option linter.all false
def wdhms : List UInt8 := [119, 100, 104, 109, 115]
theorem call113 (l : List UInt8) (c : Int) (m : Mem) (lv : Nat) : (sem T).call 113 [.str (bs l), .int .u8 c] m lv = some ([.int .i64 (n2 .idxByte (bs l) c)], m) := by
  have h : ∀ m lv, (sem T).call 146 [.str (bs l), .int .u8 c] m lv = some ([.int .i64 (n2 .idxByte (bs l) c)], m) := fun m lv => call_go rfl rfl rfl (by simp [F146])
  refine call_go rfl rfl rfl ?_
  simp [F113, h]
theorem idx_pl (b : UInt8) : n2 .idxByte (bs wdhms) (b.toNat : Int) = (pl b : Int) - 1 := byte_all (fun b => n2 .idxByte (bs wdhms) (b.toNat : Int) = (pl b : Int) - 1) (by decide +kernel) b
theorem idx_out : ∀ (l : List UInt8) (c : UInt8), (∀ b ∈ l, b ≠ c) → Lib.indexByte l c = -1
  | [], c, h => rfl
  | b :: l, c, h => by
    have h1 : (b == c) = false := by rw [beq_eq_false_iff_ne]; exact h b (List.mem_cons_self ..)
    rw [Lib.indexByte, h1, idx_out l c (fun x hx => h x (List.mem_cons_of_mem _ hx))]
    rfl
theorem idx_hi (l : List UInt8) (q : UInt8) (hl : l.all (fun b => decide (b.toNat < 128)) = true) (hq : 128 ≤ q.toNat) : n2 .idxByte (bs l) (q.toNat : Int) = -1 := by
  show Lib.indexByte (bs l).data.toList ((q.toNat : Int)).toNat.toUInt8 = -1
  rw [bs_data, Int.toNat_natCast]
  have : q.toNat.toUInt8 = q := UInt8.ofNat_toNat
  rw [this]
  refine idx_out l q fun b hb e => ?_
  have := List.all_eq_true.1 hl b hb
  rw [decide_eq_true_eq, e] at this
  omega
set_option maxRecDepth 100000 in
theorem call114 (c : Nat) (h : Utf8.valid c = true) (m : Mem) (lv : Nat) : (sem T).call 114 [.int .i32 (c : Int)] m lv = some ([.bool true], m) := by
  refine call_go rfl rfl rfl ?_
  have h : c < 55296 ∨ (57344 ≤ c ∧ c ≤ 1114111) := by
    simp only [Utf8.valid, Bool.or_eq_true, Bool.and_eq_true, decide_eq_true_eq] at h
    omega
  rcases le_or 55296 (c : Int) with ⟨p, q⟩ | ⟨p, q⟩
  · have h3 : (57343 < (c : Int)) = True := eq_true (by have := of_eq_true p; omega)
    have h4 : ((c : Int) ≤ 1114111) = True := eq_true (by have := of_eq_true p; omega)
    simp [F114, q, h3, h4]
  · simp [F114, q]
theorem call67_lo (b : UInt8) (hb : b.toNat < 128) (m : Mem) (lv : Nat) : (sem T).call 67 [.str (bs wdhms), .int .i32 b.toNat] m lv = some ([.int .i64 ((pl b : Int) - 1)], m) := by
  refine call_go rfl rfl rfl ?_
  have h1 : ((b.toNat : Int) < 128) = True := eq_true (by omega)
  have h2 := IntWalk.u8_in (b.toNat : Int) (by omega)
  have h3 := call113 wdhms b.toNat
  rw [idx_pl] at h3
  simp [F67, h1, h2, h3]
theorem re_loop (m : Mem) (lv : Nat) : ∀ (d i : Nat), i + d = 5 → ∀ s : St, s.mask [175] [175] = some ⟨187, lv, tmOf [(175, .ptr lv 175 0)], bxOf [(175, some (.iter (bs wdhms) i))], m⟩ → (sem T).loop [175] [175] L67_4 s = some (.ex 9, ⟨187, lv, tmOf [], bxOf [], m⟩)
  | 0, i, hd, s, hs => by
    obtain rfl : i = 5 := by omega
    refine loop_end (fl := .ex 9) hs ?_ (by intro e; cases e)
    simp [L67_4, wdhms]
  | d + 1, i, hd, s, hs => by
    have hf : ∀ j : Fin 5, (Utf8.decode (bs wdhms) j.val).2 = 1 ∧ (Utf8.decode (bs wdhms) j.val).1 < 65533 := by decide +kernel
    have h1 : (Utf8.decode (bs wdhms) i).2 = 1 := (hf ⟨i, by omega⟩).1
    have h2 : (Utf8.decode (bs wdhms) i).1 < 65533 := (hf ⟨i, by omega⟩).2
    have h3 : (((Utf8.decode (bs wdhms) i).1 : Int) = 65533) = False := eq_false (by omega)
    have h4 : i < wdhms.length := by simp [wdhms]; omega
    refine loop_round hs ?_ (re_loop m lv d (i + 1) (by omega))
    generalize wdhms = w at *
    simp [L67_4, h1, h3, h4]
theorem enc_hi (c : Nat) (h : Utf8.valid c = true) (hc : 128 ≤ c) : ∃ p q, Utf8.encode c = bs (p ++ [q]) ∧ 1 ≤ p.length ∧ p.length ≤ 3 ∧ 128 ≤ q.toNat := by
  have hq : 128 ≤ (UInt8.ofNat (0x80 + c % 64)).toNat := by
    rw [UInt8.toNat_ofNat']
    omega
  unfold Utf8.encode
  simp only [h, if_true, Int.toNat_natCast]
  rw [if_neg (by omega)]
  split
  · exact ⟨[_], _, rfl, by simp, by simp, hq⟩
  · split
    · exact ⟨[_, _], _, rfl, by simp, by simp, hq⟩
    · exact ⟨[_, _, _], _, rfl, by simp, by simp, hq⟩
theorem call67_hi (c : Nat) (h : Utf8.valid c = true) (hc : 128 ≤ c) (m : Mem) (lv : Nat) : (sem T).call 67 [.str (bs wdhms), .int .i32 (c : Int)] m lv = some ([.int .i64 (-1)], m) := by
  refine call_go rfl rfl rfl ?_
  have h1 : ((c : Int) < 128) = False := eq_false (by omega)
  by_cases he : c = 65533
  · subst he
    have hl := re_loop m lv 5 0 (by omega)
    simp [F67, hl]
  · have h2 : ((c : Int) = 65533) = False := eq_false (by omega)
    have h3 := call114 c h
    obtain ⟨p, q, hp, hp1, hp3, hq⟩ := enc_hi c h hc
    obtain ⟨L, hL⟩ : ∃ L, p ++ [q] = L := ⟨_, rfl⟩
    have hLk : p.length < L.length := by rw [← hL]; simp
    have hLn : L.length = p.length + 1 := by rw [← hL]; simp
    have hLq : L[p.length] = q := by subst hL; simp
    obtain ⟨k, hk⟩ : ∃ k, p.length = k := ⟨_, rfl⟩
    simp only [hk] at hp1 hp3 hLk hLq hLn
    have hW5 : wdhms.length = 5 := rfl
    have hWk : k < wdhms.length := by omega
    obtain ⟨w, hw⟩ : ∃ w, wdhms[k] = w := ⟨_, rfl⟩
    have hall : wdhms.all (fun b => decide (b.toNat < 128)) = true := by decide
    have hwq : ((w.toNat : Int) = (q.toNat : Int)) = False := eq_false (fun e => by
      have := List.all_eq_true.1 hall w (by rw [← hw]; exact List.getElem_mem _)
      rw [decide_eq_true_eq] at this
      omega)
    have hd : n2 .idxByte (bs (wdhms.drop (k + 1))) (q.toNat : Int) = -1 := idx_hi _ q (by
      rw [List.all_eq_true] at hall ⊢
      exact fun x hx => hall x (List.mem_of_mem_drop hx)) hq
    have c1 := call113 (wdhms.drop (k + 1)) q.toNat
    rw [hd] at c1
    have w1 := IntWalk.i64_in ((k : Int) + 1) (by omega)
    have k0 : ((0 : Int) ≤ (k : Int) + 1) = True := eq_true (by omega)
    have k5 : ((k : Int) + 1 ≤ (wdhms.length : Int)) = True := eq_true (by omega)
    have k6 : ((wdhms.length : Int) < (k : Int) + 1) = False := eq_false (by omega)
    have hl : ∀ s : St, s.mask [0, 7, 8, 9] [] = some ⟨187, lv, tmOf [(0, .str (bs wdhms)), (7, .str (bs L)), (8, .int .i64 (k : Int)), (9, .int .i64 (k : Int))], bxOf [], m⟩ → (sem T).loop [0, 7, 8, 9] [] L67_3 s = some (.ret, ⟨187, lv, tmOf [(4, .int .i64 (-1))], bxOf [], m⟩) := by
      intro s hs
      refine loop_end (fl := .ret) hs ?_ (by intro e; cases e)
      simp [L67_3, hWk, hw, hLk, hLq, hwq, w1, k0, k5, k6, c1]
    rw [hL] at hp
    have w2 := IntWalk.i64_in (k : Int) (by omega)
    have w3 : IntKind.i64.wrap ((L.length : Int) - 1) = (k : Int) := by rw [IntWalk.i64_in _ (by omega)]; omega
    generalize wdhms = W at *
    simp [F67, h1, h2, h3, hp, hl, w2, w3]
theorem call35_lo (b : UInt8) (hb : b.toNat < 128) (m : Mem) (lv : Nat) : (sem T).call 35 [.int .i32 b.toNat] m lv = some ([.int .i64 (pl b : Int)], m) := by
  refine call_go rfl rfl rfl ?_
  have h := call67_lo b hb
  have hp := pl_le b
  have w : IntKind.i64.wrap (1 + ((pl b : Int) - 1)) = (pl b : Int) := by rw [IntWalk.i64_in _ (by omega)]; omega
  have e : bs [119, 100, 104, 109, 115] = bs wdhms := rfl
  simp [F35, e, h, w]
theorem call35_hi (c : Nat) (h : Utf8.valid c = true) (hc : 128 ≤ c) (m : Mem) (lv : Nat) : (sem T).call 35 [.int .i32 (c : Int)] m lv = some ([.int .i64 0], m) := by
  refine call_go rfl rfl rfl ?_
  have h := call67_hi c h hc
  have e : bs [119, 100, 104, 109, 115] = bs wdhms := rfl
  simp [F35, e, h]
theorem ne_of (b : UInt8) (k : Nat) (hk : k < 256) (h : b ≠ UInt8.ofNat k) : ((b.toNat : Int) = (k : Int)) = False := eq_false (fun e => h (by apply UInt8.toNat_inj.1; rw [UInt8.toNat_ofNat']; omega))
theorem unit_cases (b : UInt8) : b = 119 ∨ b = 100 ∨ b = 104 ∨ b = 109 ∨ b = 115 ∨ (pl b = 0 ∧ sec b = 1 ∧ ((b.toNat : Int) = 119) = False ∧ ((b.toNat : Int) = 100) = False ∧ ((b.toNat : Int) = 104) = False ∧ ((b.toNat : Int) = 109) = False ∧ ((b.toNat : Int) = 115) = False) := by
  by_cases h1 : b = 119
  · exact .inl h1
  by_cases h2 : b = 100
  · exact .inr (.inl h2)
  by_cases h3 : b = 104
  · exact .inr (.inr (.inl h3))
  by_cases h4 : b = 109
  · exact .inr (.inr (.inr (.inl h4)))
  by_cases h5 : b = 115
  · exact .inr (.inr (.inr (.inr (.inl h5))))
  exact .inr (.inr (.inr (.inr (.inr ⟨by simp [pl, h1, h2, h3, h4, h5], by simp [sec, h1, h2, h3, h4], ne_of b 119 (by omega) h1, ne_of b 100 (by omega) h2, ne_of b 104 (by omega) h3, ne_of b 109 (by omega) h4, ne_of b 115 (by omega) h5⟩))))
theorem pl_hi (b : UInt8) (h : 128 ≤ b.toNat) : pl b = 0 := by
  rcases unit_cases b with rfl | rfl | rfl | rfl | rfl | ⟨h0, _⟩
  · exact absurd h (by decide)
  · exact absurd h (by decide)
  · exact absurd h (by decide)
  · exact absurd h (by decide)
  · exact absurd h (by decide)
  · exact h0
theorem call36 (b : UInt8) (m : Mem) (lv : Nat) : (sem T).call 36 [.int .i32 b.toNat] m lv = some ([.int .i64 (sec b : Int)], m) := by
  refine call_go rfl rfl rfl ?_
  rcases unit_cases b with rfl | rfl | rfl | rfl | rfl | ⟨_, h, h1, h2, h3, h4, h5⟩
  · simp [F36, sec]
  · simp [F36, sec]
  · simp [F36, sec]
  · simp [F36, sec]
  · simp [F36, sec]
  · simp [F36, h, h1, h2, h3, h4, h5]
def refU (b : UInt8) : List AV := if pl b = 0 then [.int .i64 0, .int .i64 (-1)] else [.int .i64 (sec b), .int .i64 ((pl b : Int) - 1)]
theorem call37 (b : UInt8) (m : Mem) (lv : Nat) : (sem T).call 37 [.int .u8 b.toNat] m lv = some (refU b, m) := by
  refine call_go rfl rfl rfl ?_
  rcases unit_cases b with rfl | rfl | rfl | rfl | rfl | ⟨h0, h, h1, h2, h3, h4, h5⟩
  · simp [F37, refU, sec, pl]
  · simp [F37, refU, sec, pl]
  · simp [F37, refU, sec, pl]
  · simp [F37, refU, sec, pl]
  · simp [F37, refU, sec, pl]
  · simp [F37, refU, h0, h, h1, h2, h3, h4, h5]
theorem dec_at (l : List UInt8) (i : Nat) (hi : i < l.length) : ((bs l).get! (i + 0)).toNat = l[i].toNat := by
  have : (bs l).get! i = l[i] := by
    show (bs l).data[i]! = _
    simp [hi]
  rw [Nat.add_zero, this]
theorem dec_lo (l : List UInt8) (i : Nat) (hi : i < l.length) (h : l[i].toNat < 128) : Utf8.decode (bs l) i = (l[i].toNat, 1) := by
  unfold Utf8.decode
  simp only [dec_at l i hi]
  rw [if_pos h]
theorem dec_hi (l : List UInt8) (i : Nat) (hi : i < l.length) (h : 128 ≤ l[i].toNat) : ∃ c n, Utf8.decode (bs l) i = (c, n) ∧ 128 ≤ c ∧ Utf8.valid c = true := by
  unfold Utf8.decode
  simp only [dec_at l i hi]
  rw [if_neg (by omega)]
  have e : 128 ≤ Utf8.runeError ∧ Utf8.valid (Utf8.runeError : Nat) = true := by decide
  split
  · split
    · rename_i h1
      refine ⟨_, _, rfl, h1, ?_⟩
      simp only [Utf8.valid, Bool.or_eq_true, Bool.and_eq_true, decide_eq_true_eq]
      omega
    · exact ⟨_, _, rfl, e⟩
  · split
    · split
      · rename_i h1
        simp only [Bool.and_eq_true, decide_eq_true_eq] at h1
        exact ⟨_, _, rfl, by omega, h1.2⟩
      · exact ⟨_, _, rfl, e⟩
    · split
      · split
        · rename_i h1
          simp only [Bool.and_eq_true, decide_eq_true_eq] at h1
          exact ⟨_, _, rfl, by omega, h1.2⟩
        · exact ⟨_, _, rfl, e⟩
      · exact ⟨_, _, rfl, e⟩
end Go.Ev
