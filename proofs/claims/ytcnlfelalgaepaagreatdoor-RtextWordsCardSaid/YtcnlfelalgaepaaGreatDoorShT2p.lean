/- The evaluator's texts answer as the plain functions. Condition: none. -/
import Derived.Test.YtcnlfelalgaepaaGreatDoorShD
import Derived.Test.YtcnlfelalgaepaaGreatDoorShVap
import Derived.Test.YtcnlfelalgaepaaGreatDoorShVbp
import Derived.Test.YtcnlfelalgaepaaGreatDoorRsL
namespace Go.Ev
set_option linter.all false
set_option maxRecDepth 10000
set_option maxHeartbeats 8000000
@[simp] theorem Sb_8f3ef309_is : Sb_8f3ef309 = bs Sl_8f3ef309 := rfl
@[simp] theorem Sb_c9535661_is : Sb_c9535661 = bs Sl_c9535661 := rfl
theorem i_strconv_small_call {N : Nat} {a0 : Int} {r : List UInt8} (h : i_strconv_small N a0 = some r) (m : Mem) (lv : Nat) : (sem T).call 118 [(.int .i64 a0)] m lv = some (((fun p => ([(.str (bs p))], m)) : _ → List AV × Mem) r) := by
  revert r
  show Ok _ _
  unfold i_strconv_small
  repeat' (with_reducible first | (refine Ok.ite (fun hc => ?_) (fun hc => ?_) <;> try subst hc) | (refine Ok.bind (fun _ h => ?_)))
  all_goals (refine Ok.some (call_go rfl rfl rfl ?_); simp [F118, *])
theorem math_bits_Len64_call {N : Nat} {a0 : Int} {r : Int} (h : math_bits_Len64 N a0 = some r) (m : Mem) (lv : Nat) : (sem T).call 144 [(.int .u64 a0)] m lv = some (((fun p => ([(.int .i64 p)], m)) : _ → List AV × Mem) r) := by
  revert r
  show Ok _ _
  unfold math_bits_Len64
  repeat' (with_reducible first | (refine Ok.ite (fun hc => ?_) (fun hc => ?_) <;> try subst hc) | (refine Ok.bind (fun _ h => ?_)))
  all_goals (refine Ok.some (call_go rfl rfl rfl ?_); simp [F144, *])
theorem i_strconv_log10Pow2_call {N : Nat} {a0 : Int} {r : Int} (h : i_strconv_log10Pow2 N a0 = some r) (m : Mem) (lv : Nat) : (sem T).call 143 [(.int .i64 a0)] m lv = some (((fun p => ([(.int .i64 p)], m)) : _ → List AV × Mem) r) := by
  revert r
  show Ok _ _
  unfold i_strconv_log10Pow2
  repeat' (with_reducible first | (refine Ok.ite (fun hc => ?_) (fun hc => ?_) <;> try subst hc) | (refine Ok.bind (fun _ h => ?_)))
  all_goals (refine Ok.some (call_go rfl rfl rfl ?_); simp [F143, *])
theorem i_strconv_bool2_int_call {N : Nat} {a0 : Bool} {r : Int} (h : i_strconv_bool2_int N a0 = some r) (m : Mem) (lv : Nat) : (sem T).call 145 [(.bool a0)] m lv = some (((fun p => ([(.int .i64 p)], m)) : _ → List AV × Mem) r) := by
  revert r
  show Ok _ _
  unfold i_strconv_bool2_int
  repeat' (with_reducible first | (refine Ok.ite (fun hc => ?_) (fun hc => ?_) <;> try subst hc))
  all_goals (refine Ok.some (call_go rfl rfl rfl ?_); simp [F145, *])
theorem i_strconv_numDigits_call {N : Nat} {a0 : Int} {r : Int} (h : i_strconv_numDigits N a0 = some r) (m : Mem) (lv : Nat) : (sem T).call 119 [(.int .u64 a0)] m lv = some (((fun p => ([(.int .i64 p)], m)) : _ → List AV × Mem) r) := by
  revert r
  show Ok _ _
  unfold i_strconv_numDigits
  repeat' (with_reducible first | (refine Ok.ite (fun hc => ?_) (fun hc => ?_) <;> try subst hc) | exact Ok.none | (refine Ok.bind (fun _ h => ?_); ((first | have h := i_strconv_bool2_int_call h | have h := i_strconv_log10Pow2_call h | have h := math_bits_Len64_call h | skip); try simp only [List.map_nil, List.map_cons, sRow, iRow, bRow, eRow] at h)))
  all_goals (refine Ok.some (call_go rfl rfl rfl ?_); simp [F119, *])
theorem i_strconv_formatBase10_L0_ok (N : Nat) (m : Mem) (lv : Nat) (cl0 sl0 : Nat) (hc0 : cl0 < lv) : ∀ (n : Nat) (p0 p1 : Nat) (p2 p3 : Int) (p4 : List UInt8), Ok (i_strconv_formatBase10_L0 N n p0 p1 p2 p3 p4) (fun r => ∀ s : St, s.mask [0, 1, 4] [] = some ⟨167, lv, tmOf [(0, (.asl cl0 sl0 p0 p1 1)), (1, (.int .u64 p2)), (4, (.int .i64 p3))], bxOf [], (updM m cl0 sl0 (.cells 125 (fl byteRow p4)))⟩ → (sem T).loop [0, 1, 4] [] L120_0 s = some (((fun p => (.ex 0, ⟨167, lv, tmOf [(0, (.asl cl0 sl0 p0 p1 1)), (1, (.int .u64 p.1)), (4, (.int .i64 p.2.1))], bxOf [], (updM m cl0 sl0 (.cells 125 (fl byteRow p.2.2)))⟩)) : _ → Fl × St) r))
  | 0, _, _, _, _, _ => Ok.none
  | n + 1, p0, p1, p2, p3, p4 => by
    have e0_1 : (cl0 = lv) = False := eq_false (by omega)
    have e0_2 : (lv = cl0) = False := eq_false (by omega)
    have e0_3 : cl0 < lv + 1 := by omega
    unfold i_strconv_formatBase10_L0
    repeat' (with_reducible first | (refine Ok.ite (fun hc => ?_) (fun hc => ?_) <;> try subst hc) | exact Ok.none | (refine Ok.bind (fun _ h => ?_)))
    all_goals first
      | (refine Ok.some (fun s hs => loop_end hs ?_ (by intro e; cases e)); simp [L120_0, *]; done)
      | (refine fun r hr s hs => loop_round hs ?_ (i_strconv_formatBase10_L0_ok N m lv cl0 sl0 hc0 n _ _ _ _ _ r hr); simp [L120_0, *]; done)
theorem i_strconv_formatBase10_ok (N : Nat) (a0o a0m : Nat) (a0 : List UInt8) (a1 : Int) (m : Mem) (lv : Nat) (cl0 sl0 : Nat) (hc0 : cl0 < lv) : Ok (i_strconv_formatBase10 N a0o a0m a0 a1) (fun r => (sem T).call 120 [(.asl cl0 sl0 a0o a0m 1), (.int .u64 a1)] (updM m cl0 sl0 (.cells 125 (fl byteRow a0))) lv = some (((fun p => ([], (updM m cl0 sl0 (.cells 125 (fl byteRow p))))) : _ → List AV × Mem) r)) := by
  have e0_1 : (cl0 = lv) = False := eq_false (by omega)
  have e0_2 : (lv = cl0) = False := eq_false (by omega)
  have e0_3 : cl0 < lv + 1 := by omega
  unfold i_strconv_formatBase10
  repeat' (with_reducible first | (refine Ok.ite (fun hc => ?_) (fun hc => ?_) <;> try subst hc) | exact Ok.none | (refine Ok.bind (fun _ h => ?_); ((first | have h := (i_strconv_formatBase10_L0_ok N m lv cl0 sl0 hc0 _ _ _ _ _ _).of h | skip); try simp only [List.map_nil, List.map_cons, sRow, iRow, bRow, eRow] at h)))
  all_goals (refine Ok.some (call_go rfl rfl rfl ?_); simp [F120, *])
theorem i_strconv_formatBase10_call {N : Nat} {a0o a0m : Nat} {a0 : List UInt8} {a1 : Int} {r : List UInt8} (h : i_strconv_formatBase10 N a0o a0m a0 a1 = some r) (M : Mem) (lv : Nat) (cl0 sl0 : Nat) (hc0 : cl0 < lv) (hm0 : M cl0 sl0 = some (.cells 125 (fl byteRow a0))) : (sem T).call 120 [(.asl cl0 sl0 a0o a0m 1), (.int .u64 a1)] M lv = some (((fun p => ([], (updM M cl0 sl0 (.cells 125 (fl byteRow p))))) : _ → List AV × Mem) r) := (congrArg (fun x => (sem T).call 120 _ x lv) (updM_self hm0)).symm.trans ((i_strconv_formatBase10_ok N a0o a0m a0 a1 M lv cl0 sl0 hc0).of h)
theorem i_strconv_isPowerOfTwo_call {N : Nat} {a0 : Int} {r : Bool} (h : i_strconv_isPowerOfTwo N a0 = some r) (m : Mem) (lv : Nat) : (sem T).call 146 [(.int .i64 a0)] m lv = some (((fun p => ([(.bool p)], m)) : _ → List AV × Mem) r) := by
  revert r
  show Ok _ _
  unfold i_strconv_isPowerOfTwo
  repeat' (with_reducible first | (refine Ok.ite (fun hc => ?_) (fun hc => ?_) <;> try subst hc))
  all_goals (refine Ok.some (call_go rfl rfl rfl ?_); simp [F146, *])
theorem i_strconv_formatBits_L1_ok (N : Nat) (m : Mem) (lv : Nat) : ∀ (n : Nat) (p0 : List UInt8) (p1 : Int) (p2 p3 : Bool) (p4 p5 : List UInt8) (p6 p7 p8 p9 : Int) (p10 : List UInt8), Ok (i_strconv_formatBits_L1 N n p0 p1 p2 p3 p4 p5 p6 p7 p8 p9 p10) (fun r => ∀ s : St, s.mask [0, 1, 3, 4, 10, 11, 12, 13, 14, 15, 16] [12] = some ⟨102, lv, tmOf [(0, (.sl none 1 (List.map byteRow p0))), (1, (.int .u64 p1)), (3, (.bool p2)), (4, (.bool p3)), (10, (.sl (some 5) 1 (List.map byteRow p4))), (11, (.str (bs p5))), (12, (.ptr lv 12 0)), (13, (.int .i64 p6)), (14, (.int .u64 p7)), (15, (.int .u64 p8)), (16, (.int .u64 p9))], bxOf [(12, some (.cells 148 (fl byteRow p10)))], m⟩ → (sem T).loop [0, 1, 3, 4, 10, 11, 12, 13, 14, 15, 16] [12] L121_1 s = some (((fun p => (.ex 0, ⟨102, lv, tmOf [(0, (.sl none 1 (List.map byteRow p0))), (1, (.int .u64 p.1)), (3, (.bool p2)), (4, (.bool p3)), (10, (.sl (some 5) 1 (List.map byteRow p4))), (11, (.str (bs p5))), (12, (.ptr lv 12 0)), (13, (.int .i64 p.2.1))], bxOf [(12, some (.cells 148 (fl byteRow p.2.2)))], m⟩)) : _ → Fl × St) r))
  | 0, _, _, _, _, _, _, _, _, _, _, _ => Ok.none
  | n + 1, p0, p1, p2, p3, p4, p5, p6, p7, p8, p9, p10 => by
    unfold i_strconv_formatBits_L1
    repeat' (with_reducible first | (refine Ok.ite (fun hc => ?_) (fun hc => ?_) <;> try subst hc) | exact Ok.none | (refine Ok.bind (fun _ h => ?_)))
    all_goals first
      | (refine Ok.some (fun s hs => loop_end hs ?_ (by intro e; cases e)); simp [L121_1, *]; done)
      | (refine fun r hr s hs => loop_round hs ?_ (i_strconv_formatBits_L1_ok N m lv n _ _ _ _ _ _ _ _ _ _ _ r hr); simp [L121_1, *]; done)
theorem i_strconv_formatBits_L0_ok (N : Nat) (m : Mem) (lv : Nat) : ∀ (n : Nat) (p0 : List UInt8) (p1 : Int) (p2 p3 : Bool) (p4 p5 : List UInt8) (p6 p7 : Int) (p8 : List UInt8), Ok (i_strconv_formatBits_L0 N n p0 p1 p2 p3 p4 p5 p6 p7 p8) (fun r => ∀ s : St, s.mask [0, 1, 3, 4, 10, 11, 12, 13, 17] [12] = some ⟨102, lv, tmOf [(0, (.sl none 1 (List.map byteRow p0))), (1, (.int .u64 p1)), (3, (.bool p2)), (4, (.bool p3)), (10, (.sl (some 5) 1 (List.map byteRow p4))), (11, (.str (bs p5))), (12, (.ptr lv 12 0)), (13, (.int .i64 p6)), (17, (.int .u64 p7))], bxOf [(12, some (.cells 148 (fl byteRow p8)))], m⟩ → (sem T).loop [0, 1, 3, 4, 10, 11, 12, 13, 17] [12] L121_0 s = some (((fun p => (.ex 2, ⟨102, lv, tmOf [(0, (.sl none 1 (List.map byteRow p0))), (1, (.int .u64 p.1)), (3, (.bool p2)), (4, (.bool p3)), (10, (.sl (some 5) 1 (List.map byteRow p4))), (11, (.str (bs p5))), (12, (.ptr lv 12 0)), (13, (.int .i64 p.2.1))], bxOf [(12, some (.cells 148 (fl byteRow p.2.2)))], m⟩)) : _ → Fl × St) r))
  | 0, _, _, _, _, _, _, _, _, _ => Ok.none
  | n + 1, p0, p1, p2, p3, p4, p5, p6, p7, p8 => by
    unfold i_strconv_formatBits_L0
    repeat' (with_reducible first | (refine Ok.ite (fun hc => ?_) (fun hc => ?_) <;> try subst hc) | exact Ok.none | (refine Ok.bind (fun _ h => ?_)))
    all_goals first
      | (refine Ok.some (fun s hs => loop_end hs ?_ (by intro e; cases e)); simp [L121_0, *]; done)
      | (refine fun r hr s hs => loop_round hs ?_ (i_strconv_formatBits_L0_ok N m lv n _ _ _ _ _ _ _ _ _ r hr); simp [L121_0, *]; done)
theorem i_strconv_formatBits_call {N : Nat} {a0 : List UInt8} {a1 a2 : Int} {a3 a4 : Bool} {r : List UInt8 × List UInt8} (h : i_strconv_formatBits N a0 a1 a2 a3 a4 = some r) (m : Mem) (lv : Nat) : (sem T).call 121 [(.sl none 1 (List.map byteRow a0)), (.int .u64 a1), (.int .i64 a2), (.bool a3), (.bool a4)] m lv = some (((fun p => ([(.sl (some 5) 1 (List.map byteRow p.1)), (.str (bs p.2))], m)) : _ → List AV × Mem) r) := by
  revert r
  show Ok _ _
  unfold i_strconv_formatBits
  repeat' (with_reducible first | (refine Ok.ite (fun hc => ?_) (fun hc => ?_) <;> try subst hc) | exact Ok.none | (refine Ok.bind (fun _ h => ?_); ((first | have h := i_strconv_isPowerOfTwo_call h | have h := tzI_call h | have h := (i_strconv_formatBits_L0_ok N m lv _ _ _ _ _ _ _ _ _ _).of h | have h := (i_strconv_formatBits_L1_ok N m lv _ _ _ _ _ _ _ _ _ _ _ _).of h | skip); try simp only [List.map_nil, List.map_cons, sRow, iRow, bRow, eRow] at h)))
  all_goals (refine Ok.some (call_go rfl rfl rfl ?_); simp [F121, *])
theorem i_strconv_FormatUint_call {N : Nat} {a0 a1 : Int} {r : List UInt8} (h : i_strconv_FormatUint N a0 a1 = some r) (m : Mem) (lv : Nat) : (sem T).call 91 [(.int .u64 a0), (.int .i64 a1)] m lv = some (((fun p => ([(.str (bs p))], m)) : _ → List AV × Mem) r) := by
  revert r
  show Ok _ _
  unfold i_strconv_FormatUint
  repeat' (with_reducible first | (refine Ok.ite (fun hc => ?_) (fun hc => ?_) <;> try subst hc) | exact Ok.none | (refine Ok.bind (fun _ h => ?_); ((first | have h := i_strconv_formatBase10_call h | have h := i_strconv_formatBits_call h | have h := i_strconv_numDigits_call h | have h := i_strconv_small_call h | skip); try simp only [List.map_nil, List.map_cons, sRow, iRow, bRow, eRow] at h)))
  all_goals (refine Ok.some (call_go rfl rfl rfl ?_); simp [F91, *])
theorem strconv_FormatUint_call {N : Nat} {a0 a1 : Int} {r : List UInt8} (h : strconv_FormatUint N a0 a1 = some r) (m : Mem) (lv : Nat) : (sem T).call 46 [(.int .u64 a0), (.int .i64 a1)] m lv = some (((fun p => ([(.str (bs p))], m)) : _ → List AV × Mem) r) := by
  revert r
  show Ok _ _
  unfold strconv_FormatUint
  repeat' (with_reducible first | (refine Ok.ite (fun hc => ?_) (fun hc => ?_) <;> try subst hc) | (refine Ok.bind (fun _ h => ?_); ((first | have h := i_strconv_FormatUint_call h | skip); try simp only [List.map_nil, List.map_cons, sRow, iRow, bRow, eRow] at h)))
  all_goals (refine Ok.some (call_go rfl rfl rfl ?_); simp [F46, *])
theorem addr_groupsOf_L0_ok (N : Nat) (m : Mem) (lv : Nat) : ∀ (n : Nat) (p0 : Int) (p1 : Bool) (p2 p3 : Int) (p4 p5 : List Int), Ok (addr_groupsOf_L0 N n p0 p1 p2 p3 p4 p5) (fun r => ∀ s : St, s.mask [1, 2, 3, 5] [1, 2, 3] = some ⟨29, lv, tmOf [(1, (.ptr lv 1 0)), (2, (.ptr lv 2 0)), (3, (.ptr lv 3 0)), (5, (.int .i64 p0))], bxOf [(1, some (.cells 24 [(.bool p1), (.int .u64 p2), (.int .u64 p3)])), (2, some (.cells 72 (fl (iRow .u16) p4))), (3, some (.cells 72 (fl (iRow .u16) p5)))], m⟩ → (sem T).loop [1, 2, 3, 5] [1, 2, 3] L47_0 s = some (((fun p => (.ex 0, ⟨29, lv, tmOf [(2, (.ptr lv 2 0)), (3, (.ptr lv 3 0))], bxOf [(2, some (.cells 72 (fl (iRow .u16) p4))), (3, some (.cells 72 (fl (iRow .u16) p)))], m⟩)) : _ → Fl × St) r))
  | 0, _, _, _, _, _, _ => Ok.none
  | n + 1, p0, p1, p2, p3, p4, p5 => by
    unfold addr_groupsOf_L0
    repeat' (with_reducible first | (refine Ok.ite (fun hc => ?_) (fun hc => ?_) <;> try subst hc) | exact Ok.none | (refine Ok.bind (fun _ h => ?_)))
    all_goals first
      | (refine Ok.some (fun s hs => loop_end hs ?_ (by intro e; cases e)); simp [L47_0, *]; done)
      | (refine fun r hr s hs => loop_round hs ?_ (addr_groupsOf_L0_ok N m lv n _ _ _ _ _ _ r hr); simp [L47_0, *]; done)
theorem addr_groupsOf_call {N : Nat} {a0_0 : Bool} {a0_1 a0_2 : Int} {r : Int × Int × Int × Int × Int × Int × Int × Int} (h : addr_groupsOf N a0_0 a0_1 a0_2 = some r) (m : Mem) (lv : Nat) : (sem T).call 47 [(.agg [(.bool a0_0), (.int .u64 a0_1), (.int .u64 a0_2)])] m lv = some (((fun p => ([(.agg [(.int .u16 p.1), (.int .u16 p.2.1), (.int .u16 p.2.2.1), (.int .u16 p.2.2.2.1), (.int .u16 p.2.2.2.2.1), (.int .u16 p.2.2.2.2.2.1), (.int .u16 p.2.2.2.2.2.2.1), (.int .u16 p.2.2.2.2.2.2.2)])], m)) : _ → List AV × Mem) r) := by
  revert r
  show Ok _ _
  unfold addr_groupsOf
  repeat' (with_reducible first | (refine Ok.ite (fun hc => ?_) (fun hc => ?_) <;> try subst hc) | (refine Ok.bind (fun _ h => ?_); ((first | have h := (addr_groupsOf_L0_ok N m lv _ _ _ _ _ _ _).of h | skip); try simp only [List.map_nil, List.map_cons, sRow, iRow, bRow, eRow] at h)))
  all_goals (refine Ok.some (call_go rfl rfl rfl ?_); simp [F47, *])
theorem addr_groups_longest_L0_ok (N : Nat) (m : Mem) (lv : Nat) : ∀ (n : Nat) (p0 p1 p2 p3 p4 : Int) (p5 : List Int), Ok (addr_groups_longest_L0 N n p0 p1 p2 p3 p4 p5) (fun r => ∀ s : St, s.mask [1, 4, 5, 6, 7, 8] [1] = some ⟨33, lv, tmOf [(1, (.ptr lv 1 0)), (4, (.int .i64 p0)), (5, (.int .i64 p1)), (6, (.int .i64 p2)), (7, (.int .i64 p3)), (8, (.int .i64 p4))], bxOf [(1, some (.cells 72 (fl (iRow .u16) p5)))], m⟩ → (sem T).loop [1, 4, 5, 6, 7, 8] [1] L48_0 s = some (((fun p => (.ex 2, ⟨33, lv, tmOf [(1, (.ptr lv 1 0)), (4, (.int .i64 p0)), (5, (.int .i64 p1)), (6, (.int .i64 p2)), (7, (.int .i64 p)), (8, (.int .i64 p4))], bxOf [(1, some (.cells 72 (fl (iRow .u16) p5)))], m⟩)) : _ → Fl × St) r))
  | 0, _, _, _, _, _, _ => Ok.none
  | n + 1, p0, p1, p2, p3, p4, p5 => by
    unfold addr_groups_longest_L0
    repeat' (with_reducible first | (refine Ok.ite (fun hc => ?_) (fun hc => ?_) <;> try subst hc) | exact Ok.none | (refine Ok.bind (fun _ h => ?_)))
    all_goals first
      | (refine Ok.some (fun s hs => loop_end hs ?_ (by intro e; cases e)); simp [L48_0, *]; done)
      | (refine fun r hr s hs => loop_round hs ?_ (addr_groups_longest_L0_ok N m lv n _ _ _ _ _ _ r hr); simp [L48_0, *]; done)
theorem addr_groups_longest_L1_ok (N : Nat) (m : Mem) (lv : Nat) : ∀ (n : Nat) (p0 p1 p2 : Int) (p3 : List Int), Ok (addr_groups_longest_L1 N n p0 p1 p2 p3) (fun r => ∀ s : St, s.mask [1, 4, 5, 8] [1] = some ⟨33, lv, tmOf [(1, (.ptr lv 1 0)), (4, (.int .i64 p0)), (5, (.int .i64 p1)), (8, (.int .i64 p2))], bxOf [(1, some (.cells 72 (fl (iRow .u16) p3)))], m⟩ → (sem T).loop [1, 4, 5, 8] [1] L48_1 s = some (((fun p => (.ex 0, ⟨33, lv, tmOf [(4, (.int .i64 p.1)), (5, (.int .i64 p.2))], bxOf [], m⟩)) : _ → Fl × St) r))
  | 0, _, _, _, _ => Ok.none
  | n + 1, p0, p1, p2, p3 => by
    unfold addr_groups_longest_L1
    repeat' (with_reducible first | (refine Ok.ite (fun hc => ?_) (fun hc => ?_) <;> try subst hc) | (refine Ok.bind (fun _ h => ?_); ((first | have h := (addr_groups_longest_L0_ok N m lv _ _ _ _ _ _ _).of h | skip); try simp only [List.map_nil, List.map_cons, sRow, iRow, bRow, eRow] at h)))
    all_goals first
      | (refine Ok.some (fun s hs => loop_end hs ?_ (by intro e; cases e)); simp [L48_1, *]; done)
      | (refine fun r hr s hs => loop_round hs ?_ (addr_groups_longest_L1_ok N m lv n _ _ _ _ r hr); simp [L48_1, *]; done)
theorem addr_groups_longest_call {N : Nat} {a0_0 a0_1 a0_2 a0_3 a0_4 a0_5 a0_6 a0_7 : Int} {r : Int × Int} (h : addr_groups_longest N a0_0 a0_1 a0_2 a0_3 a0_4 a0_5 a0_6 a0_7 = some r) (m : Mem) (lv : Nat) : (sem T).call 48 [(.agg [(.int .u16 a0_0), (.int .u16 a0_1), (.int .u16 a0_2), (.int .u16 a0_3), (.int .u16 a0_4), (.int .u16 a0_5), (.int .u16 a0_6), (.int .u16 a0_7)])] m lv = some (((fun p => ([(.int .i64 p.1), (.int .i64 p.2)], m)) : _ → List AV × Mem) r) := by
  revert r
  show Ok _ _
  unfold addr_groups_longest
  repeat' (with_reducible first | (refine Ok.ite (fun hc => ?_) (fun hc => ?_) <;> try subst hc) | (refine Ok.bind (fun _ h => ?_); ((first | have h := (addr_groups_longest_L1_ok N m lv _ _ _ _ _).of h | skip); try simp only [List.map_nil, List.map_cons, sRow, iRow, bRow, eRow] at h)))
  all_goals (refine Ok.some (call_go rfl rfl rfl ?_); simp [F48, *])
theorem addr_text_L0_ok (N : Nat) (m : Mem) (lv : Nat) : ∀ (n : Nat) (p0 : List Int) (p1 : List (List UInt8)) (p2 p3 : Int), Ok (addr_text_L0 N n p0 p1 p2 p3) (fun r => ∀ s : St, s.mask [0, 3, 9, 10] [7] = some ⟨25, lv, tmOf [(0, (.sl none 1 (List.map (iRow .u16) p0))), (3, (.sl none 1 (List.map sRow p1))), (9, (.int .i64 p2)), (10, (.int .i64 p3))], bxOf [], m⟩ → (sem T).loop [0, 3, 9, 10] [7] L49_0 s = some (((fun p => (.ex 0, ⟨25, lv, tmOf [(3, (.sl none 1 (List.map sRow p1)))], bxOf [], m⟩)) : _ → Fl × St) r))
  | 0, _, _, _, _ => Ok.none
  | n + 1, p0, p1, p2, p3 => by
    unfold addr_text_L0
    repeat' (with_reducible first | (refine Ok.ite (fun hc => ?_) (fun hc => ?_) <;> try subst hc) | exact Ok.none | (refine Ok.bind (fun _ h => ?_); ((first | have h := strconv_FormatUint_call h | skip); try simp only [List.map_nil, List.map_cons, sRow, iRow, bRow, eRow] at h)))
    all_goals first
      | (refine Ok.some (fun s hs => loop_end hs ?_ (by intro e; cases e)); simp [L49_0, *]; done)
      | (refine fun r hr s hs => loop_round hs ?_ (addr_text_L0_ok N m lv n _ _ _ _ r hr); simp [L49_0, *]; done)
theorem addr_text_L0b_ok (N : Nat) (m : Mem) (lv : Nat) : ∀ (n : Nat) (p0 : List Int) (p1 : Nat) (p2 p3 : Int) (p4 : List (List UInt8)), Ok (addr_text_L0b N n p0 p1 p2 p3 p4) (fun r => ∀ s : St, s.mask [0, 3, 9, 10] [7] = some ⟨25, lv, tmOf [(0, (.sl none 1 (List.map (iRow .u16) p0))), (3, (.win lv 7 0 p1 1)), (9, (.int .i64 p2)), (10, (.int .i64 p3))], bxOf [(7, some (.cells 9 (fl sRow p4)))], m⟩ → (sem T).loop [0, 3, 9, 10] [7] L49_0 s = some (((fun p => (.ex 0, ⟨25, lv, tmOf [(3, (.win lv 7 0 p1 1))], bxOf [(7, some (.cells 9 (fl sRow p)))], m⟩)) : _ → Fl × St) r))
  | 0, _, _, _, _, _ => Ok.none
  | n + 1, p0, p1, p2, p3, p4 => by
    unfold addr_text_L0b
    repeat' (with_reducible first | (refine Ok.ite (fun hc => ?_) (fun hc => ?_) <;> try subst hc) | exact Ok.none | (refine Ok.bind (fun _ h => ?_); ((first | have h := strconv_FormatUint_call h | skip); try simp only [List.map_nil, List.map_cons, sRow, iRow, bRow, eRow] at h)))
    all_goals first
      | (refine Ok.some (fun s hs => loop_end hs ?_ (by intro e; cases e)); simp [L49_0, *]; done)
      | (refine fun r hr s hs => loop_round hs ?_ (addr_text_L0b_ok N m lv n _ _ _ _ _ r hr); simp [L49_0, *]; done)
theorem addr_text_call {N : Nat} {a0 : List Int} {r : List UInt8} (h : addr_text N a0 = some r) (m : Mem) (lv : Nat) : (sem T).call 49 [(.sl none 1 (List.map (iRow .u16) a0))] m lv = some (((fun p => ([(.str (bs p))], m)) : _ → List AV × Mem) r) := by
  revert r
  show Ok _ _
  unfold addr_text
  repeat' (with_reducible first | (refine Ok.ite (fun hc => ?_) (fun hc => ?_) <;> try subst hc) | (refine Ok.bind (fun _ h => ?_); ((first | have h := joinI_call h | have h := (addr_text_L0_ok N m lv _ _ _ _ _).of h | have h := (addr_text_L0b_ok N m lv _ _ _ _ _ _).of h | skip); try simp only [List.map_nil, List.map_cons, sRow, iRow, bRow, eRow] at h)))
  all_goals (refine Ok.some (call_go rfl rfl rfl ?_); simp [F49, *])
theorem addr_Print_L0_ok (N : Nat) (m : Mem) (lv : Nat) : ∀ (n : Nat) (p0 : Nat) (p1 p2 : Int) (p3 : Bool) (p4 p5 : Int) (p6 : List (List UInt8)), Ok (addr_Print_L0 N n p0 p1 p2 p3 p4 p5 p6) (fun r => ∀ s : St, s.mask [1, 4, 19, 20] [1, 17] = some ⟨58, lv, tmOf [(1, (.ptr lv 1 0)), (4, (.win lv 17 0 p0 1)), (19, (.int .i64 p1)), (20, (.int .i64 p2))], bxOf [(1, some (.cells 24 [(.bool p3), (.int .u64 p4), (.int .u64 p5)])), (17, some (.cells 9 (fl sRow p6)))], m⟩ → (sem T).loop [1, 4, 19, 20] [1, 17] L17_0 s = some (((fun p => (.ex 1, ⟨58, lv, tmOf [(4, (.win lv 17 0 p0 1))], bxOf [(17, some (.cells 9 (fl sRow p)))], m⟩)) : _ → Fl × St) r))
  | 0, _, _, _, _, _, _, _ => Ok.none
  | n + 1, p0, p1, p2, p3, p4, p5, p6 => by
    unfold addr_Print_L0
    repeat' (with_reducible first | (refine Ok.ite (fun hc => ?_) (fun hc => ?_) <;> try subst hc) | exact Ok.none | (refine Ok.bind (fun _ h => ?_); ((first | have h := strconv_FormatUint_call h | skip); try simp only [List.map_nil, List.map_cons, sRow, iRow, bRow, eRow] at h)))
    all_goals first
      | (refine Ok.some (fun s hs => loop_end hs ?_ (by intro e; cases e)); simp [L17_0, *]; done)
      | (refine fun r hr s hs => loop_round hs ?_ (addr_Print_L0_ok N m lv n _ _ _ _ _ _ _ r hr); simp [L17_0, *]; done)
theorem addr_Print_call {N : Nat} {a0_0 : Bool} {a0_1 a0_2 : Int} {r : List UInt8 × Int} (h : addr_Print N a0_0 a0_1 a0_2 = some r) (m : Mem) (lv : Nat) : (sem T).call 17 [(.agg [(.bool a0_0), (.int .u64 a0_1), (.int .u64 a0_2)])] m lv = some (((fun p => ([(.str (bs p.1)), (.int .i64 p.2)], m)) : _ → List AV × Mem) r) := by
  revert r
  show Ok _ _
  unfold addr_Print
  repeat' (with_reducible first | (refine Ok.ite (fun hc => ?_) (fun hc => ?_) <;> try subst hc) | exact Ok.none | (refine Ok.bind (fun _ h => ?_); ((first | have h := addr_Valid_call h | have h := addr_groupsOf_call h | have h := addr_groups_longest_call h | have h := addr_text_call h | have h := joinI_call h | have h := (addr_Print_L0_ok N m lv _ _ _ _ _ _ _ _).of h | skip); try simp only [List.map_nil, List.map_cons, sRow, iRow, bRow, eRow] at h)))
  all_goals (refine Ok.some (call_go rfl rfl rfl ?_); simp [F17, *])
theorem rtext_numbers_L0_ok (N : Nat) (m : Mem) (lv : Nat) : ∀ (n : Nat) (p0 : List (List UInt8)) (p1 : List Int) (p2 p3 : Int), Ok (rtext_numbers_L0 N n p0 p1 p2 p3) (fun r => ∀ s : St, s.mask [3, 6, 7, 8] [] = some ⟨19, lv, tmOf [(3, (.sl (some 9) 1 (List.map sRow p0))), (6, (.sl none 1 (List.map (iRow .i64) p1))), (7, (.int .i64 p2)), (8, (.int .i64 p3))], bxOf [], m⟩ → (sem T).loop [3, 6, 7, 8] [] L18_0 s = some (((fun p => (.ex 0, ⟨19, lv, tmOf [(3, (.sl (some 9) 1 (List.map sRow p)))], bxOf [], m⟩)) : _ → Fl × St) r))
  | 0, _, _, _, _ => Ok.none
  | n + 1, p0, p1, p2, p3 => by
    unfold rtext_numbers_L0
    repeat' (with_reducible first | (refine Ok.ite (fun hc => ?_) (fun hc => ?_) <;> try subst hc) | exact Ok.none | (refine Ok.bind (fun _ h => ?_); ((first | have h := itoaI_call h | skip); try simp only [List.map_nil, List.map_cons, sRow, iRow, bRow, eRow] at h)))
    all_goals first
      | (refine Ok.some (fun s hs => loop_end hs ?_ (by intro e; cases e)); simp [L18_0, *]; done)
      | (refine fun r hr s hs => loop_round hs ?_ (rtext_numbers_L0_ok N m lv n _ _ _ _ r hr); simp [L18_0, *]; done)
theorem rtext_numbers_call {N : Nat} {a0 : List Int} {r : List (List UInt8)} (h : rtext_numbers N a0 = some r) (m : Mem) (lv : Nat) : (sem T).call 18 [(.sl none 1 (List.map (iRow .i64) a0))] m lv = some (((fun p => ([(.sl (some 9) 1 (List.map sRow p))], m)) : _ → List AV × Mem) r) := by
  revert r
  show Ok _ _
  unfold rtext_numbers
  repeat' (with_reducible first | (refine Ok.ite (fun hc => ?_) (fun hc => ?_) <;> try subst hc) | (refine Ok.bind (fun _ h => ?_); ((first | have h := (rtext_numbers_L0_ok N m lv _ _ _ _ _).of h | skip); try simp only [List.map_nil, List.map_cons, sRow, iRow, bRow, eRow] at h)))
  all_goals (refine Ok.some (call_go rfl rfl rfl ?_); simp [F18, *])
theorem rtext_digits_L0_ok (N : Nat) (m : Mem) (lv : Nat) : ∀ (n : Nat) (p0 p1 : List UInt8) (p2 : Int), Ok (rtext_digits_L0 N n p0 p1 p2) (fun r => ∀ s : St, s.mask [0, 3, 4] [] = some ⟨26, lv, tmOf [(0, (.str (bs p0))), (3, (.sl (some 5) 1 (List.map byteRow p1))), (4, (.int .i64 p2))], bxOf [], m⟩ → (sem T).loop [0, 3, 4] [] L19_0 s = some (((fun p => (.ex 0, ⟨26, lv, tmOf [(3, (.sl (some 5) 1 (List.map byteRow p)))], bxOf [], m⟩)) : _ → Fl × St) r))
  | 0, _, _, _ => Ok.none
  | n + 1, p0, p1, p2 => by
    unfold rtext_digits_L0
    repeat' (with_reducible first | (refine Ok.ite (fun hc => ?_) (fun hc => ?_) <;> try subst hc) | exact Ok.none | (refine Ok.bind (fun _ h => ?_)))
    all_goals first
      | (refine Ok.some (fun s hs => loop_end hs ?_ (by intro e; cases e)); simp [L19_0, *]; done)
      | (refine fun r hr s hs => loop_round hs ?_ (rtext_digits_L0_ok N m lv n _ _ _ r hr); simp [L19_0, *]; done)
theorem rtext_digits_call {N : Nat} {a0 : List UInt8} {r : List UInt8} (h : rtext_digits N a0 = some r) (m : Mem) (lv : Nat) : (sem T).call 19 [(.str (bs a0))] m lv = some (((fun p => ([(.str (bs p))], m)) : _ → List AV × Mem) r) := by
  revert r
  show Ok _ _
  unfold rtext_digits
  repeat' (with_reducible first | (refine Ok.ite (fun hc => ?_) (fun hc => ?_) <;> try subst hc) | (refine Ok.bind (fun _ h => ?_); ((first | have h := (rtext_digits_L0_ok N m lv _ _ _ _).of h | skip); try simp only [List.map_nil, List.map_cons, sRow, iRow, bRow, eRow] at h)))
  all_goals (refine Ok.some (call_go rfl rfl rfl ?_); simp [F19, *])
theorem rdata_Types_L0_ok (N : Nat) (m : Mem) (lv : Nat) : ∀ (n : Nat) (p0 : Int) (p1 : List Int) (p2 : List Rw3) (p3 p4 : Int), Ok (rdata_Types_L0 N n p0 p1 p2 p3 p4) (fun r => ∀ s : St, s.mask [0, 3, 6, 7, 8] [] = some ⟨25, lv, tmOf [(0, (.int .u64 p0)), (3, (.sl (some 3) 1 (List.map (iRow .i64) p1))), (6, (.sl (some 61) 3 (List.map Rw3E p2))), (7, (.int .i64 p3)), (8, (.int .i64 p4))], bxOf [], m⟩ → (sem T).loop [0, 3, 6, 7, 8] [] L51_0 s = some (((fun p => (.ex 0, ⟨25, lv, tmOf [(3, (.sl (some 3) 1 (List.map (iRow .i64) p)))], bxOf [], m⟩)) : _ → Fl × St) r))
  | 0, _, _, _, _, _ => Ok.none
  | n + 1, p0, p1, p2, p3, p4 => by
    unfold rdata_Types_L0
    repeat' (with_reducible first | (refine Ok.ite (fun hc => ?_) (fun hc => ?_) <;> try subst hc) | exact Ok.none | (refine Ok.bind (fun _ h => ?_)))
    all_goals first
      | (refine Ok.some (fun s hs => loop_end hs ?_ (by intro e; cases e)); simp [L51_0, *]; done)
      | (refine fun r hr s hs => loop_round hs ?_ (rdata_Types_L0_ok N m lv n _ _ _ _ _ r hr); simp [L51_0, *]; done)
theorem rdata_Types_call {N : Nat} {a0 : Int} {r : List Int} (h : rdata_Types N a0 = some r) (m : Mem) (lv : Nat) : (sem T).call 51 [(.int .u64 a0)] m lv = some (((fun p => ([(.sl (some 3) 1 (List.map (iRow .i64) p))], m)) : _ → List AV × Mem) r) := by
  revert r
  show Ok _ _
  unfold rdata_Types
  repeat' (with_reducible first | (refine Ok.ite (fun hc => ?_) (fun hc => ?_) <;> try subst hc) | (refine Ok.bind (fun _ h => ?_); ((first | have h := rdata_kinds_call h | have h := (rdata_Types_L0_ok N m lv _ _ _ _ _ _).of h | skip); try simp only [List.map_nil, List.map_cons, sRow, iRow, bRow, eRow] at h)))
  all_goals (refine Ok.some (call_go rfl rfl rfl ?_); simp [F51, *])
theorem rtext_mnemonics_L0_ok (N : Nat) (m : Mem) (lv : Nat) : ∀ (n : Nat) (p0 : List (List UInt8)) (p1 : List Int) (p2 p3 : Int), Ok (rtext_mnemonics_L0 N n p0 p1 p2 p3) (fun r => ∀ s : St, s.mask [3, 7, 8, 9] [] = some ⟨20, lv, tmOf [(3, (.sl (some 9) 1 (List.map sRow p0))), (7, (.sl (some 3) 1 (List.map (iRow .i64) p1))), (8, (.int .i64 p2)), (9, (.int .i64 p3))], bxOf [], m⟩ → (sem T).loop [3, 7, 8, 9] [] L21_0 s = some (((fun p => (.ex 0, ⟨20, lv, tmOf [(3, (.sl (some 9) 1 (List.map sRow p)))], bxOf [], m⟩)) : _ → Fl × St) r))
  | 0, _, _, _, _ => Ok.none
  | n + 1, p0, p1, p2, p3 => by
    unfold rtext_mnemonics_L0
    repeat' (with_reducible first | (refine Ok.ite (fun hc => ?_) (fun hc => ?_) <;> try subst hc) | exact Ok.none | (refine Ok.bind (fun _ h => ?_); ((first | have h := rdata_Mnemonic_call h | skip); try simp only [List.map_nil, List.map_cons, sRow, iRow, bRow, eRow] at h)))
    all_goals first
      | (refine Ok.some (fun s hs => loop_end hs ?_ (by intro e; cases e)); simp [L21_0, *]; done)
      | (refine fun r hr s hs => loop_round hs ?_ (rtext_mnemonics_L0_ok N m lv n _ _ _ _ r hr); simp [L21_0, *]; done)
theorem rtext_mnemonics_call {N : Nat} {a0 : Int} {r : List (List UInt8)} (h : rtext_mnemonics N a0 = some r) (m : Mem) (lv : Nat) : (sem T).call 21 [(.int .u64 a0)] m lv = some (((fun p => ([(.sl (some 9) 1 (List.map sRow p))], m)) : _ → List AV × Mem) r) := by
  revert r
  show Ok _ _
  unfold rtext_mnemonics
  repeat' (with_reducible first | (refine Ok.ite (fun hc => ?_) (fun hc => ?_) <;> try subst hc) | (refine Ok.bind (fun _ h => ?_); ((first | have h := rdata_Types_call h | have h := (rtext_mnemonics_L0_ok N m lv _ _ _ _ _).of h | skip); try simp only [List.map_nil, List.map_cons, sRow, iRow, bRow, eRow] at h)))
  all_goals (refine Ok.some (call_go rfl rfl rfl ?_); simp [F21, *])
theorem rtext_Words_call {N : Nat} {a0 : Int} {a1_0 : Bool} {a1_1 a1_2 : Int} {a1_3 a1_4 a1_5 : List UInt8} {a1_6 a1_7 a1_8 a1_9 a1_10 a1_11 a1_12 : Int} {r : List (List UInt8) × Int} (h : rtext_Words N a0 a1_0 a1_1 a1_2 a1_3 a1_4 a1_5 a1_6 a1_7 a1_8 a1_9 a1_10 a1_11 a1_12 = some r) (m : Mem) (lv : Nat) : (sem T).call 6 [(.int .i64 a0), (.agg [(.bool a1_0), (.int .u64 a1_1), (.int .u64 a1_2), (.str (bs a1_3)), (.str (bs a1_4)), (.str (bs a1_5)), (.int .i64 a1_6), (.int .i64 a1_7), (.int .i64 a1_8), (.int .i64 a1_9), (.int .i64 a1_10), (.int .i64 a1_11), (.int .u64 a1_12)])] m lv = some (((fun p => ([(.sl (some 9) 1 (List.map sRow p.1)), (.int .i64 p.2)], m)) : _ → List AV × Mem) r) := by
  revert r
  show Ok _ _
  unfold rtext_Words
  repeat' (with_reducible first | (refine Ok.ite (fun hc => ?_) (fun hc => ?_) <;> try subst hc) | exact Ok.none | (refine Ok.bind (fun _ h => ?_); ((first | have h := addr_Print_call h | have h := rdata_Known_call h | have h := rdata_Mnemonic_call h | have h := rdata_Valid_call h | have h := rtext_digits_call h | have h := rtext_mnemonics_call h | have h := rtext_numbers_call h | skip); try simp only [List.map_nil, List.map_cons, sRow, iRow, bRow, eRow] at h)))
  all_goals (refine Ok.some (call_go rfl rfl rfl ?_); simp [F6, *])
theorem r02_decimal_call {N : Nat} {a0 : Int} {r : List UInt8} (h : r02_decimal N a0 = some r) (m : Mem) (lv : Nat) : (sem T).call 94 [(.int .u64 a0)] m lv = some (((fun p => ([(.str (bs p))], m)) : _ → List AV × Mem) r) := by
  revert r
  show Ok _ _
  unfold r02_decimal
  repeat' (with_reducible first | (refine Ok.ite (fun hc => ?_) (fun hc => ?_) <;> try subst hc) | (refine Ok.bind (fun _ h => ?_)))
  all_goals (refine Ok.some (call_go rfl rfl rfl ?_); simp [F94, *])
theorem r02_part_L0_ok (N : Nat) (m : Mem) (lv : Nat) : ∀ (n : Nat) (p0 p1 : Int), Ok (r02_part_L0 N n p0 p1) (fun r => ∀ s : St, s.mask [5, 6] [] = some ⟨24, lv, tmOf [(5, (.int .u64 p0)), (6, (.int .i64 p1))], bxOf [], m⟩ → (sem T).loop [5, 6] [] L97_0 s = some (((fun p => (.ex 0, ⟨24, lv, tmOf [(5, (.int .u64 p))], bxOf [], m⟩)) : _ → Fl × St) r))
  | 0, _, _ => Ok.none
  | n + 1, p0, p1 => by
    unfold r02_part_L0
    repeat' (with_reducible first | (refine Ok.ite (fun hc => ?_) (fun hc => ?_) <;> try subst hc) | (refine Ok.bind (fun _ h => ?_)))
    all_goals first
      | (refine Ok.some (fun s hs => loop_end hs ?_ (by intro e; cases e)); simp [L97_0, *]; done)
      | (refine fun r hr s hs => loop_round hs ?_ (r02_part_L0_ok N m lv n _ _ r hr); simp [L97_0, *]; done)
theorem r02_part_call {N : Nat} {a0_0 : Bool} {a0_1 a0_2 a1 : Int} {r : Int} (h : r02_part N a0_0 a0_1 a0_2 a1 = some r) (m : Mem) (lv : Nat) : (sem T).call 97 [(.agg [(.bool a0_0), (.int .u64 a0_1), (.int .u64 a0_2)]), (.int .i64 a1)] m lv = some (((fun p => ([(.int .u64 p)], m)) : _ → List AV × Mem) r) := by
  revert r
  show Ok _ _
  unfold r02_part
  repeat' (with_reducible first | (refine Ok.ite (fun hc => ?_) (fun hc => ?_) <;> try subst hc) | (refine Ok.bind (fun _ h => ?_); ((first | have h := (r02_part_L0_ok N m lv _ _ _).of h | skip); try simp only [List.map_nil, List.map_cons, sRow, iRow, bRow, eRow] at h)))
  all_goals (refine Ok.some (call_go rfl rfl rfl ?_); simp [F97, *])
theorem r02_run_L0_ok (N : Nat) (m : Mem) (lv : Nat) : ∀ (n : Nat) (p0 p1 p2 p3 : Int) (p4 : Bool) (p5 p6 : Int), Ok (r02_run_L0 N n p0 p1 p2 p3 p4 p5 p6) (fun r => ∀ s : St, s.mask [1, 4, 5, 6, 7] [1] = some ⟨33, lv, tmOf [(1, (.ptr lv 1 0)), (4, (.int .i64 p0)), (5, (.int .i64 p1)), (6, (.int .i64 p2)), (7, (.int .i64 p3))], bxOf [(1, some (.cells 24 [(.bool p4), (.int .u64 p5), (.int .u64 p6)]))], m⟩ → (sem T).loop [1, 4, 5, 6, 7] [1] L95_0 s = some (((fun p => (.ex 2, ⟨33, lv, tmOf [(1, (.ptr lv 1 0)), (4, (.int .i64 p0)), (5, (.int .i64 p1)), (6, (.int .i64 p2)), (7, (.int .i64 p))], bxOf [(1, some (.cells 24 [(.bool p4), (.int .u64 p5), (.int .u64 p6)]))], m⟩)) : _ → Fl × St) r))
  | 0, _, _, _, _, _, _, _ => Ok.none
  | n + 1, p0, p1, p2, p3, p4, p5, p6 => by
    unfold r02_run_L0
    repeat' (with_reducible first | (refine Ok.ite (fun hc => ?_) (fun hc => ?_) <;> try subst hc) | (refine Ok.bind (fun _ h => ?_); ((first | have h := r02_part_call h | skip); try simp only [List.map_nil, List.map_cons, sRow, iRow, bRow, eRow] at h)))
    all_goals first
      | (refine Ok.some (fun s hs => loop_end hs ?_ (by intro e; cases e)); simp [L95_0, *]; done)
      | (refine fun r hr s hs => loop_round hs ?_ (r02_run_L0_ok N m lv n _ _ _ _ _ _ _ r hr); simp [L95_0, *]; done)
theorem r02_run_L1_ok (N : Nat) (m : Mem) (lv : Nat) : ∀ (n : Nat) (p0 p1 p2 : Int) (p3 : Bool) (p4 p5 : Int), Ok (r02_run_L1 N n p0 p1 p2 p3 p4 p5) (fun r => ∀ s : St, s.mask [1, 4, 5, 6] [1] = some ⟨33, lv, tmOf [(1, (.ptr lv 1 0)), (4, (.int .i64 p0)), (5, (.int .i64 p1)), (6, (.int .i64 p2))], bxOf [(1, some (.cells 24 [(.bool p3), (.int .u64 p4), (.int .u64 p5)]))], m⟩ → (sem T).loop [1, 4, 5, 6] [1] L95_1 s = some (((fun p => (.ex 0, ⟨33, lv, tmOf [(4, (.int .i64 p.1)), (5, (.int .i64 p.2))], bxOf [], m⟩)) : _ → Fl × St) r))
  | 0, _, _, _, _, _, _ => Ok.none
  | n + 1, p0, p1, p2, p3, p4, p5 => by
    unfold r02_run_L1
    repeat' (with_reducible first | (refine Ok.ite (fun hc => ?_) (fun hc => ?_) <;> try subst hc) | (refine Ok.bind (fun _ h => ?_); ((first | have h := (r02_run_L0_ok N m lv _ _ _ _ _ _ _ _).of h | skip); try simp only [List.map_nil, List.map_cons, sRow, iRow, bRow, eRow] at h)))
    all_goals first
      | (refine Ok.some (fun s hs => loop_end hs ?_ (by intro e; cases e)); simp [L95_1, *]; done)
      | (refine fun r hr s hs => loop_round hs ?_ (r02_run_L1_ok N m lv n _ _ _ _ _ _ r hr); simp [L95_1, *]; done)
theorem r02_run_call {N : Nat} {a0_0 : Bool} {a0_1 a0_2 : Int} {r : Int × Int} (h : r02_run N a0_0 a0_1 a0_2 = some r) (m : Mem) (lv : Nat) : (sem T).call 95 [(.agg [(.bool a0_0), (.int .u64 a0_1), (.int .u64 a0_2)])] m lv = some (((fun p => ([(.int .i64 p.1), (.int .i64 p.2)], m)) : _ → List AV × Mem) r) := by
  revert r
  show Ok _ _
  unfold r02_run
  repeat' (with_reducible first | (refine Ok.ite (fun hc => ?_) (fun hc => ?_) <;> try subst hc) | (refine Ok.bind (fun _ h => ?_); ((first | have h := (r02_run_L1_ok N m lv _ _ _ _ _ _ _).of h | skip); try simp only [List.map_nil, List.map_cons, sRow, iRow, bRow, eRow] at h)))
  all_goals (refine Ok.some (call_go rfl rfl rfl ?_); simp [F95, *])
theorem r02_hex_call {N : Nat} {a0 : Int} {r : List UInt8} (h : r02_hex N a0 = some r) (m : Mem) (lv : Nat) : (sem T).call 124 [(.int .u64 a0)] m lv = some (((fun p => ([(.str (bs p))], m)) : _ → List AV × Mem) r) := by
  revert r
  show Ok _ _
  unfold r02_hex
  repeat' (with_reducible first | (refine Ok.ite (fun hc => ?_) (fun hc => ?_) <;> try subst hc))
  all_goals (refine Ok.some (call_go rfl rfl rfl ?_); simp [F124, *])
theorem r02_groupText_L0_ok (N : Nat) (m : Mem) (lv : Nat) : ∀ (n : Nat) (p0 : Int) (p1 : List UInt8) (p2 : Int), Ok (r02_groupText_L0 N n p0 p1 p2) (fun r => ∀ s : St, s.mask [0, 3, 4] [] = some ⟨26, lv, tmOf [(0, (.int .u64 p0)), (3, (.str (bs p1))), (4, (.int .i64 p2))], bxOf [], m⟩ → (sem T).loop [0, 3, 4] [] L96_0 s = some (((fun p => (.ex 0, ⟨26, lv, tmOf [(3, (.str (bs p)))], bxOf [], m⟩)) : _ → Fl × St) r))
  | 0, _, _, _ => Ok.none
  | n + 1, p0, p1, p2 => by
    unfold r02_groupText_L0
    repeat' (with_reducible first | (refine Ok.ite (fun hc => ?_) (fun hc => ?_) <;> try subst hc) | (refine Ok.bind (fun _ h => ?_); ((first | have h := r02_hex_call h | skip); try simp only [List.map_nil, List.map_cons, sRow, iRow, bRow, eRow] at h)))
    all_goals first
      | (refine Ok.some (fun s hs => loop_end hs ?_ (by intro e; cases e)); simp [L96_0, *]; done)
      | (refine fun r hr s hs => loop_round hs ?_ (r02_groupText_L0_ok N m lv n _ _ _ r hr); simp [L96_0, *]; done)
theorem r02_groupText_call {N : Nat} {a0 : Int} {r : List UInt8} (h : r02_groupText N a0 = some r) (m : Mem) (lv : Nat) : (sem T).call 96 [(.int .u64 a0)] m lv = some (((fun p => ([(.str (bs p))], m)) : _ → List AV × Mem) r) := by
  revert r
  show Ok _ _
  unfold r02_groupText
  repeat' (with_reducible first | (refine Ok.ite (fun hc => ?_) (fun hc => ?_) <;> try subst hc) | (refine Ok.bind (fun _ h => ?_); ((first | have h := r02_hex_call h | have h := (r02_groupText_L0_ok N m lv _ _ _ _).of h | skip); try simp only [List.map_nil, List.map_cons, sRow, iRow, bRow, eRow] at h)))
  all_goals (refine Ok.some (call_go rfl rfl rfl ?_); simp [F96, *])
theorem r02_Print_L0_ok (N : Nat) (m : Mem) (lv : Nat) : ∀ (n : Nat) (p0 p1 : Int) (p2 : List UInt8) (p3 : Int) (p4 : Bool) (p5 p6 : Int), Ok (r02_Print_L0 N n p0 p1 p2 p3 p4 p5 p6) (fun r => ∀ s : St, s.mask [1, 4, 5, 6, 7] [1] = some ⟨82, lv, tmOf [(1, (.ptr lv 1 0)), (4, (.int .i64 p0)), (5, (.int .i64 p1)), (6, (.str (bs p2))), (7, (.int .i64 p3))], bxOf [(1, some (.cells 24 [(.bool p4), (.int .u64 p5), (.int .u64 p6)]))], m⟩ → (sem T).loop [1, 4, 5, 6, 7] [1] L60_0 s = some (((fun p => (.ex 0, ⟨82, lv, tmOf [(6, (.str (bs p)))], bxOf [], m⟩)) : _ → Fl × St) r))
  | 0, _, _, _, _, _, _, _ => Ok.none
  | n + 1, p0, p1, p2, p3, p4, p5, p6 => by
    unfold r02_Print_L0
    repeat' (with_reducible first | (refine Ok.ite (fun hc => ?_) (fun hc => ?_) <;> try subst hc) | (refine Ok.bind (fun _ h => ?_); ((first | have h := r02_groupText_call h | have h := r02_part_call h | skip); try simp only [List.map_nil, List.map_cons, sRow, iRow, bRow, eRow] at h)))
    all_goals first
      | (refine Ok.some (fun s hs => loop_end hs ?_ (by intro e; cases e)); simp [L60_0, *]; done)
      | (refine fun r hr s hs => loop_round hs ?_ (r02_Print_L0_ok N m lv n _ _ _ _ _ _ _ r hr); simp [L60_0, *]; done)
theorem r02_Print_call {N : Nat} {a0_0 : Bool} {a0_1 a0_2 : Int} {r : List UInt8 × Int} (h : r02_Print N a0_0 a0_1 a0_2 = some r) (m : Mem) (lv : Nat) : (sem T).call 60 [(.agg [(.bool a0_0), (.int .u64 a0_1), (.int .u64 a0_2)])] m lv = some (((fun p => ([(.str (bs p.1)), (.int .i64 p.2)], m)) : _ → List AV × Mem) r) := by
  revert r
  show Ok _ _
  unfold r02_Print
  repeat' (with_reducible first | (refine Ok.ite (fun hc => ?_) (fun hc => ?_) <;> try subst hc) | (refine Ok.bind (fun _ h => ?_); ((first | have h := r02_Valid_call h | have h := r02_decimal_call h | have h := r02_run_call h | have h := (r02_Print_L0_ok N m lv _ _ _ _ _ _ _ _).of h | skip); try simp only [List.map_nil, List.map_cons, sRow, iRow, bRow, eRow] at h)))
  all_goals (refine Ok.some (call_go rfl rfl rfl ?_); simp [F60, *])
theorem r06_Hex_L0_ok (N : Nat) (m : Mem) (lv : Nat) : ∀ (n : Nat) (p0 p1 p2 : List UInt8) (p3 : Int), Ok (r06_Hex_L0 N n p0 p1 p2 p3) (fun r => ∀ s : St, s.mask [0, 3, 4, 5] [] = some ⟨29, lv, tmOf [(0, (.str (bs p0))), (3, (.str (bs p1))), (4, (.sl (some 5) 1 (List.map byteRow p2))), (5, (.int .i64 p3))], bxOf [], m⟩ → (sem T).loop [0, 3, 4, 5] [] L61_0 s = some (((fun p => (.ex 0, ⟨29, lv, tmOf [(4, (.sl (some 5) 1 (List.map byteRow p)))], bxOf [], m⟩)) : _ → Fl × St) r))
  | 0, _, _, _, _ => Ok.none
  | n + 1, p0, p1, p2, p3 => by
    unfold r06_Hex_L0
    repeat' (with_reducible first | (refine Ok.ite (fun hc => ?_) (fun hc => ?_) <;> try subst hc) | exact Ok.none | (refine Ok.bind (fun _ h => ?_)))
    all_goals first
      | (refine Ok.some (fun s hs => loop_end hs ?_ (by intro e; cases e)); simp [L61_0, *]; done)
      | (refine fun r hr s hs => loop_round hs ?_ (r06_Hex_L0_ok N m lv n _ _ _ _ r hr); simp [L61_0, *]; done)
theorem r06_Hex_call {N : Nat} {a0 : List UInt8} {r : List UInt8} (h : r06_Hex N a0 = some r) (m : Mem) (lv : Nat) : (sem T).call 61 [(.str (bs a0))] m lv = some (((fun p => ([(.str (bs p))], m)) : _ → List AV × Mem) r) := by
  revert r
  show Ok _ _
  unfold r06_Hex
  repeat' (with_reducible first | (refine Ok.ite (fun hc => ?_) (fun hc => ?_) <;> try subst hc) | (refine Ok.bind (fun _ h => ?_); ((first | have h := (r06_Hex_L0_ok N m lv _ _ _ _ _).of h | skip); try simp only [List.map_nil, List.map_cons, sRow, iRow, bRow, eRow] at h)))
  all_goals (refine Ok.some (call_go rfl rfl rfl ?_); simp [F61, *])
theorem r06_field_call {N : Nat} {a0 : Int} {a1_0 : Bool} {a1_1 a1_2 : Int} {a1_3 a1_4 a1_5 : List UInt8} {a1_6 a1_7 a1_8 a1_9 a1_10 a1_11 a1_12 : Int} {r : Int} (h : r06_field N a0 a1_0 a1_1 a1_2 a1_3 a1_4 a1_5 a1_6 a1_7 a1_8 a1_9 a1_10 a1_11 a1_12 = some r) (m : Mem) (lv : Nat) : (sem T).call 63 [(.int .u8 a0), (.agg [(.bool a1_0), (.int .u64 a1_1), (.int .u64 a1_2), (.str (bs a1_3)), (.str (bs a1_4)), (.str (bs a1_5)), (.int .i64 a1_6), (.int .i64 a1_7), (.int .i64 a1_8), (.int .i64 a1_9), (.int .i64 a1_10), (.int .i64 a1_11), (.int .u64 a1_12)])] m lv = some (((fun p => ([(.int .i64 p)], m)) : _ → List AV × Mem) r) := by
  revert r
  show Ok _ _
  unfold r06_field
  repeat' (with_reducible first | (refine Ok.ite (fun hc => ?_) (fun hc => ?_) <;> try subst hc))
  all_goals (refine Ok.some (call_go rfl rfl rfl ?_); simp [F63, *])
theorem r06_word_call {N : Nat} {a0 : Int} {a1_0 : Bool} {a1_1 a1_2 : Int} {a1_3 a1_4 a1_5 : List UInt8} {a1_6 a1_7 a1_8 a1_9 a1_10 a1_11 a1_12 : Int} {r : List UInt8} (h : r06_word N a0 a1_0 a1_1 a1_2 a1_3 a1_4 a1_5 a1_6 a1_7 a1_8 a1_9 a1_10 a1_11 a1_12 = some r) (m : Mem) (lv : Nat) : (sem T).call 25 [(.int .u8 a0), (.agg [(.bool a1_0), (.int .u64 a1_1), (.int .u64 a1_2), (.str (bs a1_3)), (.str (bs a1_4)), (.str (bs a1_5)), (.int .i64 a1_6), (.int .i64 a1_7), (.int .i64 a1_8), (.int .i64 a1_9), (.int .i64 a1_10), (.int .i64 a1_11), (.int .u64 a1_12)])] m lv = some (((fun p => ([(.str (bs p))], m)) : _ → List AV × Mem) r) := by
  revert r
  show Ok _ _
  unfold r06_word
  repeat' (with_reducible first | (refine Ok.ite (fun hc => ?_) (fun hc => ?_) <;> try subst hc) | (refine Ok.bind (fun _ h => ?_); ((first | have h := decI_call h | have h := r02_Print_call h | have h := r05_Mnemonic_call h | have h := r06_Hex_call h | have h := r06_field_call h | skip); try simp only [List.map_nil, List.map_cons, sRow, iRow, bRow, eRow] at h)))
  all_goals (refine Ok.some (call_go rfl rfl rfl ?_); simp [F25, *])
theorem r05_Types_L0_ok (N : Nat) (m : Mem) (lv : Nat) : ∀ (n : Nat) (p0 : Int) (p1 : List Int) (p2 : Int), Ok (r05_Types_L0 N n p0 p1 p2) (fun r => ∀ s : St, s.mask [0, 3, 4] [] = some ⟨24, lv, tmOf [(0, (.int .u64 p0)), (3, (.sl (some 3) 1 (List.map (iRow .i64) p1))), (4, (.int .i64 p2))], bxOf [], m⟩ → (sem T).loop [0, 3, 4] [] L26_0 s = some (((fun p => (.ex 0, ⟨24, lv, tmOf [(3, (.sl (some 3) 1 (List.map (iRow .i64) p)))], bxOf [], m⟩)) : _ → Fl × St) r))
  | 0, _, _, _ => Ok.none
  | n + 1, p0, p1, p2 => by
    unfold r05_Types_L0
    repeat' (with_reducible first | (refine Ok.ite (fun hc => ?_) (fun hc => ?_) <;> try subst hc) | exact Ok.none | (refine Ok.bind (fun _ h => ?_); ((first | have h := r05_Known_call h | skip); try simp only [List.map_nil, List.map_cons, sRow, iRow, bRow, eRow] at h)))
    all_goals first
      | (refine Ok.some (fun s hs => loop_end hs ?_ (by intro e; cases e)); simp [L26_0, *]; done)
      | (refine fun r hr s hs => loop_round hs ?_ (r05_Types_L0_ok N m lv n _ _ _ r hr); simp [L26_0, *]; done)
theorem r05_Types_call {N : Nat} {a0 : Int} {r : List Int} (h : r05_Types N a0 = some r) (m : Mem) (lv : Nat) : (sem T).call 26 [(.int .u64 a0)] m lv = some (((fun p => ([(.sl (some 3) 1 (List.map (iRow .i64) p))], m)) : _ → List AV × Mem) r) := by
  revert r
  show Ok _ _
  unfold r05_Types
  repeat' (with_reducible first | (refine Ok.ite (fun hc => ?_) (fun hc => ?_) <;> try subst hc) | (refine Ok.bind (fun _ h => ?_); ((first | have h := (r05_Types_L0_ok N m lv _ _ _ _).of h | skip); try simp only [List.map_nil, List.map_cons, sRow, iRow, bRow, eRow] at h)))
  all_goals (refine Ok.some (call_go rfl rfl rfl ?_); simp [F26, *])
theorem r06_Words_L1_ok (N : Nat) (m : Mem) (lv : Nat) : ∀ (n : Nat) (p0 : Int) (p1 : List (List UInt8)) (p2 : List UInt8) (p3 : Int) (p4 : Bool) (p5 p6 : Int) (p7 p8 p9 : List UInt8) (p10 p11 p12 p13 p14 p15 p16 : Int), Ok (r06_Words_L1 N n p0 p1 p2 p3 p4 p5 p6 p7 p8 p9 p10 p11 p12 p13 p14 p15 p16) (fun r => ∀ s : St, s.mask [0, 3, 6, 7, 8] [3] = some ⟨58, lv, tmOf [(0, (.int .i64 p0)), (3, (.ptr lv 3 0)), (6, (.sl (some 9) 1 (List.map sRow p1))), (7, (.str (bs p2))), (8, (.int .i64 p3))], bxOf [(3, some (.cells 26 [(.bool p4), (.int .u64 p5), (.int .u64 p6), (.str (bs p7)), (.str (bs p8)), (.str (bs p9)), (.int .i64 p10), (.int .i64 p11), (.int .i64 p12), (.int .i64 p13), (.int .i64 p14), (.int .i64 p15), (.int .u64 p16)]))], m⟩ → (sem T).loop [0, 3, 6, 7, 8] [3] L7_1 s = some (((fun p => (.ex 0, ⟨58, lv, tmOf [(0, (.int .i64 p0)), (3, (.ptr lv 3 0)), (6, (.sl (some 9) 1 (List.map sRow p)))], bxOf [(3, some (.cells 26 [(.bool p4), (.int .u64 p5), (.int .u64 p6), (.str (bs p7)), (.str (bs p8)), (.str (bs p9)), (.int .i64 p10), (.int .i64 p11), (.int .i64 p12), (.int .i64 p13), (.int .i64 p14), (.int .i64 p15), (.int .u64 p16)]))], m⟩)) : _ → Fl × St) r))
  | 0, _, _, _, _, _, _, _, _, _, _, _, _, _, _, _, _, _ => Ok.none
  | n + 1, p0, p1, p2, p3, p4, p5, p6, p7, p8, p9, p10, p11, p12, p13, p14, p15, p16 => by
    unfold r06_Words_L1
    repeat' (with_reducible first | (refine Ok.ite (fun hc => ?_) (fun hc => ?_) <;> try subst hc) | exact Ok.none | (refine Ok.bind (fun _ h => ?_); ((first | have h := r06_word_call h | skip); try simp only [List.map_nil, List.map_cons, sRow, iRow, bRow, eRow] at h)))
    all_goals first
      | (refine Ok.some (fun s hs => loop_end hs ?_ (by intro e; cases e)); simp [L7_1, *]; done)
      | (refine fun r hr s hs => loop_round hs ?_ (r06_Words_L1_ok N m lv n _ _ _ _ _ _ _ _ _ _ _ _ _ _ _ _ _ r hr); simp [L7_1, *]; done)
theorem r06_Words_L0_ok (N : Nat) (m : Mem) (lv : Nat) : ∀ (n : Nat) (p0 : List (List UInt8)) (p1 : List Int) (p2 : Int), Ok (r06_Words_L0 N n p0 p1 p2) (fun r => ∀ s : St, s.mask [6, 9, 10] [] = some ⟨58, lv, tmOf [(6, (.sl (some 9) 1 (List.map sRow p0))), (9, (.sl (some 3) 1 (List.map (iRow .i64) p1))), (10, (.int .i64 p2))], bxOf [], m⟩ → (sem T).loop [6, 9, 10] [] L7_0 s = some (((fun p => (.ex 2, ⟨58, lv, tmOf [(6, (.sl (some 9) 1 (List.map sRow p)))], bxOf [], m⟩)) : _ → Fl × St) r))
  | 0, _, _, _ => Ok.none
  | n + 1, p0, p1, p2 => by
    unfold r06_Words_L0
    repeat' (with_reducible first | (refine Ok.ite (fun hc => ?_) (fun hc => ?_) <;> try subst hc) | exact Ok.none | (refine Ok.bind (fun _ h => ?_); ((first | have h := r05_Mnemonic_call h | skip); try simp only [List.map_nil, List.map_cons, sRow, iRow, bRow, eRow] at h)))
    all_goals first
      | (refine Ok.some (fun s hs => loop_end hs ?_ (by intro e; cases e)); simp [L7_0, *]; done)
      | (refine fun r hr s hs => loop_round hs ?_ (r06_Words_L0_ok N m lv n _ _ _ r hr); simp [L7_0, *]; done)
theorem r06_Words_call {N : Nat} {a0 : Int} {a1_0 : Bool} {a1_1 a1_2 : Int} {a1_3 a1_4 a1_5 : List UInt8} {a1_6 a1_7 a1_8 a1_9 a1_10 a1_11 a1_12 : Int} {r : List (List UInt8) × Int} (h : r06_Words N a0 a1_0 a1_1 a1_2 a1_3 a1_4 a1_5 a1_6 a1_7 a1_8 a1_9 a1_10 a1_11 a1_12 = some r) (m : Mem) (lv : Nat) : (sem T).call 7 [(.int .i64 a0), (.agg [(.bool a1_0), (.int .u64 a1_1), (.int .u64 a1_2), (.str (bs a1_3)), (.str (bs a1_4)), (.str (bs a1_5)), (.int .i64 a1_6), (.int .i64 a1_7), (.int .i64 a1_8), (.int .i64 a1_9), (.int .i64 a1_10), (.int .i64 a1_11), (.int .u64 a1_12)])] m lv = some (((fun p => ([(.sl (some 9) 1 (List.map sRow p.1)), (.int .i64 p.2)], m)) : _ → List AV × Mem) r) := by
  revert r
  show Ok _ _
  unfold r06_Words
  repeat' (with_reducible first | (refine Ok.ite (fun hc => ?_) (fun hc => ?_) <;> try subst hc) | (refine Ok.bind (fun _ h => ?_); ((first | have h := r05_Known_call h | have h := r05_Types_call h | have h := r05_Valid_call h | have h := r06_Fields_call h | have h := (r06_Words_L0_ok N m lv _ _ _ _).of h | have h := (r06_Words_L1_ok N m lv _ _ _ _ _ _ _ _ _ _ _ _ _ _ _ _ _ _).of h | skip); try simp only [List.map_nil, List.map_cons, sRow, iRow, bRow, eRow] at h)))
  all_goals (refine Ok.some (call_go rfl rfl rfl ?_); simp [F7, *])
theorem rtext_Print_call {N : Nat} {a0 : Int} {a1_0 : Bool} {a1_1 a1_2 : Int} {a1_3 a1_4 a1_5 : List UInt8} {a1_6 a1_7 a1_8 a1_9 a1_10 a1_11 a1_12 : Int} {r : List UInt8 × Int} (h : rtext_Print N a0 a1_0 a1_1 a1_2 a1_3 a1_4 a1_5 a1_6 a1_7 a1_8 a1_9 a1_10 a1_11 a1_12 = some r) (m : Mem) (lv : Nat) : (sem T).call 8 [(.int .i64 a0), (.agg [(.bool a1_0), (.int .u64 a1_1), (.int .u64 a1_2), (.str (bs a1_3)), (.str (bs a1_4)), (.str (bs a1_5)), (.int .i64 a1_6), (.int .i64 a1_7), (.int .i64 a1_8), (.int .i64 a1_9), (.int .i64 a1_10), (.int .i64 a1_11), (.int .u64 a1_12)])] m lv = some (((fun p => ([(.str (bs p.1)), (.int .i64 p.2)], m)) : _ → List AV × Mem) r) := by
  revert r
  show Ok _ _
  unfold rtext_Print
  repeat' (with_reducible first | (refine Ok.ite (fun hc => ?_) (fun hc => ?_) <;> try subst hc) | (refine Ok.bind (fun _ h => ?_); ((first | have h := joinI_call h | have h := quoteI_callP h | have h := rtext_Words_call h | skip); try simp only [List.map_nil, List.map_cons, sRow, iRow, bRow, eRow] at h)))
  all_goals (refine Ok.some (call_go rfl rfl rfl ?_); simp [F8, *])
theorem r06_Print_L0_ok (N : Nat) (m : Mem) (lv : Nat) : ∀ (n : Nat) (p0 : List (List UInt8)) (p1 : List UInt8) (p2 : Int), Ok (r06_Print_L0 N n p0 p1 p2) (fun r => ∀ s : St, s.mask [6, 8, 9] [] = some ⟨41, lv, tmOf [(6, (.sl none 1 (List.map sRow p0))), (8, (.str (bs p1))), (9, (.int .i64 p2))], bxOf [], m⟩ → (sem T).loop [6, 8, 9] [] L9_0 s = some (((fun p => (.ex 0, ⟨41, lv, tmOf [(8, (.str (bs p)))], bxOf [], m⟩)) : _ → Fl × St) r))
  | 0, _, _, _ => Ok.none
  | n + 1, p0, p1, p2 => by
    unfold r06_Print_L0
    repeat' (with_reducible first | (refine Ok.ite (fun hc => ?_) (fun hc => ?_) <;> try subst hc) | (refine Ok.bind (fun _ h => ?_)))
    all_goals first
      | (refine Ok.some (fun s hs => loop_end hs ?_ (by intro e; cases e)); simp [L9_0, *]; done)
      | (refine fun r hr s hs => loop_round hs ?_ (r06_Print_L0_ok N m lv n _ _ _ r hr); simp [L9_0, *]; done)
theorem r06_Print_call {N : Nat} {a0 : Int} {a1_0 : Bool} {a1_1 a1_2 : Int} {a1_3 a1_4 a1_5 : List UInt8} {a1_6 a1_7 a1_8 a1_9 a1_10 a1_11 a1_12 : Int} {r : List UInt8 × Int} (h : r06_Print N a0 a1_0 a1_1 a1_2 a1_3 a1_4 a1_5 a1_6 a1_7 a1_8 a1_9 a1_10 a1_11 a1_12 = some r) (m : Mem) (lv : Nat) : (sem T).call 9 [(.int .i64 a0), (.agg [(.bool a1_0), (.int .u64 a1_1), (.int .u64 a1_2), (.str (bs a1_3)), (.str (bs a1_4)), (.str (bs a1_5)), (.int .i64 a1_6), (.int .i64 a1_7), (.int .i64 a1_8), (.int .i64 a1_9), (.int .i64 a1_10), (.int .i64 a1_11), (.int .u64 a1_12)])] m lv = some (((fun p => ([(.str (bs p.1)), (.int .i64 p.2)], m)) : _ → List AV × Mem) r) := by
  revert r
  show Ok _ _
  unfold r06_Print
  repeat' (with_reducible first | (refine Ok.ite (fun hc => ?_) (fun hc => ?_) <;> try subst hc) | (refine Ok.bind (fun _ h => ?_); ((first | have h := quoteI_callR h | have h := r06_Words_call h | have h := (r06_Print_L0_ok N m lv _ _ _ _).of h | skip); try simp only [List.map_nil, List.map_cons, sRow, iRow, bRow, eRow] at h)))
  all_goals (refine Ok.some (call_go rfl rfl rfl ?_); simp [F9, *])
end Go.Ev
