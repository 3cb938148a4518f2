/- The evaluator's texts answer as the plain functions. Condition: none. -/
import Derived.Test.YtcnlfelalgaepaaGreatDoorShD
import Derived.Test.YtcnlfelalgaepaaGreatDoorShW
import Derived.Test.YtcnlfelalgaepaaGreatDoorRsL
namespace Go.Ev
set_option linter.all false
set_option maxRecDepth 10000
set_option maxHeartbeats 8000000
theorem rtext_reader_fail_ok (N : Nat) (a0_0 : List (List UInt8)) (a0_1 : List UInt8) (a0_2 a1 : Int) (m : Mem) (lv : Nat) (cl0 sl0 : Nat) (hc0 : cl0 < lv) : Ok (rtext_reader_fail N a0_0 a0_1 a0_2 a1) (fun r => (sem T).call 78 [(.ptr cl0 sl0 0), (.int .i64 a1)] (updM m cl0 sl0 (.cells 55 [(.sl none 1 (List.map sRow a0_0)), (.str (bs a0_1)), (.int .i64 a0_2)])) lv = some (((fun p => ([], (updM m cl0 sl0 (.cells 55 [(.sl none 1 (List.map sRow a0_0)), (.str (bs a0_1)), (.int .i64 p)])))) : _ → List AV × Mem) r)) := by
 have e0_1 : (cl0 = lv) = False := eq_false (by omega)
 have e0_2 : (lv = cl0) = False := eq_false (by omega)
 have e0_3 : cl0 < lv + 1 := by omega
 unfold rtext_reader_fail
 repeat' (with_reducible first | (refine Ok.ite (fun hc => ?_) (fun hc => ?_) <;> try subst hc))
 all_goals (refine Ok.some (call_go rfl rfl rfl ?_); simp [F78, *])
theorem rtext_reader_fail_call {N : Nat} {a0_0 : List (List UInt8)} {a0_1 : List UInt8} {a0_2 a1 : Int} {r : Int} (h : rtext_reader_fail N a0_0 a0_1 a0_2 a1 = some r) (M : Mem) (lv : Nat) (cl0 sl0 : Nat) (hc0 : cl0 < lv) (hm0 : M cl0 sl0 = some (.cells 55 [(.sl none 1 (List.map sRow a0_0)), (.str (bs a0_1)), (.int .i64 a0_2)])) : (sem T).call 78 [(.ptr cl0 sl0 0), (.int .i64 a1)] M lv = some (((fun p => ([], (updM M cl0 sl0 (.cells 55 [(.sl none 1 (List.map sRow a0_0)), (.str (bs a0_1)), (.int .i64 p)])))) : _ → List AV × Mem) r) := (congrArg (fun x => (sem T).call 78 _ x lv) (updM_self hm0)).symm.trans ((rtext_reader_fail_ok N a0_0 a0_1 a0_2 a1 M lv cl0 sl0 hc0).of h)
theorem rtext_reader_word_ok (N : Nat) (a0_0 : List (List UInt8)) (a0_1 : List UInt8) (a0_2 : Int) (m : Mem) (lv : Nat) (cl0 sl0 : Nat) (hc0 : cl0 < lv) : Ok (rtext_reader_word N a0_0 a0_1 a0_2) (fun r => (sem T).call 75 [(.ptr cl0 sl0 0)] (updM m cl0 sl0 (.cells 55 [(.sl none 1 (List.map sRow a0_0)), (.str (bs a0_1)), (.int .i64 a0_2)])) lv = some (((fun p => ([(.str (bs p.1)), (.bool p.2.1)], (updM m cl0 sl0 (.cells 55 [(.sl none 1 (List.map sRow p.2.2.1)), (.str (bs a0_1)), (.int .i64 p.2.2.2)])))) : _ → List AV × Mem) r)) := by
 have e0_1 : (cl0 = lv) = False := eq_false (by omega)
 have e0_2 : (lv = cl0) = False := eq_false (by omega)
 have e0_3 : cl0 < lv + 1 := by omega
 unfold rtext_reader_word
 repeat' (with_reducible first | (refine Ok.ite (fun hc => ?_) (fun hc => ?_) <;> try subst hc) | (refine Ok.bind (fun _ h => ?_); ((first | have h := rtext_reader_fail_call h | skip); try simp only [List.map_nil, List.map_cons, sRow, iRow, bRow, eRow] at h)))
 all_goals (refine Ok.some (call_go rfl rfl rfl ?_); simp [F75, *])
theorem rtext_reader_word_call {N : Nat} {a0_0 : List (List UInt8)} {a0_1 : List UInt8} {a0_2 : Int} {r : List UInt8 × Bool × List (List UInt8) × Int} (h : rtext_reader_word N a0_0 a0_1 a0_2 = some r) (M : Mem) (lv : Nat) (cl0 sl0 : Nat) (hc0 : cl0 < lv) (hm0 : M cl0 sl0 = some (.cells 55 [(.sl none 1 (List.map sRow a0_0)), (.str (bs a0_1)), (.int .i64 a0_2)])) : (sem T).call 75 [(.ptr cl0 sl0 0)] M lv = some (((fun p => ([(.str (bs p.1)), (.bool p.2.1)], (updM M cl0 sl0 (.cells 55 [(.sl none 1 (List.map sRow p.2.2.1)), (.str (bs a0_1)), (.int .i64 p.2.2.2)])))) : _ → List AV × Mem) r) := (congrArg (fun x => (sem T).call 75 _ x lv) (updM_self hm0)).symm.trans ((rtext_reader_word_ok N a0_0 a0_1 a0_2 M lv cl0 sl0 hc0).of h)
theorem addr_decimal_L0_ok (N : Nat) (m : Mem) (lv : Nat) : ∀ (n : Nat) (p0 : List UInt8) (p1 p2 p3 : Int), Ok (addr_decimal_L0 N n p0 p1 p2 p3) (fun r => ∀ s : St, s.mask [0, 4, 25, 26] [] = some ⟨51, lv, tmOf [(0, (.str (bs p0))), (4, (.int .u64 p1)), (25, (.int .i64 p2)), (26, (.int .i64 p3))], bxOf [], m⟩ → (sem T).loop [0, 4, 25, 26] [] L154_0 s = some ((O2.el (fun p => (.ret, ⟨51, lv, tmOf [(2, (.int .u64 p.1)), (3, (.bool p.2))], bxOf [], m⟩)) (fun p => (.ex 0, ⟨51, lv, tmOf [(4, (.int .u64 p))], bxOf [], m⟩)) : _ → Fl × St) r))
 | 0, _, _, _, _ => Ok.none
 | n + 1, p0, p1, p2, p3 => by
   unfold addr_decimal_L0
   repeat' (with_reducible first | (refine Ok.ite (fun hc => ?_) (fun hc => ?_) <;> try subst hc) | (refine Ok.bind (fun _ h => ?_)))
   all_goals first
    | (refine Ok.some (fun s hs => loop_end hs ?_ (by intro e; cases e)); simp [L154_0, *]; done)
    | (refine fun r hr s hs => loop_round hs ?_ (addr_decimal_L0_ok N m lv n _ _ _ _ r hr); simp [L154_0, *]; done)
theorem addr_decimal_call {N : Nat} {a0 : List UInt8} {r : Int × Bool} (h : addr_decimal N a0 = some r) (m : Mem) (lv : Nat) : (sem T).call 154 [(.str (bs a0))] m lv = some (((fun p => ([(.int .u64 p.1), (.bool p.2)], m)) : _ → List AV × Mem) r) := by
 revert r
 show Ok _ _
 unfold addr_decimal
 repeat' (with_reducible first | (refine Ok.ite (fun hc => ?_) (fun hc => ?_) <;> try subst hc) | (refine Ok.bind2 (fun _ h => ?_) (fun _ h => ?_) <;> ((first | have h := (addr_decimal_L0_ok N m lv _ _ _ _ _).of h | skip); try simp only [List.map_nil, List.map_cons, sRow, iRow, bRow, eRow] at h)) | (refine Ok.bind (fun _ h => ?_); ((first | have h := (addr_decimal_L0_ok N m lv _ _ _ _ _).of h | skip); try simp only [List.map_nil, List.map_cons, sRow, iRow, bRow, eRow] at h)))
 all_goals (refine Ok.some (call_go rfl rfl rfl ?_); simp [F154, *])
theorem addr_four_L0_ok (N : Nat) (m : Mem) (lv : Nat) : ∀ (n : Nat) (p0 : List (List UInt8)) (p1 p2 : Int) (p3 : Bool) (p4 p5 : Int) (p6 : Bool) (p7 p8 : Int), Ok (addr_four_L0 N n p0 p1 p2 p3 p4 p5 p6 p7 p8) (fun r => ∀ s : St, s.mask [2, 5, 17, 18, 19] [2, 5] = some ⟨39, lv, tmOf [(2, (.ptr lv 2 0)), (5, (.ptr lv 5 0)), (17, (.sl none 1 (List.map sRow p0))), (18, (.int .i64 p1)), (19, (.int .i64 p2))], bxOf [(2, some (.cells 24 [(.bool p3), (.int .u64 p4), (.int .u64 p5)])), (5, some (.cells 24 [(.bool p6), (.int .u64 p7), (.int .u64 p8)]))], m⟩ → (sem T).loop [2, 5, 17, 18, 19] [2, 5] L133_0 s = some ((O2.el (fun p => (.ret, ⟨39, lv, tmOf [(2, (.ptr lv 2 0)), (3, (.bool p.1))], bxOf [(2, some (.cells 24 [(.bool p.2.1), (.int .u64 p.2.2.1), (.int .u64 p.2.2.2)]))], m⟩)) (fun p => (.ex 0, ⟨39, lv, tmOf [(2, (.ptr lv 2 0)), (5, (.ptr lv 5 0))], bxOf [(2, some (.cells 24 [(.bool p3), (.int .u64 p4), (.int .u64 p5)])), (5, some (.cells 24 [(.bool p6), (.int .u64 p7), (.int .u64 p)]))], m⟩)) : _ → Fl × St) r))
 | 0, _, _, _, _, _, _, _, _, _ => Ok.none
 | n + 1, p0, p1, p2, p3, p4, p5, p6, p7, p8 => by
   unfold addr_four_L0
   repeat' (with_reducible first | (refine Ok.ite (fun hc => ?_) (fun hc => ?_) <;> try subst hc) | (refine Ok.bind (fun _ h => ?_); ((first | have h := addr_decimal_call h | skip); try simp only [List.map_nil, List.map_cons, sRow, iRow, bRow, eRow] at h)))
   all_goals first
    | (refine Ok.some (fun s hs => loop_end hs ?_ (by intro e; cases e)); simp [L133_0, *]; done)
    | (refine fun r hr s hs => loop_round hs ?_ (addr_four_L0_ok N m lv n _ _ _ _ _ _ _ _ _ r hr); simp [L133_0, *]; done)
theorem addr_four_call {N : Nat} {a0 : List UInt8} {r : Bool × Int × Int × Bool} (h : addr_four N a0 = some r) (m : Mem) (lv : Nat) : (sem T).call 133 [(.str (bs a0))] m lv = some (((fun p => ([(.agg [(.bool p.1), (.int .u64 p.2.1), (.int .u64 p.2.2.1)]), (.bool p.2.2.2)], m)) : _ → List AV × Mem) r) := by
 revert r
 show Ok _ _
 unfold addr_four
 repeat' (with_reducible first | (refine Ok.ite (fun hc => ?_) (fun hc => ?_) <;> try subst hc) | (refine Ok.bind2 (fun _ h => ?_) (fun _ h => ?_) <;> ((first | have h := strings_Split_call h | have h := (addr_four_L0_ok N m lv _ _ _ _ _ _ _ _ _ _).of h | skip); try simp only [List.map_nil, List.map_cons, sRow, iRow, bRow, eRow] at h)))
 all_goals (refine Ok.some (call_go rfl rfl rfl ?_); simp [F133, *])
theorem addr_digit_call {N : Nat} {a0 : Int} {r : Int} (h : addr_digit N a0 = some r) (m : Mem) (lv : Nat) : (sem T).call 168 [(.int .u8 a0)] m lv = some (((fun p => ([(.int .i64 p)], m)) : _ → List AV × Mem) r) := by
 revert r
 show Ok _ _
 unfold addr_digit
 repeat' (with_reducible first | (refine Ok.ite (fun hc => ?_) (fun hc => ?_) <;> try subst hc))
 all_goals (refine Ok.some (call_go rfl rfl rfl ?_); simp [F168, *])
theorem addr_list_L0_ok (N : Nat) (m : Mem) (lv : Nat) : ∀ (n : Nat) (p0 : List Int) (p1 : List UInt8) (p2 : Int) (p3 : List (List UInt8)) (p4 p5 p6 p7 : Int), Ok (addr_list_L0 N n p0 p1 p2 p3 p4 p5 p6 p7) (fun r => ∀ s : St, s.mask [4, 6, 7, 13, 14, 15, 33, 34] [] = some ⟨55, lv, tmOf [(4, (.sl (some 70) 1 (List.map (iRow .u16) p0))), (6, (.str (bs p1))), (7, (.int .i64 p2)), (13, (.sl (some 9) 1 (List.map sRow p3))), (14, (.int .i64 p4)), (15, (.int .i64 p5)), (33, (.int .i64 p6)), (34, (.int .i64 p7))], bxOf [], m⟩ → (sem T).loop [4, 6, 7, 13, 14, 15, 33, 34] [] L156_0 s = some ((O2.el (fun p => (.ret, ⟨55, lv, tmOf [(2, (.sl (some 70) 1 (List.map (iRow .u16) p.1))), (3, (.bool p.2))], bxOf [], m⟩)) (fun p => (.ex 2, ⟨55, lv, tmOf [(4, (.sl (some 70) 1 (List.map (iRow .u16) p0))), (7, (.int .i64 p)), (13, (.sl (some 9) 1 (List.map sRow p3))), (14, (.int .i64 p4)), (15, (.int .i64 p5))], bxOf [], m⟩)) : _ → Fl × St) r))
 | 0, _, _, _, _, _, _, _, _ => Ok.none
 | n + 1, p0, p1, p2, p3, p4, p5, p6, p7 => by
   unfold addr_list_L0
   repeat' (with_reducible first | (refine Ok.ite (fun hc => ?_) (fun hc => ?_) <;> try subst hc) | (refine Ok.bind (fun _ h => ?_); ((first | have h := addr_digit_call h | skip); try simp only [List.map_nil, List.map_cons, sRow, iRow, bRow, eRow] at h)))
   all_goals first
    | (refine Ok.some (fun s hs => loop_end hs ?_ (by intro e; cases e)); simp [L156_0, *]; done)
    | (refine fun r hr s hs => loop_round hs ?_ (addr_list_L0_ok N m lv n _ _ _ _ _ _ _ _ r hr); simp [L156_0, *]; done)
theorem addr_list_L1_ok (N : Nat) (m : Mem) (lv : Nat) : ∀ (n : Nat) (p0 : List Int) (p1 : List (List UInt8)) (p2 p3 : Int), Ok (addr_list_L1 N n p0 p1 p2 p3) (fun r => ∀ s : St, s.mask [4, 13, 14, 15] [] = some ⟨55, lv, tmOf [(4, (.sl (some 70) 1 (List.map (iRow .u16) p0))), (13, (.sl (some 9) 1 (List.map sRow p1))), (14, (.int .i64 p2)), (15, (.int .i64 p3))], bxOf [], m⟩ → (sem T).loop [4, 13, 14, 15] [] L156_1 s = some ((O2.el (fun p => (.ret, ⟨55, lv, tmOf [(2, (.sl (some 70) 1 (List.map (iRow .u16) p.1))), (3, (.bool p.2))], bxOf [], m⟩)) (fun p => (.ex 0, ⟨55, lv, tmOf [(4, (.sl (some 70) 1 (List.map (iRow .u16) p)))], bxOf [], m⟩)) : _ → Fl × St) r))
 | 0, _, _, _, _ => Ok.none
 | n + 1, p0, p1, p2, p3 => by
   unfold addr_list_L1
   repeat' (with_reducible first | (refine Ok.ite (fun hc => ?_) (fun hc => ?_) <;> try subst hc) | exact Ok.none | (refine Ok.bind2 (fun _ h => ?_) (fun _ h => ?_) <;> ((first | have h := (addr_list_L0_ok N m lv _ _ _ _ _ _ _ _ _).of h | skip); try simp only [List.map_nil, List.map_cons, sRow, iRow, bRow, eRow] at h)) | (refine Ok.bind (fun _ h => ?_); ((first | have h := (addr_list_L0_ok N m lv _ _ _ _ _ _ _ _ _).of h | skip); try simp only [List.map_nil, List.map_cons, sRow, iRow, bRow, eRow] at h)))
   all_goals first
    | (refine Ok.some (fun s hs => loop_end hs ?_ (by intro e; cases e)); simp [L156_1, *]; done)
    | (refine fun r hr s hs => loop_round hs ?_ (addr_list_L1_ok N m lv n _ _ _ _ r hr); simp [L156_1, *]; done)
theorem addr_list_L0b_ok (N : Nat) (m : Mem) (lv : Nat) : ∀ (n : Nat) (p0 : List Int) (p1 : List UInt8) (p2 : Int) (p3 : List (List UInt8)) (p4 p5 p6 p7 : Int), Ok (addr_list_L0b N n p0 p1 p2 p3 p4 p5 p6 p7) (fun r => ∀ s : St, s.mask [4, 6, 7, 13, 14, 15, 33, 34] [] = some ⟨55, lv, tmOf [(4, (.sl (some 70) 1 (List.map (iRow .u16) p0))), (6, (.str (bs p1))), (7, (.int .i64 p2)), (13, (.sl none 1 (List.map sRow p3))), (14, (.int .i64 p4)), (15, (.int .i64 p5)), (33, (.int .i64 p6)), (34, (.int .i64 p7))], bxOf [], m⟩ → (sem T).loop [4, 6, 7, 13, 14, 15, 33, 34] [] L156_0 s = some ((O2.el (fun p => (.ret, ⟨55, lv, tmOf [(2, (.sl (some 70) 1 (List.map (iRow .u16) p.1))), (3, (.bool p.2))], bxOf [], m⟩)) (fun p => (.ex 2, ⟨55, lv, tmOf [(4, (.sl (some 70) 1 (List.map (iRow .u16) p0))), (7, (.int .i64 p)), (13, (.sl none 1 (List.map sRow p3))), (14, (.int .i64 p4)), (15, (.int .i64 p5))], bxOf [], m⟩)) : _ → Fl × St) r))
 | 0, _, _, _, _, _, _, _, _ => Ok.none
 | n + 1, p0, p1, p2, p3, p4, p5, p6, p7 => by
   unfold addr_list_L0b
   repeat' (with_reducible first | (refine Ok.ite (fun hc => ?_) (fun hc => ?_) <;> try subst hc) | (refine Ok.bind (fun _ h => ?_); ((first | have h := addr_digit_call h | skip); try simp only [List.map_nil, List.map_cons, sRow, iRow, bRow, eRow] at h)))
   all_goals first
    | (refine Ok.some (fun s hs => loop_end hs ?_ (by intro e; cases e)); simp [L156_0, *]; done)
    | (refine fun r hr s hs => loop_round hs ?_ (addr_list_L0b_ok N m lv n _ _ _ _ _ _ _ _ r hr); simp [L156_0, *]; done)
theorem addr_list_L1b_ok (N : Nat) (m : Mem) (lv : Nat) : ∀ (n : Nat) (p0 : List Int) (p1 : List (List UInt8)) (p2 p3 : Int), Ok (addr_list_L1b N n p0 p1 p2 p3) (fun r => ∀ s : St, s.mask [4, 13, 14, 15] [] = some ⟨55, lv, tmOf [(4, (.sl (some 70) 1 (List.map (iRow .u16) p0))), (13, (.sl none 1 (List.map sRow p1))), (14, (.int .i64 p2)), (15, (.int .i64 p3))], bxOf [], m⟩ → (sem T).loop [4, 13, 14, 15] [] L156_1 s = some ((O2.el (fun p => (.ret, ⟨55, lv, tmOf [(2, (.sl (some 70) 1 (List.map (iRow .u16) p.1))), (3, (.bool p.2))], bxOf [], m⟩)) (fun p => (.ex 0, ⟨55, lv, tmOf [(4, (.sl (some 70) 1 (List.map (iRow .u16) p)))], bxOf [], m⟩)) : _ → Fl × St) r))
 | 0, _, _, _, _ => Ok.none
 | n + 1, p0, p1, p2, p3 => by
   unfold addr_list_L1b
   repeat' (with_reducible first | (refine Ok.ite (fun hc => ?_) (fun hc => ?_) <;> try subst hc) | exact Ok.none | (refine Ok.bind2 (fun _ h => ?_) (fun _ h => ?_) <;> ((first | have h := (addr_list_L0b_ok N m lv _ _ _ _ _ _ _ _ _).of h | skip); try simp only [List.map_nil, List.map_cons, sRow, iRow, bRow, eRow] at h)) | (refine Ok.bind (fun _ h => ?_); ((first | have h := (addr_list_L0b_ok N m lv _ _ _ _ _ _ _ _ _).of h | skip); try simp only [List.map_nil, List.map_cons, sRow, iRow, bRow, eRow] at h)))
   all_goals first
    | (refine Ok.some (fun s hs => loop_end hs ?_ (by intro e; cases e)); simp [L156_1, *]; done)
    | (refine fun r hr s hs => loop_round hs ?_ (addr_list_L1b_ok N m lv n _ _ _ _ r hr); simp [L156_1, *]; done)
theorem addr_list_call {N : Nat} {a0 : List UInt8} {r : List Int × Bool} (h : addr_list N a0 = some r) (m : Mem) (lv : Nat) : (sem T).call 156 [(.str (bs a0))] m lv = some (((fun p => ([(.sl (some 70) 1 (List.map (iRow .u16) p.1)), (.bool p.2)], m)) : _ → List AV × Mem) r) := by
 revert r
 show Ok _ _
 unfold addr_list
 repeat' (with_reducible first | (refine Ok.ite (fun hc => ?_) (fun hc => ?_) <;> try subst hc) | (refine Ok.bind2 (fun _ h => ?_) (fun _ h => ?_) <;> ((first | have h := strings_Split_call h | have h := (addr_list_L1_ok N m lv _ _ _ _ _).of h | have h := (addr_list_L1b_ok N m lv _ _ _ _ _).of h | skip); try simp only [List.map_nil, List.map_cons, sRow, iRow, bRow, eRow] at h)))
 all_goals (refine Ok.some (call_go rfl rfl rfl ?_); simp [F156, *])
theorem addr_groups_addr_L0_ok (N : Nat) (m : Mem) (lv : Nat) : ∀ (n : Nat) (p0 : Int) (p1 : List Int) (p2 : Bool) (p3 p4 : Int) (p5 : Bool) (p6 p7 : Int), Ok (addr_groups_addr_L0 N n p0 p1 p2 p3 p4 p5 p6 p7) (fun r => ∀ s : St, s.mask [1, 2, 3, 6] [1, 2, 3] = some ⟨30, lv, tmOf [(1, (.ptr lv 1 0)), (2, (.ptr lv 2 0)), (3, (.ptr lv 3 0)), (6, (.int .i64 p0))], bxOf [(1, some (.cells 72 (fl (iRow .u16) p1))), (2, some (.cells 24 [(.bool p2), (.int .u64 p3), (.int .u64 p4)])), (3, some (.cells 24 [(.bool p5), (.int .u64 p6), (.int .u64 p7)]))], m⟩ → (sem T).loop [1, 2, 3, 6] [1, 2, 3] L157_0 s = some (((fun p => (.ex 0, ⟨30, lv, tmOf [(2, (.ptr lv 2 0)), (3, (.ptr lv 3 0))], bxOf [(2, some (.cells 24 [(.bool p2), (.int .u64 p3), (.int .u64 p4)])), (3, some (.cells 24 [(.bool p5), (.int .u64 p.1), (.int .u64 p.2)]))], m⟩)) : _ → Fl × St) r))
 | 0, _, _, _, _, _, _, _, _ => Ok.none
 | n + 1, p0, p1, p2, p3, p4, p5, p6, p7 => by
   unfold addr_groups_addr_L0
   repeat' (with_reducible first | (refine Ok.ite (fun hc => ?_) (fun hc => ?_) <;> try subst hc) | exact Ok.none | (refine Ok.bind (fun _ h => ?_)))
   all_goals first
    | (refine Ok.some (fun s hs => loop_end hs ?_ (by intro e; cases e)); simp [L157_0, *]; done)
    | (refine fun r hr s hs => loop_round hs ?_ (addr_groups_addr_L0_ok N m lv n _ _ _ _ _ _ _ _ r hr); simp [L157_0, *]; done)
theorem addr_groups_addr_call {N : Nat} {a0_0 a0_1 a0_2 a0_3 a0_4 a0_5 a0_6 a0_7 : Int} {r : Bool × Int × Int} (h : addr_groups_addr N a0_0 a0_1 a0_2 a0_3 a0_4 a0_5 a0_6 a0_7 = some r) (m : Mem) (lv : Nat) : (sem T).call 157 [(.agg [(.int .u16 a0_0), (.int .u16 a0_1), (.int .u16 a0_2), (.int .u16 a0_3), (.int .u16 a0_4), (.int .u16 a0_5), (.int .u16 a0_6), (.int .u16 a0_7)])] m lv = some (((fun p => ([(.agg [(.bool p.1), (.int .u64 p.2.1), (.int .u64 p.2.2)])], m)) : _ → List AV × Mem) r) := by
 revert r
 show Ok _ _
 unfold addr_groups_addr
 repeat' (with_reducible first | (refine Ok.ite (fun hc => ?_) (fun hc => ?_) <;> try subst hc) | (refine Ok.bind (fun _ h => ?_); ((first | have h := (addr_groups_addr_L0_ok N m lv _ _ _ _ _ _ _ _ _).of h | skip); try simp only [List.map_nil, List.map_cons, sRow, iRow, bRow, eRow] at h)))
 all_goals (refine Ok.some (call_go rfl rfl rfl ?_); simp [F157, *])
theorem addr_six_call {N : Nat} {a0 : List UInt8} {r : Bool × Int × Int × Bool} (h : addr_six N a0 = some r) (m : Mem) (lv : Nat) : (sem T).call 134 [(.str (bs a0))] m lv = some (((fun p => ([(.agg [(.bool p.1), (.int .u64 p.2.1), (.int .u64 p.2.2.1)]), (.bool p.2.2.2)], m)) : _ → List AV × Mem) r) := by
 revert r
 show Ok _ _
 unfold addr_six
 repeat' (with_reducible first | (refine Ok.ite (fun hc => ?_) (fun hc => ?_) <;> try subst hc) | (refine Ok.bind (fun _ h => ?_); ((first | have h := addr_groups_addr_call h | have h := addr_list_call h | have h := cut3I_call h | skip); try simp only [List.map_nil, List.map_cons, sRow, iRow, bRow, eRow] at h)))
 all_goals (refine Ok.some (call_go rfl rfl rfl ?_); simp [F134, *])
theorem addr_Parse_call {N : Nat} {a0 : List UInt8} {r : Bool × Int × Int × Int} (h : addr_Parse N a0 = some r) (m : Mem) (lv : Nat) : (sem T).call 102 [(.str (bs a0))] m lv = some (((fun p => ([(.agg [(.bool p.1), (.int .u64 p.2.1), (.int .u64 p.2.2.1)]), (.int .i64 p.2.2.2)], m)) : _ → List AV × Mem) r) := by
 revert r
 show Ok _ _
 unfold addr_Parse
 repeat' (with_reducible first | (refine Ok.ite (fun hc => ?_) (fun hc => ?_) <;> try subst hc) | (refine Ok.bind (fun _ h => ?_); ((first | have h := addr_four_call h | have h := addr_six_call h | skip); try simp only [List.map_nil, List.map_cons, sRow, iRow, bRow, eRow] at h)))
 all_goals (refine Ok.some (call_go rfl rfl rfl ?_); simp [F102, *])
theorem rtext_reader_address_ok (N : Nat) (a0_0 : List (List UInt8)) (a0_1 : List UInt8) (a0_2 : Int) (m : Mem) (lv : Nat) (cl0 sl0 : Nat) (hc0 : cl0 < lv) : Ok (rtext_reader_address N a0_0 a0_1 a0_2) (fun r => (sem T).call 71 [(.ptr cl0 sl0 0)] (updM m cl0 sl0 (.cells 55 [(.sl none 1 (List.map sRow a0_0)), (.str (bs a0_1)), (.int .i64 a0_2)])) lv = some (((fun p => ([(.agg [(.bool p.1), (.int .u64 p.2.1), (.int .u64 p.2.2.1)])], (updM m cl0 sl0 (.cells 55 [(.sl none 1 (List.map sRow p.2.2.2.1)), (.str (bs a0_1)), (.int .i64 p.2.2.2.2)])))) : _ → List AV × Mem) r)) := by
 have e0_1 : (cl0 = lv) = False := eq_false (by omega)
 have e0_2 : (lv = cl0) = False := eq_false (by omega)
 have e0_3 : cl0 < lv + 1 := by omega
 unfold rtext_reader_address
 repeat' (with_reducible first | (refine Ok.ite (fun hc => ?_) (fun hc => ?_) <;> try subst hc) | (refine Ok.bind (fun _ h => ?_); ((first | have h := addr_Parse_call h | have h := rtext_reader_fail_call h | have h := rtext_reader_word_call h | skip); try simp only [List.map_nil, List.map_cons, sRow, iRow, bRow, eRow] at h)))
 all_goals (refine Ok.some (call_go rfl rfl rfl ?_); simp [F71, *])
theorem rtext_reader_address_call {N : Nat} {a0_0 : List (List UInt8)} {a0_1 : List UInt8} {a0_2 : Int} {r : Bool × Int × Int × List (List UInt8) × Int} (h : rtext_reader_address N a0_0 a0_1 a0_2 = some r) (M : Mem) (lv : Nat) (cl0 sl0 : Nat) (hc0 : cl0 < lv) (hm0 : M cl0 sl0 = some (.cells 55 [(.sl none 1 (List.map sRow a0_0)), (.str (bs a0_1)), (.int .i64 a0_2)])) : (sem T).call 71 [(.ptr cl0 sl0 0)] M lv = some (((fun p => ([(.agg [(.bool p.1), (.int .u64 p.2.1), (.int .u64 p.2.2.1)])], (updM M cl0 sl0 (.cells 55 [(.sl none 1 (List.map sRow p.2.2.2.1)), (.str (bs a0_1)), (.int .i64 p.2.2.2.2)])))) : _ → List AV × Mem) r) := (congrArg (fun x => (sem T).call 71 _ x lv) (updM_self hm0)).symm.trans ((rtext_reader_address_ok N a0_0 a0_1 a0_2 M lv cl0 sl0 hc0).of h)
theorem dname_Parse_call {N : Nat} {a0 a1 : List UInt8} {r : List UInt8 × Int} (h : dname_Parse N a0 a1 = some r) (m : Mem) (lv : Nat) : (sem T).call 103 [(.str (bs a0)), (.str (bs a1))] m lv = some (((fun p => ([(.str (bs p.1)), (.int .i64 p.2)], m)) : _ → List AV × Mem) r) := by
 revert r
 show Ok _ _
 unfold dname_Parse
 repeat' (with_reducible first | (refine Ok.ite (fun hc => ?_) (fun hc => ?_) <;> try subst hc) | (refine Ok.bind (fun _ h => ?_); ((first | have h := dname_Valid_call h | have h := lowerI_call h | have h := strings_HasSuffix_call h | skip); try simp only [List.map_nil, List.map_cons, sRow, iRow, bRow, eRow] at h)))
 all_goals (refine Ok.some (call_go rfl rfl rfl ?_); simp [F103, *])
theorem rtext_reader_name_ok (N : Nat) (a0_0 : List (List UInt8)) (a0_1 : List UInt8) (a0_2 : Int) (m : Mem) (lv : Nat) (cl0 sl0 : Nat) (hc0 : cl0 < lv) : Ok (rtext_reader_name N a0_0 a0_1 a0_2) (fun r => (sem T).call 72 [(.ptr cl0 sl0 0)] (updM m cl0 sl0 (.cells 55 [(.sl none 1 (List.map sRow a0_0)), (.str (bs a0_1)), (.int .i64 a0_2)])) lv = some (((fun p => ([(.str (bs p.1))], (updM m cl0 sl0 (.cells 55 [(.sl none 1 (List.map sRow p.2.1)), (.str (bs a0_1)), (.int .i64 p.2.2)])))) : _ → List AV × Mem) r)) := by
 have e0_1 : (cl0 = lv) = False := eq_false (by omega)
 have e0_2 : (lv = cl0) = False := eq_false (by omega)
 have e0_3 : cl0 < lv + 1 := by omega
 unfold rtext_reader_name
 repeat' (with_reducible first | (refine Ok.ite (fun hc => ?_) (fun hc => ?_) <;> try subst hc) | (refine Ok.bind (fun _ h => ?_); ((first | have h := dname_Parse_call h | have h := rtext_reader_fail_call h | have h := rtext_reader_word_call h | skip); try simp only [List.map_nil, List.map_cons, sRow, iRow, bRow, eRow] at h)))
 all_goals (refine Ok.some (call_go rfl rfl rfl ?_); simp [F72, *])
theorem rtext_reader_name_call {N : Nat} {a0_0 : List (List UInt8)} {a0_1 : List UInt8} {a0_2 : Int} {r : List UInt8 × List (List UInt8) × Int} (h : rtext_reader_name N a0_0 a0_1 a0_2 = some r) (M : Mem) (lv : Nat) (cl0 sl0 : Nat) (hc0 : cl0 < lv) (hm0 : M cl0 sl0 = some (.cells 55 [(.sl none 1 (List.map sRow a0_0)), (.str (bs a0_1)), (.int .i64 a0_2)])) : (sem T).call 72 [(.ptr cl0 sl0 0)] M lv = some (((fun p => ([(.str (bs p.1))], (updM M cl0 sl0 (.cells 55 [(.sl none 1 (List.map sRow p.2.1)), (.str (bs a0_1)), (.int .i64 p.2.2)])))) : _ → List AV × Mem) r) := (congrArg (fun x => (sem T).call 72 _ x lv) (updM_self hm0)).symm.trans ((rtext_reader_name_ok N a0_0 a0_1 a0_2 M lv cl0 sl0 hc0).of h)
theorem rtext_reader_number_ok (N : Nat) (a0_0 : List (List UInt8)) (a0_1 : List UInt8) (a0_2 a1 : Int) (m : Mem) (lv : Nat) (cl0 sl0 : Nat) (hc0 : cl0 < lv) : Ok (rtext_reader_number N a0_0 a0_1 a0_2 a1) (fun r => (sem T).call 73 [(.ptr cl0 sl0 0), (.int .i64 a1)] (updM m cl0 sl0 (.cells 55 [(.sl none 1 (List.map sRow a0_0)), (.str (bs a0_1)), (.int .i64 a0_2)])) lv = some (((fun p => ([(.int .i64 p.1)], (updM m cl0 sl0 (.cells 55 [(.sl none 1 (List.map sRow p.2.1)), (.str (bs a0_1)), (.int .i64 p.2.2)])))) : _ → List AV × Mem) r)) := by
 have e0_1 : (cl0 = lv) = False := eq_false (by omega)
 have e0_2 : (lv = cl0) = False := eq_false (by omega)
 have e0_3 : cl0 < lv + 1 := by omega
 unfold rtext_reader_number
 repeat' (with_reducible first | (refine Ok.ite (fun hc => ?_) (fun hc => ?_) <;> try subst hc) | (refine Ok.bind (fun _ h => ?_); ((first | have h := numI_callP h | have h := rtext_reader_fail_call h | have h := rtext_reader_word_call h | skip); try simp only [List.map_nil, List.map_cons, sRow, iRow, bRow, eRow] at h)))
 all_goals (refine Ok.some (call_go rfl rfl rfl ?_); simp [F73, *])
theorem rtext_reader_number_call {N : Nat} {a0_0 : List (List UInt8)} {a0_1 : List UInt8} {a0_2 a1 : Int} {r : Int × List (List UInt8) × Int} (h : rtext_reader_number N a0_0 a0_1 a0_2 a1 = some r) (M : Mem) (lv : Nat) (cl0 sl0 : Nat) (hc0 : cl0 < lv) (hm0 : M cl0 sl0 = some (.cells 55 [(.sl none 1 (List.map sRow a0_0)), (.str (bs a0_1)), (.int .i64 a0_2)])) : (sem T).call 73 [(.ptr cl0 sl0 0), (.int .i64 a1)] M lv = some (((fun p => ([(.int .i64 p.1)], (updM M cl0 sl0 (.cells 55 [(.sl none 1 (List.map sRow p.2.1)), (.str (bs a0_1)), (.int .i64 p.2.2)])))) : _ → List AV × Mem) r) := (congrArg (fun x => (sem T).call 73 _ x lv) (updM_self hm0)).symm.trans ((rtext_reader_number_ok N a0_0 a0_1 a0_2 a1 M lv cl0 sl0 hc0).of h)
theorem rtext_reader_duration_ok (N : Nat) (a0_0 : List (List UInt8)) (a0_1 : List UInt8) (a0_2 : Int) (m : Mem) (lv : Nat) (cl0 sl0 : Nat) (hc0 : cl0 < lv) : Ok (rtext_reader_duration N a0_0 a0_1 a0_2) (fun r => (sem T).call 74 [(.ptr cl0 sl0 0)] (updM m cl0 sl0 (.cells 55 [(.sl none 1 (List.map sRow a0_0)), (.str (bs a0_1)), (.int .i64 a0_2)])) lv = some (((fun p => ([(.int .i64 p.1)], (updM m cl0 sl0 (.cells 55 [(.sl none 1 (List.map sRow p.2.1)), (.str (bs a0_1)), (.int .i64 p.2.2)])))) : _ → List AV × Mem) r)) := by
 have e0_1 : (cl0 = lv) = False := eq_false (by omega)
 have e0_2 : (lv = cl0) = False := eq_false (by omega)
 have e0_3 : cl0 < lv + 1 := by omega
 unfold rtext_reader_duration
 repeat' (with_reducible first | (refine Ok.ite (fun hc => ?_) (fun hc => ?_) <;> try subst hc) | (refine Ok.bind (fun _ h => ?_); ((first | have h := durI_callP h | have h := rtext_reader_fail_call h | have h := rtext_reader_word_call h | skip); try simp only [List.map_nil, List.map_cons, sRow, iRow, bRow, eRow] at h)))
 all_goals (refine Ok.some (call_go rfl rfl rfl ?_); simp [F74, *])
theorem rtext_reader_duration_call {N : Nat} {a0_0 : List (List UInt8)} {a0_1 : List UInt8} {a0_2 : Int} {r : Int × List (List UInt8) × Int} (h : rtext_reader_duration N a0_0 a0_1 a0_2 = some r) (M : Mem) (lv : Nat) (cl0 sl0 : Nat) (hc0 : cl0 < lv) (hm0 : M cl0 sl0 = some (.cells 55 [(.sl none 1 (List.map sRow a0_0)), (.str (bs a0_1)), (.int .i64 a0_2)])) : (sem T).call 74 [(.ptr cl0 sl0 0)] M lv = some (((fun p => ([(.int .i64 p.1)], (updM M cl0 sl0 (.cells 55 [(.sl none 1 (List.map sRow p.2.1)), (.str (bs a0_1)), (.int .i64 p.2.2)])))) : _ → List AV × Mem) r) := (congrArg (fun x => (sem T).call 74 _ x lv) (updM_self hm0)).symm.trans ((rtext_reader_duration_ok N a0_0 a0_1 a0_2 M lv cl0 sl0 hc0).of h)
theorem rtext_digit_call {N : Nat} {a0 : Int} {r : Int × Bool} (h : rtext_digit N a0 = some r) (m : Mem) (lv : Nat) : (sem T).call 104 [(.int .u8 a0)] m lv = some (((fun p => ([(.int .u8 p.1), (.bool p.2)], m)) : _ → List AV × Mem) r) := by
 revert r
 show Ok _ _
 unfold rtext_digit
 repeat' (with_reducible first | (refine Ok.ite (fun hc => ?_) (fun hc => ?_) <;> try subst hc))
 all_goals (refine Ok.some (call_go rfl rfl rfl ?_); simp [F104, *])
theorem rtext_reader_bytes_L0_ok (N : Nat) (m : Mem) (lv : Nat) (cl0 sl0 : Nat) (hc0 : cl0 < lv) : ∀ (n : Nat) (p0 p1 : List UInt8) (p2 : Int) (p3 : List (List UInt8)) (p4 : List UInt8) (p5 : Int), Ok (rtext_reader_bytes_L0 N n p0 p1 p2 p3 p4 p5) (fun r => ∀ s : St, s.mask [0, 3, 5, 6] [] = some ⟨62, lv, tmOf [(0, (.ptr cl0 sl0 0)), (3, (.str (bs p0))), (5, (.sl (some 5) 1 (List.map byteRow p1))), (6, (.int .i64 p2))], bxOf [], (updM m cl0 sl0 (.cells 55 [(.sl none 1 (List.map sRow p3)), (.str (bs p4)), (.int .i64 p5)]))⟩ → (sem T).loop [0, 3, 5, 6] [] L76_0 s = some ((O2.el (fun p => (.ret, ⟨62, lv, tmOf [(2, (.str (bs p.1)))], bxOf [], (updM m cl0 sl0 (.cells 55 [(.sl none 1 (List.map sRow p3)), (.str (bs p4)), (.int .i64 p.2)]))⟩)) (fun p => (.ex 0, ⟨62, lv, tmOf [(5, (.sl (some 5) 1 (List.map byteRow p)))], bxOf [], (updM m cl0 sl0 (.cells 55 [(.sl none 1 (List.map sRow p3)), (.str (bs p4)), (.int .i64 p5)]))⟩)) : _ → Fl × St) r))
 | 0, _, _, _, _, _, _ => Ok.none
 | n + 1, p0, p1, p2, p3, p4, p5 => by
   have e0_1 : (cl0 = lv) = False := eq_false (by omega)
   have e0_2 : (lv = cl0) = False := eq_false (by omega)
   have e0_3 : cl0 < lv + 1 := by omega
   unfold rtext_reader_bytes_L0
   repeat' (with_reducible first | (refine Ok.ite (fun hc => ?_) (fun hc => ?_) <;> try subst hc) | exact Ok.none | (refine Ok.bind (fun _ h => ?_); ((first | have h := rtext_digit_call h | have h := rtext_reader_fail_call h | skip); try simp only [List.map_nil, List.map_cons, sRow, iRow, bRow, eRow] at h)))
   all_goals first
    | (refine Ok.some (fun s hs => loop_end hs ?_ (by intro e; cases e)); simp [L76_0, *]; done)
    | (refine fun r hr s hs => loop_round hs ?_ (rtext_reader_bytes_L0_ok N m lv cl0 sl0 hc0 n _ _ _ _ _ _ r hr); simp [L76_0, *]; done)
theorem rtext_reader_bytes_ok (N : Nat) (a0_0 : List (List UInt8)) (a0_1 : List UInt8) (a0_2 : Int) (m : Mem) (lv : Nat) (cl0 sl0 : Nat) (hc0 : cl0 < lv) : Ok (rtext_reader_bytes N a0_0 a0_1 a0_2) (fun r => (sem T).call 76 [(.ptr cl0 sl0 0)] (updM m cl0 sl0 (.cells 55 [(.sl none 1 (List.map sRow a0_0)), (.str (bs a0_1)), (.int .i64 a0_2)])) lv = some (((fun p => ([(.str (bs p.1))], (updM m cl0 sl0 (.cells 55 [(.sl none 1 (List.map sRow p.2.1)), (.str (bs a0_1)), (.int .i64 p.2.2)])))) : _ → List AV × Mem) r)) := by
 have e0_1 : (cl0 = lv) = False := eq_false (by omega)
 have e0_2 : (lv = cl0) = False := eq_false (by omega)
 have e0_3 : cl0 < lv + 1 := by omega
 unfold rtext_reader_bytes
 repeat' (with_reducible first | (refine Ok.ite (fun hc => ?_) (fun hc => ?_) <;> try subst hc) | (refine Ok.bind2 (fun _ h => ?_) (fun _ h => ?_) <;> ((first | have h := rtext_reader_fail_call h | have h := rtext_reader_word_call h | have h := (rtext_reader_bytes_L0_ok N m lv cl0 sl0 hc0 _ _ _ _ _ _ _).of h | skip); try simp only [List.map_nil, List.map_cons, sRow, iRow, bRow, eRow] at h)) | (refine Ok.bind (fun _ h => ?_); ((first | have h := rtext_reader_fail_call h | have h := rtext_reader_word_call h | have h := (rtext_reader_bytes_L0_ok N m lv cl0 sl0 hc0 _ _ _ _ _ _ _).of h | skip); try simp only [List.map_nil, List.map_cons, sRow, iRow, bRow, eRow] at h)))
 all_goals (refine Ok.some (call_go rfl rfl rfl ?_); simp [F76, *])
theorem rtext_reader_bytes_call {N : Nat} {a0_0 : List (List UInt8)} {a0_1 : List UInt8} {a0_2 : Int} {r : List UInt8 × List (List UInt8) × Int} (h : rtext_reader_bytes N a0_0 a0_1 a0_2 = some r) (M : Mem) (lv : Nat) (cl0 sl0 : Nat) (hc0 : cl0 < lv) (hm0 : M cl0 sl0 = some (.cells 55 [(.sl none 1 (List.map sRow a0_0)), (.str (bs a0_1)), (.int .i64 a0_2)])) : (sem T).call 76 [(.ptr cl0 sl0 0)] M lv = some (((fun p => ([(.str (bs p.1))], (updM M cl0 sl0 (.cells 55 [(.sl none 1 (List.map sRow p.2.1)), (.str (bs a0_1)), (.int .i64 p.2.2)])))) : _ → List AV × Mem) r) := (congrArg (fun x => (sem T).call 76 _ x lv) (updM_self hm0)).symm.trans ((rtext_reader_bytes_ok N a0_0 a0_1 a0_2 M lv cl0 sl0 hc0).of h)
theorem rdata_Type_L0_ok (N : Nat) (m : Mem) (lv : Nat) : ∀ (n : Nat) (p0 : List UInt8) (p1 : List Rw3) (p2 p3 : Int), Ok (rdata_Type_L0 N n p0 p1 p2 p3) (fun r => ∀ s : St, s.mask [0, 6, 7, 8] [] = some ⟨19, lv, tmOf [(0, (.str (bs p0))), (6, (.sl (some 61) 3 (List.map Rw3E p1))), (7, (.int .i64 p2)), (8, (.int .i64 p3))], bxOf [], m⟩ → (sem T).loop [0, 6, 7, 8] [] L105_0 s = some ((O2.el (fun p => (.ret, ⟨19, lv, tmOf [(2, (.int .i64 p.1)), (3, (.bool p.2))], bxOf [], m⟩)) (fun p => (.ex 0, ⟨19, lv, tmOf [], bxOf [], m⟩)) : _ → Fl × St) r))
 | 0, _, _, _, _ => Ok.none
 | n + 1, p0, p1, p2, p3 => by
   unfold rdata_Type_L0
   repeat' (with_reducible first | (refine Ok.ite (fun hc => ?_) (fun hc => ?_) <;> try subst hc) | (refine Ok.bind (fun _ h => ?_)))
   all_goals first
    | (refine Ok.some (fun s hs => loop_end hs ?_ (by intro e; cases e)); simp [L105_0, *]; done)
    | (refine fun r hr s hs => loop_round hs ?_ (rdata_Type_L0_ok N m lv n _ _ _ _ r hr); simp [L105_0, *]; done)
theorem rdata_Type_call {N : Nat} {a0 : List UInt8} {r : Int × Bool} (h : rdata_Type N a0 = some r) (m : Mem) (lv : Nat) : (sem T).call 105 [(.str (bs a0))] m lv = some (((fun p => ([(.int .i64 p.1), (.bool p.2)], m)) : _ → List AV × Mem) r) := by
 revert r
 show Ok _ _
 unfold rdata_Type
 repeat' (with_reducible first | (refine Ok.ite (fun hc => ?_) (fun hc => ?_) <;> try subst hc) | (refine Ok.bind2 (fun _ h => ?_) (fun _ h => ?_) <;> ((first | have h := rdata_kinds_call h | have h := (rdata_Type_L0_ok N m lv _ _ _ _ _).of h | skip); try simp only [List.map_nil, List.map_cons, sRow, iRow, bRow, eRow] at h)) | (refine Ok.bind (fun _ h => ?_); ((first | have h := rdata_kinds_call h | have h := (rdata_Type_L0_ok N m lv _ _ _ _ _).of h | skip); try simp only [List.map_nil, List.map_cons, sRow, iRow, bRow, eRow] at h)))
 all_goals (refine Ok.some (call_go rfl rfl rfl ?_); simp [F105, *])
theorem rtext_reader_mnemonic_ok (N : Nat) (a0_0 : List (List UInt8)) (a0_1 : List UInt8) (a0_2 : Int) (m : Mem) (lv : Nat) (cl0 sl0 : Nat) (hc0 : cl0 < lv) : Ok (rtext_reader_mnemonic N a0_0 a0_1 a0_2) (fun r => (sem T).call 77 [(.ptr cl0 sl0 0)] (updM m cl0 sl0 (.cells 55 [(.sl none 1 (List.map sRow a0_0)), (.str (bs a0_1)), (.int .i64 a0_2)])) lv = some (((fun p => ([(.int .i64 p.1)], (updM m cl0 sl0 (.cells 55 [(.sl none 1 (List.map sRow p.2.1)), (.str (bs a0_1)), (.int .i64 p.2.2)])))) : _ → List AV × Mem) r)) := by
 have e0_1 : (cl0 = lv) = False := eq_false (by omega)
 have e0_2 : (lv = cl0) = False := eq_false (by omega)
 have e0_3 : cl0 < lv + 1 := by omega
 unfold rtext_reader_mnemonic
 repeat' (with_reducible first | (refine Ok.ite (fun hc => ?_) (fun hc => ?_) <;> try subst hc) | (refine Ok.bind (fun _ h => ?_); ((first | have h := rdata_Type_call h | have h := rtext_reader_fail_call h | have h := rtext_reader_word_call h | skip); try simp only [List.map_nil, List.map_cons, sRow, iRow, bRow, eRow] at h)))
 all_goals (refine Ok.some (call_go rfl rfl rfl ?_); simp [F77, *])
theorem rtext_reader_mnemonic_call {N : Nat} {a0_0 : List (List UInt8)} {a0_1 : List UInt8} {a0_2 : Int} {r : Int × List (List UInt8) × Int} (h : rtext_reader_mnemonic N a0_0 a0_1 a0_2 = some r) (M : Mem) (lv : Nat) (cl0 sl0 : Nat) (hc0 : cl0 < lv) (hm0 : M cl0 sl0 = some (.cells 55 [(.sl none 1 (List.map sRow a0_0)), (.str (bs a0_1)), (.int .i64 a0_2)])) : (sem T).call 77 [(.ptr cl0 sl0 0)] M lv = some (((fun p => ([(.int .i64 p.1)], (updM M cl0 sl0 (.cells 55 [(.sl none 1 (List.map sRow p.2.1)), (.str (bs a0_1)), (.int .i64 p.2.2)])))) : _ → List AV × Mem) r) := (congrArg (fun x => (sem T).call 77 _ x lv) (updM_self hm0)).symm.trans ((rtext_reader_mnemonic_ok N a0_0 a0_1 a0_2 M lv cl0 sl0 hc0).of h)
theorem rdata_Set_L0_ok (N : Nat) (m : Mem) (lv : Nat) : ∀ (n : Nat) (p0 : Int) (p1 : List Int) (p2 p3 : Int), Ok (rdata_Set_L0 N n p0 p1 p2 p3) (fun r => ∀ s : St, s.mask [4, 7, 8, 9] [] = some ⟨22, lv, tmOf [(4, (.int .u64 p0)), (7, (.sl none 1 (List.map (iRow .i64) p1))), (8, (.int .i64 p2)), (9, (.int .i64 p3))], bxOf [], m⟩ → (sem T).loop [4, 7, 8, 9] [] L106_0 s = some ((O2.el (fun p => (.ret, ⟨22, lv, tmOf [(2, (.int .u64 p.1)), (3, (.bool p.2))], bxOf [], m⟩)) (fun p => (.ex 0, ⟨22, lv, tmOf [(4, (.int .u64 p))], bxOf [], m⟩)) : _ → Fl × St) r))
 | 0, _, _, _, _ => Ok.none
 | n + 1, p0, p1, p2, p3 => by
   unfold rdata_Set_L0
   repeat' (with_reducible first | (refine Ok.ite (fun hc => ?_) (fun hc => ?_) <;> try subst hc) | (refine Ok.bind (fun _ h => ?_); ((first | have h := rdata_Known_call h | skip); try simp only [List.map_nil, List.map_cons, sRow, iRow, bRow, eRow] at h)))
   all_goals first
    | (refine Ok.some (fun s hs => loop_end hs ?_ (by intro e; cases e)); simp [L106_0, *]; done)
    | (refine fun r hr s hs => loop_round hs ?_ (rdata_Set_L0_ok N m lv n _ _ _ _ r hr); simp [L106_0, *]; done)
theorem rdata_Set_call {N : Nat} {a0 : List Int} {r : Int × Bool} (h : rdata_Set N a0 = some r) (m : Mem) (lv : Nat) : (sem T).call 106 [(.sl none 1 (List.map (iRow .i64) a0))] m lv = some (((fun p => ([(.int .u64 p.1), (.bool p.2)], m)) : _ → List AV × Mem) r) := by
 revert r
 show Ok _ _
 unfold rdata_Set
 repeat' (with_reducible first | (refine Ok.ite (fun hc => ?_) (fun hc => ?_) <;> try subst hc) | (refine Ok.bind2 (fun _ h => ?_) (fun _ h => ?_) <;> ((first | have h := (rdata_Set_L0_ok N m lv _ _ _ _ _).of h | skip); try simp only [List.map_nil, List.map_cons, sRow, iRow, bRow, eRow] at h)))
 all_goals (refine Ok.some (call_go rfl rfl rfl ?_); simp [F106, *])
theorem rtext_reader_types_L0_ok (N : Nat) (m : Mem) (lv : Nat) (cl0 sl0 : Nat) (hc0 : cl0 < lv) : ∀ (n : Nat) (p0 : List Int) (p1 : List (List UInt8)) (p2 : List UInt8) (p3 : Int), Ok (rtext_reader_types_L0 N n p0 p1 p2 p3) (fun r => ∀ s : St, s.mask [0, 3] [] = some ⟨38, lv, tmOf [(0, (.ptr cl0 sl0 0)), (3, (.sl (some 3) 1 (List.map (iRow .i64) p0)))], bxOf [], (updM m cl0 sl0 (.cells 55 [(.sl none 1 (List.map sRow p1)), (.str (bs p2)), (.int .i64 p3)]))⟩ → (sem T).loop [0, 3] [] L79_0 s = some (((fun p => (.ex 0, ⟨38, lv, tmOf [(0, (.ptr cl0 sl0 0)), (3, (.sl (some 3) 1 (List.map (iRow .i64) p.1)))], bxOf [], (updM m cl0 sl0 (.cells 55 [(.sl none 1 (List.map sRow p.2.1)), (.str (bs p2)), (.int .i64 p.2.2)]))⟩)) : _ → Fl × St) r))
 | 0, _, _, _, _ => Ok.none
 | n + 1, p0, p1, p2, p3 => by
   have e0_1 : (cl0 = lv) = False := eq_false (by omega)
   have e0_2 : (lv = cl0) = False := eq_false (by omega)
   have e0_3 : cl0 < lv + 1 := by omega
   unfold rtext_reader_types_L0
   repeat' (with_reducible first | (refine Ok.ite (fun hc => ?_) (fun hc => ?_) <;> try subst hc) | exact Ok.none | (refine Ok.bind (fun _ h => ?_); ((first | have h := rtext_reader_mnemonic_call h | skip); try simp only [List.map_nil, List.map_cons, sRow, iRow, bRow, eRow] at h)))
   all_goals first
    | (refine Ok.some (fun s hs => loop_end hs ?_ (by intro e; cases e)); simp [L79_0, *]; done)
    | (refine fun r hr s hs => loop_round hs ?_ (rtext_reader_types_L0_ok N m lv cl0 sl0 hc0 n _ _ _ _ r hr); simp [L79_0, *]; done)
theorem rtext_reader_types_ok (N : Nat) (a0_0 : List (List UInt8)) (a0_1 : List UInt8) (a0_2 : Int) (m : Mem) (lv : Nat) (cl0 sl0 : Nat) (hc0 : cl0 < lv) : Ok (rtext_reader_types N a0_0 a0_1 a0_2) (fun r => (sem T).call 79 [(.ptr cl0 sl0 0)] (updM m cl0 sl0 (.cells 55 [(.sl none 1 (List.map sRow a0_0)), (.str (bs a0_1)), (.int .i64 a0_2)])) lv = some (((fun p => ([(.int .u64 p.1)], (updM m cl0 sl0 (.cells 55 [(.sl none 1 (List.map sRow p.2.1)), (.str (bs a0_1)), (.int .i64 p.2.2)])))) : _ → List AV × Mem) r)) := by
 have e0_1 : (cl0 = lv) = False := eq_false (by omega)
 have e0_2 : (lv = cl0) = False := eq_false (by omega)
 have e0_3 : cl0 < lv + 1 := by omega
 unfold rtext_reader_types
 repeat' (with_reducible first | (refine Ok.ite (fun hc => ?_) (fun hc => ?_) <;> try subst hc) | (refine Ok.bind (fun _ h => ?_); ((first | have h := rdata_Set_call h | have h := rtext_reader_mnemonic_call h | have h := (rtext_reader_types_L0_ok N m lv cl0 sl0 hc0 _ _ _ _ _).of h | skip); try simp only [List.map_nil, List.map_cons, sRow, iRow, bRow, eRow] at h)))
 all_goals (refine Ok.some (call_go rfl rfl rfl ?_); simp [F79, *])
theorem rtext_reader_types_call {N : Nat} {a0_0 : List (List UInt8)} {a0_1 : List UInt8} {a0_2 : Int} {r : Int × List (List UInt8) × Int} (h : rtext_reader_types N a0_0 a0_1 a0_2 = some r) (M : Mem) (lv : Nat) (cl0 sl0 : Nat) (hc0 : cl0 < lv) (hm0 : M cl0 sl0 = some (.cells 55 [(.sl none 1 (List.map sRow a0_0)), (.str (bs a0_1)), (.int .i64 a0_2)])) : (sem T).call 79 [(.ptr cl0 sl0 0)] M lv = some (((fun p => ([(.int .u64 p.1)], (updM M cl0 sl0 (.cells 55 [(.sl none 1 (List.map sRow p.2.1)), (.str (bs a0_1)), (.int .i64 p.2.2)])))) : _ → List AV × Mem) r) := (congrArg (fun x => (sem T).call 79 _ x lv) (updM_self hm0)).symm.trans ((rtext_reader_types_ok N a0_0 a0_1 a0_2 M lv cl0 sl0 hc0).of h)
theorem rtext_reader_data_ok (N : Nat) (a0_0 : List (List UInt8)) (a0_1 : List UInt8) (a0_2 a1 : Int) (m : Mem) (lv : Nat) (cl0 sl0 : Nat) (hc0 : cl0 < lv) : Ok (rtext_reader_data N a0_0 a0_1 a0_2 a1) (fun r => (sem T).call 33 [(.ptr cl0 sl0 0), (.int .i64 a1)] (updM m cl0 sl0 (.cells 55 [(.sl none 1 (List.map sRow a0_0)), (.str (bs a0_1)), (.int .i64 a0_2)])) lv = some (((fun p => ([(.agg [(.bool p.1), (.int .u64 p.2.1), (.int .u64 p.2.2.1), (.str (bs p.2.2.2.1)), (.str (bs p.2.2.2.2.1)), (.str (bs p.2.2.2.2.2.1)), (.int .i64 p.2.2.2.2.2.2.1), (.int .i64 p.2.2.2.2.2.2.2.1), (.int .i64 p.2.2.2.2.2.2.2.2.1), (.int .i64 p.2.2.2.2.2.2.2.2.2.1), (.int .i64 p.2.2.2.2.2.2.2.2.2.2.1), (.int .i64 p.2.2.2.2.2.2.2.2.2.2.2.1), (.int .u64 p.2.2.2.2.2.2.2.2.2.2.2.2.1)])], (updM m cl0 sl0 (.cells 55 [(.sl none 1 (List.map sRow p.2.2.2.2.2.2.2.2.2.2.2.2.2.1)), (.str (bs a0_1)), (.int .i64 p.2.2.2.2.2.2.2.2.2.2.2.2.2.2)])))) : _ → List AV × Mem) r)) := by
 have e0_1 : (cl0 = lv) = False := eq_false (by omega)
 have e0_2 : (lv = cl0) = False := eq_false (by omega)
 have e0_3 : cl0 < lv + 1 := by omega
 unfold rtext_reader_data
 repeat' (with_reducible first | (refine Ok.ite (fun hc => ?_) (fun hc => ?_) <;> try subst hc) | (refine Ok.bind (fun _ h => ?_); ((first | have h := rtext_reader_address_call h | have h := rtext_reader_bytes_call h | have h := rtext_reader_duration_call h | have h := rtext_reader_fail_call h | have h := rtext_reader_mnemonic_call h | have h := rtext_reader_name_call h | have h := rtext_reader_number_call h | have h := rtext_reader_types_call h | have h := rtext_reader_word_call h | skip); try simp only [List.map_nil, List.map_cons, sRow, iRow, bRow, eRow] at h)))
 all_goals (refine Ok.some (call_go rfl rfl rfl ?_); simp [F33, *])
theorem rtext_reader_data_call {N : Nat} {a0_0 : List (List UInt8)} {a0_1 : List UInt8} {a0_2 a1 : Int} {r : Bool × Int × Int × List UInt8 × List UInt8 × List UInt8 × Int × Int × Int × Int × Int × Int × Int × List (List UInt8) × Int} (h : rtext_reader_data N a0_0 a0_1 a0_2 a1 = some r) (M : Mem) (lv : Nat) (cl0 sl0 : Nat) (hc0 : cl0 < lv) (hm0 : M cl0 sl0 = some (.cells 55 [(.sl none 1 (List.map sRow a0_0)), (.str (bs a0_1)), (.int .i64 a0_2)])) : (sem T).call 33 [(.ptr cl0 sl0 0), (.int .i64 a1)] M lv = some (((fun p => ([(.agg [(.bool p.1), (.int .u64 p.2.1), (.int .u64 p.2.2.1), (.str (bs p.2.2.2.1)), (.str (bs p.2.2.2.2.1)), (.str (bs p.2.2.2.2.2.1)), (.int .i64 p.2.2.2.2.2.2.1), (.int .i64 p.2.2.2.2.2.2.2.1), (.int .i64 p.2.2.2.2.2.2.2.2.1), (.int .i64 p.2.2.2.2.2.2.2.2.2.1), (.int .i64 p.2.2.2.2.2.2.2.2.2.2.1), (.int .i64 p.2.2.2.2.2.2.2.2.2.2.2.1), (.int .u64 p.2.2.2.2.2.2.2.2.2.2.2.2.1)])], (updM M cl0 sl0 (.cells 55 [(.sl none 1 (List.map sRow p.2.2.2.2.2.2.2.2.2.2.2.2.2.1)), (.str (bs a0_1)), (.int .i64 p.2.2.2.2.2.2.2.2.2.2.2.2.2.2)])))) : _ → List AV × Mem) r) := (congrArg (fun x => (sem T).call 33 _ x lv) (updM_self hm0)).symm.trans ((rtext_reader_data_ok N a0_0 a0_1 a0_2 a1 M lv cl0 sl0 hc0).of h)
theorem rtext_Parse_call {N : Nat} {a0 : Int} {a1 : List (List UInt8)} {a2 : List UInt8} {r : Bool × Int × Int × List UInt8 × List UInt8 × List UInt8 × Int × Int × Int × Int × Int × Int × Int × Int} (h : rtext_Parse N a0 a1 a2 = some r) (m : Mem) (lv : Nat) : (sem T).call 12 [(.int .i64 a0), (.sl none 1 (List.map sRow a1)), (.str (bs a2))] m lv = some (((fun p => ([(.agg [(.bool p.1), (.int .u64 p.2.1), (.int .u64 p.2.2.1), (.str (bs p.2.2.2.1)), (.str (bs p.2.2.2.2.1)), (.str (bs p.2.2.2.2.2.1)), (.int .i64 p.2.2.2.2.2.2.1), (.int .i64 p.2.2.2.2.2.2.2.1), (.int .i64 p.2.2.2.2.2.2.2.2.1), (.int .i64 p.2.2.2.2.2.2.2.2.2.1), (.int .i64 p.2.2.2.2.2.2.2.2.2.2.1), (.int .i64 p.2.2.2.2.2.2.2.2.2.2.2.1), (.int .u64 p.2.2.2.2.2.2.2.2.2.2.2.2.1)]), (.int .i64 p.2.2.2.2.2.2.2.2.2.2.2.2.2)], m)) : _ → List AV × Mem) r) := by
 revert r
 show Ok _ _
 unfold rtext_Parse
 repeat' (with_reducible first | (refine Ok.ite (fun hc => ?_) (fun hc => ?_) <;> try subst hc) | (refine Ok.bind (fun _ h => ?_); ((first | have h := rdata_Known_call h | have h := rdata_Valid_call h | have h := rtext_reader_data_call h | skip); try simp only [List.map_nil, List.map_cons, sRow, iRow, bRow, eRow] at h)))
 all_goals (refine Ok.some (call_go rfl rfl rfl ?_); simp [F12, *])
theorem r05_Type_L0_ok (N : Nat) (m : Mem) (lv : Nat) : ∀ (n : Nat) (p0 : List UInt8) (p1 : Int), Ok (r05_Type_L0 N n p0 p1) (fun r => ∀ s : St, s.mask [0, 4] [] = some ⟨18, lv, tmOf [(0, (.str (bs p0))), (4, (.int .i64 p1))], bxOf [], m⟩ → (sem T).loop [0, 4] [] L80_0 s = some ((O2.el (fun p => (.ret, ⟨18, lv, tmOf [(2, (.int .i64 p.1)), (3, (.bool p.2))], bxOf [], m⟩)) (fun p => (.ex 0, ⟨18, lv, tmOf [], bxOf [], m⟩)) : _ → Fl × St) r))
 | 0, _, _ => Ok.none
 | n + 1, p0, p1 => by
   unfold r05_Type_L0
   repeat' (with_reducible first | (refine Ok.ite (fun hc => ?_) (fun hc => ?_) <;> try subst hc) | (refine Ok.bind (fun _ h => ?_); ((first | have h := r05_Mnemonic_call h | skip); try simp only [List.map_nil, List.map_cons, sRow, iRow, bRow, eRow] at h)))
   all_goals first
    | (refine Ok.some (fun s hs => loop_end hs ?_ (by intro e; cases e)); simp [L80_0, *]; done)
    | (refine fun r hr s hs => loop_round hs ?_ (r05_Type_L0_ok N m lv n _ _ r hr); simp [L80_0, *]; done)
theorem r05_Type_call {N : Nat} {a0 : List UInt8} {r : Int × Bool} (h : r05_Type N a0 = some r) (m : Mem) (lv : Nat) : (sem T).call 80 [(.str (bs a0))] m lv = some (((fun p => ([(.int .i64 p.1), (.bool p.2)], m)) : _ → List AV × Mem) r) := by
 revert r
 show Ok _ _
 unfold r05_Type
 repeat' (with_reducible first | (refine Ok.ite (fun hc => ?_) (fun hc => ?_) <;> try subst hc) | (refine Ok.bind2 (fun _ h => ?_) (fun _ h => ?_) <;> ((first | have h := (r05_Type_L0_ok N m lv _ _ _).of h | skip); try simp only [List.map_nil, List.map_cons, sRow, iRow, bRow, eRow] at h)))
 all_goals (refine Ok.some (call_go rfl rfl rfl ?_); simp [F80, *])
theorem r05_Set_L0_ok (N : Nat) (m : Mem) (lv : Nat) : ∀ (n : Nat) (p0 : List Int) (p1 p2 : Int), Ok (r05_Set_L0 N n p0 p1 p2) (fun r => ∀ s : St, s.mask [0, 4, 5] [] = some ⟨27, lv, tmOf [(0, (.sl none 1 (List.map (iRow .i64) p0))), (4, (.int .u64 p1)), (5, (.int .i64 p2))], bxOf [], m⟩ → (sem T).loop [0, 4, 5] [] L81_0 s = some ((O2.el (fun p => (.ret, ⟨27, lv, tmOf [(2, (.int .u64 p.1)), (3, (.bool p.2))], bxOf [], m⟩)) (fun p => (.ex 0, ⟨27, lv, tmOf [(4, (.int .u64 p))], bxOf [], m⟩)) : _ → Fl × St) r))
 | 0, _, _, _ => Ok.none
 | n + 1, p0, p1, p2 => by
   unfold r05_Set_L0
   repeat' (with_reducible first | (refine Ok.ite (fun hc => ?_) (fun hc => ?_) <;> try subst hc) | (refine Ok.bind (fun _ h => ?_); ((first | have h := r05_Known_call h | skip); try simp only [List.map_nil, List.map_cons, sRow, iRow, bRow, eRow] at h)))
   all_goals first
    | (refine Ok.some (fun s hs => loop_end hs ?_ (by intro e; cases e)); simp [L81_0, *]; done)
    | (refine fun r hr s hs => loop_round hs ?_ (r05_Set_L0_ok N m lv n _ _ _ r hr); simp [L81_0, *]; done)
theorem r05_Set_call {N : Nat} {a0 : List Int} {r : Int × Bool} (h : r05_Set N a0 = some r) (m : Mem) (lv : Nat) : (sem T).call 81 [(.sl none 1 (List.map (iRow .i64) a0))] m lv = some (((fun p => ([(.int .u64 p.1), (.bool p.2)], m)) : _ → List AV × Mem) r) := by
 revert r
 show Ok _ _
 unfold r05_Set
 repeat' (with_reducible first | (refine Ok.ite (fun hc => ?_) (fun hc => ?_) <;> try subst hc) | (refine Ok.bind2 (fun _ h => ?_) (fun _ h => ?_) <;> ((first | have h := (r05_Set_L0_ok N m lv _ _ _ _).of h | skip); try simp only [List.map_nil, List.map_cons, sRow, iRow, bRow, eRow] at h)))
 all_goals (refine Ok.some (call_go rfl rfl rfl ?_); simp [F81, *])
theorem r06_set_L0_ok (N : Nat) (m : Mem) (lv : Nat) : ∀ (n : Nat) (p0 : List (List UInt8)) (p1 : List Int) (p2 : Int), Ok (r06_set_L0 N n p0 p1 p2) (fun r => ∀ s : St, s.mask [0, 4, 5] [] = some ⟨39, lv, tmOf [(0, (.sl none 1 (List.map sRow p0))), (4, (.sl (some 3) 1 (List.map (iRow .i64) p1))), (5, (.int .i64 p2))], bxOf [], m⟩ → (sem T).loop [0, 4, 5] [] L34_0 s = some ((O2.el (fun p => (.ret, ⟨39, lv, tmOf [(2, (.int .u64 p.1)), (3, (.int .i64 p.2))], bxOf [], m⟩)) (fun p => (.ex 0, ⟨39, lv, tmOf [(4, (.sl (some 3) 1 (List.map (iRow .i64) p)))], bxOf [], m⟩)) : _ → Fl × St) r))
 | 0, _, _, _ => Ok.none
 | n + 1, p0, p1, p2 => by
   unfold r06_set_L0
   repeat' (with_reducible first | (refine Ok.ite (fun hc => ?_) (fun hc => ?_) <;> try subst hc) | exact Ok.none | (refine Ok.bind (fun _ h => ?_); ((first | have h := r05_Type_call h | skip); try simp only [List.map_nil, List.map_cons, sRow, iRow, bRow, eRow] at h)))
   all_goals first
    | (refine Ok.some (fun s hs => loop_end hs ?_ (by intro e; cases e)); simp [L34_0, *]; done)
    | (refine fun r hr s hs => loop_round hs ?_ (r06_set_L0_ok N m lv n _ _ _ r hr); simp [L34_0, *]; done)
theorem r06_set_call {N : Nat} {a0 : List (List UInt8)} {r : Int × Int} (h : r06_set N a0 = some r) (m : Mem) (lv : Nat) : (sem T).call 34 [(.sl none 1 (List.map sRow a0))] m lv = some (((fun p => ([(.int .u64 p.1), (.int .i64 p.2)], m)) : _ → List AV × Mem) r) := by
 revert r
 show Ok _ _
 unfold r06_set
 repeat' (with_reducible first | (refine Ok.ite (fun hc => ?_) (fun hc => ?_) <;> try subst hc) | (refine Ok.bind2 (fun _ h => ?_) (fun _ h => ?_) <;> ((first | have h := r05_Set_call h | have h := (r06_set_L0_ok N m lv _ _ _ _).of h | skip); try simp only [List.map_nil, List.map_cons, sRow, iRow, bRow, eRow] at h)) | (refine Ok.bind (fun _ h => ?_); ((first | have h := r05_Set_call h | have h := (r06_set_L0_ok N m lv _ _ _ _).of h | skip); try simp only [List.map_nil, List.map_cons, sRow, iRow, bRow, eRow] at h)))
 all_goals (refine Ok.some (call_go rfl rfl rfl ?_); simp [F34, *])
theorem r01_lower_L0_ok (N : Nat) (m : Mem) (lv : Nat) : ∀ (n : Nat) (p0 p1 : List UInt8) (p2 : Int), Ok (r01_lower_L0 N n p0 p1 p2) (fun r => ∀ s : St, s.mask [0, 3, 4] [] = some ⟨29, lv, tmOf [(0, (.str (bs p0))), (3, (.sl (some 5) 1 (List.map byteRow p1))), (4, (.int .i64 p2))], bxOf [], m⟩ → (sem T).loop [0, 3, 4] [] L107_0 s = some (((fun p => (.ex 0, ⟨29, lv, tmOf [(3, (.sl (some 5) 1 (List.map byteRow p)))], bxOf [], m⟩)) : _ → Fl × St) r))
 | 0, _, _, _ => Ok.none
 | n + 1, p0, p1, p2 => by
   unfold r01_lower_L0
   repeat' (with_reducible first | (refine Ok.ite (fun hc => ?_) (fun hc => ?_) <;> try subst hc) | exact Ok.none | (refine Ok.bind (fun _ h => ?_)))
   all_goals first
    | (refine Ok.some (fun s hs => loop_end hs ?_ (by intro e; cases e)); simp [L107_0, *]; done)
    | (refine fun r hr s hs => loop_round hs ?_ (r01_lower_L0_ok N m lv n _ _ _ r hr); simp [L107_0, *]; done)
theorem r01_lower_call {N : Nat} {a0 : List UInt8} {r : List UInt8} (h : r01_lower N a0 = some r) (m : Mem) (lv : Nat) : (sem T).call 107 [(.str (bs a0))] m lv = some (((fun p => ([(.str (bs p))], m)) : _ → List AV × Mem) r) := by
 revert r
 show Ok _ _
 unfold r01_lower
 repeat' (with_reducible first | (refine Ok.ite (fun hc => ?_) (fun hc => ?_) <;> try subst hc) | (refine Ok.bind (fun _ h => ?_); ((first | have h := (r01_lower_L0_ok N m lv _ _ _ _).of h | skip); try simp only [List.map_nil, List.map_cons, sRow, iRow, bRow, eRow] at h)))
 all_goals (refine Ok.some (call_go rfl rfl rfl ?_); simp [F107, *])
theorem r01_Parse_call {N : Nat} {a0 a1 : List UInt8} {r : List UInt8 × Int} (h : r01_Parse N a0 a1 = some r) (m : Mem) (lv : Nat) : (sem T).call 82 [(.str (bs a0)), (.str (bs a1))] m lv = some (((fun p => ([(.str (bs p.1)), (.int .i64 p.2)], m)) : _ → List AV × Mem) r) := by
 revert r
 show Ok _ _
 unfold r01_Parse
 repeat' (with_reducible first | (refine Ok.ite (fun hc => ?_) (fun hc => ?_) <;> try subst hc) | (refine Ok.bind (fun _ h => ?_); ((first | have h := r01_Valid_call h | have h := r01_lower_call h | skip); try simp only [List.map_nil, List.map_cons, sRow, iRow, bRow, eRow] at h)))
 all_goals (refine Ok.some (call_go rfl rfl rfl ?_); simp [F82, *])
theorem r02_digit_call {N : Nat} {a0 : Int} {r : Int} (h : r02_digit N a0 = some r) (m : Mem) (lv : Nat) : (sem T).call 158 [(.int .u8 a0)] m lv = some (((fun p => ([(.int .u64 p)], m)) : _ → List AV × Mem) r) := by
 revert r
 show Ok _ _
 unfold r02_digit
 repeat' (with_reducible first | (refine Ok.ite (fun hc => ?_) (fun hc => ?_) <;> try subst hc))
 all_goals (refine Ok.some (call_go rfl rfl rfl ?_); simp [F158, *])
theorem r02_group_L0_ok (N : Nat) (m : Mem) (lv : Nat) : ∀ (n : Nat) (p0 : List UInt8) (p1 p2 : Int), Ok (r02_group_L0 N n p0 p1 p2) (fun r => ∀ s : St, s.mask [0, 4, 5] [] = some ⟨33, lv, tmOf [(0, (.str (bs p0))), (4, (.int .u64 p1)), (5, (.int .i64 p2))], bxOf [], m⟩ → (sem T).loop [0, 4, 5] [] L136_0 s = some ((O2.el (fun p => (.ret, ⟨33, lv, tmOf [(2, (.int .u64 p.1)), (3, (.bool p.2))], bxOf [], m⟩)) (fun p => (.ex 0, ⟨33, lv, tmOf [(4, (.int .u64 p))], bxOf [], m⟩)) : _ → Fl × St) r))
 | 0, _, _, _ => Ok.none
 | n + 1, p0, p1, p2 => by
   unfold r02_group_L0
   repeat' (with_reducible first | (refine Ok.ite (fun hc => ?_) (fun hc => ?_) <;> try subst hc) | (refine Ok.bind (fun _ h => ?_); ((first | have h := r02_digit_call h | skip); try simp only [List.map_nil, List.map_cons, sRow, iRow, bRow, eRow] at h)))
   all_goals first
    | (refine Ok.some (fun s hs => loop_end hs ?_ (by intro e; cases e)); simp [L136_0, *]; done)
    | (refine fun r hr s hs => loop_round hs ?_ (r02_group_L0_ok N m lv n _ _ _ r hr); simp [L136_0, *]; done)
theorem r02_group_call {N : Nat} {a0 : List UInt8} {r : Int × Bool} (h : r02_group N a0 = some r) (m : Mem) (lv : Nat) : (sem T).call 136 [(.str (bs a0))] m lv = some (((fun p => ([(.int .u64 p.1), (.bool p.2)], m)) : _ → List AV × Mem) r) := by
 revert r
 show Ok _ _
 unfold r02_group
 repeat' (with_reducible first | (refine Ok.ite (fun hc => ?_) (fun hc => ?_) <;> try subst hc) | (refine Ok.bind2 (fun _ h => ?_) (fun _ h => ?_) <;> ((first | have h := (r02_group_L0_ok N m lv _ _ _ _).of h | skip); try simp only [List.map_nil, List.map_cons, sRow, iRow, bRow, eRow] at h)))
 all_goals (refine Ok.some (call_go rfl rfl rfl ?_); simp [F136, *])
theorem r02_six_L1_ok (N : Nat) (m : Mem) (lv : Nat) : ∀ (n : Nat) (p0 : List UInt8) (p1 : List Int) (p2 p3 p4 : Int) (p5 : Bool) (p6 p7 : Int), Ok (r02_six_L1 N n p0 p1 p2 p3 p4 p5 p6 p7) (fun r => ∀ s : St, s.mask [0, 2, 4, 5, 6, 8] [2] = some ⟨164, lv, tmOf [(0, (.str (bs p0))), (2, (.ptr lv 2 0)), (4, (.sl (some 22) 1 (List.map (iRow .u64) p1))), (5, (.int .i64 p2)), (6, (.int .i64 p3)), (8, (.int .i64 p4))], bxOf [(2, some (.cells 24 [(.bool p5), (.int .u64 p6), (.int .u64 p7)]))], m⟩ → (sem T).loop [0, 2, 4, 5, 6, 8] [2] L108_1 s = some (((fun p => (.ex 2, ⟨164, lv, tmOf [(0, (.str (bs p0))), (2, (.ptr lv 2 0)), (4, (.sl (some 22) 1 (List.map (iRow .u64) p1))), (5, (.int .i64 p2)), (6, (.int .i64 p3)), (8, (.int .i64 p))], bxOf [(2, some (.cells 24 [(.bool p5), (.int .u64 p6), (.int .u64 p7)]))], m⟩)) : _ → Fl × St) r))
 | 0, _, _, _, _, _, _, _, _ => Ok.none
 | n + 1, p0, p1, p2, p3, p4, p5, p6, p7 => by
   unfold r02_six_L1
   repeat' (with_reducible first | (refine Ok.ite (fun hc => ?_) (fun hc => ?_) <;> try subst hc) | (refine Ok.bind (fun _ h => ?_)))
   all_goals first
    | (refine Ok.some (fun s hs => loop_end hs ?_ (by intro e; cases e)); simp [L108_1, *]; done)
    | (refine fun r hr s hs => loop_round hs ?_ (r02_six_L1_ok N m lv n _ _ _ _ _ _ _ _ r hr); simp [L108_1, *]; done)
theorem r02_six_L2_ok (N : Nat) (m : Mem) (lv : Nat) : ∀ (n : Nat) (p0 : List UInt8) (p1 : List Int) (p2 p3 : Int) (p4 p5 : Bool) (p6 p7 : Int), Ok (r02_six_L2 N n p0 p1 p2 p3 p4 p5 p6 p7) (fun r => ∀ s : St, s.mask [0, 2, 4, 5, 6, 7] [2] = some ⟨164, lv, tmOf [(0, (.str (bs p0))), (2, (.ptr lv 2 0)), (4, (.sl (some 22) 1 (List.map (iRow .u64) p1))), (5, (.int .i64 p2)), (6, (.int .i64 p3)), (7, (.bool p4))], bxOf [(2, some (.cells 24 [(.bool p5), (.int .u64 p6), (.int .u64 p7)]))], m⟩ → (sem T).loop [0, 2, 4, 5, 6, 7] [2] L108_2 s = some ((O2.el (fun p => (.ret, ⟨164, lv, tmOf [(2, (.ptr lv 2 0)), (3, (.int .i64 p.1))], bxOf [(2, some (.cells 24 [(.bool p.2.1), (.int .u64 p.2.2.1), (.int .u64 p.2.2.2)]))], m⟩)) (fun p => (.ex 0, ⟨164, lv, tmOf [(2, (.ptr lv 2 0)), (4, (.sl (some 22) 1 (List.map (iRow .u64) p.1))), (5, (.int .i64 p.2))], bxOf [(2, some (.cells 24 [(.bool p5), (.int .u64 p6), (.int .u64 p7)]))], m⟩)) : _ → Fl × St) r))
 | 0, _, _, _, _, _, _, _, _ => Ok.none
 | n + 1, p0, p1, p2, p3, p4, p5, p6, p7 => by
   unfold r02_six_L2
   repeat' (with_reducible first | (refine Ok.ite (fun hc => ?_) (fun hc => ?_) <;> try subst hc) | exact Ok.none | (refine Ok.bind (fun _ h => ?_); ((first | have h := r02_group_call h | have h := (r02_six_L1_ok N m lv _ _ _ _ _ _ _ _ _).of h | skip); try simp only [List.map_nil, List.map_cons, sRow, iRow, bRow, eRow] at h)))
   all_goals first
    | (refine Ok.some (fun s hs => loop_end hs ?_ (by intro e; cases e)); simp [L108_2, *]; done)
    | (refine fun r hr s hs => loop_round hs ?_ (r02_six_L2_ok N m lv n _ _ _ _ _ _ _ _ r hr); simp [L108_2, *]; done)
theorem r02_six_L0_ok (N : Nat) (m : Mem) (lv : Nat) : ∀ (n : Nat) (p0 : List Int) (p1 p2 : Int) (p3 : Bool) (p4 p5 : Int) (p6 : Bool) (p7 p8 : Int), Ok (r02_six_L0 N n p0 p1 p2 p3 p4 p5 p6 p7 p8) (fun r => ∀ s : St, s.mask [2, 4, 5, 11, 12] [2, 11] = some ⟨164, lv, tmOf [(2, (.ptr lv 2 0)), (4, (.sl (some 22) 1 (List.map (iRow .u64) p0))), (5, (.int .i64 p1)), (11, (.ptr lv 11 0)), (12, (.int .i64 p2))], bxOf [(2, some (.cells 24 [(.bool p3), (.int .u64 p4), (.int .u64 p5)])), (11, some (.cells 24 [(.bool p6), (.int .u64 p7), (.int .u64 p8)]))], m⟩ → (sem T).loop [2, 4, 5, 11, 12] [2, 11] L108_0 s = some (((fun p => (.ex 4, ⟨164, lv, tmOf [(2, (.ptr lv 2 0)), (11, (.ptr lv 11 0))], bxOf [(2, some (.cells 24 [(.bool p3), (.int .u64 p4), (.int .u64 p5)])), (11, some (.cells 24 [(.bool p6), (.int .u64 p.1), (.int .u64 p.2)]))], m⟩)) : _ → Fl × St) r))
 | 0, _, _, _, _, _, _, _, _, _ => Ok.none
 | n + 1, p0, p1, p2, p3, p4, p5, p6, p7, p8 => by
   unfold r02_six_L0
   repeat' (with_reducible first | (refine Ok.ite (fun hc => ?_) (fun hc => ?_) <;> try subst hc) | (refine Ok.bind (fun _ h => ?_)))
   all_goals first
    | (refine Ok.some (fun s hs => loop_end hs ?_ (by intro e; cases e)); simp [L108_0, *]; done)
    | (refine fun r hr s hs => loop_round hs ?_ (r02_six_L0_ok N m lv n _ _ _ _ _ _ _ _ _ r hr); simp [L108_0, *]; done)
theorem r02_six_call {N : Nat} {a0 : List UInt8} {r : Bool × Int × Int × Int} (h : r02_six N a0 = some r) (m : Mem) (lv : Nat) : (sem T).call 108 [(.str (bs a0))] m lv = some (((fun p => ([(.agg [(.bool p.1), (.int .u64 p.2.1), (.int .u64 p.2.2.1)]), (.int .i64 p.2.2.2)], m)) : _ → List AV × Mem) r) := by
 revert r
 show Ok _ _
 unfold r02_six
 repeat' (with_reducible first | (refine Ok.ite (fun hc => ?_) (fun hc => ?_) <;> try subst hc) | (refine Ok.bind2 (fun _ h => ?_) (fun _ h => ?_) <;> ((first | have h := (r02_six_L0_ok N m lv _ _ _ _ _ _ _ _ _ _).of h | have h := (r02_six_L2_ok N m lv _ _ _ _ _ _ _ _ _).of h | skip); try simp only [List.map_nil, List.map_cons, sRow, iRow, bRow, eRow] at h)) | (refine Ok.bind (fun _ h => ?_); ((first | have h := (r02_six_L0_ok N m lv _ _ _ _ _ _ _ _ _ _).of h | have h := (r02_six_L2_ok N m lv _ _ _ _ _ _ _ _ _).of h | skip); try simp only [List.map_nil, List.map_cons, sRow, iRow, bRow, eRow] at h)))
 all_goals (refine Ok.some (call_go rfl rfl rfl ?_); simp [F108, *])
theorem r02_number_L0_ok (N : Nat) (m : Mem) (lv : Nat) : ∀ (n : Nat) (p0 : List UInt8) (p1 p2 : Int), Ok (r02_number_L0 N n p0 p1 p2) (fun r => ∀ s : St, s.mask [0, 4, 5] [] = some ⟨51, lv, tmOf [(0, (.str (bs p0))), (4, (.int .u64 p1)), (5, (.int .i64 p2))], bxOf [], m⟩ → (sem T).loop [0, 4, 5] [] L137_0 s = some ((O2.el (fun p => (.ret, ⟨51, lv, tmOf [(2, (.int .u64 p.1)), (3, (.bool p.2))], bxOf [], m⟩)) (fun p => (.ex 0, ⟨51, lv, tmOf [(4, (.int .u64 p))], bxOf [], m⟩)) : _ → Fl × St) r))
 | 0, _, _, _ => Ok.none
 | n + 1, p0, p1, p2 => by
   unfold r02_number_L0
   repeat' (with_reducible first | (refine Ok.ite (fun hc => ?_) (fun hc => ?_) <;> try subst hc) | (refine Ok.bind (fun _ h => ?_)))
   all_goals first
    | (refine Ok.some (fun s hs => loop_end hs ?_ (by intro e; cases e)); simp [L137_0, *]; done)
    | (refine fun r hr s hs => loop_round hs ?_ (r02_number_L0_ok N m lv n _ _ _ r hr); simp [L137_0, *]; done)
theorem r02_number_call {N : Nat} {a0 : List UInt8} {r : Int × Bool} (h : r02_number N a0 = some r) (m : Mem) (lv : Nat) : (sem T).call 137 [(.str (bs a0))] m lv = some (((fun p => ([(.int .u64 p.1), (.bool p.2)], m)) : _ → List AV × Mem) r) := by
 revert r
 show Ok _ _
 unfold r02_number
 repeat' (with_reducible first | (refine Ok.ite (fun hc => ?_) (fun hc => ?_) <;> try subst hc) | (refine Ok.bind2 (fun _ h => ?_) (fun _ h => ?_) <;> ((first | have h := (r02_number_L0_ok N m lv _ _ _ _).of h | skip); try simp only [List.map_nil, List.map_cons, sRow, iRow, bRow, eRow] at h)) | (refine Ok.bind (fun _ h => ?_); ((first | have h := (r02_number_L0_ok N m lv _ _ _ _).of h | skip); try simp only [List.map_nil, List.map_cons, sRow, iRow, bRow, eRow] at h)))
 all_goals (refine Ok.some (call_go rfl rfl rfl ?_); simp [F137, *])
theorem r02_four_L0_ok (N : Nat) (m : Mem) (lv : Nat) : ∀ (n : Nat) (p0 : List UInt8) (p1 p2 p3 p4 : Int) (p5 : Bool) (p6 p7 : Int), Ok (r02_four_L0 N n p0 p1 p2 p3 p4 p5 p6 p7) (fun r => ∀ s : St, s.mask [0, 2, 4, 5, 6, 7] [2] = some ⟨54, lv, tmOf [(0, (.str (bs p0))), (2, (.ptr lv 2 0)), (4, (.int .u64 p1)), (5, (.int .i64 p2)), (6, (.int .i64 p3)), (7, (.int .i64 p4))], bxOf [(2, some (.cells 24 [(.bool p5), (.int .u64 p6), (.int .u64 p7)]))], m⟩ → (sem T).loop [0, 2, 4, 5, 6, 7] [2] L109_0 s = some ((O2.el (fun p => (.ret, ⟨54, lv, tmOf [(2, (.ptr lv 2 0)), (3, (.int .i64 p.1))], bxOf [(2, some (.cells 24 [(.bool p.2.1), (.int .u64 p.2.2.1), (.int .u64 p.2.2.2)]))], m⟩)) (fun p => (.ex 0, ⟨54, lv, tmOf [(2, (.ptr lv 2 0)), (4, (.int .u64 p.1)), (5, (.int .i64 p.2))], bxOf [(2, some (.cells 24 [(.bool p5), (.int .u64 p6), (.int .u64 p7)]))], m⟩)) : _ → Fl × St) r))
 | 0, _, _, _, _, _, _, _, _ => Ok.none
 | n + 1, p0, p1, p2, p3, p4, p5, p6, p7 => by
   unfold r02_four_L0
   repeat' (with_reducible first | (refine Ok.ite (fun hc => ?_) (fun hc => ?_) <;> try subst hc) | (refine Ok.bind (fun _ h => ?_); ((first | have h := r02_number_call h | skip); try simp only [List.map_nil, List.map_cons, sRow, iRow, bRow, eRow] at h)))
   all_goals first
    | (refine Ok.some (fun s hs => loop_end hs ?_ (by intro e; cases e)); simp [L109_0, *]; done)
    | (refine fun r hr s hs => loop_round hs ?_ (r02_four_L0_ok N m lv n _ _ _ _ _ _ _ _ r hr); simp [L109_0, *]; done)
theorem r02_four_call {N : Nat} {a0 : List UInt8} {r : Bool × Int × Int × Int} (h : r02_four N a0 = some r) (m : Mem) (lv : Nat) : (sem T).call 109 [(.str (bs a0))] m lv = some (((fun p => ([(.agg [(.bool p.1), (.int .u64 p.2.1), (.int .u64 p.2.2.1)]), (.int .i64 p.2.2.2)], m)) : _ → List AV × Mem) r) := by
 revert r
 show Ok _ _
 unfold r02_four
 repeat' (with_reducible first | (refine Ok.ite (fun hc => ?_) (fun hc => ?_) <;> try subst hc) | (refine Ok.bind2 (fun _ h => ?_) (fun _ h => ?_) <;> ((first | have h := (r02_four_L0_ok N m lv _ _ _ _ _ _ _ _ _).of h | skip); try simp only [List.map_nil, List.map_cons, sRow, iRow, bRow, eRow] at h)))
 all_goals (refine Ok.some (call_go rfl rfl rfl ?_); simp [F109, *])
theorem r02_Parse_L0_ok (N : Nat) (m : Mem) (lv : Nat) : ∀ (n : Nat) (p0 : List UInt8) (p1 : Int) (p2 : Bool) (p3 p4 : Int), Ok (r02_Parse_L0 N n p0 p1 p2 p3 p4) (fun r => ∀ s : St, s.mask [0, 2, 4] [2] = some ⟨27, lv, tmOf [(0, (.str (bs p0))), (2, (.ptr lv 2 0)), (4, (.int .i64 p1))], bxOf [(2, some (.cells 24 [(.bool p2), (.int .u64 p3), (.int .u64 p4)]))], m⟩ → (sem T).loop [0, 2, 4] [2] L83_0 s = some ((O2.el (fun p => (.ret, ⟨27, lv, tmOf [(2, (.ptr lv 2 0)), (3, (.int .i64 p.1))], bxOf [(2, some (.cells 24 [(.bool p.2.1), (.int .u64 p.2.2.1), (.int .u64 p.2.2.2)]))], m⟩)) (fun p => (.ex 0, ⟨27, lv, tmOf [(0, (.str (bs p0))), (2, (.ptr lv 2 0))], bxOf [(2, some (.cells 24 [(.bool p2), (.int .u64 p3), (.int .u64 p4)]))], m⟩)) : _ → Fl × St) r))
 | 0, _, _, _, _, _ => Ok.none
 | n + 1, p0, p1, p2, p3, p4 => by
   unfold r02_Parse_L0
   repeat' (with_reducible first | (refine Ok.ite (fun hc => ?_) (fun hc => ?_) <;> try subst hc) | (refine Ok.bind (fun _ h => ?_); ((first | have h := r02_six_call h | skip); try simp only [List.map_nil, List.map_cons, sRow, iRow, bRow, eRow] at h)))
   all_goals first
    | (refine Ok.some (fun s hs => loop_end hs ?_ (by intro e; cases e)); simp [L83_0, *]; done)
    | (refine fun r hr s hs => loop_round hs ?_ (r02_Parse_L0_ok N m lv n _ _ _ _ _ r hr); simp [L83_0, *]; done)
theorem r02_Parse_call {N : Nat} {a0 : List UInt8} {r : Bool × Int × Int × Int} (h : r02_Parse N a0 = some r) (m : Mem) (lv : Nat) : (sem T).call 83 [(.str (bs a0))] m lv = some (((fun p => ([(.agg [(.bool p.1), (.int .u64 p.2.1), (.int .u64 p.2.2.1)]), (.int .i64 p.2.2.2)], m)) : _ → List AV × Mem) r) := by
 revert r
 show Ok _ _
 unfold r02_Parse
 repeat' (with_reducible first | (refine Ok.ite (fun hc => ?_) (fun hc => ?_) <;> try subst hc) | (refine Ok.bind2 (fun _ h => ?_) (fun _ h => ?_) <;> ((first | have h := r02_four_call h | have h := (r02_Parse_L0_ok N m lv _ _ _ _ _ _).of h | skip); try simp only [List.map_nil, List.map_cons, sRow, iRow, bRow, eRow] at h)) | (refine Ok.bind (fun _ h => ?_); ((first | have h := r02_four_call h | have h := (r02_Parse_L0_ok N m lv _ _ _ _ _ _).of h | skip); try simp only [List.map_nil, List.map_cons, sRow, iRow, bRow, eRow] at h)))
 all_goals (refine Ok.some (call_go rfl rfl rfl ?_); simp [F83, *])
theorem r06_digit_call {N : Nat} {a0 : Int} {r : Int} (h : r06_digit N a0 = some r) (m : Mem) (lv : Nat) : (sem T).call 110 [(.int .u8 a0)] m lv = some (((fun p => ([(.int .i64 p)], m)) : _ → List AV × Mem) r) := by
 revert r
 show Ok _ _
 unfold r06_digit
 repeat' (with_reducible first | (refine Ok.ite (fun hc => ?_) (fun hc => ?_) <;> try subst hc))
 all_goals (refine Ok.some (call_go rfl rfl rfl ?_); simp [F110, *])
theorem r06_Unhex_L0_ok (N : Nat) (m : Mem) (lv : Nat) : ∀ (n : Nat) (p0 p1 : List UInt8) (p2 : Int), Ok (r06_Unhex_L0 N n p0 p1 p2) (fun r => ∀ s : St, s.mask [0, 4, 5] [] = some ⟨43, lv, tmOf [(0, (.str (bs p0))), (4, (.sl (some 5) 1 (List.map byteRow p1))), (5, (.int .i64 p2))], bxOf [], m⟩ → (sem T).loop [0, 4, 5] [] L84_0 s = some ((O2.el (fun p => (.ret, ⟨43, lv, tmOf [(2, (.str (bs p.1))), (3, (.bool p.2))], bxOf [], m⟩)) (fun p => (.ex 0, ⟨43, lv, tmOf [(4, (.sl (some 5) 1 (List.map byteRow p)))], bxOf [], m⟩)) : _ → Fl × St) r))
 | 0, _, _, _ => Ok.none
 | n + 1, p0, p1, p2 => by
   unfold r06_Unhex_L0
   repeat' (with_reducible first | (refine Ok.ite (fun hc => ?_) (fun hc => ?_) <;> try subst hc) | exact Ok.none | (refine Ok.bind (fun _ h => ?_); ((first | have h := r06_digit_call h | skip); try simp only [List.map_nil, List.map_cons, sRow, iRow, bRow, eRow] at h)))
   all_goals first
    | (refine Ok.some (fun s hs => loop_end hs ?_ (by intro e; cases e)); simp [L84_0, *]; done)
    | (refine fun r hr s hs => loop_round hs ?_ (r06_Unhex_L0_ok N m lv n _ _ _ r hr); simp [L84_0, *]; done)
theorem r06_Unhex_call {N : Nat} {a0 : List UInt8} {r : List UInt8 × Bool} (h : r06_Unhex N a0 = some r) (m : Mem) (lv : Nat) : (sem T).call 84 [(.str (bs a0))] m lv = some (((fun p => ([(.str (bs p.1)), (.bool p.2)], m)) : _ → List AV × Mem) r) := by
 revert r
 show Ok _ _
 unfold r06_Unhex
 repeat' (with_reducible first | (refine Ok.ite (fun hc => ?_) (fun hc => ?_) <;> try subst hc) | (refine Ok.bind2 (fun _ h => ?_) (fun _ h => ?_) <;> ((first | have h := (r06_Unhex_L0_ok N m lv _ _ _ _).of h | skip); try simp only [List.map_nil, List.map_cons, sRow, iRow, bRow, eRow] at h)) | (refine Ok.bind (fun _ h => ?_); ((first | have h := (r06_Unhex_L0_ok N m lv _ _ _ _).of h | skip); try simp only [List.map_nil, List.map_cons, sRow, iRow, bRow, eRow] at h)))
 all_goals (refine Ok.some (call_go rfl rfl rfl ?_); simp [F84, *])
theorem r06_most_call {N : Nat} {a0 a1 : Int} {r : Int} (h : r06_most N a0 a1 = some r) (m : Mem) (lv : Nat) : (sem T).call 113 [(.int .i64 a0), (.int .u8 a1)] m lv = some (((fun p => ([(.int .i64 p)], m)) : _ → List AV × Mem) r) := by
 revert r
 show Ok _ _
 unfold r06_most
 repeat' (with_reducible first | (refine Ok.ite (fun hc => ?_) (fun hc => ?_) <;> try subst hc))
 all_goals (refine Ok.some (call_go rfl rfl rfl ?_); simp [F113, *])
theorem r06_numeral_call {N : Nat} {a0 a1 : Int} {a2 : List UInt8} {r : Int × Bool} (h : r06_numeral N a0 a1 a2 = some r) (m : Mem) (lv : Nat) : (sem T).call 85 [(.int .i64 a0), (.int .u8 a1), (.str (bs a2))] m lv = some (((fun p => ([(.int .i64 p.1), (.bool p.2)], m)) : _ → List AV × Mem) r) := by
 revert r
 show Ok _ _
 unfold r06_numeral
 repeat' (with_reducible first | (refine Ok.ite (fun hc => ?_) (fun hc => ?_) <;> try subst hc) | (refine Ok.bind (fun _ h => ?_); ((first | have h := durI_callR h | have h := numI_callR h | have h := r06_most_call h | skip); try simp only [List.map_nil, List.map_cons, sRow, iRow, bRow, eRow] at h)))
 all_goals (refine Ok.some (call_go rfl rfl rfl ?_); simp [F85, *])
theorem r06_with_call {N : Nat} {a0_0 : Bool} {a0_1 a0_2 : Int} {a0_3 a0_4 a0_5 : List UInt8} {a0_6 a0_7 a0_8 a0_9 a0_10 a0_11 a0_12 a1 a2 : Int} {r : Int × Int × Int × Int × Int × Int} (h : r06_with N a0_0 a0_1 a0_2 a0_3 a0_4 a0_5 a0_6 a0_7 a0_8 a0_9 a0_10 a0_11 a0_12 a1 a2 = some r) (m : Mem) (lv : Nat) : (sem T).call 86 [(.agg [(.bool a0_0), (.int .u64 a0_1), (.int .u64 a0_2), (.str (bs a0_3)), (.str (bs a0_4)), (.str (bs a0_5)), (.int .i64 a0_6), (.int .i64 a0_7), (.int .i64 a0_8), (.int .i64 a0_9), (.int .i64 a0_10), (.int .i64 a0_11), (.int .u64 a0_12)]), (.int .u8 a1), (.int .i64 a2)] m lv = some (((fun p => ([(.agg [(.bool a0_0), (.int .u64 a0_1), (.int .u64 a0_2), (.str (bs a0_3)), (.str (bs a0_4)), (.str (bs a0_5)), (.int .i64 p.1), (.int .i64 p.2.1), (.int .i64 p.2.2.1), (.int .i64 p.2.2.2.1), (.int .i64 p.2.2.2.2.1), (.int .i64 p.2.2.2.2.2), (.int .u64 a0_12)])], m)) : _ → List AV × Mem) r) := by
 revert r
 show Ok _ _
 unfold r06_with
 repeat' (with_reducible first | (refine Ok.ite (fun hc => ?_) (fun hc => ?_) <;> try subst hc))
 all_goals (refine Ok.some (call_go rfl rfl rfl ?_); simp [F86, *])
theorem r06_take_call {N : Nat} {a0 a1 : Int} {a2_0 : Bool} {a2_1 a2_2 : Int} {a2_3 a2_4 a2_5 : List UInt8} {a2_6 a2_7 a2_8 a2_9 a2_10 a2_11 a2_12 : Int} {a3 a4 : List UInt8} {r : Bool × Int × Int × List UInt8 × List UInt8 × List UInt8 × Int × Int × Int × Int × Int × Int × Int} (h : r06_take N a0 a1 a2_0 a2_1 a2_2 a2_3 a2_4 a2_5 a2_6 a2_7 a2_8 a2_9 a2_10 a2_11 a2_12 a3 a4 = some r) (m : Mem) (lv : Nat) : (sem T).call 35 [(.int .i64 a0), (.int .u8 a1), (.agg [(.bool a2_0), (.int .u64 a2_1), (.int .u64 a2_2), (.str (bs a2_3)), (.str (bs a2_4)), (.str (bs a2_5)), (.int .i64 a2_6), (.int .i64 a2_7), (.int .i64 a2_8), (.int .i64 a2_9), (.int .i64 a2_10), (.int .i64 a2_11), (.int .u64 a2_12)]), (.str (bs a3)), (.str (bs a4))] m lv = some (((fun p => ([(.agg [(.bool p.1), (.int .u64 p.2.1), (.int .u64 p.2.2.1), (.str (bs p.2.2.2.1)), (.str (bs p.2.2.2.2.1)), (.str (bs p.2.2.2.2.2.1)), (.int .i64 p.2.2.2.2.2.2.1), (.int .i64 p.2.2.2.2.2.2.2.1), (.int .i64 p.2.2.2.2.2.2.2.2.1), (.int .i64 p.2.2.2.2.2.2.2.2.2.1), (.int .i64 p.2.2.2.2.2.2.2.2.2.2.1), (.int .i64 p.2.2.2.2.2.2.2.2.2.2.2.1), (.int .u64 a2_12)]), (.int .i64 p.2.2.2.2.2.2.2.2.2.2.2.2)], m)) : _ → List AV × Mem) r) := by
 revert r
 show Ok _ _
 unfold r06_take
 repeat' (with_reducible first | (refine Ok.ite (fun hc => ?_) (fun hc => ?_) <;> try subst hc) | (refine Ok.bind (fun _ h => ?_); ((first | have h := r01_Parse_call h | have h := r02_Parse_call h | have h := r05_Type_call h | have h := r06_Unhex_call h | have h := r06_numeral_call h | have h := r06_with_call h | skip); try simp only [List.map_nil, List.map_cons, sRow, iRow, bRow, eRow] at h)))
 all_goals (refine Ok.some (call_go rfl rfl rfl ?_); simp [F35, *])
theorem r06_Parse_L0_ok (N : Nat) (m : Mem) (lv : Nat) : ∀ (n : Nat) (p0 : Int) (p1 : List (List UInt8)) (p2 p3 : List UInt8) (p4 : Int) (p5 : Bool) (p6 p7 : Int) (p8 p9 p10 : List UInt8) (p11 p12 p13 p14 p15 p16 p17 : Int) (p18 : Bool) (p19 p20 : Int) (p21 p22 p23 : List UInt8) (p24 p25 p26 p27 p28 p29 p30 : Int), Ok (r06_Parse_L0 N n p0 p1 p2 p3 p4 p5 p6 p7 p8 p9 p10 p11 p12 p13 p14 p15 p16 p17 p18 p19 p20 p21 p22 p23 p24 p25 p26 p27 p28 p29 p30) (fun r => ∀ s : St, s.mask [0, 1, 2, 6, 8, 9, 10] [6, 9] = some ⟨85, lv, tmOf [(0, (.int .i64 p0)), (1, (.sl none 1 (List.map sRow p1))), (2, (.str (bs p2))), (6, (.ptr lv 6 0)), (8, (.str (bs p3))), (9, (.ptr lv 9 0)), (10, (.int .i64 p4))], bxOf [(6, some (.cells 26 [(.bool p5), (.int .u64 p6), (.int .u64 p7), (.str (bs p8)), (.str (bs p9)), (.str (bs p10)), (.int .i64 p11), (.int .i64 p12), (.int .i64 p13), (.int .i64 p14), (.int .i64 p15), (.int .i64 p16), (.int .u64 p17)])), (9, some (.cells 26 [(.bool p18), (.int .u64 p19), (.int .u64 p20), (.str (bs p21)), (.str (bs p22)), (.str (bs p23)), (.int .i64 p24), (.int .i64 p25), (.int .i64 p26), (.int .i64 p27), (.int .i64 p28), (.int .i64 p29), (.int .u64 p30)]))], m⟩ → (sem T).loop [0, 1, 2, 6, 8, 9, 10] [6, 9] L13_0 s = some ((O2.el (fun p => (.ret, ⟨85, lv, tmOf [(6, (.ptr lv 6 0)), (7, (.int .i64 p.1))], bxOf [(6, some (.cells 26 [(.bool p.2.1), (.int .u64 p.2.2.1), (.int .u64 p.2.2.2.1), (.str (bs p.2.2.2.2.1)), (.str (bs p.2.2.2.2.2.1)), (.str (bs p.2.2.2.2.2.2.1)), (.int .i64 p.2.2.2.2.2.2.2.1), (.int .i64 p.2.2.2.2.2.2.2.2.1), (.int .i64 p.2.2.2.2.2.2.2.2.2.1), (.int .i64 p.2.2.2.2.2.2.2.2.2.2.1), (.int .i64 p.2.2.2.2.2.2.2.2.2.2.2.1), (.int .i64 p.2.2.2.2.2.2.2.2.2.2.2.2.1), (.int .u64 p.2.2.2.2.2.2.2.2.2.2.2.2.2)]))], m⟩)) (fun p => (.ex 0, ⟨85, lv, tmOf [(0, (.int .i64 p0)), (1, (.sl none 1 (List.map sRow p1))), (6, (.ptr lv 6 0)), (8, (.str (bs p3))), (9, (.ptr lv 9 0))], bxOf [(6, some (.cells 26 [(.bool p5), (.int .u64 p6), (.int .u64 p7), (.str (bs p8)), (.str (bs p9)), (.str (bs p10)), (.int .i64 p11), (.int .i64 p12), (.int .i64 p13), (.int .i64 p14), (.int .i64 p15), (.int .i64 p16), (.int .u64 p17)])), (9, some (.cells 26 [(.bool p.1), (.int .u64 p.2.1), (.int .u64 p.2.2.1), (.str (bs p.2.2.2.1)), (.str (bs p.2.2.2.2.1)), (.str (bs p.2.2.2.2.2.1)), (.int .i64 p.2.2.2.2.2.2.1), (.int .i64 p.2.2.2.2.2.2.2.1), (.int .i64 p.2.2.2.2.2.2.2.2.1), (.int .i64 p.2.2.2.2.2.2.2.2.2.1), (.int .i64 p.2.2.2.2.2.2.2.2.2.2.1), (.int .i64 p.2.2.2.2.2.2.2.2.2.2.2.1), (.int .u64 p.2.2.2.2.2.2.2.2.2.2.2.2)]))], m⟩)) : _ → Fl × St) r))
 | 0, _, _, _, _, _, _, _, _, _, _, _, _, _, _, _, _, _, _, _, _, _, _, _, _, _, _, _, _, _, _, _ => Ok.none
 | n + 1, p0, p1, p2, p3, p4, p5, p6, p7, p8, p9, p10, p11, p12, p13, p14, p15, p16, p17, p18, p19, p20, p21, p22, p23, p24, p25, p26, p27, p28, p29, p30 => by
   unfold r06_Parse_L0
   repeat' (with_reducible first | (refine Ok.ite (fun hc => ?_) (fun hc => ?_) <;> try subst hc) | (refine Ok.bind (fun _ h => ?_); ((first | have h := r06_set_call h | have h := r06_take_call h | skip); try simp only [List.map_nil, List.map_cons, sRow, iRow, bRow, eRow] at h)))
   all_goals first
    | (refine Ok.some (fun s hs => loop_end hs ?_ (by intro e; cases e)); simp [L13_0, *]; done)
    | (refine fun r hr s hs => loop_round hs ?_ (r06_Parse_L0_ok N m lv n _ _ _ _ _ _ _ _ _ _ _ _ _ _ _ _ _ _ _ _ _ _ _ _ _ _ _ _ _ _ _ r hr); simp [L13_0, *]; done)
theorem r06_Parse_call {N : Nat} {a0 : Int} {a1 : List (List UInt8)} {a2 : List UInt8} {r : Bool × Int × Int × List UInt8 × List UInt8 × List UInt8 × Int × Int × Int × Int × Int × Int × Int × Int} (h : r06_Parse N a0 a1 a2 = some r) (m : Mem) (lv : Nat) : (sem T).call 13 [(.int .i64 a0), (.sl none 1 (List.map sRow a1)), (.str (bs a2))] m lv = some (((fun p => ([(.agg [(.bool p.1), (.int .u64 p.2.1), (.int .u64 p.2.2.1), (.str (bs p.2.2.2.1)), (.str (bs p.2.2.2.2.1)), (.str (bs p.2.2.2.2.2.1)), (.int .i64 p.2.2.2.2.2.2.1), (.int .i64 p.2.2.2.2.2.2.2.1), (.int .i64 p.2.2.2.2.2.2.2.2.1), (.int .i64 p.2.2.2.2.2.2.2.2.2.1), (.int .i64 p.2.2.2.2.2.2.2.2.2.2.1), (.int .i64 p.2.2.2.2.2.2.2.2.2.2.2.1), (.int .u64 p.2.2.2.2.2.2.2.2.2.2.2.2.1)]), (.int .i64 p.2.2.2.2.2.2.2.2.2.2.2.2.2)], m)) : _ → List AV × Mem) r) := by
 revert r
 show Ok _ _
 unfold r06_Parse
 repeat' (with_reducible first | (refine Ok.ite (fun hc => ?_) (fun hc => ?_) <;> try subst hc) | (refine Ok.bind2 (fun _ h => ?_) (fun _ h => ?_) <;> ((first | have h := r05_Known_call h | have h := r05_Valid_call h | have h := r06_Fields_call h | have h := (r06_Parse_L0_ok N m lv _ _ _ _ _ _ _ _ _ _ _ _ _ _ _ _ _ _ _ _ _ _ _ _ _ _ _ _ _ _ _ _).of h | skip); try simp only [List.map_nil, List.map_cons, sRow, iRow, bRow, eRow] at h)) | (refine Ok.bind (fun _ h => ?_); ((first | have h := r05_Known_call h | have h := r05_Valid_call h | have h := r06_Fields_call h | have h := (r06_Parse_L0_ok N m lv _ _ _ _ _ _ _ _ _ _ _ _ _ _ _ _ _ _ _ _ _ _ _ _ _ _ _ _ _ _ _ _).of h | skip); try simp only [List.map_nil, List.map_cons, sRow, iRow, bRow, eRow] at h)))
 all_goals (refine Ok.some (call_go rfl rfl rfl ?_); simp [F13, *])
end Go.Ev
