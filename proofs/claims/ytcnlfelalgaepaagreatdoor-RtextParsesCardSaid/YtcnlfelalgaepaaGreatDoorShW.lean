/- ShT1, ShVa, ShVb, joined. Condition: each part's own. -/
import Derived.Test.YtcnlfelalgaepaaGreatDoorShD
import Derived.Test.YtcnlfelalgaepaaGreatDoorRsL
/- The evaluator's texts answer as the plain functions. Condition: none. -/
namespace Go.Ev
set_option linter.all false
set_option maxRecDepth 10000
set_option maxHeartbeats 8000000
theorem rdata_kinds_call {N : Nat} {r : List Rw3} (h : rdata_kinds N = some r) (m : Mem) (lv : Nat) : (sem T).call 87 [] m lv = some (((fun p => ([(.sl (some 61) 3 (List.map Rw3E p))], m)) : _ → List AV × Mem) r) := by
 revert r
 show Ok _ _
 unfold rdata_kinds
 repeat' (with_reducible first | (refine Ok.ite (fun hc => ?_) (fun hc => ?_) <;> try subst hc))
 all_goals (refine Ok.some (call_go rfl rfl rfl ?_); simp [F87, *])
theorem rdata_find_L0_ok (N : Nat) (m : Mem) (lv : Nat) : ∀ (n : Nat) (p0 : Int) (p1 : List Rw3) (p2 p3 p4 : Int) (p5 p6 : List UInt8), Ok (rdata_find_L0 N n p0 p1 p2 p3 p4 p5 p6) (fun r => ∀ s : St, s.mask [0, 2, 6, 7, 8] [2] = some ⟨19, lv, tmOf [(0, (.int .i64 p0)), (2, (.ptr lv 2 0)), (6, (.sl (some 61) 3 (List.map Rw3E p1))), (7, (.int .i64 p2)), (8, (.int .i64 p3))], bxOf [(2, some (.cells 61 [(.int .i64 p4), (.str (bs p5)), (.str (bs p6))]))], m⟩ → (sem T).loop [0, 2, 6, 7, 8] [2] L36_0 s = some ((O2.el (fun p => (.ret, ⟨19, lv, tmOf [(2, (.ptr lv 2 0)), (3, (.bool p.1))], bxOf [(2, some (.cells 61 [(.int .i64 p.2.1), (.str (bs p.2.2.1)), (.str (bs p.2.2.2))]))], m⟩)) (fun p => (.ex 0, ⟨19, lv, tmOf [(2, (.ptr lv 2 0))], bxOf [(2, some (.cells 61 [(.int .i64 p4), (.str (bs p5)), (.str (bs p6))]))], m⟩)) : _ → Fl × St) r))
 | 0, _, _, _, _, _, _, _ => Ok.none
 | n + 1, p0, p1, p2, p3, p4, p5, p6 => by
   unfold rdata_find_L0
   repeat' (with_reducible first | (refine Ok.ite (fun hc => ?_) (fun hc => ?_) <;> try subst hc) | (refine Ok.bind (fun _ h => ?_)))
   all_goals first
    | (refine Ok.some (fun s hs => loop_end hs ?_ (by intro e; cases e)); simp [L36_0, *]; done)
    | (refine fun r hr s hs => loop_round hs ?_ (rdata_find_L0_ok N m lv n _ _ _ _ _ _ _ r hr); simp [L36_0, *]; done)
theorem rdata_find_call {N : Nat} {a0 : Int} {r : Int × List UInt8 × List UInt8 × Bool} (h : rdata_find N a0 = some r) (m : Mem) (lv : Nat) : (sem T).call 36 [(.int .i64 a0)] m lv = some (((fun p => ([(.agg [(.int .i64 p.1), (.str (bs p.2.1)), (.str (bs p.2.2.1))]), (.bool p.2.2.2)], m)) : _ → List AV × Mem) r) := by
 revert r
 show Ok _ _
 unfold rdata_find
 repeat' (with_reducible first | (refine Ok.ite (fun hc => ?_) (fun hc => ?_) <;> try subst hc) | (refine Ok.bind2 (fun _ h => ?_) (fun _ h => ?_) <;> ((first | have h := rdata_kinds_call h | have h := (rdata_find_L0_ok N m lv _ _ _ _ _ _ _ _).of h | skip); try simp only [List.map_nil, List.map_cons, sRow, iRow, bRow, eRow] at h)) | (refine Ok.bind (fun _ h => ?_); ((first | have h := rdata_kinds_call h | have h := (rdata_find_L0_ok N m lv _ _ _ _ _ _ _ _).of h | skip); try simp only [List.map_nil, List.map_cons, sRow, iRow, bRow, eRow] at h)))
 all_goals (refine Ok.some (call_go rfl rfl rfl ?_); simp [F36, *])
theorem rdata_Known_call {N : Nat} {a0 : Int} {r : Bool} (h : rdata_Known N a0 = some r) (m : Mem) (lv : Nat) : (sem T).call 14 [(.int .i64 a0)] m lv = some (((fun p => ([(.bool p)], m)) : _ → List AV × Mem) r) := by
 revert r
 show Ok _ _
 unfold rdata_Known
 repeat' (with_reducible first | (refine Ok.ite (fun hc => ?_) (fun hc => ?_) <;> try subst hc) | (refine Ok.bind (fun _ h => ?_); ((first | have h := rdata_find_call h | skip); try simp only [List.map_nil, List.map_cons, sRow, iRow, bRow, eRow] at h)))
 all_goals (refine Ok.some (call_go rfl rfl rfl ?_); simp [F14, *])
theorem addr_Valid_call {N : Nat} {a0_0 : Bool} {a0_1 a0_2 : Int} {r : Bool} (h : addr_Valid N a0_0 a0_1 a0_2 = some r) (m : Mem) (lv : Nat) : (sem T).call 37 [(.agg [(.bool a0_0), (.int .u64 a0_1), (.int .u64 a0_2)])] m lv = some (((fun p => ([(.bool p)], m)) : _ → List AV × Mem) r) := by
 revert r
 show Ok _ _
 unfold addr_Valid
 repeat' (with_reducible first | (refine Ok.ite (fun hc => ?_) (fun hc => ?_) <;> try subst hc))
 all_goals (refine Ok.some (call_go rfl rfl rfl ?_); simp [F37, *])
theorem i_stringslite_HasSuffix_call {N : Nat} {a0 a1 : List UInt8} {r : Bool} (h : i_stringslite_HasSuffix N a0 a1 = some r) (m : Mem) (lv : Nat) : (sem T).call 89 [(.str (bs a0)), (.str (bs a1))] m lv = some (((fun p => ([(.bool p)], m)) : _ → List AV × Mem) r) := by
 revert r
 show Ok _ _
 unfold i_stringslite_HasSuffix
 repeat' (with_reducible first | (refine Ok.ite (fun hc => ?_) (fun hc => ?_) <;> try subst hc) | (refine Ok.bind (fun _ h => ?_)))
 all_goals (refine Ok.some (call_go rfl rfl rfl ?_); simp [F89, *])
theorem strings_HasSuffix_call {N : Nat} {a0 a1 : List UInt8} {r : Bool} (h : strings_HasSuffix N a0 a1 = some r) (m : Mem) (lv : Nat) : (sem T).call 43 [(.str (bs a0)), (.str (bs a1))] m lv = some (((fun p => ([(.bool p)], m)) : _ → List AV × Mem) r) := by
 revert r
 show Ok _ _
 unfold strings_HasSuffix
 repeat' (with_reducible first | (refine Ok.ite (fun hc => ?_) (fun hc => ?_) <;> try subst hc) | (refine Ok.bind (fun _ h => ?_); ((first | have h := i_stringslite_HasSuffix_call h | skip); try simp only [List.map_nil, List.map_cons, sRow, iRow, bRow, eRow] at h)))
 all_goals (refine Ok.some (call_go rfl rfl rfl ?_); simp [F43, *])
theorem i_stringslite_IndexByte_call {N : Nat} {a0 : List UInt8} {a1 : Int} {r : Int} (h : i_stringslite_IndexByte N a0 a1 = some r) (m : Mem) (lv : Nat) : (sem T).call 153 [(.str (bs a0)), (.int .u8 a1)] m lv = some (((fun p => ([(.int .i64 p)], m)) : _ → List AV × Mem) r) := by
 revert r
 show Ok _ _
 unfold i_stringslite_IndexByte
 repeat' (with_reducible first | (refine Ok.ite (fun hc => ?_) (fun hc => ?_) <;> try subst hc))
 all_goals (refine Ok.some (call_go rfl rfl rfl ?_); simp [F153, *])
theorem i_stringslite_Index_call {N : Nat} {a0 a1 : List UInt8} {r : Int} (h : i_stringslite_Index N a0 a1 = some r) (m : Mem) (lv : Nat) : (sem T).call 142 [(.str (bs a0)), (.str (bs a1))] m lv = some (((fun p => ([(.int .i64 p)], m)) : _ → List AV × Mem) r) := by
 revert r
 show Ok _ _
 unfold i_stringslite_Index
 repeat' (with_reducible first | (refine Ok.ite (fun hc => ?_) (fun hc => ?_) <;> try subst hc) | exact Ok.none | (refine Ok.bind (fun _ h => ?_); ((first | have h := i_stringslite_IndexByte_call h | skip); try simp only [List.map_nil, List.map_cons, sRow, iRow, bRow, eRow] at h)))
 all_goals (refine Ok.some (call_go rfl rfl rfl ?_); simp [F142, *])
theorem strings_Index_call {N : Nat} {a0 a1 : List UInt8} {r : Int} (h : strings_Index N a0 a1 = some r) (m : Mem) (lv : Nat) : (sem T).call 117 [(.str (bs a0)), (.str (bs a1))] m lv = some (((fun p => ([(.int .i64 p)], m)) : _ → List AV × Mem) r) := by
 revert r
 show Ok _ _
 unfold strings_Index
 repeat' (with_reducible first | (refine Ok.ite (fun hc => ?_) (fun hc => ?_) <;> try subst hc) | (refine Ok.bind (fun _ h => ?_); ((first | have h := i_stringslite_Index_call h | skip); try simp only [List.map_nil, List.map_cons, sRow, iRow, bRow, eRow] at h)))
 all_goals (refine Ok.some (call_go rfl rfl rfl ?_); simp [F117, *])
theorem strings_Count_L0_ok (N : Nat) (m : Mem) (lv : Nat) : ∀ (n : Nat) (p0 p1 : List UInt8) (p2 : Int), Ok (strings_Count_L0 N n p0 p1 p2) (fun r => ∀ s : St, s.mask [0, 1, 5] [] = some ⟨34, lv, tmOf [(0, (.str (bs p0))), (1, (.str (bs p1))), (5, (.int .i64 p2))], bxOf [], m⟩ → (sem T).loop [0, 1, 5] [] L116_0 s = some (((fun p => (.ret, ⟨34, lv, tmOf [(4, (.int .i64 p))], bxOf [], m⟩)) : _ → Fl × St) r))
 | 0, _, _, _ => Ok.none
 | n + 1, p0, p1, p2 => by
   unfold strings_Count_L0
   repeat' (with_reducible first | (refine Ok.ite (fun hc => ?_) (fun hc => ?_) <;> try subst hc) | (refine Ok.bind (fun _ h => ?_); ((first | have h := strings_Index_call h | skip); try simp only [List.map_nil, List.map_cons, sRow, iRow, bRow, eRow] at h)))
   all_goals first
    | (refine Ok.some (fun s hs => loop_end hs ?_ (by intro e; cases e)); simp [L116_0, *]; done)
    | (refine fun r hr s hs => loop_round hs ?_ (strings_Count_L0_ok N m lv n _ _ _ r hr); simp [L116_0, *]; done)
theorem strings_Count_call {N : Nat} {a0 a1 : List UInt8} {r : Int} (h : strings_Count N a0 a1 = some r) (m : Mem) (lv : Nat) : (sem T).call 116 [(.str (bs a0)), (.str (bs a1))] m lv = some (((fun p => ([(.int .i64 p)], m)) : _ → List AV × Mem) r) := by
 revert r
 show Ok _ _
 unfold strings_Count
 repeat' (with_reducible first | (refine Ok.ite (fun hc => ?_) (fun hc => ?_) <;> try subst hc) | exact Ok.none | (refine Ok.bind (fun _ h => ?_); ((first | have h := (strings_Count_L0_ok N m lv _ _ _ _).of h | skip); try simp only [List.map_nil, List.map_cons, sRow, iRow, bRow, eRow] at h)))
 all_goals (refine Ok.some (call_go rfl rfl rfl ?_); simp [F116, *])
theorem strings_genSplit_L0_ok (N : Nat) (m : Mem) (lv : Nat) : ∀ (n : Nat) (p0 p1 : List UInt8) (p2 p3 : Int) (p4 : List (List UInt8)) (p5 : Int), Ok (strings_genSplit_L0 N n p0 p1 p2 p3 p4 p5) (fun r => ∀ s : St, s.mask [0, 1, 2, 3, 9, 10] [31] = some ⟨66, lv, tmOf [(0, (.str (bs p0))), (1, (.str (bs p1))), (2, (.int .i64 p2)), (3, (.int .i64 p3)), (9, (.sl none 1 (List.map sRow p4))), (10, (.int .i64 p5))], bxOf [], m⟩ → (sem T).loop [0, 1, 2, 3, 9, 10] [31] L90_0 s = some (((fun p => (.ex 0, ⟨66, lv, tmOf [(0, (.str (bs p0))), (9, (.sl none 1 (List.map sRow p4))), (10, (.int .i64 p5))], bxOf [], m⟩)) : _ → Fl × St) r))
 | 0, _, _, _, _, _, _ => Ok.none
 | n + 1, p0, p1, p2, p3, p4, p5 => by
   unfold strings_genSplit_L0
   repeat' (with_reducible first | (refine Ok.ite (fun hc => ?_) (fun hc => ?_) <;> try subst hc) | exact Ok.none | (refine Ok.bind (fun _ h => ?_); ((first | have h := strings_Index_call h | skip); try simp only [List.map_nil, List.map_cons, sRow, iRow, bRow, eRow] at h)))
   all_goals first
    | (refine Ok.some (fun s hs => loop_end hs ?_ (by intro e; cases e)); simp [L90_0, *]; done)
    | (refine fun r hr s hs => loop_round hs ?_ (strings_genSplit_L0_ok N m lv n _ _ _ _ _ _ r hr); simp [L90_0, *]; done)
theorem strings_genSplit_L0b_ok (N : Nat) (m : Mem) (lv : Nat) : ∀ (n : Nat) (p0 p1 : List UInt8) (p2 p3 : Int) (p4 : Nat) (p5 : Int) (p6 : List (List UInt8)), Ok (strings_genSplit_L0b N n p0 p1 p2 p3 p4 p5 p6) (fun r => ∀ s : St, s.mask [0, 1, 2, 3, 9, 10] [31] = some ⟨66, lv, tmOf [(0, (.str (bs p0))), (1, (.str (bs p1))), (2, (.int .i64 p2)), (3, (.int .i64 p3)), (9, (.win lv 31 0 p4 1)), (10, (.int .i64 p5))], bxOf [(31, some (.cells 9 (fl sRow p6)))], m⟩ → (sem T).loop [0, 1, 2, 3, 9, 10] [31] L90_0 s = some (((fun p => (.ex 0, ⟨66, lv, tmOf [(0, (.str (bs p.1))), (9, (.win lv 31 0 p4 1)), (10, (.int .i64 p.2.1))], bxOf [(31, some (.cells 9 (fl sRow p.2.2)))], m⟩)) : _ → Fl × St) r))
 | 0, _, _, _, _, _, _, _ => Ok.none
 | n + 1, p0, p1, p2, p3, p4, p5, p6 => by
   unfold strings_genSplit_L0b
   repeat' (with_reducible first | (refine Ok.ite (fun hc => ?_) (fun hc => ?_) <;> try subst hc) | exact Ok.none | (refine Ok.bind (fun _ h => ?_); ((first | have h := strings_Index_call h | skip); try simp only [List.map_nil, List.map_cons, sRow, iRow, bRow, eRow] at h)))
   all_goals first
    | (refine Ok.some (fun s hs => loop_end hs ?_ (by intro e; cases e)); simp [L90_0, *]; done)
    | (refine fun r hr s hs => loop_round hs ?_ (strings_genSplit_L0b_ok N m lv n _ _ _ _ _ _ _ r hr); simp [L90_0, *]; done)
theorem strings_genSplit_call {N : Nat} {a0 a1 : List UInt8} {a2 a3 : Int} {r : O2 (List (List UInt8)) (List (List UInt8))} (h : strings_genSplit N a0 a1 a2 a3 = some r) (m : Mem) (lv : Nat) : (sem T).call 90 [(.str (bs a0)), (.str (bs a1)), (.int .i64 a2), (.int .i64 a3)] m lv = some ((O2.el (fun p => ([(.sl (some 9) 1 (List.map sRow p))], m)) (fun p => ([(.sl none 1 (List.map sRow p))], m)) : _ → List AV × Mem) r) := by
 revert r
 show Ok _ _
 unfold strings_genSplit
 repeat' (with_reducible first | (refine Ok.ite (fun hc => ?_) (fun hc => ?_) <;> try subst hc) | exact Ok.none | (refine Ok.bind (fun _ h => ?_); ((first | have h := strings_Count_call h | have h := (strings_genSplit_L0_ok N m lv _ _ _ _ _ _ _).of h | have h := (strings_genSplit_L0b_ok N m lv _ _ _ _ _ _ _ _).of h | skip); try simp only [List.map_nil, List.map_cons, sRow, iRow, bRow, eRow] at h)))
 all_goals (refine Ok.some (call_go rfl rfl rfl ?_); simp [F90, *])
theorem strings_Split_call {N : Nat} {a0 a1 : List UInt8} {r : O2 (List (List UInt8)) (List (List UInt8))} (h : strings_Split N a0 a1 = some r) (m : Mem) (lv : Nat) : (sem T).call 44 [(.str (bs a0)), (.str (bs a1))] m lv = some ((O2.el (fun p => ([(.sl (some 9) 1 (List.map sRow p))], m)) (fun p => ([(.sl none 1 (List.map sRow p))], m)) : _ → List AV × Mem) r) := by
 revert r
 show Ok _ _
 unfold strings_Split
 repeat' (with_reducible first | (refine Ok.ite (fun hc => ?_) (fun hc => ?_) <;> try subst hc) | (refine Ok.bind2 (fun _ h => ?_) (fun _ h => ?_) <;> ((first | have h := strings_genSplit_call h | skip); try simp only [List.map_nil, List.map_cons, sRow, iRow, bRow, eRow] at h)))
 all_goals (refine Ok.some (call_go rfl rfl rfl ?_); simp [F44, *])
theorem dname_ordinary_L0_ok (N : Nat) (m : Mem) (lv : Nat) : ∀ (n : Nat) (p0 : List UInt8) (p1 p2 : Int), Ok (dname_ordinary_L0 N n p0 p1 p2) (fun r => ∀ s : St, s.mask [0, 13, 14] [] = some ⟨43, lv, tmOf [(0, (.str (bs p0))), (13, (.int .i64 p1)), (14, (.int .i64 p2))], bxOf [], m⟩ → (sem T).loop [0, 13, 14] [] L45_0 s = some ((O2.el (fun p => (.ret, ⟨43, lv, tmOf [(2, (.bool p))], bxOf [], m⟩)) (fun p => (.ex 0, ⟨43, lv, tmOf [], bxOf [], m⟩)) : _ → Fl × St) r))
 | 0, _, _, _ => Ok.none
 | n + 1, p0, p1, p2 => by
   unfold dname_ordinary_L0
   repeat' (with_reducible first | (refine Ok.ite (fun hc => ?_) (fun hc => ?_) <;> try subst hc) | (refine Ok.bind (fun _ h => ?_)))
   all_goals first
    | (refine Ok.some (fun s hs => loop_end hs ?_ (by intro e; cases e)); simp [L45_0, *]; done)
    | (refine fun r hr s hs => loop_round hs ?_ (dname_ordinary_L0_ok N m lv n _ _ _ r hr); simp [L45_0, *]; done)
theorem dname_ordinary_call {N : Nat} {a0 : List UInt8} {r : Bool} (h : dname_ordinary N a0 = some r) (m : Mem) (lv : Nat) : (sem T).call 45 [(.str (bs a0))] m lv = some (((fun p => ([(.bool p)], m)) : _ → List AV × Mem) r) := by
 revert r
 show Ok _ _
 unfold dname_ordinary
 repeat' (with_reducible first | (refine Ok.ite (fun hc => ?_) (fun hc => ?_) <;> try subst hc) | (refine Ok.bind2 (fun _ h => ?_) (fun _ h => ?_) <;> ((first | have h := (dname_ordinary_L0_ok N m lv _ _ _ _).of h | skip); try simp only [List.map_nil, List.map_cons, sRow, iRow, bRow, eRow] at h)))
 all_goals (refine Ok.some (call_go rfl rfl rfl ?_); simp [F45, *])
theorem dname_Valid_L0_ok (N : Nat) (m : Mem) (lv : Nat) : ∀ (n : Nat) (p0 : List (List UInt8)) (p1 p2 : Int), Ok (dname_Valid_L0 N n p0 p1 p2) (fun r => ∀ s : St, s.mask [20, 21, 22] [] = some ⟨39, lv, tmOf [(20, (.sl (some 9) 1 (List.map sRow p0))), (21, (.int .i64 p1)), (22, (.int .i64 p2))], bxOf [], m⟩ → (sem T).loop [20, 21, 22] [] L16_0 s = some ((O2.el (fun p => (.ret, ⟨39, lv, tmOf [(2, (.bool p))], bxOf [], m⟩)) (fun p => (.ex 0, ⟨39, lv, tmOf [], bxOf [], m⟩)) : _ → Fl × St) r))
 | 0, _, _, _ => Ok.none
 | n + 1, p0, p1, p2 => by
   unfold dname_Valid_L0
   repeat' (with_reducible first | (refine Ok.ite (fun hc => ?_) (fun hc => ?_) <;> try subst hc) | (refine Ok.bind (fun _ h => ?_); ((first | have h := dname_ordinary_call h | skip); try simp only [List.map_nil, List.map_cons, sRow, iRow, bRow, eRow] at h)))
   all_goals first
    | (refine Ok.some (fun s hs => loop_end hs ?_ (by intro e; cases e)); simp [L16_0, *]; done)
    | (refine fun r hr s hs => loop_round hs ?_ (dname_Valid_L0_ok N m lv n _ _ _ r hr); simp [L16_0, *]; done)
theorem dname_Valid_L0b_ok (N : Nat) (m : Mem) (lv : Nat) : ∀ (n : Nat) (p0 : List (List UInt8)) (p1 p2 : Int), Ok (dname_Valid_L0b N n p0 p1 p2) (fun r => ∀ s : St, s.mask [20, 21, 22] [] = some ⟨39, lv, tmOf [(20, (.sl none 1 (List.map sRow p0))), (21, (.int .i64 p1)), (22, (.int .i64 p2))], bxOf [], m⟩ → (sem T).loop [20, 21, 22] [] L16_0 s = some ((O2.el (fun p => (.ret, ⟨39, lv, tmOf [(2, (.bool p))], bxOf [], m⟩)) (fun p => (.ex 0, ⟨39, lv, tmOf [], bxOf [], m⟩)) : _ → Fl × St) r))
 | 0, _, _, _ => Ok.none
 | n + 1, p0, p1, p2 => by
   unfold dname_Valid_L0b
   repeat' (with_reducible first | (refine Ok.ite (fun hc => ?_) (fun hc => ?_) <;> try subst hc) | (refine Ok.bind (fun _ h => ?_); ((first | have h := dname_ordinary_call h | skip); try simp only [List.map_nil, List.map_cons, sRow, iRow, bRow, eRow] at h)))
   all_goals first
    | (refine Ok.some (fun s hs => loop_end hs ?_ (by intro e; cases e)); simp [L16_0, *]; done)
    | (refine fun r hr s hs => loop_round hs ?_ (dname_Valid_L0b_ok N m lv n _ _ _ r hr); simp [L16_0, *]; done)
theorem dname_Valid_call {N : Nat} {a0 : List UInt8} {r : Bool} (h : dname_Valid N a0 = some r) (m : Mem) (lv : Nat) : (sem T).call 16 [(.str (bs a0))] m lv = some (((fun p => ([(.bool p)], m)) : _ → List AV × Mem) r) := by
 revert r
 show Ok _ _
 unfold dname_Valid
 repeat' (with_reducible first | (refine Ok.ite (fun hc => ?_) (fun hc => ?_) <;> try subst hc) | (refine Ok.bind2 (fun _ h => ?_) (fun _ h => ?_) <;> ((first | have h := strings_HasSuffix_call h | have h := strings_Split_call h | have h := (dname_Valid_L0_ok N m lv _ _ _ _).of h | have h := (dname_Valid_L0b_ok N m lv _ _ _ _).of h | skip); try simp only [List.map_nil, List.map_cons, sRow, iRow, bRow, eRow] at h)) | (refine Ok.bind (fun _ h => ?_); ((first | have h := strings_HasSuffix_call h | have h := strings_Split_call h | have h := (dname_Valid_L0_ok N m lv _ _ _ _).of h | have h := (dname_Valid_L0b_ok N m lv _ _ _ _).of h | skip); try simp only [List.map_nil, List.map_cons, sRow, iRow, bRow, eRow] at h)))
 all_goals (refine Ok.some (call_go rfl rfl rfl ?_); simp [F16, *])
theorem i_stringslite_HasPrefix_call {N : Nat} {a0 a1 : List UInt8} {r : Bool} (h : i_stringslite_HasPrefix N a0 a1 = some r) (m : Mem) (lv : Nat) : (sem T).call 114 [(.str (bs a0)), (.str (bs a1))] m lv = some (((fun p => ([(.bool p)], m)) : _ → List AV × Mem) r) := by
 revert r
 show Ok _ _
 unfold i_stringslite_HasPrefix
 repeat' (with_reducible first | (refine Ok.ite (fun hc => ?_) (fun hc => ?_) <;> try subst hc) | (refine Ok.bind (fun _ h => ?_)))
 all_goals (refine Ok.some (call_go rfl rfl rfl ?_); simp [F114, *])
theorem strings_HasPrefix_call {N : Nat} {a0 a1 : List UInt8} {r : Bool} (h : strings_HasPrefix N a0 a1 = some r) (m : Mem) (lv : Nat) : (sem T).call 88 [(.str (bs a0)), (.str (bs a1))] m lv = some (((fun p => ([(.bool p)], m)) : _ → List AV × Mem) r) := by
 revert r
 show Ok _ _
 unfold strings_HasPrefix
 repeat' (with_reducible first | (refine Ok.ite (fun hc => ?_) (fun hc => ?_) <;> try subst hc) | (refine Ok.bind (fun _ h => ?_); ((first | have h := i_stringslite_HasPrefix_call h | skip); try simp only [List.map_nil, List.map_cons, sRow, iRow, bRow, eRow] at h)))
 all_goals (refine Ok.some (call_go rfl rfl rfl ?_); simp [F88, *])
theorem rdata_host_call {N : Nat} {a0 : List UInt8} {r : Bool} (h : rdata_host N a0 = some r) (m : Mem) (lv : Nat) : (sem T).call 38 [(.str (bs a0))] m lv = some (((fun p => ([(.bool p)], m)) : _ → List AV × Mem) r) := by
 revert r
 show Ok _ _
 unfold rdata_host
 repeat' (with_reducible first | (refine Ok.ite (fun hc => ?_) (fun hc => ?_) <;> try subst hc) | (refine Ok.bind (fun _ h => ?_); ((first | have h := dname_Valid_call h | have h := strings_HasPrefix_call h | skip); try simp only [List.map_nil, List.map_cons, sRow, iRow, bRow, eRow] at h)))
 all_goals (refine Ok.some (call_go rfl rfl rfl ?_); simp [F38, *])
theorem serial_Valid_call {N : Nat} {a0 : Int} {r : Bool} (h : serial_Valid N a0 = some r) (m : Mem) (lv : Nat) : (sem T).call 39 [(.int .i64 a0)] m lv = some (((fun p => ([(.bool p)], m)) : _ → List AV × Mem) r) := by
 revert r
 show Ok _ _
 unfold serial_Valid
 repeat' (with_reducible first | (refine Ok.ite (fun hc => ?_) (fun hc => ?_) <;> try subst hc))
 all_goals (refine Ok.some (call_go rfl rfl rfl ?_); simp [F39, *])
theorem rdata_within_call {N : Nat} {a0 a1 : Int} {r : Bool} (h : rdata_within N a0 a1 = some r) (m : Mem) (lv : Nat) : (sem T).call 40 [(.int .i64 a0), (.int .i64 a1)] m lv = some (((fun p => ([(.bool p)], m)) : _ → List AV × Mem) r) := by
 revert r
 show Ok _ _
 unfold rdata_within
 repeat' (with_reducible first | (refine Ok.ite (fun hc => ?_) (fun hc => ?_) <;> try subst hc))
 all_goals (refine Ok.some (call_go rfl rfl rfl ?_); simp [F40, *])
theorem rdata_long_call {N : Nat} {a0 : List UInt8} {r : Bool} (h : rdata_long N a0 = some r) (m : Mem) (lv : Nat) : (sem T).call 41 [(.str (bs a0))] m lv = some (((fun p => ([(.bool p)], m)) : _ → List AV × Mem) r) := by
 revert r
 show Ok _ _
 unfold rdata_long
 repeat' (with_reducible first | (refine Ok.ite (fun hc => ?_) (fun hc => ?_) <;> try subst hc))
 all_goals (refine Ok.some (call_go rfl rfl rfl ?_); simp [F41, *])
theorem rdata_all_L0_ok (N : Nat) (m : Mem) (lv : Nat) : ∀ (n : Nat) (p0 : Int) (p1 : List Rw3) (p2 p3 : Int), Ok (rdata_all_L0 N n p0 p1 p2 p3) (fun r => ∀ s : St, s.mask [1, 4, 5, 6] [] = some ⟨17, lv, tmOf [(1, (.int .u64 p0)), (4, (.sl (some 61) 3 (List.map Rw3E p1))), (5, (.int .i64 p2)), (6, (.int .i64 p3))], bxOf [], m⟩ → (sem T).loop [1, 4, 5, 6] [] L42_0 s = some (((fun p => (.ex 0, ⟨17, lv, tmOf [(1, (.int .u64 p))], bxOf [], m⟩)) : _ → Fl × St) r))
 | 0, _, _, _, _ => Ok.none
 | n + 1, p0, p1, p2, p3 => by
   unfold rdata_all_L0
   repeat' (with_reducible first | (refine Ok.ite (fun hc => ?_) (fun hc => ?_) <;> try subst hc) | (refine Ok.bind (fun _ h => ?_)))
   all_goals first
    | (refine Ok.some (fun s hs => loop_end hs ?_ (by intro e; cases e)); simp [L42_0, *]; done)
    | (refine fun r hr s hs => loop_round hs ?_ (rdata_all_L0_ok N m lv n _ _ _ _ r hr); simp [L42_0, *]; done)
theorem rdata_all_call {N : Nat} {r : Int} (h : rdata_all N = some r) (m : Mem) (lv : Nat) : (sem T).call 42 [] m lv = some (((fun p => ([(.int .u64 p)], m)) : _ → List AV × Mem) r) := by
 revert r
 show Ok _ _
 unfold rdata_all
 repeat' (with_reducible first | (refine Ok.ite (fun hc => ?_) (fun hc => ?_) <;> try subst hc) | (refine Ok.bind (fun _ h => ?_); ((first | have h := rdata_kinds_call h | have h := (rdata_all_L0_ok N m lv _ _ _ _ _).of h | skip); try simp only [List.map_nil, List.map_cons, sRow, iRow, bRow, eRow] at h)))
 all_goals (refine Ok.some (call_go rfl rfl rfl ?_); simp [F42, *])
theorem r05_Mnemonic_call {N : Nat} {a0 : Int} {r : List UInt8} (h : r05_Mnemonic N a0 = some r) (m : Mem) (lv : Nat) : (sem T).call 27 [(.int .i64 a0)] m lv = some (((fun p => ([(.str (bs p))], m)) : _ → List AV × Mem) r) := by
 revert r
 show Ok _ _
 unfold r05_Mnemonic
 repeat' (with_reducible first | (refine Ok.ite (fun hc => ?_) (fun hc => ?_) <;> try subst hc))
 all_goals (refine Ok.some (call_go rfl rfl rfl ?_); simp [F27, *])
theorem r05_Known_call {N : Nat} {a0 : Int} {r : Bool} (h : r05_Known N a0 = some r) (m : Mem) (lv : Nat) : (sem T).call 22 [(.int .i64 a0)] m lv = some (((fun p => ([(.bool p)], m)) : _ → List AV × Mem) r) := by
 revert r
 show Ok _ _
 unfold r05_Known
 repeat' (with_reducible first | (refine Ok.ite (fun hc => ?_) (fun hc => ?_) <;> try subst hc) | (refine Ok.bind (fun _ h => ?_); ((first | have h := r05_Mnemonic_call h | skip); try simp only [List.map_nil, List.map_cons, sRow, iRow, bRow, eRow] at h)))
 all_goals (refine Ok.some (call_go rfl rfl rfl ?_); simp [F22, *])
theorem r05_used_call {N : Nat} {a0 : Int} {a1_0 : Bool} {a1_1 a1_2 : Int} {a1_3 a1_4 a1_5 : List UInt8} {a1_6 a1_7 a1_8 a1_9 a1_10 a1_11 a1_12 : Int} {r : Bool × Int × Int × List UInt8 × List UInt8 × List UInt8 × Int × Int × Int × Int × Int × Int × Int} (h : r05_used N a0 a1_0 a1_1 a1_2 a1_3 a1_4 a1_5 a1_6 a1_7 a1_8 a1_9 a1_10 a1_11 a1_12 = some r) (m : Mem) (lv : Nat) : (sem T).call 52 [(.int .i64 a0), (.agg [(.bool a1_0), (.int .u64 a1_1), (.int .u64 a1_2), (.str (bs a1_3)), (.str (bs a1_4)), (.str (bs a1_5)), (.int .i64 a1_6), (.int .i64 a1_7), (.int .i64 a1_8), (.int .i64 a1_9), (.int .i64 a1_10), (.int .i64 a1_11), (.int .u64 a1_12)])] m lv = some (((fun p => ([(.agg [(.bool p.1), (.int .u64 p.2.1), (.int .u64 p.2.2.1), (.str (bs p.2.2.2.1)), (.str (bs p.2.2.2.2.1)), (.str (bs p.2.2.2.2.2.1)), (.int .i64 p.2.2.2.2.2.2.1), (.int .i64 p.2.2.2.2.2.2.2.1), (.int .i64 p.2.2.2.2.2.2.2.2.1), (.int .i64 p.2.2.2.2.2.2.2.2.2.1), (.int .i64 p.2.2.2.2.2.2.2.2.2.2.1), (.int .i64 p.2.2.2.2.2.2.2.2.2.2.2.1), (.int .u64 p.2.2.2.2.2.2.2.2.2.2.2.2)])], m)) : _ → List AV × Mem) r) := by
 revert r
 show Ok _ _
 unfold r05_used
 repeat' (with_reducible first | (refine Ok.ite (fun hc => ?_) (fun hc => ?_) <;> try subst hc))
 all_goals (refine Ok.some (call_go rfl rfl rfl ?_); simp [F52, *])
theorem r02_Valid_call {N : Nat} {a0_0 : Bool} {a0_1 a0_2 : Int} {r : Bool} (h : r02_Valid N a0_0 a0_1 a0_2 = some r) (m : Mem) (lv : Nat) : (sem T).call 53 [(.agg [(.bool a0_0), (.int .u64 a0_1), (.int .u64 a0_2)])] m lv = some (((fun p => ([(.bool p)], m)) : _ → List AV × Mem) r) := by
 revert r
 show Ok _ _
 unfold r02_Valid
 repeat' (with_reducible first | (refine Ok.ite (fun hc => ?_) (fun hc => ?_) <;> try subst hc))
 all_goals (refine Ok.some (call_go rfl rfl rfl ?_); simp [F53, *])
theorem r01_isLabel_L0_ok (N : Nat) (m : Mem) (lv : Nat) : ∀ (n : Nat) (p0 : List UInt8) (p1 : Int), Ok (r01_isLabel_L0 N n p0 p1) (fun r => ∀ s : St, s.mask [0, 3] [] = some ⟨47, lv, tmOf [(0, (.str (bs p0))), (3, (.int .i64 p1))], bxOf [], m⟩ → (sem T).loop [0, 3] [] L123_0 s = some ((O2.el (fun p => (.ret, ⟨47, lv, tmOf [(2, (.bool p))], bxOf [], m⟩)) (fun p => (.ex 0, ⟨47, lv, tmOf [], bxOf [], m⟩)) : _ → Fl × St) r))
 | 0, _, _ => Ok.none
 | n + 1, p0, p1 => by
   unfold r01_isLabel_L0
   repeat' (with_reducible first | (refine Ok.ite (fun hc => ?_) (fun hc => ?_) <;> try subst hc) | (refine Ok.bind (fun _ h => ?_)))
   all_goals first
    | (refine Ok.some (fun s hs => loop_end hs ?_ (by intro e; cases e)); simp [L123_0, *]; done)
    | (refine fun r hr s hs => loop_round hs ?_ (r01_isLabel_L0_ok N m lv n _ _ r hr); simp [L123_0, *]; done)
theorem r01_isLabel_call {N : Nat} {a0 : List UInt8} {r : Bool} (h : r01_isLabel N a0 = some r) (m : Mem) (lv : Nat) : (sem T).call 123 [(.str (bs a0))] m lv = some (((fun p => ([(.bool p)], m)) : _ → List AV × Mem) r) := by
 revert r
 show Ok _ _
 unfold r01_isLabel
 repeat' (with_reducible first | (refine Ok.ite (fun hc => ?_) (fun hc => ?_) <;> try subst hc) | (refine Ok.bind2 (fun _ h => ?_) (fun _ h => ?_) <;> ((first | have h := (r01_isLabel_L0_ok N m lv _ _ _).of h | skip); try simp only [List.map_nil, List.map_cons, sRow, iRow, bRow, eRow] at h)))
 all_goals (refine Ok.some (call_go rfl rfl rfl ?_); simp [F123, *])
theorem r01_split_L0_ok (N : Nat) (m : Mem) (lv : Nat) : ∀ (n : Nat) (p0 : List UInt8) (p1 : List (List UInt8)) (p2 p3 : Int), Ok (r01_split_L0 N n p0 p1 p2 p3) (fun r => ∀ s : St, s.mask [0, 4, 5, 6] [] = some ⟨58, lv, tmOf [(0, (.str (bs p0))), (4, (.sl (some 9) 1 (List.map sRow p1))), (5, (.int .i64 p2)), (6, (.int .i64 p3))], bxOf [], m⟩ → (sem T).loop [0, 4, 5, 6] [] L93_0 s = some ((O2.el (fun p => (.ret, ⟨58, lv, tmOf [(2, (.sl (some 9) 1 (List.map sRow p.1))), (3, (.bool p.2))], bxOf [], m⟩)) (fun p => (.ex 0, ⟨58, lv, tmOf [(4, (.sl (some 9) 1 (List.map sRow p)))], bxOf [], m⟩)) : _ → Fl × St) r))
 | 0, _, _, _, _ => Ok.none
 | n + 1, p0, p1, p2, p3 => by
   unfold r01_split_L0
   repeat' (with_reducible first | (refine Ok.ite (fun hc => ?_) (fun hc => ?_) <;> try subst hc) | exact Ok.none | (refine Ok.bind (fun _ h => ?_); ((first | have h := r01_isLabel_call h | skip); try simp only [List.map_nil, List.map_cons, sRow, iRow, bRow, eRow] at h)))
   all_goals first
    | (refine Ok.some (fun s hs => loop_end hs ?_ (by intro e; cases e)); simp [L93_0, *]; done)
    | (refine fun r hr s hs => loop_round hs ?_ (r01_split_L0_ok N m lv n _ _ _ _ r hr); simp [L93_0, *]; done)
theorem r01_split_call {N : Nat} {a0 : List UInt8} {r : List (List UInt8) × Bool} (h : r01_split N a0 = some r) (m : Mem) (lv : Nat) : (sem T).call 93 [(.str (bs a0))] m lv = some (((fun p => ([(.sl (some 9) 1 (List.map sRow p.1)), (.bool p.2)], m)) : _ → List AV × Mem) r) := by
 revert r
 show Ok _ _
 unfold r01_split
 repeat' (with_reducible first | (refine Ok.ite (fun hc => ?_) (fun hc => ?_) <;> try subst hc) | (refine Ok.bind2 (fun _ h => ?_) (fun _ h => ?_) <;> ((first | have h := (r01_split_L0_ok N m lv _ _ _ _ _).of h | skip); try simp only [List.map_nil, List.map_cons, sRow, iRow, bRow, eRow] at h)) | (refine Ok.bind (fun _ h => ?_); ((first | have h := (r01_split_L0_ok N m lv _ _ _ _ _).of h | skip); try simp only [List.map_nil, List.map_cons, sRow, iRow, bRow, eRow] at h)))
 all_goals (refine Ok.some (call_go rfl rfl rfl ?_); simp [F93, *])
theorem r01_Valid_call {N : Nat} {a0 : List UInt8} {r : Bool} (h : r01_Valid N a0 = some r) (m : Mem) (lv : Nat) : (sem T).call 58 [(.str (bs a0))] m lv = some (((fun p => ([(.bool p)], m)) : _ → List AV × Mem) r) := by
 revert r
 show Ok _ _
 unfold r01_Valid
 repeat' (with_reducible first | (refine Ok.ite (fun hc => ?_) (fun hc => ?_) <;> try subst hc) | (refine Ok.bind (fun _ h => ?_); ((first | have h := r01_split_call h | skip); try simp only [List.map_nil, List.map_cons, sRow, iRow, bRow, eRow] at h)))
 all_goals (refine Ok.some (call_go rfl rfl rfl ?_); simp [F58, *])
theorem r05_host_call {N : Nat} {a0 : List UInt8} {r : Bool} (h : r05_host N a0 = some r) (m : Mem) (lv : Nat) : (sem T).call 54 [(.str (bs a0))] m lv = some (((fun p => ([(.bool p)], m)) : _ → List AV × Mem) r) := by
 revert r
 show Ok _ _
 unfold r05_host
 repeat' (with_reducible first | (refine Ok.ite (fun hc => ?_) (fun hc => ?_) <;> try subst hc) | (refine Ok.bind (fun _ h => ?_); ((first | have h := r01_Valid_call h | skip); try simp only [List.map_nil, List.map_cons, sRow, iRow, bRow, eRow] at h)))
 all_goals (refine Ok.some (call_go rfl rfl rfl ?_); simp [F54, *])
theorem r04_Valid_call {N : Nat} {a0 : Int} {r : Bool} (h : r04_Valid N a0 = some r) (m : Mem) (lv : Nat) : (sem T).call 55 [(.int .i64 a0)] m lv = some (((fun p => ([(.bool p)], m)) : _ → List AV × Mem) r) := by
 revert r
 show Ok _ _
 unfold r04_Valid
 repeat' (with_reducible first | (refine Ok.ite (fun hc => ?_) (fun hc => ?_) <;> try subst hc))
 all_goals (refine Ok.some (call_go rfl rfl rfl ?_); simp [F55, *])
theorem r05_in_call {N : Nat} {a0 a1 : Int} {r : Bool} (h : r05_in N a0 a1 = some r) (m : Mem) (lv : Nat) : (sem T).call 56 [(.int .i64 a0), (.int .i64 a1)] m lv = some (((fun p => ([(.bool p)], m)) : _ → List AV × Mem) r) := by
 revert r
 show Ok _ _
 unfold r05_in
 repeat' (with_reducible first | (refine Ok.ite (fun hc => ?_) (fun hc => ?_) <;> try subst hc))
 all_goals (refine Ok.some (call_go rfl rfl rfl ?_); simp [F56, *])
theorem r05_text_call {N : Nat} {a0 : List UInt8} {r : Bool} (h : r05_text N a0 = some r) (m : Mem) (lv : Nat) : (sem T).call 57 [(.str (bs a0))] m lv = some (((fun p => ([(.bool p)], m)) : _ → List AV × Mem) r) := by
 revert r
 show Ok _ _
 unfold r05_text
 repeat' (with_reducible first | (refine Ok.ite (fun hc => ?_) (fun hc => ?_) <;> try subst hc))
 all_goals (refine Ok.some (call_go rfl rfl rfl ?_); simp [F57, *])
theorem r05_all_L0_ok (N : Nat) (m : Mem) (lv : Nat) : ∀ (n : Nat) (p0 p1 : Int), Ok (r05_all_L0 N n p0 p1) (fun r => ∀ s : St, s.mask [0, 3] [] = some ⟨19, lv, tmOf [(0, (.int .u64 p0)), (3, (.int .i64 p1))], bxOf [], m⟩ → (sem T).loop [0, 3] [] L59_0 s = some ((O2.el (fun p => (.ret, ⟨19, lv, tmOf [(2, (.bool p))], bxOf [], m⟩)) (fun p => (.ex 0, ⟨19, lv, tmOf [], bxOf [], m⟩)) : _ → Fl × St) r))
 | 0, _, _ => Ok.none
 | n + 1, p0, p1 => by
   unfold r05_all_L0
   repeat' (with_reducible first | (refine Ok.ite (fun hc => ?_) (fun hc => ?_) <;> try subst hc) | (refine Ok.bind (fun _ h => ?_); ((first | have h := r05_Known_call h | skip); try simp only [List.map_nil, List.map_cons, sRow, iRow, bRow, eRow] at h)))
   all_goals first
    | (refine Ok.some (fun s hs => loop_end hs ?_ (by intro e; cases e)); simp [L59_0, *]; done)
    | (refine fun r hr s hs => loop_round hs ?_ (r05_all_L0_ok N m lv n _ _ r hr); simp [L59_0, *]; done)
theorem r05_all_call {N : Nat} {a0 : Int} {r : Bool} (h : r05_all N a0 = some r) (m : Mem) (lv : Nat) : (sem T).call 59 [(.int .u64 a0)] m lv = some (((fun p => ([(.bool p)], m)) : _ → List AV × Mem) r) := by
 revert r
 show Ok _ _
 unfold r05_all
 repeat' (with_reducible first | (refine Ok.ite (fun hc => ?_) (fun hc => ?_) <;> try subst hc) | (refine Ok.bind2 (fun _ h => ?_) (fun _ h => ?_) <;> ((first | have h := (r05_all_L0_ok N m lv _ _ _).of h | skip); try simp only [List.map_nil, List.map_cons, sRow, iRow, bRow, eRow] at h)))
 all_goals (refine Ok.some (call_go rfl rfl rfl ?_); simp [F59, *])
theorem r06_Fields_call {N : Nat} {a0 : Int} {r : List UInt8} (h : r06_Fields N a0 = some r) (m : Mem) (lv : Nat) : (sem T).call 24 [(.int .i64 a0)] m lv = some (((fun p => ([(.str (bs p))], m)) : _ → List AV × Mem) r) := by
 revert r
 show Ok _ _
 unfold r06_Fields
 repeat' (with_reducible first | (refine Ok.ite (fun hc => ?_) (fun hc => ?_) <;> try subst hc))
 all_goals (refine Ok.some (call_go rfl rfl rfl ?_); simp [F24, *])
end Go.Ev
/- The evaluator's texts answer as the plain functions. Condition: none. -/
namespace Go.Ev
set_option linter.all false
set_option maxRecDepth 10000
set_option maxHeartbeats 8000000
theorem rdata_Valid_call {N : Nat} {a0 : Int} {a1_0 : Bool} {a1_1 a1_2 : Int} {a1_3 a1_4 a1_5 : List UInt8} {a1_6 a1_7 a1_8 a1_9 a1_10 a1_11 a1_12 : Int} {r : Bool} (h : rdata_Valid N a0 a1_0 a1_1 a1_2 a1_3 a1_4 a1_5 a1_6 a1_7 a1_8 a1_9 a1_10 a1_11 a1_12 = some r) (m : Mem) (lv : Nat) : (sem T).call 15 [(.int .i64 a0), (.agg [(.bool a1_0), (.int .u64 a1_1), (.int .u64 a1_2), (.str (bs a1_3)), (.str (bs a1_4)), (.str (bs a1_5)), (.int .i64 a1_6), (.int .i64 a1_7), (.int .i64 a1_8), (.int .i64 a1_9), (.int .i64 a1_10), (.int .i64 a1_11), (.int .u64 a1_12)])] m lv = some (((fun p => ([(.bool p)], m)) : _ → List AV × Mem) r) := by
 revert r
 show Ok _ _
 unfold rdata_Valid
 repeat' (with_reducible first | (refine Ok.ite (fun hc => ?_) (fun hc => ?_) <;> try subst hc) | (refine Ok.bind (fun _ h => ?_); ((first | have h := addr_Valid_call h | have h := dname_Valid_call h | have h := rdata_Known_call h | have h := rdata_all_call h | have h := rdata_host_call h | have h := rdata_long_call h | have h := rdata_within_call h | have h := serial_Valid_call h | skip); try simp only [List.map_nil, List.map_cons, sRow, iRow, bRow, eRow] at h)))
 all_goals (refine Ok.some (call_go rfl rfl rfl ?_); simp [F15, *])
end Go.Ev
/- The evaluator's texts answer as the plain functions. Condition: none. -/
namespace Go.Ev
set_option linter.all false
set_option maxRecDepth 10000
set_option maxHeartbeats 8000000
theorem r05_Valid_call {N : Nat} {a0 : Int} {a1_0 : Bool} {a1_1 a1_2 : Int} {a1_3 a1_4 a1_5 : List UInt8} {a1_6 a1_7 a1_8 a1_9 a1_10 a1_11 a1_12 : Int} {r : Bool} (h : r05_Valid N a0 a1_0 a1_1 a1_2 a1_3 a1_4 a1_5 a1_6 a1_7 a1_8 a1_9 a1_10 a1_11 a1_12 = some r) (m : Mem) (lv : Nat) : (sem T).call 23 [(.int .i64 a0), (.agg [(.bool a1_0), (.int .u64 a1_1), (.int .u64 a1_2), (.str (bs a1_3)), (.str (bs a1_4)), (.str (bs a1_5)), (.int .i64 a1_6), (.int .i64 a1_7), (.int .i64 a1_8), (.int .i64 a1_9), (.int .i64 a1_10), (.int .i64 a1_11), (.int .u64 a1_12)])] m lv = some (((fun p => ([(.bool p)], m)) : _ → List AV × Mem) r) := by
 revert r
 show Ok _ _
 unfold r05_Valid
 repeat' (with_reducible first | (refine Ok.ite (fun hc => ?_) (fun hc => ?_) <;> try subst hc) | (refine Ok.bind (fun _ h => ?_); ((first | have h := r01_Valid_call h | have h := r02_Valid_call h | have h := r04_Valid_call h | have h := r05_Known_call h | have h := r05_all_call h | have h := r05_host_call h | have h := r05_in_call h | have h := r05_text_call h | have h := r05_used_call h | skip); try simp only [List.map_nil, List.map_cons, sRow, iRow, bRow, eRow] at h)))
 all_goals (refine Ok.some (call_go rfl rfl rfl ?_); simp [F23, *])
end Go.Ev
