/- The evaluator's texts answer as the plain functions. Condition: none. -/
import Derived.Test.YtcnlfelalgaepaaGreatDoorShD
import Derived.Test.YtcnlfelalgaepaaGreatDoorShT1p
import Derived.Test.YtcnlfelalgaepaaGreatDoorRsL
namespace Go.Ev
set_option linter.all false
set_option maxRecDepth 10000
set_option maxHeartbeats 8000000
theorem rdata_Valid_call {N : Nat} {a0 : Int} {a1_0 : Bool} {a1_1 a1_2 : Int} {a1_3 a1_4 a1_5 : List UInt8} {a1_6 a1_7 a1_8 a1_9 a1_10 a1_11 a1_12 : Int} {r : Bool} (h : rdata_Valid N a0 a1_0 a1_1 a1_2 a1_3 a1_4 a1_5 a1_6 a1_7 a1_8 a1_9 a1_10 a1_11 a1_12 = some r) (m : Mem) (lv : Nat) : (sem T).call 15 [(.int .i64 a0), (.agg [(.bool a1_0), (.int .u64 a1_1), (.int .u64 a1_2), (.str (bs a1_3)), (.str (bs a1_4)), (.str (bs a1_5)), (.int .i64 a1_6), (.int .i64 a1_7), (.int .i64 a1_8), (.int .i64 a1_9), (.int .i64 a1_10), (.int .i64 a1_11), (.int .u64 a1_12)])] m lv = some (((fun p => ([(.bool p)], m)) : _ → List AV × Mem) r) := by
  revert r
  show Ok _ _
  unfold rdata_Valid
  repeat' (with_reducible first | (refine Ok.ite (fun hc => ?_) (fun hc => ?_) <;> try subst hc) | (refine Ok.bind (fun _ h => ?_); ((first | have h := addr_Valid_call h | have h := dname_Valid_call h | have h := rdata_Known_call h | have h := rdata_all_call h | have h := rdata_host_call h | have h := rdata_long_call h | have h := rdata_within_call h | have h := serial_Valid_call h | skip); try simp only [List.map_nil, List.map_cons, sRow, iRow, bRow, eRow] at h)))
  all_goals (refine Ok.some (call_go rfl rfl rfl ?_); simp [F15, *])
end Go.Ev
