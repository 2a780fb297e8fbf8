/-
  The function known returns true.
-/
import Derived.Test.YtlmadgdonalncaaGreatDoorU20
import Derived.Test.YtlmadgdonalncaaGreatDoorK3
namespace Go.Abs.Seat
open Go Go.Abs Go.Proofs.Tryz
set_option maxRecDepth 100000
noncomputable def table:Memo :=[
 (48,[aP],.tup [rows .no [1,1,1,2,1,3,3,4] 4,.lst [.bool true,.bool false,.bool true,.bool true] 4 .no,i64 0]),
 (50,[aP,.agg [i64 0,i64 10,i64 30]],.tup [ints .no [0,1],i64 0]),
 (52,[aP,i64 10,i64 20,i64 0,fr 2 5],.tup [rows .no [1,12,15] 1,i64 0]),
 (53,[aP,i64 10,i64 20,fr 43 30],.tup [.agg [i64 0,i64 20,i64 14],i64 0]),
 (40,[i64 100,i64 2,ints .full [10,20,15,10]],.tup [ints .no [0,0,0,1],i64 2,i64 0]),
 (14,[i64 3,aE],.tup [ints .no [-9,6,3],i64 0]),
 (15,[i64 3,aE],.tup [rows .no [1,0,6,2,0,3] 2,i64 0]),
 (57,[aB],.tup [i64 43,i64 23,i64 0]),
 (44,[aText],.tup [.agg [rows .no [0,4,4] 1,ints .no [1]],i64 0]),
 (25,[aW,aJ],.tup [ints .no [0,1,0],i64 112,i64 0]),
 (24,[aW,aJ,ints .full [0,1,0]],.tup [ints .no [2,1,3],i64 112,i64 0])]
theorem table_ok:MOK prog table :=(MOK.cons pRates (MOK.cons pSpoils (MOK.cons pChanges (MOK.cons pAdds (MOK.cons pSheets (MOK.cons pBalances (MOK.cons pSettle (MOK.cons pBill (MOK.cons pRead (MOK.cons pPlan (MOK.cons pDone MOK.nil)))))))))))
theorem gknown:GoalM noMu table 13 [] (.bool true) :=of_eq_true (by kernel_rfl)
theorem pknown:Pure prog 13 [] (.bool true) :=gknown.pure table_ok (by kernel_rfl)
end Go.Abs.Seat
