/-
  The closed calls of Plan and Done.
-/
import Derived.Test.YtlmadgdonalncaaGreatDoorD1
namespace Go.Abs.Seat
open Go Go.Abs Go.Proofs.Tryz
set_option maxRecDepth 100000
noncomputable def dtab:Memo :=[
 (73,[aW,aJ,ints .no [0,1,0]],.tup [ints .no [2,1,3],i64 112]),
 (73,[aW,aJ,ints .no [0,1,1]],.tup [ints .no [2,1,2],i64 128]),
 (73,[aW,aJ,ints .no [1,1,0]],.tup [ints .no [2,3,1],i64 144]),
 (73,[aW,aJ,ints .no [1,1,1]],.tup [ints .no [2,3,4],i64 160]),
 (73,[aW,aJ,ints .full [0,1,0]],.tup [ints .no [2,1,3],i64 112])]
theorem dtab_ok:MOK prog dtab :=(MOK.cons done010n (MOK.cons done011n (MOK.cons done110n (MOK.cons done111n (MOK.cons done010f MOK.nil)))))
theorem gPlan:GoalM noMu dtab 25 [aW,aJ] (.tup [ints .no [0,1,0],i64 112,i64 0]) :=of_eq_true (by kernel_rfl)
theorem pPlan:Pure prog 25 [aW,aJ] (.tup [ints .no [0,1,0],i64 112,i64 0]) :=gPlan.pure dtab_ok (by kernel_rfl)
theorem gDone:GoalM noMu dtab 24 [aW,aJ,ints .full [0,1,0]] (.tup [ints .no [2,1,3],i64 112,i64 0]) :=of_eq_true (by kernel_rfl)
theorem pDone:Pure prog 24 [aW,aJ,ints .full [0,1,0]] (.tup [ints .no [2,1,3],i64 112,i64 0]) :=gDone.pure dtab_ok (by kernel_rfl)
end Go.Abs.Seat
