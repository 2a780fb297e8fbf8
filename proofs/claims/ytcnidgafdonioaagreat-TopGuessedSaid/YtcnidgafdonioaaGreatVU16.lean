/-
  The function known20 returns true.
-/
import Derived.Test.YtcnidgafdonioaaGreatVU15
import Derived.Test.YtcnidgafdonioaaGreatVK2
import Derived.Test.YtcnidgafdonioaaGreatVK3
namespace Go.Abs.Seat
open Go Go.Abs Go.Proofs.Tryz
set_option maxRecDepth 100000
noncomputable def table:Memo :=[
 (37,[aR,fr 43 30],.tup [rows .no [12,10,12,10] 2,i64 0]),
 (9,[aP],.tup [rows .no [1,1,1,2,1,3,3,4] 4,.lst [.bool true,.bool false,.bool true,.bool true] 4 .no,i64 0]),
 (41,[aS,i64 1,.bool false],.tup [i64 30,i64 0])]
theorem table_ok:MOK prog table :=(MOK.cons pNearest (MOK.cons pRates (MOK.cons pNext MOK.nil)))
theorem gknown:Goal table 7 [] (.bool true) :=of_eq_true (by kernel_rfl)
theorem pknown:Pure prog 7 [] (.bool true) :=gknown.pure table_ok (by kernel_rfl) (by kernel_rfl)
end Go.Abs.Seat
