/-
  The closed call of Rates.
-/
import Derived.Test.YtcnidgafdonioaaGreatVU6
namespace Go.Abs.Seat
open Go Go.Abs Go.Proofs.Tryz
set_option maxRecDepth 100000
theorem gRates:Goal [] 9 [aP] (.tup [rows .no [1,1,1,2,1,3,3,4] 4,.lst [.bool true,.bool false,.bool true,.bool true] 4 .no,i64 0]) :=of_eq_true (by kernel_rfl)
theorem pRates:Pure prog 9 [aP] (.tup [rows .no [1,1,1,2,1,3,3,4] 4,.lst [.bool true,.bool false,.bool true,.bool true] 4 .no,i64 0]) :=gRates.pure MOK.nil (by kernel_rfl) (by kernel_rfl)
end Go.Abs.Seat
