/-
  The closed call of Nearest.
-/
import Derived.Test.YtcnidgafdonioaaGreatVU6
namespace Go.Abs.Seat
open Go Go.Abs Go.Proofs.Tryz
set_option maxRecDepth 100000
theorem gNearest:Goal [] 37 [aR,fr 43 30] (.tup [rows .no [12,10,12,10] 2,i64 0]) :=of_eq_true (by kernel_rfl)
theorem pNearest:Pure prog 37 [aR,fr 43 30] (.tup [rows .no [12,10,12,10] 2,i64 0]) :=gNearest.pure MOK.nil (by kernel_rfl) (by kernel_rfl)
end Go.Abs.Seat
