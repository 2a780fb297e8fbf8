/-
  The closed call of Next.
-/
import Derived.Test.YtcnidgafdonioaaGreatVU6
namespace Go.Abs.Seat
open Go Go.Abs Go.Proofs.Tryz
set_option maxRecDepth 100000
theorem gNext:Goal [] 41 [aS,i64 1,.bool false] (.tup [i64 30,i64 0]) :=of_eq_true (by kernel_rfl)
theorem pNext:Pure prog 41 [aS,i64 1,.bool false] (.tup [i64 30,i64 0]) :=gNext.pure MOK.nil (by kernel_rfl) (by kernel_rfl)
end Go.Abs.Seat
