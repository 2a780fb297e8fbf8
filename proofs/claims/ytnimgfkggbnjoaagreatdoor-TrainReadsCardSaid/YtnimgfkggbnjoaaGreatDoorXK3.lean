/-
  The closed call of Share.
-/
import Derived.Test.YtnimgfkggbnjoaaGreatDoorXU6
namespace Go.Abs.Seat
open Go Go.Abs Go.Proofs.Tryz
set_option maxRecDepth 100000
theorem gShare:Goal [] 29 [aR,pairs .full [43,30,1,1] 2,i64 3,i64 100] (.tup [.lst [pairs .no [12,10,12,10] 2,pairs .no [6,6] 1] 2 .no,i64 14400,i64 0]) :=of_eq_true (by kernel_rfl)
theorem pShare:Pure prog 29 [aR,pairs .full [43,30,1,1] 2,i64 3,i64 100] (.tup [.lst [pairs .no [12,10,12,10] 2,pairs .no [6,6] 1] 2 .no,i64 14400,i64 0]) :=gShare.pure MOK.nil (by kernel_rfl) (by kernel_rfl)
end Go.Abs.Seat
