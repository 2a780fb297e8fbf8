/-
  Small closed calls of known.
-/
import Derived.Test.YtnimgfkggbnjoaaGreatDoorXU6
namespace Go.Abs.Seat
open Go Go.Abs Go.Proofs.Tryz
set_option maxRecDepth 100000
theorem gBest:Goal [] 17 [fr 43 30,i64 10] (.tup [fr 10 7,i64 0]) :=of_eq_true (by kernel_rfl)
theorem pBest:Pure prog 17 [fr 43 30,i64 10] (.tup [fr 10 7,i64 0]) :=gBest.pure MOK.nil (by kernel_rfl) (by kernel_rfl)
theorem gAround:Goal [] 19 [fr 43 30,i64 10] (.tup [fr 10 7,fr 13 9,i64 0]) :=of_eq_true (by kernel_rfl)
theorem pAround:Pure prog 19 [fr 43 30,i64 10] (.tup [fr 10 7,fr 13 9,i64 0]) :=gAround.pure MOK.nil (by kernel_rfl) (by kernel_rfl)
theorem gChain:Goal [] 20 [fr 43 30] (.tup [ints .no [1,2,3,4],i64 0]) :=of_eq_true (by kernel_rfl)
theorem pChain:Pure prog 20 [fr 43 30] (.tup [ints .no [1,2,3,4],i64 0]) :=gChain.pure MOK.nil (by kernel_rfl) (by kernel_rfl)
theorem gOff:Goal [] 23 [aT,fr 43 30,i64 100] (.tup [i64 14400,i64 0]) :=of_eq_true (by kernel_rfl)
theorem pOff:Pure prog 23 [aT,fr 43 30,i64 100] (.tup [i64 14400,i64 0]) :=gOff.pure MOK.nil (by kernel_rfl) (by kernel_rfl)
theorem gBetween:Goal [] 25 [aT,fr 43 30,fr 13 9,i64 100] (.tup [fr (-9600) 14400,i64 0]) :=of_eq_true (by kernel_rfl)
theorem pBetween:Pure prog 25 [aT,fr 43 30,fr 13 9,i64 100] (.tup [fr (-9600) 14400,i64 0]) :=gBetween.pure MOK.nil (by kernel_rfl) (by kernel_rfl)
theorem gSettings:Goal [] 26 [aT,fr 43 30,i64 720,ints .full [4,8,9,12],i64 14] (.tup [ints .no [0,2],i64 0]) :=of_eq_true (by kernel_rfl)
theorem pSettings:Pure prog 26 [aT,fr 43 30,i64 720,ints .full [4,8,9,12],i64 14] (.tup [ints .no [0,2],i64 0]) :=gSettings.pure MOK.nil (by kernel_rfl) (by kernel_rfl)
theorem gShown:Goal [] 28 [aT,fr 43 30,ints .full [4,8,9,12],ints .full [0,2],i64 10] (.tup [i64 7344,i64 0]) :=of_eq_true (by kernel_rfl)
theorem pShown:Pure prog 28 [aT,fr 43 30,ints .full [4,8,9,12],ints .full [0,2],i64 10] (.tup [i64 7344,i64 0]) :=gShown.pure MOK.nil (by kernel_rfl) (by kernel_rfl)
theorem gRead:Goal [] 12 [aText] (.tup [.agg [i64 4,i64 4,i64 1,i64 1,.nils],.nils,i64 0]) :=of_eq_true (by kernel_rfl)
theorem pRead:Pure prog 12 [aText] (.tup [.agg [i64 4,i64 4,i64 1,i64 1,.nils],.nils,i64 0]) :=gRead.pure MOK.nil (by kernel_rfl) (by kernel_rfl)
end Go.Abs.Seat
