/-
  The function known returns true.
-/
import Derived.Test.YtnimgfkggbnjoaaGreatDoorXU15
import Derived.Test.YtnimgfkggbnjoaaGreatDoorXK2
import Derived.Test.YtnimgfkggbnjoaaGreatDoorXK3
namespace Go.Abs.Seat
open Go Go.Abs Go.Proofs.Tryz
set_option maxRecDepth 100000
noncomputable def table:Memo :=[
 (17,[fr 43 30,i64 10],.tup [fr 10 7,i64 0]),
 (19,[fr 43 30,i64 10],.tup [fr 10 7,fr 13 9,i64 0]),
 (20,[fr 43 30],.tup [ints .no [1,2,3,4],i64 0]),
 (23,[aT,fr 43 30,i64 100],.tup [i64 14400,i64 0]),
 (25,[aT,fr 43 30,fr 13 9,i64 100],.tup [fr (-9600) 14400,i64 0]),
 (26,[aT,fr 43 30,i64 720,ints .full [4,8,9,12],i64 14],.tup [ints .no [0,2],i64 0]),
 (28,[aT,fr 43 30,ints .full [4,8,9,12],ints .full [0,2],i64 10],.tup [i64 7344,i64 0]),
 (12,[aText],.tup [.agg [i64 4,i64 4,i64 1,i64 1,.nils],.nils,i64 0]),
 (21,[aR,fr 43 30],.tup [pairs .no [12,10,12,10] 2,i64 0]),
 (29,[aR,pairs .full [43,30,1,1] 2,i64 3,i64 100],.tup [.lst [pairs .no [12,10,12,10] 2,pairs .no [6,6] 1] 2 .no,i64 14400,i64 0])]
theorem table_ok:MOK prog table :=(MOK.cons pBest (MOK.cons pAround (MOK.cons pChain (MOK.cons pOff (MOK.cons pBetween (MOK.cons pSettings (MOK.cons pShown (MOK.cons pRead (MOK.cons pNearest (MOK.cons pShare MOK.nil))))))))))
theorem gknown:Goal table 8 [] (.bool true) :=of_eq_true (by kernel_rfl)
theorem pknown:Pure prog 8 [] (.bool true) :=gknown.pure table_ok (by kernel_rfl) (by kernel_rfl)
end Go.Abs.Seat
