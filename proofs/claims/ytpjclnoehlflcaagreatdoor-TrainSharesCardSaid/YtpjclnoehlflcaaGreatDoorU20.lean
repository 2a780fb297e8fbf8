/-
  The law TrainLess.
  Small closed calls of known.
-/
import Derived.Test.YtpjclnoehlflcaaGreatDoorU19
import Derived.Test.YtpjclnoehlflcaaGreatDoorL22
import Derived.Test.YtpjclnoehlflcaaGreatDoorL23
import Derived.Test.YtpjclnoehlflcaaGreatDoorU18
import Derived.Test.YtpjclnoehlflcaaGreatDoorU6
namespace Go.Abs.Seat
open Go Go.Abs Go.Proofs.Tryz
set_option maxRecDepth 100000
set_option maxHeartbeats 40000000
attribute [local irreducible] IntKind.wrap pEq
theorem qw0 (l:List (Int × Int)):Pure prog 43 [pv l] (.bool (decide ((l.length:Int) ≤ 5))) :=by
 have ll :=qag l
 refine zA fun S q pc hS hq hC hE => ?_
 conv=>whnf
 exact ⟨_,rfl,Wk.refl _⟩
theorem qw1:Pure prog 43 [.nils] (.bool true) :=by
 refine zA fun S q pc hS hq hC hE => ?_
 conv=>whnf
 exact ⟨_,rfl,Wk.refl _⟩
theorem q2h {T:AV} {tl:List (Int × Int)} (h:PQ T tl):∃ b,Pure prog 43 [T] (.bool b) ∧ (b = true → tl.length ≤ 5) :=by
 rcases h with ⟨rfl,rfl⟩ | rfl
 ·exact ⟨true,qw1,fun _ => Nat.zero_le _⟩
 ·exact ⟨_,qw0 tl,fun h => by have :=of_decide_eq_true h;omega⟩
end Go.Abs.Seat
namespace Go.Abs.Seat
open Go Go.Abs Go.Proofs.Tryz
set_option maxRecDepth 100000
theorem gBest:Goal [] 53 [fr 43 30,i64 10] (.tup [fr 10 7,i64 0]) :=of_eq_true (by kernel_rfl)
theorem pBest:Pure prog 53 [fr 43 30,i64 10] (.tup [fr 10 7,i64 0]) :=gBest.pure MOK.nil (by kernel_rfl) (by kernel_rfl)
theorem gAround:Goal [] 55 [fr 43 30,i64 10] (.tup [fr 10 7,fr 13 9,i64 0]) :=of_eq_true (by kernel_rfl)
theorem pAround:Pure prog 55 [fr 43 30,i64 10] (.tup [fr 10 7,fr 13 9,i64 0]) :=gAround.pure MOK.nil (by kernel_rfl) (by kernel_rfl)
theorem gChain:Goal [] 56 [fr 43 30] (.tup [ints .no [1,2,3,4],i64 0]) :=of_eq_true (by kernel_rfl)
theorem pChain:Pure prog 56 [fr 43 30] (.tup [ints .no [1,2,3,4],i64 0]) :=gChain.pure MOK.nil (by kernel_rfl) (by kernel_rfl)
theorem gOff:Goal [] 27 [aT,fr 43 30,i64 100] (.tup [i64 14400,i64 0]) :=of_eq_true (by kernel_rfl)
theorem pOff:Pure prog 27 [aT,fr 43 30,i64 100] (.tup [i64 14400,i64 0]) :=gOff.pure MOK.nil (by kernel_rfl) (by kernel_rfl)
theorem gBetween:Goal [] 59 [aT,fr 43 30,fr 13 9,i64 100] (.tup [fr (-9600) 14400,i64 0]) :=of_eq_true (by kernel_rfl)
theorem pBetween:Pure prog 59 [aT,fr 43 30,fr 13 9,i64 100] (.tup [fr (-9600) 14400,i64 0]) :=gBetween.pure MOK.nil (by kernel_rfl) (by kernel_rfl)
theorem gSettings:Goal [] 17 [aT,fr 43 30,i64 720,ints .full [4,8,9,12],i64 14] (.tup [ints .no [0,2],i64 0]) :=of_eq_true (by kernel_rfl)
theorem pSettings:Pure prog 17 [aT,fr 43 30,i64 720,ints .full [4,8,9,12],i64 14] (.tup [ints .no [0,2],i64 0]) :=gSettings.pure MOK.nil (by kernel_rfl) (by kernel_rfl)
theorem gShown:Goal [] 26 [aT,fr 43 30,ints .full [4,8,9,12],ints .full [0,2],i64 10] (.tup [i64 7344,i64 0]) :=of_eq_true (by kernel_rfl)
theorem pShown:Pure prog 26 [aT,fr 43 30,ints .full [4,8,9,12],ints .full [0,2],i64 10] (.tup [i64 7344,i64 0]) :=gShown.pure MOK.nil (by kernel_rfl) (by kernel_rfl)
theorem gRead:Goal [] 61 [aText] (.tup [.agg [i64 4,i64 4,i64 1,i64 1,.nils],.nils,i64 0]) :=of_eq_true (by kernel_rfl)
theorem pRead:Pure prog 61 [aText] (.tup [.agg [i64 4,i64 4,i64 1,i64 1,.nils],.nils,i64 0]) :=gRead.pure MOK.nil (by kernel_rfl) (by kernel_rfl)
end Go.Abs.Seat
