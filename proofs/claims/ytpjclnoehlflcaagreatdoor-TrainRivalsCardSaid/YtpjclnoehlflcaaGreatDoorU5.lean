/-
  The seat's program: what its closed runs need.
  Small closed calls of known.
-/
import Derived.Test.YtpjclnoehlflcaaGreatDoorU4
import Derived.KernelRfl
import Derived.Test.YtpjclnoehlflcaaGreatDoorProg
/-! The seat's program: what its closed runs need. -/
namespace Go.Abs.Seat
open Go Go.Abs Go.Proofs.Tryz
set_option maxRecDepth 100000
noncomputable section

def X (f : FuncId) : Option ExtK :=
 match Nat.beq f 177 with
 |true => some .count
 |false => match Nat.beq f 189 with
  |true => some .indexByte
  |false => Option.none

theorem xok : EOK prog X := by
 intro f k h args w
 unfold X at h
 split at h
 ·rename_i e
  have e := Nat.eq_of_beq_eq_true e
  subst e
  cases h
  exact run_callFunc_extern func177 (by kernel_rfl) (by kernel_rfl) (by kernel_rfl) (by kernel_rfl) args w
 ·split at h
  ·rename_i e
   have e := Nat.eq_of_beq_eq_true e
   subst e
   cases h
   exact run_callFunc_extern func189 (by kernel_rfl) (by kernel_rfl) (by kernel_rfl) (by kernel_rfl) args w
  ·cases h

theorem names_ok : (prog.funcs.toList.all fun fn => !(fn.name == "runtime.NumGoroutine")) = true := by kernel_rfl
theorem mixed_ok : prog.follows .mixedOrders = true := by kernel_rfl

def pu (f : FuncId) : Bool := ([19, 63, 64, 65, 66, 67, 68, 69, 70, 73, 74, 77, 81, 82, 86, 97, 100, 101, 103, 118, 123, 124, 126, 153] : List Nat).any (Nat.beq f)

def Goal (M : Memo) (f : FuncId) (args : List AV) (v : AV) : Prop := mkEnv prog X false pu M fun E => runV E 1000000 200 f args v
attribute [irreducible] Goal

theorem Goal.pure {M : Memo} {f : FuncId} {args : List AV} {v : AV} (h : Goal M f args v) (hM : MOK prog M) (ha : norefs args = true) (hv : noref v = true) : Pure prog f args v := by
 unfold Goal at h
 exact pure_run h names_ok xok mixed_ok hM ha hv

theorem MOK.nil : MOK prog [] := fun _ h => by cases h
theorem MOK.cons {f : FuncId} {args : List AV} {v : AV} {M : Memo} (h : Pure prog f args v) (hM : MOK prog M) : MOK prog ((f, args, v) :: M) := fun e he => by
 rcases List.mem_cons.1 he with e1 | e1
 ·subst e1; exact h
 ·exact hM e e1

def i64 (n : Int) : AV := .int .i64 n
def fr (a b : Int) : AV := .agg [i64 a, i64 b]
def ints (own : Own) (l : List Int) : AV := .lst (l.map i64) l.length own
def pairs (own : Own) (l : List Int) (n : Nat) : AV := .lst (l.map i64) n own
def aR : AV := .agg [i64 6, i64 12, i64 2, i64 1, ints .full [7]]
def aT : AV := pairs .full [12, 10, 12, 10] 2
def aText : AV := .str [114, 117, 108, 101, 32, 52, 32, 52, 32, 49, 32, 97, 110, 121, 10, 110, 101, 118, 101, 114, 10, 101, 110, 100, 32, 48, 57, 53, 10]

end
end Go.Abs.Seat

/-! Small closed calls of known. -/
namespace Go.Abs.Seat
open Go Go.Abs Go.Proofs.Tryz
set_option maxRecDepth 100000

theorem gBest : Goal [] 53 [fr 43 30, i64 10] (.tup [fr 10 7, i64 0]) := of_eq_true (by kernel_rfl)
theorem pBest : Pure prog 53 [fr 43 30, i64 10] (.tup [fr 10 7, i64 0]) := gBest.pure MOK.nil (by kernel_rfl) (by kernel_rfl)

theorem gAround : Goal [] 55 [fr 43 30, i64 10] (.tup [fr 10 7, fr 13 9, i64 0]) := of_eq_true (by kernel_rfl)
theorem pAround : Pure prog 55 [fr 43 30, i64 10] (.tup [fr 10 7, fr 13 9, i64 0]) := gAround.pure MOK.nil (by kernel_rfl) (by kernel_rfl)

theorem gChain : Goal [] 56 [fr 43 30] (.tup [ints .no [1, 2, 3, 4], i64 0]) := of_eq_true (by kernel_rfl)
theorem pChain : Pure prog 56 [fr 43 30] (.tup [ints .no [1, 2, 3, 4], i64 0]) := gChain.pure MOK.nil (by kernel_rfl) (by kernel_rfl)

theorem gOff : Goal [] 27 [aT, fr 43 30, i64 100] (.tup [i64 14400, i64 0]) := of_eq_true (by kernel_rfl)
theorem pOff : Pure prog 27 [aT, fr 43 30, i64 100] (.tup [i64 14400, i64 0]) := gOff.pure MOK.nil (by kernel_rfl) (by kernel_rfl)

theorem gBetween : Goal [] 59 [aT, fr 43 30, fr 13 9, i64 100] (.tup [fr (-9600) 14400, i64 0]) := of_eq_true (by kernel_rfl)
theorem pBetween : Pure prog 59 [aT, fr 43 30, fr 13 9, i64 100] (.tup [fr (-9600) 14400, i64 0]) := gBetween.pure MOK.nil (by kernel_rfl) (by kernel_rfl)

theorem gSettings : Goal [] 17 [aT, fr 43 30, i64 720, ints .full [4, 8, 9, 12], i64 14] (.tup [ints .no [0, 2], i64 0]) := of_eq_true (by kernel_rfl)
theorem pSettings : Pure prog 17 [aT, fr 43 30, i64 720, ints .full [4, 8, 9, 12], i64 14] (.tup [ints .no [0, 2], i64 0]) := gSettings.pure MOK.nil (by kernel_rfl) (by kernel_rfl)

theorem gShown : Goal [] 26 [aT, fr 43 30, ints .full [4, 8, 9, 12], ints .full [0, 2], i64 10] (.tup [i64 7344, i64 0]) := of_eq_true (by kernel_rfl)
theorem pShown : Pure prog 26 [aT, fr 43 30, ints .full [4, 8, 9, 12], ints .full [0, 2], i64 10] (.tup [i64 7344, i64 0]) := gShown.pure MOK.nil (by kernel_rfl) (by kernel_rfl)

theorem gRead : Goal [] 61 [aText] (.tup [.agg [i64 4, i64 4, i64 1, i64 1, .nils], .nils, i64 0]) := of_eq_true (by kernel_rfl)
theorem pRead : Pure prog 61 [aText] (.tup [.agg [i64 4, i64 4, i64 1, i64 1, .nils], .nils, i64 0]) := gRead.pure MOK.nil (by kernel_rfl) (by kernel_rfl)

end Go.Abs.Seat
