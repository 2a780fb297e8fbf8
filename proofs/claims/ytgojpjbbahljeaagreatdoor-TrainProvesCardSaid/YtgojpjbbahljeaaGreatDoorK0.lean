/-
  The seat's program: what its closed runs need.
-/
import Derived.Test.YtgojpjbbahljeaaGreatDoorA28
import Derived.KernelRfl
import Derived.Test.YtgojpjbbahljeaaGreatDoorProg
/-! The seat's program: what its closed runs need. -/
namespace Go.Abs.Seat
open Go Go.Abs Go.Proofs.Tryz
set_option maxRecDepth 100000
noncomputable section

def X (f : FuncId) : Option ExtK :=
  match Nat.beq f 168 with
  | true => some .count
  | false => match Nat.beq f 180 with
    | true => some .indexByte
    | false => Option.none

theorem xok : EOK prog X := by
  intro f k h args w
  unfold X at h
  split at h
  · rename_i e
    have e := Nat.eq_of_beq_eq_true e
    subst e
    cases h
    exact run_callFunc_extern func168 (by kernel_rfl) (by kernel_rfl) (by kernel_rfl) (by kernel_rfl) args w
  · split at h
    · rename_i e
      have e := Nat.eq_of_beq_eq_true e
      subst e
      cases h
      exact run_callFunc_extern func180 (by kernel_rfl) (by kernel_rfl) (by kernel_rfl) (by kernel_rfl) args w
    · cases h

theorem names_ok : (prog.funcs.toList.all fun fn => !(fn.name == "runtime.NumGoroutine")) = true := by kernel_rfl
theorem mixed_ok : prog.follows .mixedOrders = true := by kernel_rfl

def pu (f : FuncId) : Bool := ([17, 18, 23, 56, 57, 58, 60, 72, 73, 77, 78, 80, 81, 82, 83, 84, 85, 88, 89, 91, 94, 100, 111, 118, 119, 121] : List Nat).any (Nat.beq f)

def Goal (M : Memo) (f : FuncId) (args : List AV) (v : AV) : Prop := mkEnv prog X false pu M fun E => runV E 1000000 200 f args v
attribute [irreducible] Goal

theorem Goal.pure {M : Memo} {f : FuncId} {args : List AV} {v : AV} (h : Goal M f args v) (hM : MOK prog M) (ha : norefs args = true) (hv : noref v = true) : Pure prog f args v := by
  unfold Goal at h
  exact pure_run h names_ok xok mixed_ok hM ha hv

theorem MOK.nil : MOK prog [] := fun _ h => by cases h
theorem MOK.cons {f : FuncId} {args : List AV} {v : AV} {M : Memo} (h : Pure prog f args v) (hM : MOK prog M) : MOK prog ((f, args, v) :: M) := fun e he => by
  rcases List.mem_cons.1 he with e1 | e1
  · subst e1; exact h
  · exact hM e e1

def i64 (n : Int) : AV := .int .i64 n
def fr (a b : Int) : AV := .agg [i64 a, i64 b]
def ints (own : Own) (l : List Int) : AV := .lst (l.map i64) l.length own
def pairs (own : Own) (l : List Int) (n : Nat) : AV := .lst (l.map i64) n own
def aR : AV := .agg [i64 6, i64 12, i64 2, i64 1, ints .full [7]]
def aT : AV := pairs .full [12, 10, 12, 10] 2
def aText : AV := .str [114, 117, 108, 101, 32, 52, 32, 52, 32, 49, 32, 97, 110, 121, 10, 110, 101, 118, 101, 114, 10, 101, 110, 100, 32, 48, 57, 53, 10]

end
end Go.Abs.Seat
