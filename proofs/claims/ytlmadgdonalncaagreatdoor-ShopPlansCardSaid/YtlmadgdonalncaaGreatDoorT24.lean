/-
  The best settings of a hand.
-/
import Derived.Test.YtlmadgdonalncaaGreatDoorU7
import Derived.Test.YtlmadgdonalncaaGreatDoorU4
namespace Go.Abs.Seat
noncomputable section
open Go Go.Abs Go.Proofs.Tryz
set_option maxRecDepth 100000
set_option maxHeartbeats 4000000
attribute [local irreducible] IntKind.wrap pEq
theorem _root_.Go.Abs.WkV.int {a b:Int} (e:a = b):WkV (iv a) (iv b) :=e ▸ WkV.refl _
theorem _root_.Go.Abs.WkV.eq {a b:AV} (e:a = b):WkV a b :=e ▸ WkV.refl _
theorem qgd (l:List Int) (q:Int):ivs (l ++ [q]) = ivs l ++ [iv q] :=by
 induction l with
 |nil => rfl
 |cons x l ih => simp only [List.cons_append,ivs];exact congrArg _ ih
theorem qc4 (l:List Int):qca (ivs l) (l.length * 1) = true :=by
 have :=qdt (ivs l)
 rw [ivs_len] at this
 rw [Nat.mul_one];exact this
instance (L u t l):Decidable (kp L u t l) :=Classical.propDecidable _
theorem qv5 (l:List (List Int)) (q:List Int):svs (l ++ [q]) = svs l ++ [sv q] :=by
 induction l with
 |nil => rfl
 |cons x l ih => simp only [List.cons_append,svs];exact congrArg _ ih
theorem qxn (l:List (List Int)) (q:List Int):AObj.chain (l.length + (0 + 1)) 1 24 = .chain (l ++ [q]).length 1 24 :=by
 rw [List.length_append];rfl
theorem qht (l:List (List Int)):qca (svs l) (l.length * 1) = true :=by
 have :=qdt (svs l)
 rw [qp2] at this
 rw [Nat.mul_one];exact this
end
end Go.Abs.Seat
