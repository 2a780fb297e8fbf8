/-
  The best settings of a hand.
-/
import Derived.Test.YtlmadgdonalncaaGreatDoorU7
import Derived.Test.YtlmadgdonalncaaGreatDoorU4
namespace Go.Abs.Seat
noncomputable section
open Go Go.Abs Go.Proofs.Tryz
set_option maxRecDepth 100000
set_option maxHeartbeats 4000000
attribute [local irreducible] IntKind.wrap pEq
def subs (s:Nat):Nat → List Int
 | 0 => []
 |n + 1 => if s / 2 ^ n % 2 = 1 then subs s n ++ [Int.ofNat n] else subs s n
theorem qoh (s:Nat):∀ n,(subs s n).length ≤ n
 | 0 => Nat.zero_le _
 |n + 1 => by
  have :=qoh s n
  rw [subs]
  split
  ·rw [List.length_append];simp only [List.length_cons,List.length_nil];omega
  ·omega
theorem _root_.Go.Abs.WkV.int {a b:Int} (e:a = b):WkV (iv a) (iv b) :=e ▸ WkV.refl _
theorem _root_.Go.Abs.WkV.eq {a b:AV} (e:a = b):WkV a b :=e ▸ WkV.refl _
theorem qfp (l:List Int) (q:Int):ivs (l ++ [q]) = ivs l ++ [iv q] :=by
 induction l with
 |nil => rfl
 |cons x l ih => simp only [List.cons_append,ivs];exact congrArg _ ih
theorem qc4 (l:List Int):qby (ivs l) (l.length * 1) = true :=by
 have :=qds (ivs l)
 rw [ivs_len] at this
 rw [Nat.mul_one];exact this
theorem qjx (s:Nat):∀ (n i:Nat),i < (subs s n).length → 0 ≤ gi (subs s n) i ∧ gi (subs s n) i < n
 | 0,_,h => absurd h (Nat.not_lt_zero _)
 |n + 1,i,h => by
  rw [subs] at h ⊢
  split
  ·rename_i hb
   rw [if_pos hb] at h
   by_cases hi:i < (subs s n).length
   ·rw [show gi (subs s n ++ [Int.ofNat n]) i = gi (subs s n) i from by simp [gi,List.getD,List.getElem?_append_left hi]]
    have :=qjx s n i hi
    omega
   ·have:i = (subs s n).length :=by simp at h;omega
    subst this
    rw [show gi (subs s n ++ [Int.ofNat n]) (subs s n).length = Int.ofNat n from by simp [gi,List.getD]]
    simp only [Int.ofNat_eq_natCast];omega
  ·rename_i hb
   rw [if_neg hb] at h
   have :=qjx s n i h
   omega
theorem qmq (s:Nat):∀ (n i:Nat),i + 1 < (subs s n).length → gi (subs s n) i < gi (subs s n) (i + 1)
 | 0,_,h => absurd h (Nat.not_lt_zero _)
 |n + 1,i,h => by
  rw [subs] at h ⊢
  split
  ·rename_i hb
   rw [if_pos hb] at h
   have hi0:i < (subs s n).length :=by simp at h;omega
   rw [show gi (subs s n ++ [Int.ofNat n]) i = gi (subs s n) i from by simp [gi,List.getD,List.getElem?_append_left hi0]]
   by_cases hi:i + 1 < (subs s n).length
   ·rw [show gi (subs s n ++ [Int.ofNat n]) (i + 1) = gi (subs s n) (i + 1) from by simp [gi,List.getD,List.getElem?_append_left hi]]
    exact qmq s n i hi
   ·have e:i + 1 = (subs s n).length :=by omega
    rw [e,show gi (subs s n ++ [Int.ofNat n]) (subs s n).length = Int.ofNat n from by simp [gi,List.getD]]
    exact (qjx s n i hi0).2
  ·rename_i hb
   rw [if_neg hb] at h
   exact qmq s n i h
theorem qxu (s n:Nat):seOk n (subs s n) :=fun i hi => by
 have :=qjx s n i hi
 refine ⟨by omega,fun h0 => ?_⟩
 have :=qmq s n (i - 1) (by omega)
 rwa [show i - 1 + 1 = i by omega] at this
instance (L u t l):Decidable (kp L u t l) :=Classical.propDecidable _
theorem qxt (l:List (List Int)) (q:List Int):svs (l ++ [q]) = svs l ++ [sv q] :=by
 induction l with
 |nil => rfl
 |cons x l ih => simp only [List.cons_append,svs];exact congrArg _ ih
theorem qv7 (l:List (List Int)) (q:List Int):AObj.chain (l.length + (0 + 1)) 1 24 = .chain (l ++ [q]).length 1 24 :=by
 rw [List.length_append];rfl
theorem qcq (l:List (List Int)):qby (svs l) (l.length * 1) = true :=by
 have :=qds (svs l)
 rw [qrb] at this
 rw [Nat.mul_one];exact this
end
end Go.Abs.Seat
