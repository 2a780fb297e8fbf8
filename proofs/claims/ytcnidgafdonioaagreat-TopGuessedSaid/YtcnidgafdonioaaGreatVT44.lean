/-
  The nearest fractions of some pairs.
-/
import Derived.Test.YtcnidgafdonioaaGreatVU9
/-! The nearest fractions of some pairs. -/
namespace Go.Abs.Seat
noncomputable section
open Go Go.Abs Go.Proofs.Tryz
set_option maxRecDepth 100000
set_option maxHeartbeats 40000000
attribute [local irreducible] IntKind.wrap pEq
section
variable {n d:Nat} {s:NS} {q:Nat × Nat}
end
structure NB (s:NS) (m:Nat):Prop where
 e1:s.2.1 ≤ 10800000000
 e2:s.2.2 ≤ 216000
 ln:s.1.length ≤ m
theorem pvA (l:List (Nat × Nat)) (q:Nat × Nat) (o:Own):AV.lst (flat (zp l) ++ [nv q.1,nv q.2]) ((zp l).length + (0 + 1)) o = .lst (flat (zp (l ++ [q]))) (zp (l ++ [q])).length o :=by
 have e:flat (zp (l ++ [q])) = flat (zp l) ++ [nv q.1,nv q.2] :=by
  unfold zp
  rw [List.map_append]
  generalize l.map (fun p => (Int.ofNat p.1,Int.ofNat p.2)) = m
  induction m with
  |nil => rfl
  |cons p r ih => show iv p.1 :: iv p.2 :: flat (r ++ _) = _;rw [ih];rfl
 rw [e,zp_len,zp_len,List.length_append]
 rfl
theorem rnB {m:Nat} {rs:List Nat} {l:List (Nat × Nat)} {q:Nat × Nat} {j c e:Nat} (hj:j < rs.length) (h1:rs.getD j 0 = c) (h2:e = m + j):RnV m rs (.lst (flat (zp l) ++ [nv q.1,nv q.2]) ((zp l).length + (0 + 1)) (.ch c)) (.lst (flat (zp (l ++ [q]))) (zp (l ++ [q])).length (.ch e)) :=by
 rw [pvA];exact RnV.ch hj h1 h2 (bdl_no (flat_no _))
theorem rnC {m:Nat} {rs:List Nat} {xs:List AV} {k:Nat} {j c e:Nat} (hj:j < rs.length) (h1:rs.getD j 0 = c) (h2:e = m + j) (hx:Lives noL xs):RnV m rs (.lst xs k (.ch c)) (.lst xs k (.ch e)) :=RnV.ch hj h1 h2 (bdl_no hx)
theorem NB.one {s:NS} {m n d:Nat} {q:Nat × Nat} (_h:NB s m) (h1:(dQ n d q).1 ≤ 10800000000) (h2:q.2 ≤ 216000):NB ([q],dQ n d q) (m + 1) :=⟨h1,h2,by simp⟩
section
variable (all:List Nat) (c:Nat) (hll:all.length ≤ 216001)
include hll
end
theorem wkl_flat:∀ l:List (Int × Int),wkl (flat l) = flat l
 | [] => by simp only [flat,wkl]
 |p :: r => by simp only [flat,wkl,wk,wkl_flat r]
end
end Go.Abs.Seat

