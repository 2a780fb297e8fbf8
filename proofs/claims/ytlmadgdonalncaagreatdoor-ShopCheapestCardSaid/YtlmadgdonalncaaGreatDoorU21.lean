/-
  The law ShopBills.
-/
import Derived.Test.YtlmadgdonalncaaGreatDoorB9
import Derived.Test.YtlmadgdonalncaaGreatDoorU20
namespace Go.Abs.Seat
noncomputable section
open Go Go.Abs Go.Proofs.Tryz
set_option maxRecDepth 100000
set_option maxHeartbeats 40000000
attribute [local irreducible] IntKind.wrap pEq

structure pqN (long saw:Int) (T:List Int) (n s:Nat) (t:List Nat):Prop where
 a:long = Int.ofNat n
 b:saw = Int.ofNat s
 c:T = zl t
 q1:swOk (Int.ofNat n) (Int.ofNat s)
 q2:whOk (zl t)
 l1:1 ≤ t.length
 l8:t.length ≤ 8
 n5:n ≤ 500
 s9:s ≤ 9
 ht:∀ x,x ∈ t → 1 ≤ x ∧ x ≤ 60
 wl:wlOk (zl t)
theorem quj {a b:List Nat} {i:Nat} (h1:i < a.length) (h2:i < b.length):bfr (a.drop i) (b.drop i) = if gn a i = gn b i then bfr (a.drop (i + 1)) (b.drop (i + 1)) else decide (gn a i < gn b i) :=by
 rw [qop a h1,qop b h2,bfr]
theorem qk5 (a b:List Nat) (hl:b.length = a.length) (h8:a.length ≤ 10):Pure prog 32 [nl (zl a),nl (zl b)] (.bool (bfr a b)) :=by
 have la :=qat (zl a)
 have lb :=qat (zl b)
 have za :=qdz a
 have zb :=qdz b
 refine qar hE rfl (by repeat' first|exact trivial|assumption|exact qag _|exact fun _ h => nomatch h|apply And.intro) (by repeat' first|exact trivial|assumption|exact qag _|exact fun _ h => nomatch h|apply And.intro) fun S q pc hS hq hC hE => ?_
 conv => whnf
 refine qgy hE hS (A :=Nat) [0,1] (fun i => [(5,nv i)]) (fun _ => []) (fun i => i ≤ a.length ∧ bfr (a.drop i) (b.drop i) = bfr a b) (fun i => a.length - i) 0 rfl rfl (by refine ⟨rfl,rfl,rfl,rfl,?_,?_⟩ <;> repeat' (first|exact trivial|exact rfl|exact Nat.zero_le _|exact qad la|exact qad lb|exact kle rfl|exact qad (by assumption)|exact qad (qag _)|exact qad (qat _)|exact mxI rfl|apply And.intro)) ⟨Nat.zero_le _,rfl⟩ ?_
 intro i ⟨hi,he⟩
 conv => whnf
 by_cases hi2:i < a.length
 ·rw [quj hi2 (by omega)] at he
  have g0:nth (ivs (zl a)) (i * 1) = some (nv (gn a i)) :=by rw [qbb (by omega),qmo a hi2]
  have g1:nth (ivs (zl b)) (i * 1) = some (nv (gn b i)) :=by rw [qbb (by omega),qmo b (by omega)]
  have ja:i < (zl a).length :=by omega
  have jb:i < (zl b).length :=by omega
  generalize gn a i = x at *
  generalize gn b i = y at *
  refine qaa (qav ja) ?_
  conv => whnf
  refine qaa (qaj ja) ?_
  conv => whnf
  refine qaf (nthP (g0)) ?_
  conv => whnf
  refine qaa (qaj jb) ?_
  conv => whnf
  refine qaf (nthP (g1)) ?_
  conv => whnf
  refine qae hS (by kernel_rfl) ?_
  conv => whnf
  by_cases q:x = y
  ·rw [if_pos q] at he
   refine qac ((show (Int.ofNat x != Int.ofNat y) = false by rw [q];exact bne_self_eq_false _)) ?_
   conv => whnf
   exact ⟨i + 1,⟨by omega,he⟩,by omega,(by refine ⟨rfl,rfl,rfl,rfl,?_,?_⟩ <;> repeat' (first|exact trivial|exact rfl|exact Nat.zero_le _|exact congrArg (fun z => some (AV.int .i64 z)) (show IntKind.i64.wrap (Int.ofNat i + 1) = Int.ofNat (i + 1) from qa5 (m :=i + 1) (by omega))|exact qad la|exact qad lb|exact kle rfl|exact qad (by assumption)|exact qad (qag _)|exact qad (qat _)|exact mxI rfl|apply And.intro))⟩
  ·rw [if_neg q] at he
   refine qaa ((show (Int.ofNat x != Int.ofNat y) = true from bne_iff_ne.2 fun z => q (Int.ofNat.inj z))) ?_
   conv => whnf
   refine qaa (qaj ja) ?_
   conv => whnf
   refine qaf (nthP (g0)) ?_
   conv => whnf
   refine qaa (qaj jb) ?_
   conv => whnf
   refine qaf (nthP (g1)) ?_
   conv => whnf
   refine qae hS (by kernel_rfl) ?_
   conv => whnf
   exact ⟨_,rfl,wkb (by rw [← he];exact decide_eq_decide.2 Int.ofNat_lt)⟩
 ·refine qac (qbh (show ¬ i < (zl a).length by omega)) ?_
  conv => whnf
  rw [List.drop_eq_nil_of_le (by omega)] at he
  rw [← he]
  exact ⟨_,rfl,Wk.refl _⟩
end
end Go.Abs.Seat
