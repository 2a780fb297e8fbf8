/-
  The parts of a dial: ranges, leap years, months, the moon's age.
-/
import Derived.Test.YtcnidgafdonioaaGreatVU7
import Derived.Test.YtcnidgafdonioaaGreatVU9
namespace Go.Abs.Seat
noncomputable section
open Go Go.Abs Go.Proofs.Tryz
set_option maxRecDepth 100000
set_option maxHeartbeats 40000000
attribute [local irreducible] IntKind.wrap pEq
theorem Pure.ofArgs {P:Program} {f:FuncId} {args args':List AV} {v:AV} (hr:∀ g w vs,VRels g w args vs → VRels g w args' vs) (hl:∀ L,Lives L args → Lives L args') (h:Pure P f args' v):Pure P f args v :=
 ⟨h.1,fun B H g vs cs w hr' hv hl' => h.2 B H g vs cs w hr' (hr g w _ hv) (hl _ hl')⟩
theorem din_pure (x a b:Int):Pure prog 119 [iv x,iv a,iv b] (.bool (decide (a ≤ x ∧ x ≤ b))) :=by
 refine pure_sym hE rfl (by repeat' (first | exact trivial | assumption | exact flat_no _ | exact (fun _ h => nomatch h) | apply And.intro)) (by repeat' (first | exact trivial | assumption | exact flat_no _ | exact (fun _ h => nomatch h) | apply And.intro)) fun S q pc hS hq hC hE => ?_
 conv => whnf
 by_cases h:a ≤ x
 ·rw [show decide (x ≥ a) = true from decide_eq_true h]
  conv => whnf
  exact ⟨_,rfl,wkb (by simp [h])⟩
 ·rw [show decide (x ≥ a) = false from decide_eq_false h]
  conv => whnf
  exact ⟨_,rfl,wkb (by simp [h])⟩
theorem in6_pure (x a b:Int):Pure prog 60 [iv x,iv a,iv b] (.bool (decide (a ≤ x ∧ x ≤ b))) :=by
 refine pure_sym hE rfl (by repeat' (first | exact trivial | assumption | exact flat_no _ | exact (fun _ h => nomatch h) | apply And.intro)) (by repeat' (first | exact trivial | assumption | exact flat_no _ | exact (fun _ h => nomatch h) | apply And.intro)) fun S q pc hS hq hC hE => ?_
 conv => whnf
 by_cases h:a ≤ x
 ·rw [show decide (x ≥ a) = true from decide_eq_true h]
  conv => whnf
  exact ⟨_,rfl,wkb (by simp [h])⟩
 ·rw [show decide (x ≥ a) = false from decide_eq_false h]
  conv => whnf
  exact ⟨_,rfl,wkb (by simp [h])⟩
theorem isYear_pure (x:Int):Pure prog 65 [iv x] (.bool (decide (0 ≤ x ∧ x ≤ 4000))) :=by
 refine pure_sym hE rfl (by repeat' (first | exact trivial | assumption | exact flat_no _ | exact (fun _ h => nomatch h) | apply And.intro)) (by repeat' (first | exact trivial | assumption | exact flat_no _ | exact (fun _ h => nomatch h) | apply And.intro)) fun S q pc hS hq hC hE => ?_
 conv => whnf
 refine sym_pure hC (din_pure x 0 4000) ?_
 conv => whnf
 exact ⟨_,rfl,Wk.refl _⟩
theorem rYear_pure (x:Int):Pure prog 23 [iv x] (.bool (decide (0 ≤ x ∧ x ≤ 4000))) :=by
 refine pure_sym hE rfl (by repeat' (first | exact trivial | assumption | exact flat_no _ | exact (fun _ h => nomatch h) | apply And.intro)) (by repeat' (first | exact trivial | assumption | exact flat_no _ | exact (fun _ h => nomatch h) | apply And.intro)) fun S q pc hS hq hC hE => ?_
 conv => whnf
 refine sym_pure hC (in6_pure x 0 4000) ?_
 conv => whnf
 exact ⟨_,rfl,Wk.refl _⟩
abbrev mnV (n d a:Int):AV :=.agg [iv n,iv d,iv a]
theorem isMoon_pure (n d a:Int):Pure prog 63 [mnV n d a] (.bool (decide (moonOk n d a))) :=by
 have hin :=din_pure
 refine pure_sym hE rfl (by repeat' (first | exact trivial | assumption | exact flat_no _ | exact (fun _ h => nomatch h) | apply And.intro)) (by repeat' (first | exact trivial | assumption | exact flat_no _ | exact (fun _ h => nomatch h) | apply And.intro)) fun S q pc hS hq hC hE => ?_
 conv => whnf
 refine sym_pure hC (hin d 1 1000) ?_
 conv => whnf
 by_cases h1:1 ≤ d ∧ d ≤ 1000
 ·rw [decide_eq_true h1]
  conv => whnf
  rw [show IntKind.i64.wrap (29 * d) = 29 * d from wrapI (by omega) (by omega),show IntKind.i64.wrap (30 * d) = 30 * d from wrapI (by omega) (by omega)]
  refine sym_pure hC (hin n (29 * d) (30 * d)) ?_
  conv => whnf
  by_cases h2:29 * d ≤ n ∧ n ≤ 30 * d
  ·rw [decide_eq_true h2]
   conv => whnf
   rw [show IntKind.i64.wrap (n - 1) = n - 1 from wrapI (by omega) (by omega)]
   refine sym_pure hC (hin a 0 (n - 1)) ?_
   conv => whnf
   exact ⟨_,rfl,wkb (by unfold moonOk;simp only [h1,h2,true_and,and_self])⟩
  ·rw [decide_eq_false h2]
   conv => whnf
   exact ⟨_,rfl,wkb (decide_eq_false fun z => h2 z.2.1).symm⟩
 ·rw [decide_eq_false h1]
  conv => whnf
  exact ⟨_,rfl,wkb (decide_eq_false fun z => h1 z.1).symm⟩
theorem rMoon_pure (n d a:Int):Pure prog 21 [mnV n d a] (.bool (decide (moonOk n d a))) :=by
 have hin :=in6_pure
 refine pure_sym hE rfl (by repeat' (first | exact trivial | assumption | exact flat_no _ | exact (fun _ h => nomatch h) | apply And.intro)) (by repeat' (first | exact trivial | assumption | exact flat_no _ | exact (fun _ h => nomatch h) | apply And.intro)) fun S q pc hS hq hC hE => ?_
 conv => whnf
 refine sym_pure hC (hin d 1 1000) ?_
 conv => whnf
 by_cases h1:1 ≤ d ∧ d ≤ 1000
 ·rw [decide_eq_true h1]
  conv => whnf
  rw [show IntKind.i64.wrap (29 * d) = 29 * d from wrapI (by omega) (by omega),show IntKind.i64.wrap (30 * d) = 30 * d from wrapI (by omega) (by omega)]
  refine sym_pure hC (hin n (29 * d) (30 * d)) ?_
  conv => whnf
  by_cases h2:29 * d ≤ n ∧ n ≤ 30 * d
  ·rw [decide_eq_true h2]
   conv => whnf
   rw [show IntKind.i64.wrap (n - 1) = n - 1 from wrapI (by omega) (by omega)]
   refine sym_pure hC (hin a 0 (n - 1)) ?_
   conv => whnf
   exact ⟨_,rfl,wkb (by unfold moonOk;simp only [h1,h2,true_and,and_self])⟩
  ·rw [decide_eq_false h2]
   conv => whnf
   exact ⟨_,rfl,wkb (decide_eq_false fun z => h2 z.2.1).symm⟩
 ·rw [decide_eq_false h1]
  conv => whnf
  exact ⟨_,rfl,wkb (decide_eq_false fun z => h1 z.1).symm⟩
theorem down_pure (a b:Int) (hb:0 < b ∧ b ≤ 1000000) (ha:-1000000000000 ≤ a ∧ a ≤ 1000000000000):Pure prog 191 [iv a,iv b] (iv (a / b)) :=by
 have e :=down_eq a b hb.1
 have hq :=Int.natAbs_tdiv_le_natAbs a b
 have hb0:(!(b == 0)) = true :=by rw [beq_eq_false_iff_ne.2 (by omega)];rfl
 have hm:b * a.tdiv b = a - a.tmod b :=by have :=Int.mul_tdiv_add_tmod a b;omega
 have h2:a.tmod b < b :=Int.tmod_lt_of_pos a hb.1
 have h3:-b < a.tmod b :=Int.lt_tmod_of_pos a hb.1
 have w1:IntKind.i64.wrap (a.tdiv b) = a.tdiv b :=wrapI (by omega) (by omega)
 have w2:IntKind.i64.wrap (a.tdiv b * b) = b * a.tdiv b :=by rw [Int.mul_comm];exact wrapI (by omega) (by omega)
 have w3:IntKind.i64.wrap (a.tdiv b - 1) = a.tdiv b - 1 :=wrapI (by omega) (by omega)
 refine pure_sym hE rfl (by repeat' (first | exact trivial | assumption | exact flat_no _ | exact (fun _ h => nomatch h) | apply And.intro)) (by repeat' (first | exact trivial | assumption | exact flat_no _ | exact (fun _ h => nomatch h) | apply And.intro)) fun S q pc hS hq hC hE => ?_
 conv => whnf
 refine bool_true (hb0) ?_
 conv => whnf
 rw [w1]
 conv => whnf
 rw [w2]
 by_cases h:b * a.tdiv b > a
 ·rw [if_pos h] at e
  refine bool_true (decide_eq_true h) ?_
  conv => whnf
  rw [w3,e]
  exact ⟨_,rfl,Wk.refl _⟩
 ·rw [if_neg h] at e
  refine bool_false (decide_eq_false h) ?_
  conv => whnf
  rw [e]
  exact ⟨_,rfl,Wk.refl _⟩
theorem age_pure {n d a:Int} (h:moonOk n d a) (x:Int) (hx:0 ≤ x ∧ x ≤ 10000000):Pure prog 169 [mnV n d a,iv x] (iv (ageM n d a x)) :=by
 obtain ⟨⟨d1,d2⟩,⟨n1,n2⟩,a1,a2⟩ :=h
 have hn:0 < n :=by omega
 have hd:0 < d :=by omega
 have m1:0 ≤ (x + 1) * d :=Int.mul_nonneg (by omega) (by omega)
 have m2:(x + 1) * d ≤ 10000001 * 1000 :=Int.mul_le_mul (by omega) (by omega) (by omega) (by omega)
 have w1:IntKind.i64.wrap (x + 1) = x + 1 :=wrapI (by omega) (by omega)
 have w2:IntKind.i64.wrap ((x + 1) * d) = (x + 1) * d :=wrapI (by omega) (by omega)
 have w3:IntKind.i64.wrap ((x + 1) * d - 1) = (x + 1) * d - 1 :=wrapI (by omega) (by omega)
 have w4:IntKind.i64.wrap ((x + 1) * d - 1 - a) = (x + 1) * d - 1 - a :=wrapI (by omega) (by omega)
 have p1 :=down_pure ((x + 1) * d - 1 - a) n (by omega) (by omega)
 have k1 :=Int.ediv_mul_le ((x + 1) * d - 1 - a) (Int.ne_of_gt hn)
 have k2:(x + 1) * d - 1 - a < ((x + 1) * d - 1 - a) / n * n + n :=by
  have :=Int.lt_ediv_add_one_mul_self ((x + 1) * d - 1 - a) hn
  have e:(((x + 1) * d - 1 - a) / n + 1) * n = ((x + 1) * d - 1 - a) / n * n + n :=by rw [Int.add_mul,Int.one_mul]
  omega
 unfold ageM nwM
 generalize ((x + 1) * d - 1 - a) / n = k at *
 have w5:IntKind.i64.wrap (k * n) = k * n :=wrapI (by omega) (by omega)
 have w6:IntKind.i64.wrap (k * n + a) = k * n + a :=wrapI (by omega) (by omega)
 have p2 :=down_pure (k * n + a) d (by omega) (by omega)
 have j1 :=Int.ediv_mul_le (k * n + a) (Int.ne_of_gt hd)
 have q1:-100000 ≤ (k * n + a) / d :=Int.le_ediv_of_mul_le hd (by omega)
 have q2:(k * n + a) / d ≤ 20000000001 :=by
  apply Int.le_of_lt_add_one
  apply Int.ediv_lt_of_lt_mul hd
  have:(20000000001 + 1) * 1 ≤ (20000000001 + 1) * d :=Int.mul_le_mul_of_nonneg_left d1 (by decide)
  omega
 generalize (k * n + a) / d = r at *
 have w7:IntKind.i64.wrap (x - r) = x - r :=wrapI (by omega) (by omega)
 refine pure_sym hE rfl (by repeat' (first | exact trivial | assumption | exact flat_no _ | exact (fun _ h => nomatch h) | apply And.intro)) (by repeat' (first | exact trivial | assumption | exact flat_no _ | exact (fun _ h => nomatch h) | apply And.intro)) fun S q pc hS hq hC hE => ?_
 conv => whnf
 rw [w1]
 conv => whnf
 rw [w2]
 conv => whnf
 rw [w3]
 conv => whnf
 rw [w4]
 refine sym_pure hC (p1) ?_
 conv => whnf
 rw [w5]
 conv => whnf
 rw [w6]
 refine sym_pure hC (p2) ?_
 conv => whnf
 rw [w7]
 exact ⟨_,rfl,Wk.refl _⟩
end
end Go.Abs.Seat
