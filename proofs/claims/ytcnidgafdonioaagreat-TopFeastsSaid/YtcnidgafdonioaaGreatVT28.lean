/-
  The best settings: of no feasts, and what is refused.
-/
import Derived.Test.YtcnidgafdonioaaGreatVU10
/-! The best settings: of no feasts, and what is refused. -/
namespace Go.Abs.Seat
noncomputable section
open Go Go.Abs Go.Proofs.Tryz
set_option maxRecDepth 100000
set_option maxHeartbeats 40000000
attribute [local irreducible] IntKind.wrap pEq
theorem okS_none (L u:Nat):okS [] L u (2 ^ ([]:List Int).length) = if kp L u 0 [] then [[]] else [] :=by
 show okS [] L u 1 = _
 rw [okS,okS]
 rfl
theorem settings_nils {v:AV} {k x y:Nat} (hv:TV v k x y) (n d m:Nat) (hn:n ≤ 50000) (hnd:1 ≤ d ∧ d ≤ 50000) (hm:m ≤ 10800) (u:Nat) (hu:u ≤ 10000) :
  Pure prog 30 [v,fv (Int.ofNat n) (Int.ofNat d),nv m,.nils,nv u] (setV (okS [] (lastV x y n d m) u (2 ^ ([]:List Int).length))) :=by
 have hw :=wrongBy_pure hv n d hn hnd
 have iT :=hv.isT
 obtain ⟨q1,q2,q3⟩ :=dif_le (n :=n) (d :=d) (x :=x) (y :=y) hn hnd.2 hv.bx.2 hv.by_.2
 have hl :=wlasts_pure x y n d m q1 q2 q3 hm
 have lv :=setV_no (okS [] (lastV x y n d m) u (2 ^ ([]:List Int).length))
 have pk :=keeps_nil (w :=.nils) (f :=[]) (.inl ⟨rfl,rfl⟩) (lastV x y n d m) u hu (b :=decide (kp (lastV x y n d m) u 0 [])) decide_eq_true_iff
 rw [okS_none] at lv ⊢
 generalize lastV x y n d m = L at *
 obtain ⟨xs,rfl,lx⟩ :=hv.sh
 refine pure_sym hE rfl (by repeat' (first | exact trivial | assumption | exact flat_no _ | exact (fun _ h => nomatch h) | apply And.intro)) (by repeat' (first | exact trivial | assumption | exact flat_no _ | exact (fun _ h => nomatch h) | apply And.intro)) fun S q pc hS hq hC hE => ?_
 conv => whnf
 refine sym_pure hC (iT) ?_
 conv => whnf
 refine sym_pure hC (isFraction_pure _ _) ?_
 conv => whnf
 rw [decide_eq_true (isF_N hn hnd.1 hnd.2)]
 conv => whnf
 refine sym_pure hC (isLimit_pure _) ?_
 conv => whnf
 rw [decide_eq_true (show (0:Int) ≤ Int.ofNat m ∧ Int.ofNat m ≤ 10800 by simp only [Int.ofNat_eq_natCast];omega)]
 conv => whnf
 refine sym_pure hC (areFeasts_nil) ?_
 conv => whnf
 refine sym_pure hC (isTurn_pure _) ?_
 conv => whnf
 rw [decide_eq_true (show (0:Int) ≤ Int.ofNat u ∧ Int.ofNat u ≤ 10000 by simp only [Int.ofNat_eq_natCast];omega)]
 conv => whnf
 refine sym_pure hC (hw) ?_
 conv => whnf
 refine sym_pure hC (hl) ?_
 conv => whnf
 rw [show IntKind.i64.wrap (1 * 2 ^ min (0:Int).toNat IntKind.i64.bits) = 1 from wrapI (by decide) (by decide)]
 refine sym_unroll hE hS ?_
 conv => whnf
 refine sym_unroll hE hS ?_
 conv => whnf
 refine sym_pure hC (pk) ?_
 conv => whnf
 by_cases h:kp L u 0 []
 ·rw [if_pos h] at lv ⊢
  refine bool_true (decide_eq_true h) ?_
  conv => whnf
  rw [show IntKind.i64.wrap (0 + 1) = 1 from wrapI (by decide) (by decide)]
  conv => whnf
  refine sym_unroll hE hS ?_
  conv => whnf
  have hb :=bestW [[]] 1 (by decide) (fun z hz => by rw [List.mem_singleton.1 hz];decide)
  have hb:Pure prog _ [.lst [.nils] 1 (.ch 1),_] (.tup [.nils,.bool true]) :=hb
  refine sym_pure hC (hb) ?_
  conv => whnf
  exact ⟨_,rfl,Wk.refl _⟩
 ·rw [if_neg h] at lv ⊢
  refine bool_false (decide_eq_false h) ?_
  conv => whnf
  rw [show IntKind.i64.wrap (0 + 1) = 1 from wrapI (by decide) (by decide)]
  conv => whnf
  refine sym_unroll hE hS ?_
  conv => whnf
  refine sym_pure hC (bestN) ?_
  conv => whnf
  exact ⟨_,rfl,Wk.refl _⟩
section
variable {v:AV} {k:Nat} {b bF bE bN bL:Bool} {n d u m:Int} {w:AV} {f:List Int}
end
end
end Go.Abs.Seat

