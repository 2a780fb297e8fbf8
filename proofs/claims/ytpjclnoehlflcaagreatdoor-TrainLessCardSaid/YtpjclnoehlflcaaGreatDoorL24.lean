/-
  The law TrainLess.
-/
import Derived.Test.YtpjclnoehlflcaaGreatDoorL21
import Derived.Test.YtpjclnoehlflcaaGreatDoorL22
import Derived.Test.YtpjclnoehlflcaaGreatDoorL23
import Derived.Test.YtpjclnoehlflcaaGreatDoorU17
/-! The law TrainLess. -/
namespace Go.Abs.Seat
open Go Go.Abs Go.Proofs.Tryz
set_option maxRecDepth 100000
set_option maxHeartbeats 40000000
attribute [local irreducible] IntKind.wrap pEq
theorem few_pure (l:List (Int × Int)):Pure prog 43 [pv l] (.bool (decide ((l.length:Int) ≤ 5))) :=by
 have ll :=flat_no l
 refine zA fun S q pc hS hq hC hE => ?_
 conv=>whnf
 exact ⟨_,rfl,Wk.refl _⟩
theorem few_nils:Pure prog 43 [.nils] (.bool true) :=by
 refine zA fun S q pc hS hq hC hE => ?_
 conv=>whnf
 exact ⟨_,rfl,Wk.refl _⟩
theorem few_b {T:AV} {tl:List (Int × Int)} (h:PQ T tl):∃ b,Pure prog 43 [T] (.bool b) ∧ (b = true → tl.length ≤ 5) :=by
 rcases h with ⟨rfl,rfl⟩ | rfl
 ·exact ⟨true,few_nils,fun _ => Nat.zero_le _⟩
 ·exact ⟨_,few_pure tl,fun h => by have :=of_decide_eq_true h;omega⟩
theorem targets_b {T:AV} {tl:List (Int × Int)} (h:PQ T tl) (hl:tl.length ≤ 5):∃ b,Pure prog 45 [T] (.bool b) ∧ (b = true → T = pv tl ∧ tgOk tl) ∧ (b = true → T ≠ .nils) :=by
 rcases h with ⟨rfl,rfl⟩ | rfl
 ·exact ⟨false,rTargets_nils,(fun h => nomatch h),(fun h => nomatch h)⟩
 ·exact ⟨decide (tgOk tl),rTargets_pure tl (by omega) decide_eq_true_iff,fun h => ⟨rfl,of_decide_eq_true h⟩,fun _ h => nomatch h⟩
theorem less_no (hk:Pure prog 16 [] (.bool true)) {v w N T:AV} {k j i:Nat} (sV:v = .nils ∧ k = 0 ∨ ∃ xs,v = .lst xs k .no ∧ Lives noL xs) {f:List Int} (hf:IL w f)
  (sN:N = .nils ∧ j = 0 ∨ ∃ xs,N = .lst xs j .no ∧ Lives noL xs) (sT:T = .nils ∧ i = 0 ∨ ∃ xs,T = .lst xs i .no ∧ Lives noL xs)
  (n d m u z e a c p s q t:Int) {bB bW:Bool} (pB:Pure prog 15 [w,.nils] (.bool bB)) (pw:Pure prog 43 [T] (.bool bW)) (h:k ≤ 8 → bB = true → j ≤ 8 → bW = true → False) :
  Pure prog 13 [v,fv n d,iv m,w,iv u,iv z,iv e,rv a c p s N,T,iv q,iv t] (.bool true) :=by
 have li :=ivs_no f
 refine Or.elim (Classical.em (k ≤ 8)) (fun h1 => ?_) (fun h1 => ?_)
 ·cases bB
  ·rcases sV with ⟨rfl,rfl⟩ | ⟨xs,rfl,lx⟩ <;> rcases hf.cs with rfl | rfl <;> rcases sN with ⟨rfl,rfl⟩ | ⟨ys,rfl,ly⟩ <;> rcases sT with ⟨rfl,rfl⟩ | ⟨zs,rfl,lz⟩
   all_goals first
    |omega
    |skip
     refine zA fun S q pc hS hq hC hE => ?_
     conv=>whnf
     repeat ((first
      |refine sym_pure hC (slim_yes (by omega)) ?_
      |refine sym_pure hC (slim_not (by omega)) ?_
      |refine sym_pure hC (pB) ?_
      |refine sym_pure hC (pw) ?_
      |refine sym_pure hC (hk) ?_
      |refine zd hS ?_
      |refine sym_eq hq true (eqBool_same _ _) ?_
      |rw [beq_self_eq_true]
      |rw [bne_self_eq_false]);conv=>whnf)
     exact ⟨_,rfl,Wk.refl _⟩
  ·refine Or.elim (Classical.em (j ≤ 8)) (fun h2 => ?_) (fun h2 => ?_)
   ·cases bW
    ·rcases sV with ⟨rfl,rfl⟩ | ⟨xs,rfl,lx⟩ <;> rcases hf.cs with rfl | rfl <;> rcases sN with ⟨rfl,rfl⟩ | ⟨ys,rfl,ly⟩ <;> rcases sT with ⟨rfl,rfl⟩ | ⟨zs,rfl,lz⟩
     all_goals first
      |omega
      |skip
       refine zA fun S q pc hS hq hC hE => ?_
       conv=>whnf
       repeat ((first
        |refine sym_pure hC (slim_yes (by omega)) ?_
        |refine sym_pure hC (slim_not (by omega)) ?_
        |refine sym_pure hC (pB) ?_
        |refine sym_pure hC (pw) ?_
        |refine sym_pure hC (hk) ?_
        |refine zd hS ?_
        |refine sym_eq hq true (eqBool_same _ _) ?_
        |rw [beq_self_eq_true]
        |rw [bne_self_eq_false]);conv=>whnf)
       exact ⟨_,rfl,Wk.refl _⟩
    ·exact (h h1 rfl h2 rfl).elim
   ·rcases sV with ⟨rfl,rfl⟩ | ⟨xs,rfl,lx⟩ <;> rcases hf.cs with rfl | rfl <;> rcases sN with ⟨rfl,rfl⟩ | ⟨ys,rfl,ly⟩ <;> rcases sT with ⟨rfl,rfl⟩ | ⟨zs,rfl,lz⟩
    all_goals first
     |omega
     |skip
      refine zA fun S q pc hS hq hC hE => ?_
      conv=>whnf
      repeat ((first
       |refine sym_pure hC (slim_yes (by omega)) ?_
       |refine sym_pure hC (slim_not (by omega)) ?_
       |refine sym_pure hC (pB) ?_
       |refine sym_pure hC (pw) ?_
       |refine sym_pure hC (hk) ?_
       |refine zd hS ?_
       |refine sym_eq hq true (eqBool_same _ _) ?_
       |rw [beq_self_eq_true]
       |rw [bne_self_eq_false]);conv=>whnf)
      exact ⟨_,rfl,Wk.refl _⟩
 ·rcases sV with ⟨rfl,rfl⟩ | ⟨xs,rfl,lx⟩ <;> rcases hf.cs with rfl | rfl <;> rcases sN with ⟨rfl,rfl⟩ | ⟨ys,rfl,ly⟩ <;> rcases sT with ⟨rfl,rfl⟩ | ⟨zs,rfl,lz⟩
  all_goals first
   |omega
   |skip
    refine zA fun S q pc hS hq hC hE => ?_
    conv=>whnf
    repeat ((first
     |refine sym_pure hC (slim_yes (by omega)) ?_
     |refine sym_pure hC (slim_not (by omega)) ?_
     |refine sym_pure hC (pB) ?_
     |refine sym_pure hC (pw) ?_
     |refine sym_pure hC (hk) ?_
     |refine zd hS ?_
     |refine sym_eq hq true (eqBool_same _ _) ?_
     |rw [beq_self_eq_true]
     |rw [bne_self_eq_false]);conv=>whnf)
    exact ⟨_,rfl,Wk.refl _⟩
theorem trainLess (hk:Pure prog 16 [] (.bool true)) {v:AV} {k:Nat} (hv:(∃ x y,TV v k x y) ∨ TN v k) (n d m:Int) {w:AV} {f:List Int} (hf:IL w f) (u z e a b p s:Int) (hs:-9223372036854775808 ≤ s ∧ s < 9223372036854775808) {N:AV} {l:List Int} (hN:IL N l) {T:AV} {tl:List (Int × Int)} (hT:PQ T tl) (q t:Int) :
  Pure prog 13 [v,fv n d,iv m,w,iv u,iv z,iv e,rv a b p s N,T,iv q,iv t] (.bool true) :=by
 obtain ⟨bT,sv,hx⟩ :=ts_of hv
 obtain ⟨bB,pB,iB⟩ :=brief_pure hf (z :=.nils) (s :=[]) (.inl ⟨rfl,rfl⟩)
 obtain ⟨bW,pw,iW⟩ :=few_b hT
 have sN:N = .nils ∧ l.length = 0 ∨ ∃ xs,N = .lst xs l.length .no ∧ Lives noL xs :=hN.elim (fun h => .inl ⟨h.1,by rw [h.2];rfl⟩) fun h => .inr ⟨_,h,ivs_no l⟩
 have sT:T = .nils ∧ tl.length = 0 ∨ ∃ xs,T = .lst xs tl.length .no ∧ Lives noL xs :=hT.elim (fun h => .inl ⟨h.1,by rw [h.2];rfl⟩) fun h => .inr ⟨_,h,flat_no tl⟩
 by_cases hall:k ≤ 8 ∧ bB = true ∧ l.length ≤ 8 ∧ bW = true
 ·obtain ⟨k8,rfl,l8,rfl⟩ :=hall
  have f10 :=(iB.1 rfl).1
  have t5 :=iW rfl
  have rT :=sv.rT k8
  obtain ⟨bF,pF,iF⟩ :=dec_b (rFraction_pure n d)
  obtain ⟨bN,pN,iN⟩ :=dec_b (rNumber_pure u)
  obtain ⟨bL,pL,iL⟩ :=dec_b (rLimit_pure m)
  obtain ⟨bE,_,re,ie⟩ :=feasts_b hf (by omega)
  obtain ⟨bR,_,rR,eR⟩ :=rule_b hN (by omega) a b p s hs
  obtain ⟨bG,rG,eG,nG⟩ :=targets_b hT t5
  obtain ⟨b1,r1,i1⟩ :=dec_b (rShares_pure q)
  obtain ⟨b2,r2,i2⟩ :=dec_b (rShares_pure (IntKind.i64.wrap (q + 1)))
  obtain ⟨bM,rM,iM⟩ :=dec_b (rNumber_pure t)
  have hT0:bT = true → v ≠ .nils :=fun h e => by
   obtain ⟨x,y,tv⟩ :=hx h
   obtain ⟨xs,e2,_⟩ :=tv.sh
   rw [e] at e2
   cases e2
  have hS1:bT = true → bF = true → bL = true → bE = true → bN = true → 0 ≤ e → m + e ≤ 10800 → ∀ (w2:AV) (g:List Int),IL w2 g → feOk g → f.Sublist g → ∃ B1 B2 e1 e2,Pure prog 17 [v,fv n d,iv m,w,iv u] (.tup [Seat.sv B1,iv e1]) ∧ Pure prog 17 [v,fv n d,iv (m + e),w2,iv u] (.tup [Seat.sv B2,iv e2]) ∧ StEnd B1 B2 e1 e2 :=by
   intro h1 h2 h3 h4 h5 h6 h7 w2 g hg og hsub
   obtain ⟨x,y,tv⟩ :=hx h1
   obtain ⟨n,d,rfl,rfl,q1,q2,q3⟩ :=isF_nat (iF.1 h2)
   obtain ⟨m,rfl,q5⟩ :=int_nat (iL.1 h3)
   obtain ⟨u,rfl,q4⟩ :=int_nat (iN.1 h5)
   obtain ⟨e,rfl⟩ :=Int.eq_ofNat_of_zero_le h6
   have h7:(m:Int) + (e:Int) ≤ 10800 :=h7
   obtain ⟨B1,B2,e1,e2,p1,p2,p3⟩ :=set_two tv n d m e q1 ⟨q2,q3⟩ (by omega) hf (ie.1 h4) hg og hsub u (by omega)
   exact ⟨B1,B2,e1,e2,p1,p2,p3⟩
  have hS2:bR = true → bG = true → b1 = true → b2 = true → bM = true → ∃ v1 v2 n1 n2 e1 e2,Pure prog 44 [rv a b p s N,T,iv q,iv t] (.tup [v1,iv n1,iv e1]) ∧ Pure prog 44 [rv a b p s N,T,iv (IntKind.i64.wrap (q + 1)),iv t] (.tup [v2,iv n2,iv e2]) ∧ ShEnd v1 v2 n1 n2 e1 e2 :=by
   intro h1 h2 h3 h4 h5
   obtain ⟨rfl,g1⟩ :=eG h2
   have hq :=i1.1 h3
   have hq2 :=i2.1 h4
   have ht :=iM.1 h5
   have hw:IntKind.i64.wrap (q + 1) = q + 1 :=wrapI (by omega) (by omega)
   rw [hw] at hq2 ⊢
   obtain ⟨v1,v2,n1,n2,e1,e2,p1,p2,p3⟩ :=share_two hN (by omega) a b p s hs tl q t ⟨eR.1 h1,g1.1,g1.2,hq,ht.1,ht.2⟩ ⟨eR.1 h1,g1.1,g1.2,hq2,ht.1,ht.2⟩
   exact ⟨v1,v2,n1,n2,e1,e2,p1,p2,p3⟩
  rcases sv.sh with h0 | h0
  ·exact less_run1 hk h0 k8 hf sN l8 sT n d m u z e a b p s q t pB pw rT pF pL re pN rR rG r1 r2 rM (fun h => iL.1 h) (fun h => ie.1 h) hT0 nG hS1 hS2
  ·rcases hf with ⟨hw,h2⟩ | hw
   ·exact less_run2 hk h0 k8 hw h2 sN l8 sT n d m u z e a b p s q t pB pw rT pF pL re pN rR rG r1 r2 rM (fun h => iL.1 h) (fun h => ie.1 h) hT0 nG hS1 hS2
   ·exact less_run3 hk h0 k8 hw sN l8 sT n d m u z e a b p s q t pB pw rT pF pL re pN rR rG r1 r2 rM (fun h => iL.1 h) (fun h => ie.1 h) hT0 nG hS1 hS2
 ·exact less_no hk sv.sh hf sN sT n d m u z e a b p s q t pB pw fun h1 h2 h3 h4 => hall ⟨h1,h2,h3,h4⟩
end Go.Abs.Seat
