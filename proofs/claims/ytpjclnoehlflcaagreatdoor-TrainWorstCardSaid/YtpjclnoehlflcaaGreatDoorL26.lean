/-
  The law TrainWorst, of whatever comes in.
-/
import Derived.Test.YtpjclnoehlflcaaGreatDoorL25
import Derived.Test.YtpjclnoehlflcaaGreatDoorU18
/-! The law TrainWorst, of whatever comes in. -/
namespace Go.Abs.Seat
open Go Go.Abs Go.Proofs.Tryz
set_option maxRecDepth 100000
set_option maxHeartbeats 40000000
attribute [local irreducible] IntKind.wrap pEq
theorem worst_no0 (hk:Pure prog 16 [] (.bool true)) {N Mv T:AV} {l M:List Int} {tl:List (Int × Int)} (hN:IL N l) (hT:PQ T tl) (hM:IL Mv M) (a b p s q t:Int) {bW:Bool} (pw:Pure prog 43 [T] (.bool bW)) (h:l.length ≤ 8 → bW = true → False) :
  Pure prog 12 [rv a b p s N,T,iv q,iv t,Mv] (.bool true) :=by
 have l0 :=ivs_no l
 have l1 :=ivs_no M
 have l2 :=flat_no tl
 by_cases h8:l.length ≤ 8
 ·obtain rfl:bW = false :=Bool.eq_false_iff.2 (h h8)
  rcases hN.cs with rfl | rfl <;> rcases hT with ⟨rfl,rfl⟩ | rfl <;> rcases hM with ⟨rfl,rfl⟩ | rfl
  all_goals
   refine zA fun S q pc hS hq hC hE => ?_
   conv=>whnf
   repeat ((first
    |refine sym_pure hC (slim_yes (by omega)) ?_
    |refine sym_pure hC (slim_yes (Nat.zero_le 8)) ?_
    |refine sym_pure hC (pw) ?_
    |refine sym_pure hC (hk) ?_
    |refine zd hS ?_
    |refine sym_eq hq true (eqBool_same _ _) ?_
    |rw [beq_self_eq_true]
    |rw [bne_self_eq_false]);conv=>whnf)
   exact ⟨_,rfl,Wk.refl _⟩
 ·rcases hN with ⟨rfl,rfl⟩ | rfl
  ·exact absurd (Nat.zero_le 8) h8
  ·rcases hT with ⟨rfl,rfl⟩ | rfl <;> rcases hM with ⟨rfl,rfl⟩ | rfl
   all_goals
    refine zA fun S q pc hS hq hC hE => ?_
    conv=>whnf
    repeat ((first
     |refine sym_pure hC (slim_not (by omega)) ?_
     |refine sym_pure hC (hk) ?_
     |refine zd hS ?_
     |refine sym_eq hq true (eqBool_same _ _) ?_
     |rw [beq_self_eq_true]
     |rw [bne_self_eq_false]);conv=>whnf)
    exact ⟨_,rfl,Wk.refl _⟩
theorem worst_no (hk:Pure prog 16 [] (.bool true)) {N Mv T:AV} {l M:List Int} {tl:List (Int × Int)} (hN:IL N l) (hT:PQ T tl) (hM:IL Mv M) (a b p s q t:Int) {bW bR bG b1 bM:Bool} (pw:Pure prog 43 [T] (.bool bW))
  (rR:Pure prog 32 [rv a b p s N] (.bool bR)) (rG:Pure prog 45 [T] (.bool bG)) (r1:Pure prog 46 [iv q] (.bool b1)) (rM:Pure prog 22 [iv t] (.bool bM)) (hG:bG = true → T = pv tl)
  (h:l.length ≤ 8 → bW = true → bR = true → bG = true → b1 = true → bM = true → M.length ≠ tl.length) :
  Pure prog 12 [rv a b p s N,T,iv q,iv t,Mv] (.bool true) :=by
 have lN :=hN.no
 have lT :=hT.no
 have lM :=hM.no
 have l0 :=ivs_no l
 have l1 :=ivs_no M
 have l2 :=flat_no tl
 by_cases h8:l.length ≤ 8
 ·cases bW
  ·exact worst_no0 hk hN hT hM a b p s q t pw fun _ z => nomatch z
  ·cases bR
   ·clear hG h
    rcases hN.cs with rfl | rfl <;> rcases hT with ⟨rfl,rfl⟩ | rfl <;> rcases hM with ⟨rfl,rfl⟩ | rfl
    all_goals
     refine zA fun S q pc hS hq hC hE => ?_
     conv=>whnf
     repeat ((first
      |refine sym_pure hC (slim_yes (by omega)) ?_
      |refine sym_pure hC (slim_yes (Nat.zero_le 8)) ?_
      |refine sym_pure hC (slim_not (by omega)) ?_
      |refine sym_pure hC (pw) ?_
      |refine sym_pure hC (rR) ?_
      |refine sym_pure hC (rG) ?_
      |refine sym_pure hC (r1) ?_
      |refine sym_pure hC (rM) ?_
      |refine sym_pure hC (hk) ?_
      |refine zd hS ?_
      |refine sym_eq hq true (eqBool_same _ _) ?_
      |rw [beq_self_eq_true]
      |rw [bne_self_eq_false]);conv=>whnf)
     exact ⟨_,rfl,Wk.refl _⟩
   ·cases bG
    ·clear hG h
     rcases hN.cs with rfl | rfl <;> rcases hT with ⟨rfl,rfl⟩ | rfl <;> rcases hM with ⟨rfl,rfl⟩ | rfl
     all_goals
      refine zA fun S q pc hS hq hC hE => ?_
      conv=>whnf
      repeat ((first
       |refine sym_pure hC (slim_yes (by omega)) ?_
       |refine sym_pure hC (slim_yes (Nat.zero_le 8)) ?_
       |refine sym_pure hC (slim_not (by omega)) ?_
       |refine sym_pure hC (pw) ?_
       |refine sym_pure hC (rR) ?_
       |refine sym_pure hC (rG) ?_
       |refine sym_pure hC (r1) ?_
       |refine sym_pure hC (rM) ?_
       |refine sym_pure hC (hk) ?_
       |refine zd hS ?_
       |refine sym_eq hq true (eqBool_same _ _) ?_
       |rw [beq_self_eq_true]
       |rw [bne_self_eq_false]);conv=>whnf)
      exact ⟨_,rfl,Wk.refl _⟩
    ·obtain rfl :=hG rfl
     clear hG hT
     cases b1
     ·clear h
      rcases hN.cs with rfl | rfl <;> rcases hM with ⟨rfl,rfl⟩ | rfl
      all_goals
       refine zA fun S q pc hS hq hC hE => ?_
       conv=>whnf
       repeat ((first
        |refine sym_pure hC (slim_yes (by omega)) ?_
        |refine sym_pure hC (slim_yes (Nat.zero_le 8)) ?_
        |refine sym_pure hC (pw) ?_
        |refine sym_pure hC (rR) ?_
        |refine sym_pure hC (rG) ?_
        |refine sym_pure hC (r1) ?_
        |refine sym_pure hC (hk) ?_
        |refine zd hS ?_
        |refine sym_eq hq true (eqBool_same _ _) ?_
        |rw [beq_self_eq_true]
        |rw [bne_self_eq_false]);conv=>whnf)
       exact ⟨_,rfl,Wk.refl _⟩
     ·cases bM
      ·clear h
       rcases hN.cs with rfl | rfl <;> rcases hM with ⟨rfl,rfl⟩ | rfl
       all_goals
        refine zA fun S q pc hS hq hC hE => ?_
        conv=>whnf
        repeat ((first
         |refine sym_pure hC (slim_yes (by omega)) ?_
         |refine sym_pure hC (slim_yes (Nat.zero_le 8)) ?_
         |refine sym_pure hC (pw) ?_
         |refine sym_pure hC (rR) ?_
         |refine sym_pure hC (rG) ?_
         |refine sym_pure hC (r1) ?_
         |refine sym_pure hC (rM) ?_
         |refine sym_pure hC (hk) ?_
         |refine zd hS ?_
         |refine sym_eq hq true (eqBool_same _ _) ?_
         |rw [beq_self_eq_true]
         |rw [bne_self_eq_false]);conv=>whnf)
        exact ⟨_,rfl,Wk.refl _⟩
      ·have hne :=h h8 rfl rfl rfl rfl rfl
       clear h
       have c1:M = [] → ((0:Int) != (tl.length:Int)) = true :=fun e => bne_iff_ne.2 fun z => hne (by rw [e];show 0 = _;omega)
       have c2:((M.length:Int) != (tl.length:Int)) = true :=bne_iff_ne.2 fun z => hne (by omega)
       rcases hN.cs with rfl | rfl <;> rcases hM with ⟨rfl,rfl⟩ | rfl
       all_goals
        refine zA fun S q pc hS hq hC hE => ?_
        conv=>whnf
        repeat ((first
         |refine sym_pure hC (slim_yes (by omega)) ?_
         |refine sym_pure hC (slim_yes (Nat.zero_le 8)) ?_
         |refine sym_pure hC (pw) ?_
         |refine sym_pure hC (rR) ?_
         |refine sym_pure hC (rG) ?_
         |refine sym_pure hC (r1) ?_
         |refine sym_pure hC (rM) ?_
         |refine sym_pure hC (hk) ?_
         |rw [c2]
         |rw [(c1 rfl)]
         |refine zd hS ?_
         |refine sym_eq hq true (eqBool_same _ _) ?_
         |rw [beq_self_eq_true]
         |rw [bne_self_eq_false]);conv=>whnf)
        exact ⟨_,rfl,Wk.refl _⟩
 ·exact worst_no0 hk hN hT hM a b p s q t pw fun z _ => h8 z
theorem trainWorst (hk:Pure prog 16 [] (.bool true)) (a b p s:Int) (hs:-9223372036854775808 ≤ s ∧ s < 9223372036854775808) {N:AV} {l:List Int} (hN:IL N l) {T:AV} {tl:List (Int × Int)} (hT:PQ T tl) (q t:Int) {Mv:AV} {M:List Int} (hM:IL Mv M) :
  Pure prog 12 [rv a b p s N,T,iv q,iv t,Mv] (.bool true) :=by
 obtain ⟨bW,pw,iW⟩ :=few_b hT
 by_cases hall:l.length ≤ 8 ∧ bW = true
 ·obtain ⟨l8,rfl⟩ :=hall
  have t5 :=iW rfl
  obtain ⟨bR,_,rR,eR⟩ :=rule_b hN (by omega) a b p s hs
  obtain ⟨bG,rG,eG,nG⟩ :=targets_b hT t5
  obtain ⟨b1,r1,i1⟩ :=dec_b (rShares_pure q)
  obtain ⟨bM,rM,iM⟩ :=dec_b (rNumber_pure t)
  by_cases hx:bR = true ∧ bG = true ∧ b1 = true ∧ bM = true ∧ M.length = tl.length
  ·obtain ⟨rfl,rfl,rfl,rfl,hlen⟩ :=hx
   obtain ⟨rfl,g1⟩ :=eG rfl
   have hq :=i1.1 rfl
   have ht :=iM.1 rfl
   have ho :=eR.1 rfl
   obtain ⟨A,B,P,gs,Q,K,rfl,rfl,rfl,rfl,rfl,rfl,pS⟩ :=share_ok hN (by omega) a b p s hs tl q t ⟨ho,g1.1,g1.2,hq,ht.1,ht.2⟩
   have hq2:(Q:Int) ≤ 9 :=hq.2
   have ht2:(K:Int) ≤ 10000 :=ht.2
   rw [zp_len] at hlen
   have h13 :=g1.1
   rw [zp_len] at h13
   obtain rfl:Mv = nl M :=by
    rcases hM with ⟨_,e⟩ | e
    ·rw [e] at hlen
     have:0 = gs.length :=hlen
     omega
    ·exact e
   have hgb:∀ f,f ∈ gs → f.1 ≤ 50000 ∧ 1 ≤ f.2 ∧ f.2 ≤ 50000 :=fun f hf => by
    have :=g1.2 (Int.ofNat f.1,Int.ofNat f.2) (List.mem_map.2 ⟨f,hf,rfl⟩)
    have h1:(f.1:Int) ≤ 50000 :=this.1.2
    have h2:1 ≤ (f.2:Int) :=this.2.1
    have h3:(f.2:Int) ≤ 50000 :=this.2.2
    omega
   have ho2 :=ho
   obtain ⟨⟨h1,h2⟩,⟨h3,h4⟩,h5,⟨h6,h7⟩,h8,h9⟩ :=ho2
   have h1:4 ≤ (A:Int) :=h1
   have h4:(B:Int) ≤ 60 :=h4
   have h7:(P:Int) ≤ 3 :=h7
   have htr :=trn_ok (a :=A) (b :=B) l s (by omega) (by omega) (p :=P) (by omega) hgb
   have pO :=sharing_pure hN (by omega) A B P s ho gs h13 hgb M (by omega)
   have pck:∀ us,shC (trS A B l s) P [] gs M = some us → pckd (trS A B l s) P gs us :=fun us e => by
    obtain ⟨w,e1,h⟩ :=shC_pck _ _ _ _ e
    rw [e1];exact h
   have good :=fun us (h:pckd (trS A B l s) P gs us) => pckd_ok htr gs us (fun f hf => hf) h
   have pairs:∀ us,pckd (trS A B l s) P gs us → Pure prog 51 [tlV us] (nv (smA 0 us)) :=fun us h => rPairs_pure us (by rw [(good us h).1];exact h13.2) fun u hu => ((good us h).2 u hu).2.1
   have mem:∀ us,pckd (trS A B l s) P gs us → smA 0 us ≤ Q → (us,wrA K 0 gs us,smA 0 us) ∈ srch (trS A B l s) P Q K gs ([],0,0) :=fun us h h2 => (srch_pck _ _ _).2 ⟨us,h,h2,rfl⟩
   by_cases hL:srch (trS A B l s) P Q K gs ([],0,0) = []
   ·rw [hL] at pS
    exact worst_none hk hN l8 _ _ _ s (by rw [zp_len];exact hlen) Q K pw rR rG r1 rM pS pO fun us e => ⟨pairs us (pck us e),Nat.lt_of_not_le fun h => by
     have :=mem us (pck us e) h
     rw [hL] at this
     cases this⟩
   ·have hbm :=bstSh_mem _ hL
    obtain ⟨ls,k1,k2,k3⟩ :=(srch_pck _ _ _).1 hbm
    have hopt :=bstSh_opt (srch (trS A B l s) P Q K gs ([],0,0))
    rw [k3] at hopt
    have pS:Pure prog 44 [rv (Int.ofNat A) (Int.ofNat B) (Int.ofNat P) s N,pv (zp gs),nv Q,nv K] (.tup [tlV ls,nv (wrA K 0 gs ls),iv 0]) :=by
     have e:shO (srch (trS A B l s) P Q K gs ([],0,0)) = .tup [tlV ls,nv (wrA K 0 gs ls),iv 0] :=by
      generalize srch (trS A B l s) P Q K gs ([],0,0) = L at *
      cases L with
      |nil => exact absurd rfl hL
      |cons x r => rw [shO,k3];rfl
     rwa [e] at pS
    have gl :=good ls k1
    exact worst_some hk hN l8 _ _ _ s (by rw [zp_len];exact hlen) Q K pw rR rG r1 rM h13.2 hgb (by omega) gl.1 gl.2 k2 pS pO fun us e => ⟨pairs us (pck us e),fun hle => by
     have gu :=good us (pck us e)
     have pp :=rPreferred_pure us ls gs K gu.1 gl.1 h13.2 gu.2 gl.2 hgb (by omega)
     have hn:¬ ordS (us,wrA K 0 gs us,smA 0 us) (ls,wrA K 0 gs ls,smA 0 ls) < 0 :=hopt _ (mem us (pck us e) hle)
     rw [prfB_ord (by rw [gu.1,gl.1]),zF hn] at pp
     exact pp⟩
  ·exact worst_no hk hN hT hM a b p s q t pw rR rG r1 rM (fun h => (eG h).1) fun _ _ h1 h2 h3 h4 h5 => hx ⟨h1,h2,h3,h4,h5⟩
 ·exact worst_no0 hk hN hT hM a b p s q t pw fun h1 h2 => hall ⟨h1,h2⟩
end Go.Abs.Seat
