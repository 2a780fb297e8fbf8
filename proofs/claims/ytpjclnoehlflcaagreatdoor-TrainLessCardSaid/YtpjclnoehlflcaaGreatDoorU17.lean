/-
  Sharing pairs: what the document says of what is asked.
  Sharing pairs: one pair more.
  Sharing pairs: what Share tells, in numbers; one pair more.
  Small closed calls of known.
-/
import Derived.Test.YtpjclnoehlflcaaGreatDoorT72
import Derived.Test.YtpjclnoehlflcaaGreatDoorU16
import Derived.Test.YtpjclnoehlflcaaGreatDoorU10
import Derived.Test.YtpjclnoehlflcaaGreatDoorU6
/-! Sharing pairs: what the document says of what is asked. -/
namespace Go.Abs.Seat
noncomputable section
open Go Go.Abs Go.Proofs.Tryz
set_option maxRecDepth 100000
set_option maxHeartbeats 40000000
attribute [local irreducible] IntKind.wrap pEq
theorem rShares_pure (n:Int):Pure prog 46 [iv n] (.bool (decide (1 ≤ n ∧ n ≤ 9))) :=by
 refine zA fun S q pc hS hq hC hE => ?_
 conv=>whnf
 refine sym_pure hC (rin_pure n 1 9) ?_
 conv=>whnf
 exact ⟨_,rfl,Wk.refl _⟩
def tgOk (l:List (Int × Int)):Prop :=(1 ≤ l.length ∧ l.length ≤ 3) ∧ allF l
instance (l:List (Int × Int)):Decidable (tgOk l) :=Classical.propDecidable _
theorem rTargets_pure (l:List (Int × Int)) (hl:l.length < 4611686018427387904) {r:Bool} (hr:r = true ↔ tgOk l):Pure prog 45 [pv l] (.bool r) :=by
 have ll :=flat_no l
 refine zA fun S q pc hS hq hC hE => ?_
 conv=>whnf
 refine sym_loop hE hS (A :=Nat) [0] (fun i => [(3,nv i)]) (fun _ => []) (fun i => i ≤ l.length ∧ ∀ j,j < i → isF (gI l j).1 (gI l j).2) (fun i => l.length - i) 0 rfl rfl zD ⟨Nat.zero_le _,fun _ h => absurd h (Nat.not_lt_zero _)⟩ ?_
 intro i ⟨hi,he⟩
 conv=>whnf
 by_cases h:i < l.length
 ·refine bool_true ((show decide (Int.ofNat i < (l.length:Int)) = true from zT (show (i:Int) < (l.length:Int) by omega))) ?_
  conv=>whnf
  refine bool_true (inR_t (show i < l.length by omega)) ?_
  conv=>whnf
  refine plan_as (takP (tak_gI l h)) ?_
  refine sym_pure hC (rFraction_pure (gI l i).1 (gI l i).2) ?_
  conv=>whnf
  by_cases h1:isF (gI l i).1 (gI l i).2
  ·rw [zT h1]
   conv=>whnf
   rw [show IntKind.i64.wrap (Int.ofNat i + 1) = Int.ofNat (i + 1) from wrapN (m :=i + 1) (by omega)]
   exact ⟨i + 1,⟨h,fun j hj => by
    by_cases e:j = i
    ·subst e;exact h1
    ·exact he j (by omega)⟩,by omega,zD⟩
  ·rw [zF h1]
   conv=>whnf
   have hf:r = false :=Bool.eq_false_iff.2 fun z => h1 ((hr.1 z).2 _ (by
    have :=drop_gI l h
    exact List.mem_of_mem_drop (i :=i) (by rw [this];exact List.mem_cons_self)))
   rw [hf]
   exact ⟨_,rfl,Wk.refl _⟩
 ·refine bool_false (zF (show ¬ (i:Int) < (l.length:Int) by omega)) ?_
  conv=>whnf
  refine sym_pure hC (rin_pure (l.length:Int) 1 3) ?_
  conv=>whnf
  have hA:allF l :=fun p hp => by
   obtain ⟨j,hj,e⟩ :=List.getElem_of_mem hp
   have :=he j (by omega)
   rwa [show gI l j = p by rw [← e];simp [gI,List.getD,hj]] at this
  rw [show r = decide (1 ≤ (l.length:Int) ∧ (l.length:Int) ≤ 3) by
   rw [Bool.eq_iff_iff,decide_eq_true_iff,hr]
   exact ⟨fun z => by have :=z.1;omega,fun z => ⟨by omega,hA⟩⟩]
  exact ⟨_,rfl,Wk.refl _⟩
theorem rTargets_nils:Pure prog 45 [.nils] (.bool false) :=by
 refine zA fun S q pc hS hq hC hE => ?_
 conv=>whnf
 refine sym_unroll hE hS ?_
 conv=>whnf
 refine sym_pure hC (rin_pure 0 1 3) ?_
 conv=>whnf
 exact ⟨_,rfl,Wk.refl _⟩
end
end Go.Abs.Seat

/-! Sharing pairs: one pair more. -/
namespace Go.Abs.Seat
noncomputable section
open Go Go.Abs Go.Proofs.Tryz
set_option maxRecDepth 100000
theorem srch_mono {tr:Nat → Nat × Nat → Option (List (Nat × Nat))} {P q q' t:Nat} (h:q ≤ q'):∀ (r:List (Nat × Nat)) (now x:Sh),x ∈ srch tr P q t r now → x ∈ srch tr P q' t r now
 | [],now,x,hx => by
  rw [srch] at hx ⊢
  split at hx
  ·cases hx
  ·rw [if_neg (by omega)];exact hx
 |f :: r,now,x,hx => by
  rw [srch] at hx ⊢
  split at hx
  ·cases hx
  ·rw [if_neg (by omega)]
   obtain ⟨n,h1,h2,h3⟩ :=rnds_mem.1 hx
   refine rnds_mem.2 ⟨n,h1,h2,?_⟩
   cases e:tr n f with
   |none => rw [e] at h3;cases h3
   |some u =>
    rw [e] at h3
    exact srch_mono h r _ x h3
theorem ordS_wor {x y:Sh} (h:ordS x y < 0):x.2.1 ≤ y.2.1 :=by
 apply Nat.le_of_not_lt
 intro hn
 unfold ordS at h
 have h1:ordI (Int.ofNat x.2.1) (Int.ofNat y.2.1) = 1 :=by
  unfold ordI
  rw [if_neg (by show ¬ (x.2.1:Int) < (y.2.1:Int);omega),if_pos (by show (y.2.1:Int) < (x.2.1:Int);omega)]
 rw [h1,if_neg (by decide)] at h
 exact absurd h (by decide)
theorem ordS_wor' {x y:Sh} (h:¬ ordS x y < 0):y.2.1 ≤ x.2.1 :=by
 apply Nat.le_of_not_lt
 intro hn
 apply h
 unfold ordS
 have h1:ordI (Int.ofNat x.2.1) (Int.ofNat y.2.1) = -1 :=by
  unfold ordI
  rw [if_pos (by show (x.2.1:Int) < (y.2.1:Int);omega)]
 rw [h1,if_neg (by decide)]
 decide
theorem bstSh_wor:∀ (l:List Sh) (x:Sh),x ∈ l → (bstSh l).2.1 ≤ x.2.1 :=by
 intro l x hx
 cases l with
 |nil => cases hx
 |cons a r =>
  have key:∀ (r:List Sh) (o:Sh),(r.foldl (fun o y => if ordS y o < 0 then y else o) o).2.1 ≤ o.2.1 ∧ ∀ y,y ∈ r → (r.foldl (fun o y => if ordS y o < 0 then y else o) o).2.1 ≤ y.2.1 :=by
   intro r
   induction r with
   |nil => exact fun o => ⟨Nat.le_refl _,fun _ z => nomatch z⟩
   |cons y r ih =>
    intro o
    rw [List.foldl_cons]
    have h :=ih (if ordS y o < 0 then y else o)
    by_cases c:ordS y o < 0
    ·rw [if_pos c] at h ⊢
     refine ⟨Nat.le_trans h.1 (ordS_wor c),fun z hz => ?_⟩
     rcases List.mem_cons.1 hz with e | e
     ·subst e;exact h.1
     ·exact h.2 z e
    ·rw [if_neg c] at h ⊢
     refine ⟨h.1,fun z hz => ?_⟩
     rcases List.mem_cons.1 hz with e | e
     ·subst e;exact Nat.le_trans h.1 (ordS_wor' c)
     ·exact h.2 z e
  have h :=key r a
  rcases List.mem_cons.1 hx with e | e
  ·subst e;exact h.1
  ·exact h.2 x e
theorem share_less {tr:Nat → Nat × Nat → Option (List (Nat × Nat))} {P q t:Nat} {fs:List (Nat × Nat)} {now:Sh} (h:srch tr P q t fs now ≠ []):srch tr P (q + 1) t fs now ≠ [] ∧ (bstSh (srch tr P (q + 1) t fs now)).2.1 ≤ (bstSh (srch tr P q t fs now)).2.1 :=by
 have hm :=srch_mono (Nat.le_succ q) fs now _ (bstSh_mem _ h)
 exact ⟨fun e => (by rw [e] at hm;cases hm),bstSh_wor _ _ hm⟩
end
end Go.Abs.Seat

/-! Sharing pairs: what Share tells, in numbers; one pair more. -/
namespace Go.Abs.Seat
noncomputable section
open Go Go.Abs Go.Proofs.Tryz
set_option maxRecDepth 100000
set_option maxHeartbeats 40000000
attribute [local irreducible] IntKind.wrap pEq
theorem fs_nat {fs:List (Int × Int)} (h:allF fs):∃ gs:List (Nat × Nat),fs = zp gs ∧ ∀ f,f ∈ gs → f.1 ≤ 50000 ∧ 1 ≤ f.2 ∧ f.2 ≤ 50000 :=by
 induction fs with
 |nil => exact ⟨[],rfl,fun _ z => (nomatch z)⟩
 |cons x r ih =>
  obtain ⟨gs,e,hg⟩ :=ih (allF_cons.1 h).2
  obtain ⟨⟨h1,h2⟩,h3,h4⟩ :=(allF_cons.1 h).1
  obtain ⟨x1,x2⟩ :=x
  have h1:0 ≤ x1 :=h1
  have h2:x1 ≤ 50000 :=h2
  have h3:1 ≤ x2 :=h3
  have h4:x2 ≤ 50000 :=h4
  refine ⟨(x1.toNat,x2.toNat) :: gs,?_,fun f hf => ?_⟩
  ·rw [e]
   show (x1,x2) :: zp gs = (((x1.toNat:Nat):Int),((x2.toNat:Nat):Int)) :: zp gs
   rw [Int.toNat_of_nonneg h1,Int.toNat_of_nonneg (by omega)]
  ·rcases List.mem_cons.1 hf with z | z
   ·subst z
    show x1.toNat ≤ 50000 ∧ 1 ≤ x2.toNat ∧ x2.toNat ≤ 50000
    omega
   ·exact hg f z
theorem share_ok {N:AV} {l:List Int} (hN:IL N l) (hl:l.length < 4611686018427387904) (a b p s:Int) (hs:-9223372036854775808 ≤ s ∧ s < 9223372036854775808) (fs:List (Int × Int)) (q t:Int) (h:shOk a b p s l fs q t) :
  ∃ (A B P:Nat) (gs:List (Nat × Nat)) (Q T:Nat),a = Int.ofNat A ∧ b = Int.ofNat B ∧ p = Int.ofNat P ∧ fs = zp gs ∧ q = Int.ofNat Q ∧ t = Int.ofNat T ∧
   Pure prog 44 [rv a b p s N,pv fs,iv q,iv t] (shO (srch (trS A B l s) P Q T gs ([],0,0))) :=by
 obtain ⟨ho,hf,hA,hq,ht⟩ :=h
 have pr :=isRule_pure hN hl a b p s hs (r :=true) ⟨fun _ => ho,fun _ => rfl⟩
 obtain ⟨⟨h1,h2⟩,⟨h3,h4⟩,h5,⟨h6,h7⟩,h8,_⟩ :=ho
 obtain ⟨gs,rfl,hg⟩ :=fs_nat hA
 obtain ⟨A,rfl⟩ :=Int.eq_ofNat_of_zero_le (show 0 ≤ a by omega)
 obtain ⟨B,rfl⟩ :=Int.eq_ofNat_of_zero_le (show 0 ≤ b by omega)
 obtain ⟨P,rfl⟩ :=Int.eq_ofNat_of_zero_le (show 0 ≤ p by omega)
 obtain ⟨Q,rfl⟩ :=Int.eq_ofNat_of_zero_le (show 0 ≤ q by omega)
 obtain ⟨T,rfl⟩ :=Int.eq_ofNat_of_zero_le (show 0 ≤ t by omega)
 rw [zp_len] at hf
 exact ⟨A,B,P,gs,Q,T,rfl,rfl,rfl,rfl,rfl,rfl,share_pure hN hl A B (by omega) (by omega) (by omega) s h8 P (by omega) pr gs hf hg Q (by omega) T (by omega)⟩
theorem shO_cs (L:List Sh):(L = [] ∧ shO L = .tup [.nils,iv 0,iv 5]) ∨ ∃ (xs:List AV) (k:Nat),L ≠ [] ∧ Lives noL xs ∧ shO L = .tup [.lst xs k .no,nv (bstSh L).2.1,iv 0] :=by
 cases L with
 |nil => exact .inl ⟨rfl,rfl⟩
 |cons x r => exact .inr ⟨_,_,fun z => (nomatch z),tls_no _,rfl⟩
theorem share_two {N:AV} {l:List Int} (hN:IL N l) (hl:l.length < 4611686018427387904) (a b p s:Int) (hs:-9223372036854775808 ≤ s ∧ s < 9223372036854775808) (fs:List (Int × Int)) (q t:Int) (h:shOk a b p s l fs q t) (h2:shOk a b p s l fs (q + 1) t) :
  ∃ (v1 v2:AV) (n1 n2 e1 e2:Int),Pure prog 44 [rv a b p s N,pv fs,iv q,iv t] (.tup [v1,iv n1,iv e1]) ∧ Pure prog 44 [rv a b p s N,pv fs,iv (q + 1),iv t] (.tup [v2,iv n2,iv e2]) ∧
   (v1 = .nils ∨ ∃ xs k,v1 = .lst xs k .no ∧ Lives noL xs) ∧ (v2 = .nils ∨ ∃ xs k,v2 = .lst xs k .no ∧ Lives noL xs) ∧ ((e1 = 5 ∧ (e2 = 5 ∨ e2 = 0)) ∨ (e1 = 0 ∧ e2 = 0 ∧ n2 ≤ n1)) :=by
 obtain ⟨A,B,P,gs,Q,T,rfl,rfl,rfl,rfl,rfl,rfl,p1⟩ :=share_ok hN hl a b p s hs fs q t h
 obtain ⟨A',B',P',gs',Q',T',eA,eB,eP,eg,eQ,eT,p2⟩ :=share_ok hN hl _ _ _ s hs _ _ _ h2
 obtain rfl:A = A' :=Int.ofNat.inj eA
 obtain rfl:B = B' :=Int.ofNat.inj eB
 obtain rfl:P = P' :=Int.ofNat.inj eP
 obtain rfl:T = T' :=Int.ofNat.inj eT
 obtain rfl:Q' = Q + 1 :=by
  have:(Q:Int) + 1 = (Q':Int) :=eQ
  omega
 obtain rfl:gs = gs' :=by
  have inj:∀ u v:List (Nat × Nat),zp u = zp v → u = v :=by
   intro u
   induction u with
   |nil => intro v e;cases v with
    |nil => rfl
    |cons _ _ => cases e
   |cons x r ih => intro v e;cases v with
    |nil => cases e
    |cons y w =>
     injection e with e1 e2
     injection e1 with e3 e4
     rw [ih w e2,Prod.ext (Int.ofNat.inj e3) (Int.ofNat.inj e4)]
  exact inj _ _ eg
 have hless :=share_less (tr :=trS A B l s) (P :=P) (q :=Q) (t :=T) (fs :=gs) (now :=([],0,0))
 rcases shO_cs (srch (trS A B l s) P Q T gs ([],0,0)) with ⟨c1,d1⟩ | ⟨x1,k1,c1,l1,d1⟩ <;> rcases shO_cs (srch (trS A B l s) P (Q + 1) T gs ([],0,0)) with ⟨c2,d2⟩ | ⟨x2,k2,c2,l2,d2⟩ <;> rw [d1] at p1 <;> rw [d2] at p2
 ·exact ⟨_,_,_,_,_,_,p1,p2,.inl rfl,.inl rfl,.inl ⟨rfl,.inl rfl⟩⟩
 ·exact ⟨_,_,_,_,_,_,p1,p2,.inl rfl,.inr ⟨_,_,rfl,l2⟩,.inl ⟨rfl,.inr rfl⟩⟩
 ·exact absurd c2 (hless c1).1
 ·exact ⟨_,_,_,_,_,_,p1,p2,.inr ⟨_,_,rfl,l1⟩,.inr ⟨_,_,rfl,l2⟩,.inr ⟨rfl,rfl,by
   have :=(hless c1).2
   show ((bstSh _).2.1:Int) ≤ ((bstSh _).2.1:Int)
   omega⟩⟩
end
end Go.Abs.Seat

/-! Small closed calls of known. -/
namespace Go.Abs.Seat
open Go Go.Abs Go.Proofs.Tryz
set_option maxRecDepth 100000
theorem gBest:Goal [] 53 [fr 43 30,i64 10] (.tup [fr 10 7,i64 0]) :=of_eq_true (by kernel_rfl)
theorem pBest:Pure prog 53 [fr 43 30,i64 10] (.tup [fr 10 7,i64 0]) :=gBest.pure MOK.nil (by kernel_rfl) (by kernel_rfl)
theorem gAround:Goal [] 55 [fr 43 30,i64 10] (.tup [fr 10 7,fr 13 9,i64 0]) :=of_eq_true (by kernel_rfl)
theorem pAround:Pure prog 55 [fr 43 30,i64 10] (.tup [fr 10 7,fr 13 9,i64 0]) :=gAround.pure MOK.nil (by kernel_rfl) (by kernel_rfl)
theorem gChain:Goal [] 56 [fr 43 30] (.tup [ints .no [1,2,3,4],i64 0]) :=of_eq_true (by kernel_rfl)
theorem pChain:Pure prog 56 [fr 43 30] (.tup [ints .no [1,2,3,4],i64 0]) :=gChain.pure MOK.nil (by kernel_rfl) (by kernel_rfl)
theorem gOff:Goal [] 27 [aT,fr 43 30,i64 100] (.tup [i64 14400,i64 0]) :=of_eq_true (by kernel_rfl)
theorem pOff:Pure prog 27 [aT,fr 43 30,i64 100] (.tup [i64 14400,i64 0]) :=gOff.pure MOK.nil (by kernel_rfl) (by kernel_rfl)
theorem gBetween:Goal [] 59 [aT,fr 43 30,fr 13 9,i64 100] (.tup [fr (-9600) 14400,i64 0]) :=of_eq_true (by kernel_rfl)
theorem pBetween:Pure prog 59 [aT,fr 43 30,fr 13 9,i64 100] (.tup [fr (-9600) 14400,i64 0]) :=gBetween.pure MOK.nil (by kernel_rfl) (by kernel_rfl)
theorem gSettings:Goal [] 17 [aT,fr 43 30,i64 720,ints .full [4,8,9,12],i64 14] (.tup [ints .no [0,2],i64 0]) :=of_eq_true (by kernel_rfl)
theorem pSettings:Pure prog 17 [aT,fr 43 30,i64 720,ints .full [4,8,9,12],i64 14] (.tup [ints .no [0,2],i64 0]) :=gSettings.pure MOK.nil (by kernel_rfl) (by kernel_rfl)
theorem gShown:Goal [] 26 [aT,fr 43 30,ints .full [4,8,9,12],ints .full [0,2],i64 10] (.tup [i64 7344,i64 0]) :=of_eq_true (by kernel_rfl)
theorem pShown:Pure prog 26 [aT,fr 43 30,ints .full [4,8,9,12],ints .full [0,2],i64 10] (.tup [i64 7344,i64 0]) :=gShown.pure MOK.nil (by kernel_rfl) (by kernel_rfl)
theorem gRead:Goal [] 61 [aText] (.tup [.agg [i64 4,i64 4,i64 1,i64 1,.nils],.nils,i64 0]) :=of_eq_true (by kernel_rfl)
theorem pRead:Pure prog 61 [aText] (.tup [.agg [i64 4,i64 4,i64 1,i64 1,.nils],.nils,i64 0]) :=gRead.pure MOK.nil (by kernel_rfl) (by kernel_rfl)
end Go.Abs.Seat
