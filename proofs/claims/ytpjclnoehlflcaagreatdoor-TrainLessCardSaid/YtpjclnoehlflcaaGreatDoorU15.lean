/-
  The program's nearest train, whatever the rule.
  Sharing pairs: what is refused.
  Sharing pairs: what it is prepared with, and the map's updates.
-/
import Derived.Test.YtpjclnoehlflcaaGreatDoorT60
import Derived.Test.YtpjclnoehlflcaaGreatDoorT53
import Derived.Test.YtpjclnoehlflcaaGreatDoorT59
import Derived.Test.YtpjclnoehlflcaaGreatDoorU10
import Derived.Test.YtpjclnoehlflcaaGreatDoorU14
/-! The program's nearest train, whatever the rule. -/
namespace Go.Abs.Seat
noncomputable section
open Go Go.Abs Go.Proofs.Tryz
set_option maxRecDepth 100000
set_option maxHeartbeats 40000000
attribute [local irreducible] IntKind.wrap pEq
theorem eS_len:∀ p,(eS p).length = p + 1
 | 0 => rfl
 |p + 1 => by rw [eS,List.length_append,eS_len p];rfl
theorem eS_nth:∀ (p k:Nat),k < p → nth (eS p) (k + 1) = some .nils
 |p + 1,k,h => by
  rw [nth_eq,eS]
  by_cases e:k = p
  ·subst e
   rw [List.getElem?_append_right (by rw [eS_len];omega),eS_len,Nat.sub_self]
   rfl
  ·rw [List.getElem?_append_left (by rw [eS_len];omega),← nth_eq]
   exact eS_nth p k (by omega)
theorem nearE_pure {N:AV} {l:List Int} (hN:IL N l) (a b s:Int) (p k:Nat) (hk:k < p) (n d:Int):Pure prog 134 [whE a b p s N,nv (k + 1),fv n d] (.tup [.nils,fv 0 0]) :=by
 have lN :=hN.no
 have lE :=whE_no (a :=a) (b :=b) (s :=s) (p :=p) lN
 have lS :=eS_no p
 unfold whE at lE ⊢
 rcases hN.cs with rfl | rfl
 all_goals
  refine zA fun S q pc hS hq hC hE => ?_
  conv=>whnf
  refine bool_true (inR_t (show k + 1 < p + 1 by omega)) ?_
  conv=>whnf
  refine plan_as (nthP (show nth (eS p) ((k + 1) * 1) = some .nils by rw [Nat.mul_one];exact eS_nth p k hk)) ?_
  conv=>whnf
  refine sym_unroll hE hS ?_
  conv=>whnf
  refine zd hS ?_
  conv=>whnf
  exact ⟨_,rfl,Wk.refl _⟩
theorem nearestE_pure {N:AV} {l:List Int} (hN:IL N l) (a b s:Int) (p:Nat) (hp:p ≤ 3) (n d:Int):Pure prog 94 [whE a b p s N,fv n d] (.tup [.nils,.bool false]) :=by
 have lN :=hN.no
 have lE :=whE_no (a :=a) (b :=b) (s :=s) (p :=p) lN
 have lS :=eS_no p
 have lP:Lives noL (prE p) :=prM_no _ p
 have pn :=fun k (hk:k < p) => nearE_pure hN a b s p k hk n d
 unfold whE at lE pn ⊢
 rcases hN.cs with rfl | rfl
 all_goals
  refine zA fun S q pc hS hq hC hE => ?_
  conv=>whnf
  refine sym_loopG hE hS (A :=Nat) [2,3] (fun k => [(6,.nils),(7,nv (k + 1))]) (fun _ => []) (fun _ => []) (fun k => k ≤ p) (fun k => p - k) 0 (Nat.le_of_ble_eq_true rfl) rfl zG2 (Nat.zero_le _) ?_
  intro k hk M hM
  obtain rfl:M = 2 :=hM
  have hi1:k < p → IntKind.i64.wrap (Int.ofNat (k + 1) + 1) = Int.ofNat (k + 1 + 1) :=fun h => wrapN (m :=k + 1 + 1) (by omega)
  conv=>whnf
  by_cases hk2:k < p
  ·have c1:decide (Int.ofNat (k + 1) ≤ Int.ofNat p) = true :=zT (by show ((k + 1:Nat):Int) ≤ (p:Int);omega)
   have pk :=pn k hk2
   repeat ((first
    |refine ko_rT c1 ?_
    |refine ko_sF c1 ?_
    |refine plan_as (pick_t c1) ?_
    |refine bool_true c1 ?_
    |refine sym_pure hC (pk) ?_
    |refine zd hS ?_);conv=>whnf)
   exact ⟨k + 1,hk2,by omega,Nat.le_refl _,(by refine ⟨rfl,rfl,rfl,rfl,rfl,rfl,2,rfl,?_,?_⟩ <;> repeat' (first | exact ⟨_,rfl,WkV.int (hi1 hk2)⟩ | exact zZ | apply And.intro))⟩
  ·have c1:decide (Int.ofNat (k + 1) ≤ Int.ofNat p) = false :=zF (by show ¬ ((k + 1:Nat):Int) ≤ (p:Int);omega)
   repeat ((first
    |refine ko_sT c1 ?_
    |refine ko_rF c1 ?_
    |refine plan_as (pick_f c1) ?_
    |refine bool_false c1 ?_
    |refine zd hS ?_);conv=>whnf)
   refine .inl ?_
   conv=>whnf
   repeat ((first
    |refine ko_sT c1 ?_
    |refine ko_rF c1 ?_
    |refine plan_as (pick_f c1) ?_
    |refine bool_false c1 ?_
    |refine sym_pure hC (bestF_nils) ?_
    |refine zd hS ?_);conv=>whnf)
   exact ⟨_,rfl,Wk.refl _⟩
theorem zl_snoc (l:List Nat) (q:Nat):zl (l ++ [q]) = zl l ++ [Int.ofNat q] :=by
 unfold zl
 rw [List.map_append];rfl
theorem lstP_tth (a b:Nat) (l:List Int):∀ k,k ≤ b + 1 - a → a ≤ b → zl (lstP (tp a b l) (a + k)) = tth_l l a k
 | 0,_,_ => by
  have:lstP (tp a b l) (a + 0) = [] :=by
   rw [List.eq_nil_iff_forall_not_mem]
   intro x hx
   have h :=(lstP_mem _ _ _).1 hx
   have :=tp_ge h.2
   omega
  rw [this];rfl
 |k + 1,hk,hab => by
  have ih :=lstP_tth a b l k (by omega) hab
  rw [show a + (k + 1) = a + k + 1 by omega,show lstP (tp a b l) (a + k + 1) = @ite _ (tp a b l (a + k)) (Classical.propDecidable _) (lstP (tp a b l) (a + k) ++ [a + k]) (lstP (tp a b l) (a + k)) from rfl,tth_l]
  by_cases h:Int.ofNat (a + k) ∈ l
  ·rw [if_pos h,if_neg (fun z:tp a b l (a + k) => z.1 h)]
   exact ih
  ·rw [if_neg h,if_pos (show tp a b l (a + k) from ⟨h,by show (a:Int) ≤ ((a + k:Nat):Int);omega,by show ((a + k:Nat):Int) ≤ (b:Int);omega⟩),zl_snoc,ih]
abbrev tL (a b:Nat) (l:List Int):List Nat :=lstP (tp a b l) (b + 1)
theorem tL_zl {a b:Nat} (l:List Int) (hab:a ≤ b):zl (tL a b l) = tth_l l a (b + 1 - a) :=by
 have :=lstP_tth a b l (b + 1 - a) (Nat.le_refl _) hab
 rwa [show a + (b + 1 - a) = b + 1 by omega] at this
theorem tL_mem {a b:Nat} {l:List Int}:(fun n => n ∈ tL a b l) = tp a b l :=funext fun n => propext ⟨fun h => ((lstP_mem _ _ _).1 h).2,fun h => (lstP_mem _ _ _).2 ⟨by have :=tp_ge h;omega,h⟩⟩
theorem tL_len {a b:Nat} (l:List Int) (hab:a ≤ b) (ha:4 ≤ a) (hb:b ≤ 60):(tL a b l).length ≤ 60 :=by
 have h :=congrArg List.length (tL_zl l hab)
 rw [zl_len] at h
 have :=tth_len l a (b + 1 - a)
 omega
theorem nrT_none {tq:Nat → Prop} {P:Nat} {f:Nat → Prop} {n d:Nat} (h:∀ x,¬ tq x):nrT tq P f n d = none :=nrT_eq (o :=none) fun t ht => by
 have h1 :=ht.1
 have h2 :=ht.2.2.all
 cases t with
 |nil => exact absurd h1.1 (by decide)
 |cons p r => exact h _ h2.1.1
end
end Go.Abs.Seat

/-! Sharing pairs: what is refused. -/
namespace Go.Abs.Seat
noncomputable section
open Go Go.Abs Go.Proofs.Tryz
set_option maxRecDepth 100000
set_option maxHeartbeats 40000000
attribute [local irreducible] IntKind.wrap pEq
def gI (l:List (Int × Int)) (i:Nat):Int × Int :=l.getD i (0,0)
theorem drop_gI (l:List (Int × Int)) {i:Nat} (h:i < l.length):l.drop i = gI l i :: l.drop (i + 1) :=by
 rw [List.drop_eq_getElem_cons h]
 simp [gI,List.getD,h]
theorem tak_gI (l:List (Int × Int)) {i:Nat} (h:i < l.length):takeN 2 (dropN (i * 2) (flat l)) = some [iv (gI l i).1,iv (gI l i).2] :=by
 rw [flat_drop,drop_gI l h]
 rfl
def allF (l:List (Int × Int)):Prop :=∀ p,p ∈ l → isF p.1 p.2
instance (l:List (Int × Int)):Decidable (allF l) :=Classical.propDecidable _
theorem allF_cons {x:Int × Int} {r:List (Int × Int)}:allF (x :: r) ↔ isF x.1 x.2 ∧ allF r :=
 ⟨fun h => ⟨h _ List.mem_cons_self,fun p hp => h p (List.mem_cons_of_mem _ hp)⟩,fun h p hp => by
  rcases List.mem_cons.1 hp with e | e
  ·subst e;exact h.1
  ·exact h.2 p e⟩
def fbadF:List (Int × Int) → Int → Int
 | [],_ => -1
 |x :: r,i => if isF x.1 x.2 then fbadF r (i + 1) else i
theorem fbadF_ge:∀ (l:List (Int × Int)) (i:Int),0 ≤ i → decide (fbadF l i ≥ 0) = !(decide (allF l))
 | [],i,_ => by
  rw [zT (show allF [] from fun _ h => absurd h List.not_mem_nil)]
  rfl
 |x :: r,i,h => by
  rw [fbadF]
  by_cases hx:isF x.1 x.2
  ·rw [if_pos hx,fbadF_ge r (i + 1) (by omega)]
   by_cases hr:allF r
   ·rw [zT hr,zT (allF_cons.2 ⟨hx,hr⟩)]
   ·rw [zF hr,zF fun k => hr (allF_cons.1 k).2]
  ·rw [if_neg hx,zT h,zF fun k => hx (allF_cons.1 k).1];rfl
theorem isBadF_pure (a b:Int):Pure prog 105 [fv a b] (.bool (!(decide (isF a b)))) :=by
 refine zA fun S q pc hS hq hC hE => ?_
 conv=>whnf
 refine sym_pure hC (isFraction_pure a b) ?_
 conv=>whnf
 exact ⟨_,rfl,Wk.refl _⟩
theorem idxBadF_pure (l:List (Int × Int)) (hl:l.length < 4611686018427387904):Pure prog 140 [pv l,.func (.func 105) [] []] (iv (fbadF l 0)) :=by
 have ll :=flat_no l
 refine zA fun S q pc hS hq hC hE => ?_
 conv=>whnf
 refine sym_loop hE hS (A :=Nat) [0,1,7] (fun i => [(8,nv i)]) (fun _ => []) (fun i => i ≤ l.length ∧ fbadF (l.drop i) i = fbadF l 0) (fun i => l.length - i) 0 rfl rfl zD ⟨Nat.zero_le _,rfl⟩ ?_
 intro i ⟨hi,he⟩
 conv=>whnf
 by_cases h:i < l.length
 ·refine bool_true ((show decide (Int.ofNat i < (l.length:Int)) = true from zT (show (i:Int) < (l.length:Int) by omega))) ?_
  conv=>whnf
  refine bool_true (inR_t (show i < l.length by omega)) ?_
  conv=>whnf
  refine plan_as (takP (tak_gI l h)) ?_
  refine sym_pure hC (isBadF_pure (gI l i).1 (gI l i).2) ?_
  conv=>whnf
  rw [drop_gI l h,fbadF] at he
  by_cases h1:isF (gI l i).1 (gI l i).2
  ·rw [zT h1]
   rw [if_pos h1] at he
   conv=>whnf
   rw [show IntKind.i64.wrap (Int.ofNat i + 1) = Int.ofNat (i + 1) from wrapN (m :=i + 1) (by omega)]
   exact ⟨i + 1,⟨h,he⟩,by omega,zD⟩
  ·rw [zF h1]
   rw [if_neg h1] at he
   conv=>whnf
   rw [← he]
   exact ⟨_,rfl,Wk.refl _⟩
 ·refine bool_false (zF (show ¬ (i:Int) < (l.length:Int) by omega)) ?_
  conv=>whnf
  rw [List.drop_eq_nil_of_le (by omega),fbadF] at he
  rw [← he]
  exact ⟨_,rfl,Wk.refl _⟩
theorem hasBadF_pure (l:List (Int × Int)) (hl:l.length < 4611686018427387904) {r:Bool} (hr:r = true ↔ ¬ allF l):Pure prog 104 [pv l,.func (.func 105) [] []] (.bool r) :=by
 rw [show r = !(decide (allF l)) by rw [Bool.eq_iff_iff,hr];simp]
 refine zA fun S q pc hS hq hC hE => ?_
 conv=>whnf
 refine sym_pure hC (idxBadF_pure l hl) ?_
 conv=>whnf
 rw [fbadF_ge l 0 (Int.le_refl _)]
 exact ⟨_,rfl,Wk.refl _⟩
def shOk (a b p s:Int) (l:List Int) (fs:List (Int × Int)) (q t:Int):Prop :=rOk a b p s l ∧ (1 ≤ fs.length ∧ fs.length ≤ 3) ∧ allF fs ∧ (1 ≤ q ∧ q ≤ 9) ∧ 0 ≤ t ∧ t ≤ 10000
theorem inX {x a b:Int} {r:Bool} (h:r = true ↔ a ≤ x ∧ x ≤ b):Pure prog 103 [iv x,iv a,iv b] (.bool r) :=by
 have :=in_pure x a b
 rwa [show decide (a ≤ x ∧ x ≤ b) = r by rw [Bool.eq_iff_iff,decide_eq_true_iff,h]] at this
end
end Go.Abs.Seat

/-! Sharing pairs: what it is prepared with, and the map's updates. -/
namespace Go.Abs.Seat
noncomputable section
open Go Go.Abs Go.Proofs.Tryz
set_option maxRecDepth 100000
set_option maxHeartbeats 40000000
attribute [local irreducible] IntKind.wrap pEq
abbrev wgA (a b n s:Int) (N T:AV) (S:List AV) (k:Nat) (M:List AV) (j:Nat):AV :=.agg [iv a,iv b,iv n,iv s,N,T,.lst S k .no,.lst M j .no]
theorem prep_any {N:AV} {l:List Int} (hN:IL N l) (hl:l.length < 4611686018427387904) (a b:Nat) (ha:4 ≤ a) (hab:a ≤ b) (hb:b ≤ 60) (s:Int) (hs:1 ≤ s ∧ s ≤ 3) (n:Nat) (hn:1 ≤ n ∧ n ≤ 3) :
  ∃ (T:AV) (S:List AV) (k:Nat) (M:List AV) (j:Nat),(T = .nils ∨ ∃ (t:List AV) (i:Nat),T = .lst t i .no ∧ Lives noL t) ∧ Lives noL S ∧ Lives noL M ∧
   Pure prog 83 [rv (Int.ofNat a) (Int.ofNat b) (Int.ofNat n) s N] (ruv (Int.ofNat a) (Int.ofNat b) (Int.ofNat n) s N T) ∧
   Pure prog 93 [ruv (Int.ofNat a) (Int.ofNat b) (Int.ofNat n) s N T] (wgA (Int.ofNat a) (Int.ofNat b) (Int.ofNat n) s N T S k M j) ∧
   ∀ x y:Nat,x ≤ 50000 → 1 ≤ y ∧ y ≤ 50000 → Pure prog 94 [wgA (Int.ofNat a) (Int.ofNat b) (Int.ofNat n) s N T S k M j,fv (Int.ofNat x) (Int.ofNat y)] (fV (nrT (tp a b l) n (letsP s) x y)) :=by
 have pu :=ruled_pure hN hl a b hab hb (Int.ofNat n) s
 rw [← tL_zl l hab] at pu
 by_cases hT:tL a b l = []
 ·rw [hT] at pu
  refine ⟨.nils,eS n,n + 1,prE n,n + 1,.inl rfl,eS_no n,prM_no _ n,pu,prepE01 hN a b s n hn,fun x y hx hy => ?_⟩
  have en:nrT (tp a b l) n (letsP s) x y = none :=nrT_none fun z hz => by
   rw [← tL_mem (l :=l),hT] at hz
   cases hz
  rw [en]
  exact nearestE_pure hN (Int.ofNat a) (Int.ofNat b) s n hn.2 (Int.ofNat x) (Int.ofNat y)
 ·have h60:∀ x,x ∈ tL a b l → 1 ≤ x ∧ x ≤ 60 :=fun x hx => tp_le (by omega) hb ((lstP_mem _ _ _).1 hx).2
  have hTl :=tL_len l hab ha hb
  have hsr :=lstP_srt (tp a b l) (b + 1)
  have eT:sv (zl (tL a b l)) = nl (zl (tL a b l)) :=by
   rcases sv_cases (zl (tL a b l)) with ⟨z,_⟩ | z
   ·exact absurd (List.map_eq_nil_iff.1 z) hT
   ·exact z
  rw [eT] at pu
  have pp :=prep01 hN a b s n hn (tL a b l) hT (fun x hx => (h60 x hx).2) hTl
  refine ⟨nl (zl (tL a b l)),prS (fun n => n ∈ tL a b l) n,_,prM (fun n => n ∈ tL a b l) n,_,.inr ⟨_,_,rfl,ivs_no _⟩,prS_no _ n,prM_no _ n,pu,pp,fun x y hx hy => ?_⟩
  have pn :=nearest_pure hN (Int.ofNat a) (Int.ofNat b) s hs n hn (tL a b l) hT hsr h60 hTl x y hx hy
  rw [← tL_mem]
  exact pn
theorem insF_snoc (tr:Nat → Nat × Nat → Option (List (Nat × Nat))) (n:Nat):∀ (fs:List (Nat × Nat)) (f:Nat × Nat) (l:List Ent),insF tr n (fs ++ [f]) l = insE tr n f (insF tr n fs l)
 | [],_,_ => rfl
 |x :: r,f,l => by rw [List.cons_append,insF,insF_snoc tr n r f];rfl
theorem mbe_bd (m:Nat):∀ l:List Ent,BdE m (mbe l)
 | [] => trivial
 |x :: l => ⟨Nat.zero_le _,bdl_no (flat_no (zp x.2)),mbe_bd m l⟩
theorem snoc_mbe (k:Nat × Nat × Nat) (u:List (Nat × Nat)):∀ l:List Ent,snocE (mbe l) (keyA k,pv (zp u)) = mbe (l ++ [(k,u)])
 | [] => rfl
 |x :: l => by rw [mbe,snocE,snoc_mbe k u l];rfl
theorem keyAt_get:∀ (l:List Ent) (i:Nat) {p:AV × AV},(mbe l)[i]? = some p → keyAt (mbe l) i = some p.1 ∧ setE (mbe l) i p = mbe l
 | [],i,p,h => by cases i <;> cases h
 |x :: l,0,p,h => by injection h with h;subst h;exact ⟨rfl,rfl⟩
 |x :: l,i + 1,p,h => by
  have :=keyAt_get l i (p :=p) h
  exact ⟨this.1,by rw [mbe,setE,this.2]⟩
theorem same_key (k:Nat × Nat × Nat):sameA 8 (keyA k) (keyA k) = true :=by
 simp [sameA,sameAll]
theorem bd_ent (u:List (Nat × Nat)) (k:Nat × Nat × Nat):Nat.max (bd (keyA k)) (bd (pv (zp u))) = 0 :=by
 have h1:bd (keyA k) = 0 :=rfl
 rw [h1,bd_no _ (pv_no _)]
 rfl
theorem upd_n {o:Nat} {k:Nat × Nat × Nat} {u:List (Nat × Nat)} {l:List Ent} (h:∀ u,(k,u) ∉ l) :
  (match findA prog seatT 134 (keyA k) (mbe l) 0 with
   |some (some (i,_)) => match keyAt (mbe l) i with
    |some k' => Plan.chk (sameA 8 k' (keyA k)) (.seto o (.mapo (setE (mbe l) i (keyA k,pv (zp u)))) (Nat.max (bd (keyA k)) (bd (pv (zp u)))) .skip)
    |none => .fail
   |some none => .seto o (.mapo (snocE (mbe l) (keyA k,pv (zp u)))) (Nat.max (bd (keyA k)) (bd (pv (zp u)))) .skip
   |none => .fail) = .seto o (.mapo (mbe (l ++ [(k,u)]))) 0 .skip :=by
 rw [find_no k l 0 h,bd_ent,snoc_mbe]
theorem upd_y {o:Nat} {k:Nat × Nat × Nat} {u:List (Nat × Nat)} {l:List Ent} (h:(k,u) ∈ l) (hu:∀ w,(k,w) ∈ l → w = u) :
  (match findA prog seatT 134 (keyA k) (mbe l) 0 with
   |some (some (i,_)) => match keyAt (mbe l) i with
    |some k' => Plan.chk (sameA 8 k' (keyA k)) (.seto o (.mapo (setE (mbe l) i (keyA k,pv (zp u)))) (Nat.max (bd (keyA k)) (bd (pv (zp u)))) .skip)
    |none => .fail
   |some none => .seto o (.mapo (snocE (mbe l) (keyA k,pv (zp u)))) (Nat.max (bd (keyA k)) (bd (pv (zp u)))) .skip
   |none => .fail) = .chk true (.seto o (.mapo (mbe l)) 0 .skip) :=by
 obtain ⟨j,h1,h2⟩ :=find_yes k u l 0 h hu
 have h3 :=keyAt_get l j h2
 rw [h1,bd_ent]
 simp only [Nat.zero_add,h3.1,h3.2,same_key]
end
end Go.Abs.Seat
