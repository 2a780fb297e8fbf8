/-
  Sharing pairs: the map of known trains.
  Sharing pairs: what is refused.
  Sharing pairs: what it is prepared with, and the map's updates.
-/
import Derived.Test.YtpjclnoehlflcaaGreatDoorU13
import Derived.Test.YtpjclnoehlflcaaGreatDoorU15
namespace Go.Abs.Seat
noncomputable section
open Go Go.Abs Go.Proofs.Tryz
set_option maxRecDepth 100000
set_option maxHeartbeats 40000000
attribute [local irreducible] IntKind.wrap pEq
theorem beqN (n m:Nat):(Int.ofNat n == Int.ofNat m) = decide (n = m) :=by
 by_cases h:n = m
 ·subst h;rw [zT rfl];exact beq_self_eq_true _
 ·rw [zF h];exact beq_eq_false_iff_ne.2 fun e => h (Int.ofNat.inj e)
theorem q1x (n m:Nat):aeqC prog seatT 7 3 (nv n) (nv m) = some (decide (n = m)) :=by
 rw [← beqN];rfl
theorem qyh (n m:Nat):aeqC prog seatT 6 3 (nv n) (nv m) = some (decide (n = m)) :=by
 rw [← beqN];rfl
theorem q1y (a b c d:Nat):aeqC prog seatT 7 24 (.agg [nv a,nv b]) (.agg [nv c,nv d]) = some (decide (a = c ∧ b = d)) :=by
 have h1:prog.stoodInHeld 24 = false :=by kernel_rfl
 conv => lhs;whnf
 rw [h1]
 conv => lhs;whnf
 change (match aeqC prog seatT 6 3 (nv a) (nv c) with | some true => _ | some false => _ | none => _) = _
 rw [qyh]
 by_cases h:a = c
 ·rw [zT h]
  conv => lhs;whnf
  change (match aeqC prog seatT 6 3 (nv b) (nv d) with | some true => _ | some false => _ | none => _) = _
  rw [qyh]
  by_cases h2:b = d
  ·rw [zT h2,zT ⟨h,h2⟩];rfl
  ·rw [zF h2,zF fun z => h2 z.2]
 ·rw [zF h,zF fun z => h z.1]
theorem q0n (n a b m c d:Nat):aeqC prog seatT 8 134 (.agg [nv n,nv a,nv b]) (.agg [nv m,nv c,nv d]) = some (decide (n = m ∧ a = c ∧ b = d)) :=by
 have h0:prog.stoodInHeld 134 = false :=by kernel_rfl
 conv => lhs;whnf
 rw [h0]
 conv => lhs;whnf
 change (match aeqC prog seatT 7 3 (nv n) (nv m) with | some true => _ | some false => _ | none => _) = _
 rw [q1x]
 by_cases h:n = m
 ·rw [zT h]
  conv => lhs;whnf
  change (match aeqC prog seatT 7 24 (.agg [nv a,nv b]) (.agg [nv c,nv d]) with | some true => _ | some false => _ | none => _) = _
  rw [q1y]
  by_cases h2:a = c ∧ b = d
  ·rw [zT h2,zT ⟨h,h2⟩];rfl
  ·rw [zF h2,zF fun z => h2 z.2]
 ·rw [zF h,zF fun z => h z.1]
abbrev Ent :=(Nat × Nat × Nat) × List (Nat × Nat)
abbrev keyA (k:Nat × Nat × Nat):AV :=.agg [nv k.1,nv k.2.1,nv k.2.2]
def mbe:List Ent → List (AV × AV)
 | [] => []
 |x :: r => (keyA x.1,pv (zp x.2)) :: mbe r
theorem qm4 (k:Nat × Nat × Nat) (x:Ent) (l:List Ent) (i:Nat):qdh prog seatT 134 (keyA k) (mbe (x :: l)) i = if k = x.1 then some (some (i,pv (zp x.2))) else qdh prog seatT 134 (keyA k) (mbe l) (i + 1) :=by
 rw [mbe,qdh,q0n]
 by_cases h:k = x.1
 ·rw [if_pos h,zT (by subst h;exact ⟨rfl,rfl,rfl⟩)]
 ·rw [if_neg h,zF fun z => h (Prod.ext z.1 (Prod.ext z.2.1 z.2.2))]
theorem qoq (k:Nat × Nat × Nat):∀ (l:List Ent) (i:Nat),(∀ u,(k,u) ∉ l) → qdh prog seatT 134 (keyA k) (mbe l) i = some none
 | [],_,_ => rfl
 |x :: l,i,h => by
  rw [qm4,if_neg fun e => h x.2 (by subst e;exact List.mem_cons_self),qoq k l (i + 1) fun u hu => h u (List.mem_cons_of_mem _ hu)]
theorem qlq (k:Nat × Nat × Nat) (u:List (Nat × Nat)):∀ (l:List Ent) (i:Nat),(k,u) ∈ l → (∀ w,(k,w) ∈ l → w = u) → ∃ j,qdh prog seatT 134 (keyA k) (mbe l) i = some (some (i + j,pv (zp u))) ∧ (mbe l)[j]? = some (keyA k,pv (zp u))
 |x :: l,i,h,hu => by
  rw [qm4]
  by_cases e:k = x.1
  ·have e2:x.2 = u :=hu x.2 (by rw [e];exact List.mem_cons_self)
   rw [if_pos e]
   exact ⟨0,by rw [e2];rfl,by rw [e,← e2];rfl⟩
  ·rw [if_neg e]
   have hm:(k,u) ∈ l :=by
    rcases List.mem_cons.1 h with z | z
    ·exact absurd (by rw [← z]) e
    ·exact z
   obtain ⟨j,h1,h2⟩ :=qlq k u l (i + 1) hm fun w hw => hu w (List.mem_cons_of_mem _ hw)
   exact ⟨j + 1,by rw [h1,show i + 1 + j = i + (j + 1) by omega],h2⟩
noncomputable def insE (tr:Nat → Nat × Nat → Option (List (Nat × Nat))) (n:Nat) (f:Nat × Nat) (l:List Ent):List Ent :=
 match tr n f with
 |none => l
 |some u => @ite _ (((n,f),u) ∈ l) (Classical.propDecidable _) l (l ++ [((n,f),u)])
noncomputable def insF (tr:Nat → Nat × Nat → Option (List (Nat × Nat))) (n:Nat):List (Nat × Nat) → List Ent → List Ent
 | [],l => l
 |f :: r,l => insF tr n r (insE tr n f l)
noncomputable def insN (tr:Nat → Nat × Nat → Option (List (Nat × Nat))) (fs:List (Nat × Nat)):Nat → List Ent
 | 0 => []
 |n + 1 => insF tr (n + 1) fs (insN tr fs n)
def qvp (tr:Nat → Nat × Nat → Option (List (Nat × Nat))) (l:List Ent):Prop :=∀ n f u,((n,f),u) ∈ l → tr n f = some u
theorem qzw {tr:Nat → Nat × Nat → Option (List (Nat × Nat))} {n:Nat} {f:Nat × Nat} {l:List Ent} (h:qvp tr l):qvp tr (insE tr n f l) ∧ (∀ x,x ∈ l → x ∈ insE tr n f l) ∧ ∀ u,tr n f = some u → ((n,f),u) ∈ insE tr n f l :=by
 unfold insE
 cases e:tr n f with
 |none => exact ⟨h,fun _ z => z,fun _ z => nomatch z⟩
 |some u =>
  by_cases hm:((n,f),u) ∈ l
  ·simp only [if_pos hm]
   exact ⟨h,fun _ z => z,fun w z => by injection z with z;rw [← z];exact hm⟩
  ·simp only [if_neg hm]
   refine ⟨fun m g w hw => ?_,fun x z => List.mem_append_left _ z,fun w z => by injection z with z;rw [← z];exact List.mem_append_right _ List.mem_cons_self⟩
   rcases List.mem_append.1 hw with z | z
   ·exact h m g w z
   ·have :=List.mem_singleton.1 z
    injection this with z1 z2
    injection z1 with z3 z4
    rw [z3,z4,z2];exact e
theorem qoj {tr:Nat → Nat × Nat → Option (List (Nat × Nat))} {n:Nat}:∀ (fs:List (Nat × Nat)) {l:List Ent},qvp tr l → qvp tr (insF tr n fs l) ∧ (∀ x,x ∈ l → x ∈ insF tr n fs l) ∧ ∀ f u,f ∈ fs → tr n f = some u → ((n,f),u) ∈ insF tr n fs l
 | [],l,h => ⟨h,fun _ z => z,fun _ _ z => (nomatch z)⟩
 |f :: r,l,h => by
  have h1 :=qzw (n :=n) (f :=f) h
  have h2 :=qoj (n :=n) r h1.1
  refine ⟨h2.1,fun x z => h2.2.1 x (h1.2.1 x z),fun g u hg hu => ?_⟩
  rcases List.mem_cons.1 hg with z | z
  ·subst z;exact h2.2.1 _ (h1.2.2 u hu)
  ·exact h2.2.2 g u z hu
theorem qoi {tr:Nat → Nat × Nat → Option (List (Nat × Nat))} (fs:List (Nat × Nat)):∀ P,qvp tr (insN tr fs P) ∧ ∀ n f u,1 ≤ n → n ≤ P → f ∈ fs → tr n f = some u → ((n,f),u) ∈ insN tr fs P
 | 0 => ⟨fun _ _ _ z => (nomatch z),fun n _ _ h1 h2 => by omega⟩
 |P + 1 => by
  have h1 :=qoi (tr :=tr) fs P
  have h2 :=qoj (n :=P + 1) fs h1.1
  refine ⟨h2.1,fun n f u hn hP hf hu => ?_⟩
  by_cases e:n = P + 1
  ·subst e;exact h2.2.2 f u hf hu
  ·exact h2.2.1 _ (h1.2 n f u hn (by omega) hf hu)
theorem qwr {tr:Nat → Nat × Nat → Option (List (Nat × Nat))} (fs:List (Nat × Nat)) (P:Nat):Knw tr P fs (mbe (insN tr fs P)) :=by
 have h :=qoi (tr :=tr) fs P
 refine ⟨fun n f h1 h2 hf e => qoq (n,f) _ 0 fun u hu => ?_,fun n f u h1 h2 hf e => ?_⟩
 ·have :=h.1 n f u hu
  rw [e] at this;cases this
 ·obtain ⟨j,z,_⟩ :=qlq (n,f) u (insN tr fs P) 0 (h.2 n f u h1 h2 hf e) fun w hw => by
   have :=h.1 n f w hw
   rw [e] at this;injection this with this;exact this.symm
  exact ⟨_,z⟩
def gI (l:List (Int × Int)) (i:Nat):Int × Int :=l.getD i (0,0)
theorem qox (l:List (Int × Int)) {i:Nat} (h:i < l.length):l.drop i = gI l i :: l.drop (i + 1) :=by
 rw [List.drop_eq_getElem_cons h]
 simp [gI,List.getD,h]
theorem qxr (l:List (Int × Int)) {i:Nat} (h:i < l.length):qdk 2 (qew (i * 2) (flat l)) = some [iv (gI l i).1,iv (gI l i).2] :=by
 rw [qi1,qox l h]
 rfl
def allF (l:List (Int × Int)):Prop :=∀ p,p ∈ l → isF p.1 p.2
instance (l:List (Int × Int)):Decidable (allF l) :=Classical.propDecidable _
theorem qfe {x:Int × Int} {r:List (Int × Int)}:allF (x :: r) ↔ isF x.1 x.2 ∧ allF r :=
 ⟨fun h => ⟨h _ List.mem_cons_self,fun p hp => h p (List.mem_cons_of_mem _ hp)⟩,fun h p hp => by
  rcases List.mem_cons.1 hp with e | e
  ·subst e;exact h.1
  ·exact h.2 p e⟩
def qm5:List (Int × Int) → Int → Int
 | [],_ => -1
 |x :: r,i => if isF x.1 x.2 then qm5 r (i + 1) else i
theorem qqi:∀ (l:List (Int × Int)) (i:Int),0 ≤ i → decide (qm5 l i ≥ 0) = !(decide (allF l))
 | [],i,_ => by
  rw [zT (show allF [] from fun _ h => absurd h List.not_mem_nil)]
  rfl
 |x :: r,i,h => by
  rw [qm5]
  by_cases hx:isF x.1 x.2
  ·rw [if_pos hx,qqi r (i + 1) (by omega)]
   by_cases hr:allF r
   ·rw [zT hr,zT (qfe.2 ⟨hx,hr⟩)]
   ·rw [zF hr,zF fun k => hr (qfe.1 k).2]
  ·rw [if_neg hx,zT h,zF fun k => hx (qfe.1 k).1];rfl
theorem qoh (a b:Int):Pure prog 105 [fv a b] (.bool (!(decide (isF a b)))) :=by
 refine zA fun S q pc hS hq hC hE => ?_
 conv=>whnf
 refine qab hC (qiv a b) ?_
 conv=>whnf
 exact ⟨_,rfl,Wk.refl _⟩
theorem qmx (l:List (Int × Int)) (hl:l.length < 4611686018427387904):Pure prog 140 [pv l,.func (.func 105) [] []] (iv (qm5 l 0)) :=by
 have ll :=qag l
 refine zA fun S q pc hS hq hC hE => ?_
 conv=>whnf
 refine qbh hE hS (A :=Nat) [0,1,7] (fun i => [(8,nv i)]) (fun _ => []) (fun i => i ≤ l.length ∧ qm5 (l.drop i) i = qm5 l 0) (fun i => l.length - i) 0 rfl rfl zD ⟨Nat.zero_le _,rfl⟩ ?_
 intro i ⟨hi,he⟩
 conv=>whnf
 by_cases h:i < l.length
 ·refine qaa ((show decide (Int.ofNat i < (l.length:Int)) = true from zT (show (i:Int) < (l.length:Int) by omega))) ?_
  conv=>whnf
  refine qaa (qaf (show i < l.length by omega)) ?_
  conv=>whnf
  refine qac (takP (qxr l h)) ?_
  refine qab hC (qoh (gI l i).1 (gI l i).2) ?_
  conv=>whnf
  rw [qox l h,qm5] at he
  by_cases h1:isF (gI l i).1 (gI l i).2
  ·rw [zT h1]
   rw [if_pos h1] at he
   conv=>whnf
   rw [show IntKind.i64.wrap (Int.ofNat i + 1) = Int.ofNat (i + 1) from qa2 (m :=i + 1) (by omega)]
   exact ⟨i + 1,⟨h,he⟩,by omega,zD⟩
  ·rw [zF h1]
   rw [if_neg h1] at he
   conv=>whnf
   rw [← he]
   exact ⟨_,rfl,Wk.refl _⟩
 ·refine qad (zF (show ¬ (i:Int) < (l.length:Int) by omega)) ?_
  conv=>whnf
  rw [List.drop_eq_nil_of_le (by omega),qm5] at he
  rw [← he]
  exact ⟨_,rfl,Wk.refl _⟩
theorem qhf (l:List (Int × Int)) (hl:l.length < 4611686018427387904) {r:Bool} (hr:r = true ↔ ¬ allF l):Pure prog 104 [pv l,.func (.func 105) [] []] (.bool r) :=by
 rw [show r = !(decide (allF l)) by rw [Bool.eq_iff_iff,hr];simp]
 refine zA fun S q pc hS hq hC hE => ?_
 conv=>whnf
 refine qab hC (qmx l hl) ?_
 conv=>whnf
 rw [qqi l 0 (Int.le_refl _)]
 exact ⟨_,rfl,Wk.refl _⟩
def shOk (a b p s:Int) (l:List Int) (fs:List (Int × Int)) (q t:Int):Prop :=rOk a b p s l ∧ (1 ≤ fs.length ∧ fs.length ≤ 3) ∧ allF fs ∧ (1 ≤ q ∧ q ≤ 9) ∧ 0 ≤ t ∧ t ≤ 10000
theorem inX {x a b:Int} {r:Bool} (h:r = true ↔ a ≤ x ∧ x ≤ b):Pure prog 103 [iv x,iv a,iv b] (.bool r) :=by
 have :=qcv x a b
 rwa [show decide (a ≤ x ∧ x ≤ b) = r by rw [Bool.eq_iff_iff,decide_eq_true_iff,h]] at this
theorem qkh {N:AV} {l:List Int} (hN:IL N l) (hl:l.length < 4611686018427387904) (a b p s:Int) (hs:-9223372036854775808 ≤ s ∧ s < 9223372036854775808) (fs:List (Int × Int)) (hf:fs.length < 4611686018427387904) (q t:Int) (h:¬ shOk a b p s l fs q t) :
  Pure prog 44 [rv a b p s N,pv fs,iv q,iv t] (.tup [.nils,iv 0,iv 2]) :=by
 have lN :=hN.no
 have lf :=qag fs
 have h1 :=fun r (hr:r = true ↔ rOk a b p s l) => qev hN hl a b p s hs hr
 have h2 :=fun r (hr:r = true ↔ (1:Int) ≤ (fs.length:Int) ∧ (fs.length:Int) ≤ 3) => inX hr
 have h3 :=fun r (hr:r = true ↔ ¬ allF fs) => qhf fs hf hr
 have h4 :=fun r (hr:r = true ↔ 1 ≤ q ∧ q ≤ 9) => inX hr
 have h5 :=qiu t
 by_cases c1:rOk a b p s l
 ·have h1 :=h1 true ⟨fun _ => c1,fun _ => rfl⟩
  by_cases c2:(1:Int) ≤ (fs.length:Int) ∧ (fs.length:Int) ≤ 3
  ·have h2 :=h2 true ⟨fun _ => c2,fun _ => rfl⟩
   by_cases c3:allF fs
   ·have h3 :=h3 false ⟨fun z => (nomatch z),fun z => absurd c3 z⟩
    by_cases c4:1 ≤ q ∧ q ≤ 9
    ·have h4 :=h4 true ⟨fun _ => c4,fun _ => rfl⟩
     have h5:Pure prog 67 [iv t] (.bool false) :=by rwa [zF fun z => h ⟨c1,⟨by omega,by omega⟩,c3,c4,z⟩] at h5
     rcases hN.cs with rfl | rfl
     all_goals
      refine zA fun S q pc hS hq hC hE => ?_
      conv=>whnf
      repeat ((first
       |refine qab hC (h1) ?_
       |refine qab hC (h2) ?_
       |refine qab hC (h3) ?_
       |refine qab hC (h4) ?_
       |refine qab hC (h5) ?_
       |refine zd hS ?_);conv=>whnf)
      exact ⟨_,rfl,Wk.refl _⟩
    ·have h4 :=h4 false ⟨fun z => (nomatch z),fun z => absurd z c4⟩
     rcases hN.cs with rfl | rfl
     all_goals
      refine zA fun S q pc hS hq hC hE => ?_
      conv=>whnf
      repeat ((first
       |refine qab hC (h1) ?_
       |refine qab hC (h2) ?_
       |refine qab hC (h3) ?_
       |refine qab hC (h4) ?_
       |refine zd hS ?_);conv=>whnf)
      exact ⟨_,rfl,Wk.refl _⟩
   ·have h3 :=h3 true ⟨fun _ => c3,fun _ => rfl⟩
    rcases hN.cs with rfl | rfl
    all_goals
     refine zA fun S q pc hS hq hC hE => ?_
     conv=>whnf
     repeat ((first
      |refine qab hC (h1) ?_
      |refine qab hC (h2) ?_
      |refine qab hC (h3) ?_
      |refine zd hS ?_);conv=>whnf)
     exact ⟨_,rfl,Wk.refl _⟩
  ·have h2 :=h2 false ⟨fun z => (nomatch z),fun z => absurd z c2⟩
   rcases hN.cs with rfl | rfl
   all_goals
    refine zA fun S q pc hS hq hC hE => ?_
    conv=>whnf
    repeat ((first
     |refine qab hC (h1) ?_
     |refine qab hC (h2) ?_
     |refine zd hS ?_);conv=>whnf)
    exact ⟨_,rfl,Wk.refl _⟩
 ·have h1 :=h1 false ⟨fun z => (nomatch z),fun z => absurd z c1⟩
  rcases hN.cs with rfl | rfl
  all_goals
   refine zA fun S q pc hS hq hC hE => ?_
   conv=>whnf
   repeat ((first
    |refine qab hC (h1) ?_
    |refine zd hS ?_);conv=>whnf)
   exact ⟨_,rfl,Wk.refl _⟩
abbrev wgA (a b n s:Int) (N T:AV) (S:List AV) (k:Nat) (M:List AV) (j:Nat):AV :=.agg [iv a,iv b,iv n,iv s,N,T,.lst S k .no,.lst M j .no]
theorem qwd {N:AV} {l:List Int} (hN:IL N l) (hl:l.length < 4611686018427387904) (a b:Nat) (ha:4 ≤ a) (hab:a ≤ b) (hb:b ≤ 60) (s:Int) (hs:1 ≤ s ∧ s ≤ 3) (n:Nat) (hn:1 ≤ n ∧ n ≤ 3) :
  ∃ (T:AV) (S:List AV) (k:Nat) (M:List AV) (j:Nat),(T = .nils ∨ ∃ (t:List AV) (i:Nat),T = .lst t i .no ∧ Lives noL t) ∧ Lives noL S ∧ Lives noL M ∧
   Pure prog 83 [rv (Int.ofNat a) (Int.ofNat b) (Int.ofNat n) s N] (ruv (Int.ofNat a) (Int.ofNat b) (Int.ofNat n) s N T) ∧
   Pure prog 93 [ruv (Int.ofNat a) (Int.ofNat b) (Int.ofNat n) s N T] (wgA (Int.ofNat a) (Int.ofNat b) (Int.ofNat n) s N T S k M j) ∧
   ∀ x y:Nat,x ≤ 50000 → 1 ≤ y ∧ y ≤ 50000 → Pure prog 94 [wgA (Int.ofNat a) (Int.ofNat b) (Int.ofNat n) s N T S k M j,fv (Int.ofNat x) (Int.ofNat y)] (fV (nrT (tp a b l) n (qav s) x y)) :=by
 have pu :=qq8 hN hl a b hab hb (Int.ofNat n) s
 rw [← q0s l hab] at pu
 by_cases hT:tL a b l = []
 ·rw [hT] at pu
  refine ⟨.nils,eS n,n + 1,prE n,n + 1,.inl rfl,qrz n,qe5 _ n,pu,qy6 hN a b s n hn,fun x y hx hy => ?_⟩
  have en:nrT (tp a b l) n (qav s) x y = none :=qp3 fun z hz => by
   rw [← qxt (l :=l),hT] at hz
   cases hz
  rw [en]
  exact qla hN (Int.ofNat a) (Int.ofNat b) s n hn.2 (Int.ofNat x) (Int.ofNat y)
 ·have h60:∀ x,x ∈ tL a b l → 1 ≤ x ∧ x ≤ 60 :=fun x hx => qq1 (by omega) hb ((qbc _ _ _).1 hx).2
  have hTl :=q0t l hab ha hb
  have hsr :=qcf (tp a b l) (b + 1)
  have eT:sv (zl (tL a b l)) = nl (zl (tL a b l)) :=by
   rcases qco (zl (tL a b l)) with ⟨z,_⟩ | z
   ·exact absurd (List.map_eq_nil_iff.1 z) hT
   ·exact z
  rw [eT] at pu
  have pp :=q01 hN a b s n hn (tL a b l) hT (fun x hx => (h60 x hx).2) hTl
  refine ⟨nl (zl (tL a b l)),prS (fun n => n ∈ tL a b l) n,_,prM (fun n => n ∈ tL a b l) n,_,.inr ⟨_,_,rfl,qd4 _⟩,qg9 _ n,qe5 _ n,pu,pp,fun x y hx hy => ?_⟩
  have pn :=qmo hN (Int.ofNat a) (Int.ofNat b) s hs n hn (tL a b l) hT hsr h60 hTl x y hx hy
  rw [← qxt]
  exact pn
theorem qmw (tr:Nat → Nat × Nat → Option (List (Nat × Nat))) (n:Nat):∀ (fs:List (Nat × Nat)) (f:Nat × Nat) (l:List Ent),insF tr n (fs ++ [f]) l = insE tr n f (insF tr n fs l)
 | [],_,_ => rfl
 |x :: r,f,l => by rw [List.cons_append,insF,qmw tr n r f];rfl
theorem qgb (m:Nat):∀ l:List Ent,BdE m (mbe l)
 | [] => trivial
 |x :: l => ⟨Nat.zero_le _,qaj (qag (zp x.2)),qgb m l⟩
theorem qpd (k:Nat × Nat × Nat) (u:List (Nat × Nat)):∀ l:List Ent,qgv (mbe l) (keyA k,pv (zp u)) = mbe (l ++ [(k,u)])
 | [] => rfl
 |x :: l => by rw [mbe,qgv,qpd k u l];rfl
theorem qmu:∀ (l:List Ent) (i:Nat) {p:AV × AV},(mbe l)[i]? = some p → qlj (mbe l) i = some p.1 ∧ setE (mbe l) i p = mbe l
 | [],i,p,h => by cases i <;> cases h
 |x :: l,0,p,h => by injection h with h;subst h;exact ⟨rfl,rfl⟩
 |x :: l,i + 1,p,h => by
  have :=qmu l i (p :=p) h
  exact ⟨this.1,by rw [mbe,setE,this.2]⟩
theorem qv5 (k:Nat × Nat × Nat):qkk 8 (keyA k) (keyA k) = true :=by
 simp [qkk,qfu]
theorem qyg (u:List (Nat × Nat)) (k:Nat × Nat × Nat):Nat.max (bd (keyA k)) (bd (pv (zp u))) = 0 :=by
 have h1:bd (keyA k) = 0 :=rfl
 rw [h1,qxh _ (pv_no _)]
 rfl
theorem q12 {o:Nat} {k:Nat × Nat × Nat} {u:List (Nat × Nat)} {l:List Ent} (h:∀ u,(k,u) ∉ l) :
  (match qdh prog seatT 134 (keyA k) (mbe l) 0 with
   |some (some (i,_)) => match qlj (mbe l) i with
    |some k' => Plan.chk (qkk 8 k' (keyA k)) (.seto o (.mapo (setE (mbe l) i (keyA k,pv (zp u)))) (Nat.max (bd (keyA k)) (bd (pv (zp u)))) .skip)
    |none => .fail
   |some none => .seto o (.mapo (qgv (mbe l) (keyA k,pv (zp u)))) (Nat.max (bd (keyA k)) (bd (pv (zp u)))) .skip
   |none => .fail) = .seto o (.mapo (mbe (l ++ [(k,u)]))) 0 .skip :=by
 rw [qoq k l 0 h,qyg,qpd]
theorem q11 {o:Nat} {k:Nat × Nat × Nat} {u:List (Nat × Nat)} {l:List Ent} (h:(k,u) ∈ l) (hu:∀ w,(k,w) ∈ l → w = u) :
  (match qdh prog seatT 134 (keyA k) (mbe l) 0 with
   |some (some (i,_)) => match qlj (mbe l) i with
    |some k' => Plan.chk (qkk 8 k' (keyA k)) (.seto o (.mapo (setE (mbe l) i (keyA k,pv (zp u)))) (Nat.max (bd (keyA k)) (bd (pv (zp u)))) .skip)
    |none => .fail
   |some none => .seto o (.mapo (qgv (mbe l) (keyA k,pv (zp u)))) (Nat.max (bd (keyA k)) (bd (pv (zp u)))) .skip
   |none => .fail) = .chk true (.seto o (.mapo (mbe l)) 0 .skip) :=by
 obtain ⟨j,h1,h2⟩ :=qlq k u l 0 h hu
 have h3 :=qmu l j h2
 rw [h1,qyg]
 simp only [Nat.zero_add,h3.1,h3.2,qv5]
end
end Go.Abs.Seat
