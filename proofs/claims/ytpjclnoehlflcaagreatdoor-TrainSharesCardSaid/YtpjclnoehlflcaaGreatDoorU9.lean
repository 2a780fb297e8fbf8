/-
  The document's first train.
  The nearest train: plain.
  The document's nearest train: plain.
  Products of numbers of a list, each taken from its place on: plain.
  Lists of fractions.
  Trains held against each other.
  The best of some trains.
  Whether a fraction can be one of some pairs.
  How great the products get: repeated numbers, and their products.
  The program's products of teeth.
  The program's search for a product.
-/
import Derived.Test.YtpjclnoehlflcaaGreatDoorT36
import Derived.Test.YtpjclnoehlflcaaGreatDoorU8
import Derived.Test.YtpjclnoehlflcaaGreatDoorU4
namespace Go.Abs.Seat
noncomputable section
open Go Go.Abs Go.Proofs.Tryz
set_option maxRecDepth 100000
set_option maxHeartbeats 40000000
attribute [local irreducible] IntKind.wrap pEq
def zp (t:List (Nat × Nat)):List (Int × Int) :=t.map fun p => (Int.ofNat p.1,Int.ofNat p.2)
theorem qa9 (t:List (Nat × Nat)):(zp t).length = t.length :=List.length_map _
def trA:List (Nat × Nat) → AV
 | [] => .nils
 |p :: r => pv (zp (p :: r))
theorem ql6 (t:List (Nat × Nat)):Live noL (trA t) :=by
 cases t with
 |nil => trivial
 |cons p r => exact pv_no _
def fV:Option (List (Nat × Nat)) → AV
 |none => .tup [.nils,.bool false]
 |some t => .tup [trA t,.bool true]
theorem qw5 (r:Option (List (Nat × Nat))):Live noL (fV r) :=by
 cases r with
 |none => exact ⟨trivial,trivial,trivial⟩
 |some t => exact ⟨ql6 t,trivial,trivial⟩
theorem qq2 (l:List (Int × Int)):qdk (l.length * 2) (flat l) = some (flat l) :=by
 have :=qh9 (flat l)
 rwa [flat_len] at this
theorem qgq:∀ l:List (Int × Int),qda (flat l) = true
 | [] => rfl
 | _ :: r => qgq r
theorem qam {x:Nat} {c:Bool} {E:Env} {S:Sub} {o:Oper} {K:KE} {tm:Tr AV} {df:List ADf} {pm:APm} {rd:Bool} {h:Tr AObj} {n b:Nat} {wr:List Nat} (hc:c = true) (hk:qk8 E S o K tm df pm rd h n b wr):@Bool.rec (fun _ => KO) qhb qk8 (@Bool.rec (fun _ => Bool) (@Bool.rec (fun _ => Bool) true false (x,true).snd) (x,true).snd c) E S o K tm df pm rd h n b wr :=by subst hc;exact hk
theorem qaz {x:Nat} {c:Bool} {E:Env} {S:Sub} {o:Oper} {K:KE} {tm:Tr AV} {df:List ADf} {pm:APm} {rd:Bool} {h:Tr AObj} {n b:Nat} {wr:List Nat} (hc:c = false) (hk:qhb E S o K tm df pm rd h n b wr):@Bool.rec (fun _ => KO) qhb qk8 (@Bool.rec (fun _ => Bool) (@Bool.rec (fun _ => Bool) true false (x,true).snd) (x,true).snd c) E S o K tm df pm rd h n b wr :=by subst hc;exact hk
theorem qa0 {x:Nat} {c:Bool} {E:Env} {S:Sub} {o:Oper} {K:KE} {tm:Tr AV} {df:List ADf} {pm:APm} {rd:Bool} {h:Tr AObj} {n b:Nat} {wr:List Nat} (hc:c = false) (hk:qk8 E S o K tm df pm rd h n b wr):@Bool.rec (fun _ => KO) qhb qk8 (@Bool.rec (fun _ => Bool) (@Bool.rec (fun _ => Bool) true false (x,false).snd) (x,false).snd c) E S o K tm df pm rd h n b wr :=by subst hc;exact hk
theorem qal {x:Nat} {c:Bool} {E:Env} {S:Sub} {o:Oper} {K:KE} {tm:Tr AV} {df:List ADf} {pm:APm} {rd:Bool} {h:Tr AObj} {n b:Nat} {wr:List Nat} (hc:c = true) (hk:qhb E S o K tm df pm rd h n b wr):@Bool.rec (fun _ => KO) qhb qk8 (@Bool.rec (fun _ => Bool) (@Bool.rec (fun _ => Bool) true false (x,false).snd) (x,false).snd c) E S o K tm df pm rd h n b wr :=by subst hc;exact hk
theorem qah {t:Bool} {a b:AV} (h:t = true):qrf (.bool t) a b = Plan.ret a :=by subst h;rfl
theorem qar {t:Bool} {a b:AV} (h:t = false):qrf (.bool t) a b = Plan.ret b :=by subst h;rfl
theorem qso {P:Prop} (o:Option (List (Nat × Nat))) (hn:o = none → P) (h0:o = some [] → P) (h1:∀ q r,o = some (q :: r) → P):P :=by
 rcases o with _ | _ | ⟨q,r⟩
 ·exact hn rfl
 ·exact h0 rfl
 ·exact h1 q r rfl
theorem qn3 {N:AV} {l:List Int} (h:IL N l) (hl:l.length < 4611686018427387904) (a b:Nat) (ha:1 ≤ a) (hab:a ≤ b) (hb:b ≤ 60) (p s:Int):∀ (k:Nat),k ≤ 3 → ∀ (X Y:Nat) (f:Nat × Nat),X ≤ 216000 → Y ≤ 216000 → 1 ≤ f.1 → f.1 ≤ 60 → f.2 ≤ 60 →
  Pure prog 98 [rv (Int.ofNat a) (Int.ofNat b) p s N,nv X,nv Y,nv k,fv (Int.ofNat f.1) (Int.ofNat f.2)] (fV (fstT (tp a b l) k X Y f)) :=by
 have lN :=h.no
 have cp:∀ n:Nat,Pure prog 90 [rv (Int.ofNat a) (Int.ofNat b) p s N,nv n] (.bool (bq (tp a b l n))) :=fun n => by
  have :=qqo h hl (Int.ofNat a) (Int.ofNat b) p s (Int.ofNat n)
  rwa [show decide (cutP (Int.ofNat a) (Int.ofNat b) l (Int.ofNat n)) = bq (tp a b l n) by
   by_cases k:tp a b l n
   ·rw [bq_t k];exact zT k
   ·rw [bq_f k];exact zF k] at this
 have hN :=h.cs
 clear h
 intro k
 induction k with
 |zero =>
  intro _ X Y f hX hY _ _ _
  have lv :=qw5 (fstT (tp a b l) 0 X Y f)
  have e:fV (fstT (tp a b l) 0 X Y f) = .tup [.nils,.bool (decide (X = 1 ∧ Y = 1))] :=by
   by_cases h:X = 1 ∧ Y = 1
   ·rw [qe9 (t :=[]) ⟨by rw [Vt];exact h,fun u _ k => (by cases u <;> simp [ltL] at k)⟩,zT h];rfl
   ·rw [qm3 fun t ht => by
     cases t with
     |nil => rw [Vt] at ht;exact h ht
     |cons p r => simp [Vt] at ht,zF h];rfl
  rw [e] at lv ⊢
  rcases hN with rfl | rfl
  all_goals
   refine zA fun S q pc hS hq hC hE => ?_
   conv=>whnf
   by_cases h1:X = 1
   ·rw [show (Int.ofNat X == 1) = true from (qc7 X 1).trans (zT h1)]
    conv=>whnf
    refine ⟨_,rfl,?_⟩
    rw [show decide (X = 1 ∧ Y = 1) = decide (Y = 1) from decide_eq_decide.2 ⟨fun h => h.2,fun h => ⟨h1,h⟩⟩,← qc7 Y 1]
    exact Wk.refl _
   ·rw [show (Int.ofNat X == 1) = false from (qc7 X 1).trans (zF h1)]
    conv=>whnf
    rw [zF fun h => h1 h.1]
    exact ⟨_,rfl,Wk.refl _⟩
 |succ k ih =>
  intro hk X Y f hX hY hf1 hf2 hf3
  have lv :=qw5 (fstT (tp a b l) (k + 1) X Y f)
  have recA:∀ x y X Y:Nat,X ≤ 216000 → Y ≤ 216000 → 1 ≤ x → 1 ≤ y → x ≤ 60 → y ≤ 60 → IntKind.i64.wrap ((Int.ofNat X).tdiv (Int.ofNat x)) = Int.ofNat (X / x) → IntKind.i64.wrap ((Int.ofNat Y).tdiv (Int.ofNat y)) = Int.ofNat (Y / y) → IntKind.i64.wrap (Int.ofNat (k + 1) - 1) = Int.ofNat k → ∀ o,fstT (tp a b l) k (X / x) (Y / y) (x,y) = o →
    Pure prog 98 [rv (Int.ofNat a) (Int.ofNat b) p s N,.int .i64 (IntKind.i64.wrap ((Int.ofNat X).tdiv (Int.ofNat x))),.int .i64 (IntKind.i64.wrap ((Int.ofNat Y).tdiv (Int.ofNat y))),.int .i64 (IntKind.i64.wrap (Int.ofNat (k + 1) - 1)),fv (Int.ofNat x) (Int.ofNat y)] (fV o) :=fun x y X Y hX hY hx hy hx2 hy2 e1 e3 e4 o hr => by
   have d1 :=Nat.div_le_self X x
   have d2 :=Nat.div_le_self Y y
   have pf :=ih (by omega) (X / x) (Y / y) (x,y) (by omega) (by omega) hx hx2 hy2
   rw [hr] at pf
   rw [e1,e3,e4]
   exact pf
  have recN :=fun x y X Y hX hY hx hy hx2 hy2 e1 e3 e4 hr => recA x y X Y hX hY hx hy hx2 hy2 e1 e3 e4 none hr
  have rec0 :=fun x y X Y hX hY hx hy hx2 hy2 e1 e3 e4 hr => recA x y X Y hX hY hx hy hx2 hy2 e1 e3 e4 (some []) hr
  have rec1 :=fun x y X Y hX hY hx hy hx2 hy2 e1 e3 e4 q r hr => recA x y X Y hX hY hx hy hx2 hy2 e1 e3 e4 (some (q :: r)) hr
  have ht60:∀ n,tp a b l n → n ≤ 60 :=fun n h => (qq1 ha hb h).2
  rcases hN with rfl | rfl
  all_goals
   refine zA fun S q pc hS hq hC hE => ?_
   conv=>whnf
   rw [show (Int.ofNat (k + 1) == 0) = false from rfl]
   conv=>whnf
   refine qbe hE hS (A :=Nat) [1,2,3,5,9] (fun x => [(12,nv x)]) (fun _ => []) (fun _ => []) (fun x => 1 ≤ x ∧ x ≤ 61 ∧ ∀ q u,q.1 < x → ¬ Vt (tp a b l) (k + 1) X Y f (q :: u)) (fun x => 61 - x) f.1 (Nat.le_of_ble_eq_true rfl) rfl zG2 ⟨hf1,by omega,fun q u hq hv => by rw [Vt] at hv;exact hv.1.2.2 (.inl hq)⟩ ?_
   intro x ⟨hx1,hx2,hnoA⟩ M hM
   obtain rfl:M = 2 :=hM
   have hx1w:x ≤ 60 → IntKind.i64.wrap (Int.ofNat x + 1) = Int.ofNat (x + 1) :=fun h => qa2 (m :=x + 1) (by omega)
   conv=>whnf
   by_cases hxb:x ≤ b
   ·refine qaa (zT (show Int.ofNat x ≤ Int.ofNat b by show (x:Int) ≤ (b:Int);omega)) ?_
    conv=>whnf
    refine qbe hE hS (A :=Nat) [1,2,3,5,9,12] (fun y => [(13,nv y)]) (fun _ => []) (fun _ => []) (fun y => 1 ≤ y ∧ y ≤ 61 ∧ ∀ q u,(q.1 < x ∨ q.1 = x ∧ q.2 < y) → ¬ Vt (tp a b l) (k + 1) X Y f (q :: u)) (fun y => 61 - y) a (Nat.le_of_ble_eq_true rfl) rfl zG2 ⟨ha,by omega,fun q u hq hv => by
     rcases hq with hq | ⟨_,hq⟩
     ·exact hnoA q u hq hv
     ·rw [Vt] at hv
      have :=qh5 hv.1.2.1
      omega⟩ ?_
    intro y ⟨hy1,hy2,hno⟩ M hM
    obtain rfl:M = 2 :=hM
    have hy1w:y ≤ 60 → IntKind.i64.wrap (Int.ofNat y + 1) = Int.ofNat (y + 1) :=fun h => qa2 (m :=y + 1) (by omega)
    conv=>whnf
    by_cases hyb:y ≤ b
    ·have hyd:decide (Int.ofNat y ≤ Int.ofNat b) = true :=zT (by show (y:Int) ≤ (b:Int);omega)
     repeat (refine que (by rw [hyd]) ?_;conv=>whnf)
     refine qaa (ne0 hx1) ?_
     conv=>whnf
     repeat (refine que (by rw [hyd]) ?_;conv=>whnf)
     refine qac (qah (hyd)) ?_
     conv=>whnf
     by_cases hd1:X % x = 0
     ·refine qaa (q1t (b :=0) hd1) ?_
      conv=>whnf
      refine qaa (ne0 hy1) ?_
      conv=>whnf
      have cx :=cp x
      have cy :=cp y
      by_cases hd2:Y % y = 0
      ·have e2:((Int.ofNat Y).tmod (Int.ofNat y) != 0) = false :=by show ((Int.ofNat (Y % y)) != 0) = false;rw [hd2];rfl
       by_cases tx:tp a b l x
       ·rw [bq_t tx] at cx
        by_cases ty:tp a b l y
        ·rw [bq_t ty] at cy
         by_cases hbf:ltQ (x,y) f
         ·have pb :=qf1 (Int.ofNat x) (Int.ofNat y) (Int.ofNat f.1) (Int.ofNat f.2)
          rw [zT (qgz.2 (by unfold ltQ at hbf;simp only [Int.ofNat_eq_natCast];omega))] at pb
          have bad:∀ u,¬ Vt (tp a b l) (k + 1) X Y f ((x,y) :: u) :=fun u hv => by rw [Vt] at hv;exact hv.1.2.2 hbf
          repeat ((first
           |refine qaz e2 ?_
           |refine qa0 e2 ?_
           |refine qac (qar e2) ?_
           |refine qad e2 ?_
           |refine qab hC (cx) ?_
           |refine qab hC (cy) ?_
           |refine qab hC (pb) ?_
           |refine zd hS ?_);conv=>whnf)
          exact ⟨y + 1,⟨by omega,by omega,fun q u hq hv => by
           rcases hq with hq | ⟨hq1,hq2⟩
           ·exact hno q u (.inl hq) hv
           ·by_cases e:q.2 = y
            ·obtain ⟨q1,q2⟩ :=q
             have e:q2 = y :=e
             have hq1:q1 = x :=hq1
             subst e hq1
             exact bad u hv
            ·exact hno q u (.inr ⟨hq1,by omega⟩) hv⟩,by show 61 - (y + 1) < 61 - y;omega,Nat.le_refl _,(by refine ⟨rfl,rfl,rfl,rfl,rfl,rfl,2,rfl,?_,?_⟩ <;> repeat' (first | exact ⟨_,rfl,WkV.int (hy1w (by omega))⟩ | exact zZ | apply And.intro))⟩
         ·have pb :=qf1 (Int.ofNat x) (Int.ofNat y) (Int.ofNat f.1) (Int.ofNat f.2)
          rw [zF (fun k => hbf (by have :=qgz.1 k;unfold ltQ;simp only [Int.ofNat_eq_natCast] at this;omega))] at pb
          have e1:IntKind.i64.wrap ((Int.ofNat X).tdiv (Int.ofNat x)) = Int.ofNat (X / x) :=quoN (by omega)
          have e3:IntKind.i64.wrap ((Int.ofNat Y).tdiv (Int.ofNat y)) = Int.ofNat (Y / y) :=quoN (by omega)
          have e4:IntKind.i64.wrap (Int.ofNat (k + 1) - 1) = Int.ofNat k :=qfg (m :=k + 1) (by omega) (by omega)
          have d1 :=Nat.div_le_self X x
          have d2 :=Nat.div_le_self Y y
          refine qso (fstT (tp a b l) k (X / x) (Y / y) (x,y)) (fun hr => ?_) (fun hr => ?_) (fun q r hr => ?_)
          ·have pf :=recN x y X Y hX hY hx1 hy1 (by omega) (by omega) e1 e3 e4 hr
           have bad :=qz4 ht60 (p :=(x,y)) (X :=X) (Y :=Y) (f :=f) hr
           repeat ((first
            |refine qaz e2 ?_
            |refine qa0 e2 ?_
            |refine qac (qar e2) ?_
            |refine qad e2 ?_
            |refine qab hC (cx) ?_
            |refine qab hC (cy) ?_
            |refine qab hC (pb) ?_
            |refine zd hS ?_);conv=>whnf)
           refine qaa (ne0 hx1) ?_
           conv=>whnf
           refine qaa (ne0 hy1) ?_
           conv=>whnf
           refine qab hC (pf) ?_
           conv=>whnf
           refine zd hS ?_
           conv=>whnf
           exact ⟨y + 1,⟨by omega,by omega,fun q u hq hv => by
            rcases hq with hq | ⟨hq1,hq2⟩
            ·exact hno q u (.inl hq) hv
            ·by_cases e:q.2 = y
             ·obtain ⟨q1,q2⟩ :=q
              have e:q2 = y :=e
              have hq1:q1 = x :=hq1
              subst e hq1
              exact bad u hv
             ·exact hno q u (.inr ⟨hq1,by omega⟩) hv⟩,by show 61 - (y + 1) < 61 - y;omega,Nat.le_refl _,(by refine ⟨rfl,rfl,rfl,rfl,rfl,rfl,2,rfl,?_,?_⟩ <;> repeat' (first | exact ⟨_,rfl,WkV.int (hy1w (by omega))⟩ | exact zZ | apply And.intro))⟩
          ·have pf :=rec0 x y X Y hX hY hx1 hy1 (by omega) (by omega) e1 e3 e4 hr
           have hres :=qm1 (p :=(x,y)) (X :=X) (Y :=Y) (f :=f) ⟨⟨tx,ty,hbf⟩,hd1,hd2⟩ hr (fun q u hq => hno q u (by unfold ltQ at hq;exact hq))
           repeat ((first
            |refine qaz e2 ?_
            |refine qa0 e2 ?_
            |refine qac (qar e2) ?_
            |refine qad e2 ?_
            |refine qab hC (cx) ?_
            |refine qab hC (cy) ?_
            |refine qab hC (pb) ?_
            |refine zd hS ?_);conv=>whnf)
           refine qaa (ne0 hx1) ?_
           conv=>whnf
           refine qaa (ne0 hy1) ?_
           conv=>whnf
           refine qab hC (pf) ?_
           conv=>whnf
           refine zd hS ?_
           conv=>whnf
           rw [hres]
           exact ⟨_,rfl,qjj (qo5 rfl)⟩
          ·have pf :=rec1 x y X Y hX hY hx1 hy1 (by omega) (by omega) e1 e3 e4 q r hr
           have hres :=qm1 (p :=(x,y)) (X :=X) (Y :=Y) (f :=f) ⟨⟨tx,ty,hbf⟩,hd1,hd2⟩ hr (fun q u hq => hno q u (by unfold ltQ at hq;exact hq))
           repeat ((first
            |refine qaz e2 ?_
            |refine qa0 e2 ?_
            |refine qac (qar e2) ?_
            |refine qad e2 ?_
            |refine qab hC (cx) ?_
            |refine qab hC (cy) ?_
            |refine qab hC (pb) ?_
            |refine zd hS ?_);conv=>whnf)
           refine qaa (ne0 hx1) ?_
           conv=>whnf
           refine qaa (ne0 hy1) ?_
           conv=>whnf
           refine qab hC (pf) ?_
           conv=>whnf
           refine zd hS ?_
           conv=>whnf
           refine qac (qky (e :=97) (ys :=flat (zp (q :: r))) (m :=(zp (q :: r)).length) (l :=flat (zp (q :: r))) (by kernel_rfl) rfl (qq2 (zp (q :: r)))) ?_
           conv=>whnf
           have hz :=qa9 r
           have hlen:(q :: r).length ≤ k :=Nat.le_of_eq (qhj (qde hr).1)
           rw [List.length_cons] at hlen
           refine qaa (qgq (zp (q :: r))) ?_
           conv=>whnf
           refine qaa (zT (show (0 + 1 + ((zp r).length + 1)) * 16 ≤ 140737488355328 by omega)) ?_
           conv=>whnf
           refine qaa (zT (show 0 + 1 + ((zp r).length + 1) ≤ 9223372036854775807 by omega)) ?_
           conv=>whnf
           rw [hres]
           exact ⟨_,rfl,qjj (qo5 (xs :=flat (zp ((x,y) :: q :: r))) (by show 0 + 1 + ((zp r).length + 1) = (zp r).length + 1 + 1;omega))⟩
        ·rw [bq_f ty] at cy
         have bad:∀ u,¬ Vt (tp a b l) (k + 1) X Y f ((x,y) :: u) :=fun u hv => by rw [Vt] at hv;exact ty hv.1.2.1
         repeat ((first
          |refine qaz e2 ?_
          |refine qa0 e2 ?_
          |refine qac (qar e2) ?_
          |refine qad e2 ?_
          |refine qab hC (cx) ?_
          |refine qab hC (cy) ?_
          |refine zd hS ?_);conv=>whnf)
         exact ⟨y + 1,⟨by omega,by omega,fun q u hq hv => by
          rcases hq with hq | ⟨hq1,hq2⟩
          ·exact hno q u (.inl hq) hv
          ·by_cases e:q.2 = y
           ·obtain ⟨q1,q2⟩ :=q
            have e:q2 = y :=e
            have hq1:q1 = x :=hq1
            subst e hq1
            exact bad u hv
           ·exact hno q u (.inr ⟨hq1,by omega⟩) hv⟩,by show 61 - (y + 1) < 61 - y;omega,Nat.le_refl _,(by refine ⟨rfl,rfl,rfl,rfl,rfl,rfl,2,rfl,?_,?_⟩ <;> repeat' (first | exact ⟨_,rfl,WkV.int (hy1w (by omega))⟩ | exact zZ | apply And.intro))⟩
       ·rw [bq_f tx] at cx
        have bad:∀ u,¬ Vt (tp a b l) (k + 1) X Y f ((x,y) :: u) :=fun u hv => by rw [Vt] at hv;exact tx hv.1.1
        repeat ((first
         |refine qaz e2 ?_
         |refine qa0 e2 ?_
         |refine qac (qar e2) ?_
         |refine qad e2 ?_
         |refine qab hC (cx) ?_
         |refine qab hC (cy) ?_
         |refine zd hS ?_);conv=>whnf)
        exact ⟨y + 1,⟨by omega,by omega,fun q u hq hv => by
         rcases hq with hq | ⟨hq1,hq2⟩
         ·exact hno q u (.inl hq) hv
         ·by_cases e:q.2 = y
          ·obtain ⟨q1,q2⟩ :=q
           have e:q2 = y :=e
           have hq1:q1 = x :=hq1
           subst e hq1
           exact bad u hv
          ·exact hno q u (.inr ⟨hq1,by omega⟩) hv⟩,by show 61 - (y + 1) < 61 - y;omega,Nat.le_refl _,(by refine ⟨rfl,rfl,rfl,rfl,rfl,rfl,2,rfl,?_,?_⟩ <;> repeat' (first | exact ⟨_,rfl,WkV.int (hy1w (by omega))⟩ | exact zZ | apply And.intro))⟩
      ·have e2:((Int.ofNat Y).tmod (Int.ofNat y) != 0) = true :=bne_iff_ne.2 (show Int.ofNat (Y % y) ≠ 0 by intro k;exact hd2 (by exact_mod_cast Int.ofNat.inj k))
       have bad:∀ u,¬ Vt (tp a b l) (k + 1) X Y f ((x,y) :: u) :=fun u hv => by rw [Vt] at hv;exact hd2 hv.2.1.2
       repeat ((first
        |refine qam e2 ?_
        |refine qal e2 ?_
        |refine qac (qah e2) ?_
        |refine qaa e2 ?_
        |refine qab hC (cx) ?_
        |refine qab hC (cy) ?_
        |refine zd hS ?_);conv=>whnf)
       exact ⟨y + 1,⟨by omega,by omega,fun q u hq hv => by
        rcases hq with hq | ⟨hq1,hq2⟩
        ·exact hno q u (.inl hq) hv
        ·by_cases e:q.2 = y
         ·obtain ⟨q1,q2⟩ :=q
          have e:q2 = y :=e
          have hq1:q1 = x :=hq1
          subst e hq1
          exact bad u hv
         ·exact hno q u (.inr ⟨hq1,by omega⟩) hv⟩,by show 61 - (y + 1) < 61 - y;omega,Nat.le_refl _,(by refine ⟨rfl,rfl,rfl,rfl,rfl,rfl,2,rfl,?_,?_⟩ <;> repeat' (first | exact ⟨_,rfl,WkV.int (hy1w (by omega))⟩ | exact zZ | apply And.intro))⟩
     ·refine qad (qow (b :=0) hd1) ?_
      conv=>whnf
      refine .inl ?_
      conv=>whnf
      exact ⟨x + 1,⟨by omega,by omega,fun q u hq hv => by
       by_cases e:q.1 = x
       ·have hv2 :=hv
        rw [Vt,e] at hv2
        exact hd1 hv2.2.1.1
       ·exact hnoA q u (by omega) hv⟩,by show 61 - (x + 1) < 61 - x;omega,Nat.le_refl _,(by refine ⟨rfl,rfl,rfl,rfl,rfl,rfl,2,rfl,?_,?_⟩ <;> repeat' (first | exact ⟨_,rfl,WkV.int (hx1w (by omega))⟩ | exact zZ | apply And.intro))⟩
    ·have hyd:decide (Int.ofNat y ≤ Int.ofNat b) = false :=zF (by show ¬ (y:Int) ≤ (b:Int);omega)
     repeat ((first
      |refine qaz hyd ?_
      |refine qa0 hyd ?_
      |refine qac (qar hyd) ?_
      |refine qad hyd ?_
      |refine zd hS ?_);conv=>whnf)
     refine .inl ?_
     conv=>whnf
     exact ⟨x + 1,⟨by omega,by omega,fun q u hq hv => by
      by_cases e:q.1 = x
      ·have hv2 :=hv
       rw [Vt] at hv2
       have :=qh5 hv2.1.2.1
       exact hno q u (.inr ⟨e,by omega⟩) hv
      ·exact hnoA q u (by omega) hv⟩,by show 61 - (x + 1) < 61 - x;omega,Nat.le_refl _,(by refine ⟨rfl,rfl,rfl,rfl,rfl,rfl,2,rfl,?_,?_⟩ <;> repeat' (first | exact ⟨_,rfl,WkV.int (hx1w (by omega))⟩ | exact zZ | apply And.intro))⟩
   ·refine qad (zF (show ¬ Int.ofNat x ≤ Int.ofNat b by show ¬ (x:Int) ≤ (b:Int);omega)) ?_
    conv=>whnf
    refine .inl ?_
    conv=>whnf
    rw [qm3 fun t ht => by
     cases t with
     |nil => simp [Vt] at ht
     |cons q u =>
      have h0 :=ht
      rw [Vt] at ht
      have :=qh5 ht.1.1
      exact hnoA q u (by omega) h0]
    exact ⟨_,rfl,Wk.refl _⟩
end
end Go.Abs.Seat
namespace Go.Abs.Seat
def xP:List (Nat × Nat) → Nat
 | [] => 1
 |p :: r => p.1 * xP r
def yP:List (Nat × Nat) → Nat
 | [] => 1
 |p :: r => p.2 * yP r
def AllT (tp:Nat → Prop):List (Nat × Nat) → Prop
 | [] => True
 |p :: r => (tp p.1 ∧ tp p.2) ∧ AllT tp r
def Ch:Nat × Nat → List (Nat × Nat) → Prop
 | _,[] => True
 |f,p :: r => ¬ ltQ p f ∧ Ch p r
theorem qqy {tp:Nat → Prop} (h1:∀ n,tp n → 1 ≤ n):∀ {k X Y:Nat} {f:Nat × Nat} {t:List (Nat × Nat)},Vt tp k X Y f t ↔ (t.length = k ∧ AllT tp t ∧ Ch f t) ∧ xP t = X ∧ yP t = Y
 | 0,X,Y,f,[] => by
  rw [Vt,xP,yP,AllT,Ch]
  exact ⟨fun h => ⟨⟨rfl,trivial,trivial⟩,h.1.symm,h.2.symm⟩,fun h => ⟨h.2.1.symm,h.2.2.symm⟩⟩
 | 0,_,_,_,_ :: _ => by rw [Vt];exact ⟨fun h => h.elim,fun h => by cases h.1.1⟩
 | _ + 1,_,_,_,[] => by rw [Vt];exact ⟨fun h => h.elim,fun h => by cases h.1.1⟩
 |k + 1,X,Y,f,p :: t => by
  rw [Vt,qqy h1,AllT,Ch,xP,yP,List.length_cons]
  constructor
  ·rintro ⟨⟨a1,a2,a3⟩,⟨b1,b2⟩,⟨c1,c2,c3⟩,d1,d2⟩
   refine ⟨⟨by omega,⟨⟨a1,a2⟩,c2⟩,a3,c3⟩,?_,?_⟩
   ·rw [d1];exact Nat.mul_div_cancel' (Nat.dvd_of_mod_eq_zero b1)
   ·rw [d2];exact Nat.mul_div_cancel' (Nat.dvd_of_mod_eq_zero b2)
  ·rintro ⟨⟨a1,⟨⟨a2,a3⟩,a4⟩,a5,a6⟩,rfl,rfl⟩
   have q1 :=h1 _ a2
   have q2 :=h1 _ a3
   refine ⟨⟨a2,a3,a5⟩,⟨Nat.mul_mod_right _ _,Nat.mul_mod_right _ _⟩,⟨by omega,a4,a6⟩,?_,?_⟩
   ·exact (Nat.mul_div_cancel_left _ q1).symm
   ·exact (Nat.mul_div_cancel_left _ q2).symm
theorem AllT.prod {tp:Nat → Prop}:∀ {t:List (Nat × Nat)},AllT tp t → qak tp t.length (xP t) ∧ qak tp t.length (yP t)
 | [],_ => ⟨rfl,rfl⟩
 |p :: r,h => by
  have ih :=AllT.prod h.2
  rw [List.length_cons,qak,qak,xP,yP]
  exact ⟨⟨_,_,ih.1,h.1.1,Nat.mul_comm _ _⟩,⟨_,_,ih.2,h.1.2,Nat.mul_comm _ _⟩⟩
def insQ (p:Nat × Nat):List (Nat × Nat) → List (Nat × Nat)
 | [] => [p]
 |q :: r => if ltQ q p then q :: insQ p r else p :: q :: r
theorem qqb (p:Nat × Nat):∀ l,(insQ p l).length = l.length + 1
 | [] => rfl
 |q :: r => by
  rw [insQ]
  split
  ·rw [List.length_cons,qqb p r,List.length_cons]
  ·rfl
theorem qx5 (p:Nat × Nat):∀ l,xP (insQ p l) = p.1 * xP l ∧ yP (insQ p l) = p.2 * yP l
 | [] => ⟨rfl,rfl⟩
 |q :: r => by
  have ih :=qx5 p r
  rw [insQ]
  split
  ·rw [xP,xP,yP,yP,ih.1,ih.2]
   exact ⟨Nat.mul_left_comm _ _ _,Nat.mul_left_comm _ _ _⟩
  ·exact ⟨rfl,rfl⟩
theorem qqc {tp:Nat → Prop} {p:Nat × Nat} (hp:tp p.1 ∧ tp p.2):∀ {l:List (Nat × Nat)},AllT tp l → AllT tp (insQ p l)
 | [],_ => ⟨hp,trivial⟩
 |q :: r,h => by
  rw [insQ]
  split
  ·exact ⟨h.1,qqc hp h.2⟩
  ·exact ⟨hp,h⟩
theorem quh {p:Nat × Nat}:∀ {l:List (Nat × Nat)} {f:Nat × Nat},¬ ltQ p f → Ch f l → Ch f (insQ p l)
 | [],_,h,_ => ⟨h,trivial⟩
 |q :: r,f,h,k => by
  rw [insQ]
  split
  ·rename_i e
   exact ⟨k.1,quh (fun e2 => qle _ (qmq e e2)) k.2⟩
  ·rename_i e
   exact ⟨h,e,k.2⟩
structure Tk (tp:Nat → Prop) (k:Nat) (t:List (Nat × Nat)):Prop where
 len:t.length = k
 all:AllT tp t
 ch:Ch (0,0) t
theorem Ch.ofAll {tp:Nat → Prop} {a:Nat} (ha:∀ n,tp n → a ≤ n) {t:List (Nat × Nat)} (h:AllT tp t) {f:Nat × Nat} (k:Ch f t):Ch (a,a) t :=by
 cases t with
 |nil => trivial
 |cons p r =>
  refine ⟨fun e => ?_,k.2⟩
  have h1 :=ha _ h.1.1
  have h2 :=ha _ h.1.2
  unfold ltQ at e
  simp only at e
  omega
theorem Tk.ex {tp:Nat → Prop}:∀ {k x y:Nat},qak tp k x → qak tp k y → ∃ t,Tk tp k t ∧ xP t = x ∧ yP t = y
 | 0,x,y,h1,h2 => by
  rw [qak] at h1 h2
  exact ⟨[],⟨rfl,trivial,trivial⟩,h1.symm,h2.symm⟩
 |k + 1,x,y,h1,h2 => by
  rw [qak] at h1 h2
  obtain ⟨x',n,a1,a2,rfl⟩ :=h1
  obtain ⟨y',m,b1,b2,rfl⟩ :=h2
  obtain ⟨t,ht,rfl,rfl⟩ :=Tk.ex a1 b1
  have hx :=qx5 (n,m) t
  refine ⟨insQ (n,m) t,⟨by rw [qqb,ht.len],qqc ⟨a2,b2⟩ ht.all,quh (by unfold ltQ;simp) ht.ch⟩,?_,?_⟩
  ·rw [hx.1,Nat.mul_comm]
  ·rw [hx.2,Nat.mul_comm]
theorem Tk.prod {tp:Nat → Prop} {k:Nat} {t:List (Nat × Nat)} (h:Tk tp k t):qak tp k (xP t) ∧ qak tp k (yP t) :=by
 have :=h.all.prod
 rwa [h.len] at this
def dT (N D:Nat) (t:List (Nat × Nat)):Nat × Nat :=dQ N D (xP t,yP t)
def Btr (N D:Nat) (t u:List (Nat × Nat)):Prop :=¬ fle (dT N D u) (dT N D t) ∨ fle (dT N D t) (dT N D u) ∧ (t.length < u.length ∨ t.length = u.length ∧ ltL t u)
def RT (tp:Nat → Prop) (P:Nat) (lets:Nat → Prop) (t:List (Nat × Nat)):Prop :=(1 ≤ t.length ∧ t.length ≤ P) ∧ lets t.length ∧ Tk tp t.length t
def Bst (tp:Nat → Prop) (P:Nat) (lets:Nat → Prop) (N D:Nat) (t:List (Nat × Nat)):Prop :=RT tp P lets t ∧ ∀ u,RT tp P lets u → ¬ Btr N D u t
theorem Bst.uniq {tp:Nat → Prop} {P:Nat} {lets:Nat → Prop} {N D:Nat} {t u:List (Nat × Nat)} (h:Bst tp P lets N D t) (k:Bst tp P lets N D u):t = u :=by
 have h1 :=h.2 u k.1
 have h2 :=k.2 t h.1
 unfold Btr at h1 h2
 have a1:fle (dT N D t) (dT N D u) :=Classical.byContradiction fun e => h1 (.inl e)
 have a2:fle (dT N D u) (dT N D t) :=Classical.byContradiction fun e => h2 (.inl e)
 have b1:¬ (u.length < t.length ∨ u.length = t.length ∧ ltL u t) :=fun e => h1 (.inr ⟨a2,e⟩)
 have b2:¬ (t.length < u.length ∨ t.length = u.length ∧ ltL t u) :=fun e => h2 (.inr ⟨a1,e⟩)
 have hl:t.length = u.length :=by
  have:¬ u.length < t.length :=fun e => b1 (.inl e)
  have:¬ t.length < u.length :=fun e => b2 (.inl e)
  omega
 rcases qg3 hl with e | e | e
 ·exact absurd (.inr ⟨hl,e⟩) b2
 ·exact e
 ·exact absurd (.inr ⟨hl.symm,e⟩) b1
def Opt (tp:Nat → Prop) (N D k:Nat) (t:List (Nat × Nat)):Prop :=Tk tp k t ∧ ∀ u,Tk tp k u → fle (dT N D t) (dT N D u) ∧ (fle (dT N D u) (dT N D t) → ¬ ltL u t)
theorem RT.lift {tp:Nat → Prop} {P:Nat} {lets:Nat → Prop} {t:List (Nat × Nat)}:RT tp (P + 1) lets t ↔ RT tp P lets t ∨ lets (P + 1) ∧ Tk tp (P + 1) t :=by
 unfold RT
 constructor
 ·rintro ⟨⟨h1,h2⟩,h3,h4⟩
  by_cases e:t.length = P + 1
  ·rw [e] at h3 h4
   exact .inr ⟨h3,h4⟩
  ·exact .inl ⟨⟨h1,by omega⟩,h3,h4⟩
 ·rintro (⟨⟨h1,h2⟩,h3,h4⟩ | ⟨h3,h4⟩)
  ·exact ⟨⟨h1,by omega⟩,h3,h4⟩
  ·rw [h4.len]
   exact ⟨⟨by omega,Nat.le_refl _⟩,h3,h4⟩
def BO (tp:Nat → Prop) (P:Nat) (lets:Nat → Prop) (N D:Nat) (o:Option (List (Nat × Nat))):Prop :=
 match o with
 |none => ∀ t,¬ RT tp P lets t
 |some t => Bst tp P lets N D t
theorem BO.uniq {tp:Nat → Prop} {P:Nat} {lets:Nat → Prop} {N D:Nat} {o r:Option (List (Nat × Nat))} (h:BO tp P lets N D o) (k:BO tp P lets N D r):o = r :=by
 cases o <;> cases r
 ·rfl
 ·exact absurd k.1 (h _)
 ·exact absurd h.1 (k _)
 ·rw [Bst.uniq h k]
theorem BO.zero (tp:Nat → Prop) (lets:Nat → Prop) (N D:Nat):BO tp 0 lets N D none :=fun t h => by
 have :=h.1
 omega
theorem BO.same {tp:Nat → Prop} {P:Nat} {lets:Nat → Prop} {N D:Nat} {o:Option (List (Nat × Nat))} (h:BO tp P lets N D o) (k:¬ (lets (P + 1) ∧ ∃ t,Tk tp (P + 1) t)):BO tp (P + 1) lets N D o :=by
 have e:∀ t,RT tp (P + 1) lets t ↔ RT tp P lets t :=fun t => by
  rw [RT.lift]
  exact ⟨fun h => h.resolve_right fun h => k ⟨h.1,t,h.2⟩,.inl⟩
 cases o with
 |none => exact fun t ht => h t ((e t).1 ht)
 |some t => exact ⟨(e t).2 h.1,fun u hu => h.2 u ((e u).1 hu)⟩
theorem qdp {tp:Nat → Prop} (h1:∀ n,tp n → 1 ≤ n):∀ {t:List (Nat × Nat)},AllT tp t → 1 ≤ yP t
 | [],_ => Nat.le_refl _
 | _ :: _,h => Nat.mul_pos (h1 _ h.1.2) (qdp h1 h.2)
theorem Opt.bst {tp:Nat → Prop} {P:Nat} {lets:Nat → Prop} {N D:Nat} (_h1:∀ n,tp n → 1 ≤ n) {u:List (Nat × Nat)} (hl:lets (P + 1)) (hu:Opt tp N D (P + 1) u) (hb:∀ t,RT tp P lets t → ¬ fle (dT N D t) (dT N D u)):Bst tp (P + 1) lets N D u :=by
 refine ⟨RT.lift.2 (.inr ⟨hl,hu.1⟩),fun t ht hbt => ?_⟩
 rcases RT.lift.1 ht with k | ⟨_,k⟩
 ·have q1 :=hb t k
  rcases hbt with e | e
  ·exact q1 ((qop _ _).resolve_left e)
  ·exact q1 e.1
 ·have q1 :=hu.2 t k
  rcases hbt with e | ⟨e1,e2⟩
  ·exact e q1.1
  ·rcases e2 with e2 | e2
   ·rw [k.len,hu.1.len] at e2;omega
   ·exact q1.2 e1 e2.2
theorem BO.new {tp:Nat → Prop} {P:Nat} {lets:Nat → Prop} {N D:Nat} (h1:∀ n,tp n → 1 ≤ n) {o:Option (List (Nat × Nat))} (h:BO tp P lets N D o) {u:List (Nat × Nat)} (hl:lets (P + 1)) (hu:Opt tp N D (P + 1) u) (hb:∀ t,o = some t → ¬ fle (dT N D t) (dT N D u)):BO tp (P + 1) lets N D (some u) :=by
 refine hu.bst h1 hl fun t ht => ?_
 cases o with
 |none => exact absurd ht (h t)
 |some s =>
  have q1 :=hb s rfl
  intro e
  have q2 :=h.2 t ht
  have q3:fle (dT N D s) (dT N D t) :=Classical.byContradiction fun e => q2 (.inl e)
  exact q1 (qb5 (b :=dT N D t) (qdp h1 ht.2.2.all) q3 e)
theorem BO.old {tp:Nat → Prop} {P:Nat} {lets:Nat → Prop} {N D:Nat} (h1:∀ n,tp n → 1 ≤ n) {t u:List (Nat × Nat)} (h:BO tp P lets N D (some t)) (hu:Opt tp N D (P + 1) u) (hb:fle (dT N D t) (dT N D u)):BO tp (P + 1) lets N D (some t) :=by
 refine ⟨RT.lift.2 (.inl h.1),fun s hs hbt => ?_⟩
 rcases RT.lift.1 hs with k | ⟨_,k⟩
 ·exact h.2 s k hbt
 ·have q1 :=(hu.2 s k).1
  have q2 :=qb5 (b :=dT N D u) (qdp h1 hu.1.all) hb q1
  rcases hbt with e | ⟨_,e⟩
  ·exact e q2
  ·have :=h.1.1
   have :=k.len
   rcases e with e | e
   ·omega
   ·omega
noncomputable def nrT (tp:Nat → Prop) (P:Nat) (lets:Nat → Prop) (N D:Nat):Option (List (Nat × Nat)) :=
 @dite _ (∃ o,BO tp P lets N D o) (Classical.propDecidable _) (fun h => h.choose) (fun _ => none)
theorem qmn {tp:Nat → Prop} {P:Nat} {lets:Nat → Prop} {N D:Nat} {o:Option (List (Nat × Nat))} (h:BO tp P lets N D o):nrT tp P lets N D = o :=by
 unfold nrT
 rw [dif_pos ⟨o,h⟩]
 exact BO.uniq (Exists.choose_spec (⟨o,h⟩ : ∃ o,BO tp P lets N D o)) h
theorem qt2 {tp:Nat → Prop} (ht:∀ n,tp n → n ≤ 60):∀ (k:Nat) (Q:List (Nat × Nat) → Prop),(∀ t,Q t → t.length = k ∧ AllT tp t) → (∃ t,Q t) → ∃ m,Q m ∧ ∀ u,Q u → ¬ ltL u m
 | 0,Q,hQ,⟨t,h⟩ => ⟨t,h,fun u hu k => by
  have :=(hQ u hu).1
  cases u with
  |nil => simp [ltL] at k
  |cons => cases this⟩
 |k + 1,Q,hQ,⟨t,h⟩ => by
  have hcons:∀ t,Q t → ∃ p r,t = p :: r :=fun t h => by
   have :=(hQ t h).1
   cases t with
   |nil => cases this
   |cons p r => exact ⟨p,r,rfl⟩
  obtain ⟨p,r,rfl⟩ :=hcons t h
  obtain ⟨m,⟨s,hm⟩,hmin⟩ :=qjy (q :=fun p => ∃ s,Q (p :: s)) (fun p ⟨s,h⟩ => ht _ (hQ _ h).2.1.2) _ p ⟨r,h⟩ (Nat.le_refl _)
  obtain ⟨v,hv1,hv2⟩ :=qt2 ht k (fun s => Q (m :: s)) (fun s hs => by
   have :=hQ _ hs
   rw [List.length_cons] at this
   exact ⟨by omega,this.2.2⟩) ⟨s,hm⟩
  refine ⟨m :: v,hv1,fun u hu hlt => ?_⟩
  obtain ⟨q,u,rfl⟩ :=hcons u hu
  rcases hlt with h1 | ⟨rfl,h1⟩
  ·exact hmin q ⟨u,hu⟩ h1
  ·exact hv2 u hu h1
noncomputable def mnT (Q:List (Nat × Nat) → Prop):Option (List (Nat × Nat)) :=
 @dite _ (∃ t,Q t ∧ ∀ u,Q u → ¬ ltL u t) (Classical.propDecidable _) (fun h => some h.choose) (fun _ => none)
theorem qhz {Q:List (Nat × Nat) → Prop} {k:Nat} (hQ:∀ t,Q t → t.length = k) {t:List (Nat × Nat)} (h:Q t) (hm:∀ u,Q u → ¬ ltL u t):mnT Q = some t :=by
 have hex:∃ t,Q t ∧ ∀ u,Q u → ¬ ltL u t :=⟨t,h,hm⟩
 unfold mnT
 rw [dif_pos hex]
 have hs :=hex.choose_spec
 congr 1
 rcases qg3 ((hQ _ hs.1).trans (hQ _ h).symm) with e | e | e
 ·exact absurd e (hm _ hs.1)
 ·exact e
 ·exact absurd e (hs.2 _ h)
theorem qlc {Q:List (Nat × Nat) → Prop} (h:∀ t,¬ Q t):mnT Q = none :=by
 unfold mnT
 rw [dif_neg fun ⟨t,ht⟩ => h t ht.1]
theorem qcu {Q:List (Nat × Nat) → Prop} {t:List (Nat × Nat)} (h:mnT Q = some t):Q t ∧ ∀ u,Q u → ¬ ltL u t :=by
 unfold mnT at h
 by_cases e:∃ t,Q t ∧ ∀ u,Q u → ¬ ltL u t
 ·rw [dif_pos e] at h
  cases h
  exact e.choose_spec
 ·rw [dif_neg e] at h;cases h
theorem qkn {a b:Nat} (hb:1 ≤ b):Nat.gcd (redF a b).1 (redF a b).2 = 1 :=by
 have hg:0 < Nat.gcd a b :=Nat.gcd_pos_of_pos_right _ hb
 unfold redF
 rw [Nat.gcd_div (Nat.gcd_dvd_left a b) (Nat.gcd_dvd_right a b),Nat.div_self hg]
def Wt (tp:Nat → Prop) (k x y:Nat) (f:Nat × Nat) (t:List (Nat × Nat)):Prop :=(t.length = k ∧ AllT tp t ∧ Ch f t) ∧ xP t * y = x * yP t
theorem qh3 {tp:Nat → Prop} {k x y:Nat} {f:Nat × Nat}:∀ t,Wt tp k x y f t → t.length = k ∧ AllT tp t :=fun _ h => ⟨h.1.1,h.1.2.1⟩
theorem qyk {tp:Nat → Prop} (ht:∀ n,tp n → n ≤ 60) {k x y:Nat} {f:Nat × Nat} (h:mnT (Wt tp k x y f) = none) (t:List (Nat × Nat)):¬ Wt tp k x y f t :=fun hv => by
 obtain ⟨m,hm,hn⟩ :=qt2 ht k _ qh3 ⟨t,hv⟩
 rw [qhz (fun t h => (qh3 t h).1) hm hn] at h
 cases h
theorem qr7 {tp:Nat → Prop} (ht:∀ n,tp n → n ≤ 60) {k x y:Nat} {f:Nat × Nat} {t:List (Nat × Nat)} (h:Wt tp k x y f t):∃ m,mnT (Wt tp k x y f) = some m :=by
 obtain ⟨m,hm,hn⟩ :=qt2 ht k _ qh3 ⟨t,h⟩
 exact ⟨m,qhz (fun t h => (qh3 t h).1) hm hn⟩
theorem qc4 {a b x y:Nat} (_hb:1 ≤ b) (hy:1 ≤ y):a * y = x * b ↔ a * (redF x y).2 = (redF x y).1 * b :=by
 obtain ⟨hg,h1,h2⟩ :=qf7 (x :=x) hy
 generalize Nat.gcd x y = g at *
 generalize redF x y = q at *
 subst h1
 have e1:a * y = g * (a * q.2) :=by rw [h2];exact Nat.mul_left_comm _ _ _
 rw [e1,Nat.mul_assoc]
 exact ⟨fun h => Nat.eq_of_mul_eq_mul_left hg h,fun h => by rw [h]⟩
theorem qkb {tp:Nat → Prop} (h1:∀ n,tp n → 1 ≤ n) {k x y:Nat} {f p:Nat × Nat} {t:List (Nat × Nat)} (hy:1 ≤ y):Wt tp (k + 1) x y f (p :: t) ↔ (tp p.1 ∧ tp p.2 ∧ ¬ ltQ p f) ∧ Wt tp k (redF (x * p.2) (y * p.1)).1 (redF (x * p.2) (y * p.1)).2 p t :=by
 unfold Wt
 rw [AllT,Ch,xP,yP,List.length_cons]
 have key:∀ (ha:AllT tp t) (h2:tp p.1),(p.1 * xP t * y = x * (p.2 * yP t) ↔ xP t * (redF (x * p.2) (y * p.1)).2 = (redF (x * p.2) (y * p.1)).1 * yP t) :=fun ha h2 => by
  rw [← qc4 (qdp h1 ha) (Nat.mul_pos hy (h1 _ h2))]
  have e1:p.1 * xP t * y = xP t * (y * p.1) :=by ac_rfl
  have e2:x * (p.2 * yP t) = x * p.2 * yP t :=by ac_rfl
  rw [e1,e2]
 constructor
 ·rintro ⟨⟨a1,⟨⟨a2,a3⟩,a4⟩,a5,a6⟩,a7⟩
  exact ⟨⟨a2,a3,a5⟩,⟨by omega,a4,a6⟩,(key a4 a2).1 a7⟩
 ·rintro ⟨⟨a2,a3,a5⟩,⟨a1,a4,a6⟩,a7⟩
  exact ⟨⟨by omega,⟨⟨a2,a3⟩,a4⟩,a5,a6⟩,(key a4 a2).2 a7⟩
theorem qvr {tp:Nat → Prop} (h1:∀ n,tp n → 1 ≤ n) {k x y:Nat} {f p:Nat × Nat} {t:List (Nat × Nat)} (hy:1 ≤ y) (hp:tp p.1 ∧ tp p.2 ∧ ¬ ltQ p f) (h2:mnT (Wt tp k (redF (x * p.2) (y * p.1)).1 (redF (x * p.2) (y * p.1)).2 p) = some t)
  (hno:∀ q u,ltQ q p → ¬ Wt tp (k + 1) x y f (q :: u)):mnT (Wt tp (k + 1) x y f) = some (p :: t) :=by
 have hm :=qcu h2
 refine qhz (fun t h => (qh3 t h).1) ((qkb h1 hy).2 ⟨hp,hm.1⟩) fun u hu hlt => ?_
 have :=hu.1.1
 cases u with
 |nil => cases this
 |cons q u =>
  rcases hlt with h | ⟨rfl,h⟩
  ·exact hno q u h hu
  ·exact hm.2 u ((qkb h1 hy).1 hu).2 h
theorem q0q {tp:Nat → Prop} (h1:∀ n,tp n → 1 ≤ n ∧ n ≤ 60) {k x y:Nat} {f p:Nat × Nat} (hy:1 ≤ y) (h2:mnT (Wt tp k (redF (x * p.2) (y * p.1)).1 (redF (x * p.2) (y * p.1)).2 p) = none) (u:List (Nat × Nat)):¬ Wt tp (k + 1) x y f (p :: u) :=fun h =>
 qyk (fun n h => (h1 n h).2) h2 u ((qkb (fun n h => (h1 n h).1) hy).1 h).2
theorem q0r {tp:Nat → Prop} (h1:∀ n,tp n → 1 ≤ n ∧ n ≤ 60) {k x y:Nat} {f p:Nat × Nat} (hy:1 ≤ y) {r:Nat × Nat} (hr:redF (x * p.2) (y * p.1) = r)
  (h2:¬ ∃ n,1 ≤ n ∧ qak tp k (n * r.1) ∧ qak tp k (n * r.2)) (u:List (Nat × Nat)):¬ Wt tp (k + 1) x y f (p :: u) :=fun h => by
 obtain ⟨hp,hw⟩ :=(qkb (fun n h => (h1 n h).1) hy).1 h
 rw [hr] at hw
 obtain ⟨⟨hl,ha,_⟩,he⟩ :=hw
 have hpr :=ha.prod
 rw [hl] at hpr
 have hypos :=qdp (fun n h => (h1 n h).1) ha
 have hy2:1 ≤ y * p.1 :=Nat.mul_pos hy (h1 _ hp.1).1
 have hg :=qf7 (x :=x * p.2) hy2
 -- the fraction is in lowest terms
 have hcop:Nat.gcd r.1 r.2 = 1 :=by
  rw [← hr]
  exact qkn hy2
 have hr2:1 ≤ r.2 :=by rw [← hr];exact qd2 hy2
 have hdvd:r.2 ∣ yP u :=by
  have hc:Nat.Coprime r.2 r.1 :=by rw [Nat.coprime_comm];exact hcop
  refine hc.dvd_of_dvd_mul_left ?_
  rw [← he];exact Nat.dvd_mul_left _ _
 obtain ⟨n,hn⟩ :=hdvd
 have hn1:1 ≤ n :=by
  apply Nat.pos_of_ne_zero
  intro e
  rw [e,Nat.mul_zero] at hn
  omega
 have hx:xP u = n * r.1 :=by
  rw [hn] at he
  have e:r.1 * (r.2 * n) = n * r.1 * r.2 :=by ac_rfl
  rw [e] at he
  exact Nat.eq_of_mul_eq_mul_right hr2 he
 rw [hx,hn,Nat.mul_comm r.2 n] at hpr
 exact h2 ⟨n,hn1,hpr.1,hpr.2⟩
theorem qyz {a b x y:Nat} (hb:1 ≤ b) (hy:1 ≤ y):redF a b = redF x y ↔ a * y = x * b :=by
 constructor
 ·intro h
  rw [qc4 hb hy,← h]
  have :=qf7 (x :=a) hb
  obtain ⟨hg,h1,h2⟩ :=this
  generalize Nat.gcd a b = g at *
  generalize redF a b = q at *
  rw [h1,h2]
  ac_rfl
 ·intro h
  have h1 :=qf7 (x :=a) hb
  have h2 :=qf7 (x :=x) hy
  have c1:Nat.Coprime (redF a b).1 (redF a b).2 :=qkn hb
  have c2:Nat.Coprime (redF x y).1 (redF x y).2 :=qkn hy
  have e1 :=(qc4 hb hy).1 h
  have e2:(redF a b).1 * (redF x y).2 = (redF x y).1 * (redF a b).2 :=by
   have :=(qc4 (a :=(redF x y).1) (b :=(redF x y).2) (x :=a) (y :=b) (qd2 hy) hb).1 (by rw [e1])
   exact this.symm
  have d1:(redF a b).2 ∣ (redF x y).2 :=c1.symm.dvd_of_dvd_mul_left (by rw [e2];exact Nat.dvd_mul_left _ _)
  have d2:(redF x y).2 ∣ (redF a b).2 :=c2.symm.dvd_of_dvd_mul_left (by rw [← e2];exact Nat.dvd_mul_left _ _)
  have e3 :=Nat.dvd_antisymm d1 d2
  have e4:(redF a b).1 = (redF x y).1 :=by
   rw [e3] at e2
   exact Nat.eq_of_mul_eq_mul_right (qd2 hy) e2
  exact Prod.ext e4 e3
theorem qwc {tp:Nat → Prop} (h1:∀ n,tp n → 1 ≤ n ∧ n ≤ 60) {k M N D:Nat} (hD:1 ≤ D) (hM:60 ^ k < M) (t:List (Nat × Nat)) (q:Nat × Nat) (hq:q ∈ (qdt (lstP (qak tp k) M) N D).1) (ht:mnT (Wt tp k q.1 q.2 (0,0)) = some t)
  (hmin:∀ q' t',q' ∈ (qdt (lstP (qak tp k) M) N D).1 → mnT (Wt tp k q'.1 q'.2 (0,0)) = some t' → ¬ ltL t' t) :
  Opt tp N D k t ∧ fle (dT N D t) (qdt (lstP (qak tp k) M) N D).2 ∧ fle (qdt (lstP (qak tp k) M) N D).2 (dT N D t) :=by
 have hall:∀ x,x ∈ lstP (qak tp k) M ↔ qak tp k x :=fun x => by
  rw [qbc]
  exact ⟨fun h => h.2,fun h => ⟨Nat.lt_of_le_of_lt (qbq h1 k x h).2 hM,h⟩⟩
 have ho :=qga (all :=lstP (qak tp k) M) (N :=N) (D :=D) (qcf _ _) (fun x hx => (qbq h1 k x ((hall x).1 hx)).1) hD
 generalize qdt (lstP (qak tp k) M) N D = s at *
 have hne:s.1 ≠ [] :=fun e => by rw [e] at hq;cases hq
 have hpos :=ho.pos hne
 have hpos1:∀ n,tp n → 1 ≤ n :=fun n h => (h1 n h).1
 have turn:∀ q t,q ∈ s.1 → Wt tp k q.1 q.2 (0,0) t → redF (xP t) (yP t) = q :=fun q t hq hw => by
  obtain ⟨hq2,x,y,hx,hy,rfl⟩ :=ho.mem q hq
  have hy :=qbq h1 k y ((hall y).1 hy)
  have hyp :=qdp hpos1 hw.1.2.1
  rw [qyz hyp hy.1,qc4 hyp hy.1]
  exact hw.2
 have far:∀ q t,q ∈ s.1 → Wt tp k q.1 q.2 (0,0) t → fle (dT N D t) s.2 ∧ fle s.2 (dT N D t) :=fun q t hq hw => by
  have e :=turn q t hq hw
  have hyp :=qdp hpos1 hw.1.2.1
  have h3 :=qpn (N :=N) (D :=D) (x :=xP t) hyp
  rw [e] at h3
  have h4 :=ho.eq q hq
  have hq2 :=(ho.mem q hq).1
  exact ⟨qb5 (b :=dQ N D q) hq2 h3.2 h4.1,qb5 (b :=dQ N D q) hq2 h4.2 h3.1⟩
 have htw :=qcu ht
 have hf :=far q t hq htw.1
 refine ⟨⟨⟨htw.1.1.1,htw.1.1.2.1,htw.1.1.2.2⟩,fun u hu => ?_⟩,hf⟩
 have hup :=hu.prod
 have hul :=ho.least _ _ ((hall _).2 hup.1) ((hall _).2 hup.2)
 refine ⟨qb5 hpos hf.1 hul,fun hle hlt => ?_⟩
 have hin :=ho.all _ _ ((hall _).2 hup.1) ((hall _).2 hup.2) (qb5 (b :=dT N D t) (qdp hpos1 htw.1.1.2.1) hle hf.1)
 have hyu :=qdp hpos1 hu.all
 have hwu:Wt tp k (redF (xP u) (yP u)).1 (redF (xP u) (yP u)).2 (0,0) u :=⟨⟨hu.len,hu.all,hu.ch⟩,(qc4 hyu hyu).1 rfl⟩
 obtain ⟨m,hm⟩ :=qr7 (fun n h => (h1 n h).2) hwu
 have hm2 :=qcu hm
 have hnm :=hmin _ m hin hm
 rcases qg3 (hm2.1.1.1.trans hu.len.symm) with e | e | e
 ·exact hnm (qe6 e hlt)
 ·exact hnm (e ▸ hlt)
 ·exact hm2.2 u hwu e
theorem qkw {tp:Nat → Prop} (h1:∀ n,tp n → 1 ≤ n ∧ n ≤ 60) {k M N D:Nat} (hD:1 ≤ D) (q:Nat × Nat) (hq:q ∈ (qdt (lstP (qak tp k) M) N D).1):∃ t,mnT (Wt tp k q.1 q.2 (0,0)) = some t :=by
 have hall:∀ x,x ∈ lstP (qak tp k) M → qak tp k x :=fun x h => ((qbc _ _ _).1 h).2
 have ho :=qga (all :=lstP (qak tp k) M) (N :=N) (D :=D) (qcf _ _) (fun x hx => (qbq h1 k x (hall x hx)).1) hD
 obtain ⟨_,x,y,hx,hy,rfl⟩ :=ho.mem q hq
 obtain ⟨t,ht,rfl,rfl⟩ :=Tk.ex (hall x hx) (hall y hy)
 have hyt :=qdp (fun n h => (h1 n h).1) ht.all
 exact qr7 (fun n h => (h1 n h).2) (t :=t) ⟨⟨ht.len,ht.all,ht.ch⟩,(qc4 hyt hyt).1 rfl⟩
end Go.Abs.Seat
/-! The document's nearest train: plain. -/
namespace Go.Abs.Seat
def rcOf (l:List Nat) (N D b:Nat):List (Nat × Nat) :=
 (if 1 ≤ min (cntB D (b * N) l) (l.length - 1) then [(gn l (min (cntB D (b * N) l) (l.length - 1) - 1),b)] else []) ++ [(gn l (min (cntB D (b * N) l) (l.length - 1)),b)]
def rnF (l:List Nat) (N D:Nat):List (Nat × Nat) :=l.flatMap (rcOf l N D)
theorem qzo {N D x y z:Nat} (hD:1 ≤ D) (hy:1 ≤ y) (h1:z * D ≤ y * N) (h2:x < z):¬ fle (dQ N D (x,y)) (dQ N D (z,y)) :=by
 unfold fle dQ
 simp only
 rw [Nat.mul_comm y N] at h1
 have h3:x * D < z * D :=(Nat.mul_lt_mul_right (by omega)).2 h2
 rw [qwv h1,qwv (by omega)]
 intro h
 have :=Nat.le_of_mul_le_mul_right h hy
 omega
theorem qzp {N D x y z:Nat} (hD:1 ≤ D) (hy:1 ≤ y) (h1:y * N ≤ z * D) (h2:z < x):¬ fle (dQ N D (x,y)) (dQ N D (z,y)) :=by
 unfold fle dQ
 simp only
 rw [Nat.mul_comm y N] at h1
 have h3:z * D < x * D :=(Nat.mul_lt_mul_right (by omega)).2 h2
 rw [qww h1,qww (by omega)]
 intro h
 have :=Nat.le_of_mul_le_mul_right h hy
 omega
theorem qs0 {l:List Nat} (hs:Srt l) (hp:∀ x,x ∈ l → 1 ≤ x) {N D b:Nat} (hD:1 ≤ D) (hb:b ∈ l) :
  (∀ q,q ∈ rcOf l N D b → q.1 ∈ l ∧ q.2 = b) ∧ ∀ x,x ∈ l → (x,b) ∈ rcOf l N D b ∨ ∃ z,z ∈ l ∧ (z,b) ∈ rcOf l N D b ∧ ¬ fle (dQ N D (x,b)) (dQ N D (z,b)) :=by
 have hc :=qi4 D (b * N) l
 have hlt :=qj7 D (b * N) l
 have hge :=fun i => qm7 (n :=D) (w :=b * N) hs (i :=i)
 have hb1 :=hp b hb
 have hl:1 ≤ l.length :=by
  cases l with
  |nil => cases hb
  |cons => rw [List.length_cons];omega
 unfold rcOf
 generalize cntB D (b * N) l = c at *
 refine ⟨fun q hq => ?_,fun x hx => ?_⟩
 ·rw [List.mem_append,List.mem_singleton] at hq
  rcases hq with hq | rfl
  ·split at hq
   ·rw [List.mem_singleton] at hq
    subst hq
    exact ⟨qbd _ (by omega),rfl⟩
   ·cases hq
  ·exact ⟨qbd _ (by omega),rfl⟩
 ·obtain ⟨j,hj,rfl⟩ :=qdu hx
  by_cases e:j = min c (l.length - 1)
  ·left;rw [← e];simp
  by_cases h:j < min c (l.length - 1)
  ·rw [if_pos (by omega)]
   by_cases e2:j = min c (l.length - 1) - 1
   ·left;rw [← e2];simp
   ·right
    refine ⟨gn l (min c (l.length - 1) - 1),qbd _ (by omega),by simp,qzo hD hb1 ?_ (hs _ _ (by omega) (by omega))⟩
    have :=hlt (min c (l.length - 1) - 1) (by omega)
    omega
  ·right
   refine ⟨gn l (min c (l.length - 1)),qbd _ (by omega),by simp,qzp hD hb1 ?_ (hs _ _ (by omega) (by omega))⟩
   have :=hge (min c (l.length - 1)) (by omega) (by omega)
   omega
theorem qmc {l:List Nat} (hs:Srt l) (hp:∀ x,x ∈ l → 1 ≤ x) {N D:Nat} (hD:1 ≤ D) :
  (∀ q,q ∈ rnF l N D → q.1 ∈ l ∧ q.2 ∈ l) ∧ ∀ x y,x ∈ l → y ∈ l → (x,y) ∈ rnF l N D ∨ ∃ z,z ∈ l ∧ (z,y) ∈ rnF l N D ∧ ¬ fle (dQ N D (x,y)) (dQ N D (z,y)) :=by
 refine ⟨fun q hq => ?_,fun x y hx hy => ?_⟩
 ·obtain ⟨b,hb,hq⟩ :=List.mem_flatMap.1 hq
  have :=(qs0 hs hp hD hb).1 q hq
  exact ⟨this.1,by rw [this.2];exact hb⟩
 ·rcases (qs0 hs hp hD hy).2 x hx with h | ⟨z,hz,h,k⟩
  ·exact .inl (List.mem_flatMap.2 ⟨y,hy,h⟩)
  ·exact .inr ⟨z,hz,List.mem_flatMap.2 ⟨y,hy,h⟩,k⟩
theorem qv8 {l:List Nat} (hs:Srt l) (hp:∀ x,x ∈ l → 1 ≤ x) {N D:Nat} (hD:1 ≤ D) {b:Nat × Nat} (_hb:b ∈ rnF l N D) (hmin:∀ q,q ∈ rnF l N D → fle (dQ N D b) (dQ N D q)) :
  ∀ x y,x ∈ l → y ∈ l → fle (dQ N D b) (dQ N D (x,y)) ∧ (fle (dQ N D (x,y)) (dQ N D b) → (x,y) ∈ rnF l N D) :=fun x y hx hy => by
 rcases (qmc hs hp (N :=N) hD).2 x y hx hy with h | ⟨z,hz,h,k⟩
 ·exact ⟨hmin _ h,fun _ => h⟩
 ·have h1 :=hmin _ h
  refine ⟨qb5 (b :=dQ N D (z,y)) (hp y hy) h1 ((qop _ _).resolve_left k),fun h2 => ?_⟩
  have hb2:1 ≤ b.2 :=hp _ ((qmc hs hp (N :=N) hD).1 b _hb).2
  exact absurd (qb5 (b :=dQ N D b) hb2 h2 h1) k
theorem Ch.zero {f:Nat × Nat} {t:List (Nat × Nat)} (h:Ch f t):Ch (0,0) t :=by
 cases t with
 |nil => trivial
 |cons p r => exact ⟨by unfold ltQ;simp,h.2⟩
section
variable {tp:Nat → Prop} (h1:∀ n,tp n → 1 ≤ n ∧ n ≤ 60) {a:Nat} (ha:∀ n,tp n → a ≤ n) {k M N D:Nat} (hD:1 ≤ D) (hM:60 ^ k < M)
include h1 ha hD hM
theorem qyx {b:Nat × Nat} (hb:b ∈ rnF (lstP (qak tp k) M) N D) (hmin:∀ q,q ∈ rnF (lstP (qak tp k) M) N D → fle (dQ N D b) (dQ N D q)) {t:List (Nat × Nat)} {q:Nat × Nat} (_hq:q ∈ rnF (lstP (qak tp k) M) N D) (he:(dQ N D q).1 * b.2 = (dQ N D b).1 * q.2) (ht:fstT tp k q.1 q.2 (a,a) = some t)
  (hbest:∀ q' t',q' ∈ rnF (lstP (qak tp k) M) N D → (dQ N D q').1 * b.2 = (dQ N D b).1 * q'.2 → fstT tp k q'.1 q'.2 (a,a) = some t' → ¬ ltL t' t):Opt tp N D k t :=by
 have hpos1:∀ n,tp n → 1 ≤ n :=fun n h => (h1 n h).1
 have hall:∀ x,x ∈ lstP (qak tp k) M ↔ qak tp k x :=fun x => by
  rw [qbc]
  exact ⟨fun h => h.2,fun h => ⟨Nat.lt_of_le_of_lt (qbq h1 k x h).2 hM,h⟩⟩
 have hp:∀ x,x ∈ lstP (qak tp k) M → 1 ≤ x :=fun x hx => (qbq h1 k x ((hall x).1 hx)).1
 have hB :=qv8 (N :=N) (qcf (qak tp k) M) hp hD hb hmin
 have hv :=qde ht
 obtain ⟨⟨g1,g2,g3⟩,g4,g5⟩ :=(qqy hpos1).1 hv.1
 have hdt:dT N D t = dQ N D q :=by unfold dT;rw [g4,g5]
 have hb2:1 ≤ b.2 :=hp _ ((qmc (qcf _ _) hp (N :=N) hD).1 b hb).2
 refine ⟨⟨g1,g2,g3.zero⟩,fun u hu => ?_⟩
 have hup :=hu.prod
 have hu2 :=hB _ _ ((hall _).2 hup.1) ((hall _).2 hup.2)
 have hqb:fle (dQ N D q) (dQ N D b) :=Nat.le_of_eq he
 refine ⟨by rw [hdt];exact qb5 (b :=dQ N D b) hb2 hqb hu2.1,fun hle hlt => ?_⟩
 rw [hdt] at hle
 have hub:fle (dQ N D (xP u,yP u)) (dQ N D b) :=qb5 (b :=dQ N D q) (by show 1 ≤ q.2;rw [← g5];exact qdp hpos1 g2) hle hqb
 have huin :=hu2.2 hub
 have huv:Vt tp k (xP u) (yP u) (a,a) u :=(qqy hpos1).2 ⟨⟨hu.len,hu.all,Ch.ofAll ha hu.all hu.ch⟩,rfl,rfl⟩
 obtain ⟨m,hm⟩ :=ql2 (fun n h => (h1 n h).2) huv
 have hnm :=hbest _ m huin (Nat.le_antisymm hub hu2.1) (qe9 hm)
 rcases qg3 ((qhj hm.1).trans (qhj huv).symm) with e | e | e
 ·exact hnm (qe6 e hlt)
 ·exact hnm (e ▸ hlt)
 ·exact hm.2 u huv e
theorem qsz {b:Nat × Nat} (hb:b ∈ rnF (lstP (qak tp k) M) N D):∃ t,fstT tp k b.1 b.2 (a,a) = some t :=by
 have _ :=hM
 have hpos1:∀ n,tp n → 1 ≤ n :=fun n h => (h1 n h).1
 have hp:∀ x,x ∈ lstP (qak tp k) M → 1 ≤ x :=fun x hx => (qbq h1 k x ((qbc _ _ _).1 hx).2).1
 have hq :=(qmc (qcf _ _) hp (N :=N) hD).1 b hb
 obtain ⟨t,ht,e1,e2⟩ :=Tk.ex ((qbc _ _ _).1 hq.1).2 ((qbc _ _ _).1 hq.2).2
 obtain ⟨m,hm⟩ :=ql2 (fun n h => (h1 n h).2) (X :=b.1) (Y :=b.2) (f :=(a,a)) (k :=k) (t :=t) ((qqy hpos1).2 ⟨⟨ht.len,ht.all,Ch.ofAll ha ht.all ht.ch⟩,e1,e2⟩)
 exact ⟨m,qe9 hm⟩
end
end Go.Abs.Seat

namespace Go.Abs.Seat
def PF (L:List Nat):Nat → Nat → Nat → Prop
 | 0,_,y => y = 1
 |k + 1,i,y => ∃ j,i ≤ j ∧ j < L.length ∧ ∃ z,PF L k j z ∧ y = gn L j * z
def PW (L:List Nat) (k i n y:Nat):Prop :=∃ j,i ≤ j ∧ j < n ∧ ∃ z,PF L k j z ∧ y = gn L j * z
theorem q2m (L:List Nat) (k i y:Nat):PF L (k + 1) i y ↔ PW L k i L.length y :=Iff.rfl
theorem qg7 {L:List Nat} {k i y:Nat}:¬ PW L k i i y :=fun ⟨j,h1,h2,_⟩ => by omega
theorem qo0 {L:List Nat} {k i n y:Nat} (h:i ≤ n):PW L k i (n + 1) y ↔ PW L k i n y ∨ ∃ z,PF L k n z ∧ y = gn L n * z :=by
 constructor
 ·rintro ⟨j,h1,h2,h3⟩
  by_cases e:j = n
  ·subst e;exact .inr h3
  ·exact .inl ⟨j,h1,by omega,h3⟩
 ·rintro (⟨j,h1,h2,h3⟩ | h3)
  ·exact ⟨j,h1,by omega,h3⟩
  ·exact ⟨n,h,by omega,h3⟩
theorem qyi {L:List Nat}:∀ {k i z j:Nat},PF L k i z → j < L.length → PF L (k + 1) (min i j) (gn L j * z)
 | 0,i,z,j,h,hj => ⟨j,Nat.min_le_right _ _,hj,z,h,rfl⟩
 |k + 1,i,z,j,⟨j',h1,h2,z',h3,h4⟩,hj => by
  subst h4
  by_cases e:j ≤ j'
  ·exact ⟨j,Nat.min_le_right _ _,hj,_,⟨j',e,h2,z',h3,rfl⟩,rfl⟩
  ·have :=qyi h3 hj
   rw [Nat.min_eq_left (by omega)] at this
   exact ⟨j',Nat.le_trans (Nat.min_le_left _ _) h1,h2,_,this,by ac_rfl⟩
theorem qvo {L:List Nat}:∀ {k y:Nat},PF L k 0 y ↔ qak (fun n => n ∈ L) k y
 | 0,y => by rw [PF,qak]
 |k + 1,y => by
  constructor
  ·suffices ∀ k i y,PF L k i y → qak (fun n => n ∈ L) k y from this (k + 1) 0 y
   intro k
   induction k with
   |zero => intro i y h;exact h
   |succ k ih =>
    rintro i y ⟨j,_,h2,z,h3,rfl⟩
    exact ⟨z,gn L j,ih _ _ h3,qbd L h2,Nat.mul_comm _ _⟩
  ·rintro ⟨z,n,h1,h2,rfl⟩
   obtain ⟨j,hj,rfl⟩ :=qdu h2
   have :=qyi (qvo.2 h1) hj
   rw [Nat.min_eq_left (Nat.zero_le _)] at this
   rw [Nat.mul_comm]
   exact this
theorem qqz {L:List Nat} {k f i now x:Nat} (h:f ≤ i) (q:Prop):((q ∨ ∃ z,PW L k f i z ∧ x = now * z) ∨ ∃ z,PF L k i z ∧ x = now * gn L i * z) ↔ (q ∨ ∃ z,PW L k f (i + 1) z ∧ x = now * z) :=by
 constructor
 ·rintro ((h1 | ⟨z,h1,h2⟩) | ⟨z,h1,h2⟩)
  ·exact .inl h1
  ·exact .inr ⟨z,(qo0 h).2 (.inl h1),h2⟩
  ·exact .inr ⟨gn L i * z,(qo0 h).2 (.inr ⟨z,h1,rfl⟩),by rw [h2,Nat.mul_assoc]⟩
 ·rintro (h1 | ⟨z,h1,h2⟩)
  ·exact .inl (.inl h1)
  ·rcases (qo0 h).1 h1 with h3 | ⟨z',h3,e⟩
   ·exact .inl (.inr ⟨z,h3,h2⟩)
   ·exact .inr ⟨z',h3,by rw [h2,e,Nat.mul_assoc]⟩
theorem qo1 {L:List Nat} {f i now x:Nat} (h:f ≤ i) (q:Prop):((q ∨ ∃ z,PW L 0 f i z ∧ x = now * z) ∨ x = now * gn L i) ↔ (q ∨ ∃ z,PW L 0 f (i + 1) z ∧ x = now * z) :=by
 rw [← qqz h]
 have e:(∃ z,PF L 0 i z ∧ x = now * gn L i * z) ↔ x = now * gn L i :=by
  constructor
  ·rintro ⟨z,h1,h2⟩
   rw [PF] at h1
   subst h1
   rw [h2,Nat.mul_one]
  ·intro h
   exact ⟨1,rfl,by rw [h,Nat.mul_one]⟩
 rw [e]
theorem qir {L:List Nat} {k x:Nat}:(False ∨ ∃ z,PW L k 0 L.length z ∧ x = 1 * z) ↔ qak (fun n => n ∈ L) (k + 1) x :=by
 rw [← qvo,q2m]
 constructor
 ·rintro (h | ⟨z,h,e⟩)
  ·exact h.elim
  ·rw [e,Nat.one_mul];exact h
 ·intro h
  exact .inr ⟨x,h,(Nat.one_mul x).symm⟩
theorem qs8 {L:List Nat} {n:Nat} (h:n ∈ L):∀ k,qak (fun n => n ∈ L) k (n ^ k)
 | 0 => rfl
 |k + 1 => ⟨n ^ k,n,qs8 h k,h,Nat.pow_succ n k⟩
theorem qt6 {L:List Nat} (hne:L ≠ []) (h60:∀ n,n ∈ L → n ≤ 60) {k m:Nat} (hm:60 ^ k < m):lstP (qak (fun n => n ∈ L) k) m ≠ [] :=fun e => by
 cases L with
 |nil => exact hne rfl
 |cons n r =>
  have h1:n ∈ n :: r :=List.mem_cons_self ..
  have h2 :=(qbc _ (n ^ k) m).2 ⟨Nat.lt_of_le_of_lt (Nat.pow_le_pow_left (h60 n h1) k) hm,qs8 h1 k⟩
  rw [e] at h2
  cases h2
end Go.Abs.Seat
namespace Go.Abs.Seat
noncomputable section
open Go Go.Abs Go.Proofs.Tryz
set_option maxRecDepth 100000
set_option maxHeartbeats 40000000
attribute [local irreducible] IntKind.wrap pEq
def fidq:List (Nat × Nat) → Nat × Nat → Int → Int
 | [],_,_ => -1
 |y :: r,x,i => if x = y then i else fidq r x (i + 1)
theorem qus:∀ (l:List (Nat × Nat)) (x:Nat × Nat) (i:Int),0 ≤ i → decide (fidq l x i ≥ 0) = decide (x ∈ l)
 | [],x,i,_ => by rw [zF (show ¬ x ∈ [] from List.not_mem_nil)];rfl
 |y :: r,x,i,h => by
  rw [fidq]
  by_cases hx:x = y
  ·rw [if_pos hx,zT h,zT (by rw [hx];exact List.mem_cons_self)]
  ·rw [if_neg hx,qus r x (i + 1) (by omega)]
   exact decide_eq_decide.2 ⟨List.mem_cons_of_mem _,fun k => (List.mem_cons.1 k).resolve_left hx⟩
abbrev qf (q:Nat × Nat):AV :=fv (Int.ofNat q.1) (Int.ofNat q.2)
def gq (l:List (Nat × Nat)) (i:Nat):Nat × Nat :=l.getD i (0,0)
theorem qcc (l:List (Nat × Nat)) {i:Nat} (h:i < l.length):l.drop i = gq l i :: l.drop (i + 1) :=by
 rw [List.drop_eq_getElem_cons h]
 simp [gq,List.getD,h]
theorem eqQ (ty:TypeId) (hty:ty = 24 ∨ ty = 97) (cst:Bool) (a b c d:Int):q0 ty cst (fv a b) (fv c d) = @Bool.rec (fun _ => Option Bool) (some false) (@Bool.rec (fun _ => Option Bool) (some false) (some true) (b == d)) (a == c) :=by
 rcases hty with rfl | rfl
 ·kernel_rfl
 ·kernel_rfl
theorem qlu {ty:TypeId} (hty:ty = 24 ∨ ty = 97) (cst:Bool) (a b:Int):q0 ty cst (fv a b) (fv a b) = some true :=by
 rw [eqQ ty hty,show (a == a) = true from beq_self_eq_true a,show (b == b) = true from beq_self_eq_true b]
theorem qu4 {ty:TypeId} (hty:ty = 24 ∨ ty = 97) (cst:Bool) (a b c d:Int) (h:¬ (a = c ∧ b = d)):q0 ty cst (fv a b) (fv c d) = some false :=by
 rw [eqQ ty hty]
 by_cases h1:a = c
 ·rw [show (a == c) = true from beq_iff_eq.2 h1,show (b == d) = false from beq_eq_false_iff_ne.2 fun e => h ⟨h1,e⟩]
 ·rw [show (a == c) = false from beq_eq_false_iff_ne.2 h1]
theorem takP {xs:List AV} {k o:Nat} {v:List AV} (e:qdk k (qew o xs) = some v):(match qdk k (qew o xs) with | some l => Plan.ret (.agg l) | none => Plan.fail) = Plan.ret (.agg v) :=by rw [e]
theorem qi1:∀ (l:List (Int × Int)) (i:Nat),qew (i * 2) (flat l) = flat (l.drop i)
 | _,0 => rfl
 | [],i + 1 => by rw [qd6,List.drop_eq_nil_of_le (Nat.zero_le _),List.drop_eq_nil_of_le (Nat.zero_le _)];rfl
 |p :: r,i + 1 => by
  rw [show (i + 1) * 2 = i * 2 + 2 by omega,List.drop_succ_cons,← qi1 r i]
  rfl
theorem qbw (l:List (Nat × Nat)) {i:Nat} (h:i < l.length):qdk 2 (qew (i * 2) (flat (zp l))) = some [nv (gq l i).1,nv (gq l i).2] :=by
 rw [qi1,zp,← List.map_drop,qcc l h]
 rfl
theorem qok (l:List (Nat × Nat)) (x:Nat × Nat) (hl:l.length < 4611686018427387904):Pure prog 170 [pv (zp l),qf x] (iv (fidq l x 0)) :=by
 have ll :=qag (zp l)
 have hz :=qa9 l
 refine zA fun S q pc hS hq hC hE => ?_
 conv=>whnf
 refine qbh hE hS (A :=Nat) [0,3,7] (fun i => [(8,nv i)]) (fun _ => []) (fun i => i ≤ l.length ∧ fidq (l.drop i) x i = fidq l x 0) (fun i => l.length - i) 0 rfl rfl zD ⟨Nat.zero_le _,rfl⟩ ?_
 intro i ⟨hi,he⟩
 conv=>whnf
 by_cases h:i < l.length
 ·refine qaa ((show decide (Int.ofNat i < ((zp l).length:Int)) = true from zT (by rw [hz];show (i:Int) < _;omega))) ?_
  conv=>whnf
  refine qaa (qaf (show i < (zp l).length by omega)) ?_
  conv=>whnf
  refine qac (takP (qbw l h)) ?_
  conv=>whnf
  rw [qcc l h,fidq] at he
  have hi1:IntKind.i64.wrap (Int.ofNat i + 1) = Int.ofNat (i + 1) :=qa2 (m :=i + 1) (by omega)
  by_cases h1:x = gq l i
  ·rw [if_pos h1] at he
   subst h1
   refine qa7 hq true (qlu (.inl rfl) _ _ _) ?_
   conv=>whnf
   refine zd hS ?_
   conv=>whnf
   rw [← he]
   exact ⟨_,rfl,Wk.refl _⟩
  ·rw [if_neg h1] at he
   refine qa7 hq false (qu4 (.inl rfl) _ _ _ _ _ fun k => h1 (Prod.ext (Int.ofNat.inj k.1) (Int.ofNat.inj k.2))) ?_
   conv=>whnf
   refine zd hS ?_
   conv=>whnf
   exact ⟨i + 1,⟨h,he⟩,by omega,(by refine ⟨rfl,rfl,rfl,rfl,?_,?_⟩ <;> repeat' (first | exact congrArg (fun z => some (AV.int .i64 z)) hi1 | exact zZ | apply And.intro))⟩
 ·refine qad ((show decide (Int.ofNat i < ((zp l).length:Int)) = false from zF (by rw [hz];show ¬ (i:Int) < _;omega))) ?_
  conv=>whnf
  rw [List.drop_eq_nil_of_le (by omega),fidq] at he
  rw [← he]
  exact ⟨_,rfl,Wk.refl _⟩
theorem qol (x:Nat × Nat):Pure prog 170 [.nils,qf x] (iv (-1)) :=by
 refine zA fun S q pc hS hq hC hE => ?_
 conv=>whnf
 refine qae hE hS ?_
 conv=>whnf
 exact ⟨_,rfl,Wk.refl _⟩
theorem qjf (l:List (Nat × Nat)) (hl:l.length < 4611686018427387904) (x:Nat × Nat):Pure prog 161 [pv (zp l),qf x] (.bool (decide (x ∈ l))) :=by
 have ll :=qag (zp l)
 refine zA fun S q pc hS hq hC hE => ?_
 conv=>whnf
 refine qab hC (qok l x hl) ?_
 conv=>whnf
 exact ⟨_,rfl,wkb (qus l x 0 (Int.le_refl _))⟩
theorem qb6 (x:Nat × Nat):Pure prog 161 [.nils,qf x] (.bool false) :=by
 refine zA fun S q pc hS hq hC hE => ?_
 conv=>whnf
 refine qab hC (qol x) ?_
 conv=>whnf
 exact ⟨_,rfl,Wk.refl _⟩
def lexQ:List (Nat × Nat) → List (Nat × Nat) → Int
 | [],[] => 0
 | [],_ :: _ => -1
 | _ :: _,[] => 1
 |p :: r,q :: s => if ordP (Int.ofNat p.1) (Int.ofNat p.2) (Int.ofNat q.1) (Int.ofNat q.2) = 0 then lexQ r s else ordP (Int.ofNat p.1) (Int.ofNat p.2) (Int.ofNat q.1) (Int.ofNat q.2)
theorem qio {p q:Nat × Nat}:ordP (Int.ofNat p.1) (Int.ofNat p.2) (Int.ofNat q.1) (Int.ofNat q.2) < 0 ↔ ltQ p q :=by
 rw [qgz]
 unfold ltQ
 simp only [Int.ofNat_eq_natCast]
 omega
theorem qip {p q:Nat × Nat}:ordP (Int.ofNat p.1) (Int.ofNat p.2) (Int.ofNat q.1) (Int.ofNat q.2) = 0 ↔ p = q :=by
 obtain ⟨a,b⟩ :=p
 obtain ⟨c,d⟩ :=q
 unfold ordP ordI
 simp only [Int.ofNat_eq_natCast,Prod.mk.injEq]
 repeat' split
 all_goals omega
theorem qt7:∀ {u v:List (Nat × Nat)},u.length = v.length → (lexQ u v < 0 ↔ ltL u v)
 | [],[],_ => by simp [lexQ,ltL]
 | [],_ :: _,h => by cases h
 | _ :: _,[],h => by cases h
 |p :: r,q :: s,h => by
  rw [lexQ,ltL]
  by_cases e:p = q
  ·rw [if_pos (qip.2 e),qt7 (by simpa using h)]
   exact ⟨fun k => .inr ⟨e,k⟩,fun k => k.elim (fun k => absurd (e ▸ k) (qle _)) (·.2)⟩
  ·rw [if_neg fun k => e (qip.1 k),qio]
   exact ⟨.inl,fun k => k.elim id fun k => absurd k.1 e⟩
theorem qdx {l:List (Nat × Nat)} {i:Nat} (h:l.length ≤ i):l.drop i = [] :=List.drop_eq_nil_of_le h
theorem qm8 (u v:List (Nat × Nat)) (hu:u.length < 4611686018427387904):Pure prog 112 [pv (zp u),pv (zp v),.func (.func 86) [] []] (iv (lexQ u v)) :=by
 have lu :=qag (zp u)
 have lw :=qag (zp v)
 have hzu :=qa9 u
 have hzv :=qa9 v
 refine zA fun S q pc hS hq hC hE => ?_
 conv=>whnf
 refine qbh hE hS (A :=Nat) [0,1,2,11,12] (fun i => [(13,nv i)]) (fun _ => []) (fun i => i ≤ u.length ∧ i ≤ v.length ∧ lexQ (u.drop i) (v.drop i) = lexQ u v) (fun i => u.length - i) 0 rfl rfl zD ⟨Nat.zero_le _,Nat.zero_le _,rfl⟩ ?_
 intro i ⟨hi,hi2,he⟩
 have hi1:i < u.length → IntKind.i64.wrap (Int.ofNat i + 1) = Int.ofNat (i + 1) :=fun h => qa2 (m :=i + 1) (by omega)
 conv=>whnf
 by_cases h:i < u.length
 ·refine qaa ((show decide (Int.ofNat i < ((zp u).length:Int)) = true from zT (by rw [hzu];show (i:Int) < _;omega))) ?_
  conv=>whnf
  refine qaa (qaf (show i < (zp u).length by omega)) ?_
  conv=>whnf
  refine qac (takP (qbw u h)) ?_
  conv=>whnf
  rw [qcc u h] at he
  by_cases h2:i < v.length
  ·refine qad ((show decide (Int.ofNat i ≥ ((zp v).length:Int)) = false from zF (by rw [hzv];show ¬ ((v.length:Int) ≤ (i:Int));omega))) ?_
   conv=>whnf
   refine qaa (qaf (show i < (zp v).length by omega)) ?_
   conv=>whnf
   refine qac (takP (qbw v h2)) ?_
   conv=>whnf
   rw [qcc v h2,lexQ] at he
   refine qab hC (qe8 (Int.ofNat (gq u i).1) (Int.ofNat (gq u i).2) (Int.ofNat (gq v i).1) (Int.ofNat (gq v i).2)) ?_
   conv=>whnf
   by_cases h3:ordP (Int.ofNat (gq u i).1) (Int.ofNat (gq u i).2) (Int.ofNat (gq v i).1) (Int.ofNat (gq v i).2) = 0
   ·refine qad ((show (ordP (Int.ofNat (gq u i).1) (Int.ofNat (gq u i).2) (Int.ofNat (gq v i).1) (Int.ofNat (gq v i).2) != 0) = false by rw [h3];rfl)) ?_
    conv=>whnf
    rw [if_pos h3] at he
    exact ⟨i + 1,⟨h,h2,he⟩,by omega,(by refine ⟨rfl,rfl,rfl,rfl,?_,?_⟩ <;> repeat' (first | exact congrArg (fun z => some (AV.int .i64 z)) (hi1 h) | exact zZ | apply And.intro))⟩
   ·refine qaa ((show (ordP (Int.ofNat (gq u i).1) (Int.ofNat (gq u i).2) (Int.ofNat (gq v i).1) (Int.ofNat (gq v i).2) != 0) = true from bne_iff_ne.2 h3)) ?_
    conv=>whnf
    rw [if_neg h3] at he
    rw [← he]
    exact ⟨_,rfl,Wk.refl _⟩
  ·refine qaa ((show decide (Int.ofNat i ≥ ((zp v).length:Int)) = true from zT (by rw [hzv];show ((v.length:Int) ≤ (i:Int));omega))) ?_
   conv=>whnf
   rw [qdx (l :=v) (by omega),lexQ] at he
   rw [← he]
   exact ⟨_,rfl,Wk.refl _⟩
 ·refine qad ((show decide (Int.ofNat i < ((zp u).length:Int)) = false from zF (by rw [hzu];show ¬ (i:Int) < _;omega))) ?_
  conv=>whnf
  rw [qdx (l :=u) (by omega)] at he
  by_cases h2:u.length < v.length
  ·refine qaa ((show decide (((zp u).length:Int) < ((zp v).length:Int)) = true from zT (by rw [hzu,hzv];omega))) ?_
   conv=>whnf
   rw [qcc v (by omega),lexQ] at he
   rw [← he]
   exact ⟨_,rfl,Wk.refl _⟩
  ·refine qad ((show decide (((zp u).length:Int) < ((zp v).length:Int)) = false from zF (by rw [hzu,hzv];omega))) ?_
   conv=>whnf
   rw [qdx (l :=v) (by omega),lexQ] at he
   rw [← he]
   exact ⟨_,rfl,Wk.refl _⟩
theorem qrq (u v:List (Nat × Nat)) (hu:u.length < 4611686018427387904):Pure prog 139 [pv (zp u),pv (zp v)] (.bool (decide (lexQ u v < 0))) :=by
 have lu :=qag (zp u)
 have lw :=qag (zp v)
 refine zA fun S q pc hS hq hC hE => ?_
 conv=>whnf
 refine qab hC (qm8 u v hu) ?_
 conv=>whnf
 exact ⟨_,rfl,Wk.refl _⟩
def tls:List (List (Nat × Nat)) → List AV
 | [] => []
 |t :: r => pv (zp t) :: tls r
theorem qba:∀ l,Lives noL (tls l)
 | [] => trivial
 | _ :: r => ⟨pv_no _,qba r⟩
theorem qnl:∀ l,(tls l).length = l.length
 | [] => rfl
 | _ :: r => by simp only [tls,List.length_cons,qnl r]
abbrev gt (l:List (List (Nat × Nat))) (i:Nat):List (Nat × Nat) :=l.getD i []
theorem qeb:∀ (l:List (List (Nat × Nat))) (i:Nat),i < l.length → nth (tls l) i = some (pv (zp (gt l i)))
 | _ :: _,0,_ => rfl
 | _ :: r,i + 1,h => qeb r i (by simpa using h)
 | [],_,h => absurd h (Nat.not_lt_zero _)
theorem qsi (l:List (List (Nat × Nat))) {i:Nat} (h:i < l.length):l.take (i + 1) = l.take i ++ [gt l i] :=by
 rw [List.take_succ_eq_append_getElem h]
 simp [gt,List.getD,h]
theorem qix (l:List (List (Nat × Nat))) {i:Nat} (h:i < l.length):gt l i ∈ l :=by
 have e:gt l i = l[i] :=by simp [gt,List.getD,h]
 rw [e];exact List.getElem_mem h
def bstT:List (List (Nat × Nat)) → List (Nat × Nat)
 | [] => []
 |x :: r => r.foldl (fun o y => if lexQ y o < 0 then y else o) x
theorem qve (l:List (List (Nat × Nat))) (y:List (Nat × Nat)):bstT (l ++ [y]) = if l = [] ∨ lexQ y (bstT l) < 0 then y else bstT l :=by
 cases l with
 |nil => rw [if_pos (.inl rfl)];rfl
 |cons x r =>
  show (r ++ [y]).foldl _ x = _
  rw [List.foldl_append]
  show (if lexQ y (bstT (x :: r)) < 0 then y else bstT (x :: r)) = _
  by_cases h:lexQ y (bstT (x :: r)) < 0
  ·rw [if_pos h,if_pos (.inr h)]
  ·rw [if_neg h,if_neg (by rintro (k | k);cases k;exact h k)]
theorem qvf {n:Nat}:∀ {l:List (List (Nat × Nat))},l ≠ [] → (∀ t,t ∈ l → t.length = n) → bstT l ∈ l ∧ ∀ t,t ∈ l → ¬ ltL t (bstT l) :=by
 intro l
 cases l with
 |nil => exact fun h => absurd rfl h
 |cons x r =>
  intro _ hl
  suffices ∀ (r S:List (List (Nat × Nat))) (o:List (Nat × Nat)),(∀ t,t ∈ S → t.length = n) → (∀ t,t ∈ r → t.length = n) → o ∈ S → (∀ t,t ∈ S → ¬ ltL t o) → r.foldl (fun o y => if lexQ y o < 0 then y else o) o ∈ S ++ r ∧ ∀ t,t ∈ S ++ r → ¬ ltL t (r.foldl (fun o y => if lexQ y o < 0 then y else o) o) by
   exact this r [x] x (fun t h => hl t (by rw [List.mem_singleton.1 h];simp)) (fun t h => hl t (by simp [h])) (by simp) (fun t h => by rw [List.mem_singleton.1 h];exact qis x)
  intro r
  induction r with
  |nil => intro S o _ _ ho hm;rw [List.append_nil];exact ⟨ho,hm⟩
  |cons y r ih =>
   intro S o hS hr ho hm
   have hy :=hr y (by simp)
   rw [show S ++ y :: r = (S ++ [y]) ++ r by simp]
   refine ih (S ++ [y]) _ (fun t h => ?_) (fun t h => hr t (by simp [h])) ?_ fun t h => ?_
   ·rcases List.mem_append.1 h with h | h
    ·exact hS t h
    ·rw [List.mem_singleton.1 h];exact hy
   ·show (if lexQ y o < 0 then y else o) ∈ S ++ [y]
    split
    ·simp
    ·exact List.mem_append_left _ ho
   ·show ¬ ltL t (if lexQ y o < 0 then y else o)
    have hyo :=qt7 (u :=y) (v :=o) (by rw [hy,hS o ho])
    split
    ·rename_i k
     have k :=hyo.1 k
     rcases List.mem_append.1 h with h | h
     ·exact fun e => hm t h (qe6 e k)
     ·rw [List.mem_singleton.1 h];exact qis y
    ·rename_i k
     rcases List.mem_append.1 h with h | h
     ·exact hm t h
     ·rw [List.mem_singleton.1 h];exact fun e => k (hyo.2 e)
theorem wkT2 {x:AV} {b b':Bool} (h:b = b'):Wk (.tup [x,.bool b]) (.tup [x,.bool b']) :=by subst h;exact Wk.refl _
theorem qr2 (l:List (List (Nat × Nat))) (hne:l ≠ []) (hl:l.length < 4611686018427387904) (hx:∀ x,x ∈ l → x.length < 4611686018427387904) :
  Pure prog 138 [.lst (tls l) l.length .no,.func (.func 139) [] []] (.tup [pv (zp (bstT l)),.bool true]) :=by
 have ls :=qba l
 have lo :=pv_no (zp (bstT l))
 have h0:0 < l.length :=by
  cases l with
  |nil => exact absurd rfl hne
  |cons => rw [List.length_cons];omega
 refine zA fun S q pc hS hq hC hE => ?_
 conv=>whnf
 refine qbh hE hS (A :=Nat × AV) [0,1,9,10] (fun (i,v) => [(6,v),(11,nv i)]) (fun _ => []) (fun (i,v) => i ≤ l.length ∧ (i = 0 ∧ v = .nils ∨ 1 ≤ i ∧ v = pv (zp (bstT (l.take i))))) (fun (i,_) => l.length - i) (0,.nils) rfl rfl zD ⟨Nat.zero_le _,.inl ⟨rfl,rfl⟩⟩ ?_
 rintro ⟨i,v⟩ ⟨hi,hR⟩
 have hi1:i < l.length → IntKind.i64.wrap (Int.ofNat i + 1) = Int.ofNat (i + 1) :=fun h => qa2 (m :=i + 1) (by omega)
 rcases hR with ⟨rfl,rfl⟩ | ⟨h1,rfl⟩
 ·have lg :=qag (zp (gt l 0))
  conv=>whnf
  refine qaa ((show decide (Int.ofNat 0 < (l.length:Int)) = true from zT (by show (0:Int) < _;omega))) ?_
  conv=>whnf
  refine qaa (qaf (show 0 < l.length from h0)) ?_
  conv=>whnf
  refine qac (nthP (show nth (tls l) (0 * 1) = some (pv (zp (gt l 0))) from qeb l 0 h0)) ?_
  conv=>whnf
  have ht:bstT (l.take 1) = gt l 0 :=by rw [show l.take 1 = l.take 0 ++ [gt l 0] from qsi l h0];rfl
  exact ⟨(1,pv (zp (gt l 0))),⟨h0,.inr ⟨Nat.le_refl _,by rw [ht]⟩⟩,by show l.length - 1 < l.length - 0;omega,(by refine ⟨rfl,rfl,rfl,rfl,?_,?_⟩ <;> repeat' (first | exact congrArg (fun z => some (AV.int .i64 z)) (hi1 h0) | exact zZ | apply And.intro))⟩
 ·have lq :=qag (zp (bstT (l.take i)))
  have lg :=qag (zp (gt l i))
  conv=>whnf
  by_cases h:i < l.length
  ·refine qaa ((show decide (Int.ofNat i < (l.length:Int)) = true from zT (by show (i:Int) < _;omega))) ?_
   conv=>whnf
   refine qaa (qaf (show i < l.length from h)) ?_
   conv=>whnf
   refine qac (nthP (show nth (tls l) (i * 1) = some (pv (zp (gt l i))) by rw [Nat.mul_one];exact qeb l i h)) ?_
   conv=>whnf
   have hz:(Int.ofNat i == 0) = false :=qow (b :=0) (by omega)
   have hc :=qrq (gt l i) (bstT (l.take i)) (hx _ (qix l h))
   have hsn:bstT (l.take (i + 1)) = _ :=(congrArg bstT (qsi l h)).trans (qve _ _)
   have htn:l.take i ≠ [] :=fun e => by
    have :=congrArg List.length e
    rw [List.length_take,List.length_nil] at this
    omega
   repeat ((first
    |refine qaz hz ?_
    |refine qa0 hz ?_
    |refine qac (qar hz) ?_
    |refine qad hz ?_
    |refine qab hC (hc) ?_
    |refine zd hS ?_);conv=>whnf)
   by_cases h3:lexQ (gt l i) (bstT (l.take i)) < 0
   ·refine qaa (zT h3) ?_
    conv=>whnf
    rw [if_pos (.inr h3)] at hsn
    exact ⟨(i + 1,pv (zp (gt l i))),⟨h,.inr ⟨by omega,by rw [hsn]⟩⟩,by show l.length - (i + 1) < l.length - i;omega,(by refine ⟨rfl,rfl,rfl,rfl,?_,?_⟩ <;> repeat' (first | exact congrArg (fun z => some (AV.int .i64 z)) (hi1 h) | exact zZ | apply And.intro))⟩
   ·refine qad (zF h3) ?_
    conv=>whnf
    rw [if_neg (by rintro (k | k);exact htn k;exact h3 k)] at hsn
    exact ⟨(i + 1,pv (zp (bstT (l.take i)))),⟨h,.inr ⟨by omega,by rw [hsn]⟩⟩,by show l.length - (i + 1) < l.length - i;omega,(by refine ⟨rfl,rfl,rfl,rfl,?_,?_⟩ <;> repeat' (first | exact congrArg (fun z => some (AV.int .i64 z)) (hi1 h) | exact zZ | apply And.intro))⟩
  ·refine qad ((show decide (Int.ofNat i < (l.length:Int)) = false from zF (by show ¬ (i:Int) < _;omega))) ?_
   conv=>whnf
   rw [List.take_of_length_le (by omega)]
   exact ⟨_,rfl,wkT2 (zT (show (l.length:Int) > 0 by omega))⟩
structure MB (v:AV) (m:Nat) (q:Nat → Prop):Prop where
 sh:∃ B,v = .lst B m .no ∧ Lives noL B ∧ ∀ x,x < m → nth B x = some (.bool (bq (q x)))
abbrev whv (a b p s:Int) (N T:AV) (S M:List AV):AV :=.agg [iv a,iv b,iv p,iv s,N,T,.lst S S.length .no,.lst M M.length .no]
theorem q1b (x y:Nat):maxI (Int.ofNat x) (Int.ofNat y) = Int.ofNat (Nat.max x y) :=by
 unfold maxI
 show (if ((y:Nat):Int) > ((x:Nat):Int) then ((y:Nat):Int) else ((x:Nat):Int)) = ((max x y:Nat):Int)
 split <;> omega
theorem qxe {N T:AV} {l:List Int} (hN:IL N l) {tl:List Int} (hT:T = sv tl) (a b p s:Int) {S M:List AV} (lS:Lives noL S) (lM:Lives noL M) {k m:Nat} {v:AV} {mk:Nat → Prop} (hk:nth M k = some v) (hkl:k < M.length) (hv:MB v m mk) (hm:m ≤ 216001)
  (x y:Nat) (hx:1 ≤ x) (hx2:x ≤ 100000000) (_hy:1 ≤ y) (hy2:y ≤ 100000000) :
  Pure prog 163 [whv a b p s N T S M,nv k,fv (Int.ofNat x) (Int.ofNat y)] (.bool (bq (∃ n,1 ≤ n ∧ n * Nat.max x y < m ∧ mk (n * x) ∧ mk (n * y)))) :=by
 have lN :=hN.no
 subst hT
 have lT :=ql7 tl
 obtain ⟨B,rfl,lB,hB⟩ :=hv.sh
 have hmx:Nat.max x y ≤ 100000000 :=Nat.max_le.2 ⟨hx2,hy2⟩
 have hmx1:x ≤ Nat.max x y :=Nat.le_max_left _ _
 have hmx2:y ≤ Nat.max x y :=Nat.le_max_right _ _
 have hmx0:1 ≤ Nat.max x y :=Nat.le_trans hx hmx1
 have em :=q1b x y
 generalize Nat.max x y = z at *
 rcases hN.cs with rfl | rfl <;> rcases qco tl with ⟨_,e⟩ | e
 all_goals
  rw [e] at lT ⊢
  refine zA fun S q pc hS hq hC hE => ?_
  conv=>whnf
  refine qaa (qaf hkl) ?_
  conv=>whnf
  refine qac (nthP (show nth M (k * 1) = some (.lst B m .no) by rw [Nat.mul_one];exact hk)) ?_
  conv=>whnf
  refine qbh hE hS (A :=Nat) [5,7] (fun n => [(8,nv n)]) (fun _ => []) (fun n => 1 ≤ n ∧ n ≤ m + 1 ∧ ∀ j,1 ≤ j → j < n → ¬ (j * z < m ∧ mk (j * x) ∧ mk (j * y))) (fun n => m + 1 - n) 1 rfl rfl zD ⟨Nat.le_refl _,by omega,fun j h1 h2 => by omega⟩ ?_
  intro n ⟨hn1,hn2,hno⟩
  have q1:n * z ≤ 216002 * 100000000 :=Nat.mul_le_mul (by omega) hmx
  have q2:n * x ≤ n * z :=Nat.mul_le_mul_left _ hmx1
  have q3:n * y ≤ n * z :=Nat.mul_le_mul_left _ hmx2
  have q4:n * 1 ≤ n * z :=Nat.mul_le_mul_left _ hmx0
  have hn1w:IntKind.i64.wrap (Int.ofNat n + 1) = Int.ofNat (n + 1) :=qa2 (m :=n + 1) (by omega)
  conv=>whnf
  by_cases h:n * z < m
  ·refine qaa ((show decide (IntKind.i64.wrap (Int.ofNat n * maxI (Int.ofNat x) (Int.ofNat y)) < (m:Int)) = true by rw [em,mulN (a :=n) (b :=z) (by omega)];exact zT (by show ((n * z:Nat):Int) < (m:Int);omega))) ?_
   conv=>whnf
   refine qaa ((show inR (IntKind.i64.wrap (Int.ofNat n * Int.ofNat x)) m = true by rw [mulN (a :=n) (b :=x) (by omega)];exact qaf (by omega))) ?_
   conv=>whnf
   refine qac (nthP (show nth B ((IntKind.i64.wrap (Int.ofNat n * Int.ofNat x)).toNat * 1) = some (.bool (bq (mk (n * x)))) by rw [mulN (a :=n) (b :=x) (by omega)];show nth B (n * x * 1) = _;rw [Nat.mul_one];exact hB _ (by omega))) ?_
   conv=>whnf
   by_cases h1:mk (n * x)
   ·rw [bq_t h1]
    conv=>whnf
    refine qaa ((show inR (IntKind.i64.wrap (Int.ofNat n * Int.ofNat y)) m = true by rw [mulN (a :=n) (b :=y) (by omega)];exact qaf (by omega))) ?_
    conv=>whnf
    refine qac (nthP (show nth B ((IntKind.i64.wrap (Int.ofNat n * Int.ofNat y)).toNat * 1) = some (.bool (bq (mk (n * y)))) by rw [mulN (a :=n) (b :=y) (by omega)];show nth B (n * y * 1) = _;rw [Nat.mul_one];exact hB _ (by omega))) ?_
    conv=>whnf
    by_cases h2:mk (n * y)
    ·rw [bq_t h2]
     conv=>whnf
     rw [bq_t ⟨n,hn1,h,h1,h2⟩]
     exact ⟨_,rfl,Wk.refl _⟩
    ·rw [bq_f h2]
     conv=>whnf
     exact ⟨n + 1,⟨by omega,by omega,fun j k1 k2 k3 => by
      by_cases e:j = n
      ·subst e;exact h2 k3.2.2
      ·exact hno j k1 (by omega) k3⟩,by show m + 1 - (n + 1) < m + 1 - n;omega,(by refine ⟨rfl,rfl,rfl,rfl,?_,?_⟩ <;> repeat' (first | exact congrArg (fun z => some (AV.int .i64 z)) hn1w | exact zZ | apply And.intro))⟩
   ·rw [bq_f h1]
    conv=>whnf
    exact ⟨n + 1,⟨by omega,by omega,fun j k1 k2 k3 => by
     by_cases e:j = n
     ·subst e;exact h1 k3.2.1
     ·exact hno j k1 (by omega) k3⟩,by show m + 1 - (n + 1) < m + 1 - n;omega,(by refine ⟨rfl,rfl,rfl,rfl,?_,?_⟩ <;> repeat' (first | exact congrArg (fun z => some (AV.int .i64 z)) hn1w | exact zZ | apply And.intro))⟩
  ·refine qad ((show decide (IntKind.i64.wrap (Int.ofNat n * maxI (Int.ofNat x) (Int.ofNat y)) < (m:Int)) = false by rw [em,mulN (a :=n) (b :=z) (by omega)];exact zF (by show ¬ ((n * z:Nat):Int) < (m:Int);omega))) ?_
   conv=>whnf
   rw [bq_f fun ⟨j,k1,k2,k3⟩ => by
    by_cases e:j < n
    ·exact hno j k1 e ⟨k2,k3⟩
    ·have:n * z ≤ j * z :=Nat.mul_le_mul_right _ (by omega)
     omega]
   exact ⟨_,rfl,Wk.refl _⟩
end
end Go.Abs.Seat
namespace Go.Abs.Seat
noncomputable section
open Go Go.Abs Go.Proofs.Tryz
set_option maxRecDepth 100000
theorem rep0:Pure prog 132 [.lst [iv 60] 1 .full,nv 0] (.lst [] 0 .no) :=by
 refine qef hE rfl zL zL fun S q pc hS hq hC hE => ?_
 conv=>whnf
 refine qat hC ?_
 conv=>whnf
 refine qap hE hS ?_
 conv=>whnf
 refine qat hC ?_
 conv=>whnf
 refine qap hE hS ?_
 conv=>whnf
 refine qae hE hS ?_
 conv=>whnf
 exact ⟨_,rfl,FzV.slc (xs :=[]) rfl rfl (fun j hj => absurd hj (Nat.not_lt_zero j)) trivial⟩
theorem rep1:Pure prog 132 [.lst [iv 60] 1 .full,nv 1] (.lst [iv 60] 1 .no) :=by
 refine qef hE rfl zL zL fun S q pc hS hq hC hE => ?_
 conv=>whnf
 refine qat hC ?_
 conv=>whnf
 refine qap hE hS ?_
 conv=>whnf
 refine qat hC ?_
 conv=>whnf
 refine qap hE hS ?_
 conv=>whnf
 refine qae hE hS ?_
 conv=>whnf
 exact ⟨_,rfl,FzV.slc (xs :=[iv 60]) rfl rfl (fun j hj => by match j,hj with | 0,_ => rfl) (by repeat' (first | exact trivial | apply And.intro))⟩
theorem rep2:Pure prog 132 [.lst [iv 60] 1 .full,nv 2] (.lst [iv 60,iv 60] 2 .no) :=by
 refine qef hE rfl zL zL fun S q pc hS hq hC hE => ?_
 conv=>whnf
 refine qat hC ?_
 conv=>whnf
 refine qap hE hS ?_
 conv=>whnf
 refine qat hC ?_
 conv=>whnf
 refine qap hE hS ?_
 conv=>whnf
 refine qae hE hS ?_
 conv=>whnf
 refine zd hS ?_
 conv=>whnf
 refine qae hE hS ?_
 conv=>whnf
 exact ⟨_,rfl,FzV.slc (xs :=[iv 60,iv 60]) rfl rfl (fun j hj => by match j,hj with | 0,_ => rfl | 1,_ => rfl) (by repeat' (first | exact trivial | apply And.intro))⟩
theorem rep3:Pure prog 132 [.lst [iv 60] 1 .full,nv 3] (.lst [iv 60,iv 60,iv 60] 3 .no) :=by
 refine qef hE rfl zL zL fun S q pc hS hq hC hE => ?_
 conv=>whnf
 refine qat hC ?_
 conv=>whnf
 refine qap hE hS ?_
 conv=>whnf
 refine qat hC ?_
 conv=>whnf
 refine qap hE hS ?_
 conv=>whnf
 refine qae hE hS ?_
 conv=>whnf
 refine zd hS ?_
 conv=>whnf
 refine qae hE hS ?_
 conv=>whnf
 refine zd hS ?_
 conv=>whnf
 refine qae hE hS ?_
 conv=>whnf
 exact ⟨_,rfl,FzV.slc (xs :=[iv 60,iv 60,iv 60]) rfl rfl (fun j hj => by match j,hj with | 0,_ => rfl | 1,_ => rfl | 2,_ => rfl) (by repeat' (first | exact trivial | apply And.intro))⟩
theorem q2d:Goal [] 127 [ints .no []] (i64 1) :=of_eq_true (by kernel_rfl)
theorem q2c:Goal [] 127 [ints .no [60]] (i64 60) :=of_eq_true (by kernel_rfl)
theorem q2b:Goal [] 127 [ints .no [60,60]] (i64 3600) :=of_eq_true (by kernel_rfl)
theorem q2a:Goal [] 127 [ints .no [60,60,60]] (i64 216000) :=of_eq_true (by kernel_rfl)
theorem pro0:Pure prog 127 [.lst [] 0 .no] (iv 1) :=q2d.pure MOK.nil (by kernel_rfl) (by kernel_rfl)
theorem pro1:Pure prog 127 [.lst [iv 60] 1 .no] (iv 60) :=q2c.pure MOK.nil (by kernel_rfl) (by kernel_rfl)
theorem pro2:Pure prog 127 [.lst [iv 60,iv 60] 2 .no] (iv 3600) :=q2b.pure MOK.nil (by kernel_rfl) (by kernel_rfl)
theorem pro3:Pure prog 127 [.lst [iv 60,iv 60,iv 60] 3 .no] (iv 216000) :=q2a.pure MOK.nil (by kernel_rfl) (by kernel_rfl)
end
end Go.Abs.Seat
namespace Go.Abs.Seat
noncomputable section
open Go Go.Abs Go.Proofs.Tryz
set_option maxRecDepth 100000
set_option maxHeartbeats 40000000
attribute [local irreducible] IntKind.wrap pEq
theorem qb7 {v:AV} {K:AV → Prop} (h:K v):fcH0 v K :=by cases v <;> exact h
theorem OWk.eq {x y:AObj} (e:x = y):OWk x y :=e ▸ .same x
theorem qnk {α:Type} {x:α}:∀ (p:Pa) (t:Tr α),Tr.getP p t = some x → tset p t x = t
 | .e,.nil,h => by cases h
 | .e,.node _ _ _,h => by cases h;rfl
 | .l _,.nil,h => by rw [qbu] at h;cases h
 | .r _,.nil,h => by rw [qbu] at h;cases h
 | .l p,.node v l r,h => by show Tr.node v (tset p l x) r = _;rw [qnk p l h]
 | .r p,.node v l r,h => by show Tr.node v l (tset p r x) = _;rw [qnk p r h]
theorem qa1 {S:Sub} {c:Code} {f:AS → KE → Prop} {tm:Tr AV} {df:List ADf} {pm:APm} {rd:Bool} {h:Tr AObj} {n b:Nat} {W:List Nat} {K:KE} (i:Nat) {y x:AV} (hy:tm.get i = some y) (e:y = x) (hk:S.loop c f ⟨tset (pathOf i) tm x,df,pm,rd,h,n,b,W⟩ K):S.loop c f ⟨tm,df,pm,rd,h,n,b,W⟩ K :=by
 subst e
 rwa [show tset (pathOf i) tm y = tm from qnk _ _ hy] at hk
def mkB (q:Nat → Prop) (m:Nat):List AV :=(List.range m).map fun j => .bool (bq (q j))
theorem qzq (q:Nat → Prop) (m:Nat):(mkB q m).length = m :=by simp [mkB]
theorem qp6 (q:Nat → Prop) (m:Nat):Lives noL (mkB q m) :=by
 unfold mkB
 generalize List.range m = l
 induction l with
 |nil => trivial
 |cons x r ih => exact ⟨trivial,ih⟩
theorem qt1 (q:Nat → Prop) {m j:Nat} (h:j < m):(mkB q m)[j]? = some (.bool (bq (q j))) :=by simp [mkB,h]
def prS (tp:Nat → Prop):Nat → List AV
 | 0 => [sv (zl (lstP (qak tp 0) 2))]
 |k + 1 => prS tp k ++ [sv (zl (lstP (qak tp (k + 1)) (60 ^ (k + 1) + 1)))]
def prM (tp:Nat → Prop):Nat → List AV
 | 0 => [.lst (mkB (qak tp 0) 2) 2 .no]
 |k + 1 => prM tp k ++ [.lst (mkB (qak tp (k + 1)) (60 ^ (k + 1) + 1)) (60 ^ (k + 1) + 1) .no]
theorem qgd {L:Nat → Prop}:∀ {xs ys:List AV},Lives L xs → Lives L ys → Lives L (xs ++ ys)
 | [],_,_,h => h
 | _ :: _,_,h,k => ⟨h.1,qgd h.2 k⟩
theorem qg9 (tp:Nat → Prop):∀ k,Lives noL (prS tp k)
 | 0 => ⟨ql7 _,trivial⟩
 |k + 1 => qgd (qg9 tp k) ⟨ql7 _,trivial⟩
theorem qe5 (tp:Nat → Prop):∀ k,Lives noL (prM tp k)
 | 0 => ⟨⟨qp6 _ _,fun _ e => nomatch e⟩,trivial⟩
 |k + 1 => qgd (qe5 tp k) ⟨⟨qp6 _ _,fun _ e => nomatch e⟩,trivial⟩
def prV (a b:Int) (p:Nat) (s:Int) (N T:AV) (tp:Nat → Prop):AV :=whv a b (Int.ofNat p) s N T (prS tp p) (prM tp p)
theorem q02 {a b s:Int} {p:Nat} {N T:AV} (hN:Live noL N) (hT:Live noL T) (tp:Nat → Prop):Live noL (prV a b p s N T tp) :=
 show Live noL (whv _ _ _ _ _ _ _ _) from ⟨trivial,trivial,trivial,trivial,hN,hT,⟨qg9 tp p,fun _ e => nomatch e⟩,⟨qe5 tp p,fun _ e => nomatch e⟩,trivial⟩
theorem fz_S {o:Nat → AObj} {R:List Nat} {c:Nat} (h:R ≠ []):FzV o (.lst (ivs (zl R)) R.length (.ch c)) (sv (zl R)) :=by
 have e:sv (zl R) = nl (zl R) :=by
  rcases qco (zl R) with ⟨k,_⟩ | k
  ·exact absurd (List.map_eq_nil_iff.1 k) h
  ·exact k
 rw [e]
 exact FzV.ofWk (qr9 R c).wk (FzV.no (nl_no _))
theorem qz3 {o:Nat → AObj} {tp:Nat → Prop} {c:Nat}:FzV o (.lst [nv 1] 1 (.ch c)) (sv (zl (lstP (qak tp 0) 2))) :=by
 rw [qig,qlf 0]
 exact fz_S (R :=[1]) (by decide)
theorem fz_M {o:Nat → AObj} {q:Nat → Prop} {i m ty:Nat} {t:Tr AV} (ho:o i = .cells t m ty) (hm:Mk t m q):FzV o (.slc i 0 m m) (.lst (mkB q m) m .no) :=
 FzV.slc ho (qzq q m) (fun j hj => by rw [qt1 q hj];exact hm.at hj) (qp6 q m)
theorem qg2 {tp:Nat → Prop}:Mk (.node (.bool false) (.node (.bool true) .nil .nil) .nil) 2 (qak tp 0) :=by
 rw [qig]
 intro j
 match j with
 | 0 => rw [if_pos (by decide),bq_f (by decide)];rfl
 | 1 => rw [if_pos (by decide),bq_t (by decide)];rfl
 |j + 2 =>
  rw [if_neg (by omega)]
  unfold Tr.get
  by_cases hp:(j + 1) % 2 = 0
  ·rw [Tr.pathOf_odd hp]
   have h2:(j + 1) / 2 = (j + 1) / 2 - 1 + 1 :=by omega
   rw [h2]
   by_cases hq:((j + 1) / 2 - 1) % 2 = 0
   ·rw [Tr.pathOf_odd hq];exact qbu _
   ·rw [Tr.pathOf_even hq];exact qbu _
  ·rw [Tr.pathOf_even hp];exact qbu _
theorem fin1 {o:Nat → AObj} {tp:Nat → Prop} {a b s:Int} {p:Nat} {N T:AV} (lN:Live noL N) (lT:Live noL T) (hp:p = 1) {i0 c0 y0 c d:Nat} (h0:o i0 = .cells (.node (.bool false) (.node (.bool true) .nil .nil) .nil) 2 y0) {i1 m1 c1 y1:Nat} {t1:Tr AV} (hn1:lstP (qak tp 1) 61 ≠ []) (ho1:o i1 = .cells t1 m1 y1) (hm1:Mk t1 m1 (qak tp 1)) (em1:m1 = 61) :
  FzV o (.agg [iv a,iv b,nv p,iv s,N,T,.lst [.lst [nv 1] 1 (.ch c0),.lst (ivs (zl (lstP (qak tp 1) 61))) (lstP (qak tp 1) 61).length (.ch c1)] 2 (.ch c),.lst [.slc i0 0 2 2,.slc i1 0 m1 m1] 2 (.ch d)]) (prV a b p s N T tp) :=by
 subst hp em1
 refine FzV.agg ⟨.no trivial,.no trivial,.no trivial,.no trivial,.no lN,.no lT,FzV.lst (ys :=prS tp 1) ?_ 2 _,FzV.lst (ys :=prM tp 1) ?_ 2 _,trivial⟩
 ·exact ⟨qz3,fz_S hn1,trivial⟩
 ·exact ⟨fz_M h0 qg2,fz_M ho1 hm1,trivial⟩
theorem fin2 {o:Nat → AObj} {tp:Nat → Prop} {a b s:Int} {p:Nat} {N T:AV} (lN:Live noL N) (lT:Live noL T) (hp:p = 2) {i0 c0 y0 c d:Nat} (h0:o i0 = .cells (.node (.bool false) (.node (.bool true) .nil .nil) .nil) 2 y0) {i1 m1 c1 y1:Nat} {t1:Tr AV} (hn1:lstP (qak tp 1) 61 ≠ []) (ho1:o i1 = .cells t1 m1 y1) (hm1:Mk t1 m1 (qak tp 1)) (em1:m1 = 61) {i2 m2 c2 y2:Nat} {t2:Tr AV} (hn2:lstP (qak tp 2) 3601 ≠ []) (ho2:o i2 = .cells t2 m2 y2) (hm2:Mk t2 m2 (qak tp 2)) (em2:m2 = 3601) :
  FzV o (.agg [iv a,iv b,nv p,iv s,N,T,.lst [.lst [nv 1] 1 (.ch c0),.lst (ivs (zl (lstP (qak tp 1) 61))) (lstP (qak tp 1) 61).length (.ch c1),.lst (ivs (zl (lstP (qak tp 2) 3601))) (lstP (qak tp 2) 3601).length (.ch c2)] 3 (.ch c),.lst [.slc i0 0 2 2,.slc i1 0 m1 m1,.slc i2 0 m2 m2] 3 (.ch d)]) (prV a b p s N T tp) :=by
 subst hp em1 em2
 refine FzV.agg ⟨.no trivial,.no trivial,.no trivial,.no trivial,.no lN,.no lT,FzV.lst (ys :=prS tp 2) ?_ 3 _,FzV.lst (ys :=prM tp 2) ?_ 3 _,trivial⟩
 ·exact ⟨qz3,fz_S hn1,fz_S hn2,trivial⟩
 ·exact ⟨fz_M h0 qg2,fz_M ho1 hm1,fz_M ho2 hm2,trivial⟩
theorem fin3 {o:Nat → AObj} {tp:Nat → Prop} {a b s:Int} {p:Nat} {N T:AV} (lN:Live noL N) (lT:Live noL T) (hp:p = 3) {i0 c0 y0 c d:Nat} (h0:o i0 = .cells (.node (.bool false) (.node (.bool true) .nil .nil) .nil) 2 y0) {i1 m1 c1 y1:Nat} {t1:Tr AV} (hn1:lstP (qak tp 1) 61 ≠ []) (ho1:o i1 = .cells t1 m1 y1) (hm1:Mk t1 m1 (qak tp 1)) (em1:m1 = 61) {i2 m2 c2 y2:Nat} {t2:Tr AV} (hn2:lstP (qak tp 2) 3601 ≠ []) (ho2:o i2 = .cells t2 m2 y2) (hm2:Mk t2 m2 (qak tp 2)) (em2:m2 = 3601) {i3 m3 c3 y3:Nat} {t3:Tr AV} (hn3:lstP (qak tp 3) 216001 ≠ []) (ho3:o i3 = .cells t3 m3 y3) (hm3:Mk t3 m3 (qak tp 3)) (em3:m3 = 216001) :
  FzV o (.agg [iv a,iv b,nv p,iv s,N,T,.lst [.lst [nv 1] 1 (.ch c0),.lst (ivs (zl (lstP (qak tp 1) 61))) (lstP (qak tp 1) 61).length (.ch c1),.lst (ivs (zl (lstP (qak tp 2) 3601))) (lstP (qak tp 2) 3601).length (.ch c2),.lst (ivs (zl (lstP (qak tp 3) 216001))) (lstP (qak tp 3) 216001).length (.ch c3)] 4 (.ch c),.lst [.slc i0 0 2 2,.slc i1 0 m1 m1,.slc i2 0 m2 m2,.slc i3 0 m3 m3] 4 (.ch d)]) (prV a b p s N T tp) :=by
 subst hp em1 em2 em3
 refine FzV.agg ⟨.no trivial,.no trivial,.no trivial,.no trivial,.no lN,.no lT,FzV.lst (ys :=prS tp 3) ?_ 4 _,FzV.lst (ys :=prM tp 3) ?_ 4 _,trivial⟩
 ·exact ⟨qz3,fz_S hn1,fz_S hn2,fz_S hn3,trivial⟩
 ·exact ⟨fz_M h0 qg2,fz_M ho1 hm1,fz_M ho2 hm2,fz_M ho3 hm3,trivial⟩
abbrev midA (i j:Nat):Int :=IntKind.i64.wrap ((IntKind.u64.wrap (IntKind.i64.wrap (Int.ofNat i + Int.ofNat j))).fdiv (2 ^ min (Int.toNat 1) IntKind.u64.bits))
theorem q1z {m:Nat} (h:m < 18446744073709551616):IntKind.u64.wrap (Int.ofNat m) = Int.ofNat m :=by
 unfold IntKind.wrap
 have e1:(2:Int) ^ IntKind.u64.bits = 18446744073709551616 :=rfl
 simp only [e1]
 rw [if_neg (by simp only [Bool.and_eq_true];exact fun e => absurd e.1 (by decide))]
 show ((m:Int)) % 18446744073709551616 = m
 omega
theorem qzr (i j:Nat) (h:i + j ≤ 9223372036854775807):midA i j = Int.ofNat ((i + j) / 2) :=by
 unfold midA
 rw [show IntKind.i64.wrap (Int.ofNat i + Int.ofNat j) = Int.ofNat (i + j) from qa2 (m :=i + j) (by omega),q1z (by omega),show (2:Int) ^ min (Int.toNat 1) IntKind.u64.bits = 2 by decide,show (Int.ofNat (i + j)).fdiv 2 = Int.ofNat ((i + j) / 2) by rw [Int.fdiv_eq_ediv_of_nonneg _ (by decide)];show ((i + j:Nat):Int) / 2 = (((i + j) / 2:Nat):Int);omega]
 exact qa2 (m :=(i + j) / 2) (by omega)
theorem qk7 {a b:Nat}:ordI (Int.ofNat a) (Int.ofNat b) < 0 ↔ a < b :=by
 unfold ordI
 simp only [Int.ofNat_eq_natCast]
 split
 ·omega
 ·split <;> omega
theorem qo4 (x y:AV):WkV (.tup [x,y]) (.tup [x,.unk]) :=by
 refine ⟨fun g w u hu => ?_,fun L h => ⟨h.1,trivial,trivial⟩⟩
 simp only [VRel] at hu ⊢
 obtain ⟨vs,h1,v0,us0,e0,h0,v1,us1,e1,h2,h3⟩ :=hu
 exact ⟨vs,h1,v0,us0,e0,h0,v1,us1,e1,trivial,h3⟩
abbrev hpW (W0:AObj) (N D:Nat):Tr AObj :=.node W0 (.node (.cells (.node (nv N) (.node (nv D) .nil .nil) .nil) 2 24) .nil .nil) .nil
theorem qzy (W0:AObj) (N D:Nat):HEnd (hpW W0 N D) 2 :=fun i hi => by
 match i,hi with
 |i + 2,_ =>
  unfold Tr.get
  by_cases hp:(i + 1) % 2 = 0
  ·rw [Tr.pathOf_odd hp]
   have h2:(i + 1) / 2 = (i + 1) / 2 - 1 + 1 :=by omega
   rw [h2]
   by_cases hq:((i + 1) / 2 - 1) % 2 = 0
   ·rw [Tr.pathOf_odd hq];exact qbu _
   ·rw [Tr.pathOf_even hq];exact qbu _
  ·rw [Tr.pathOf_even hp];exact qbu _
theorem bs_h {W0:AObj} (hW:BdO 2 W0) (N D:Nat) (hN:N ≤ 50000) (l:List Nat) (hs:Srt l) (hl:l.length ≤ 216001) (hb:∀ x,x ∈ l → x ≤ 216000) (w:Nat) :
  HFun prog 159 [nl (zl l),nv w,.func (.func 160) [] [.ptr 1 0]] (hv (hpW W0 N D)) 2 (.tup [nv (cntB N w l),.unk]) (hv (hpW W0 N D)) :=by
 have ll :=qd4 (zl l)
 have hz :=qax l
 have hcl :=qi4 N w l
 refine qgj hE rfl (qzy W0 N D) (by repeat' (first | exact Nat.zero_le _ | exact Nat.le_of_ble_eq_true rfl | exact Nat.max_le.2 ⟨qaj (qag _),Nat.zero_le _⟩ | apply Nat.max_le.2 | apply And.intro | exact qaj ll)) (Nat.zero_le _) ⟨⟨Nat.zero_le _,⟨Nat.zero_le _,trivial,trivial⟩,trivial⟩,hW,trivial⟩ ⟨⟨Nat.zero_le _,⟨Nat.zero_le _,trivial,trivial⟩,trivial⟩,hW,trivial⟩ fun S q pc hS hq hC hE => ?_
 conv=>whnf
 refine qdq hE hS (A :=Nat × Nat) [] (fun x hx => hx) [0,1,2,8] (fun (i,j) => [(9,nv i),(10,nv j)]) (fun _ => []) (fun _ => []) (fun (i,j) => i ≤ cntB N w l ∧ cntB N w l ≤ j ∧ j ≤ l.length) (fun (i,j) => j - i) (0,l.length) (Nat.le_of_ble_eq_true rfl) trivial rfl (by repeat' (first | exact hW | exact zZ | apply And.intro)) (by refine ⟨rfl,rfl,rfl,rfl,rfl,rfl,2,rfl,?_,?_,?_,?_,by kernel_rfl⟩ <;> repeat' (first | exact hW | exact ⟨_,rfl,WkV.int (congrArg Int.ofNat hz)⟩ | exact zZ | apply And.intro)) ⟨Nat.zero_le _,hcl,Nat.le_refl _⟩ ?_
 rintro ⟨i,j⟩ ⟨h1,h2,h3⟩ M hM
 obtain rfl:M = 2 :=hM
 conv=>whnf
 have hm1:cntB N w l = cntB N w l :=rfl
 by_cases hij:i < j
 ·have hmid :=qzr i j (by omega)
  have hml:(i + j) / 2 < l.length :=by omega
  have hmi:i ≤ (i + j) / 2 :=by omega
  have hmj:(i + j) / 2 < j :=by omega
  generalize (i + j) / 2 = m at hmid hml hmi hmj
  have hgm :=hb _ (qbd l hml)
  have hmul:gn l m * N ≤ 216000 * 50000 :=Nat.mul_le_mul hgm hN
  have hw:IntKind.i64.wrap (Int.ofNat (gn l m) * Int.ofNat N) = Int.ofNat (gn l m * N) :=mulN (by omega)
  have hm1w:IntKind.i64.wrap (midA i j + 1) = Int.ofNat (m + 1) :=by rw [hmid];exact qa2 (m :=m + 1) (by omega)
  refine qaa (qch hij) ?_
  conv=>whnf
  refine qaa ((show inR (midA i j) (zl l).length = true by rw [hmid];exact qaf (by omega))) ?_
  conv=>whnf
  refine qac (nthP (show nth (ivs (zl l)) ((midA i j).toNat * 1) = some (nv (gn l m)) by rw [hmid];show nth (ivs (zl l)) (m * 1) = _;rw [qa4 (by omega),qcw l hml])) ?_
  conv=>whnf
  refine qat hC ?_
  conv=>whnf
  refine qap hE hS ?_
  conv=>whnf
  refine qab hC (qfm (IntKind.i64.wrap (Int.ofNat (gn l m) * Int.ofNat N)) (Int.ofNat w)) ?_
  conv=>whnf
  by_cases hc:gn l m * N < w
  ·refine qaa ((show decide (ordI (IntKind.i64.wrap (Int.ofNat (gn l m) * Int.ofNat N)) (Int.ofNat w) < 0) = true by rw [hw];exact zT (qk7.2 hc))) ?_
   conv=>whnf
   exact ⟨(m + 1,j),⟨Nat.lt_of_not_le fun k => qm7 hs k hml hc,h2,h3⟩,by show j - (m + 1) < j - i;omega,Nat.le_refl _,(by refine ⟨rfl,rfl,rfl,rfl,rfl,rfl,2,rfl,?_,?_,?_,?_,by kernel_rfl⟩ <;> repeat' (first | exact hW | exact zZ | apply And.intro))⟩
  ·refine qad ((show decide (ordI (IntKind.i64.wrap (Int.ofNat (gn l m) * Int.ofNat N)) (Int.ofNat w) < 0) = false by rw [hw];exact zF fun k => hc (qk7.1 k))) ?_
   conv=>whnf
   exact ⟨(i,m),⟨h1,Nat.le_of_not_lt fun k => hc (qj7 N w l m k),by show m ≤ l.length;omega⟩,by show m - i < j - i;omega,Nat.le_refl _,(by refine ⟨rfl,rfl,rfl,rfl,rfl,rfl,2,rfl,?_,?_,?_,?_,by kernel_rfl⟩ <;> repeat' (first | exact hW | exact zZ | apply And.intro))⟩
 ·refine qad (qcl hij) ?_
  conv=>whnf
  refine .inl ?_
  conv=>whnf
  have ei:i = cntB N w l :=by omega
  by_cases hil:i < l.length
  ·have hlt2:decide (Int.ofNat i < ((zl l).length:Int)) = true :=zT (by rw [hz];show (i:Int) < _;omega)
   repeat ((first
    |refine qam hlt2 ?_
    |refine qal hlt2 ?_
    |refine qac (qah hlt2) ?_
    |refine qaa hlt2 ?_
    |refine zd hS ?_);conv=>whnf)
   refine qac (nthP (show nth (ivs (zl l)) (i * 1) = some (nv (gn l i)) by rw [qa4 (by omega),qcw l hil])) ?_
   conv=>whnf
   repeat ((first
    |refine qam hlt2 ?_
    |refine qal hlt2 ?_
    |refine qac (qah hlt2) ?_
    |refine qaa hlt2 ?_
    |refine zd hS ?_);conv=>whnf)
   refine qat hC ?_
   conv=>whnf
   refine qap hE hS ?_
   conv=>whnf
   refine qab hC (qfm (IntKind.i64.wrap (Int.ofNat (gn l i) * Int.ofNat N)) (Int.ofNat w)) ?_
   conv=>whnf
   repeat ((first
    |refine qam hlt2 ?_
    |refine qal hlt2 ?_
    |refine qac (qah hlt2) ?_
    |refine qaa hlt2 ?_
    |refine zd hS ?_);conv=>whnf)
   exact ⟨_,rfl,by rw [← ei];exact qo4 _ _,⟨rfl,rfl,trivial⟩⟩
  ·have hlt2:decide (Int.ofNat i < ((zl l).length:Int)) = false :=zF (by rw [hz];show ¬ (i:Int) < _;omega)
   repeat ((first
    |refine qaz hlt2 ?_
    |refine qa0 hlt2 ?_
    |refine qac (qar hlt2) ?_
    |refine qad hlt2 ?_
    |refine zd hS ?_);conv=>whnf)
   exact ⟨_,rfl,by rw [← ei];exact qo4 _ _,⟨rfl,rfl,trivial⟩⟩
end
end Go.Abs.Seat
