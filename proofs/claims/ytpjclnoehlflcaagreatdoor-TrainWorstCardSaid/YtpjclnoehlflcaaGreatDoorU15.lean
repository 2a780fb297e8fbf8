/-
  The program's nearest train, whatever the rule.
  Trains of a rule.
  Trains of a rule: the program's.
  Trains of a rule, of whatever lists.
  The law TrainFits.
  The nearest train: what both sides return, of whatever rules and fractions.
  Sharing pairs: facts of what is found.
  Sharing pairs: the map of known trains.
  Sharing pairs: what is refused.
  Sharing pairs: what it is prepared with, and the map's updates.
-/
import Derived.Test.YtpjclnoehlflcaaGreatDoorT60
import Derived.Test.YtpjclnoehlflcaaGreatDoorT53
import Derived.Test.YtpjclnoehlflcaaGreatDoorT59
import Derived.Test.YtpjclnoehlflcaaGreatDoorU9
import Derived.Test.YtpjclnoehlflcaaGreatDoorU8
import Derived.Test.YtpjclnoehlflcaaGreatDoorU7
import Derived.Test.YtpjclnoehlflcaaGreatDoorU14
import Derived.Test.YtpjclnoehlflcaaGreatDoorU13
/-! The program's nearest train, whatever the rule. -/
namespace Go.Abs.Seat
noncomputable section
open Go Go.Abs Go.Proofs.Tryz
set_option maxRecDepth 100000
set_option maxHeartbeats 40000000
attribute [local irreducible] IntKind.wrap pEq
theorem eS_len:∀ p,(eS p).length = p + 1
 | 0 => rfl
 |p + 1 => by rw [eS,List.length_append,eS_len p];rfl
theorem eS_nth:∀ (p k:Nat),k < p → nth (eS p) (k + 1) = some .nils
 |p + 1,k,h => by
  rw [nth_eq,eS]
  by_cases e:k = p
  ·subst e
   rw [List.getElem?_append_right (by rw [eS_len];omega),eS_len,Nat.sub_self]
   rfl
  ·rw [List.getElem?_append_left (by rw [eS_len];omega),← nth_eq]
   exact eS_nth p k (by omega)
theorem nearE_pure {N:AV} {l:List Int} (hN:IL N l) (a b s:Int) (p k:Nat) (hk:k < p) (n d:Int):Pure prog 134 [whE a b p s N,nv (k + 1),fv n d] (.tup [.nils,fv 0 0]) :=by
 have lN :=hN.no
 have lE :=whE_no (a :=a) (b :=b) (s :=s) (p :=p) lN
 have lS :=eS_no p
 unfold whE at lE ⊢
 rcases hN.cs with rfl | rfl
 all_goals
  refine zA fun S q pc hS hq hC hE => ?_
  conv=>whnf
  refine bool_true (inR_t (show k + 1 < p + 1 by omega)) ?_
  conv=>whnf
  refine plan_as (nthP (show nth (eS p) ((k + 1) * 1) = some .nils by rw [Nat.mul_one];exact eS_nth p k hk)) ?_
  conv=>whnf
  refine sym_unroll hE hS ?_
  conv=>whnf
  refine zd hS ?_
  conv=>whnf
  exact ⟨_,rfl,Wk.refl _⟩
theorem nearestE_pure {N:AV} {l:List Int} (hN:IL N l) (a b s:Int) (p:Nat) (hp:p ≤ 3) (n d:Int):Pure prog 94 [whE a b p s N,fv n d] (.tup [.nils,.bool false]) :=by
 have lN :=hN.no
 have lE :=whE_no (a :=a) (b :=b) (s :=s) (p :=p) lN
 have lS :=eS_no p
 have lP:Lives noL (prE p) :=prM_no _ p
 have pn :=fun k (hk:k < p) => nearE_pure hN a b s p k hk n d
 unfold whE at lE pn ⊢
 rcases hN.cs with rfl | rfl
 all_goals
  refine zA fun S q pc hS hq hC hE => ?_
  conv=>whnf
  refine sym_loopG hE hS (A :=Nat) [2,3] (fun k => [(6,.nils),(7,nv (k + 1))]) (fun _ => []) (fun _ => []) (fun k => k ≤ p) (fun k => p - k) 0 (Nat.le_of_ble_eq_true rfl) rfl zG2 (Nat.zero_le _) ?_
  intro k hk M hM
  obtain rfl:M = 2 :=hM
  have hi1:k < p → IntKind.i64.wrap (Int.ofNat (k + 1) + 1) = Int.ofNat (k + 1 + 1) :=fun h => wrapN (m :=k + 1 + 1) (by omega)
  conv=>whnf
  by_cases hk2:k < p
  ·have c1:decide (Int.ofNat (k + 1) ≤ Int.ofNat p) = true :=zT (by show ((k + 1:Nat):Int) ≤ (p:Int);omega)
   have pk :=pn k hk2
   repeat ((first
    |refine ko_rT c1 ?_
    |refine ko_sF c1 ?_
    |refine plan_as (pick_t c1) ?_
    |refine bool_true c1 ?_
    |refine sym_pure hC (pk) ?_
    |refine zd hS ?_);conv=>whnf)
   exact ⟨k + 1,hk2,by omega,Nat.le_refl _,(by refine ⟨rfl,rfl,rfl,rfl,rfl,rfl,2,rfl,?_,?_⟩ <;> repeat' (first | exact ⟨_,rfl,WkV.int (hi1 hk2)⟩ | exact zZ | apply And.intro))⟩
  ·have c1:decide (Int.ofNat (k + 1) ≤ Int.ofNat p) = false :=zF (by show ¬ ((k + 1:Nat):Int) ≤ (p:Int);omega)
   repeat ((first
    |refine ko_sT c1 ?_
    |refine ko_rF c1 ?_
    |refine plan_as (pick_f c1) ?_
    |refine bool_false c1 ?_
    |refine zd hS ?_);conv=>whnf)
   refine .inl ?_
   conv=>whnf
   repeat ((first
    |refine ko_sT c1 ?_
    |refine ko_rF c1 ?_
    |refine plan_as (pick_f c1) ?_
    |refine bool_false c1 ?_
    |refine sym_pure hC (bestF_nils) ?_
    |refine zd hS ?_);conv=>whnf)
   exact ⟨_,rfl,Wk.refl _⟩
theorem zl_snoc (l:List Nat) (q:Nat):zl (l ++ [q]) = zl l ++ [Int.ofNat q] :=by
 unfold zl
 rw [List.map_append];rfl
theorem lstP_tth (a b:Nat) (l:List Int):∀ k,k ≤ b + 1 - a → a ≤ b → zl (lstP (tp a b l) (a + k)) = tth_l l a k
 | 0,_,_ => by
  have:lstP (tp a b l) (a + 0) = [] :=by
   rw [List.eq_nil_iff_forall_not_mem]
   intro x hx
   have h :=(lstP_mem _ _ _).1 hx
   have :=tp_ge h.2
   omega
  rw [this];rfl
 |k + 1,hk,hab => by
  have ih :=lstP_tth a b l k (by omega) hab
  rw [show a + (k + 1) = a + k + 1 by omega,show lstP (tp a b l) (a + k + 1) = @ite _ (tp a b l (a + k)) (Classical.propDecidable _) (lstP (tp a b l) (a + k) ++ [a + k]) (lstP (tp a b l) (a + k)) from rfl,tth_l]
  by_cases h:Int.ofNat (a + k) ∈ l
  ·rw [if_pos h,if_neg (fun z:tp a b l (a + k) => z.1 h)]
   exact ih
  ·rw [if_neg h,if_pos (show tp a b l (a + k) from ⟨h,by show (a:Int) ≤ ((a + k:Nat):Int);omega,by show ((a + k:Nat):Int) ≤ (b:Int);omega⟩),zl_snoc,ih]
abbrev tL (a b:Nat) (l:List Int):List Nat :=lstP (tp a b l) (b + 1)
theorem tL_zl {a b:Nat} (l:List Int) (hab:a ≤ b):zl (tL a b l) = tth_l l a (b + 1 - a) :=by
 have :=lstP_tth a b l (b + 1 - a) (Nat.le_refl _) hab
 rwa [show a + (b + 1 - a) = b + 1 by omega] at this
theorem tL_mem {a b:Nat} {l:List Int}:(fun n => n ∈ tL a b l) = tp a b l :=funext fun n => propext ⟨fun h => ((lstP_mem _ _ _).1 h).2,fun h => (lstP_mem _ _ _).2 ⟨by have :=tp_ge h;omega,h⟩⟩
theorem tL_len {a b:Nat} (l:List Int) (hab:a ≤ b) (ha:4 ≤ a) (hb:b ≤ 60):(tL a b l).length ≤ 60 :=by
 have h :=congrArg List.length (tL_zl l hab)
 rw [zl_len] at h
 have :=tth_len l a (b + 1 - a)
 omega
theorem RT_lets {tq:Nat → Prop} {P:Nat} {f g:Nat → Prop} (h:∀ k,1 ≤ k → k ≤ P → (f k ↔ g k)):RT tq P f = RT tq P g :=funext fun _ => propext ⟨fun ⟨h1,h2,h3⟩ => ⟨h1,(h _ h1.1 h1.2).1 h2,h3⟩,fun ⟨h1,h2,h3⟩ => ⟨h1,(h _ h1.1 h1.2).2 h2,h3⟩⟩
theorem nrT_lets {tq:Nat → Prop} {P:Nat} {f g:Nat → Prop} {n d:Nat} (h:∀ k,1 ≤ k → k ≤ P → (f k ↔ g k)):nrT tq P f n d = nrT tq P g n d :=by
 have e :=RT_lets (tq :=tq) h
 have:BO tq P f n d = BO tq P g n d :=by
  funext o
  cases o with
  |none => show (∀ t,¬ RT tq P f t) = (∀ t,¬ RT tq P g t);rw [e]
  |some t => show Bst tq P f n d t = Bst tq P g n d t;unfold Bst;rw [e]
 unfold nrT
 rw [this]
theorem nrT_none {tq:Nat → Prop} {P:Nat} {f:Nat → Prop} {n d:Nat} (h:∀ x,¬ tq x):nrT tq P f n d = none :=nrT_eq (o :=none) fun t ht => by
 have h1 :=ht.1
 have h2 :=ht.2.2.all
 cases t with
 |nil => exact absurd h1.1 (by decide)
 |cons p r => exact h _ h2.1.1
def nV:Option (List (Nat × Nat)) → AV
 |none => .tup [.nils,iv 5]
 |some t => .tup [trA t,iv 0]
theorem nV_no (o:Option (List (Nat × Nat))):Live noL (nV o) :=by
 cases o with
 |none => exact ⟨trivial,trivial,trivial⟩
 |some t => exact ⟨trA_no t,trivial,trivial⟩
theorem pNearest_pure {N:AV} {l:List Int} (hN:IL N l) (hl:l.length < 4611686018427387904) (a b:Nat) (ha:4 ≤ a) (hab:a ≤ b) (hb:b ≤ 60) (p:Nat) (hp:1 ≤ p ∧ p ≤ 3) (s:Int) (hs:1 ≤ s ∧ s ≤ 3) (pr:Pure prog 82 [rv (Int.ofNat a) (Int.ofNat b) (Int.ofNat p) s N] (.bool true)) (n d:Nat) (hn:n ≤ 50000) (hd:1 ≤ d ∧ d ≤ 50000) :
  Pure prog 34 [rv (Int.ofNat a) (Int.ofNat b) (Int.ofNat p) s N,fv (Int.ofNat n) (Int.ofNat d)] (nV (nrT (tp a b l) p (fun k => manyP (Int.ofNat p) s k) n d)) :=by
 have pf :=isFraction_pure (Int.ofNat n) (Int.ofNat d)
 rw [zT (isF_N hn hd.1 hd.2)] at pf
 have pu :=ruled_pure hN hl a b hab hb (Int.ofNat p) s
 rw [← tL_zl l hab] at pu
 have lN :=hN.no
 have el:nrT (tp a b l) p (letsP s) n d = nrT (tp a b l) p (fun k => manyP (Int.ofNat p) s k) n d :=nrT_lets fun k h1 h2 => ⟨fun h => ⟨⟨by omega,by show (k:Int) ≤ (p:Int);omega⟩,h⟩,fun h => h.2⟩
 rw [← el]
 clear el
 by_cases hT:tL a b l = []
 ·have en:nrT (tp a b l) p (letsP s) n d = none :=nrT_none fun x hx => by
   rw [← tL_mem (l :=l),hT] at hx
   cases hx
  rw [en]
  rw [hT] at pu
  have pn :=nearestE_pure hN (Int.ofNat a) (Int.ofNat b) s p hp.2 (Int.ofNat n) (Int.ofNat d)
  have lE :=whE_no (a :=Int.ofNat a) (b :=Int.ofNat b) (s :=s) (p :=p) lN
  have pp :=prepE01 hN a b s p hp
  unfold whE at pp pn lE
  rcases hN.cs with rfl | rfl
  all_goals
   refine zA fun S q pc hS hq hC hE => ?_
   conv=>whnf
   repeat ((first
    |refine sym_pure hC (pr) ?_
    |refine sym_pure hC (pf) ?_
    |refine sym_pure hC (pu) ?_
    |refine sym_pure hC (pp) ?_
    |refine sym_pure hC (pn) ?_
    |refine zd hS ?_);conv=>whnf)
   exact ⟨_,rfl,Wk.refl _⟩
 ·have h60:∀ x,x ∈ tL a b l → 1 ≤ x ∧ x ≤ 60 :=fun x hx => tp_le (by omega) hb ((lstP_mem _ _ _).1 hx).2
  have hTl :=tL_len l hab ha hb
  have hsr :=lstP_srt (tp a b l) (b + 1)
  have pn :=nearest_pure hN (Int.ofNat a) (Int.ofNat b) s hs p hp (tL a b l) hT hsr h60 hTl n d hn hd
  rw [tL_mem] at pn
  have eT:sv (zl (tL a b l)) = nl (zl (tL a b l)) :=by
   rcases sv_cases (zl (tL a b l)) with ⟨z,_⟩ | z
   ·exact absurd (List.map_eq_nil_iff.1 z) hT
   ·exact z
  rw [eT] at pu
  have lv :=nV_no (nrT (tp a b l) p (letsP s) n d)
  have lT:Live noL (nl (zl (tL a b l))) :=nl_no _
  have pp :=prep01 hN a b s p hp (tL a b l) hT (fun x hx => (h60 x hx).2) hTl
  rw [tL_mem] at pp
  unfold prV at pp
  generalize nrT (tp a b l) p (letsP s) n d = o at *
  rcases o with _ | _ | ⟨q,r⟩
  all_goals
   rcases hN.cs with rfl | rfl
   all_goals
    refine zA fun S q pc hS hq hC hE => ?_
    conv=>whnf
    repeat ((first
     |refine sym_pure hC (pr) ?_
     |refine sym_pure hC (pf) ?_
     |refine sym_pure hC (pu) ?_
     |refine sym_pure hC (pp) ?_
     |refine sym_pure hC (pn) ?_
     |refine zd hS ?_);conv=>whnf)
    exact ⟨_,rfl,Wk.refl _⟩
end
end Go.Abs.Seat

/-! Trains of a rule. -/
namespace Go.Abs.Seat
noncomputable section
open Go Go.Abs Go.Proofs.Tryz
set_option maxRecDepth 100000
set_option maxHeartbeats 40000000
attribute [local irreducible] pEq
end
end Go.Abs.Seat

/-! Trains of a rule: the program's. -/
namespace Go.Abs.Seat
noncomputable section
open Go Go.Abs Go.Proofs.Tryz
set_option maxRecDepth 100000
set_option maxHeartbeats 40000000
attribute [local irreducible] pEq
end
end Go.Abs.Seat

/-! Trains of a rule, of whatever lists. -/
namespace Go.Abs.Seat
open Go Go.Abs Go.Proofs.Tryz
set_option maxRecDepth 100000
set_option maxHeartbeats 40000000
attribute [local irreducible] IntKind.wrap pEq
def PQ (v:AV) (l:List (Int × Int)):Prop :=v = .nils ∧ l = [] ∨ v = pv l
theorem PQ.no {v:AV} {l:List (Int × Int)} (h:PQ v l):Live noL v :=by
 rcases h with ⟨rfl,_⟩ | rfl
 ·trivial
 ·exact pv_no l
theorem PQ.tr {v:AV} {l:List (Int × Int)} (h:PQ v l):(∃ x y,TV v l.length x y) ∨ TN v l.length :=by
 rcases h with ⟨rfl,rfl⟩ | rfl
 ·exact .inr tn_nils
 ·exact train_or l
theorem rule_b {N:AV} {l:List Int} (h:IL N l) (hl:l.length < 4611686018427387904) (a b p s:Int) (hs:-9223372036854775808 ≤ s ∧ s < 9223372036854775808) :
  ∃ r,Pure prog 82 [rv a b p s N] (.bool r) ∧ Pure prog 32 [rv a b p s N] (.bool r) ∧ (r = true ↔ rOk a b p s l) :=by
 have hd :=Classical.propDecidable (rOk a b p s l)
 exact ⟨decide (rOk a b p s l),isRule_pure h hl a b p s hs decide_eq_true_iff,rRule_pure h hl a b p s decide_eq_true_iff,decide_eq_true_iff⟩
end Go.Abs.Seat

/-! The law TrainFits. -/
namespace Go.Abs.Seat
open Go Go.Abs Go.Proofs.Tryz
set_option maxRecDepth 100000
set_option maxHeartbeats 40000000
attribute [local irreducible] IntKind.wrap pEq
end Go.Abs.Seat

/-! The nearest train: what both sides return, of whatever rules and fractions. -/
namespace Go.Abs.Seat
noncomputable section
open Go Go.Abs Go.Proofs.Tryz
set_option maxRecDepth 100000
set_option maxHeartbeats 40000000
attribute [local irreducible] IntKind.wrap pEq
theorem nrT_bo {tq:Nat → Prop} (h1:∀ n,tq n → 1 ≤ n ∧ n ≤ 60) {lets:Nat → Prop} {N D:Nat} (hD:1 ≤ D) (P:Nat):BO tq P lets N D (nrT tq P lets N D) :=by
 have key:∀ o,BO tq P lets N D o → BO tq P lets N D (nrT tq P lets N D) :=fun o h => by rw [nrT_eq h];exact h
 by_cases hx:∃ n,tq n
 ·rcases fdl_bo (lets :=lets) (N :=N) h1 hx hD P with ⟨_,h⟩ | ⟨_,_,h⟩
  ·exact key _ h
  ·exact key _ h
 ·have e:nrT tq P lets N D = none :=nrT_none fun n h => hx ⟨n,h⟩
  rw [e]
  intro t ht
  have h1 :=ht.1
  have h2 :=ht.2.2.all
  cases t with
  |nil => exact absurd h1.1 (by decide)
  |cons p r => exact hx ⟨_,h2.1.1⟩
end
end Go.Abs.Seat

/-! Sharing pairs: facts of what is found. -/
namespace Go.Abs.Seat
noncomputable section
open Go Go.Abs Go.Proofs.Tryz
set_option maxRecDepth 100000
set_option maxHeartbeats 40000000
attribute [local irreducible] IntKind.wrap pEq
abbrev trS (a b:Nat) (l:List Int) (s:Int) (n:Nat) (f:Nat × Nat):Option (List (Nat × Nat)) :=nrT (tp a b l) n (letsP s) f.1 f.2
theorem trn_ok {a b:Nat} (l:List Int) (s:Int) (ha:4 ≤ a) (hb:b ≤ 60) {p:Nat} (hp:p ≤ 3) {fs:List (Nat × Nat)} (hfb:∀ f,f ∈ fs → f.1 ≤ 50000 ∧ 1 ≤ f.2 ∧ f.2 ≤ 50000):Trn (trS a b l s) p fs :=by
 refine ⟨hfb,fun n f u hn hP hf e => ?_⟩
 have h4:∀ n,tp a b l n → 4 ≤ n ∧ n ≤ 60 :=fun n h => ⟨Nat.le_trans ha (tp_ge h).1,(tp_le (by omega) hb h).2⟩
 have hB :=nrT_bo (tq :=tp a b l) (fun n h => ⟨by have :=(h4 n h).1;omega,(h4 n h).2⟩) (lets :=letsP s) (N :=f.1) (D :=f.2) (hfb f hf).2.1 n
 rw [show nrT (tp a b l) n (letsP s) f.1 f.2 = some u from e] at hB
 have hR :=hB.1
 have hl:1 ≤ u.length ∧ u.length ≤ 3 :=⟨hR.1.1,by have :=hR.1.2;omega⟩
 exact ⟨hl.1,hl.2,tv_zp h4 hl hR.2.2.all⟩
theorem rnds_mem {g:Nat → List Sh} {x:Sh}:∀ {k:Nat},x ∈ rnds g k ↔ ∃ n,1 ≤ n ∧ n ≤ k ∧ x ∈ g n
 | 0 => ⟨fun h => absurd h List.not_mem_nil,fun ⟨n,h1,h2,_⟩ => by omega⟩
 |k + 1 => by
  rw [rnds,List.mem_append,rnds_mem (k :=k)]
  constructor
  ·rintro (⟨n,h1,h2,h3⟩ | h)
   ·exact ⟨n,h1,by omega,h3⟩
   ·exact ⟨k + 1,by omega,Nat.le_refl _,h⟩
  ·rintro ⟨n,h1,h2,h3⟩
   by_cases e:n = k + 1
   ·subst e;exact .inr h3
   ·exact .inl ⟨n,h1,by omega,h3⟩
theorem srch_shs {tr:Nat → Nat × Nat → Option (List (Nat × Nat))} {P q t:Nat} {fs:List (Nat × Nat)} (ht:Trn tr P fs):∀ (r:List (Nat × Nat)) (now:Sh),(∀ f,f ∈ r → f ∈ fs) → (∀ u,u ∈ now.1 → 1 ≤ u.length ∧ u.length ≤ 3) →
  ∀ x,x ∈ srch tr P q t r now → x.1.length = now.1.length + r.length ∧ ∀ u,u ∈ x.1 → 1 ≤ u.length ∧ u.length ≤ 3
 | [],now,_,hu,x,hx => by
  rw [srch] at hx
  split at hx
  ·cases hx
  ·rw [List.mem_singleton.1 hx];exact ⟨rfl,hu⟩
 |f :: r,now,hr,hu,x,hx => by
  rw [srch] at hx
  split at hx
  ·cases hx
  ·obtain ⟨n,h1,h2,h3⟩ :=rnds_mem.1 hx
   cases e:tr n f with
   |none => rw [e] at h3;cases h3
   |some u =>
    rw [e] at h3
    have hT :=ht.tv n f u h1 h2 (hr f List.mem_cons_self) e
    have :=srch_shs ht r _ (fun g hg => hr g (List.mem_cons_of_mem _ hg)) (fun w hw => by
     rcases List.mem_append.1 hw with z | z
     ·exact hu w z
     ·rw [List.mem_singleton.1 z];exact ⟨hT.1,hT.2.1⟩) x h3
    refine ⟨?_,this.2⟩
    have e1 :=this.1
    rw [List.length_append] at e1
    simp only [List.length_cons,List.length_nil] at e1 ⊢
    omega
theorem clone_pure (u:List (Nat × Nat)) (hu:u ≠ []) (hl:u.length ≤ 3):Pure prog 113 [pv (zp u)] (pv (zp u)) :=by
 rcases u with _ | ⟨g1,_ | ⟨g2,_ | ⟨g3,_ | ⟨g4,r⟩⟩⟩⟩
 ·exact absurd rfl hu
 rotate_left 3
 ·simp at hl
 all_goals
  refine zA fun S q pc hS hq hC hE => ?_
  conv=>whnf
  refine sym_eq hq false rfl ?_
  conv=>whnf
  exact ⟨_,rfl,(WkV.own _ _ _).wk⟩
theorem bstSh_mem:∀ (l:List Sh),l ≠ [] → bstSh l ∈ l :=by
 intro l hl
 cases l with
 |nil => exact absurd rfl hl
 |cons x r =>
  suffices ∀ (r:List Sh) (o:Sh),r.foldl (fun o y => if ordS y o < 0 then y else o) o = o ∨ r.foldl (fun o y => if ordS y o < 0 then y else o) o ∈ r by
   rcases this r x with h | h
   ·show List.foldl _ x r ∈ _
    rw [h];exact List.mem_cons_self
   ·exact List.mem_cons_of_mem _ h
  intro r
  induction r with
  |nil => exact fun o => .inl rfl
  |cons y r ih =>
   intro o
   rw [List.foldl_cons]
   rcases ih (if ordS y o < 0 then y else o) with h | h
   ·rw [h]
    split
    ·exact .inr List.mem_cons_self
    ·exact .inl rfl
   ·exact .inr (List.mem_cons_of_mem _ h)
theorem wkl_shv:∀ l:List Sh,wkl (shv l) = shv l
 | [] => by simp only [shv,wkl]
 |x :: r => by simp only [shv,wkl,wk,wkl_tls,wkl_shv r]
theorem bestS_W (l:List Sh) (c:Nat) (hne:l ≠ []) (hl:l.length < 4611686018427387904) (hb:∀ x,x ∈ l → ShS x) :
  Pure prog 108 (wkl [.lst (shv l) l.length (.ch c),.func (.func 109) [] []]) (.tup [shA (bstSh l),.bool true]) :=by
 have :=bestS_pure l hne hl hb
 rwa [show wkl [.lst (shv l) l.length (.ch c),.func (.func 109) [] []] = [.lst (shv l) l.length .no,.func (.func 109) [] []] by simp only [wkl,wk,wkl_shv]]
def shO:List Sh → AV
 | [] => .tup [.nils,iv 0,iv 5]
 |x :: r => .tup [.lst (tls (bstSh (x :: r)).1) (bstSh (x :: r)).1.length .no,nv (bstSh (x :: r)).2.1,iv 0]
theorem shO_no (L:List Sh):Live noL (shO L) :=by
 cases L with
 |nil => exact ⟨trivial,trivial,trivial,trivial⟩
 |cons x r => exact ⟨⟨tls_no _,fun _ e => nomatch e⟩,trivial,trivial,trivial⟩
theorem take_gq2 (l:List (Nat × Nat)) {i:Nat} (h:i < l.length):l.take (i + 1) = l.take i ++ [gq l i] :=by
 rw [List.take_add_one];simp [gq,List.getD,h]
end
end Go.Abs.Seat

/-! Sharing pairs: the map of known trains. -/
namespace Go.Abs.Seat
noncomputable section
open Go Go.Abs Go.Proofs.Tryz
set_option maxRecDepth 100000
set_option maxHeartbeats 40000000
attribute [local irreducible] IntKind.wrap pEq
theorem beqN (n m:Nat):(Int.ofNat n == Int.ofNat m) = decide (n = m) :=by
 by_cases h:n = m
 ·subst h;rw [zT rfl];exact beq_self_eq_true _
 ·rw [zF h];exact beq_eq_false_iff_ne.2 fun e => h (Int.ofNat.inj e)
theorem aeq_i7 (n m:Nat):aeqC prog seatT 7 3 (nv n) (nv m) = some (decide (n = m)) :=by
 rw [← beqN];rfl
theorem aeq_i6 (n m:Nat):aeqC prog seatT 6 3 (nv n) (nv m) = some (decide (n = m)) :=by
 rw [← beqN];rfl
theorem aeq_f7 (a b c d:Nat):aeqC prog seatT 7 24 (.agg [nv a,nv b]) (.agg [nv c,nv d]) = some (decide (a = c ∧ b = d)) :=by
 have h1:prog.stoodInHeld 24 = false :=by kernel_rfl
 conv => lhs;whnf
 rw [h1]
 conv => lhs;whnf
 change (match aeqC prog seatT 6 3 (nv a) (nv c) with | some true => _ | some false => _ | none => _) = _
 rw [aeq_i6]
 by_cases h:a = c
 ·rw [zT h]
  conv => lhs;whnf
  change (match aeqC prog seatT 6 3 (nv b) (nv d) with | some true => _ | some false => _ | none => _) = _
  rw [aeq_i6]
  by_cases h2:b = d
  ·rw [zT h2,zT ⟨h,h2⟩];rfl
  ·rw [zF h2,zF fun z => h2 z.2]
 ·rw [zF h,zF fun z => h z.1]
theorem aeq_key (n a b m c d:Nat):aeqC prog seatT 8 134 (.agg [nv n,nv a,nv b]) (.agg [nv m,nv c,nv d]) = some (decide (n = m ∧ a = c ∧ b = d)) :=by
 have h0:prog.stoodInHeld 134 = false :=by kernel_rfl
 conv => lhs;whnf
 rw [h0]
 conv => lhs;whnf
 change (match aeqC prog seatT 7 3 (nv n) (nv m) with | some true => _ | some false => _ | none => _) = _
 rw [aeq_i7]
 by_cases h:n = m
 ·rw [zT h]
  conv => lhs;whnf
  change (match aeqC prog seatT 7 24 (.agg [nv a,nv b]) (.agg [nv c,nv d]) with | some true => _ | some false => _ | none => _) = _
  rw [aeq_f7]
  by_cases h2:a = c ∧ b = d
  ·rw [zT h2,zT ⟨h,h2⟩];rfl
  ·rw [zF h2,zF fun z => h2 z.2]
 ·rw [zF h,zF fun z => h z.1]
abbrev Ent :=(Nat × Nat × Nat) × List (Nat × Nat)
abbrev keyA (k:Nat × Nat × Nat):AV :=.agg [nv k.1,nv k.2.1,nv k.2.2]
def mbe:List Ent → List (AV × AV)
 | [] => []
 |x :: r => (keyA x.1,pv (zp x.2)) :: mbe r
theorem find_cons (k:Nat × Nat × Nat) (x:Ent) (l:List Ent) (i:Nat):findA prog seatT 134 (keyA k) (mbe (x :: l)) i = if k = x.1 then some (some (i,pv (zp x.2))) else findA prog seatT 134 (keyA k) (mbe l) (i + 1) :=by
 rw [mbe,findA,aeq_key]
 by_cases h:k = x.1
 ·rw [if_pos h,zT (by subst h;exact ⟨rfl,rfl,rfl⟩)]
 ·rw [if_neg h,zF fun z => h (Prod.ext z.1 (Prod.ext z.2.1 z.2.2))]
theorem find_no (k:Nat × Nat × Nat):∀ (l:List Ent) (i:Nat),(∀ u,(k,u) ∉ l) → findA prog seatT 134 (keyA k) (mbe l) i = some none
 | [],_,_ => rfl
 |x :: l,i,h => by
  rw [find_cons,if_neg fun e => h x.2 (by subst e;exact List.mem_cons_self),find_no k l (i + 1) fun u hu => h u (List.mem_cons_of_mem _ hu)]
theorem find_yes (k:Nat × Nat × Nat) (u:List (Nat × Nat)):∀ (l:List Ent) (i:Nat),(k,u) ∈ l → (∀ w,(k,w) ∈ l → w = u) → ∃ j,findA prog seatT 134 (keyA k) (mbe l) i = some (some (i + j,pv (zp u))) ∧ (mbe l)[j]? = some (keyA k,pv (zp u))
 |x :: l,i,h,hu => by
  rw [find_cons]
  by_cases e:k = x.1
  ·have e2:x.2 = u :=hu x.2 (by rw [e];exact List.mem_cons_self)
   rw [if_pos e]
   exact ⟨0,by rw [e2];rfl,by rw [e,← e2];rfl⟩
  ·rw [if_neg e]
   have hm:(k,u) ∈ l :=by
    rcases List.mem_cons.1 h with z | z
    ·exact absurd (by rw [← z]) e
    ·exact z
   obtain ⟨j,h1,h2⟩ :=find_yes k u l (i + 1) hm fun w hw => hu w (List.mem_cons_of_mem _ hw)
   exact ⟨j + 1,by rw [h1,show i + 1 + j = i + (j + 1) by omega],h2⟩
noncomputable def insE (tr:Nat → Nat × Nat → Option (List (Nat × Nat))) (n:Nat) (f:Nat × Nat) (l:List Ent):List Ent :=
 match tr n f with
 |none => l
 |some u => @ite _ (((n,f),u) ∈ l) (Classical.propDecidable _) l (l ++ [((n,f),u)])
noncomputable def insF (tr:Nat → Nat × Nat → Option (List (Nat × Nat))) (n:Nat):List (Nat × Nat) → List Ent → List Ent
 | [],l => l
 |f :: r,l => insF tr n r (insE tr n f l)
noncomputable def insN (tr:Nat → Nat × Nat → Option (List (Nat × Nat))) (fs:List (Nat × Nat)):Nat → List Ent
 | 0 => []
 |n + 1 => insF tr (n + 1) fs (insN tr fs n)
def EntOk (tr:Nat → Nat × Nat → Option (List (Nat × Nat))) (l:List Ent):Prop :=∀ n f u,((n,f),u) ∈ l → tr n f = some u
theorem insE_ok {tr:Nat → Nat × Nat → Option (List (Nat × Nat))} {n:Nat} {f:Nat × Nat} {l:List Ent} (h:EntOk tr l):EntOk tr (insE tr n f l) ∧ (∀ x,x ∈ l → x ∈ insE tr n f l) ∧ ∀ u,tr n f = some u → ((n,f),u) ∈ insE tr n f l :=by
 unfold insE
 cases e:tr n f with
 |none => exact ⟨h,fun _ z => z,fun _ z => nomatch z⟩
 |some u =>
  by_cases hm:((n,f),u) ∈ l
  ·simp only [if_pos hm]
   exact ⟨h,fun _ z => z,fun w z => by injection z with z;rw [← z];exact hm⟩
  ·simp only [if_neg hm]
   refine ⟨fun m g w hw => ?_,fun x z => List.mem_append_left _ z,fun w z => by injection z with z;rw [← z];exact List.mem_append_right _ List.mem_cons_self⟩
   rcases List.mem_append.1 hw with z | z
   ·exact h m g w z
   ·have :=List.mem_singleton.1 z
    injection this with z1 z2
    injection z1 with z3 z4
    rw [z3,z4,z2];exact e
theorem insF_ok {tr:Nat → Nat × Nat → Option (List (Nat × Nat))} {n:Nat}:∀ (fs:List (Nat × Nat)) {l:List Ent},EntOk tr l → EntOk tr (insF tr n fs l) ∧ (∀ x,x ∈ l → x ∈ insF tr n fs l) ∧ ∀ f u,f ∈ fs → tr n f = some u → ((n,f),u) ∈ insF tr n fs l
 | [],l,h => ⟨h,fun _ z => z,fun _ _ z => (nomatch z)⟩
 |f :: r,l,h => by
  have h1 :=insE_ok (n :=n) (f :=f) h
  have h2 :=insF_ok (n :=n) r h1.1
  refine ⟨h2.1,fun x z => h2.2.1 x (h1.2.1 x z),fun g u hg hu => ?_⟩
  rcases List.mem_cons.1 hg with z | z
  ·subst z;exact h2.2.1 _ (h1.2.2 u hu)
  ·exact h2.2.2 g u z hu
theorem insN_ok {tr:Nat → Nat × Nat → Option (List (Nat × Nat))} (fs:List (Nat × Nat)):∀ P,EntOk tr (insN tr fs P) ∧ ∀ n f u,1 ≤ n → n ≤ P → f ∈ fs → tr n f = some u → ((n,f),u) ∈ insN tr fs P
 | 0 => ⟨fun _ _ _ z => (nomatch z),fun n _ _ h1 h2 => by omega⟩
 |P + 1 => by
  have h1 :=insN_ok (tr :=tr) fs P
  have h2 :=insF_ok (n :=P + 1) fs h1.1
  refine ⟨h2.1,fun n f u hn hP hf hu => ?_⟩
  by_cases e:n = P + 1
  ·subst e;exact h2.2.2 f u hf hu
  ·exact h2.2.1 _ (h1.2 n f u hn (by omega) hf hu)
theorem knw_insN {tr:Nat → Nat × Nat → Option (List (Nat × Nat))} (fs:List (Nat × Nat)) (P:Nat):Knw tr P fs (mbe (insN tr fs P)) :=by
 have h :=insN_ok (tr :=tr) fs P
 refine ⟨fun n f h1 h2 hf e => find_no (n,f) _ 0 fun u hu => ?_,fun n f u h1 h2 hf e => ?_⟩
 ·have :=h.1 n f u hu
  rw [e] at this;cases this
 ·obtain ⟨j,z,_⟩ :=find_yes (n,f) u (insN tr fs P) 0 (h.2 n f u h1 h2 hf e) fun w hw => by
   have :=h.1 n f w hw
   rw [e] at this;injection this with this;exact this.symm
  exact ⟨_,z⟩
end
end Go.Abs.Seat

/-! Sharing pairs: what is refused. -/
namespace Go.Abs.Seat
noncomputable section
open Go Go.Abs Go.Proofs.Tryz
set_option maxRecDepth 100000
set_option maxHeartbeats 40000000
attribute [local irreducible] IntKind.wrap pEq
def gI (l:List (Int × Int)) (i:Nat):Int × Int :=l.getD i (0,0)
theorem drop_gI (l:List (Int × Int)) {i:Nat} (h:i < l.length):l.drop i = gI l i :: l.drop (i + 1) :=by
 rw [List.drop_eq_getElem_cons h]
 simp [gI,List.getD,h]
theorem tak_gI (l:List (Int × Int)) {i:Nat} (h:i < l.length):takeN 2 (dropN (i * 2) (flat l)) = some [iv (gI l i).1,iv (gI l i).2] :=by
 rw [flat_drop,drop_gI l h]
 rfl
def allF (l:List (Int × Int)):Prop :=∀ p,p ∈ l → isF p.1 p.2
instance (l:List (Int × Int)):Decidable (allF l) :=Classical.propDecidable _
theorem allF_cons {x:Int × Int} {r:List (Int × Int)}:allF (x :: r) ↔ isF x.1 x.2 ∧ allF r :=
 ⟨fun h => ⟨h _ List.mem_cons_self,fun p hp => h p (List.mem_cons_of_mem _ hp)⟩,fun h p hp => by
  rcases List.mem_cons.1 hp with e | e
  ·subst e;exact h.1
  ·exact h.2 p e⟩
def fbadF:List (Int × Int) → Int → Int
 | [],_ => -1
 |x :: r,i => if isF x.1 x.2 then fbadF r (i + 1) else i
theorem fbadF_ge:∀ (l:List (Int × Int)) (i:Int),0 ≤ i → decide (fbadF l i ≥ 0) = !(decide (allF l))
 | [],i,_ => by
  rw [zT (show allF [] from fun _ h => absurd h List.not_mem_nil)]
  rfl
 |x :: r,i,h => by
  rw [fbadF]
  by_cases hx:isF x.1 x.2
  ·rw [if_pos hx,fbadF_ge r (i + 1) (by omega)]
   by_cases hr:allF r
   ·rw [zT hr,zT (allF_cons.2 ⟨hx,hr⟩)]
   ·rw [zF hr,zF fun k => hr (allF_cons.1 k).2]
  ·rw [if_neg hx,zT h,zF fun k => hx (allF_cons.1 k).1];rfl
theorem isBadF_pure (a b:Int):Pure prog 105 [fv a b] (.bool (!(decide (isF a b)))) :=by
 refine zA fun S q pc hS hq hC hE => ?_
 conv=>whnf
 refine sym_pure hC (isFraction_pure a b) ?_
 conv=>whnf
 exact ⟨_,rfl,Wk.refl _⟩
theorem idxBadF_pure (l:List (Int × Int)) (hl:l.length < 4611686018427387904):Pure prog 140 [pv l,.func (.func 105) [] []] (iv (fbadF l 0)) :=by
 have ll :=flat_no l
 refine zA fun S q pc hS hq hC hE => ?_
 conv=>whnf
 refine sym_loop hE hS (A :=Nat) [0,1,7] (fun i => [(8,nv i)]) (fun _ => []) (fun i => i ≤ l.length ∧ fbadF (l.drop i) i = fbadF l 0) (fun i => l.length - i) 0 rfl rfl zD ⟨Nat.zero_le _,rfl⟩ ?_
 intro i ⟨hi,he⟩
 conv=>whnf
 by_cases h:i < l.length
 ·refine bool_true ((show decide (Int.ofNat i < (l.length:Int)) = true from zT (show (i:Int) < (l.length:Int) by omega))) ?_
  conv=>whnf
  refine bool_true (inR_t (show i < l.length by omega)) ?_
  conv=>whnf
  refine plan_as (takP (tak_gI l h)) ?_
  refine sym_pure hC (isBadF_pure (gI l i).1 (gI l i).2) ?_
  conv=>whnf
  rw [drop_gI l h,fbadF] at he
  by_cases h1:isF (gI l i).1 (gI l i).2
  ·rw [zT h1]
   rw [if_pos h1] at he
   conv=>whnf
   rw [show IntKind.i64.wrap (Int.ofNat i + 1) = Int.ofNat (i + 1) from wrapN (m :=i + 1) (by omega)]
   exact ⟨i + 1,⟨h,he⟩,by omega,zD⟩
  ·rw [zF h1]
   rw [if_neg h1] at he
   conv=>whnf
   rw [← he]
   exact ⟨_,rfl,Wk.refl _⟩
 ·refine bool_false (zF (show ¬ (i:Int) < (l.length:Int) by omega)) ?_
  conv=>whnf
  rw [List.drop_eq_nil_of_le (by omega),fbadF] at he
  rw [← he]
  exact ⟨_,rfl,Wk.refl _⟩
theorem hasBadF_pure (l:List (Int × Int)) (hl:l.length < 4611686018427387904) {r:Bool} (hr:r = true ↔ ¬ allF l):Pure prog 104 [pv l,.func (.func 105) [] []] (.bool r) :=by
 rw [show r = !(decide (allF l)) by rw [Bool.eq_iff_iff,hr];simp]
 refine zA fun S q pc hS hq hC hE => ?_
 conv=>whnf
 refine sym_pure hC (idxBadF_pure l hl) ?_
 conv=>whnf
 rw [fbadF_ge l 0 (Int.le_refl _)]
 exact ⟨_,rfl,Wk.refl _⟩
def shOk (a b p s:Int) (l:List Int) (fs:List (Int × Int)) (q t:Int):Prop :=rOk a b p s l ∧ (1 ≤ fs.length ∧ fs.length ≤ 3) ∧ allF fs ∧ (1 ≤ q ∧ q ≤ 9) ∧ 0 ≤ t ∧ t ≤ 10000
theorem inX {x a b:Int} {r:Bool} (h:r = true ↔ a ≤ x ∧ x ≤ b):Pure prog 103 [iv x,iv a,iv b] (.bool r) :=by
 have :=in_pure x a b
 rwa [show decide (a ≤ x ∧ x ≤ b) = r by rw [Bool.eq_iff_iff,decide_eq_true_iff,h]] at this
end
end Go.Abs.Seat

/-! Sharing pairs: what it is prepared with, and the map's updates. -/
namespace Go.Abs.Seat
noncomputable section
open Go Go.Abs Go.Proofs.Tryz
set_option maxRecDepth 100000
set_option maxHeartbeats 40000000
attribute [local irreducible] IntKind.wrap pEq
abbrev wgA (a b n s:Int) (N T:AV) (S:List AV) (k:Nat) (M:List AV) (j:Nat):AV :=.agg [iv a,iv b,iv n,iv s,N,T,.lst S k .no,.lst M j .no]
theorem prep_any {N:AV} {l:List Int} (hN:IL N l) (hl:l.length < 4611686018427387904) (a b:Nat) (ha:4 ≤ a) (hab:a ≤ b) (hb:b ≤ 60) (s:Int) (hs:1 ≤ s ∧ s ≤ 3) (n:Nat) (hn:1 ≤ n ∧ n ≤ 3) :
  ∃ (T:AV) (S:List AV) (k:Nat) (M:List AV) (j:Nat),(T = .nils ∨ ∃ (t:List AV) (i:Nat),T = .lst t i .no ∧ Lives noL t) ∧ Lives noL S ∧ Lives noL M ∧
   Pure prog 83 [rv (Int.ofNat a) (Int.ofNat b) (Int.ofNat n) s N] (ruv (Int.ofNat a) (Int.ofNat b) (Int.ofNat n) s N T) ∧
   Pure prog 93 [ruv (Int.ofNat a) (Int.ofNat b) (Int.ofNat n) s N T] (wgA (Int.ofNat a) (Int.ofNat b) (Int.ofNat n) s N T S k M j) ∧
   ∀ x y:Nat,x ≤ 50000 → 1 ≤ y ∧ y ≤ 50000 → Pure prog 94 [wgA (Int.ofNat a) (Int.ofNat b) (Int.ofNat n) s N T S k M j,fv (Int.ofNat x) (Int.ofNat y)] (fV (nrT (tp a b l) n (letsP s) x y)) :=by
 have pu :=ruled_pure hN hl a b hab hb (Int.ofNat n) s
 rw [← tL_zl l hab] at pu
 by_cases hT:tL a b l = []
 ·rw [hT] at pu
  refine ⟨.nils,eS n,n + 1,prE n,n + 1,.inl rfl,eS_no n,prM_no _ n,pu,prepE01 hN a b s n hn,fun x y hx hy => ?_⟩
  have en:nrT (tp a b l) n (letsP s) x y = none :=nrT_none fun z hz => by
   rw [← tL_mem (l :=l),hT] at hz
   cases hz
  rw [en]
  exact nearestE_pure hN (Int.ofNat a) (Int.ofNat b) s n hn.2 (Int.ofNat x) (Int.ofNat y)
 ·have h60:∀ x,x ∈ tL a b l → 1 ≤ x ∧ x ≤ 60 :=fun x hx => tp_le (by omega) hb ((lstP_mem _ _ _).1 hx).2
  have hTl :=tL_len l hab ha hb
  have hsr :=lstP_srt (tp a b l) (b + 1)
  have eT:sv (zl (tL a b l)) = nl (zl (tL a b l)) :=by
   rcases sv_cases (zl (tL a b l)) with ⟨z,_⟩ | z
   ·exact absurd (List.map_eq_nil_iff.1 z) hT
   ·exact z
  rw [eT] at pu
  have pp :=prep01 hN a b s n hn (tL a b l) hT (fun x hx => (h60 x hx).2) hTl
  refine ⟨nl (zl (tL a b l)),prS (fun n => n ∈ tL a b l) n,_,prM (fun n => n ∈ tL a b l) n,_,.inr ⟨_,_,rfl,ivs_no _⟩,prS_no _ n,prM_no _ n,pu,pp,fun x y hx hy => ?_⟩
  have pn :=nearest_pure hN (Int.ofNat a) (Int.ofNat b) s hs n hn (tL a b l) hT hsr h60 hTl x y hx hy
  rw [← tL_mem]
  exact pn
theorem insF_snoc (tr:Nat → Nat × Nat → Option (List (Nat × Nat))) (n:Nat):∀ (fs:List (Nat × Nat)) (f:Nat × Nat) (l:List Ent),insF tr n (fs ++ [f]) l = insE tr n f (insF tr n fs l)
 | [],_,_ => rfl
 |x :: r,f,l => by rw [List.cons_append,insF,insF_snoc tr n r f];rfl
theorem mbe_bd (m:Nat):∀ l:List Ent,BdE m (mbe l)
 | [] => trivial
 |x :: l => ⟨Nat.zero_le _,bdl_no (flat_no (zp x.2)),mbe_bd m l⟩
theorem snoc_mbe (k:Nat × Nat × Nat) (u:List (Nat × Nat)):∀ l:List Ent,snocE (mbe l) (keyA k,pv (zp u)) = mbe (l ++ [(k,u)])
 | [] => rfl
 |x :: l => by rw [mbe,snocE,snoc_mbe k u l];rfl
theorem keyAt_get:∀ (l:List Ent) (i:Nat) {p:AV × AV},(mbe l)[i]? = some p → keyAt (mbe l) i = some p.1 ∧ setE (mbe l) i p = mbe l
 | [],i,p,h => by cases i <;> cases h
 |x :: l,0,p,h => by injection h with h;subst h;exact ⟨rfl,rfl⟩
 |x :: l,i + 1,p,h => by
  have :=keyAt_get l i (p :=p) h
  exact ⟨this.1,by rw [mbe,setE,this.2]⟩
theorem same_key (k:Nat × Nat × Nat):sameA 8 (keyA k) (keyA k) = true :=by
 simp [sameA,sameAll]
theorem bd_ent (u:List (Nat × Nat)) (k:Nat × Nat × Nat):Nat.max (bd (keyA k)) (bd (pv (zp u))) = 0 :=by
 have h1:bd (keyA k) = 0 :=rfl
 rw [h1,bd_no _ (pv_no _)]
 rfl
theorem upd_n {o:Nat} {k:Nat × Nat × Nat} {u:List (Nat × Nat)} {l:List Ent} (h:∀ u,(k,u) ∉ l) :
  (match findA prog seatT 134 (keyA k) (mbe l) 0 with
   |some (some (i,_)) => match keyAt (mbe l) i with
    |some k' => Plan.chk (sameA 8 k' (keyA k)) (.seto o (.mapo (setE (mbe l) i (keyA k,pv (zp u)))) (Nat.max (bd (keyA k)) (bd (pv (zp u)))) .skip)
    |none => .fail
   |some none => .seto o (.mapo (snocE (mbe l) (keyA k,pv (zp u)))) (Nat.max (bd (keyA k)) (bd (pv (zp u)))) .skip
   |none => .fail) = .seto o (.mapo (mbe (l ++ [(k,u)]))) 0 .skip :=by
 rw [find_no k l 0 h,bd_ent,snoc_mbe]
theorem upd_y {o:Nat} {k:Nat × Nat × Nat} {u:List (Nat × Nat)} {l:List Ent} (h:(k,u) ∈ l) (hu:∀ w,(k,w) ∈ l → w = u) :
  (match findA prog seatT 134 (keyA k) (mbe l) 0 with
   |some (some (i,_)) => match keyAt (mbe l) i with
    |some k' => Plan.chk (sameA 8 k' (keyA k)) (.seto o (.mapo (setE (mbe l) i (keyA k,pv (zp u)))) (Nat.max (bd (keyA k)) (bd (pv (zp u)))) .skip)
    |none => .fail
   |some none => .seto o (.mapo (snocE (mbe l) (keyA k,pv (zp u)))) (Nat.max (bd (keyA k)) (bd (pv (zp u)))) .skip
   |none => .fail) = .chk true (.seto o (.mapo (mbe l)) 0 .skip) :=by
 obtain ⟨j,h1,h2⟩ :=find_yes k u l 0 h hu
 have h3 :=keyAt_get l j h2
 rw [h1,bd_ent]
 simp only [Nat.zero_add,h3.1,h3.2,same_key]
end
end Go.Abs.Seat
