/-
  The program's nearest train, whatever the rule.
  Trains of a rule.
  Trains of a rule: the program's.
  Trains of a rule, of whatever lists.
  The law TrainFits.
  The nearest train: what both sides return, of whatever rules and fractions.
  Sharing pairs: facts of what is found.
-/
import Derived.Test.YtpjclnoehlflcaaGreatDoorT60
import Derived.Test.YtpjclnoehlflcaaGreatDoorT53
import Derived.Test.YtpjclnoehlflcaaGreatDoorT59
import Derived.Test.YtpjclnoehlflcaaGreatDoorU9
import Derived.Test.YtpjclnoehlflcaaGreatDoorU8
import Derived.Test.YtpjclnoehlflcaaGreatDoorU7
import Derived.Test.YtpjclnoehlflcaaGreatDoorU14
namespace Go.Abs.Seat
noncomputable section
open Go Go.Abs Go.Proofs.Tryz
set_option maxRecDepth 100000
set_option maxHeartbeats 40000000
attribute [local irreducible] IntKind.wrap pEq
theorem qqm:∀ p,(eS p).length = p + 1
 | 0 => rfl
 |p + 1 => by rw [eS,List.length_append,qqm p];rfl
theorem qyd:∀ (p k:Nat),k < p → nth (eS p) (k + 1) = some .nils
 |p + 1,k,h => by
  rw [qe0,eS]
  by_cases e:k = p
  ·subst e
   rw [List.getElem?_append_right (by rw [qqm];omega),qqm,Nat.sub_self]
   rfl
  ·rw [List.getElem?_append_left (by rw [qqm];omega),← qe0]
   exact qyd p k (by omega)
theorem qrn {N:AV} {l:List Int} (hN:IL N l) (a b s:Int) (p k:Nat) (hk:k < p) (n d:Int):Pure prog 134 [whE a b p s N,nv (k + 1),fv n d] (.tup [.nils,fv 0 0]) :=by
 have lN :=hN.no
 have lE :=qsc (a :=a) (b :=b) (s :=s) (p :=p) lN
 have lS :=qrz p
 unfold whE at lE ⊢
 rcases hN.cs with rfl | rfl
 all_goals
  refine zA fun S q pc hS hq hC hE => ?_
  conv=>whnf
  refine qaa (qaf (show k + 1 < p + 1 by omega)) ?_
  conv=>whnf
  refine qac (nthP (show nth (eS p) ((k + 1) * 1) = some .nils by rw [Nat.mul_one];exact qyd p k hk)) ?_
  conv=>whnf
  refine qae hE hS ?_
  conv=>whnf
  refine zd hS ?_
  conv=>whnf
  exact ⟨_,rfl,Wk.refl _⟩
theorem qla {N:AV} {l:List Int} (hN:IL N l) (a b s:Int) (p:Nat) (hp:p ≤ 3) (n d:Int):Pure prog 94 [whE a b p s N,fv n d] (.tup [.nils,.bool false]) :=by
 have lN :=hN.no
 have lE :=qsc (a :=a) (b :=b) (s :=s) (p :=p) lN
 have lS :=qrz p
 have lP:Lives noL (prE p) :=qe5 _ p
 have pn :=fun k (hk:k < p) => qrn hN a b s p k hk n d
 unfold whE at lE pn ⊢
 rcases hN.cs with rfl | rfl
 all_goals
  refine zA fun S q pc hS hq hC hE => ?_
  conv=>whnf
  refine qbe hE hS (A :=Nat) [2,3] (fun k => [(6,.nils),(7,nv (k + 1))]) (fun _ => []) (fun _ => []) (fun k => k ≤ p) (fun k => p - k) 0 (Nat.le_of_ble_eq_true rfl) rfl zG2 (Nat.zero_le _) ?_
  intro k hk M hM
  obtain rfl:M = 2 :=hM
  have hi1:k < p → IntKind.i64.wrap (Int.ofNat (k + 1) + 1) = Int.ofNat (k + 1 + 1) :=fun h => qa2 (m :=k + 1 + 1) (by omega)
  conv=>whnf
  by_cases hk2:k < p
  ·have c1:decide (Int.ofNat (k + 1) ≤ Int.ofNat p) = true :=zT (by show ((k + 1:Nat):Int) ≤ (p:Int);omega)
   have pk :=pn k hk2
   repeat ((first
    |refine qam c1 ?_
    |refine qal c1 ?_
    |refine qac (qah c1) ?_
    |refine qaa c1 ?_
    |refine qab hC (pk) ?_
    |refine zd hS ?_);conv=>whnf)
   exact ⟨k + 1,hk2,by omega,Nat.le_refl _,(by refine ⟨rfl,rfl,rfl,rfl,rfl,rfl,2,rfl,?_,?_⟩ <;> repeat' (first | exact ⟨_,rfl,WkV.int (hi1 hk2)⟩ | exact zZ | apply And.intro))⟩
  ·have c1:decide (Int.ofNat (k + 1) ≤ Int.ofNat p) = false :=zF (by show ¬ ((k + 1:Nat):Int) ≤ (p:Int);omega)
   repeat ((first
    |refine qaz c1 ?_
    |refine qa0 c1 ?_
    |refine qac (qar c1) ?_
    |refine qad c1 ?_
    |refine zd hS ?_);conv=>whnf)
   refine .inl ?_
   conv=>whnf
   repeat ((first
    |refine qaz c1 ?_
    |refine qa0 c1 ?_
    |refine qac (qar c1) ?_
    |refine qad c1 ?_
    |refine qab hC (qj9) ?_
    |refine zd hS ?_);conv=>whnf)
   exact ⟨_,rfl,Wk.refl _⟩
theorem qyj (l:List Nat) (q:Nat):zl (l ++ [q]) = zl l ++ [Int.ofNat q] :=by
 unfold zl
 rw [List.map_append];rfl
theorem qp7 (a b:Nat) (l:List Int):∀ k,k ≤ b + 1 - a → a ≤ b → zl (lstP (tp a b l) (a + k)) = qcd l a k
 | 0,_,_ => by
  have:lstP (tp a b l) (a + 0) = [] :=by
   rw [List.eq_nil_iff_forall_not_mem]
   intro x hx
   have h :=(qbc _ _ _).1 hx
   have :=qh5 h.2
   omega
  rw [this];rfl
 |k + 1,hk,hab => by
  have ih :=qp7 a b l k (by omega) hab
  rw [show a + (k + 1) = a + k + 1 by omega,show lstP (tp a b l) (a + k + 1) = @ite _ (tp a b l (a + k)) (Classical.propDecidable _) (lstP (tp a b l) (a + k) ++ [a + k]) (lstP (tp a b l) (a + k)) from rfl,qcd]
  by_cases h:Int.ofNat (a + k) ∈ l
  ·rw [if_pos h,if_neg (fun z:tp a b l (a + k) => z.1 h)]
   exact ih
  ·rw [if_neg h,if_pos (show tp a b l (a + k) from ⟨h,by show (a:Int) ≤ ((a + k:Nat):Int);omega,by show ((a + k:Nat):Int) ≤ (b:Int);omega⟩),qyj,ih]
abbrev tL (a b:Nat) (l:List Int):List Nat :=lstP (tp a b l) (b + 1)
theorem q0s {a b:Nat} (l:List Int) (hab:a ≤ b):zl (tL a b l) = qcd l a (b + 1 - a) :=by
 have :=qp7 a b l (b + 1 - a) (Nat.le_refl _) hab
 rwa [show a + (b + 1 - a) = b + 1 by omega] at this
theorem qxt {a b:Nat} {l:List Int}:(fun n => n ∈ tL a b l) = tp a b l :=funext fun n => propext ⟨fun h => ((qbc _ _ _).1 h).2,fun h => (qbc _ _ _).2 ⟨by have :=qh5 h;omega,h⟩⟩
theorem q0t {a b:Nat} (l:List Int) (hab:a ≤ b) (ha:4 ≤ a) (hb:b ≤ 60):(tL a b l).length ≤ 60 :=by
 have h :=congrArg List.length (q0s l hab)
 rw [qax] at h
 have :=qni l a (b + 1 - a)
 omega
theorem q0o {tq:Nat → Prop} {P:Nat} {f g:Nat → Prop} (h:∀ k,1 ≤ k → k ≤ P → (f k ↔ g k)):RT tq P f = RT tq P g :=funext fun _ => propext ⟨fun ⟨h1,h2,h3⟩ => ⟨h1,(h _ h1.1 h1.2).1 h2,h3⟩,fun ⟨h1,h2,h3⟩ => ⟨h1,(h _ h1.1 h1.2).2 h2,h3⟩⟩
theorem qwm {tq:Nat → Prop} {P:Nat} {f g:Nat → Prop} {n d:Nat} (h:∀ k,1 ≤ k → k ≤ P → (f k ↔ g k)):nrT tq P f n d = nrT tq P g n d :=by
 have e :=q0o (tq :=tq) h
 have:BO tq P f n d = BO tq P g n d :=by
  funext o
  cases o with
  |none => show (∀ t,¬ RT tq P f t) = (∀ t,¬ RT tq P g t);rw [e]
  |some t => show Bst tq P f n d t = Bst tq P g n d t;unfold Bst;rw [e]
 unfold nrT
 rw [this]
theorem qp3 {tq:Nat → Prop} {P:Nat} {f:Nat → Prop} {n d:Nat} (h:∀ x,¬ tq x):nrT tq P f n d = none :=qmn (o :=none) fun t ht => by
 have h1 :=ht.1
 have h2 :=ht.2.2.all
 cases t with
 |nil => exact absurd h1.1 (by decide)
 |cons p r => exact h _ h2.1.1
end
end Go.Abs.Seat
namespace Go.Abs.Seat
noncomputable section
open Go Go.Abs Go.Proofs.Tryz
set_option maxRecDepth 100000
set_option maxHeartbeats 40000000
attribute [local irreducible] pEq


end
end Go.Abs.Seat
namespace Go.Abs.Seat
open Go Go.Abs Go.Proofs.Tryz
set_option maxRecDepth 100000
set_option maxHeartbeats 40000000
attribute [local irreducible] IntKind.wrap pEq
def PQ (v:AV) (l:List (Int × Int)):Prop :=v = .nils ∧ l = [] ∨ v = pv l
theorem PQ.no {v:AV} {l:List (Int × Int)} (h:PQ v l):Live noL v :=by
 rcases h with ⟨rfl,_⟩ | rfl
 ·trivial
 ·exact pv_no l
theorem PQ.tr {v:AV} {l:List (Int × Int)} (h:PQ v l):(∃ x y,TV v l.length x y) ∨ TN v l.length :=by
 rcases h with ⟨rfl,rfl⟩ | rfl
 ·exact .inr qyq
 ·exact qvw l
theorem q0w {N:AV} {l:List Int} (h:IL N l) (hl:l.length < 4611686018427387904) (a b p s:Int) (hs:-9223372036854775808 ≤ s ∧ s < 9223372036854775808) :
  ∃ r,Pure prog 82 [rv a b p s N] (.bool r) ∧ Pure prog 32 [rv a b p s N] (.bool r) ∧ (r = true ↔ rOk a b p s l) :=by
 have hd :=Classical.propDecidable (rOk a b p s l)
 exact ⟨decide (rOk a b p s l),qev h hl a b p s hs decide_eq_true_iff,qrd h hl a b p s decide_eq_true_iff,decide_eq_true_iff⟩

end Go.Abs.Seat
namespace Go.Abs.Seat
noncomputable section
open Go Go.Abs Go.Proofs.Tryz
set_option maxRecDepth 100000
set_option maxHeartbeats 40000000
attribute [local irreducible] IntKind.wrap pEq
theorem q07 {tq:Nat → Prop} (h1:∀ n,tq n → 1 ≤ n ∧ n ≤ 60) {lets:Nat → Prop} {N D:Nat} (hD:1 ≤ D) (P:Nat):BO tq P lets N D (nrT tq P lets N D) :=by
 have key:∀ o,BO tq P lets N D o → BO tq P lets N D (nrT tq P lets N D) :=fun o h => by rw [qmn h];exact h
 by_cases hx:∃ n,tq n
 ·rcases qux (lets :=lets) (N :=N) h1 hx hD P with ⟨_,h⟩ | ⟨_,_,h⟩
  ·exact key _ h
  ·exact key _ h
 ·have e:nrT tq P lets N D = none :=qp3 fun n h => hx ⟨n,h⟩
  rw [e]
  intro t ht
  have h1 :=ht.1
  have h2 :=ht.2.2.all
  cases t with
  |nil => exact absurd h1.1 (by decide)
  |cons p r => exact hx ⟨_,h2.1.1⟩
abbrev trS (a b:Nat) (l:List Int) (s:Int) (n:Nat) (f:Nat × Nat):Option (List (Nat × Nat)) :=nrT (tp a b l) n (qav s) f.1 f.2
theorem qsg {a b:Nat} (l:List Int) (s:Int) (ha:4 ≤ a) (hb:b ≤ 60) {p:Nat} (hp:p ≤ 3) {fs:List (Nat × Nat)} (hfb:∀ f,f ∈ fs → f.1 ≤ 50000 ∧ 1 ≤ f.2 ∧ f.2 ≤ 50000):Trn (trS a b l s) p fs :=by
 refine ⟨hfb,fun n f u hn hP hf e => ?_⟩
 have h4:∀ n,tp a b l n → 4 ≤ n ∧ n ≤ 60 :=fun n h => ⟨Nat.le_trans ha (qh5 h).1,(qq1 (by omega) hb h).2⟩
 have hB :=q07 (tq :=tp a b l) (fun n h => ⟨by have :=(h4 n h).1;omega,(h4 n h).2⟩) (lets :=qav s) (N :=f.1) (D :=f.2) (hfb f hf).2.1 n
 rw [show nrT (tp a b l) n (qav s) f.1 f.2 = some u from e] at hB
 have hR :=hB.1
 have hl:1 ≤ u.length ∧ u.length ≤ 3 :=⟨hR.1.1,by have :=hR.1.2;omega⟩
 exact ⟨hl.1,hl.2,qyn h4 hl hR.2.2.all⟩
theorem qhs {g:Nat → List Sh} {x:Sh}:∀ {k:Nat},x ∈ rnds g k ↔ ∃ n,1 ≤ n ∧ n ≤ k ∧ x ∈ g n
 | 0 => ⟨fun h => absurd h List.not_mem_nil,fun ⟨n,h1,h2,_⟩ => by omega⟩
 |k + 1 => by
  rw [rnds,List.mem_append,qhs (k :=k)]
  constructor
  ·rintro (⟨n,h1,h2,h3⟩ | h)
   ·exact ⟨n,h1,by omega,h3⟩
   ·exact ⟨k + 1,by omega,Nat.le_refl _,h⟩
  ·rintro ⟨n,h1,h2,h3⟩
   by_cases e:n = k + 1
   ·subst e;exact .inr h3
   ·exact .inl ⟨n,h1,by omega,h3⟩
theorem qpc {tr:Nat → Nat × Nat → Option (List (Nat × Nat))} {P q t:Nat} {fs:List (Nat × Nat)} (ht:Trn tr P fs):∀ (r:List (Nat × Nat)) (now:Sh),(∀ f,f ∈ r → f ∈ fs) → (∀ u,u ∈ now.1 → 1 ≤ u.length ∧ u.length ≤ 3) →
  ∀ x,x ∈ srch tr P q t r now → x.1.length = now.1.length + r.length ∧ ∀ u,u ∈ x.1 → 1 ≤ u.length ∧ u.length ≤ 3
 | [],now,_,hu,x,hx => by
  rw [srch] at hx
  split at hx
  ·cases hx
  ·rw [List.mem_singleton.1 hx];exact ⟨rfl,hu⟩
 |f :: r,now,hr,hu,x,hx => by
  rw [srch] at hx
  split at hx
  ·cases hx
  ·obtain ⟨n,h1,h2,h3⟩ :=qhs.1 hx
   cases e:tr n f with
   |none => rw [e] at h3;cases h3
   |some u =>
    rw [e] at h3
    have hT :=ht.tv n f u h1 h2 (hr f List.mem_cons_self) e
    have :=qpc ht r _ (fun g hg => hr g (List.mem_cons_of_mem _ hg)) (fun w hw => by
     rcases List.mem_append.1 hw with z | z
     ·exact hu w z
     ·rw [List.mem_singleton.1 z];exact ⟨hT.1,hT.2.1⟩) x h3
    refine ⟨?_,this.2⟩
    have e1 :=this.1
    rw [List.length_append] at e1
    simp only [List.length_cons,List.length_nil] at e1 ⊢
    omega
theorem qdo (u:List (Nat × Nat)) (hu:u ≠ []) (hl:u.length ≤ 3):Pure prog 113 [pv (zp u)] (pv (zp u)) :=by
 rcases u with _ | ⟨g1,_ | ⟨g2,_ | ⟨g3,_ | ⟨g4,r⟩⟩⟩⟩
 ·exact absurd rfl hu
 rotate_left 3
 ·simp at hl
 all_goals
  refine zA fun S q pc hS hq hC hE => ?_
  conv=>whnf
  refine qa7 hq false rfl ?_
  conv=>whnf
  exact ⟨_,rfl,(WkV.own _ _ _).wk⟩
theorem qm9:∀ (l:List Sh),l ≠ [] → qc2 l ∈ l :=by
 intro l hl
 cases l with
 |nil => exact absurd rfl hl
 |cons x r =>
  suffices ∀ (r:List Sh) (o:Sh),r.foldl (fun o y => if ordS y o < 0 then y else o) o = o ∨ r.foldl (fun o y => if ordS y o < 0 then y else o) o ∈ r by
   rcases this r x with h | h
   ·show List.foldl _ x r ∈ _
    rw [h];exact List.mem_cons_self
   ·exact List.mem_cons_of_mem _ h
  intro r
  induction r with
  |nil => exact fun o => .inl rfl
  |cons y r ih =>
   intro o
   rw [List.foldl_cons]
   rcases ih (if ordS y o < 0 then y else o) with h | h
   ·rw [h]
    split
    ·exact .inr List.mem_cons_self
    ·exact .inl rfl
   ·exact .inr (List.mem_cons_of_mem _ h)
theorem qsa:∀ l:List Sh,wkl (shv l) = shv l
 | [] => by simp only [shv,wkl]
 |x :: r => by simp only [shv,wkl,wk,qkc,qsa r]
theorem q0j (l:List Sh) (c:Nat) (hne:l ≠ []) (hl:l.length < 4611686018427387904) (hb:∀ x,x ∈ l → ShS x) :
  Pure prog 108 (wkl [.lst (shv l) l.length (.ch c),.func (.func 109) [] []]) (.tup [shA (qc2 l),.bool true]) :=by
 have :=qr3 l hne hl hb
 rwa [show wkl [.lst (shv l) l.length (.ch c),.func (.func 109) [] []] = [.lst (shv l) l.length .no,.func (.func 109) [] []] by simp only [wkl,wk,qsa]]
def shO:List Sh → AV
 | [] => .tup [.nils,iv 0,iv 5]
 |x :: r => .tup [.lst (tls (qc2 (x :: r)).1) (qc2 (x :: r)).1.length .no,nv (qc2 (x :: r)).2.1,iv 0]
theorem q0u (L:List Sh):Live noL (shO L) :=by
 cases L with
 |nil => exact ⟨trivial,trivial,trivial,trivial⟩
 |cons x r => exact ⟨⟨qba _,fun _ e => nomatch e⟩,trivial,trivial,trivial⟩
theorem qvy (l:List (Nat × Nat)) {i:Nat} (h:i < l.length):l.take (i + 1) = l.take i ++ [gq l i] :=by
 rw [List.take_add_one];simp [gq,List.getD,h]
end
end Go.Abs.Seat
