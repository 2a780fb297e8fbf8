/-
  The document's products of teeth.
-/
import Derived.Test.YtpjclnoehlflcaaGreatDoorU8
import Derived.Test.YtpjclnoehlflcaaGreatDoorU4
namespace Go.Abs.Seat
noncomputable section
open Go Go.Abs Go.Proofs.Tryz
set_option maxRecDepth 100000
set_option maxHeartbeats 40000000
attribute [local irreducible] IntKind.wrap pEq
def bq (p:Prop):Bool :=@decide p (Classical.propDecidable p)
theorem bq_t {p:Prop} (h:p):bq p = true :=@zT p (Classical.propDecidable p) h
theorem bq_f {p:Prop} (h:¬ p):bq p = false :=@zF p (Classical.propDecidable p) h
theorem q0g {p q:Prop} (h:p ↔ q):bq p = bq q :=by
 by_cases k:p
 ·rw [bq_t k,bq_t (h.1 k)]
 ·rw [bq_f k,bq_f fun e => k (h.2 e)]
def Mk (t:Tr AV) (m:Nat) (q:Nat → Prop):Prop :=∀ j,t.get j = if j < m then some (.bool (bq (q j))) else none
theorem Mk.at {t:Tr AV} {m:Nat} {q:Nat → Prop} (h:Mk t m q) {x:Nat} (hx:x < m):t.get x = some (.bool (bq (q x))) :=by rw [h x,if_pos hx]
theorem Mk.ext {t:Tr AV} {m:Nat} {q r:Nat → Prop} (h:Mk t m q) (e:∀ x,x < m → (q x ↔ r x)):Mk t m r :=fun x => by
 rw [h x]
 by_cases hx:x < m
 ·rw [if_pos hx,if_pos hx,q0g (e x hx)]
 ·rw [if_neg hx,if_neg hx]
theorem Mk.none {t:Tr AV} {m:Nat} (h:∀ j,t.get j = if j < m then some (.bool false) else none):Mk t m (fun _ => False) :=fun x => by rw [h x,bq_f id]
theorem Mk.set {t:Tr AV} {m i:Nat} {q:Nat → Prop} (h:Mk t m q) (hi:i < m):Mk (tset (pathOf i) t (.bool true)) m (fun x => q x ∨ x = i) :=fun x => by
 rw [qyp (h.at hi)]
 by_cases e:x = i
 ·rw [if_pos e,if_pos (by omega),bq_t (.inr e)]
 ·rw [if_neg e,h x,q0g (show q x ↔ q x ∨ x = i from ⟨.inl,fun k => k.resolve_right e⟩)]
theorem Mk.bd {t:Tr AV} {m n:Nat} {q:Nat → Prop} (h:Mk t m q):BdT n t :=q0l fun j a e => by
 rw [h j] at e
 split at e
 ·cases e;exact Nat.zero_le _
 ·cases e
def tp (a b:Nat) (l:List Int) (n:Nat):Prop :=cutP (Int.ofNat a) (Int.ofNat b) l (Int.ofNat n)
theorem qq1 {a b:Nat} {l:List Int} (ha:1 ≤ a) (hb:b ≤ 60) {n:Nat} (h:tp a b l n):1 ≤ n ∧ n ≤ 60 :=by
 have h1:(a:Int) ≤ (n:Int) :=h.2.1
 have h2:(n:Int) ≤ (b:Int) :=h.2.2
 omega
theorem qh5 {a b:Nat} {l:List Int} {n:Nat} (h:tp a b l n):a ≤ n ∧ n ≤ b :=by
 have h1:(a:Int) ≤ (n:Int) :=h.2.1
 have h2:(n:Int) ≤ (b:Int) :=h.2.2
 omega
theorem qcw (l:List Nat) {i:Nat} (h:i < l.length):gi (zl l) i = Int.ofNat (gn l i) :=by
 simp [gi,gn,zl,List.getD,h]
theorem qh2 {o i:Nat} {t:Tr AV} {v:AV} {m:Nat} {ty:TypeId} (e:o = i):AObj.cells (tset (pathOf o) t v) m ty = AObj.cells (tset (pathOf i) t v) m ty :=by rw [e]
theorem qr9 (l:List Nat) (c:Nat):WkV (.lst (ivs (zl l)) l.length (.ch c)) (nl (zl l)) :=by
 have e:nl (zl l) = .lst (ivs (zl l)) l.length .no :=by rw [nl,qax]
 rw [e]
 exact WkV.own _ _ _
theorem qfp {N:AV} {l:List Int} (h:IL N l) (hl:l.length < 4611686018427387904) (a b:Nat) (ha:1 ≤ a) (hab:a ≤ b) (hb:b ≤ 60) (p s:Int) (k:Nat) (hk:k ≤ 3) :
  Pure prog 96 [rv (Int.ofNat a) (Int.ofNat b) p s N,nv k] (sv (zl (lstP (qak (tp a b l) k) 216001))) :=by
 have lN :=h.no
 have lT :=ql7 (zl (lstP (qak (tp a b l) k) 216001))
 have cp:∀ n:Nat,Pure prog 90 [rv (Int.ofNat a) (Int.ofNat b) p s N,nv n] (.bool (bq (tp a b l n))) :=fun n => by
  have :=qqo h hl (Int.ofNat a) (Int.ofNat b) p s (Int.ofNat n)
  rwa [show decide (cutP (Int.ofNat a) (Int.ofNat b) l (Int.ofNat n)) = bq (tp a b l n) by
   by_cases k:tp a b l n
   ·rw [bq_t k];exact zT k
   ·rw [bq_f k];exact zF k] at this
 have h1:sv (zl (lstP (qak (tp a b l) 0) 216001)) = nl [1] :=by rw [qig,qlf];rfl
 rcases h.cs with rfl | rfl
 all_goals
  refine zA fun S q pc hS hq hC hE => ?_
  conv=>whnf
  refine qbe hE hS (A :=Nat) [1,2] (fun i => [(5,sv (zl (lstP (qak (tp a b l) i) 216001))),(6,nv i)]) (fun _ => []) (fun _ => []) (fun i => i ≤ k) (fun i => k - i) 0 (Nat.le_of_ble_eq_true rfl) rfl (by
   show AtG _ _ _ _ _ _ _ [(5,sv (zl (lstP (qak (tp a b l) 0) 216001))),(6,nv 0)] _ _ _
   rw [h1]
   exact zG1) (Nat.zero_le _) ?_
  intro i hi M hM
  obtain rfl:M = 1 :=hM
  have lL :=ql7 (zl (lstP (qak (tp a b l) i) 216001))
  have hLm :=fun y => qbc (qak (tp a b l) i) y 216001
  have hLl :=qc1 (qak (tp a b l) i) 216001
  have hstep:∀ x,x < 216001 → (qak (tp a b l) (i + 1) x ↔ ∃ y,y ∈ lstP (qak (tp a b l) i) 216001 ∧ ∃ n,tp a b l n ∧ x = y * n) :=fun x hx => by
   rw [qak]
   constructor
   ·rintro ⟨y,n,h1,h2,rfl⟩
    refine ⟨y,(hLm y).2 ⟨?_,h1⟩,n,h2,rfl⟩
    have h3 :=(qbq (fun n => qq1 ha hb) i y h1).2
    have h4:60 ^ i ≤ 60 ^ 3 :=Nat.pow_le_pow_right (by omega) (by omega)
    omega
   ·rintro ⟨y,h1,n,h2,rfl⟩
    exact ⟨y,n,((hLm y).1 h1).2,h2,rfl⟩
  have e0k:i = k → sv (zl (lstP (qak (tp a b l) k) 216001)) = sv (zl (lstP (qak (tp a b l) i) 216001)) :=fun e => by rw [e]
  generalize lstP (qak (tp a b l) i) 216001 = L at lL hLm hLl hstep e0k ⊢
  rcases qco (zl L) with ⟨eL,e⟩ | e
  ·rw [e]
   have eL:L = [] :=by
    cases L with
    |nil => rfl
    |cons x r => cases eL
   subst eL
   conv=>whnf
   by_cases h:i < k
   ·refine qaa (qch h) ?_
    conv=>whnf
    intro t ht
    have ht:∀ j,t.get j = if j < 216001 then some (.bool false) else none :=ht
    conv=>whnf
    refine qae hE hS ?_
    conv=>whnf
    have hm :=(Mk.none ht).ext (fun x hx => ⟨fun h => h.elim,fun h => by obtain ⟨y,h,_⟩ :=(hstep x hx).1 h;cases h⟩ : ∀ x,x < 216001 → (False ↔ qak (tp a b l) (i + 1) x))
    refine qbe hE hS (A :=Nat × AV × List AObj × Nat) [1,2,6] (fun (x,v,_,m) => [(5,v),(7,.slc 1 0 m m),(10,nv x)]) (fun (_,_,_,m) => [(1,.cells t m 4)]) (fun a => a.2.2.1) (fun (x,v,ux,m) => m = 216001 ∧ x ≤ m ∧ (lstP (qak (tp a b l) (i + 1)) x = [] ∧ v = .nils ∧ ux = [] ∨ lstP (qak (tp a b l) (i + 1)) x ≠ [] ∧ v = .lst (ivs (zl (lstP (qak (tp a b l) (i + 1)) x))) (lstP (qak (tp a b l) (i + 1)) x).length (.ch 2) ∧ ux = [.chain (lstP (qak (tp a b l) (i + 1)) x).length 1 3])) (fun (x,_,_,_) => 216001 - x) (0,.nils,[],216001) (Nat.le_of_ble_eq_true rfl) rfl (by refine ⟨rfl,rfl,rfl,rfl,rfl,rfl,2,rfl,?_,?_⟩ <;> repeat' (first | exact Mk.bd hm | exact zZ | apply And.intro)) ⟨rfl,Nat.zero_le _,.inl ⟨rfl,rfl,rfl⟩⟩ ?_
    rintro ⟨x,v,ux,m⟩ ⟨em,hx,hR⟩ M hM
    have hx1:x ≤ 216001 → IntKind.i64.wrap (Int.ofNat x + 1) = Int.ofNat (x + 1) :=fun h => qa2 (m :=x + 1) (by omega)
    have hg:x < m → t.get (0 + x * 1) = some (.bool (bq (qak (tp a b l) (i + 1) x))) :=fun h => by
     rw [show 0 + x * 1 = x by omega];exact hm.at (by omega)
    have hq :=fun y => qbc (qak (tp a b l) (i + 1)) y x
    have hRl :=qc1 (qak (tp a b l) (i + 1)) x
    have hst:lstP (qak (tp a b l) (i + 1)) (x + 1) = @ite _ (qak (tp a b l) (i + 1) x) (Classical.propDecidable _) (lstP (qak (tp a b l) (i + 1)) x ++ [x]) (lstP (qak (tp a b l) (i + 1)) x) :=rfl
    rcases hR with ⟨e0,rfl,rfl⟩ | ⟨hne,rfl,rfl⟩
    ·obtain rfl:M = 2 :=hM
     conv=>whnf
     by_cases hx2:x < m
     ·refine qaa (qch hx2) ?_
      conv=>whnf
      refine qaa (qaf hx2) ?_
      conv=>whnf
      refine qaa (zT (show 0 + x * 1 < m by omega)) ?_
      conv=>whnf
      have hg :=hg hx2
      by_cases hb:qak (tp a b l) (i + 1) x
      ·rw [bq_t hb] at hg
       rw [if_pos hb,e0] at hst
       refine qac (qbr hg) ?_
       conv=>whnf
       exact ⟨(x + 1,.lst (ivs (zl [x])) 1 (.ch 2),[.chain 1 1 3],m),⟨em,hx2,.inr ⟨by rw [hst];simp,by rw [hst];rfl,by rw [hst];rfl⟩⟩,by show 216001 - (x + 1) < 216001 - x;omega,Nat.zero_le _,(by refine ⟨rfl,rfl,rfl,rfl,rfl,rfl,3,rfl,?_,?_⟩ <;> repeat' (first | exact Mk.bd hm | exact ⟨_,rfl,WkV.int (hx1 (by omega))⟩ | exact zZ | apply And.intro))⟩
      ·rw [bq_f hb] at hg
       rw [if_neg hb,e0] at hst
       refine qac (qbr hg) ?_
       conv=>whnf
       exact ⟨(x + 1,.nils,[],m),⟨em,hx2,.inl ⟨hst,rfl,rfl⟩⟩,by show 216001 - (x + 1) < 216001 - x;omega,Nat.le_refl _,(by refine ⟨rfl,rfl,rfl,rfl,rfl,rfl,2,rfl,?_,?_⟩ <;> repeat' (first | exact Mk.bd hm | exact ⟨_,rfl,WkV.int (hx1 (by omega))⟩ | exact zZ | apply And.intro))⟩
     ·refine qad (qcl hx2) ?_
      conv=>whnf
      have ex:x = 216001 :=by omega
      subst ex
      refine .inl ?_
      conv=>whnf
      have hi1:IntKind.i64.wrap (Int.ofNat i + 1) = Int.ofNat (i + 1) :=qa2 (m :=i + 1) (by omega)
      exact ⟨i + 1,by omega,by show k - (i + 1) < k - i;omega,Nat.le_refl _,by show AtG _ _ _ _ _ _ _ [(5,sv (zl (lstP (qak (tp a b l) (i + 1)) 216001))),(6,nv (i + 1))] _ _ _;rw [e0];exact zG1⟩
    ·obtain rfl:M = 3 :=hM
     conv=>whnf
     by_cases hx2:x < m
     ·refine qaa (qch hx2) ?_
      conv=>whnf
      refine qaa (qaf hx2) ?_
      conv=>whnf
      refine qaa (zT (show 0 + x * 1 < m by omega)) ?_
      conv=>whnf
      have hg :=hg hx2
      by_cases hb:qak (tp a b l) (i + 1) x
      ·rw [bq_t hb] at hg
       rw [if_pos hb] at hst
       refine qac (qbr hg) ?_
       conv=>whnf
       refine qaa (zT (show ((lstP (qak (tp a b l) (i + 1)) x).length + (0 + 1)) * 8 ≤ 140737488355328 by omega)) ?_
       conv=>whnf
       refine qaa (zT (show (lstP (qak (tp a b l) (i + 1)) x).length + (0 + 1) ≤ 9223372036854775807 by omega)) ?_
       conv=>whnf
       refine qaa (qge (lstP (qak (tp a b l) (i + 1)) x)) ?_
       conv=>whnf
       refine qaa (zT rfl) ?_
       conv=>whnf
       exact ⟨(x + 1,.lst (ivs (zl (lstP (qak (tp a b l) (i + 1)) x ++ [x]))) (lstP (qak (tp a b l) (i + 1)) x ++ [x]).length (.ch 2),[.chain (lstP (qak (tp a b l) (i + 1)) x ++ [x]).length 1 3],m),⟨em,hx2,.inr ⟨by rw [hst];simp,by rw [hst],by rw [hst]⟩⟩,by show 216001 - (x + 1) < 216001 - x;omega,Nat.le_refl _,(by refine ⟨rfl,rfl,rfl,rfl,rfl,rfl,3,rfl,?_,?_⟩ <;> repeat' (first | exact Mk.bd hm | exact ⟨_,rfl,WkV.int (hx1 (by omega))⟩ | exact ⟨_,rfl,WkV.eq (qnc _ _ _)⟩ | exact qnd _ _ | exact zZ | apply And.intro))⟩
      ·rw [bq_f hb] at hg
       rw [if_neg hb] at hst
       refine qac (qbr hg) ?_
       conv=>whnf
       exact ⟨(x + 1,.lst (ivs (zl (lstP (qak (tp a b l) (i + 1)) x))) (lstP (qak (tp a b l) (i + 1)) x).length (.ch 2),[.chain (lstP (qak (tp a b l) (i + 1)) x).length 1 3],m),⟨em,hx2,.inr ⟨by rw [hst];exact hne,by rw [hst],by rw [hst]⟩⟩,by show 216001 - (x + 1) < 216001 - x;omega,Nat.le_refl _,(by refine ⟨rfl,rfl,rfl,rfl,rfl,rfl,3,rfl,?_,?_⟩ <;> repeat' (first | exact Mk.bd hm | exact ⟨_,rfl,WkV.int (hx1 (by omega))⟩ | exact zZ | apply And.intro))⟩
     ·refine qad (qcl hx2) ?_
      conv=>whnf
      have ex:x = 216001 :=by omega
      subst ex
      refine .inl ?_
      conv=>whnf
      have hi1:IntKind.i64.wrap (Int.ofNat i + 1) = Int.ofNat (i + 1) :=qa2 (m :=i + 1) (by omega)
      have e5:sv (zl (lstP (qak (tp a b l) (i + 1)) 216001)) = nl (zl (lstP (qak (tp a b l) (i + 1)) 216001)) :=by
       rcases qco (zl (lstP (qak (tp a b l) (i + 1)) 216001)) with ⟨k,_⟩ | k
       ·exact absurd (List.map_eq_nil_iff.1 k) hne
       ·exact k
      have lq :=qd4 (zl (lstP (qak (tp a b l) (i + 1)) 216001))
      exact ⟨i + 1,by omega,by show k - (i + 1) < k - i;omega,Nat.le_refl _,by show AtG _ _ _ _ _ _ _ [(5,sv (zl (lstP (qak (tp a b l) (i + 1)) 216001))),(6,nv (i + 1))] _ _ _;rw [e5];exact (by refine ⟨rfl,rfl,rfl,rfl,rfl,rfl,1,rfl,?_,?_⟩ <;> repeat' (first | exact ⟨_,rfl,qr9 _ _⟩ | exact zZ | apply And.intro))⟩
   ·refine qad (qcl h) ?_
    conv=>whnf
    refine .inl ?_
    conv=>whnf
    rw [e0k (by omega),e]
    exact ⟨_,rfl,Wk.refl _⟩
  ·rw [e]
   conv=>whnf
   by_cases h:i < k
   ·refine qaa (qch h) ?_
    conv=>whnf
    intro t ht
    have ht:∀ j,t.get j = if j < 216001 then some (.bool false) else none :=ht
    conv=>whnf
    refine qbe hE hS (A :=Nat × Tr AV × Nat) [1,2,5,6] (fun (j,_,m) => [(7,.slc 1 0 m m),(8,nv j)]) (fun (_,t,m) => [(1,.cells t m 4)]) (fun _ => []) (fun (j,t,m) => m = 216001 ∧ j ≤ L.length ∧ Mk t 216001 (fun x => ∃ y,y ∈ L.take j ∧ ∃ n,tp a b l n ∧ x = y * n)) (fun (j,_,_) => L.length - j) (0,t,216001) (Nat.le_of_ble_eq_true rfl) rfl (by refine ⟨rfl,rfl,rfl,rfl,rfl,rfl,2,rfl,?_,?_⟩ <;> repeat' (first | exact Mk.bd (Mk.none ht) | exact zZ | apply And.intro)) ⟨rfl,Nat.zero_le _,(Mk.none ht).ext fun x _ => ⟨fun h => h.elim,fun h => by obtain ⟨y,h,_⟩ :=h;cases h⟩⟩ ?_
    rintro ⟨j,t,m⟩ ⟨em,hj,hm⟩ M hM
    obtain rfl:M = 2 :=hM
    have hzl :=qax L
    conv=>whnf
    by_cases h2:j < L.length
    ·refine qaa ((show decide (Int.ofNat j < ((zl L).length:Int)) = true from zT (by rw [hzl];show (j:Int) < _;omega))) ?_
     conv=>whnf
     have hy :=(hLm (gn L j)).1 (qbd L h2)
     have hy60 :=(qbq (fun n => qq1 ha hb) i _ hy.2).2
     have h60:60 ^ i ≤ 60 ^ 2 :=Nat.pow_le_pow_right (by omega) (by omega)
     have hn3:nth (ivs (zl L)) (j * 1) = some (nv (gn L j)) :=by rw [qa4 (by rw [hzl];exact h2),qcw L h2]
     have htk :=qnm L h2
     refine qbe hE hS (A :=Nat × Tr AV × Nat) [1,2,5,6,8] (fun (n,_,m) => [(7,.slc 1 0 m m),(9,nv n)]) (fun (_,t,m) => [(1,.cells t m 4)]) (fun _ => []) (fun (n,t,m) => m = 216001 ∧ a ≤ n ∧ n ≤ b + 1 ∧ Mk t 216001 (fun x => (∃ y,y ∈ L.take j ∧ ∃ n,tp a b l n ∧ x = y * n) ∨ ∃ n',n' < n ∧ tp a b l n' ∧ x = gn L j * n')) (fun (n,_,_) => b + 1 - n) (a,t,m) (Nat.le_of_ble_eq_true rfl) rfl (by refine ⟨rfl,rfl,rfl,rfl,rfl,rfl,2,rfl,?_,?_⟩ <;> repeat' (first | exact Mk.bd hm | exact zZ | apply And.intro)) ⟨em,Nat.le_refl _,by omega,hm.ext fun x _ => ⟨.inl,fun h => h.resolve_right fun ⟨n',h1,h2,_⟩ => by have :=qh5 h2;omega⟩⟩ ?_
     rintro ⟨n,t,m⟩ ⟨em,hn1,hn2,hm⟩ M hM
     obtain rfl:M = 2 :=hM
     have hnw:n ≤ b → IntKind.i64.wrap (Int.ofNat n + 1) = Int.ofNat (n + 1) :=fun h => qa2 (m :=n + 1) (by omega)
     conv=>whnf
     by_cases h3:n ≤ b
     ·refine qaa (zT (show Int.ofNat n ≤ Int.ofNat b by show (n:Int) ≤ (b:Int);omega)) ?_
      conv=>whnf
      refine qab hC (cp n) ?_
      conv=>whnf
      by_cases h4:tp a b l n
      ·refine qaa (bq_t h4) ?_
       conv=>whnf
       have hle:gn L j * n ≤ 60 ^ 2 * 60 :=Nat.mul_le_mul (by omega) (by omega)
       refine qaa (qaf (show j < (zl L).length by omega)) ?_
       conv=>whnf
       refine qac (nthP (hn3)) ?_
       conv=>whnf
       have em1:IntKind.i64.wrap (Int.ofNat (gn L j) * Int.ofNat n) = Int.ofNat (gn L j * n) :=mulN (a :=gn L j) (b :=n) (by omega)
       have eo:0 + (IntKind.i64.wrap (Int.ofNat (gn L j) * Int.ofNat n)).toNat * 1 = gn L j * n :=by rw [em1];show 0 + gn L j * n * 1 = _;omega
       refine qaa ((show inR (IntKind.i64.wrap (Int.ofNat (gn L j) * Int.ofNat n)) m = true by rw [em1];exact qaf (by omega))) ?_
       conv=>whnf
       have hbl:Nat.ble (0 + (IntKind.i64.wrap (Int.ofNat (gn L j) * Int.ofNat n)).toNat * 1 + 1) m = true :=by rw [eo];exact Nat.ble_eq_true_of_le (by omega)
       refine qaa (hbl) ?_
       conv=>whnf
       have hget :=hm.at (x :=gn L j * n) (by omega)
       have hset :=hm.set (i :=gn L j * n) (by omega)
       rw [← eo] at hget
       refine qki hget ?_
       conv=>whnf
       exact ⟨(n + 1,tset (pathOf (gn L j * n)) t (.bool true),m),⟨em,by omega,by omega,hset.ext fun x _ => ⟨fun h => by
        rcases h with h | h
        ·exact h.imp id fun ⟨n',k1,k2⟩ => ⟨n',by omega,k2⟩
        ·exact .inr ⟨n,by omega,h4,h⟩,fun h => by
        rcases h with h | ⟨n',k1,k2,k3⟩
        ·exact .inl (.inl h)
        ·by_cases e:n' = n
         ·subst e;exact .inr k3
         ·exact .inl (.inr ⟨n',by omega,k2,k3⟩)⟩⟩,by show b + 1 - (n + 1) < b + 1 - n;omega,Nat.le_refl _,(by refine ⟨rfl,rfl,rfl,rfl,rfl,rfl,2,rfl,?_,?_⟩ <;> repeat' (first | exact Mk.bd hset | exact ⟨_,rfl,WkV.int (hnw h3)⟩ | exact qh2 eo | exact zZ | apply And.intro))⟩
      ·refine qad (bq_f h4) ?_
       conv=>whnf
       exact ⟨(n + 1,t,m),⟨em,by omega,by omega,hm.ext fun x _ => ⟨fun h => h.imp id fun ⟨n',k1,k2⟩ => ⟨n',by omega,k2⟩,fun h => h.imp id fun ⟨n',k1,k2,k3⟩ => ⟨n',by have:n' ≠ n :=fun e => h4 (e ▸ k2);omega,k2,k3⟩⟩⟩,by show b + 1 - (n + 1) < b + 1 - n;omega,Nat.le_refl _,(by refine ⟨rfl,rfl,rfl,rfl,rfl,rfl,2,rfl,?_,?_⟩ <;> repeat' (first | exact Mk.bd hm | exact ⟨_,rfl,WkV.int (hnw h3)⟩ | exact zZ | apply And.intro))⟩
     ·refine qad (zF (show ¬ Int.ofNat n ≤ Int.ofNat b by show ¬ (n:Int) ≤ (b:Int);omega)) ?_
      conv=>whnf
      refine .inl ?_
      conv=>whnf
      have hj1:IntKind.i64.wrap (Int.ofNat j + 1) = Int.ofNat (j + 1) :=qa2 (m :=j + 1) (by omega)
      exact ⟨(j + 1,t,m),⟨em,h2,hm.ext fun x _ => ⟨fun h => by
       rw [htk]
       rcases h with ⟨z,k1,k2⟩ | ⟨n',_,k2,k3⟩
       ·exact ⟨z,List.mem_append_left _ k1,k2⟩
       ·exact ⟨gn L j,List.mem_append_right _ (List.mem_singleton.2 rfl),n',k2,k3⟩,fun ⟨z,k1,n',k2,k3⟩ => by
       rw [htk] at k1
       rcases List.mem_append.1 k1 with k1 | k1
       ·exact .inl ⟨z,k1,n',k2,k3⟩
       ·rw [List.mem_singleton.1 k1] at k3
        exact .inr ⟨n',by have :=qh5 k2;omega,k2,k3⟩⟩⟩,by show L.length - (j + 1) < L.length - j;omega,Nat.le_refl _,(by refine ⟨rfl,rfl,rfl,rfl,rfl,rfl,2,rfl,?_,?_⟩ <;> repeat' (first | exact Mk.bd hm | exact zZ | apply And.intro))⟩
    ·refine qad ((show decide (Int.ofNat j < ((zl L).length:Int)) = false from zF (by rw [hzl];show ¬ (j:Int) < _;omega))) ?_
     conv=>whnf
     have ej:j = L.length :=by omega
     have hm :=hm.ext (r :=qak (tp a b l) (i + 1)) fun x hx => by rw [hstep x hx,ej,List.take_length]
     refine .inl ?_
     conv=>whnf
     refine qbe hE hS (A :=Nat × AV × List AObj × Nat) [1,2,6] (fun (x,v,_,m) => [(5,v),(7,.slc 1 0 m m),(10,nv x)]) (fun (_,_,_,m) => [(1,.cells t m 4)]) (fun a => a.2.2.1) (fun (x,v,ux,m) => m = 216001 ∧ x ≤ m ∧ (lstP (qak (tp a b l) (i + 1)) x = [] ∧ v = .nils ∧ ux = [] ∨ lstP (qak (tp a b l) (i + 1)) x ≠ [] ∧ v = .lst (ivs (zl (lstP (qak (tp a b l) (i + 1)) x))) (lstP (qak (tp a b l) (i + 1)) x).length (.ch 2) ∧ ux = [.chain (lstP (qak (tp a b l) (i + 1)) x).length 1 3])) (fun (x,_,_,_) => 216001 - x) (0,.nils,[],m) (Nat.le_of_ble_eq_true rfl) rfl (by refine ⟨rfl,rfl,rfl,rfl,rfl,rfl,2,rfl,?_,?_⟩ <;> repeat' (first | exact Mk.bd hm | exact zZ | apply And.intro)) ⟨em,Nat.zero_le _,.inl ⟨rfl,rfl,rfl⟩⟩ ?_
     rintro ⟨x,v,ux,m⟩ ⟨em,hx,hR⟩ M hM
     have hx1:x ≤ 216001 → IntKind.i64.wrap (Int.ofNat x + 1) = Int.ofNat (x + 1) :=fun h => qa2 (m :=x + 1) (by omega)
     have hg:x < m → t.get (0 + x * 1) = some (.bool (bq (qak (tp a b l) (i + 1) x))) :=fun h => by
      rw [show 0 + x * 1 = x by omega];exact hm.at (by omega)
     have hq :=fun y => qbc (qak (tp a b l) (i + 1)) y x
     have hRl :=qc1 (qak (tp a b l) (i + 1)) x
     have hst:lstP (qak (tp a b l) (i + 1)) (x + 1) = @ite _ (qak (tp a b l) (i + 1) x) (Classical.propDecidable _) (lstP (qak (tp a b l) (i + 1)) x ++ [x]) (lstP (qak (tp a b l) (i + 1)) x) :=rfl
     rcases hR with ⟨e0,rfl,rfl⟩ | ⟨hne,rfl,rfl⟩
     ·obtain rfl:M = 2 :=hM
      conv=>whnf
      by_cases hx2:x < m
      ·refine qaa (qch hx2) ?_
       conv=>whnf
       refine qaa (qaf hx2) ?_
       conv=>whnf
       refine qaa (zT (show 0 + x * 1 < m by omega)) ?_
       conv=>whnf
       have hg :=hg hx2
       by_cases hb:qak (tp a b l) (i + 1) x
       ·rw [bq_t hb] at hg
        rw [if_pos hb,e0] at hst
        refine qac (qbr hg) ?_
        conv=>whnf
        exact ⟨(x + 1,.lst (ivs (zl [x])) 1 (.ch 2),[.chain 1 1 3],m),⟨em,hx2,.inr ⟨by rw [hst];simp,by rw [hst];rfl,by rw [hst];rfl⟩⟩,by show 216001 - (x + 1) < 216001 - x;omega,Nat.zero_le _,(by refine ⟨rfl,rfl,rfl,rfl,rfl,rfl,3,rfl,?_,?_⟩ <;> repeat' (first | exact Mk.bd hm | exact ⟨_,rfl,WkV.int (hx1 (by omega))⟩ | exact zZ | apply And.intro))⟩
       ·rw [bq_f hb] at hg
        rw [if_neg hb,e0] at hst
        refine qac (qbr hg) ?_
        conv=>whnf
        exact ⟨(x + 1,.nils,[],m),⟨em,hx2,.inl ⟨hst,rfl,rfl⟩⟩,by show 216001 - (x + 1) < 216001 - x;omega,Nat.le_refl _,(by refine ⟨rfl,rfl,rfl,rfl,rfl,rfl,2,rfl,?_,?_⟩ <;> repeat' (first | exact Mk.bd hm | exact ⟨_,rfl,WkV.int (hx1 (by omega))⟩ | exact zZ | apply And.intro))⟩
      ·refine qad (qcl hx2) ?_
       conv=>whnf
       have ex:x = 216001 :=by omega
       subst ex
       refine .inl ?_
       conv=>whnf
       have hi1:IntKind.i64.wrap (Int.ofNat i + 1) = Int.ofNat (i + 1) :=qa2 (m :=i + 1) (by omega)
       exact ⟨i + 1,by omega,by show k - (i + 1) < k - i;omega,Nat.le_refl _,by show AtG _ _ _ _ _ _ _ [(5,sv (zl (lstP (qak (tp a b l) (i + 1)) 216001))),(6,nv (i + 1))] _ _ _;rw [e0];exact zG1⟩
     ·obtain rfl:M = 3 :=hM
      conv=>whnf
      by_cases hx2:x < m
      ·refine qaa (qch hx2) ?_
       conv=>whnf
       refine qaa (qaf hx2) ?_
       conv=>whnf
       refine qaa (zT (show 0 + x * 1 < m by omega)) ?_
       conv=>whnf
       have hg :=hg hx2
       by_cases hb:qak (tp a b l) (i + 1) x
       ·rw [bq_t hb] at hg
        rw [if_pos hb] at hst
        refine qac (qbr hg) ?_
        conv=>whnf
        refine qaa (zT (show ((lstP (qak (tp a b l) (i + 1)) x).length + (0 + 1)) * 8 ≤ 140737488355328 by omega)) ?_
        conv=>whnf
        refine qaa (zT (show (lstP (qak (tp a b l) (i + 1)) x).length + (0 + 1) ≤ 9223372036854775807 by omega)) ?_
        conv=>whnf
        refine qaa (qge (lstP (qak (tp a b l) (i + 1)) x)) ?_
        conv=>whnf
        refine qaa (zT rfl) ?_
        conv=>whnf
        exact ⟨(x + 1,.lst (ivs (zl (lstP (qak (tp a b l) (i + 1)) x ++ [x]))) (lstP (qak (tp a b l) (i + 1)) x ++ [x]).length (.ch 2),[.chain (lstP (qak (tp a b l) (i + 1)) x ++ [x]).length 1 3],m),⟨em,hx2,.inr ⟨by rw [hst];simp,by rw [hst],by rw [hst]⟩⟩,by show 216001 - (x + 1) < 216001 - x;omega,Nat.le_refl _,(by refine ⟨rfl,rfl,rfl,rfl,rfl,rfl,3,rfl,?_,?_⟩ <;> repeat' (first | exact Mk.bd hm | exact ⟨_,rfl,WkV.int (hx1 (by omega))⟩ | exact ⟨_,rfl,WkV.eq (qnc _ _ _)⟩ | exact qnd _ _ | exact zZ | apply And.intro))⟩
       ·rw [bq_f hb] at hg
        rw [if_neg hb] at hst
        refine qac (qbr hg) ?_
        conv=>whnf
        exact ⟨(x + 1,.lst (ivs (zl (lstP (qak (tp a b l) (i + 1)) x))) (lstP (qak (tp a b l) (i + 1)) x).length (.ch 2),[.chain (lstP (qak (tp a b l) (i + 1)) x).length 1 3],m),⟨em,hx2,.inr ⟨by rw [hst];exact hne,by rw [hst],by rw [hst]⟩⟩,by show 216001 - (x + 1) < 216001 - x;omega,Nat.le_refl _,(by refine ⟨rfl,rfl,rfl,rfl,rfl,rfl,3,rfl,?_,?_⟩ <;> repeat' (first | exact Mk.bd hm | exact ⟨_,rfl,WkV.int (hx1 (by omega))⟩ | exact zZ | apply And.intro))⟩
      ·refine qad (qcl hx2) ?_
       conv=>whnf
       have ex:x = 216001 :=by omega
       subst ex
       refine .inl ?_
       conv=>whnf
       have hi1:IntKind.i64.wrap (Int.ofNat i + 1) = Int.ofNat (i + 1) :=qa2 (m :=i + 1) (by omega)
       have e5:sv (zl (lstP (qak (tp a b l) (i + 1)) 216001)) = nl (zl (lstP (qak (tp a b l) (i + 1)) 216001)) :=by
        rcases qco (zl (lstP (qak (tp a b l) (i + 1)) 216001)) with ⟨k,_⟩ | k
        ·exact absurd (List.map_eq_nil_iff.1 k) hne
        ·exact k
       have lq :=qd4 (zl (lstP (qak (tp a b l) (i + 1)) 216001))
       exact ⟨i + 1,by omega,by show k - (i + 1) < k - i;omega,Nat.le_refl _,by show AtG _ _ _ _ _ _ _ [(5,sv (zl (lstP (qak (tp a b l) (i + 1)) 216001))),(6,nv (i + 1))] _ _ _;rw [e5];exact (by refine ⟨rfl,rfl,rfl,rfl,rfl,rfl,1,rfl,?_,?_⟩ <;> repeat' (first | exact ⟨_,rfl,qr9 _ _⟩ | exact zZ | apply And.intro))⟩
   ·refine qad (qcl h) ?_
    conv=>whnf
    refine .inl ?_
    conv=>whnf
    rw [e0k (by omega),e]
    exact ⟨_,rfl,Wk.refl _⟩
end
end Go.Abs.Seat
