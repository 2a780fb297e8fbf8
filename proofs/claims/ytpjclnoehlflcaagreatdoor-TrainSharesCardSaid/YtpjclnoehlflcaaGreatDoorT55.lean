/-
  The document's nearest train.
-/
import Derived.Test.YtpjclnoehlflcaaGreatDoorU11
import Derived.Test.YtpjclnoehlflcaaGreatDoorU7
import Derived.Test.YtpjclnoehlflcaaGreatDoorU9
namespace Go.Abs.Seat
noncomputable section
open Go Go.Abs Go.Proofs.Tryz
set_option maxRecDepth 100000
set_option maxHeartbeats 40000000
attribute [local irreducible] IntKind.wrap pEq
def oW:Option (List (Nat × Nat)) → AV
 |none => .nils
 |some t => pv (zp t)
abbrev mny (p:Nat) (s:Int) (k:Nat):Prop :=qt4 (Int.ofNat p) s k
theorem qwy {x:Nat} {c:Bool} (h:c = true):@Bool.rec (fun _ => Bool) (@Bool.rec (fun _ => Bool) true false (x,false).snd) (x,false).snd c = false :=by subst h;rfl
theorem qhl {x:Nat} {c:Bool} (h:c = false):@Bool.rec (fun _ => Bool) (@Bool.rec (fun _ => Bool) true false (x,false).snd) (x,false).snd c = true :=by subst h;rfl
theorem qfr (l:List (Nat × Nat)) {i:Nat} (h:i < l.length):gq l i ∈ l :=by
 have :=qcc l h
 exact List.mem_of_mem_drop (this ▸ List.mem_cons_self)
theorem qke (l:List (Nat × Nat)) {i:Nat} (h:i < l.length):l.take (i + 1) = l.take i ++ [gq l i] :=by
 rw [List.take_succ_eq_append_getElem h]
 have h2 :=qcc l h
 rw [List.drop_eq_getElem_cons h] at h2
 rw [(List.cons.inj h2).1]
theorem qg0:∀ (l:List (Nat × Nat)) (i:Nat),i < l.length → nth (flat (zp l)) (i * 2 + 1) = some (nv (gq l i).2)
 | [],_,h => absurd h (Nat.not_lt_zero _)
 | _ :: _,0,_ => rfl
 | _ :: r,i + 1,h => by
  rw [show (i + 1) * 2 + 1 = i * 2 + 1 + 1 + 1 by omega]
  exact qg0 r i (by simpa using h)
theorem q0x {L:List Nat} {n d:Nat} (h:L ≠ []):rnF L n d ≠ [] :=by
 cases L with
 |nil => exact absurd rfl h
 |cons x r =>
  unfold rnF
  rw [List.flatMap_cons]
  intro k
  have h2 :=(List.append_eq_nil_iff.1 k).1
  unfold rcOf at h2
  cases (List.append_eq_nil_iff.1 h2).2
def OwI (tq:Nat → Prop) (k n d:Nat) (f q:Nat × Nat) (L:List (Nat × Nat)):Option (List (Nat × Nat)) → Prop
 |none => ∀ z t,z ∈ L → (dQ n d z).1 * q.2 = (dQ n d q).1 * z.2 → fstT tq k z.1 z.2 f ≠ some t
 |some w => (∃ z,z ∈ L ∧ (dQ n d z).1 * q.2 = (dQ n d q).1 * z.2 ∧ fstT tq k z.1 z.2 f = some w) ∧ ∀ z t,z ∈ L → (dQ n d z).1 * q.2 = (dQ n d q).1 * z.2 → fstT tq k z.1 z.2 f = some t → ¬ ltL t w
theorem OwI.zero {L:List (Nat × Nat)} {tq:Nat → Prop} {k n d:Nat} {f q:Nat × Nat}:OwI tq k n d f q (List.take 0 L) none :=fun _ _ h => by cases h
theorem OwI.skip {tq:Nat → Prop} {k n d:Nat} {f q z:Nat × Nat} {L:List (Nat × Nat)} {w:Option (List (Nat × Nat))} (h:OwI tq k n d f q L w) (hz:∀ t,(dQ n d z).1 * q.2 = (dQ n d q).1 * z.2 → fstT tq k z.1 z.2 f ≠ some t):OwI tq k n d f q (L ++ [z]) w :=by
 cases w with
 |none =>
  intro y t hy he
  rcases List.mem_append.1 hy with hy | hy
  ·exact h y t hy he
  ·rw [List.mem_singleton.1 hy] at he ⊢;exact hz t he
 |some w =>
  obtain ⟨⟨y,hy,he,hf⟩,hm⟩ :=h
  refine ⟨⟨y,List.mem_append_left _ hy,he,hf⟩,fun y t hy he hf => ?_⟩
  rcases List.mem_append.1 hy with hy | hy
  ·exact hm y t hy he hf
  ·rw [List.mem_singleton.1 hy] at he hf;exact absurd hf (hz t he)
theorem OwI.new {tq:Nat → Prop} {k n d:Nat} {f q z:Nat × Nat} {L:List (Nat × Nat)} {t:List (Nat × Nat)} (h:OwI tq k n d f q L none) (he:(dQ n d z).1 * q.2 = (dQ n d q).1 * z.2) (hf:fstT tq k z.1 z.2 f = some t):OwI tq k n d f q (L ++ [z]) (some t) :=by
 refine ⟨⟨z,List.mem_append_right _ (List.mem_singleton.2 rfl),he,hf⟩,fun y u hy he2 hf2 => ?_⟩
 rcases List.mem_append.1 hy with hy | hy
 ·exact absurd hf2 (h y u hy he2)
 ·rw [List.mem_singleton.1 hy,hf] at hf2
  cases hf2
  exact qis _
theorem OwI.lt {tq:Nat → Prop} {k n d:Nat} {f q z:Nat × Nat} {L:List (Nat × Nat)} {t w:List (Nat × Nat)} (h:OwI tq k n d f q L (some w)) (he:(dQ n d z).1 * q.2 = (dQ n d q).1 * z.2) (hf:fstT tq k z.1 z.2 f = some t) (hl:ltL t w):OwI tq k n d f q (L ++ [z]) (some t) :=by
 refine ⟨⟨z,List.mem_append_right _ (List.mem_singleton.2 rfl),he,hf⟩,fun y u hy he2 hf2 => ?_⟩
 rcases List.mem_append.1 hy with hy | hy
 ·exact fun e => h.2 y u hy he2 hf2 (qe6 e hl)
 ·rw [List.mem_singleton.1 hy,hf] at hf2
  cases hf2
  exact qis _
theorem OwI.ge {tq:Nat → Prop} {k n d:Nat} {f q z:Nat × Nat} {L:List (Nat × Nat)} {t w:List (Nat × Nat)} (h:OwI tq k n d f q L (some w)) (hf:fstT tq k z.1 z.2 f = some t) (hl:¬ ltL t w):OwI tq k n d f q (L ++ [z]) (some w) :=by
 obtain ⟨⟨y,hy,he,hf'⟩,hm⟩ :=h
 refine ⟨⟨y,List.mem_append_left _ hy,he,hf'⟩,fun y u hy he2 hf2 => ?_⟩
 rcases List.mem_append.1 hy with hy | hy
 ·exact hm y u hy he2 hf2
 ·rw [List.mem_singleton.1 hy,hf] at hf2
  cases hf2
  exact hl
theorem OwI.opt {tq:Nat → Prop} (h1:∀ n,tq n → 1 ≤ n ∧ n ≤ 60) {a:Nat} (ha:∀ n,tq n → a ≤ n) {k M n d:Nat} (hd:1 ≤ d) (hM:60 ^ k < M) {q:Nat × Nat} {R L:List (Nat × Nat)} (hL:L = R) (hR:R = rnF (lstP (qak tq k) M) n d) (hqR:q ∈ R) (hqm:∀ z,z ∈ R → fle (dQ n d q) (dQ n d z)) {w:List (Nat × Nat)} (h:OwI tq k n d (a,a) q L (some w)):Opt tq n d k w :=by
 subst hL
 subst hR
 obtain ⟨⟨y,hy,he,hf⟩,hb⟩ :=h
 exact qyx h1 ha hd hM hqR hqm hy he hf hb
theorem OwI.no {tq:Nat → Prop} (h1:∀ n,tq n → 1 ≤ n ∧ n ≤ 60) {a:Nat} (ha:∀ n,tq n → a ≤ n) {k M n d:Nat} (hd:1 ≤ d) (hM:60 ^ k < M) {q:Nat × Nat} {R L:List (Nat × Nat)} (hL:L = R) (hR:R = rnF (lstP (qak tq k) M) n d) (hqR:q ∈ R) (h:OwI tq k n d (a,a) q L none):False :=by
 subst hL
 subst hR
 obtain ⟨t,ht⟩ :=qsz h1 ha hd hM hqR
 exact h q t hqR rfl ht
theorem qzj {a b:Nat} (h:a < b):decide (ordI (Int.ofNat a) (Int.ofNat b) < 0) = true :=zT (qk7.2 h)
theorem qzk {a b:Nat} (h:¬ a < b):decide (ordI (Int.ofNat a) (Int.ofNat b) < 0) = false :=zF fun e => h (qk7.1 e)
theorem BO.all {tq:Nat → Prop} {P:Nat} {lets:Nat → Prop} {n d:Nat} {t:List (Nat × Nat)} (h:BO tq P lets n d (some t)):AllT tq t :=(show RT tq P lets t from h.1).2.2.all
theorem BO.len3 {tq:Nat → Prop} {P p:Nat} (hp:p ≤ 3) (hP:P ≤ p) {lets:Nat → Prop} {n d:Nat} {t:List (Nat × Nat)} (h:BO tq P lets n d (some t)):1 ≤ t.length ∧ t.length ≤ 3 :=by
 have :=(show RT tq P lets t from h.1).1
 omega
theorem OwI.len {tq:Nat → Prop} {k n d:Nat} {f q:Nat × Nat} {L:List (Nat × Nat)} {w:List (Nat × Nat)} (h:OwI tq k n d f q L (some w)):w.length = k :=by
 obtain ⟨⟨_,_,_,hf⟩,_⟩ :=h
 exact qhj (qde hf).1
theorem qlp {tq:Nat → Prop} {k X Y:Nat} {f:Nat × Nat} {t:List (Nat × Nat)} (h:fstT tq k X Y f = some t):t.length = k :=qhj (qde h).1
theorem qof:∀ (l:List (Nat × Nat)) (i:Nat),i < l.length → nth (flat (zp l)) (i * 2) = some (nv (gq l i).1)
 | [],_,h => absurd h (Nat.not_lt_zero _)
 | _ :: _,0,_ => rfl
 | _ :: r,i + 1,h => by
  rw [show (i + 1) * 2 = i * 2 + 1 + 1 by omega]
  exact qof r i (by simpa using h)
theorem q2i {tq:Nat → Prop} {P:Nat} {lets:Nat → Prop} {n d:Nat} {o:Option (List (Nat × Nat))} (h:BO tq P lets n d o):Wk (.tup [oW o,.bool o.isSome]) (fV o) :=by
 cases o with
 |none => exact Wk.refl _
 |some t =>
  have:t ≠ [] :=fun e => by
   have h2:RT tq P lets t :=h.1
   have :=h2.1.1
   rw [e] at this
   exact absurd this (by decide)
  show Wk _ (.tup [trA t,.bool true])
  rw [qg8 this]
  exact Wk.refl _
theorem qkr {N : AV} {l : List Int} (h : IL N l) (hl : l.length < 4611686018427387904) (a b : Nat) (ha4 : 4 ≤ a) (hab : a ≤ b) (hb : b ≤ 60) (p : Nat) (hp : 1 ≤ p ∧ p ≤ 3) (s : Int) (hs : 1 ≤ s ∧ s ≤ 3) (n d : Nat) (hn : n ≤ 50000) (hd : 1 ≤ d ∧ d ≤ 50000) :
    Pure prog 35 [rv (Int.ofNat a) (Int.ofNat b) (Int.ofNat p) s N,fv (Int.ofNat n) (Int.ofNat d)] (fV (nrT (tp a b l) p (mny p s) n d)) :=by
  have ha:1 ≤ a :=Nat.le_trans (Nat.le_of_ble_eq_true rfl) ha4
  have lN :=h.no
  have lF :=qw5 (nrT (tp a b l) p (mny p s) n d)
  have pm:∀ k:Nat,Pure prog 92 [rv (Int.ofNat a) (Int.ofNat b) (Int.ofNat p) s N,nv k] (.bool (decide (mny p s k))) :=fun k => qt3 h _ _ _ _ hs k
  have h60:∀ x,tp a b l x → 1 ≤ x ∧ x ≤ 60 :=fun x hx => qq1 ha hb hx
  have hpos1:∀ x,tp a b l x → 1 ≤ x :=fun x hx => (h60 x hx).1
  have h460:∀ x,tp a b l x → 4 ≤ x ∧ x ≤ 60 :=fun x hx => ⟨Nat.le_trans ha4 (qh5 hx).1,(h60 x hx).2⟩
  have hL1:∀ k x,x ∈ lstP (qak (tp a b l) k) 216001 → 1 ≤ x ∧ x ≤ 216000 :=fun k x hx => by
    have h1 :=(qbc _ _ _).1 hx
    exact ⟨(qbq h60 k x h1.2).1,by omega⟩
  have pp0:∀ k:Nat,k ≤ 3 → lstP (qak (tp a b l) k) 216001 = [] → Pure prog 96 [rv (Int.ofNat a) (Int.ofNat b) (Int.ofNat p) s N,nv k] .nils :=fun k hk e => by
    have :=qfp h hl a b ha hab hb (Int.ofNat p) s k hk
    rw [e] at this;exact this
  have pp1:∀ k:Nat,k ≤ 3 → lstP (qak (tp a b l) k) 216001 ≠ [] → Pure prog 96 [rv (Int.ofNat a) (Int.ofNat b) (Int.ofNat p) s N,nv k] (nl (zl (lstP (qak (tp a b l) k) 216001))) :=fun k hk e => by
    have :=qfp h hl a b ha hab hb (Int.ofNat p) s k hk
    rcases qco (zl (lstP (qak (tp a b l) k) 216001)) with ⟨z,_⟩ | z
    · exact absurd (List.map_eq_nil_iff.1 z) e
    · rwa [z] at this
  have pn1:∀ k:Nat,lstP (qak (tp a b l) k) 216001 ≠ [] → Pure prog 95 [nl (zl (lstP (qak (tp a b l) k) 216001)),fv (Int.ofNat n) (Int.ofNat d)] (pv (zp (rnF (lstP (qak (tp a b l) k) 216001) n d))) :=fun k e => qre _ e (qcf _ _) (hL1 k) (qc1 _ _) n d hn hd
  have pF:∀ k X Y:Nat,k ≤ 3 → X ≤ 216000 → Y ≤ 216000 → ∀ o,fstT (tp a b l) k X Y (a,a) = o → Pure prog 98 [rv (Int.ofNat a) (Int.ofNat b) (Int.ofNat p) s N,nv X,nv Y,nv k,fv (Int.ofNat a) (Int.ofNat a)] (fV o) :=fun k X Y hk hX hY o ho => by
    have :=qn3 h hl a b ha hab hb (Int.ofNat p) s k hk X Y (a,a) hX hY ha (Nat.le_trans hab hb) (Nat.le_trans hab hb)
    rwa [ho] at this
  have hno:∀ k:Nat,k ≤ 3 → lstP (qak (tp a b l) k) 216001 = [] → ∀ t,¬ Tk (tp a b l) k t :=fun k hk e t ht => by
    have h1 :=ht.prod.1
    have h2 :=(qbq h60 k _ h1).2
    have h3:60 ^ k ≤ 60 ^ 3 :=Nat.pow_le_pow_right (by omega) hk
    have h4 :=(qbc (qak (tp a b l) k) (xP t) 216001).2 ⟨by omega,h1⟩
    rw [e] at h4
    cases h4
  rcases h.cs with rfl | rfl
  all_goals
    refine zA fun S q pc hS hq hC hE => ?_
    conv=>whnf
    refine qbe hE hS (A :=Nat × Option (List (Nat × Nat))) [2,3] (fun (k,o) => [(6,oW o),(7,.bool o.isSome),(8,nv (k + 1))]) (fun _ => []) (fun _ => []) (fun (k,o) => k ≤ p ∧ BO (tp a b l) k (mny p s) n d o) (fun (k,_) => p - k) (0,none) (Nat.le_of_ble_eq_true rfl) rfl zG2 ⟨Nat.zero_le _,BO.zero _ _ _ _⟩ ?_
    intro (k,o) ⟨hk,hB⟩ M hM
    obtain rfl:M = 2 :=hM
    have e8:IntKind.i64.wrap (Int.ofNat (k + 1) + 1) = Int.ofNat (k + 1 + 1) :=qa2 (m :=k + 1 + 1) (by omega)
    have lt:∀ t:List (Nat × Nat),Live noL (pv (zp t)) :=fun t => pv_no _
    rcases o with _ | t
    all_goals
     conv=>whnf
     by_cases hk2:k + 1 ≤ p
     · refine qaa (zT (show Int.ofNat (k + 1) ≤ Int.ofNat p by show ((k + 1:Nat):Int) ≤ (p:Int);omega)) ?_
       conv=>whnf
       refine qab hC (pm (k + 1)) ?_
       conv=>whnf
       by_cases hm:mny p s (k + 1)
       · refine qad ((show (!decide (mny p s (k + 1))) = false by rw [zT hm];rfl)) ?_
         conv=>whnf
         by_cases hL:lstP (qak (tp a b l) (k + 1)) 216001 = []
         · refine qab hC (pp0 (k + 1) (by omega) hL) ?_
           conv=>whnf
           refine qab hC (qs5 (Int.ofNat n) (Int.ofNat d)) ?_
           conv=>whnf
           refine zd hS ?_
           conv=>whnf
           refine qae hE hS ?_
           conv=>whnf
           refine qae hE hS ?_
           conv=>whnf
           refine qa7 hq true rfl ?_
           conv=>whnf
           exact ⟨(k + 1,_),⟨hk2,BO.same hB (fun z => hno (k + 1) (by omega) hL z.2.choose z.2.choose_spec)⟩,by show p - (k + 1) < p - k;omega,Nat.le_refl _,(by refine ⟨rfl,rfl,rfl,rfl,rfl,rfl,2,rfl,?_,?_⟩ <;> repeat' (first | exact ⟨_,rfl,WkV.int e8⟩ | exact bz (pv_no _) | exact zZ | apply And.intro))⟩
         · refine qab hC (pp1 (k + 1) (by omega) hL) ?_
           conv=>whnf
           obtain ⟨R,hR⟩ : ∃ R,R = rnF (lstP (qak (tp a b l) (k + 1)) 216001) n d :=⟨_,rfl⟩
           have pnR :=pn1 (k + 1) hL
           rw [← hR] at pnR
           refine qab hC (pnR) ?_
           conv=>whnf
           refine zd hS ?_
           conv=>whnf
           have lz:(zp R).length = R.length :=qa9 R
           have lf :=qag (zp R)
           have hRl:R.length ≤ 432002 :=by
             have h1 :=qx0 (lstP (qak (tp a b l) (k + 1)) 216001) n d (lstP (qak (tp a b l) (k + 1)) 216001).length
             have h2 :=qc1 (qak (tp a b l) (k + 1)) 216001
             unfold rR at h1
             rw [List.take_length] at h1
             rw [hR]
             exact Nat.le_trans h1 (by omega)
           have hRb:∀ z,z ∈ R → (1 ≤ z.1 ∧ z.1 ≤ 216000) ∧ 1 ≤ z.2 ∧ z.2 ≤ 216000 :=fun z hz => by
             rw [hR] at hz
             have h1 :=(qmc (qcf _ _) (fun x hx => (hL1 (k + 1) x hx).1) hd.1).1 z hz
             exact ⟨hL1 _ _ h1.1,hL1 _ _ h1.2⟩
           refine qbe hE hS (A :=Nat × (Nat × Nat)) [2,3,6,7,8,9,10] (fun (i,_) => [(11,nv i)]) (fun (_,q) => [(8,.cells (.node (nv q.1) (.node (nv q.2) .nil .nil) .nil) 2 24)]) (fun _ => []) (fun (i,q) => i ≤ R.length ∧ (i = 0 ∧ q = (0,0) ∨ 0 < i ∧ q ∈ R.take i ∧ ∀ z,z ∈ R.take i → fle (dQ n d q) (dQ n d z))) (fun (i,_) => R.length - i) (0,(0,0)) (Nat.le_of_ble_eq_true rfl) rfl (by refine ⟨rfl,rfl,rfl,rfl,rfl,rfl,9,rfl,?_,?_⟩ <;> repeat' (first | exact qaj (qag _) | exact bz (pv_no _) | exact zZ | apply And.intro)) ⟨Nat.zero_le _,.inl ⟨rfl,rfl⟩⟩ ?_
           intro (i,q) ⟨hi,hq⟩ M hM
           obtain rfl:M = 9 :=hM
           conv=>whnf
           by_cases hi2:i < R.length
           · have c1:decide (Int.ofNat i < ((zp R).length:Int)) = true :=zT (by rw [lz];show (i:Int) < _;omega)
             repeat ((first
               | refine qam c1 ?_
               | refine qal c1 ?_
               | refine qac (qah c1) ?_
               | refine qaa c1 ?_
               | refine zd hS ?_);conv=>whnf)
             have ir:i < (zp R).length :=by rw [lz];exact hi2
             have hzm :=qfr R hi2
             have hzb :=hRb _ hzm
             have hi1:IntKind.i64.wrap (Int.ofNat i + 1) = Int.ofNat (i + 1) :=qa2 (m :=i + 1) (by omega)
             have htk:R.take (i + 1) = R.take i ++ [gq R i] :=qke R hi2
             by_cases h0:i = 0
             · have c2:(Int.ofNat i == 0) = true :=beq_iff_eq.2 (congrArg Int.ofNat h0)
               have hIn:0 < i + 1 ∧ gq R i ∈ R.take (i + 1) ∧ ∀ z,z ∈ R.take (i + 1) → fle (dQ n d (gq R i)) (dQ n d z) :=⟨Nat.succ_pos _,by rw [htk];simp,fun z hz => by
                 rw [htk,show R.take i = [] by rw [h0];rfl] at hz
                 rw [List.mem_singleton.1 hz]
                 exact qiz _⟩
               repeat ((first
                 | refine qam c2 ?_
                 | refine qal c2 ?_
                 | refine qac (qah c2) ?_
                 | refine qaa c2 ?_
                 | refine qaz (qwy c2) ?_
                 | refine qa0 (qwy c2) ?_
                 | refine qac (qar (qwy c2)) ?_
                 | refine qad (qwy c2) ?_
                 | refine qam (qaf ir) ?_
                 | refine qal (qaf ir) ?_
                 | refine qac (qah (qaf ir)) ?_
                 | refine qaa (qaf ir) ?_
                 | refine zd hS ?_);conv=>whnf)
               refine qac (takP (qbw R hi2)) ?_
               conv=>whnf
               exact ⟨(i + 1,gq R i),⟨hi2,.inr hIn⟩,by show R.length - (i + 1) < R.length - i;omega,Nat.le_refl _,(by refine ⟨rfl,rfl,rfl,rfl,rfl,rfl,9,rfl,?_,?_⟩ <;> repeat' (first | exact qaj (qag _) | exact bz (pv_no _) | exact zZ | apply And.intro))⟩
             · have c2:(Int.ofNat i == 0) = false :=beq_eq_false_iff_ne.2 (fun e => h0 (Int.ofNat.inj e))
               have hq1 :=hq.resolve_left (fun e => h0 e.1)
               have hqb :=hRb _ (List.mem_of_mem_take hq1.2.1)
               have b1 :=qhh (n :=n) (d :=d) (x :=(gq R i).1) (y :=(gq R i).2) (w :=q.2) hn hd.2 hzb.1.2 hzb.2.2 hqb.2.2
               have b2 :=qhh (n :=n) (d :=d) (x :=q.1) (y :=q.2) (w :=(gq R i).2) hn hd.2 hqb.1.2 hqb.2.2 hzb.2.2
               have pa1 :=qcy n d (gq R i).1 (gq R i).2 (by omega) (by omega)
               have pa2 :=qcy n d q.1 q.2 (by omega) (by omega)
               have w1:IntKind.i64.wrap (Int.ofNat (gapN ((gq R i).1 * d) (n * (gq R i).2)) * Int.ofNat q.2) = Int.ofNat (gapN ((gq R i).1 * d) (n * (gq R i).2) * q.2) :=mulN (by omega)
               have w2:IntKind.i64.wrap (Int.ofNat (gapN (q.1 * d) (n * q.2)) * Int.ofNat (gq R i).2) = Int.ofNat (gapN (q.1 * d) (n * q.2) * (gq R i).2) :=mulN (by omega)
               repeat ((first
                 | refine qaz c2 ?_
                 | refine qa0 c2 ?_
                 | refine qac (qar c2) ?_
                 | refine qad c2 ?_
                 | refine qam (qhl c2) ?_
                 | refine qal (qhl c2) ?_
                 | refine qac (qah (qhl c2)) ?_
                 | refine qaa (qhl c2) ?_
                 | refine qam (qaf ir) ?_
                 | refine qal (qaf ir) ?_
                 | refine qac (qah (qaf ir)) ?_
                 | refine qaa (qaf ir) ?_
                 | refine zd hS ?_);conv=>whnf)
               refine qac (takP (qbw R hi2)) ?_
               conv=>whnf
               repeat ((first
                 | refine qaz c2 ?_
                 | refine qa0 c2 ?_
                 | refine qac (qar c2) ?_
                 | refine qad c2 ?_
                 | refine qam (qhl c2) ?_
                 | refine qal (qhl c2) ?_
                 | refine qac (qah (qhl c2)) ?_
                 | refine qaa (qhl c2) ?_
                 | refine qam (qaf ir) ?_
                 | refine qal (qaf ir) ?_
                 | refine qac (qah (qaf ir)) ?_
                 | refine qaa (qaf ir) ?_
                 | refine qab hC (pa1) ?_
                 | refine qab hC (pa2) ?_
                 | refine zd hS ?_);conv=>whnf)
               refine qac (nthP (qg0 R i hi2)) ?_
               conv=>whnf
               repeat ((first
                 | refine qaz c2 ?_
                 | refine qa0 c2 ?_
                 | refine qac (qar c2) ?_
                 | refine qad c2 ?_
                 | refine qam (qhl c2) ?_
                 | refine qal (qhl c2) ?_
                 | refine qac (qah (qhl c2)) ?_
                 | refine qaa (qhl c2) ?_
                 | refine qam (qaf ir) ?_
                 | refine qal (qaf ir) ?_
                 | refine qac (qah (qaf ir)) ?_
                 | refine qaa (qaf ir) ?_
                 | refine qab hC (pa1) ?_
                 | refine qab hC (pa2) ?_
                 | refine zd hS ?_);conv=>whnf)
               by_cases h3:gapN ((gq R i).1 * d) (n * (gq R i).2) * q.2 < gapN (q.1 * d) (n * q.2) * (gq R i).2
               · have c3:decide (IntKind.i64.wrap (Int.ofNat (gapN ((gq R i).1 * d) (n * (gq R i).2)) * Int.ofNat q.2) < IntKind.i64.wrap (Int.ofNat (gapN (q.1 * d) (n * q.2)) * Int.ofNat (gq R i).2)) = true :=zT (by rw [w1,w2];exact Int.ofNat_lt.2 h3)
                 repeat ((first
                   | refine qaz c2 ?_
                   | refine qa0 c2 ?_
                   | refine qac (qar c2) ?_
                   | refine qad c2 ?_
                   | refine qam c3 ?_
                   | refine qal c3 ?_
                   | refine qac (qah c3) ?_
                   | refine qaa c3 ?_
                   | refine qam (qaf ir) ?_
                   | refine qal (qaf ir) ?_
                   | refine qac (qah (qaf ir)) ?_
                   | refine qaa (qaf ir) ?_
                   | refine zd hS ?_);conv=>whnf)
                 refine qac (takP (qbw R hi2)) ?_
                 conv=>whnf
                 exact ⟨(i + 1,gq R i),⟨hi2,.inr ⟨Nat.succ_pos _,by rw [htk];simp,fun z hz => by
                   rw [htk] at hz
                   rcases List.mem_append.1 hz with hz | hz
                   · exact qb5 (a :=dQ n d (gq R i)) (b :=dQ n d q) (c :=dQ n d z) hqb.2.1 (Nat.le_of_lt h3) (hq1.2.2 z hz)
                   · rw [List.mem_singleton.1 hz];exact qiz _⟩⟩,by show R.length - (i + 1) < R.length - i;omega,Nat.le_refl _,(by refine ⟨rfl,rfl,rfl,rfl,rfl,rfl,9,rfl,?_,?_⟩ <;> repeat' (first | exact qaj (qag _) | exact bz (pv_no _) | exact zZ | apply And.intro))⟩
               · have c3:decide (IntKind.i64.wrap (Int.ofNat (gapN ((gq R i).1 * d) (n * (gq R i).2)) * Int.ofNat q.2) < IntKind.i64.wrap (Int.ofNat (gapN (q.1 * d) (n * q.2)) * Int.ofNat (gq R i).2)) = false :=zF (by rw [w1,w2];exact fun z => h3 (Int.ofNat_lt.1 z))
                 repeat ((first
                   | refine qaz c2 ?_
                   | refine qa0 c2 ?_
                   | refine qac (qar c2) ?_
                   | refine qad c2 ?_
                   | refine qaz c3 ?_
                   | refine qa0 c3 ?_
                   | refine qac (qar c3) ?_
                   | refine qad c3 ?_
                   | refine qam (qaf ir) ?_
                   | refine qal (qaf ir) ?_
                   | refine qac (qah (qaf ir)) ?_
                   | refine qaa (qaf ir) ?_
                   | refine zd hS ?_);conv=>whnf)
                 exact ⟨(i + 1,q),⟨hi2,.inr ⟨Nat.succ_pos _,by rw [htk];exact List.mem_append_left _ hq1.2.1,fun z hz => by
                   rw [htk] at hz
                   rcases List.mem_append.1 hz with hz | hz
                   · exact hq1.2.2 z hz
                   · rw [List.mem_singleton.1 hz];exact Nat.le_of_not_lt h3⟩⟩,by show R.length - (i + 1) < R.length - i;omega,Nat.le_refl _,(by refine ⟨rfl,rfl,rfl,rfl,rfl,rfl,9,rfl,?_,?_⟩ <;> repeat' (first | exact qaj (qag _) | exact bz (pv_no _) | exact zZ | apply And.intro))⟩
           · have c1:decide (Int.ofNat i < ((zp R).length:Int)) = false :=zF (by rw [lz];show ¬ (i:Int) < _;omega)
             repeat ((first
               | refine qaz c1 ?_
               | refine qa0 c1 ?_
               | refine qac (qar c1) ?_
               | refine qad c1 ?_
               | refine zd hS ?_);conv=>whnf)
             refine .inl ?_
             conv=>whnf
             have hR0:R ≠ [] :=by
               rw [hR]
               exact q0x hL
             have hi0:i = R.length :=by omega
             have hq1 :=hq.resolve_left (fun e => hR0 (List.length_eq_zero_iff.1 (by omega)))
             have hqR:q ∈ R :=List.mem_of_mem_take hq1.2.1
             have hqm:∀ z,z ∈ R → fle (dQ n d q) (dQ n d z) :=fun z hz => hq1.2.2 z (by rw [hi0,List.take_length];exact hz)
             clear hq hq1 hi c1 hi2
             have hM60:60 ^ (k + 1) < 216001 :=Nat.lt_of_le_of_lt (Nat.pow_le_pow_right (by omega) (show k + 1 ≤ 3 by omega)) (by decide)
             refine qbe hE hS (A :=Nat × Option (List (Nat × Nat))) [2,3,6,7,8,9,10] (fun (j,w) => [(12,oW w),(13,nv j)]) (fun _ => []) (fun _ => []) (fun (j,w) => j ≤ R.length ∧ OwI (tp a b l) (k + 1) n d (a,a) q (R.take j) w) (fun (j,_) => R.length - j) (0,none) (Nat.le_of_ble_eq_true rfl) rfl (by refine ⟨rfl,rfl,rfl,rfl,rfl,rfl,9,rfl,?_,?_⟩ <;> repeat' (first | exact qaj (qag _) | exact bz (pv_no _) | exact zZ | apply And.intro)) ⟨Nat.zero_le _,OwI.zero⟩ ?_
             intro (j,w) ⟨hj,hw⟩ M hM
             obtain rfl:M = 9 :=hM
             have hj1:j < R.length → IntKind.i64.wrap (Int.ofNat j + 1) = Int.ofNat (j + 1) :=fun h => qa2 (m :=j + 1) (by omega)
             rcases w with _ | w
             · conv=>whnf
               by_cases hj2:j < R.length
               · have c1:decide (Int.ofNat j < ((zp R).length:Int)) = true :=zT (by rw [lz];show (j:Int) < _;omega)
                 have jr:j < (zp R).length :=by rw [lz];exact hj2
                 have hzb :=hRb _ (qfr R hj2)
                 have hqb :=hRb _ hqR
                 have b1 :=qhh (n :=n) (d :=d) (x :=(gq R j).1) (y :=(gq R j).2) (w :=q.2) hn hd.2 hzb.1.2 hzb.2.2 hqb.2.2
                 have b2 :=qhh (n :=n) (d :=d) (x :=q.1) (y :=q.2) (w :=(gq R j).2) hn hd.2 hqb.1.2 hqb.2.2 hzb.2.2
                 have pa1 :=qcy n d (gq R j).1 (gq R j).2 (by omega) (by omega)
                 have pa2 :=qcy n d q.1 q.2 (by omega) (by omega)
                 have w1:IntKind.i64.wrap (Int.ofNat (gapN ((gq R j).1 * d) (n * (gq R j).2)) * Int.ofNat q.2) = Int.ofNat (gapN ((gq R j).1 * d) (n * (gq R j).2) * q.2) :=mulN (by omega)
                 have w2:IntKind.i64.wrap (Int.ofNat (gapN (q.1 * d) (n * q.2)) * Int.ofNat (gq R j).2) = Int.ofNat (gapN (q.1 * d) (n * q.2) * (gq R j).2) :=mulN (by omega)
                 have htk:R.take (j + 1) = R.take j ++ [gq R j] :=qke R hj2
                 repeat ((first
                   | refine qam c1 ?_
                   | refine qal c1 ?_
                   | refine qac (qah c1) ?_
                   | refine qaa c1 ?_
                   | refine qam (qaf jr) ?_
                   | refine qal (qaf jr) ?_
                   | refine qac (qah (qaf jr)) ?_
                   | refine qaa (qaf jr) ?_
                   | refine zd hS ?_);conv=>whnf)
                 refine qac (takP (qbw R hj2)) ?_
                 conv=>whnf
                 repeat ((first
                   | refine qam (qaf jr) ?_
                   | refine qal (qaf jr) ?_
                   | refine qac (qah (qaf jr)) ?_
                   | refine qaa (qaf jr) ?_
                   | refine qab hC (pa1) ?_
                   | refine qab hC (pa2) ?_
                   | refine zd hS ?_);conv=>whnf)
                 refine qac (nthP (qg0 R j hj2)) ?_
                 conv=>whnf
                 repeat ((first
                   | refine qam (qaf jr) ?_
                   | refine qal (qaf jr) ?_
                   | refine qac (qah (qaf jr)) ?_
                   | refine qaa (qaf jr) ?_
                   | refine qab hC (pa1) ?_
                   | refine qab hC (pa2) ?_
                   | refine zd hS ?_);conv=>whnf)
                 by_cases h3:gapN ((gq R j).1 * d) (n * (gq R j).2) * q.2 = gapN (q.1 * d) (n * q.2) * (gq R j).2
                 · have c3:(IntKind.i64.wrap (Int.ofNat (gapN ((gq R j).1 * d) (n * (gq R j).2)) * Int.ofNat q.2) != IntKind.i64.wrap (Int.ofNat (gapN (q.1 * d) (n * q.2)) * Int.ofNat (gq R j).2)) = false :=by rw [w1,w2,h3];exact bne_self_eq_false _
                   repeat ((first
                     | refine qaz c3 ?_
                     | refine qa0 c3 ?_
                     | refine qac (qar c3) ?_
                     | refine qad c3 ?_
                     | refine qam (qaf jr) ?_
                     | refine qal (qaf jr) ?_
                     | refine qac (qah (qaf jr)) ?_
                     | refine qaa (qaf jr) ?_
                     | refine zd hS ?_);conv=>whnf)
                   refine qac (nthP (qof R j hj2)) ?_
                   conv=>whnf
                   repeat ((first
                     | refine qaz c3 ?_
                     | refine qa0 c3 ?_
                     | refine qac (qar c3) ?_
                     | refine qad c3 ?_
                     | refine qam (qaf jr) ?_
                     | refine qal (qaf jr) ?_
                     | refine qac (qah (qaf jr)) ?_
                     | refine qaa (qaf jr) ?_
                     | refine zd hS ?_);conv=>whnf)
                   refine qac (nthP (qg0 R j hj2)) ?_
                   conv=>whnf
                   repeat ((first
                     | refine qaz c3 ?_
                     | refine qa0 c3 ?_
                     | refine qac (qar c3) ?_
                     | refine qad c3 ?_
                     | refine qam (qaf jr) ?_
                     | refine qal (qaf jr) ?_
                     | refine qac (qah (qaf jr)) ?_
                     | refine qaa (qaf jr) ?_
                     | refine zd hS ?_);conv=>whnf)
                   have hj3 :=hj1 hj2
                   refine qso (fstT (tp a b l) (k + 1) (gq R j).1 (gq R j).2 (a,a)) (fun hf => ?_) (fun hf => ?_) (fun q1 r1 hf => ?_)
                   · have pf :=pF (k + 1) (gq R j).1 (gq R j).2 (by omega) hzb.1.2 hzb.2.2 _ hf
                     repeat ((first
                       | refine qaz c3 ?_
                       | refine qa0 c3 ?_
                       | refine qac (qar c3) ?_
                       | refine qad c3 ?_
                       | refine qab hC (pf) ?_
                       | refine zd hS ?_);conv=>whnf)
                     exact ⟨(j + 1,none),⟨hj2,htk ▸ OwI.skip hw (fun t _ e => by rw [hf] at e;cases e)⟩,by show R.length - (j + 1) < R.length - j;omega,Nat.le_refl _,(by refine ⟨rfl,rfl,rfl,rfl,rfl,rfl,9,rfl,?_,?_⟩ <;> repeat' (first | exact qaj (qag _) | exact bz (pv_no _) | exact zZ | apply And.intro))⟩
                   · exact absurd (qlp hf) (by show ¬ 0 = k + 1;omega)
                   · have pf :=pF (k + 1) (gq R j).1 (gq R j).2 (by omega) hzb.1.2 hzb.2.2 _ hf
                     repeat ((first
                       | refine qaz c3 ?_
                       | refine qa0 c3 ?_
                       | refine qac (qar c3) ?_
                       | refine qad c3 ?_
                       | refine qab hC (pf) ?_
                       | refine zd hS ?_);conv=>whnf)
                     refine qa7 hq true rfl ?_
                     conv=>whnf
                     exact ⟨(j + 1,some (q1 :: r1)),⟨hj2,htk ▸ OwI.new hw h3 hf⟩,by show R.length - (j + 1) < R.length - j;omega,Nat.le_refl _,(by refine ⟨rfl,rfl,rfl,rfl,rfl,rfl,9,rfl,?_,?_⟩ <;> repeat' (first | exact qaj (qag _) | exact bz (pv_no _) | exact zZ | apply And.intro))⟩
                 · have c3:(IntKind.i64.wrap (Int.ofNat (gapN ((gq R j).1 * d) (n * (gq R j).2)) * Int.ofNat q.2) != IntKind.i64.wrap (Int.ofNat (gapN (q.1 * d) (n * q.2)) * Int.ofNat (gq R j).2)) = true :=by rw [w1,w2];exact bne_iff_ne.2 (fun e => h3 (Int.ofNat.inj e))
                   repeat ((first
                     | refine qam c3 ?_
                     | refine qal c3 ?_
                     | refine qac (qah c3) ?_
                     | refine qaa c3 ?_
                     | refine zd hS ?_);conv=>whnf)
                   have hj3 :=hj1 hj2
                   exact ⟨(j + 1,none),⟨hj2,htk ▸ OwI.skip hw (fun t e => absurd e h3)⟩,by show R.length - (j + 1) < R.length - j;omega,Nat.le_refl _,(by refine ⟨rfl,rfl,rfl,rfl,rfl,rfl,9,rfl,?_,?_⟩ <;> repeat' (first | exact qaj (qag _) | exact bz (pv_no _) | exact zZ | apply And.intro))⟩
               · have hRt:R.take j = R :=List.take_of_length_le (by omega)
                 exact (OwI.no h60 (fun x hx => (qh5 hx).1) hd.1 hM60 hRt hR hqR hw).elim
             · conv=>whnf
               by_cases hj2:j < R.length
               · have c1:decide (Int.ofNat j < ((zp R).length:Int)) = true :=zT (by rw [lz];show (j:Int) < _;omega)
                 have jr:j < (zp R).length :=by rw [lz];exact hj2
                 have hzb :=hRb _ (qfr R hj2)
                 have hqb :=hRb _ hqR
                 have b1 :=qhh (n :=n) (d :=d) (x :=(gq R j).1) (y :=(gq R j).2) (w :=q.2) hn hd.2 hzb.1.2 hzb.2.2 hqb.2.2
                 have b2 :=qhh (n :=n) (d :=d) (x :=q.1) (y :=q.2) (w :=(gq R j).2) hn hd.2 hqb.1.2 hqb.2.2 hzb.2.2
                 have pa1 :=qcy n d (gq R j).1 (gq R j).2 (by omega) (by omega)
                 have pa2 :=qcy n d q.1 q.2 (by omega) (by omega)
                 have w1:IntKind.i64.wrap (Int.ofNat (gapN ((gq R j).1 * d) (n * (gq R j).2)) * Int.ofNat q.2) = Int.ofNat (gapN ((gq R j).1 * d) (n * (gq R j).2) * q.2) :=mulN (by omega)
                 have w2:IntKind.i64.wrap (Int.ofNat (gapN (q.1 * d) (n * q.2)) * Int.ofNat (gq R j).2) = Int.ofNat (gapN (q.1 * d) (n * q.2) * (gq R j).2) :=mulN (by omega)
                 have htk:R.take (j + 1) = R.take j ++ [gq R j] :=qke R hj2
                 repeat ((first
                   | refine qam c1 ?_
                   | refine qal c1 ?_
                   | refine qac (qah c1) ?_
                   | refine qaa c1 ?_
                   | refine qam (qaf jr) ?_
                   | refine qal (qaf jr) ?_
                   | refine qac (qah (qaf jr)) ?_
                   | refine qaa (qaf jr) ?_
                   | refine zd hS ?_);conv=>whnf)
                 refine qac (takP (qbw R hj2)) ?_
                 conv=>whnf
                 repeat ((first
                   | refine qam (qaf jr) ?_
                   | refine qal (qaf jr) ?_
                   | refine qac (qah (qaf jr)) ?_
                   | refine qaa (qaf jr) ?_
                   | refine qab hC (pa1) ?_
                   | refine qab hC (pa2) ?_
                   | refine zd hS ?_);conv=>whnf)
                 refine qac (nthP (qg0 R j hj2)) ?_
                 conv=>whnf
                 repeat ((first
                   | refine qam (qaf jr) ?_
                   | refine qal (qaf jr) ?_
                   | refine qac (qah (qaf jr)) ?_
                   | refine qaa (qaf jr) ?_
                   | refine qab hC (pa1) ?_
                   | refine qab hC (pa2) ?_
                   | refine zd hS ?_);conv=>whnf)
                 by_cases h3:gapN ((gq R j).1 * d) (n * (gq R j).2) * q.2 = gapN (q.1 * d) (n * q.2) * (gq R j).2
                 · have c3:(IntKind.i64.wrap (Int.ofNat (gapN ((gq R j).1 * d) (n * (gq R j).2)) * Int.ofNat q.2) != IntKind.i64.wrap (Int.ofNat (gapN (q.1 * d) (n * q.2)) * Int.ofNat (gq R j).2)) = false :=by rw [w1,w2,h3];exact bne_self_eq_false _
                   repeat ((first
                     | refine qaz c3 ?_
                     | refine qa0 c3 ?_
                     | refine qac (qar c3) ?_
                     | refine qad c3 ?_
                     | refine qam (qaf jr) ?_
                     | refine qal (qaf jr) ?_
                     | refine qac (qah (qaf jr)) ?_
                     | refine qaa (qaf jr) ?_
                     | refine zd hS ?_);conv=>whnf)
                   refine qac (nthP (qof R j hj2)) ?_
                   conv=>whnf
                   repeat ((first
                     | refine qaz c3 ?_
                     | refine qa0 c3 ?_
                     | refine qac (qar c3) ?_
                     | refine qad c3 ?_
                     | refine qam (qaf jr) ?_
                     | refine qal (qaf jr) ?_
                     | refine qac (qah (qaf jr)) ?_
                     | refine qaa (qaf jr) ?_
                     | refine zd hS ?_);conv=>whnf)
                   refine qac (nthP (qg0 R j hj2)) ?_
                   conv=>whnf
                   repeat ((first
                     | refine qaz c3 ?_
                     | refine qa0 c3 ?_
                     | refine qac (qar c3) ?_
                     | refine qad c3 ?_
                     | refine qam (qaf jr) ?_
                     | refine qal (qaf jr) ?_
                     | refine qac (qah (qaf jr)) ?_
                     | refine qaa (qaf jr) ?_
                     | refine zd hS ?_);conv=>whnf)
                   have hj3 :=hj1 hj2
                   refine qso (fstT (tp a b l) (k + 1) (gq R j).1 (gq R j).2 (a,a)) (fun hf => ?_) (fun hf => ?_) (fun q1 r1 hf => ?_)
                   · have pf :=pF (k + 1) (gq R j).1 (gq R j).2 (by omega) hzb.1.2 hzb.2.2 _ hf
                     repeat ((first
                       | refine qaz c3 ?_
                       | refine qa0 c3 ?_
                       | refine qac (qar c3) ?_
                       | refine qad c3 ?_
                       | refine qab hC (pf) ?_
                       | refine zd hS ?_);conv=>whnf)
                     exact ⟨(j + 1,some w),⟨hj2,htk ▸ OwI.skip hw (fun t _ e => by rw [hf] at e;cases e)⟩,by show R.length - (j + 1) < R.length - j;omega,Nat.le_refl _,(by refine ⟨rfl,rfl,rfl,rfl,rfl,rfl,9,rfl,?_,?_⟩ <;> repeat' (first | exact qaj (qag _) | exact bz (pv_no _) | exact zZ | apply And.intro))⟩
                   · exact absurd (qlp hf) (by show ¬ 0 = k + 1;omega)
                   · have pf :=pF (k + 1) (gq R j).1 (gq R j).2 (by omega) hzb.1.2 hzb.2.2 _ hf
                     repeat ((first
                       | refine qaz c3 ?_
                       | refine qa0 c3 ?_
                       | refine qac (qar c3) ?_
                       | refine qad c3 ?_
                       | refine qab hC (pf) ?_
                       | refine zd hS ?_);conv=>whnf)
                     refine qa7 hq false rfl ?_
                     conv=>whnf
                     have hlw:(q1 :: r1).length = w.length :=(qlp hf).trans (OwI.len hw).symm
                     have ps :=qe4 (q1 :: r1) w (by rw [qlp hf];omega)
                     by_cases h6:ltL (q1 :: r1) w
                     · rw [(qnp hlw).2 h6] at ps
                       refine qab hC (ps) ?_
                       conv=>whnf
                       exact ⟨(j + 1,some (q1 :: r1)),⟨hj2,htk ▸ OwI.lt hw h3 hf h6⟩,by show R.length - (j + 1) < R.length - j;omega,Nat.le_refl _,(by refine ⟨rfl,rfl,rfl,rfl,rfl,rfl,9,rfl,?_,?_⟩ <;> repeat' (first | exact qaj (qag _) | exact bz (pv_no _) | exact zZ | apply And.intro))⟩
                     · rw [Bool.eq_false_iff.2 (fun e => h6 ((qnp hlw).1 e))] at ps
                       refine qab hC (ps) ?_
                       conv=>whnf
                       exact ⟨(j + 1,some w),⟨hj2,htk ▸ OwI.ge hw hf h6⟩,by show R.length - (j + 1) < R.length - j;omega,Nat.le_refl _,(by refine ⟨rfl,rfl,rfl,rfl,rfl,rfl,9,rfl,?_,?_⟩ <;> repeat' (first | exact qaj (qag _) | exact bz (pv_no _) | exact zZ | apply And.intro))⟩
                 · have c3:(IntKind.i64.wrap (Int.ofNat (gapN ((gq R j).1 * d) (n * (gq R j).2)) * Int.ofNat q.2) != IntKind.i64.wrap (Int.ofNat (gapN (q.1 * d) (n * q.2)) * Int.ofNat (gq R j).2)) = true :=by rw [w1,w2];exact bne_iff_ne.2 (fun e => h3 (Int.ofNat.inj e))
                   repeat ((first
                     | refine qam c3 ?_
                     | refine qal c3 ?_
                     | refine qac (qah c3) ?_
                     | refine qaa c3 ?_
                     | refine zd hS ?_);conv=>whnf)
                   have hj3 :=hj1 hj2
                   exact ⟨(j + 1,some w),⟨hj2,htk ▸ OwI.skip hw (fun t e => absurd e h3)⟩,by show R.length - (j + 1) < R.length - j;omega,Nat.le_refl _,(by refine ⟨rfl,rfl,rfl,rfl,rfl,rfl,9,rfl,?_,?_⟩ <;> repeat' (first | exact qaj (qag _) | exact bz (pv_no _) | exact zZ | apply And.intro))⟩
               · have hRt:R.take j = R :=List.take_of_length_le (by omega)
                 have hop :=OwI.opt h60 (fun x hx => (qh5 hx).1) hd.1 hM60 hRt hR hqR hqm hw
                 have c1:decide (Int.ofNat j < ((zp R).length:Int)) = false :=zF (by rw [lz];show ¬ (j:Int) < _;omega)
                 have tw :=qyn h460 (t :=w) (by rw [hop.1.len];omega) hop.1.all
                 repeat ((first
                   | refine qaz c1 ?_
                   | refine qa0 c1 ?_
                   | refine qac (qar c1) ?_
                   | refine qad c1 ?_
                   | refine zd hS ?_);conv=>whnf)
                 refine .inl ?_
                 conv=>whnf
                 refine qa7 hq false rfl ?_
                 conv=>whnf
                 first
                   | exact ⟨(k + 1,some w),⟨hk2,BO.new hpos1 hB hm hop (fun t e => by cases e)⟩,by show p - (k + 1) < p - k;omega,Nat.le_refl _,(by refine ⟨rfl,rfl,rfl,rfl,rfl,rfl,2,rfl,?_,?_⟩ <;> repeat' (first | exact ⟨_,rfl,WkV.int e8⟩ | exact bz (pv_no _) | exact zZ | apply And.intro))⟩
                   | skip
                     have tt :=qyn h460 (t :=t) (BO.len3 hp.2 hk hB) (BO.all hB)
                     have pn :=qmf tw tt n d hn hd
                     have yw :=qdp hpos1 hop.1.all
                     have yt :=qdp hpos1 (BO.all hB)
                     by_cases h5:farN n d (redF (xP w) (yP w)).1 (redF (xP w) (yP w)).2 (redF (xP t) (yP t)).2 < farN n d (redF (xP t) (yP t)).1 (redF (xP t) (yP t)).2 (redF (xP w) (yP w)).2
                     · refine qab hC (pn) ?_
                       conv=>whnf
                       refine qaa (qzj h5) ?_
                       conv=>whnf
                       exact ⟨(k + 1,some w),⟨hk2,BO.new hpos1 hB hm hop (fun t' e => by cases e;exact fun e => absurd h5 (Nat.not_lt.2 ((qp4 yt yw).2 e)))⟩,by show p - (k + 1) < p - k;omega,Nat.le_refl _,(by refine ⟨rfl,rfl,rfl,rfl,rfl,rfl,2,rfl,?_,?_⟩ <;> repeat' (first | exact ⟨_,rfl,WkV.int e8⟩ | exact bz (pv_no _) | exact zZ | apply And.intro))⟩
                     · refine qab hC (pn) ?_
                       conv=>whnf
                       refine qad (qzk h5) ?_
                       conv=>whnf
                       exact ⟨(k + 1,some t),⟨hk2,BO.old hpos1 hB hop ((qp4 yt yw).1 (Nat.le_of_not_lt h5))⟩,by show p - (k + 1) < p - k;omega,Nat.le_refl _,(by refine ⟨rfl,rfl,rfl,rfl,rfl,rfl,2,rfl,?_,?_⟩ <;> repeat' (first | exact ⟨_,rfl,WkV.int e8⟩ | exact bz (pv_no _) | exact zZ | apply And.intro))⟩
       · refine qaa ((show (!decide (mny p s (k + 1))) = true by rw [zF hm];rfl)) ?_
         conv=>whnf
         exact ⟨(k + 1,_),⟨hk2,BO.same hB (fun z => hm z.1)⟩,by show p - (k + 1) < p - k;omega,Nat.le_refl _,(by refine ⟨rfl,rfl,rfl,rfl,rfl,rfl,2,rfl,?_,?_⟩ <;> repeat' (first | exact ⟨_,rfl,WkV.int e8⟩ | exact bz (pv_no _) | exact zZ | apply And.intro))⟩
     · refine qad (zF (show ¬ Int.ofNat (k + 1) ≤ Int.ofNat p by show ¬ ((k + 1:Nat):Int) ≤ (p:Int);omega)) ?_
       conv=>whnf
       have ek:k = p :=by omega
       rw [ek] at hB
       rw [qmn hB]
       refine .inl ?_
       conv=>whnf
       exact ⟨_,rfl,q2i hB⟩
end
end Go.Abs.Seat
