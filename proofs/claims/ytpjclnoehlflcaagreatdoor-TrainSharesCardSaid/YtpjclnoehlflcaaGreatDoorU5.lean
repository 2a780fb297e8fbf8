/-
  Code cut between two parts: the first part ends in one of some states, of each of which less may be known; the second part is carried out from there once.
  Parts of code that are not yet carried out: blocks, and loops.
  From a pure call to the kit's own words, with arguments.
-/
import Derived.Test.YtpjclnoehlflcaaGreatDoorU4
import Derived.Test.YtpjclnoehlflcaaGreatDoorU3
namespace Go.Abs
open Go
noncomputable section
theorem qs7 {P:Program} {E:EqT → PcT → Env} {q0:EqT} (hE:(E q0 (symPc P)).Ok) (hP:(E q0 (symPc P)).P = P) {f:FuncId} {args:List AV} {v:AV} (ha:Lives noL args) (hl:Live noL v)
  (h:∀ S q pc,S = symSub P → q = q0 → pc = symPc P → (E q pc).Ok → exFn (E q pc) S f .normal args .no .nil 0 fun e _ _ _ _ => ∃ u,e = .ret u ∧ Wk u v):Pure P f args v :=by
 have hs :=qbx P
 obtain ⟨e,pm',h',n',_,⟨u,rfl,hw⟩,_,_,h3⟩ :=qfc hE (S :=symSub P) (by rw [hP];exact hs) f .normal args .no .nil 0 _ (h _ _ _ rfl rfl rfl hE) qey
 refine qkv (fun B => ?_) ha hw hl
 obtain ⟨H',h4,h5⟩ :=h3 B AH.nil qmy.symm
 rw [hP] at h5
 exact ⟨H',CSem.of_F h5⟩
theorem qb2 {P:Program} {S:Sub} (hS:S = symSub P) {x y:Code} {s:AS} {K:KE}
  (h:S.code x s fun e s' => @AEx.rec (fun _ => Prop) (S.code y s' K) (fun id => K (.exit id) s') (K .ret s') (fun l => K (.panic l) s') e):S.code (.seq x y) s K :=by
 subst hS
 intro he
 obtain ⟨e,s1,h1,h2,h3⟩ :=h he
 by_cases hn:e = .normal
 ·subst hn
  obtain ⟨e2,s2,h4,h5,h6⟩ :=h1 h2.he
  refine ⟨e2,s2,h4,h2.trans h5,fun B H hH => ?_⟩
  obtain ⟨H1,k1,k2⟩ :=h3 B H hH
  obtain ⟨H2,k3,k4⟩ :=h6 B H1 k1
  exact ⟨H2,k3,Sem.seq k2 k4⟩
 ·refine ⟨e,s1,?_,h2,fun B H hH => ?_⟩
  ·cases e <;> first
    |exact absurd rfl hn
    |exact h1
  ·obtain ⟨H1,k1,k2⟩ :=h3 B H hH
   exact ⟨H1,k1,Sem.seq_exit k2 hn⟩
theorem qd1 {P:Program} {S:Sub} (hS:S = symSub P) {A:Type} {x y:Code} {tm:Tr AV} {df:List ADf} {pm:APm} {rd:Bool} {h:Tr AObj} {n b:Nat} {W:List Nat} {K:KE}
  (keep:List Nat) (ut:A → List (Nat × AV)) (uh:A → List (Nat × AObj)) (ux:A → List AObj) (I:A → Prop) (hbn:b ≤ n)
  (h1:S.code x ⟨tm,df,pm,rd,h,n,b,W⟩ fun e s' => @AEx.rec (fun _ => Prop) (∃ a,I a ∧ AtG tm rd h n b W keep (ut a) (uh a) (ux a) s') (fun id => K (.exit id) s') (K .ret s') (fun l => K (.panic l) s') e)
  (h2:∀ a,I a → ∀ N,N = endN (ux a) n → S.code y ⟨tput (apL (kept tm keep) (ut a)) (unkT tm),[],.no,rd,appT (ux a) n (tput (uh a) h),N,b,W⟩ K):S.code (.seq x y) ⟨tm,df,pm,rd,h,n,b,W⟩ K :=by
 subst hS
 intro he
 obtain ⟨e,s1,k1,k2,k3⟩ :=h1 he
 by_cases hn:e = .normal
 ·subst hn
  obtain ⟨a,hIa,hah⟩ :=k1
  have he:HEnd h n :=he
  obtain ⟨e2,s2,q1,q2,q3⟩ :=h2 a hIa _ rfl (qgk (tm :=tm) (rd :=rd) (b :=b) (W :=W) (keep :=keep) (ut :=ut a) (uh :=uh a) (ux :=ux a) he)
  refine ⟨e2,s2,q1,⟨q2.he,q2.b,?_⟩,fun B H hH => ?_⟩
  ·have k:Kept b h W s1.h s1.wr :=k2.kept
   rw [hah.wr] at k
   have k':Kept b (qdw tm rd h n b W keep (ut a) (uh a) (ux a)).h W s2.h s2.wr :=q2.kept
   have k0:Kept b h W (qdw tm rd h n b W keep (ut a) (uh a) (ux a)).h W :=⟨fun x hx => hx,fun x hx hn => (hah.same x (by omega)).trans (k.same x hx hn)⟩
   exact k0.trans k'
  ·obtain ⟨H1,p1,p2⟩ :=k3 B H hH
   obtain ⟨H2,p3,p4⟩ :=q3 B ⟨n + (ux a).length,n + (ux a).length,fun i => if i < n + (ux a).length then hv s1.h i else .hole⟩ (hah.obj he).symm
   refine ⟨H2,p3,Sem.seq (σ1 :=(qdw tm rd h n b W keep (ut a) (uh a) (ux a)).st ⟨n + (ux a).length,n + (ux a).length,fun i => if i < n + (ux a).length then hv s1.h i else .hole⟩) ?_ p4⟩
   refine SemT.postW (.inl rfl) p2 (m :=n + (ux a).length) ?_ (fun i hi => by show OBd _ (H1.o i);rw [p1];exact hah.bd i hi) hah.tms hah.df rfl rfl hah.rd.symm fun i hi => ?_
   ·show AH.mk _ _ _ = AH.mk _ _ (fun i => if i < n + (ux a).length then H1.o i else .hole)
    rw [p1]
   ·apply Nat.lt_of_not_le
    intro hle
    have hi:H.o i ≠ .hole :=hi
    rw [hH] at hi
    exact hi (he.hole (by show n ≤ i;omega))
 ·refine ⟨e,s1,?_,k2,fun B H hH => ?_⟩
  ·cases e <;> first
    |exact absurd rfl hn
    |exact k1
  ·obtain ⟨H1,p1,p2⟩ :=k3 B H hH
   exact ⟨H1,p1,Sem.seq_exit p2 hn⟩
end
end Go.Abs
/-! Parts of code that are not yet carried out: blocks, and loops. -/
namespace Go.Abs
open Go
noncomputable section
theorem qdb {P:Program} {S:Sub} (hS:S = symSub P) {id:Nat} {c:Code} {s:AS} {K:KE}
  (hk:S.code c s fun e s' => @AEx.rec (fun _ => Prop) (K .normal s') (fun j => @Bool.rec (fun _ => Prop) (K (.exit j) s') (K .normal s') (Nat.beq j id)) (K .ret s') (fun l => K (.panic l) s') e):S.code (.block id c) s K :=by
 subst hS
 intro he
 obtain ⟨e,s',h1,h2,h3⟩ :=hk he
 cases e with
 |normal =>
  refine ⟨_,s',h1,h2,fun B H hH => ?_⟩
  obtain ⟨H1,k1,k2⟩ :=h3 B H hH
  exact ⟨H1,k1,Sem.block_normal k2⟩
 |exit j =>
  have q1:@Bool.rec (fun _ => Prop) (K (.exit j) s') (K .normal s') (Nat.beq j id) :=h1
  cases hb:Nat.beq j id with
  |true =>
   rw [hb] at q1
   have q2:K .normal s' :=q1
   have hb:j = id :=Nat.eq_of_beq_eq_true hb
   subst hb
   refine ⟨_,s',q2,h2,fun B H hH => ?_⟩
   obtain ⟨H1,k1,k2⟩ :=h3 B H hH
   exact ⟨H1,k1,Sem.block_exit k2⟩
  |false =>
   rw [hb] at q1
   have q2:K (.exit j) s' :=q1
   refine ⟨_,s',q2,h2,fun B H hH => ?_⟩
   obtain ⟨H1,k1,k2⟩ :=h3 B H hH
   exact ⟨H1,k1,Sem.block_pass k2 (by simp) (by intro e;cases e;simp at hb)⟩
 |ret =>
  refine ⟨_,s',h1,h2,fun B H hH => ?_⟩
  obtain ⟨H1,k1,k2⟩ :=h3 B H hH
  exact ⟨H1,k1,Sem.block_pass k2 (by simp) (by simp)⟩
 |panic l =>
  refine ⟨_,s',h1,h2,fun B H hH => ?_⟩
  obtain ⟨H1,k1,k2⟩ :=h3 B H hH
  exact ⟨H1,k1,Sem.block_pass k2 (by simp) (by simp)⟩
theorem qf3 {S:Sub} {c:Code} {s:AS} {K:KE} (h:∀ K0:KE,(∀ e s',K e s' → K0 e s') → S.code c s K0):S.code c s K :=h K fun _ _ h => h
theorem qsk {P:Program} {S:Sub} (hS:S = symSub P) {c:Code} {f:AS → KE → Prop} {s:AS} {K:KE} (h:S.loop c f s K):S.code (.loop c) s K :=by
 subst hS
 intro he
 obtain ⟨e,s',h1,h2,h3⟩ :=h he
 refine ⟨e,s',h1,h2,fun B H hH => ?_⟩
 obtain ⟨H',k1,k2⟩ :=h3 B H hH
 exact ⟨H',k1,Sem.loop k2⟩
section
variable {D:List ADf} {tm:Tr AV} {rd:Bool} {h:Tr AObj} {n b:Nat} {W:List Nat} {s':AS} {keep:List Nat} {ut:List (Nat × AV)} {uh:List (Nat × AObj)} {ux:List AObj} {rs:List Nat}
theorem qgu {P:Program} {S:Sub} (hS:S = symSub P) {A:Type} {c:Code} {f:AS → KE → Prop} {tm:Tr AV} {df:List ADf} {pm:APm} {rd:Bool} {h:Tr AObj} {n b:Nat} {W0:List Nat} {K:KE}
  (W:List Nat) (hW:∀ x,x ∈ W0 → x ∈ W) (keep:List Nat) (ut:A → List (Nat × AV)) (uh:A → List (Nat × AObj)) (ux:A → List AObj) (I:A → Prop) (m:A → Nat) (a0:A) (hbn:b ≤ n) (hD:Dm n df) (hu0:ux a0 = []) (hB:TrBd n h)
  (h0:AtR df tm rd h n b W keep (ut a0) (uh a0) (ux a0) [] ⟨tm,df,pm,rd,h,n,b,W⟩) (hI:I a0)
  (step:∀ a,I a → ∀ N,N = endN (ux a) n → S.code c ⟨tput (apL (kept tm keep) (ut a)) (unkT tm),df,.no,rd,appT (ux a) n (tput (uh a) h),N,b,W⟩ fun e s' => @AEx.rec (fun _ => Prop)
   (∃ a' rs,I a' ∧ m a' < m a ∧ AtR df tm rd h n b W keep (ut a') (uh a') (ux a') rs s')
   (fun id => K (.exit id) s') (K .ret s') (fun l => K (.panic l) s') e):S.loop c f ⟨tm,df,pm,rd,h,n,b,W0⟩ K :=by
 subst hS
 intro he
 simp only at he
 -- the state at the head, with a heap
 let hd:A → St :=fun a => (qbb df tm rd h n b W keep (ut a) (uh a) (ux a)).st ⟨n + (ux a).length,n + (ux a).length,zo n (ux a) (hv (tput (uh a) h))⟩
 let its:List Item :=[.code c,.inLoop c]
 let Pre:Nat → AH → A → Prop :=fun B H a => ∀ g0 fr0 cs0 w0 k,FrRel g0 B w0 ((⟨tm,df,pm,rd,h,n,b,W0⟩ : AS).st H) fr0 cs0 → fr0.mode = .run → fr0.todo = its ++ k →
  ∃ g fr cs w,FrRel g B w (hd a) fr cs ∧ Out g0 B w0 H g w (hd a).H ∧ SameFr fr0 fr ∧ CsOk pm cs0 cs ∧ fr.mode = .run ∧ fr.todo = its ++ k ∧ Steps P (lone fr0 cs0 w0) (lone fr cs w)
 have hpm:pm = .no :=h0.pm
 have main:∀ (k:Nat) (a:A),I a → m a < k → (∀ j,j < (ux a).length → (appT (ux a) n (tput (uh a) h)).get (n + j) = some ((ux a).getD j .hole)) → (∀ B H,H.o = hv h → Pre B H a) → (∀ x,x < b → x ∉ W → hv (tput (uh a) h) x = hv h x) →
   ∃ e s',K e s' ∧ Aft ⟨tm,df,pm,rd,h,n,b,W0⟩ s' ∧ ∀ (B:Nat) (H:AH),H.o = hv h → ∃ H':AH,H'.o = hv s'.h ∧ SemL P B c ((⟨tm,df,pm,rd,h,n,b,W0⟩ : AS).st H) e (s'.st H') :=by
  intro k
  induction k with
  |zero => intro a _ h;omega
  |succ k ih =>
   intro a hIa hm hx hpre hsm
   have hea :=qdd (D :=df) (tm :=tm) (rd :=rd) (b :=b) (W :=W) (keep :=keep) (ut :=ut a) (uh :=uh a) (ux :=ux a) he
   have hhv :=qqe (D :=df) (tm :=tm) (rd :=rd) (b :=b) (W :=W) (keep :=keep) (ut :=ut a) (uh :=uh a) (ux :=ux a) he hx
   obtain ⟨e,s1,h1,h2,h3⟩ :=(step a hIa _ rfl) hea
   have hkept:∀ x,x < b → x ∉ s1.wr → hv s1.h x = hv h x :=fun x hx hn => by
    have k1:Kept b (qbb df tm rd h n b W keep (ut a) (uh a) (ux a)).h W s1.h s1.wr :=h2.kept
    rw [k1.same x hx hn,hhv]
    unfold zo
    rw [if_pos (by omega)]
    exact hsm x hx fun h => hn (k1.sub x h)
   have haft:Aft ⟨tm,df,pm,rd,h,n,b,W0⟩ s1 :=⟨h2.he,h2.b,fun x hx => (by
    have k1:Kept b (qbb df tm rd h n b W keep (ut a) (uh a) (ux a)).h W s1.h s1.wr :=h2.kept
    exact k1.sub x (hW x hx)),hkept⟩
   by_cases hn:e = .normal
   ·subst hn
    obtain ⟨a',rs,hIa',hlt,hah⟩ :=h1
    refine ih a' hIa' (by omega) hah.zx.get (fun B H hH => ?_) fun x hx hn => ?_
    ·intro g0 fr0 cs0 w0 kk hr0 hm0 ht0
     obtain ⟨g,fr,cs,w,q1,q2,q3,q4,q5,q6,q7⟩ :=hpre B H hH g0 fr0 cs0 w0 kk hr0 hm0 ht0
     obtain ⟨H1,k1,k2⟩ :=h3 B ⟨n + (ux a).length,n + (ux a).length,zo n (ux a) (hv (tput (uh a) h))⟩ hhv.symm
     obtain ⟨g',fr',cs',w',r1,r2,r3,r4,r5,r6,r7⟩ :=k2 g fr cs w (.inLoop c :: kk) q1 q5 q6 (fun e => by cases e) _ rfl
     have hL:∀ i,H.L i → i < n :=fun i hi => by
      apply Nat.lt_of_not_le
      intro hle
      have hi:H.o i ≠ .hole :=hi
      rw [hH] at hi
      exact hi (he.hole hle)
     obtain ⟨z1,z2⟩ :=hah.adapt hB hD k1 hL r1 (q2.trans r2)
     refine ⟨_,{ fr' with todo :=its ++ kk },cs',w',z1.todo _,z2,⟨r3.fn.trans q3.fn,r3.kind.trans q3.kind,r3.round.trans q3.round⟩,?_,r6.1,rfl,q7.trans (r7.trans (qa6 ?_))⟩
     ·subst hpm
      have e1:cs' = cs :=r4
      rw [e1];exact q4
     ·simp [stepG,stepG.exec,r6.1,r6.2,its]
    ·obtain ⟨y,k1,⟨z,k2,k3⟩,_⟩ :=hah.old hB x (by omega)
     have e1:hv (tput (uh a') h) x = hv s1.h x :=by
      unfold hv
      rw [k1,k2]
      exact (k3.2 hx hn).symm
     rw [e1]
     exact hkept x hx (by rw [hah.wr];exact hn)
   ·have plain:K e s1 → ∃ e s',K e s' ∧ Aft ⟨tm,df,pm,rd,h,n,b,W0⟩ s' ∧ ∀ (B:Nat) (H:AH),H.o = hv h → ∃ H':AH,H'.o = hv s'.h ∧ SemL P B c ((⟨tm,df,pm,rd,h,n,b,W0⟩ : AS).st H) e (s'.st H') :=fun hk => by
     refine ⟨e,s1,hk,haft,fun B H hH => ?_⟩
     obtain ⟨H1,k1,k2⟩ :=h3 B ⟨n + (ux a).length,n + (ux a).length,zo n (ux a) (hv (tput (uh a) h))⟩ hhv.symm
     have k3 :=SemL.stop k2 hn
     refine ⟨H1,k1,fun g0 fr0 cs0 w0 kk hr0 hm0 ht0 hro k' hk' => ?_⟩
     obtain ⟨g,fr,cs,w,q1,q2,q3,q4,q5,q6,q7⟩ :=hpre B H hH g0 fr0 cs0 w0 kk hr0 hm0 ht0
     obtain ⟨g',fr',cs',w',r1,r2,r3,r4,r5,r6,r7⟩ :=k3 g fr cs w kk q1 q5 q6 (fun e => q3.round.trans (hro e)) k' hk'
     refine ⟨g',fr',cs',w',r1,q2.trans r2,q3.trans r3,?_,?_,r6,q7.trans r7⟩
     ·subst hpm
      have e1:cs = cs0 :=q4
      have e2:cs' = cs :=r4
      show cs' = cs0
      rw [e2,e1]
     ·subst hpm
      exact r5
    cases e with
    |normal => exact absurd rfl hn
    |ret => exact plain h1
    |panic l => exact plain h1
    |exit id => exact plain h1
 refine main (m a0 + 1) a0 hI (by omega) (by rw [hu0];intro j hj;exact absurd hj (Nat.not_lt_zero _)) (fun B H hH => ?_) fun x hx hn => ?_
 ·intro g0 fr0 cs0 w0 kk hr0 hm0 ht0
  have hL:∀ i,H.L i → i < n :=fun i hi => by
   apply Nat.lt_of_not_le
   intro hle
   have hi:H.o i ≠ .hole :=hi
   rw [hH] at hi
   exact hi (he.hole hle)
  obtain ⟨z1,z2⟩ :=h0.adapt hB hD hH hL hr0 (Out.refl hr0.h)
  exact ⟨_,fr0,cs0,w0,z1,z2,⟨rfl,rfl,rfl⟩,CsOk.refl _ _ _ hr0.pm,hm0,ht0,.refl _ _⟩
 ·obtain ⟨y,k1,⟨z,k2,k3⟩,_⟩ :=h0.old hB x (by omega)
  unfold hv
  rw [k1,k2]
  exact (k3.2 hx hn).symm
end
end
end Go.Abs

namespace Go.Abs
open Go
noncomputable section
def ghOf (m:Nat → Nat) (w:World):Gh :=⟨fun _ => 0,fun b => if b < w.heap.size then m b else 0,fun _ => 0,fun _ => 0,fun _ => 0⟩
theorem HRel.old (m:Nat → Nat) (w:World):HRel (ghOf m w) w.heap.size w AH.nil where
 wf :=fun _ _ => rfl
 ge :=fun _ h => absurd rfl h
 inj :=fun _ _ h => absurd rfl h
 rel :=fun _ => trivial
 live :=fun _ => trivial
 kp :=fun _ => trivial
 imz :=fun _ hb => if_neg (Nat.not_lt.2 hb)
 hB :=Nat.le_refl _
theorem Pure.callsAt {P:Program} {f:FuncId} {args:List AV} {b:Bool} (h:Pure P f args (.bool b)) {w:World} {vs:Array Value} (m:Nat → Nat) (hv:VRels (ghOf m w) w args vs.toList) (hl:Lives noL args) :
  Calls P f vs w (fun e w' => e = .returned (.bool b) ∧ RowKit.Below w.heap.size w w') :=by
 intro cs
 obtain ⟨g',fr',w',h1,h2,h3,u,h4,h5,_⟩ :=h.2 w.heap.size AH.nil _ vs cs w (HRel.old m w) hv hl.ofNo
 simp only [VRel] at h5
 subst h5
 exact ⟨.returned (.bool b),w',fr',⟨rfl,h1.below⟩,h2,h3,h4⟩
theorem VRels.one {g:Gh} {w:World} {x:AV} {u:Value} {xs:List AV} {us:List Value} (h:VRel g w x u) (hs:VRels g w xs us):VRels g w (x :: xs) (u :: us) :=⟨u,us,rfl,h,hs⟩
end
end Go.Abs
