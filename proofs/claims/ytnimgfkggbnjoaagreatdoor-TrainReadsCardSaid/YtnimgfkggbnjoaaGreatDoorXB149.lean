/-
  A text, as the document reads it: what it is, or that it is none.
-/
import Derived.Test.YtnimgfkggbnjoaaGreatDoorXB147
import Derived.Test.YtnimgfkggbnjoaaGreatDoorXB1471
import Derived.Test.YtnimgfkggbnjoaaGreatDoorXB1472
import Derived.Test.YtnimgfkggbnjoaaGreatDoorXB1473
import Derived.Test.YtnimgfkggbnjoaaGreatDoorXB1491
namespace Go.Abs.Seat
noncomputable section
open Go Go.Abs Go.Proofs.Tryz
set_option maxRecDepth 100000
set_option maxHeartbeats 40000000
attribute [local irreducible] pEq qco IntKind.wrap
def lnQ (x:List UInt8) (M:List Nat):Prop :=(∀ n,n ∈ M → n < 1000) ∧ ∃ w,spl 32 x = w :: M.map dec
theorem qgm {x:List UInt8} (hx:x.length ≤ 500):∃ w l,Pure prog 42 [.str x,.int .u8 32] (.lst (stA (w :: l)) (w :: l).length .no) ∧ spl 32 x = w :: l ∧ ((∃ M,lnQ x M ∧ Pure prog 43 [.lst (stA l) l.length .no] (.tup [nlV M,.bool true])) ∨ (¬ ∃ M,lnQ x M) ∧ Pure prog 43 [.lst (stA l) l.length .no] (.tup [.nils,.bool false])) :=by
 have p :=qda x 32 (by omega)
 have hl :=qc7 32 x
 cases e:spl 32 x with
 |nil => exact absurd e (qgf 32 x)
 |cons w l =>
  rw [e] at p
  rw [e,List.length_cons] at hl
  refine ⟨w,l,p,rfl,?_⟩
  rcases qh5 (W :=l) (by omega) (fun y hy => Nat.le_trans (qff 32 x y (by rw [e];exact List.mem_cons_of_mem _ hy)) (by omega)) with ⟨M,h1,rfl,q⟩ | ⟨h1,q⟩
  ·exact .inl ⟨M,⟨h1,w,e⟩,q⟩
  ·refine .inr ⟨fun ⟨M,a,w',b⟩ => h1 ⟨M,a,?_⟩,q⟩
   rw [e] at b
   exact (List.cons.inj b).2
theorem qr7 {x:List UInt8} {M:List Nat} (h:lnQ x M) (hx:x.length ≤ 500):M.length ≤ 500 :=by
 have hl :=qc7 32 x
 obtain ⟨_,w,e⟩ :=h
 rw [e,List.length_cons,List.length_map] at hl
 omega
theorem qiq {s:List UInt8} (hs:s.length ≤ 500) (i:Nat):(gB (spl 10 s) i).length ≤ 500 :=by
 by_cases h:i < (spl 10 s).length
 ·have e:gB (spl 10 s) i = (spl 10 s)[i] :=by simp [gB,List.getD,h]
  rw [e]
  exact Nat.le_trans (qff 10 s _ (List.getElem_mem h)) hs
 ·have e:gB (spl 10 s) i = [] :=by simp [gB,List.getD,h]
  rw [e];exact Nat.zero_le _
def rowX (L:List (List UInt8)) (i:Nat) (t:List (Nat × Nat)):Prop :=lnQ (gB L (i + 2)) (flN t) ∧ RxH L i t
theorem qmk {s:List UInt8} (hs:s.length ≤ 500):(∃ (r:TrR) (V:List Nat) (T:List (List (Nat × Nat))),isU s r V T ∧ Pure prog 16 [.str s] (.tup [.agg [nv r.1,nv r.2.1,nv r.2.2.1,nv r.2.2.2,nlV V],xqT T,.bool true])) ∨ (¬ ∃ r V T,isU s r V T) ∧ Pure prog 16 [.str s] zrX :=by
 have hb :=qiq hs
 obtain ⟨p0,l0,sp0,e0,c0⟩ :=qgm (hb 0)
 by_cases h4:4 ≤ (spl 10 s).length
 rotate_left
 ·exact .inr ⟨fun ⟨r,V,T,h⟩ => h4 (by have :=(qee h).len;omega),qxb hs sp0 (by omega)⟩
 have u0:∀ r V T,isU s r V T → p0 :: l0 = [qh6,dec r.1,dec r.2.1,dec r.2.2.1,qc9 r.2.2.2] :=fun r V T h => by
  rw [(qee h).l0,qgl h.1.1.1] at e0
  exact e0.symm
 by_cases hl0:(p0 :: l0).length = 5
 rotate_left
 ·exact .inr ⟨fun ⟨r,V,T,h⟩ => hl0 (by rw [u0 r V T h];rfl),qxa hs sp0 h4 hl0⟩
 obtain ⟨p1,p2,p3,p4,rfl⟩ : ∃ p1 p2 p3 p4,l0 = [p1,p2,p3,p4] :=by
  rcases l0 with _ | ⟨p1,_ | ⟨p2,_ | ⟨p3,_ | ⟨p4,_ | ⟨p5,r⟩⟩⟩⟩⟩ <;> simp at hl0
  exact ⟨p1,p2,p3,p4,rfl⟩
 have pl :=fun p hp => Nat.le_trans (qff 32 (gB (spl 10 s) 0) p hp) (hb 0)
 rw [e0] at pl
 rcases qh5 (W :=[p1,p2,p3]) (show 3 ≤ 1000 by decide) (fun w hw => Nat.le_trans (pl w (by simp only [List.mem_cons,List.not_mem_nil,or_false] at hw ⊢;rcases hw with h | h | h <;> simp [h])) (by omega)) with ⟨M,hM,eM,m0⟩ | ⟨hM,m0⟩
 rotate_left
 ·refine .inr ⟨fun ⟨r,V,T,h⟩ => hM ⟨[r.1,r.2.1,r.2.2.1],qud h.1.1.1,?_⟩,qw9 hs sp0 h4 m0⟩
  have :=u0 r V T h
  simp only [List.cons.injEq,and_true] at this
  obtain ⟨_,a1,a2,a3,_⟩ :=this
  rw [a1,a2,a3];rfl
 obtain ⟨a,b,c,rfl⟩ : ∃ a b c,M = [a,b,c] :=by
  have :=congrArg List.length eM
  rw [List.length_map] at this
  rcases M with _ | ⟨a,_ | ⟨b,_ | ⟨c,_ | ⟨e,r⟩⟩⟩⟩ <;> simp at this
  exact ⟨a,b,c,rfl⟩
 have h3:a < 1000 ∧ b < 1000 ∧ c < 1000 :=⟨hM a (by simp),hM b (by simp),hM c (by simp)⟩
 obtain ⟨q0,l1,sp1,e1,c1⟩ :=qgm (hb 1)
 have u1:∀ r V T,isU s r V T → lnQ (gB (spl 10 s) 1) V :=fun r V T h => ⟨h.1.2.1,qct,by rw [(qee h).l1,qgk h.1.2.1]⟩
 rcases c1 with ⟨V,hV,m1⟩ | ⟨hV,m1⟩
 rotate_left
 ·exact .inr ⟨fun ⟨r,V,T,h⟩ => hV ⟨V,u1 r V T h⟩,qw8 hs sp0 h4 m0 sp1 m1⟩
 have hVl :=qr7 hV (hb 1)
 have hx:PyH (spl 10 s) p0 p1 p2 p3 p4 q0 l1 a b c (nlV V) :=⟨sp0,m0,sp1,m1⟩
 obtain ⟨n,hn⟩ : ∃ n,n + 4 = (spl 10 s).length :=⟨(spl 10 s).length - 4,by omega⟩
 have uT:∀ r' V' T',isU s r' V' T' → ∀ i,i < n → lnQ (gB (spl 10 s) (i + 2)) (flN (gT T' i)) :=fun r' V' T' h i hi => by
  have k :=qee h
  have hi2:i < T'.length :=by have :=k.len;omega
  have o :=h.1.2.2 _ (qhj hi2)
  exact ⟨o,qdj,by rw [k.lT i hi2,qg7 o]⟩
 rcases qsq (rowX (spl 10 s)) [] n with ⟨T,hT,hr⟩ | ⟨T,hT,hr,hno⟩
 ·have hr2:∀ i,i < T.length → RxH (spl 10 s) i (gT T i) :=fun i hi => (hr i (by omega)).2
  by_cases hd:sV p4 4 = 0
  ·refine .inr ⟨fun ⟨r,V',T',h⟩ => sV_0 hd r.2.2.2 h.1.1.2 ?_,qw7 hs hn hx (qem V) hT hr2 hd⟩
   have :=u0 r V' T' h
   simp only [List.cons.injEq,and_true] at this
   exact this.2.2.2.2
  have d3 :=sV_1 hd
  have oR:okR (a,b,c,sV p4 4) V T :=qr0 h3 d3.2 hV.1 hr2
  by_cases he:prtT (a,b,c,sV p4 4) V T = s
  ·exact .inl ⟨(a,b,c,sV p4 4),V,T,⟨oR,he⟩,quc hs hn hx (qem V) hT hr2 h3 hV.1 (by omega) hd he⟩
  ·refine .inr ⟨fun ⟨r',V',T',h⟩ => he ?_,qw6 hs hn hx (qem V) hT hr2 h3 hV.1 (by omega) hd he⟩
   have k0 :=u0 r' V' T' h
   simp only [List.cons.injEq,and_true] at k0
   obtain ⟨rfl,k1,k2,k3,k4⟩ :=k0
   simp only [List.map_cons,List.map_nil,List.cons.injEq,and_true] at eM
   obtain ⟨a1,a2,a3⟩ :=eM
   have oo :=h.1.1.1
   have w1 :=qeb h3.1 oo.1 (a1.symm.trans k1)
   have w2 :=qeb h3.2.1 oo.2.1 (a2.symm.trans k2)
   have w3 :=qeb h3.2.2 oo.2.2 (a3.symm.trans k3)
   have w4 :=qg0 d3.2 h.1.1.2 (d3.1.symm.trans k4)
   have hV' :=u1 r' V' T' h
   have eV:V = V' :=by
    obtain ⟨y1,w,x1⟩ :=hV
    obtain ⟨y2,w',x2⟩ :=hV'
    exact qdc y1 y2 (List.cons.inj (x1.symm.trans x2)).2
   have hTl:T.length = T'.length :=by have :=(qee h).len;omega
   have eT:T = T' :=by
    refine List.ext_getElem hTl fun i x y => ?_
    have k :=(hr i (by omega)).1
    have k2 :=uT r' V' T' h i (by omega)
    have e :=qkx (qdc k.1 k2.1 (by obtain ⟨_,w,x1⟩ :=k;obtain ⟨_,w',x2⟩ :=k2;exact (List.cons.inj (x1.symm.trans x2)).2))
    have g1:T.getD i [] = T[i] :=by simp [List.getD,x]
    have g2:gT T' i = T'[i] :=by simp [gT,List.getD,y]
    rw [← g1,← g2,e]
   have eR:(a,b,c,sV p4 4) = r' :=Prod.ext w1 (Prod.ext w2 (Prod.ext w3 w4))
   rw [eR,eV,eT]
   exact h.2
 ·have hr2:∀ i,i < T.length → RxH (spl 10 s) i (gT T i) :=fun i hi => (hr i hi).2
  obtain ⟨w,l,sp,e,c⟩ :=qgm (hb (T.length + 2))
  rcases c with ⟨M,hM,pt⟩ | ⟨hM,pt⟩
  ·by_cases hodd:M.length % 2 = 1
   ·have eN:nlV M = nl (zl M) :=if_neg fun z => by rw [z] at hodd;exact absurd hodd (by decide)
    rw [eN] at pt
    refine .inr ⟨fun ⟨r',V',T',h⟩ => ?_,qq5 hs hn hx (qem V) hr2 hT sp (.inr ⟨M,pt,hodd⟩)⟩
    have k :=uT r' V' T' h T.length hT
    have e2:M = flN (gT T' T.length) :=qdc hM.1 k.1 (by obtain ⟨_,w,x1⟩ :=hM;obtain ⟨_,w',x2⟩ :=k;exact (List.cons.inj (x1.symm.trans x2)).2)
    rw [e2,qbi] at hodd
    omega
   ·have e2 :=qna M (by omega)
    rw [← e2] at hM pt
    have k :=qr7 hM (hb _)
    rw [qbi] at k
    exact absurd ⟨prs M,hM,⟨⟨w,l,sp,pt⟩,by omega,hM.1⟩⟩ hno
  ·exact .inr ⟨fun ⟨r',V',T',h⟩ => hM ⟨_,uT r' V' T' h T.length hT⟩,qq5 hs hn hx (qem V) hr2 hT sp (.inl pt)⟩
end
end Go.Abs.Seat
