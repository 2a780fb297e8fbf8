/-
  A text, as the program reads it: what it is, or that it is none.
-/
import Derived.Test.YtnimgfkggbnjoaaGreatDoorXB136
import Derived.Test.YtnimgfkggbnjoaaGreatDoorXB137
import Derived.Test.YtnimgfkggbnjoaaGreatDoorXB138
import Derived.Test.YtnimgfkggbnjoaaGreatDoorXB139
import Derived.Test.YtnimgfkggbnjoaaGreatDoorXB140
import Derived.Test.YtnimgfkggbnjoaaGreatDoorXU7
namespace Go.Abs.Seat
noncomputable section
open Go Go.Abs Go.Proofs.Tryz
set_option maxRecDepth 100000
set_option maxHeartbeats 40000000
attribute [local irreducible] pEq qco IntKind.wrap
theorem wpre:∀ W:List (List UInt8),(∃ M:List Nat,(∀ n,n ∈ M → n < 1000) ∧ W = M.map dec) ∨ ∃ (M:List Nat) (w:List UInt8) (R:List (List UInt8)),(∀ n,n ∈ M → n < 1000) ∧ W = M.map dec ++ w :: R ∧ ¬ ∃ n,n < 1000 ∧ w = dec n
 | [] => .inl ⟨[],(fun _ h => nomatch h),rfl⟩
 |x :: r => by
  by_cases h:∃ n,n < 1000 ∧ x = dec n
  ·obtain ⟨n,hn,rfl⟩ :=h
   rcases wpre r with ⟨M,h1,rfl⟩ | ⟨M,w,R,h1,rfl,h2⟩
   ·exact .inl ⟨n :: M,fun m hm => (List.mem_cons.1 hm).elim (fun e => e ▸ hn) (h1 m),rfl⟩
   ·exact .inr ⟨n :: M,w,R,fun m hm => (List.mem_cons.1 hm).elim (fun e => e ▸ hn) (h1 m),rfl,h2⟩
  ·exact .inr ⟨[],x,r,(fun _ h => nomatch h),rfl,h⟩
theorem qqk {M M':List Nat} {w:List UInt8} {R:List (List UInt8)} (h:¬ ∃ n,n < 1000 ∧ w = dec n) (h2:∀ n,n ∈ M' → n < 1000):M.map dec ++ w :: R ≠ M'.map dec :=fun e => by
 have:w ∈ M'.map dec :=by rw [← e];simp
 obtain ⟨n,hn,e2⟩ :=List.mem_map.1 this
 exact h ⟨n,h2 n hn,e2.symm⟩
theorem qi8 {W:List (List UInt8)} (hl:W.length ≤ 1000) (hw:∀ w,w ∈ W → w.length ≤ 1000):(∃ M:List Nat,(∀ n,n ∈ M → n < 1000) ∧ W = M.map dec ∧ Pure prog 89 [.lst (stA W) W.length .no] (nlV M)) ∨ (¬ ∃ M:List Nat,(∀ n,n ∈ M → n < 1000) ∧ W = M.map dec) ∧ ∃ why,qd1 prog 89 [.lst (stA W) W.length .no] (noP why) :=by
 rcases wpre W with ⟨M,h1,rfl⟩ | ⟨M,w,R,h1,rfl,h2⟩
 ·rw [List.length_map] at hl ⊢
  exact .inl ⟨M,h1,rfl,qwu h1 hl⟩
 ·refine .inr ⟨fun ⟨M',a,b⟩ => qqk h2 a b,w,?_⟩
  rw [List.length_append,List.length_map,List.length_cons] at hl ⊢
  exact qtt h1 (by omega) (by omega) (hw w (by simp)) h2
def lnP (w x:List UInt8) (M:List Nat):Prop :=(∀ n,n ∈ M → n < 1000) ∧ spl 32 x = w :: M.map dec
theorem qjm (w:List UInt8) {x:List UInt8} (hx:x.length ≤ 400):(∃ M l,lnP w x M ∧ Pure prog 86 [.str x,.str w] (.lst (stA l) l.length .no) ∧ Pure prog 89 [.lst (stA l) l.length .no] (nlV M)) ∨ (¬ ∃ M,lnP w x M) ∧ ((∃ why,qd1 prog 86 [.str x,.str w] (noP why)) ∨ ∃ l why,Pure prog 86 [.str x,.str w] (.lst (stA l) l.length .no) ∧ qd1 prog 89 [.lst (stA l) l.length .no] (noP why)) :=by
 by_cases h:∃ l,spl 32 x = w :: l
 ·obtain ⟨l,e⟩ :=h
  have pw :=qnl (s :=x) (by omega) e
  have hl :=qc7 32 x
  rw [e,List.length_cons] at hl
  rcases qi8 (W :=l) (by omega) (fun y hy => Nat.le_trans (qff 32 x y (by rw [e];exact List.mem_cons_of_mem _ hy)) (by omega)) with ⟨M,h1,rfl,p⟩ | ⟨h1,why,p⟩
  ·exact .inl ⟨M,_,⟨h1,e⟩,pw,p⟩
  ·refine .inr ⟨fun ⟨M,a,b⟩ => h1 ⟨M,a,?_⟩,.inr ⟨l,why,pw,p⟩⟩
   rw [e] at b
   exact (List.cons.inj b).2
 ·exact .inr ⟨fun ⟨M,_,b⟩ => h ⟨_,b⟩,.inl ⟨_,qk8 (by omega) h⟩⟩
theorem qr8 {w x:List UInt8} {M:List Nat} (h:lnP w x M) (hx:x.length ≤ 400):M.length ≤ 400 :=by
 have hl :=qc7 32 x
 rw [h.2,List.length_cons,List.length_map] at hl
 omega
theorem qzz (w:List UInt8):(∃ d,d < 3 ∧ snI w = Int.ofNat d ∧ w = qc9 (d + 1)) ∨ snI w = -1 ∧ ∀ σ,1 ≤ σ ∧ σ ≤ 3 → w ≠ qc9 σ :=by
 unfold snI
 by_cases h1:w = [97,110,121]
 ·exact .inl ⟨0,by decide,by rw [if_pos h1];rfl,h1⟩
 by_cases h2:w = [115,97,109,101]
 ·exact .inl ⟨1,by decide,by rw [if_neg h1,if_pos h2];rfl,h2⟩
 by_cases h3:w = [111,116,104,101,114]
 ·exact .inl ⟨2,by decide,by rw [if_neg h1,if_neg h2,if_pos h3];rfl,h3⟩
 refine .inr ⟨by rw [if_neg h1,if_neg h2,if_neg h3],fun σ hσ => ?_⟩
 have:σ = 1 ∨ σ = 2 ∨ σ = 3 :=by omega
 rcases this with rfl | rfl | rfl
 ·exact h1
 ·exact h2
 ·exact h3
theorem qso {s:List UInt8} (hs:s.length ≤ 400) (i:Nat):(gB (spl 10 s) i).length ≤ 400 :=by
 by_cases h:i < (spl 10 s).length
 ·have e:gB (spl 10 s) i = (spl 10 s)[i] :=by simp [gB,List.getD,h]
  rw [e]
  exact Nat.le_trans (qff 10 s _ (List.getElem_mem h)) hs
 ·have e:gB (spl 10 s) i = [] :=by simp [gB,List.getD,h]
  rw [e];exact Nat.zero_le _
theorem qz1 {L:List (List UInt8)} {i:Nat} {t:List (Nat × Nat)} {l:List (List UInt8)} (h:lnP qdj (gB L (i + 2)) (flN t)) (hx:(gB L (i + 2)).length ≤ 400) (pw:Pure prog 86 [.str (gB L (i + 2)),.str qdj] (.lst (stA l) l.length .no)) (pt:Pure prog 89 [.lst (stA l) l.length .no] (nlV (flN t))):RwH L i t :=by
 have k :=qr8 h hx
 rw [qbi] at k
 exact ⟨⟨l,pw,pt⟩,by omega,h.1⟩
def rowG (L:List (List UInt8)) (i:Nat) (t:List (Nat × Nat)):Prop :=lnP qdj (gB L (i + 2)) (flN t) ∧ RwH L i t
theorem qfh {s:List UInt8} (hs:s.length ≤ 400):(∃ (r:TrR) (V:List Nat) (T:List (List (Nat × Nat))),isU s r V T ∧ Pure prog 39 [.str s] (.tup [.agg [nv r.1,nv r.2.1,nv r.2.2.1,nv r.2.2.2,nlV V],xqT T])) ∨ (¬ ∃ r V T,isU s r V T) ∧ ∃ why,qd1 prog 39 [.str s] (noP why) :=by
 have hb :=qso hs
 by_cases h4:4 ≤ (spl 10 s).length
 rotate_left
 ·exact .inr ⟨fun ⟨r,V,T,h⟩ => h4 (by have :=(qee h).len;omega),s,qrg hs (by omega)⟩
 by_cases hw0:∃ l,spl 32 (gB (spl 10 s) 0) = qh6 :: l
 rotate_left
 ·exact .inr ⟨fun ⟨r,V,T,h⟩ => hw0 ⟨_,by rw [(qee h).l0,qgl h.1.1.1]⟩,_,qrf hs h4 (qk8 (by have :=hb 0;omega) hw0)⟩
 obtain ⟨l0,e0⟩ :=hw0
 have w0 :=qnl (s :=gB (spl 10 s) 0) (by have :=hb 0;omega) e0
 by_cases hl0:l0.length = 4
 rotate_left
 ·refine .inr ⟨fun ⟨r,V,T,h⟩ => hl0 ?_,_,qre hs h4 w0 hl0⟩
  rw [(qee h).l0,qgl h.1.1.1] at e0
  rw [← (List.cons.inj e0).2];rfl
 obtain ⟨p1,p2,p3,p4,rfl⟩ : ∃ p1 p2 p3 p4,l0 = [p1,p2,p3,p4] :=by
  rcases l0 with _ | ⟨p1,_ | ⟨p2,_ | ⟨p3,_ | ⟨p4,_ | ⟨p5,r⟩⟩⟩⟩⟩ <;> simp at hl0
  exact ⟨p1,p2,p3,p4,rfl⟩
 have pl :=fun p hp => Nat.le_trans (qff 32 (gB (spl 10 s) 0) p hp) (hb 0)
 rw [e0] at pl
 have u0:∀ r V T,isU s r V T → [p1,p2,p3,p4] = [dec r.1,dec r.2.1,dec r.2.2.1,qc9 r.2.2.2] :=fun r V T h => by
  rw [(qee h).l0,qgl h.1.1.1] at e0
  exact (List.cons.inj e0).2.symm
 rcases qzz p4 with ⟨d,d3,s0,e4⟩ | ⟨s0,e4⟩
 rotate_left
 ·refine .inr ⟨fun ⟨r,V,T,h⟩ => e4 r.2.2.2 h.1.1.2 ?_,_,qrd hs h4 w0 s0⟩
  have :=u0 r V T h
  simp only [List.cons.injEq,and_true] at this
  exact this.2.2.2
 rcases qi8 (W :=[p1,p2,p3]) (show 3 ≤ 1000 by decide) (fun w hw => Nat.le_trans (pl w (by simp only [List.mem_cons,List.not_mem_nil,or_false] at hw ⊢;rcases hw with h | h | h <;> simp [h])) (by omega)) with ⟨M,hM,eM,t0⟩ | ⟨hM,why,t0⟩
 rotate_left
 ·refine .inr ⟨fun ⟨r,V,T,h⟩ => hM ⟨[r.1,r.2.1,r.2.2.1],qud h.1.1.1,?_⟩,_,qrc hs h4 w0 s0 d3 t0⟩
  have :=u0 r V T h
  simp only [List.cons.injEq,and_true] at this
  obtain ⟨a1,a2,a3,_⟩ :=this
  rw [a1,a2,a3];rfl
 obtain ⟨a,b,c,rfl⟩ : ∃ a b c,M = [a,b,c] :=by
  have :=congrArg List.length eM
  rw [List.length_map] at this
  rcases M with _ | ⟨a,_ | ⟨b,_ | ⟨c,_ | ⟨e,r⟩⟩⟩⟩ <;> simp at this
  exact ⟨a,b,c,rfl⟩
 have h3:a < 1000 ∧ b < 1000 ∧ c < 1000 :=⟨hM a (by simp),hM b (by simp),hM c (by simp)⟩
 have eA:spl 32 (gB (spl 10 s) 0) = [qh6,dec a,dec b,dec c,qc9 (d + 1)] :=by
  rw [e0,e4]
  simp only [List.map_cons,List.map_nil,List.cons.injEq,and_true] at eM
  obtain ⟨a1,a2,a3⟩ :=eM
  rw [a1,a2,a3]
 rcases qjm qct (hb 1) with ⟨V,l1,hV,w1,t1⟩ | ⟨hV,⟨why,p⟩ | ⟨l1,why,w1,p⟩⟩
 rotate_left
 ·exact .inr ⟨fun ⟨r,V,T,h⟩ => hV ⟨V,h.1.2.1,by rw [(qee h).l1,qgk h.1.2.1]⟩,_,qrb hs h4 w0 s0 d3 t0 p⟩
 ·exact .inr ⟨fun ⟨r,V,T,h⟩ => hV ⟨V,h.1.2.1,by rw [(qee h).l1,qgk h.1.2.1]⟩,_,qra hs h4 w0 s0 d3 t0 w1 p⟩
 have hVl :=qr8 hV (hb 1)
 have hx:PxH (spl 10 s) p1 p2 p3 p4 l1 a b c d (nlV V) :=⟨w0,t0,s0,d3,w1,t1⟩
 obtain ⟨n,hn⟩ : ∃ n,n + 4 = (spl 10 s).length :=⟨(spl 10 s).length - 4,by omega⟩
 have uT:∀ r' V' T',isU s r' V' T' → ∀ i,i < n → lnP qdj (gB (spl 10 s) (i + 2)) (flN (gT T' i)) :=fun r' V' T' h i hi => by
  have k :=qee h
  have hi2:i < T'.length :=by have :=k.len;omega
  have o :=h.1.2.2 _ (qhj hi2)
  exact ⟨o,by rw [k.lT i hi2,qg7 o]⟩
 rcases qsq (rowG (spl 10 s)) [] n with ⟨T,hT,hr⟩ | ⟨T,hT,hr,hno⟩
 ·have hr2:∀ i,i < T.length → RwH (spl 10 s) i (gT T i) :=fun i hi => (hr i (by omega)).2
  have oR:okR (a,b,c,d + 1) V T :=qr1 h3 d3 hV.1 hr2
  by_cases he:prtT (a,b,c,d + 1) V T = s
  ·exact .inl ⟨(a,b,c,d + 1),V,T,⟨oR,he⟩,qpn hs hn hx (qem V) h3 hV.1 (by omega) hT hr2 he⟩
  ·refine .inr ⟨fun ⟨r',V',T',h⟩ => he ?_,_,qpo hs hn hx (qem V) h3 hV.1 (by omega) hT hr2 he⟩
   obtain ⟨rfl,rfl,rfl⟩ :=qtr (qee h) oR eA hV.2 (by omega) fun i hi => (hr i (by omega)).1.2
   exact h.2
 ·have hr2:∀ i,i < T.length → RwH (spl 10 s) i (gT T i) :=fun i hi => (hr i hi).2
  rcases qjm qdj (hb (T.length + 2)) with ⟨M,l,hM,pw,pt⟩ | ⟨hM,⟨why,p⟩ | ⟨l,why,pw,p⟩⟩
  ·by_cases hodd:M.length % 2 = 1
   ·refine .inr ⟨fun ⟨r',V',T',h⟩ => ?_,_,qpp hs hn hx (qem V) hr2 hT pw (M :=M) ?_ hodd⟩
    ·have k :=uT r' V' T' h T.length hT
     have e :=hM.2.symm.trans k.2
     have e2 :=qdc hM.1 k.1 (List.cons.inj e).2
     rw [e2,qbi] at hodd
     omega
    ·have e:nlV M = nl (zl M) :=if_neg fun z => by rw [z] at hodd;exact absurd hodd (by decide)
     rw [← e];exact pt
   ·have e :=qna M (by omega)
    rw [← e] at hM pt
    exact absurd ⟨prs M,hM,qz1 hM (hb _) pw pt⟩ hno
  ·exact .inr ⟨fun ⟨r',V',T',h⟩ => hM ⟨_,uT r' V' T' h T.length hT⟩,_,qpr hs hn hx (qem V) hr2 hT p⟩
  ·exact .inr ⟨fun ⟨r',V',T',h⟩ => hM ⟨_,uT r' V' T' h T.length hT⟩,_,qpq hs hn hx (qem V) hr2 hT pw p⟩
end
end Go.Abs.Seat
namespace Go.Abs.Seat
noncomputable section
open Go Go.Abs Go.Proofs.Tryz
set_option maxRecDepth 100000
set_option maxHeartbeats 40000000
attribute [local irreducible] IntKind.wrap pEq
def okTr (L:List (Int × Int)):Prop :=(1 ≤ L.length ∧ L.length ≤ 3) ∧ gd L
instance (L:List (Int × Int)):Decidable (okTr L) :=inferInstanceAs (Decidable (_ ∧ _))
theorem qsf {v:AV} {L:List (Int × Int)} (h:PQ v L):Pure prog 51 [v] (.bool (decide (okTr L))) :=by
 rcases h with ⟨rfl,rfl⟩ | rfl
 ·rw [decide_eq_false (show ¬ okTr [] from fun z => absurd z.1.1 (by decide))]
  exact qlr
 ·by_cases hk:1 ≤ L.length ∧ L.length ≤ 3
  ·have e:decide (okTr L) = decide (gd L) :=decide_eq_decide.2 ⟨fun z => z.2,fun z => ⟨hk,z⟩⟩
   rw [e]
   rcases L with _ | ⟨⟨a,b⟩,_ | ⟨⟨c,d⟩,_ | ⟨⟨x,f⟩,_ | ⟨g,r⟩⟩⟩⟩
   ·exact absurd hk.1 (by decide)
   ·exact quw a b
   ·exact quv a b c d
   ·exact quu a b c d x f
   ·have :=hk.2;simp only [List.length_cons] at this;omega
  ·rw [decide_eq_false (show ¬ okTr L from fun z => hk z.1)]
   exact qm5 (flat L) L.length (qa3 L) hk
abbrev gpr (L:List (Int × Int)) (i:Nat):Int × Int :=L.getD i (0,0)
theorem qko (L:List (Int × Int)) {i:Nat} (h:i < L.length):nth (flat L) (i * 2) = some (iv (gpr L i).1) ∧ nth (flat L) (i * 2 + 1) = some (iv (gpr L i).2) :=by
 rw [qfx,qfx]
 induction L generalizing i with
 |nil => exact absurd h (Nat.not_lt_zero _)
 |cons p r ih =>
  cases i with
  |zero => exact ⟨rfl,rfl⟩
  |succ i =>
   have k :=ih (i :=i) (Nat.lt_of_succ_lt_succ h)
   have e1:(i + 1) * 2 = i * 2 + 2 :=Nat.succ_mul _ _
   rw [e1]
   exact ⟨k.1,k.2⟩
theorem qou:∀ L:List (Int × Int),gd L ↔ ∀ i,i < L.length → tth (gpr L i).1 ∧ tth (gpr L i).2
 | [] => ⟨fun _ i h => absurd h (Nat.not_lt_zero _),fun _ => trivial⟩
 |p :: r => by
  have ih :=qou r
  constructor
  ·rintro ⟨h1,h2⟩ i hi
   cases i with
   |zero => exact h1
   |succ i => exact ih.1 h2 i (Nat.lt_of_succ_lt_succ hi)
  ·intro h
   exact ⟨h 0 (Nat.succ_pos _),ih.2 fun i hi => h (i + 1) (Nat.succ_lt_succ hi)⟩
theorem qq4 {v:AV} {L:List (Int × Int)} (h:PQ v L) (hl:L.length < 4611686018427387904) {b:Bool} (hb:b = true ↔ okTr L):Pure prog 37 [v] (.bool b) :=by
 rcases h with ⟨rfl,rfl⟩ | rfl
 ·rw [Bool.eq_false_iff.2 (fun e => absurd (hb.1 e).1.1 (by decide))]
  exact qml
 ·have lL :=qa3 L
  refine qbg hE rfl (by repeat' first|exact trivial|assumption|exact qa3 _|exact fun _ h => nomatch h|apply And.intro) (by repeat' first|exact trivial|assumption|exact qa3 _|exact fun _ h => nomatch h|apply And.intro) fun S q pc hS hq hC hE => ?_
  conv => whnf
  refine qbh hE hS (A :=Nat) [0] (fun i => [(3,nv i)]) (fun _ => []) (fun _ => []) (fun i => i ≤ L.length ∧ ∀ j,j < i → tth (gpr L j).1 ∧ tth (gpr L j).2) (fun i => L.length - i) 0 (kle rfl) rfl (zhg 0) ⟨Nat.zero_le _,fun _ h => absurd h (Nat.not_lt_zero _)⟩ ?_
  intro i ⟨hi,hA⟩ K hK
  obtain rfl:K = 0 :=hK
  conv => whnf
  by_cases hi2:i < L.length
  ·have hi1:IntKind.i64.wrap (Int.ofNat i + 1) = Int.ofNat (i + 1) :=qbr (m :=i + 1) (by omega)
   have g :=qko L hi2
   by_cases h1:tth (gpr L i).1
   ·have c1:(!decide (tth (gpr L i).1)) = false :=by rw [decide_eq_true h1];rfl
    by_cases h2:tth (gpr L i).2
    ·have c2:(!decide (tth (gpr L i).2)) = false :=by rw [decide_eq_true h2];rfl
     try have z290:=qbk hi2
     try have z291:=qbf hi2
     repeat ((first|refine qa2 (nthP g.1) ?_|refine qa2 (nthP g.2) ?_|refine qa5 ‹_› ?_|refine qa4 ‹_› ?_|refine pkT ‹_› ?_|refine qax ‹_› ?_|refine qa9 ‹_› ?_|refine qbc ‹_› ?_|refine pkF ‹_› ?_|refine qar ‹_› ?_|refine qa5 (gff ‹_›) ?_|refine qa4 (gff ‹_›) ?_|refine pkT (gff ‹_›) ?_|refine qax (gff ‹_›) ?_|refine qav hC (qc2 (gpr L i).1) ?_|refine qav hC (qc2 (gpr L i).2) ?_|refine qaq hS (by kernel_rfl) ?_);conv => whnf)
     exact ⟨i + 1,⟨hi2,fun j hj => (Nat.lt_succ_iff_lt_or_eq.1 hj).elim (hA j) fun e => by rw [e];exact ⟨h1,h2⟩⟩,by omega,Nat.le_refl _,(zhg 0)⟩
    ·have c2:(!decide (tth (gpr L i).2)) = true :=by rw [decide_eq_false h2];rfl
     have hz:b = false :=Bool.eq_false_iff.2 fun e => h2 ((qou L).1 (hb.1 e).2 i hi2).2
     try have z292:=qbk hi2
     try have z293:=qbf hi2
     repeat ((first|refine qa2 (nthP g.1) ?_|refine qa2 (nthP g.2) ?_|refine qa5 ‹_› ?_|refine qa4 ‹_› ?_|refine pkT ‹_› ?_|refine qax ‹_› ?_|refine qa9 ‹_› ?_|refine qbc ‹_› ?_|refine pkF ‹_› ?_|refine qar ‹_› ?_|refine qa5 (gff ‹_›) ?_|refine qa4 (gff ‹_›) ?_|refine pkT (gff ‹_›) ?_|refine qax (gff ‹_›) ?_|refine qav hC (qc2 (gpr L i).1) ?_|refine qav hC (qc2 (gpr L i).2) ?_|refine qaq hS (by kernel_rfl) ?_);conv => whnf)
     exact ⟨_,rfl,wkb hz.symm⟩
   ·have c1:(!decide (tth (gpr L i).1)) = true :=by rw [decide_eq_false h1];rfl
    have hz:b = false :=Bool.eq_false_iff.2 fun e => h1 ((qou L).1 (hb.1 e).2 i hi2).1
    try have z294:=qbk hi2
    try have z295:=qbf hi2
    repeat ((first|refine qa2 (nthP g.1) ?_|refine qa5 ‹_› ?_|refine qa4 ‹_› ?_|refine pkT ‹_› ?_|refine qax ‹_› ?_|refine qa9 ‹_› ?_|refine qbc ‹_› ?_|refine pkF ‹_› ?_|refine qar ‹_› ?_|refine qa9 (gft ‹_›) ?_|refine qbc (gft ‹_›) ?_|refine pkF (gft ‹_›) ?_|refine qar (gft ‹_›) ?_|refine qav hC (qc2 (gpr L i).1) ?_|refine qaq hS (by kernel_rfl) ?_);conv => whnf)
    exact ⟨_,rfl,wkb hz.symm⟩
  ·refine qar (qb9 hi2) ?_
   conv => whnf
   refine .inl ?_
   conv => whnf
   have hiE:i = L.length :=by omega
   have hz:decide ((1:Int) ≤ L.length ∧ (L.length:Int) ≤ 3) = b :=by
    rw [Bool.eq_iff_iff,decide_eq_true_eq,hb]
    exact ⟨fun z => ⟨⟨by omega,by omega⟩,(qou L).2 fun j hj => hA j (by omega)⟩,fun z => ⟨by have :=z.1.1;omega,by have :=z.1.2;omega⟩⟩
   repeat ((first|refine qav hC (qf5 (L.length:Int) 1 3) ?_|refine qaq hS (by kernel_rfl) ?_);conv => whnf)
   exact ⟨_,rfl,wkb hz⟩
def PZ (v:AV) (L:List (Int × Int)):Prop :=PQ v L ∨ v = .gp 0 0 ∧ L = []
theorem PZ.no {v:AV} {L:List (Int × Int)} (h:PZ v L):Live noL v :=by
 rcases h with h | ⟨rfl,_⟩
 ·exact h.no
 ·trivial
theorem PZ.sh {v:AV} {L:List (Int × Int)} (h:PZ v L):v = .nils ∨ v = .gp 0 0 ∨ v = pv L :=by
 rcases h with (⟨rfl,_⟩ | rfl) | ⟨rfl,_⟩
 ·exact .inl rfl
 ·exact .inr (.inr rfl)
 ·exact .inr (.inl rfl)
theorem qse {v:AV} {L:List (Int × Int)} (h:PZ v L):Pure prog 51 [v] (.bool (decide (okTr L))) :=by
 rcases h with h | ⟨rfl,rfl⟩
 ·exact qsf h
 ·rw [decide_eq_false (show ¬ okTr [] from fun z => absurd z.1.1 (by decide))]
  have p :=qep 0 1 3
  refine qbg hE rfl (by repeat' first|exact trivial|assumption|exact qa3 _|exact fun _ h => nomatch h|apply And.intro) (by repeat' first|exact trivial|assumption|exact qa3 _|exact fun _ h => nomatch h|apply And.intro) fun S q pc hS hq hC hE => ?_
  conv => whnf
  repeat ((first|refine qav hC (p) ?_|refine qaq hS (by kernel_rfl) ?_);conv => whnf)
  exact ⟨_,rfl,Wk.refl _⟩
theorem qle {v:AV} {L:List (Int × Int)} (h:PZ v L) (hl:L.length < 4611686018427387904) {b:Bool} (hb:b = true ↔ okTr L):Pure prog 37 [v] (.bool b) :=by
 rcases h with h | ⟨rfl,rfl⟩
 ·exact qq4 h hl hb
 ·rw [Bool.eq_false_iff.2 (fun e => absurd (hb.1 e).1.1 (by decide))]
  have p :=qf5 0 1 3
  refine qbg hE rfl (by repeat' first|exact trivial|assumption|exact qa3 _|exact fun _ h => nomatch h|apply And.intro) (by repeat' first|exact trivial|assumption|exact qa3 _|exact fun _ h => nomatch h|apply And.intro) fun S q pc hS hq hC hE => ?_
  conv => whnf
  refine qa6 hE hS ?_
  conv => whnf
  repeat ((first|refine qav hC (p) ?_|refine qaq hS (by kernel_rfl) ?_);conv => whnf)
  exact ⟨_,rfl,Wk.refl _⟩
def PQs:List AV → List (List (Int × Int)) → Prop
 | [],[] => True
 |v :: vs,L :: Ls => PZ v L ∧ PQs vs Ls
 | _,_ => False
theorem PQs.no:∀ {vs:List AV} {Ls:List (List (Int × Int))},PQs vs Ls → Lives noL vs
 | [],[],_ => trivial
 | [],_ :: _,h => h.elim
 | _ :: _,[],h => h.elim
 | _ :: _,_ :: _,h => ⟨h.1.no,PQs.no h.2⟩
abbrev gLs (Ls:List (List (Int × Int))) (i:Nat):List (Int × Int) :=Ls.getD i []
theorem PQs.nth:∀ {vs:List AV} {Ls:List (List (Int × Int))},PQs vs Ls → ∀ {i:Nat},i < Ls.length → ∃ v,nth vs (i * 1) = some v ∧ PZ v (gLs Ls i)
 | [],[],_,_,hi => absurd hi (Nat.not_lt_zero _)
 | [],_ :: _,h,_,_ => h.elim
 | _ :: _,[],h,_,_ => h.elim
 |v :: vs,L :: Ls,h,i,hi => by
  cases i with
  |zero => exact ⟨v,rfl,h.1⟩
  |succ i =>
   obtain ⟨u,e,p⟩ :=PQs.nth h.2 (i :=i) (Nat.lt_of_succ_lt_succ hi)
   refine ⟨u,?_,p⟩
   rw [qfx,Nat.mul_one] at e ⊢
   exact e
def XQ (X:AV) (Ls:List (List (Int × Int))):Prop :=X = .nils ∧ Ls = [] ∨ ∃ vs,PQs vs Ls ∧ X = .lst vs Ls.length .no
theorem XQ.no {X:AV} {Ls:List (List (Int × Int))} (h:XQ X Ls):Live noL X :=by
 rcases h with ⟨rfl,_⟩ | ⟨vs,h,rfl⟩
 ·trivial
 ·exact ⟨h.no,fun _ e => nomatch e⟩
def okTs (Ls:List (List (Int × Int))):Prop :=Ls.length ≤ 4 ∧ ∀ i,i < Ls.length → okTr (gLs Ls i)
theorem qly {v:AV} {L:List (Int × Int)} (h:PZ v L):Pure prog 81 [v] (.bool (!(decide (okTr L)))) :=by
 have p :=qse h
 have lv :=h.no
 rcases h.sh with rfl | rfl | rfl
 all_goals
  refine qbg hE rfl (by repeat' first|exact trivial|assumption|exact qa3 _|exact fun _ h => nomatch h|apply And.intro) (by repeat' first|exact trivial|assumption|exact qa3 _|exact fun _ h => nomatch h|apply And.intro) fun S q pc hS hq hC hE => ?_
  conv => whnf
  repeat ((first|refine qav hC (p) ?_|refine qaq hS (by kernel_rfl) ?_);conv => whnf)
  exact ⟨_,rfl,Wk.refl _⟩
theorem qxw {vs:List AV} {Ls:List (List (Int × Int))} (h:PQs vs Ls) (hl:Ls.length < 4611686018427387904) (ha:∀ i,i < Ls.length → okTr (gLs Ls i)):Pure prog 110 [.lst vs Ls.length .no,.func (.func 81) [] []] (iv (-1)) :=by
 have lv :=h.no
 refine qbg hE rfl (by repeat' first|exact trivial|assumption|exact qa3 _|exact fun _ h => nomatch h|apply And.intro) (by repeat' first|exact trivial|assumption|exact qa3 _|exact fun _ h => nomatch h|apply And.intro) fun S q pc hS hq hC hE => ?_
 conv => whnf
 refine qbh hE hS (A :=Nat) [0,1,7] (fun i => [(8,nv i)]) (fun _ => []) (fun _ => []) (fun i => i ≤ Ls.length) (fun i => Ls.length - i) 0 (kle rfl) rfl (zhg 0) (Nat.zero_le _) ?_
 intro i hi K hK
 obtain rfl:K = 0 :=hK
 conv => whnf
 by_cases hi2:i < Ls.length
 ·have hi1:IntKind.i64.wrap (Int.ofNat i + 1) = Int.ofNat (i + 1) :=qbr (m :=i + 1) (by omega)
  refine Exists.elim (h.nth hi2) fun v hv => ?_
  have gx :=hv.1
  have c1:(!(decide (okTr (gLs Ls i)))) = false :=by rw [decide_eq_true (ha i hi2)];rfl
  have p :=qly hv.2
  rw [c1] at p
  refine Or.elim hv.2.sh (fun hp => ?_) fun hp => Or.elim hp (fun hp => ?_) fun hp => ?_
  all_goals
   rw [hp] at gx p
   try have z296:=qbk hi2
   try have z297:=qbf hi2
   repeat ((first|refine qa2 (nthP gx) ?_|refine qa5 ‹_› ?_|refine qa4 ‹_› ?_|refine pkT ‹_› ?_|refine qax ‹_› ?_|refine qa9 ‹_› ?_|refine qbc ‹_› ?_|refine pkF ‹_› ?_|refine qar ‹_› ?_|refine qav hC (p) ?_|refine qaq hS (by kernel_rfl) ?_);conv => whnf)
   exact ⟨i + 1,hi2,by omega,Nat.le_refl _,(zhg 0)⟩
 ·refine qar (qb9 hi2) ?_
  conv => whnf
  refine .inl ?_
  conv => whnf
  exact ⟨_,rfl,Wk.refl _⟩
theorem quz {vs:List AV} {Ls:List (List (Int × Int))} (h:PQs vs Ls) (hl:Ls.length < 4611686018427387904) {k:Nat} (hk:k < Ls.length) (ha:∀ i,i < k → okTr (gLs Ls i)) (hb:¬ okTr (gLs Ls k)):Pure prog 110 [.lst vs Ls.length .no,.func (.func 81) [] []] (nv k) :=by
 have lv :=h.no
 refine qbg hE rfl (by repeat' first|exact trivial|assumption|exact qa3 _|exact fun _ h => nomatch h|apply And.intro) (by repeat' first|exact trivial|assumption|exact qa3 _|exact fun _ h => nomatch h|apply And.intro) fun S q pc hS hq hC hE => ?_
 conv => whnf
 refine qbh hE hS (A :=Nat) [0,1,7] (fun i => [(8,nv i)]) (fun _ => []) (fun _ => []) (fun i => i ≤ k) (fun i => k - i) 0 (kle rfl) rfl (zhg 0) (Nat.zero_le _) ?_
 intro i hi K hK
 obtain rfl:K = 0 :=hK
 conv => whnf
 have hi2:i < Ls.length :=by omega
 have hi1:IntKind.i64.wrap (Int.ofNat i + 1) = Int.ofNat (i + 1) :=qbr (m :=i + 1) (by omega)
 refine Exists.elim (h.nth hi2) fun v hv => ?_
 have gx :=hv.1
 have p :=qly hv.2
 by_cases hik:i < k
 ·have c1:(!(decide (okTr (gLs Ls i)))) = false :=by rw [decide_eq_true (ha i hik)];rfl
  rw [c1] at p
  refine Or.elim hv.2.sh (fun hp => ?_) fun hp => Or.elim hp (fun hp => ?_) fun hp => ?_
  all_goals
   rw [hp] at gx p
   try have z298:=qbk hi2
   try have z299:=qbf hi2
   repeat ((first|refine qa2 (nthP gx) ?_|refine qa5 ‹_› ?_|refine qa4 ‹_› ?_|refine pkT ‹_› ?_|refine qax ‹_› ?_|refine qa9 ‹_› ?_|refine qbc ‹_› ?_|refine pkF ‹_› ?_|refine qar ‹_› ?_|refine qav hC (p) ?_|refine qaq hS (by kernel_rfl) ?_);conv => whnf)
   exact ⟨i + 1,hik,by omega,Nat.le_refl _,(zhg 0)⟩
 ·have hE2:i = k :=by omega
  have c1:(!(decide (okTr (gLs Ls i)))) = true :=by rw [hE2,decide_eq_false hb];rfl
  rw [c1] at p
  refine Or.elim hv.2.sh (fun hp => ?_) fun hp => Or.elim hp (fun hp => ?_) fun hp => ?_
  all_goals
   rw [hp] at gx p
   try have z300:=qbk hi2
   try have z301:=qbf hi2
   repeat ((first|refine qa2 (nthP gx) ?_|refine qa5 ‹_› ?_|refine qa4 ‹_› ?_|refine pkT ‹_› ?_|refine qax ‹_› ?_|refine qa9 ‹_› ?_|refine qbc ‹_› ?_|refine pkF ‹_› ?_|refine qar ‹_› ?_|refine qav hC (p) ?_|refine qaq hS (by kernel_rfl) ?_);conv => whnf)
   exact ⟨_,rfl,wk_i (by rw [hE2])⟩
theorem qsk:Pure prog 110 [.nils,.func (.func 81) [] []] (iv (-1)) :=by
 refine qbg hE rfl (by repeat' first|exact trivial|assumption|exact qa3 _|exact fun _ h => nomatch h|apply And.intro) (by repeat' first|exact trivial|assumption|exact qa3 _|exact fun _ h => nomatch h|apply And.intro) fun S q pc hS hq hC hE => ?_
 conv => whnf
 refine qa6 hE hS ?_
 conv => whnf
 exact ⟨_,rfl,Wk.refl _⟩
theorem qsr {Ls:List (List (Int × Int))} (h:¬ ∀ i,i < Ls.length → okTr (gLs Ls i)):∃ k,k < Ls.length ∧ (∀ i,i < k → okTr (gLs Ls i)) ∧ ¬ okTr (gLs Ls k) :=by
 have key:∀ n,n ≤ Ls.length → (∀ i,i < n → okTr (gLs Ls i)) ∨ ∃ k,k < n ∧ (∀ i,i < k → okTr (gLs Ls i)) ∧ ¬ okTr (gLs Ls k) :=by
  intro n
  induction n with
  |zero => exact fun _ => .inl fun i h => absurd h (Nat.not_lt_zero _)
  |succ n ih =>
   intro hn
   rcases ih (by omega) with h1 | ⟨k,h1,h2,h3⟩
   ·by_cases h2:okTr (gLs Ls n)
    ·exact .inl fun i hi => (Nat.lt_succ_iff_lt_or_eq.1 hi).elim (h1 i) fun e => e ▸ h2
    ·exact .inr ⟨n,Nat.lt_succ_self n,h1,h2⟩
   ·exact .inr ⟨k,by omega,h2,h3⟩
 rcases key _ (Nat.le_refl _) with h1 | h1
 ·exact absurd h1 h
 ·exact h1
theorem qsl {X:AV} {Ls:List (List (Int × Int))} (h:XQ X Ls) (hl:Ls.length < 4611686018427387904) {b:Bool} (hb:b = true ↔ ¬ ∀ i,i < Ls.length → okTr (gLs Ls i)):Pure prog 80 [X,.func (.func 81) [] []] (.bool b) :=by
 rcases h with ⟨rfl,rfl⟩ | ⟨vs,h,rfl⟩
 ·rw [Bool.eq_false_iff.2 fun e => hb.1 e fun i hi => absurd hi (Nat.not_lt_zero _)]
  refine qbg hE rfl (by repeat' first|exact trivial|assumption|exact qa3 _|exact fun _ h => nomatch h|apply And.intro) (by repeat' first|exact trivial|assumption|exact qa3 _|exact fun _ h => nomatch h|apply And.intro) fun S q pc hS hq hC hE => ?_
  conv => whnf
  repeat ((first|refine qav hC (qsk) ?_|refine qaq hS (by kernel_rfl) ?_);conv => whnf)
  exact ⟨_,rfl,Wk.refl _⟩
 ·have lv :=h.no
  by_cases ha:∀ i,i < Ls.length → okTr (gLs Ls i)
  ·rw [Bool.eq_false_iff.2 fun e => hb.1 e ha]
   have p :=qxw h hl ha
   refine qbg hE rfl (by repeat' first|exact trivial|assumption|exact qa3 _|exact fun _ h => nomatch h|apply And.intro) (by repeat' first|exact trivial|assumption|exact qa3 _|exact fun _ h => nomatch h|apply And.intro) fun S q pc hS hq hC hE => ?_
   conv => whnf
   repeat ((first|refine qav hC (p) ?_|refine qaq hS (by kernel_rfl) ?_);conv => whnf)
   exact ⟨_,rfl,Wk.refl _⟩
  ·rw [hb.2 ha]
   obtain ⟨k,h1,h2,h3⟩ :=qsr ha
   have p :=quz h hl h1 h2 h3
   refine qbg hE rfl (by repeat' first|exact trivial|assumption|exact qa3 _|exact fun _ h => nomatch h|apply And.intro) (by repeat' first|exact trivial|assumption|exact qa3 _|exact fun _ h => nomatch h|apply And.intro) fun S q pc hS hq hC hE => ?_
   conv => whnf
   repeat ((first|refine qav hC (p) ?_|refine qaq hS (by kernel_rfl) ?_);conv => whnf)
   exact ⟨_,rfl,wkb (decide_eq_true (Int.natCast_nonneg _))⟩
theorem qhb {X:AV} {Ls:List (List (Int × Int))} (h:XQ X Ls) (hl:Ls.length < 4611686018427387904) {b:Bool} (hb:b = true ↔ okTs Ls):Pure prog 33 [X] (.bool b) :=by
 have lX :=h.no
 by_cases h4:Ls.length ≤ 4
 ·obtain ⟨d,hd⟩ : ∃ d:Bool,d = decide (¬ ∀ i,i < Ls.length → okTr (gLs Ls i)) :=⟨_,rfl⟩
  have p :=qsl h hl (b :=d) (by rw [hd,decide_eq_true_eq])
  have e:b = !d :=by
   rw [Bool.eq_iff_iff,hb,hd]
   simp only [Bool.not_eq_true',decide_eq_false_iff_not,Decidable.not_not]
   exact ⟨fun z => z.2,fun z => ⟨h4,z⟩⟩
  rw [e]
  have c1:decide ((Ls.length:Int) ≤ 4) = true :=decide_eq_true (by omega)
  rcases h with ⟨rfl,rfl⟩ | ⟨vs,h,rfl⟩
  ·refine qbg hE rfl (by repeat' first|exact trivial|assumption|exact qa3 _|exact fun _ h => nomatch h|apply And.intro) (by repeat' first|exact trivial|assumption|exact qa3 _|exact fun _ h => nomatch h|apply And.intro) fun S q pc hS hq hC hE => ?_
   conv => whnf
   repeat ((first|refine qav hC (p) ?_|refine qaq hS (by kernel_rfl) ?_);conv => whnf)
   exact ⟨_,rfl,Wk.refl _⟩
  ·have lv :=h.no
   refine qbg hE rfl (by repeat' first|exact trivial|assumption|exact qa3 _|exact fun _ h => nomatch h|apply And.intro) (by repeat' first|exact trivial|assumption|exact qa3 _|exact fun _ h => nomatch h|apply And.intro) fun S q pc hS hq hC hE => ?_
   conv => whnf
   repeat ((first|refine qa5 c1 ?_|refine qa4 c1 ?_|refine pkT c1 ?_|refine qax c1 ?_|refine qa5 (qcc c1) ?_|refine qa4 (qcc c1) ?_|refine pkT (qcc c1) ?_|refine qax (qcc c1) ?_|refine qav hC (p) ?_|refine qaq hS (by kernel_rfl) ?_);conv => whnf)
   exact ⟨_,rfl,Wk.refl _⟩
 ·have c1:decide ((Ls.length:Int) ≤ 4) = false :=decide_eq_false (by omega)
  rw [Bool.eq_false_iff.2 fun e => h4 (hb.1 e).1]
  rcases h with ⟨rfl,rfl⟩ | ⟨vs,h,rfl⟩
  ·exact absurd (Nat.zero_le 4) h4
  ·have lv :=h.no
   refine qbg hE rfl (by repeat' first|exact trivial|assumption|exact qa3 _|exact fun _ h => nomatch h|apply And.intro) (by repeat' first|exact trivial|assumption|exact qa3 _|exact fun _ h => nomatch h|apply And.intro) fun S q pc hS hq hC hE => ?_
   conv => whnf
   repeat ((first|refine qa9 c1 ?_|refine qbc c1 ?_|refine pkF c1 ?_|refine qar c1 ?_|refine qa9 (qc8 c1) ?_|refine qbc (qc8 c1) ?_|refine pkF (qc8 c1) ?_|refine qar (qc8 c1) ?_|refine qaq hS (by kernel_rfl) ?_);conv => whnf)
   exact ⟨_,rfl,Wk.refl _⟩
theorem qlf {X:AV} {Ls:List (List (Int × Int))} (h:XQ X Ls) (hl:Ls.length < 4611686018427387904) (hll:∀ i,i < Ls.length → (gLs Ls i).length < 4611686018427387904) {b:Bool} (hb:b = true ↔ okTs Ls):Pure prog 11 [X] (.bool b) :=by
 have lX :=h.no
 rcases h with ⟨rfl,rfl⟩ | ⟨vs,h,rfl⟩
 ·rw [hb.2 ⟨Nat.zero_le _,fun i hi => absurd hi (Nat.not_lt_zero _)⟩]
  refine qbg hE rfl (by repeat' first|exact trivial|assumption|exact qa3 _|exact fun _ h => nomatch h|apply And.intro) (by repeat' first|exact trivial|assumption|exact qa3 _|exact fun _ h => nomatch h|apply And.intro) fun S q pc hS hq hC hE => ?_
  conv => whnf
  refine qa6 hE hS ?_
  conv => whnf
  exact ⟨_,rfl,Wk.refl _⟩
 ·have lv :=h.no
  refine qbg hE rfl (by repeat' first|exact trivial|assumption|exact qa3 _|exact fun _ h => nomatch h|apply And.intro) (by repeat' first|exact trivial|assumption|exact qa3 _|exact fun _ h => nomatch h|apply And.intro) fun S q pc hS hq hC hE => ?_
  conv => whnf
  refine qbh hE hS (A :=Nat) [0] (fun i => [(3,nv i)]) (fun _ => []) (fun _ => []) (fun i => i ≤ Ls.length ∧ ∀ j,j < i → okTr (gLs Ls j)) (fun i => Ls.length - i) 0 (kle rfl) rfl (zhg 0) ⟨Nat.zero_le _,fun _ h => absurd h (Nat.not_lt_zero _)⟩ ?_
  intro i ⟨hi,hA⟩ K hK
  obtain rfl:K = 0 :=hK
  conv => whnf
  by_cases hi2:i < Ls.length
  ·have hi1:IntKind.i64.wrap (Int.ofNat i + 1) = Int.ofNat (i + 1) :=qbr (m :=i + 1) (by omega)
   refine Exists.elim (h.nth hi2) fun v hv => ?_
   have gx :=hv.1
   by_cases h1:okTr (gLs Ls i)
   ·have p :=qle hv.2 (hll i hi2) (b :=true) ⟨fun _ => h1,fun _ => rfl⟩
    refine Or.elim hv.2.sh (fun hp => ?_) fun hp => Or.elim hp (fun hp => ?_) fun hp => ?_
    all_goals
     rw [hp] at gx p
     try have z302:=qbk hi2
     try have z303:=qbf hi2
     repeat ((first|refine qa2 (nthP gx) ?_|refine qa5 ‹_› ?_|refine qa4 ‹_› ?_|refine pkT ‹_› ?_|refine qax ‹_› ?_|refine qa9 ‹_› ?_|refine qbc ‹_› ?_|refine pkF ‹_› ?_|refine qar ‹_› ?_|refine qav hC (p) ?_|refine qaq hS (by kernel_rfl) ?_);conv => whnf)
     exact ⟨i + 1,⟨hi2,fun j hj => (Nat.lt_succ_iff_lt_or_eq.1 hj).elim (hA j) fun e => e ▸ h1⟩,by omega,Nat.le_refl _,(zhg 0)⟩
   ·have p :=qle hv.2 (hll i hi2) (b :=false) (Iff.intro (fun e => nomatch e) (fun e => absurd e h1))
    have hz:b = false :=Bool.eq_false_iff.2 fun e => h1 ((hb.1 e).2 i hi2)
    refine Or.elim hv.2.sh (fun hp => ?_) fun hp => Or.elim hp (fun hp => ?_) fun hp => ?_
    all_goals
     rw [hp] at gx p
     try have z304:=qbk hi2
     try have z305:=qbf hi2
     repeat ((first|refine qa2 (nthP gx) ?_|refine qa5 ‹_› ?_|refine qa4 ‹_› ?_|refine pkT ‹_› ?_|refine qax ‹_› ?_|refine qa9 ‹_› ?_|refine qbc ‹_› ?_|refine pkF ‹_› ?_|refine qar ‹_› ?_|refine qav hC (p) ?_|refine qaq hS (by kernel_rfl) ?_);conv => whnf)
     exact ⟨_,rfl,wkb hz.symm⟩
  ·have hz:decide ((Ls.length:Int) ≤ 4) = b :=by
    rw [Bool.eq_iff_iff,decide_eq_true_eq,hb]
    refine ⟨fun z => ⟨?_,fun j hj => hA j (by omega)⟩,fun z => ?_⟩
    ·omega
    ·have :=z.1
     omega
   refine qar (qb9 hi2) ?_
   conv => whnf
   refine .inl ?_
   conv => whnf
   exact ⟨_,rfl,wkb hz⟩
theorem qqh:∀ T:List (List (Nat × Nat)),PQs (xqs T) (T.map zp)
 | [] => trivial
 |t :: r => ⟨.inl (qvn t),qqh r⟩
theorem qqi (T:List (List (Nat × Nat))):XQ (xqT T) (T.map zp) :=by
 unfold xqT
 split
 ·rename_i e;exact .inl ⟨rfl,by rw [e];rfl⟩
 ·exact .inr ⟨xqs T,qqh T,by rw [List.length_map]⟩
structure OkQ (r:TrR) (V:List Nat) (T:List (List (Nat × Nat))):Prop where
 rule:rOk r.1 r.2.1 r.2.2.1 r.2.2.2 (zl V)
 trains:okTs (T.map zp)
theorem OkQ.ne {r:TrR} {V:List Nat} {T:List (List (Nat × Nat))} (h:OkQ r V T):∀ t,t ∈ T → 1 ≤ t.length ∧ t.length ≤ 3 ∧ ∀ n,n ∈ flN t → 4 ≤ n ∧ n ≤ 60 :=by
 intro t ht
 obtain ⟨i,hi,e⟩ :=List.getElem_of_mem ht
 have k :=h.trains.2 i (by rw [List.length_map];exact hi)
 have g:gLs (T.map zp) i = zp t :=by simp [gLs,List.getD,hi,e]
 rw [g] at k
 refine ⟨by have :=k.1.1;rwa [qew] at this,by have :=k.1.2;rwa [qew] at this,fun n hn => ?_⟩
 have k2 :=k.2
 clear e k g ht hi
 induction t with
 |nil => exact absurd hn (by simp [flN])
 |cons p r ih =>
  obtain ⟨⟨a1,a2⟩,a3⟩ :=k2
  rcases List.mem_cons.1 hn with rfl | hn
  ·have a1:tth (Int.ofNat p.1) :=a1
   unfold tth at a1
   simp only [Int.ofNat_eq_natCast] at a1
   omega
  ·rcases List.mem_cons.1 hn with rfl | hn
   ·have a2:tth (Int.ofNat p.2) :=a2
    unfold tth at a2
    simp only [Int.ofNat_eq_natCast] at a2
    omega
   ·exact ih hn a3
theorem OkQ.V {r:TrR} {V:List Nat} {T:List (List (Nat × Nat))} (h:OkQ r V T):V.length ≤ 6 ∧ ∀ n,n ∈ V → 4 ≤ n ∧ n ≤ 60 :=by
 obtain ⟨_,_,_,_,_,h6,h7⟩ :=h.rule
 refine ⟨by rwa [qcd] at h6,fun n hn => ?_⟩
 obtain ⟨i,hi,e⟩ :=List.getElem_of_mem hn
 have k :=h7 i (by rw [qcd];exact hi)
 rw [qcf V hi,show gn V i = n by rw [← e];simp [gn,List.getD,hi]] at k
 unfold tth at k
 simp only [Int.ofNat_eq_natCast] at k
 omega
theorem OkQ.T {r:TrR} {V:List Nat} {T:List (List (Nat × Nat))} (h:OkQ r V T):T.length ≤ 4 :=by
 have :=h.trains.1
 rwa [List.length_map] at this
theorem OkQ.ok {r:TrR} {V:List Nat} {T:List (List (Nat × Nat))} (h:OkQ r V T):okR r V T :=by
 obtain ⟨h1,h2,_,h4,h5,_,_⟩ :=h.rule
 unfold tth at h1 h2
 refine ⟨⟨⟨by omega,by omega,by omega⟩,by omega,by omega⟩,fun n hn => by have :=(h.V.2 n hn).2;omega,fun t ht n hn => by have :=((h.ne t ht).2.2 n hn).2;omega⟩
theorem OkQ.sh {r:TrR} {V:List Nat} {T:List (List (Nat × Nat))} (h:OkQ r V T):ShW r V T :=⟨by have :=h.V.1;omega,by have :=h.T;omega,fun t ht => by have :=(h.ne t ht).2.1;omega⟩
theorem OkQ.le {r:TrR} {V:List Nat} {T:List (List (Nat × Nat))} (h:OkQ r V T):(prtT r V T).length ≤ 400 :=qxc h.V.1 (fun t ht => (h.ne t ht).2.1) h.T
theorem qtc:∀ {vs:List AV} {T:List (List (Nat × Nat))},PQs vs (T.map zp) → (∀ t,t ∈ T → t ≠ []) → vs = xqs T
 | [],[],_,_ => rfl
 | [],_ :: _,h,_ => h.elim
 | _ :: _,[],h,_ => h.elim
 |v :: vs,t :: T,h,hn => by
  have e1:v = xqV t :=by
   rcases h.1 with (⟨_,e⟩ | e) | ⟨_,e⟩
   ·exact absurd (List.map_eq_nil_iff.1 e) (hn t (List.mem_cons_self ..))
   rotate_left
   ·exact absurd (List.map_eq_nil_iff.1 e) (hn t (List.mem_cons_self ..))
   ·rw [xqV,if_neg (hn t (List.mem_cons_self ..)),e]
  rw [e1,qtc h.2 fun x hx => hn x (List.mem_cons_of_mem _ hx)]
  rfl
theorem OkQ.X {r:TrR} {V:List Nat} {T:List (List (Nat × Nat))} (h:OkQ r V T) {X:AV} (hX:XQ X (T.map zp)):TQ X T :=by
 rcases hX with ⟨rfl,e⟩ | ⟨vs,hv,rfl⟩
 ·exact .inl ⟨rfl,List.map_eq_nil_iff.1 e⟩
 ·rw [qtc hv fun t ht z => by have :=(h.ne t ht).1;rw [z] at this;exact absurd this (by decide),List.length_map]
  exact .inr rfl
theorem qqa (cst:Bool) (s:List UInt8):q0 20 cst (.iface 78 (.agg [.str s])) .nili = some false :=by kernel_rfl
theorem qqr {r:TrR} {N X:AV} {V:List Nat} {T:List (List (Nat × Nat))} (h:OkQ r V T) (hN:IL N (zl V)) (hX:XQ X (T.map zp)):Pure prog 9 [rv r.1 r.2.1 r.2.2.1 r.2.2.2 N,X] (.tup [.str (prtT r V T),iv 0]) :=by
 have lN :=hN.no
 have lX :=hX.no
 have hs :=h.rule.2.2.2.2.1
 have p1 :=qfm hN (by have :=h.V.1;rw [qcd];omega) r.1 r.2.1 r.2.2.1 r.2.2.2 (by omega) (r :=true) (Iff.intro (fun _ => h.rule) fun _ => rfl)
 have p2 :=qhb hX (by have :=h.T;rw [List.length_map];omega) (b :=true) (Iff.intro (fun _ => h.trains) fun _ => rfl)
 have hX2 :=h.X hX
 have p3 :=qi9 hN hX2 h.ok h.sh
 clear hX
 rcases hN with ⟨rfl,_⟩ | rfl <;> rcases hX2 with ⟨rfl,_⟩ | rfl
 all_goals
  refine qbg hE rfl (by repeat' first|exact trivial|assumption|exact qa3 _|exact fun _ h => nomatch h|apply And.intro) (by repeat' first|exact trivial|assumption|exact qa3 _|exact fun _ h => nomatch h|apply And.intro) fun S q pc hS hq hC hE => ?_
  conv => whnf
  repeat ((first|refine qav hC (p1) ?_|refine qav hC (p2) ?_|refine qav hC (p3) ?_|refine qaq hS (by kernel_rfl) ?_);conv => whnf)
  exact ⟨_,rfl,Wk.refl _⟩
abbrev zrR:AV :=.agg [iv 0,iv 0,iv 0,iv 0,.nils]
theorem qja {s:List UInt8} (h:400 < s.length):Pure prog 12 [.str s] (.tup [zrR,.nils,iv 3]) :=by
 have e:decide ((s.length:Int) > 400) = true :=decide_eq_true (by omega)
 refine qbg hE rfl (by repeat' first|exact trivial|assumption|exact qa3 _|exact fun _ h => nomatch h|apply And.intro) (by repeat' first|exact trivial|assumption|exact qa3 _|exact fun _ h => nomatch h|apply And.intro) fun S q pc hS hq hC hE => ?_
 conv => whnf
 repeat ((first|refine qa5 e ?_|refine qa4 e ?_|refine pkT e ?_|refine qax e ?_|refine qaq hS (by kernel_rfl) ?_);conv => whnf)
 exact ⟨_,rfl,Wk.refl _⟩
theorem qpc {s:List UInt8} (hs:s.length ≤ 400) (ht:¬ ∃ r V T,isU s r V T):Pure prog 12 [.str s] (.tup [zrR,.nils,iv 4]) :=by
 have e:decide ((s.length:Int) > 400) = false :=decide_eq_false (by omega)
 obtain ⟨r,V,T,t',p⟩ | ⟨_,why,p⟩ :=qfh hs
 ·exact absurd ⟨r,V,T,t'⟩ ht
 ·refine qbg hE rfl (by repeat' first|exact trivial|assumption|exact qa3 _|exact fun _ h => nomatch h|apply And.intro) (by repeat' first|exact trivial|assumption|exact qa3 _|exact fun _ h => nomatch h|apply And.intro) fun S q pc hS hq hC hE => ?_
  conv => whnf
  repeat ((first|refine qa9 e ?_|refine qbc e ?_|refine pkF e ?_|refine qar e ?_|refine qaq hS (by kernel_rfl) ?_);conv => whnf)
  refine qb0 hC ?_
  conv => whnf
  refine qb7 hS (p) ?_
  conv => whnf
  refine qnt hE hS ?_
  conv => whnf
  refine qjb hq false (qqa _ _) ?_
  conv => whnf
  exact ⟨_,rfl,Wk.refl _⟩
theorem qt0 {s:List UInt8} {r:TrR} {V:List Nat} {T:List (List (Nat × Nat))} (hs:s.length ≤ 400) (ht:isU s r V T) (h:OkQ r V T):Pure prog 12 [.str s] (.tup [rv r.1 r.2.1 r.2.2.1 r.2.2.2 (nlV V),xqT T,iv 0]) :=by
 have e:decide ((s.length:Int) > 400) = false :=decide_eq_false (by omega)
 obtain ⟨r',V',T',t',p⟩ | ⟨hn,_⟩ :=qfh hs
 ·obtain ⟨rfl,rfl,rfl⟩ :=qn4 ht.1 t'.1 (ht.2.trans t'.2.symm)
  have hN :=qem V
  have hX :=qqi T
  have hs :=h.rule.2.2.2.2.1
  have p1 :=qfm hN (by have :=h.V.1;rw [qcd];omega) r.1 r.2.1 r.2.2.1 r.2.2.2 (by omega) (r :=true) (Iff.intro (fun _ => h.rule) fun _ => rfl)
  have p2 :=qhb hX (by have :=h.T;rw [List.length_map];omega) (b :=true) (Iff.intro (fun _ => h.trains) fun _ => rfl)
  have lN :=hN.no
  have lX :=hX.no
  have hX2 :=h.X hX
  obtain ⟨N,eN⟩ : ∃ N,N = nlV V :=⟨_,rfl⟩
  obtain ⟨X,eX⟩ : ∃ X,X = xqT T :=⟨_,rfl⟩
  rw [← eN] at hN p p1 lN ⊢
  rw [← eX] at hX2 p p2 lX ⊢
  clear eN eX hX
  rcases hN with ⟨rfl,_⟩ | rfl <;> rcases hX2 with ⟨rfl,_⟩ | rfl
  all_goals
   refine qbg hE rfl (by repeat' first|exact trivial|assumption|exact qa3 _|exact fun _ h => nomatch h|apply And.intro) (by repeat' first|exact trivial|assumption|exact qa3 _|exact fun _ h => nomatch h|apply And.intro) fun S q pc hS hq hC hE => ?_
   conv => whnf
   repeat ((first|refine qa9 e ?_|refine qbc e ?_|refine pkF e ?_|refine qar e ?_|refine qav hC (p) ?_|refine qav hC (p1) ?_|refine qav hC (p2) ?_|refine qaq hS (by kernel_rfl) ?_);conv => whnf)
   refine qnt hE hS ?_
   conv => whnf
   refine qjb hq true qk1 ?_
   conv => whnf
   exact ⟨_,rfl,Wk.refl _⟩
 ·exact absurd ⟨r,V,T,ht⟩ hn
theorem qlc {s:List UInt8} {r:TrR} {V:List Nat} {T:List (List (Nat × Nat))} (hs:s.length ≤ 400) (ht:isU s r V T) (hl:V.length ≤ 1000) (hT:T.length ≤ 1000) (h:¬ OkQ r V T):Pure prog 12 [.str s] (.tup [zrR,.nils,iv 2]) :=by
 have e:decide ((s.length:Int) > 400) = false :=decide_eq_false (by omega)
 obtain ⟨r',V',T',t',p⟩ | ⟨hn,_⟩ :=qfh hs
 ·obtain ⟨rfl,rfl,rfl⟩ :=qn4 ht.1 t'.1 (ht.2.trans t'.2.symm)
  have hN :=qem V
  have hX :=qqi T
  have hsr :=ht.1.1.2
  have lN :=hN.no
  have lX :=hX.no
  have hl2:(zl V).length < 4611686018427387904 :=by rw [qcd];omega
  have hT2:(T.map zp).length < 4611686018427387904 :=by rw [List.length_map];omega
  by_cases h1:rOk r.1 r.2.1 r.2.2.1 r.2.2.2 (zl V)
  ·have p1 :=qfm hN hl2 r.1 r.2.1 r.2.2.1 r.2.2.2 (by omega) (r :=true) (Iff.intro (fun _ => h1) fun _ => rfl)
   have p2 :=qhb hX hT2 (b :=false) (Iff.intro (fun e => nomatch e) fun z => absurd ⟨h1,z⟩ h)
   obtain ⟨N,eN⟩ : ∃ N,N = nlV V :=⟨_,rfl⟩
   obtain ⟨X,eX⟩ : ∃ X,X = xqT T :=⟨_,rfl⟩
   rw [← eN] at hN p p1 lN
   rw [← eX] at hX p p2 lX
   clear eN eX
   rcases hN with ⟨rfl,_⟩ | rfl <;> rcases hX with ⟨rfl,_⟩ | ⟨vs,hv,rfl⟩
   all_goals
    refine qbg hE rfl (by repeat' first|exact trivial|assumption|exact qa3 _|exact fun _ h => nomatch h|apply And.intro) (by repeat' first|exact trivial|assumption|exact qa3 _|exact fun _ h => nomatch h|apply And.intro) fun S q pc hS hq hC hE => ?_
    conv => whnf
    repeat ((first|refine qa9 e ?_|refine qbc e ?_|refine pkF e ?_|refine qar e ?_|refine qav hC (p) ?_|refine qav hC (p1) ?_|refine qav hC (p2) ?_|refine qaq hS (by kernel_rfl) ?_);conv => whnf)
    refine qnt hE hS ?_
    conv => whnf
    refine qjb hq true qk1 ?_
    conv => whnf
    exact ⟨_,rfl,Wk.refl _⟩
  ·have p1 :=qfm hN hl2 r.1 r.2.1 r.2.2.1 r.2.2.2 (by omega) (r :=false) (Iff.intro (fun e => nomatch e) fun z => absurd z h1)
   obtain ⟨N,eN⟩ : ∃ N,N = nlV V :=⟨_,rfl⟩
   obtain ⟨X,eX⟩ : ∃ X,X = xqT T :=⟨_,rfl⟩
   rw [← eN] at hN p p1 lN
   rw [← eX] at hX p lX
   clear eN eX
   rcases hN with ⟨rfl,_⟩ | rfl <;> rcases hX with ⟨rfl,_⟩ | ⟨vs,hv,rfl⟩
   all_goals
    refine qbg hE rfl (by repeat' first|exact trivial|assumption|exact qa3 _|exact fun _ h => nomatch h|apply And.intro) (by repeat' first|exact trivial|assumption|exact qa3 _|exact fun _ h => nomatch h|apply And.intro) fun S q pc hS hq hC hE => ?_
    conv => whnf
    repeat ((first|refine qa9 e ?_|refine qbc e ?_|refine pkF e ?_|refine qar e ?_|refine qav hC (p) ?_|refine qav hC (p1) ?_|refine qaq hS (by kernel_rfl) ?_);conv => whnf)
    refine qnt hE hS ?_
    conv => whnf
    refine qjb hq true qk1 ?_
    conv => whnf
    exact ⟨_,rfl,Wk.refl _⟩
 ·exact absurd ⟨r,V,T,ht⟩ hn
theorem qzu:Pure prog 90 [.str []] (iv (-1)) :=by
 refine qbg hE rfl (by repeat' first|exact trivial|assumption|exact qa3 _|exact fun _ h => nomatch h|apply And.intro) (by repeat' first|exact trivial|assumption|exact qa3 _|exact fun _ h => nomatch h|apply And.intro) fun S q pc hS hq hC hE => ?_
 conv => whnf
 exact ⟨_,rfl,Wk.refl _⟩
theorem qzt {w:List UInt8} (hl:4 ≤ w.length) (hl2:w.length ≤ 1000):Pure prog 90 [.str w] (iv (-1)) :=by
 have t1:((w.length:Int) == 0) = false :=beq_eq_false_iff_ne.2 (by omega)
 have t2:decide ((w.length:Int) > 3) = true :=decide_eq_true (by omega)
 refine qbg hE rfl (by repeat' first|exact trivial|assumption|exact qa3 _|exact fun _ h => nomatch h|apply And.intro) (by repeat' first|exact trivial|assumption|exact qa3 _|exact fun _ h => nomatch h|apply And.intro) fun S q pc hS hq hC hE => ?_
 conv => whnf
 repeat ((first|refine qa5 ‹_› ?_|refine qa4 ‹_› ?_|refine pkT ‹_› ?_|refine qax ‹_› ?_|refine qa9 ‹_› ?_|refine qbc ‹_› ?_|refine pkF ‹_› ?_|refine qar ‹_› ?_|refine qa5 (gff ‹_›) ?_|refine qa4 (gff ‹_›) ?_|refine pkT (gff ‹_›) ?_|refine qax (gff ‹_›) ?_|refine qa9 (gft ‹_›) ?_|refine qbc (gft ‹_›) ?_|refine pkF (gft ‹_›) ?_|refine qar (gft ‹_›) ?_|refine qaq hS (by kernel_rfl) ?_);conv => whnf)
 exact ⟨_,rfl,Wk.refl _⟩
theorem qvp {w:List UInt8} (h1:1 ≤ w.length) (h2:w.length ≤ 3) {v:Int} (hy:dgA w w.length → dec (valD w) = w → v = Int.ofNat (valD w)) (hn:¬ (dgA w w.length ∧ dec (valD w) = w) → v = -1):Pure prog 90 [.str w] (iv v) :=by
 have t1:((w.length:Int) == 0) = false :=beq_eq_false_iff_ne.2 (by omega)
 have t2:decide ((w.length:Int) > 3) = false :=decide_eq_false (by omega)
 refine qbg hE rfl (by repeat' first|exact trivial|assumption|exact qa3 _|exact fun _ h => nomatch h|apply And.intro) (by repeat' first|exact trivial|assumption|exact qa3 _|exact fun _ h => nomatch h|apply And.intro) fun S q pc hS hq hC hE => ?_
 conv => whnf
 repeat ((first|refine qa9 ‹_› ?_|refine qbc ‹_› ?_|refine pkF ‹_› ?_|refine qar ‹_› ?_|refine qa5 (gff ‹_›) ?_|refine qa4 (gff ‹_›) ?_|refine pkT (gff ‹_›) ?_|refine qax (gff ‹_›) ?_|refine qaq hS (by kernel_rfl) ?_);conv => whnf)
 refine qbh hE hS (A :=Nat) [0] (fun i => [(3,nv (valD (w.take i))),(4,nv i)]) (fun _ => []) (fun _ => []) (fun i => i ≤ w.length ∧ dgA w i) (fun i => w.length - i) 0 (kle rfl) rfl (zhg 0) ⟨Nat.zero_le _,fun _ h => absurd h (Nat.not_lt_zero _)⟩ ?_
 intro i ⟨hi,hA⟩ K hK
 obtain rfl:K = 0 :=hK
 conv => whnf
 by_cases hi2:i < w.length
 ·have hi1:IntKind.i64.wrap (Int.ofNat i + 1) = Int.ofNat (i + 1) :=qbr (m :=i + 1) (by omega)
  have hv :=qhf hA h2 (p :=i) (by omega)
  by_cases hd:48 ≤ (w.getD i 0).toNat ∧ (w.getD i 0).toNat ≤ 57
  ·have t3 :=(isdg hd.1 hd.2).1
   have t4 :=(isdg hd.1 hd.2).2
   have hV:IntKind.i64.wrap (IntKind.i64.wrap (10 * Int.ofNat (valD (w.take i))) + IntKind.i64.wrap (IntKind.u8.wrap (Int.ofNat (w.getD i 0).toNat - 48))) = Int.ofNat (valD (w.take (i + 1))) :=by
    rw [dgu _ (show (w.getD i 0).toNat < 58 by omega) hd.1,show IntKind.i64.wrap (10 * Int.ofNat (valD (w.take i))) = Int.ofNat (10 * valD (w.take i)) from qbr (m :=10 * valD (w.take i)) (by omega),qlb w hi2]
    exact qbr (m :=10 * valD (w.take i) + ((w.getD i 0).toNat - 48)) (by omega)
   try have z306:=qbk hi2
   try have z307:=qbf hi2
   repeat ((first|refine qa2 (qdg hi2) ?_|refine qa5 ‹_› ?_|refine qa4 ‹_› ?_|refine pkT ‹_› ?_|refine qax ‹_› ?_|refine qa9 ‹_› ?_|refine qbc ‹_› ?_|refine pkF ‹_› ?_|refine qar ‹_› ?_|refine qa5 (gff ‹_›) ?_|refine qa4 (gff ‹_›) ?_|refine pkT (gff ‹_›) ?_|refine qax (gff ‹_›) ?_|refine qaq hS (by kernel_rfl) ?_);conv => whnf)
   exact ⟨i + 1,⟨hi2,fun j hj => by
    by_cases e:j = i
    ·rw [e];exact hd
    ·exact hA j (by omega)⟩,by omega,Nat.le_refl _,(zhg 0)⟩
  ·have hz :=hn fun z => hd (z.1 i hi2)
   refine Or.elim (qz4 hd) (fun t => ?_) fun t => ?_
   ·try have z308:=qbk hi2
    try have z309:=qbf hi2
    repeat ((first|refine qa2 (qdg hi2) ?_|refine qa5 ‹_› ?_|refine qa4 ‹_› ?_|refine pkT ‹_› ?_|refine qax ‹_› ?_|refine qa9 ‹_› ?_|refine qbc ‹_› ?_|refine pkF ‹_› ?_|refine qar ‹_› ?_|refine qa9 (gft ‹_›) ?_|refine qbc (gft ‹_›) ?_|refine pkF (gft ‹_›) ?_|refine qar (gft ‹_›) ?_|refine qaq hS (by kernel_rfl) ?_);conv => whnf)
    exact ⟨_,rfl,wk_i hz.symm⟩
   ·have t3 :=t.1
    have t4 :=t.2
    try have z310:=qbk hi2
    try have z311:=qbf hi2
    repeat ((first|refine qa2 (qdg hi2) ?_|refine qa5 ‹_› ?_|refine qa4 ‹_› ?_|refine pkT ‹_› ?_|refine qax ‹_› ?_|refine qa9 ‹_› ?_|refine qbc ‹_› ?_|refine pkF ‹_› ?_|refine qar ‹_› ?_|refine qa5 (gff ‹_›) ?_|refine qa4 (gff ‹_›) ?_|refine pkT (gff ‹_›) ?_|refine qax (gff ‹_›) ?_|refine qa9 (gft ‹_›) ?_|refine qbc (gft ‹_›) ?_|refine pkF (gft ‹_›) ?_|refine qar (gft ‹_›) ?_|refine qaq hS (by kernel_rfl) ?_);conv => whnf)
    exact ⟨_,rfl,wk_i hz.symm⟩
 ·have hiE:i = w.length :=by omega
  have eV:valD (w.take i) = valD w :=by rw [hiE,List.take_length]
  have hv :=qhf hA h2 (p :=i) (by omega)
  have p1 :=qcl (n :=valD (w.take i)) (by omega)
  refine qar (qb9 hi2) ?_
  conv => whnf
  refine .inl ?_
  conv => whnf
  by_cases e:dec (valD (w.take i)) = w
  ·have e2:(!(dec (valD (w.take i)) == w)) = false :=by rw [beq_iff_eq.2 e];rfl
   have hz :=hy (by rw [← hiE];exact hA) (by rw [← eV];exact e)
   repeat ((first|refine qa9 e2 ?_|refine qbc e2 ?_|refine pkF e2 ?_|refine qar e2 ?_|refine qav hC (p1) ?_|refine qaq hS (by kernel_rfl) ?_);conv => whnf)
   exact ⟨_,rfl,wk_i (by rw [hz,eV])⟩
  ·have e2:(!(dec (valD (w.take i)) == w)) = true :=by rw [beq_eq_false_iff_ne.2 e];rfl
   have hz :=hn fun z => e (by rw [eV];exact z.2)
   repeat ((first|refine qa5 e2 ?_|refine qa4 e2 ?_|refine pkT e2 ?_|refine qax e2 ?_|refine qav hC (p1) ?_|refine qaq hS (by kernel_rfl) ?_);conv => whnf)
   exact ⟨_,rfl,wk_i hz.symm⟩
theorem qya {w:List UInt8} (h:∀ b,b ∈ w → digB b):dgA w w.length :=fun j hj => by
 have e:w.getD j 0 = w[j] :=by simp [List.getD,hj]
 rw [e]
 exact h _ (List.getElem_mem hj)
theorem qx9 {w:List UInt8} (h:dgA w w.length):∀ b,b ∈ w → digB b :=fun b hb => by
 obtain ⟨i,hi,e⟩ :=List.getElem_of_mem hb
 have k :=h i hi
 have e2:w.getD i 0 = b :=by rw [← e];simp [List.getD,hi]
 rwa [e2] at k
theorem qjy {n:Nat} (h:n < 1000):Pure prog 90 [.str (dec n)] (nv n) :=by
 obtain ⟨h1,h2,h3,h4⟩ :=qxu.1 ⟨n,h,rfl⟩
 have e :=qey n h
 refine qvp (List.length_pos_iff.2 h3) h2 (fun _ _ => by rw [e]) fun z => absurd ⟨qya h1,h4⟩ z
theorem qwr {w:List UInt8} (h:¬ ∃ n,n < 1000 ∧ w = dec n) (hw:w.length ≤ 1000):Pure prog 90 [.str w] (iv (-1)) :=by
 by_cases h0:w.length = 0
 ·rw [List.length_eq_zero_iff.1 h0];exact qzu
 ·by_cases h3:4 ≤ w.length
  ·exact qzt h3 hw
  ·exact qvp (by omega) (by omega) (fun hA e => absurd (qxu.2 ⟨qx9 hA,by omega,fun z => h0 (by rw [z];rfl),e⟩) h) fun _ => rfl
end
end Go.Abs.Seat
namespace Go.Abs.Seat
noncomputable section
open Go Go.Abs Go.Proofs.Tryz
set_option maxRecDepth 100000
set_option maxHeartbeats 40000000
attribute [local irreducible] IntKind.wrap pEq qco
theorem qda (s:List UInt8) (c:UInt8) (hs:s.length ≤ 1000):Pure prog 42 [.str s,.int .u8 c.toNat] (.lst (stA (spl c s)) (spl c s).length .no) :=by
 have lS :=qbs (spl c s)
 refine qbg hE rfl (by repeat' first|exact trivial|assumption|exact qa3 _|exact fun _ h => nomatch h|apply And.intro) (by repeat' first|exact trivial|assumption|exact qa3 _|exact fun _ h => nomatch h|apply And.intro) fun S q pc hS hq hC hE => ?_
 conv => whnf
 refine qbh hE hS (A :=Nat × AV × List AObj) [0,1] (fun (i,v,_) => [(5,v),(6,nv (frB c s i)),(7,nv i)]) (fun _ => []) (fun a => a.2.2) (fun (i,v,ux) => i ≤ s.length ∧ (ptB c s i = [] ∧ v = .nils ∧ ux = [] ∨ ptB c s i ≠ [] ∧ v = .lst (stA (ptB c s i)) (ptB c s i).length (.ch 0) ∧ ux = [.chain (ptB c s i).length 1 9])) (fun (i,_,_) => s.length - i) (0,.nils,[]) (kle rfl) rfl (by refine ⟨rfl,rfl,rfl,rfl,rfl,rfl,0,rfl,?_,?_⟩ <;> repeat' (first|exact trivial|exact rfl|exact wkr rfl|exact wko rfl|exact Nat.zero_le _|exact qwm (by decide)|exact kle rfl|exact bdq|exact mxI rfl|exact mxS rfl|apply And.intro)) ⟨Nat.zero_le _,.inl ⟨rfl,rfl,rfl⟩⟩ ?_
 rintro ⟨i,v,ux⟩ ⟨hi,hv⟩ K hK
 have hf :=qoz c s i
 have hpl :=qq7 c s i
 have hs9:i ≤ s.length :=hi
 refine Or.elim hv (fun hv => ?_) fun hv => ?_
 ·obtain ⟨he,rfl,rfl⟩ :=hv
  obtain rfl:K = 0 :=hK
  conv => whnf
  by_cases hi2:i < s.length
  ·have hi1:IntKind.i64.wrap (Int.ofNat i + 1) = Int.ofNat (i + 1) :=qbr (m :=i + 1) (by omega)
   by_cases hc:s.getD i 0 = c
   ·have c1:((Int.ofNat (s.getD i 0).toNat) == (Int.ofNat c.toNat)) = true :=by rw [qtq];exact decide_eq_true hc
    have e0:ptB c s (i + 1) = ptB c s i ++ [(s.drop (frB c s i)).take (i - frB c s i)] :=by rw [ptB,if_pos hc]
    have e4:frB c s (i + 1) = i + 1 :=by rw [frB,if_pos hc]
    have e2:AV.lst [.str ((s.drop (frB c s i)).take (i - frB c s i))] (0 + 1) (.ch 0) = .lst (stA (ptB c s (i + 1))) (ptB c s (i + 1)).length (.ch 0) :=by rw [e0,he];rfl
    have e3:AObj.chain (0 + 1) 1 9 = .chain (ptB c s (i + 1)).length 1 9 :=by rw [e0,he];rfl
    repeat ((first|refine qa2 (qdg hi2) ?_|refine qa2 (qt3 (a :=frB c s i) (b :=i) (by kernel_rfl) rfl rfl hf hs9) ?_|refine qa5 (qbk hi2) ?_|refine qa4 (qbk hi2) ?_|refine pkT (qbk hi2) ?_|refine qax (qbk hi2) ?_|refine qa9 (qbk hi2) ?_|refine qbc (qbk hi2) ?_|refine pkF (qbk hi2) ?_|refine qar (qbk hi2) ?_|refine qa5 (qbf hi2) ?_|refine qa4 (qbf hi2) ?_|refine pkT (qbf hi2) ?_|refine qax (qbf hi2) ?_|refine qa5 c1 ?_|refine qa4 c1 ?_|refine pkT c1 ?_|refine qax c1 ?_|refine qaq hS (by kernel_rfl) ?_);conv => whnf)
    exact ⟨(i + 1,.lst (stA (ptB c s (i + 1))) (ptB c s (i + 1)).length (.ch 0),[.chain (ptB c s (i + 1)).length 1 9]),⟨hi2,.inr ⟨by rw [e0];simp,rfl,rfl⟩⟩,by show s.length - (i + 1) < s.length - i;omega,kle rfl,(by refine ⟨rfl,rfl,rfl,rfl,rfl,rfl,1,rfl,?_,?_⟩ <;> repeat' (first|exact trivial|exact rfl|exact wkr rfl|exact wko rfl|exact Nat.zero_le _|exact ⟨_,rfl,WkV.int hi1⟩|exact ⟨_,rfl,WkV.int (hi1.trans (congrArg Int.ofNat e4.symm))⟩|exact ⟨_,rfl,WkV.eq e2⟩|exact e3|exact qwm (by decide)|exact kle rfl|exact bdq|exact mxI rfl|exact mxS rfl|apply And.intro))⟩
   ·have c1:((Int.ofNat (s.getD i 0).toNat) == (Int.ofNat c.toNat)) = false :=by rw [qtq];exact decide_eq_false hc
    have e0:ptB c s (i + 1) = ptB c s i :=by rw [ptB,if_neg hc]
    have e4:frB c s (i + 1) = frB c s i :=by rw [frB,if_neg hc]
    repeat ((first|refine qa2 (qdg hi2) ?_|refine qa5 (qbk hi2) ?_|refine qa4 (qbk hi2) ?_|refine pkT (qbk hi2) ?_|refine qax (qbk hi2) ?_|refine qa9 (qbk hi2) ?_|refine qbc (qbk hi2) ?_|refine pkF (qbk hi2) ?_|refine qar (qbk hi2) ?_|refine qa5 (qbf hi2) ?_|refine qa4 (qbf hi2) ?_|refine pkT (qbf hi2) ?_|refine qax (qbf hi2) ?_|refine qa9 c1 ?_|refine qbc c1 ?_|refine pkF c1 ?_|refine qar c1 ?_|refine qaq hS (by kernel_rfl) ?_);conv => whnf)
    exact ⟨(i + 1,.nils,[]),⟨hi2,.inl ⟨e0.trans he,rfl,rfl⟩⟩,by show s.length - (i + 1) < s.length - i;omega,Nat.le_refl _,(by refine ⟨rfl,rfl,rfl,rfl,rfl,rfl,0,rfl,?_,?_⟩ <;> repeat' (first|exact trivial|exact rfl|exact wkr rfl|exact wko rfl|exact Nat.zero_le _|exact ⟨_,rfl,WkV.int hi1⟩|exact ⟨_,rfl,WkV.int (congrArg Int.ofNat e4.symm)⟩|exact kle rfl|exact bdq|exact mxI rfl|exact mxS rfl|apply And.intro))⟩
  ·have hiE:i = s.length :=by omega
   have hE2 :=qv2 c s
   rw [← hiE] at hE2
   refine qar (qb9 hi2) ?_
   conv => whnf
   refine .inl ?_
   conv => whnf
   have e2:AV.lst [.str (s.drop (frB c s i))] (0 + 1) (.ch 0) = .lst (stA (spl c s)) (spl c s).length (.ch 0) :=by rw [hE2,he];rfl
   repeat ((first|refine qa2 (qic (a :=frB c s i) (by kernel_rfl) rfl (Nat.le_trans hf hs9)) ?_|refine qaq hS (by kernel_rfl) ?_);conv => whnf)
   exact ⟨_,rfl,qvu e2⟩
 ·obtain ⟨he,rfl,rfl⟩ :=hv
  obtain rfl:K = 1 :=hK
  conv => whnf
  by_cases hi2:i < s.length
  ·have hi1:IntKind.i64.wrap (Int.ofNat i + 1) = Int.ofNat (i + 1) :=qbr (m :=i + 1) (by omega)
   by_cases hc:s.getD i 0 = c
   ·have c1:((Int.ofNat (s.getD i 0).toNat) == (Int.ofNat c.toNat)) = true :=by rw [qtq];exact decide_eq_true hc
    have e0:ptB c s (i + 1) = ptB c s i ++ [(s.drop (frB c s i)).take (i - frB c s i)] :=by rw [ptB,if_pos hc]
    have e4:frB c s (i + 1) = i + 1 :=by rw [frB,if_pos hc]
    have e2:AV.lst (stA (ptB c s i) ++ [.str ((s.drop (frB c s i)).take (i - frB c s i))]) ((ptB c s i).length + (0 + 1)) (.ch 0) = .lst (stA (ptB c s (i + 1))) (ptB c s (i + 1)).length (.ch 0) :=by rw [e0,qqv,List.length_append];rfl
    have e3:AObj.chain ((ptB c s i).length + (0 + 1)) 1 9 = .chain (ptB c s (i + 1)).length 1 9 :=by rw [e0,List.length_append];rfl
    have d1:decide (((ptB c s i).length + (0 + 1)) * 16 ≤ 140737488355328) = true :=decide_eq_true (by omega)
    have d2:decide ((ptB c s i).length + (0 + 1) ≤ 9223372036854775807) = true :=decide_eq_true (by omega)
    have d4:decide ((ptB c s i).length = (ptB c s i).length) = true :=decide_eq_true rfl
    repeat ((first|refine qa2 (qdg hi2) ?_|refine qa2 (qt3 (a :=frB c s i) (b :=i) (by kernel_rfl) rfl rfl hf hs9) ?_|refine qa5 (qbk hi2) ?_|refine qa4 (qbk hi2) ?_|refine pkT (qbk hi2) ?_|refine qax (qbk hi2) ?_|refine qa9 (qbk hi2) ?_|refine qbc (qbk hi2) ?_|refine pkF (qbk hi2) ?_|refine qar (qbk hi2) ?_|refine qa5 (qbf hi2) ?_|refine qa4 (qbf hi2) ?_|refine pkT (qbf hi2) ?_|refine qax (qbf hi2) ?_|refine qa5 c1 ?_|refine qa4 c1 ?_|refine pkT c1 ?_|refine qax c1 ?_|refine qa5 d1 ?_|refine qa4 d1 ?_|refine pkT d1 ?_|refine qax d1 ?_|refine qa5 d2 ?_|refine qa4 d2 ?_|refine pkT d2 ?_|refine qax d2 ?_|refine qa5 qon ?_|refine qa4 qon ?_|refine pkT qon ?_|refine qax qon ?_|refine qa9 qon ?_|refine qbc qon ?_|refine pkF qon ?_|refine qar qon ?_|refine qa5 d4 ?_|refine qa4 d4 ?_|refine pkT d4 ?_|refine qax d4 ?_|refine qaq hS (by kernel_rfl) ?_);conv => whnf)
    exact ⟨(i + 1,.lst (stA (ptB c s (i + 1))) (ptB c s (i + 1)).length (.ch 0),[.chain (ptB c s (i + 1)).length 1 9]),⟨hi2,.inr ⟨by rw [e0];simp,rfl,rfl⟩⟩,by show s.length - (i + 1) < s.length - i;omega,kle rfl,(by refine ⟨rfl,rfl,rfl,rfl,rfl,rfl,1,rfl,?_,?_⟩ <;> repeat' (first|exact trivial|exact rfl|exact wkr rfl|exact wko rfl|exact Nat.zero_le _|exact ⟨_,rfl,WkV.int hi1⟩|exact ⟨_,rfl,WkV.int (hi1.trans (congrArg Int.ofNat e4.symm))⟩|exact ⟨_,rfl,WkV.eq e2⟩|exact e3|exact qwm (by decide)|exact kle rfl|exact bdq|exact mxI rfl|exact mxS rfl|apply And.intro))⟩
   ·have c1:((Int.ofNat (s.getD i 0).toNat) == (Int.ofNat c.toNat)) = false :=by rw [qtq];exact decide_eq_false hc
    have e0:ptB c s (i + 1) = ptB c s i :=by rw [ptB,if_neg hc]
    have e4:frB c s (i + 1) = frB c s i :=by rw [frB,if_neg hc]
    repeat ((first|refine qa2 (qdg hi2) ?_|refine qa5 (qbk hi2) ?_|refine qa4 (qbk hi2) ?_|refine pkT (qbk hi2) ?_|refine qax (qbk hi2) ?_|refine qa9 (qbk hi2) ?_|refine qbc (qbk hi2) ?_|refine pkF (qbk hi2) ?_|refine qar (qbk hi2) ?_|refine qa5 (qbf hi2) ?_|refine qa4 (qbf hi2) ?_|refine pkT (qbf hi2) ?_|refine qax (qbf hi2) ?_|refine qa9 c1 ?_|refine qbc c1 ?_|refine pkF c1 ?_|refine qar c1 ?_|refine qaq hS (by kernel_rfl) ?_);conv => whnf)
    have e2:AV.lst (stA (ptB c s i)) (ptB c s i).length (.ch 0) = .lst (stA (ptB c s (i + 1))) (ptB c s (i + 1)).length (.ch 0) :=by rw [e0]
    have e3:AObj.chain (ptB c s i).length 1 9 = .chain (ptB c s (i + 1)).length 1 9 :=by rw [e0]
    exact ⟨(i + 1,.lst (stA (ptB c s (i + 1))) (ptB c s (i + 1)).length (.ch 0),[.chain (ptB c s (i + 1)).length 1 9]),⟨hi2,.inr ⟨by rw [e0];exact he,rfl,rfl⟩⟩,by show s.length - (i + 1) < s.length - i;omega,Nat.le_refl _,(by refine ⟨rfl,rfl,rfl,rfl,rfl,rfl,1,rfl,?_,?_⟩ <;> repeat' (first|exact trivial|exact rfl|exact wkr rfl|exact wko rfl|exact Nat.zero_le _|exact ⟨_,rfl,WkV.int hi1⟩|exact ⟨_,rfl,WkV.int (congrArg Int.ofNat e4.symm)⟩|exact ⟨_,rfl,WkV.eq e2⟩|exact e3|exact qwm (by decide)|exact kle rfl|exact bdq|exact mxI rfl|exact mxS rfl|apply And.intro))⟩
  ·have hiE:i = s.length :=by omega
   have hE2 :=qv2 c s
   rw [← hiE] at hE2
   refine qar (qb9 hi2) ?_
   conv => whnf
   refine .inl ?_
   conv => whnf
   have e2:AV.lst (stA (ptB c s i) ++ [.str (s.drop (frB c s i))]) ((ptB c s i).length + (0 + 1)) (.ch 0) = .lst (stA (spl c s)) (spl c s).length (.ch 0) :=by rw [hE2,qqv,List.length_append];rfl
   have d1:decide (((ptB c s i).length + (0 + 1)) * 16 ≤ 140737488355328) = true :=decide_eq_true (by omega)
   have d2:decide ((ptB c s i).length + (0 + 1) ≤ 9223372036854775807) = true :=decide_eq_true (by omega)
   have d4:decide ((ptB c s i).length = (ptB c s i).length) = true :=decide_eq_true rfl
   repeat ((first|refine qa2 (qic (a :=frB c s i) (by kernel_rfl) rfl (Nat.le_trans hf hs9)) ?_|refine qa5 d1 ?_|refine qa4 d1 ?_|refine pkT d1 ?_|refine qax d1 ?_|refine qa5 d2 ?_|refine qa4 d2 ?_|refine pkT d2 ?_|refine qax d2 ?_|refine qa5 qon ?_|refine qa4 qon ?_|refine pkT qon ?_|refine qax qon ?_|refine qa9 qon ?_|refine qbc qon ?_|refine pkF qon ?_|refine qar qon ?_|refine qa5 d4 ?_|refine qa4 d4 ?_|refine pkT d4 ?_|refine qax d4 ?_|refine qaq hS (by kernel_rfl) ?_);conv => whnf)
   exact ⟨_,rfl,qvu e2⟩
theorem qzv {y z b:AV} (h:Wk y z):Wk (.tup [y,b]) (.tup [z,b]) :=fun g w u hu => by
 obtain ⟨vs,e,a,r1,e2,h1,h2⟩ :=hu
 exact ⟨vs,e,a,r1,e2,h g w a h1,h2⟩
theorem qte {L:List Nat} (h:∀ n,n ∈ L → n < 1000) (hl:L.length ≤ 1000):Pure prog 43 [.lst (stA (L.map dec)) L.length .no] (.tup [nlV L,.bool true]) :=by
 have lW :=qbs (L.map dec)
 have lR :=(qem L).no
 have lK :=fun i => qby (zl (L.take i))
 have gx:∀ i,i < L.length → nth (stA (L.map dec)) (i * 1) = some (.str (dec (gn L i))) :=fun i hi => by
  have k :=qb2 (l :=L.map dec) (i :=i) (by rw [List.length_map];exact hi)
  rw [k]
  simp [gB,gn,List.getD,hi]
 refine qbg hE rfl (by repeat' first|exact trivial|assumption|exact qa3 _|exact fun _ h => nomatch h|apply And.intro) (by repeat' first|exact trivial|assumption|exact qa3 _|exact fun _ h => nomatch h|apply And.intro) fun S q pc hS hq hC hE => ?_
 conv => whnf
 repeat ((first|refine qaq hS (by kernel_rfl) ?_);conv => whnf)
 refine qbh hE hS (A :=Nat × AV × List AObj) [0] (fun (i,v,_) => [(4,v),(5,nv i)]) (fun _ => []) (fun a => a.2.2) (fun (i,v,ux) => i ≤ L.length ∧ (i = 0 ∧ v = .nils ∧ ux = [] ∨ 0 < i ∧ v = tdV L i 0 ∧ ux = [.chain i 1 3])) (fun (i,_,_) => L.length - i) (0,.nils,[]) (kle rfl) rfl (by refine ⟨rfl,rfl,rfl,rfl,rfl,rfl,0,rfl,?_,?_⟩ <;> repeat' (first|exact trivial|exact rfl|exact wkr rfl|exact wko rfl|exact Nat.zero_le _|exact qwl _ _ (by decide)|exact kle rfl|exact bdq|exact mxI rfl|exact mxS rfl|apply And.intro)) ⟨Nat.zero_le _,.inl ⟨rfl,rfl,rfl⟩⟩ ?_
 rintro ⟨i,v,ux⟩ ⟨hi,hv⟩ K hK
 have hi:i ≤ L.length :=hi
 refine Or.elim hv (fun hv => ?_) fun hv => ?_
 ·obtain ⟨rfl,rfl,rfl⟩ :=hv
  obtain rfl:K = 0 :=hK
  conv => whnf
  by_cases hi2:0 < L.length
  ·have p1 :=qjy (qfq h hi2)
   have e2 :=qgw L 0 hi2
   have c1:decide (Int.ofNat (gn L 0) < 0) = false :=decide_eq_false (by simp only [Int.ofNat_eq_natCast];omega)
   repeat ((first|refine qa2 (nthP (gx _ hi2)) ?_|refine qa5 (qbk hi2) ?_|refine qa4 (qbk hi2) ?_|refine pkT (qbk hi2) ?_|refine qax (qbk hi2) ?_|refine qa9 (qbk hi2) ?_|refine qbc (qbk hi2) ?_|refine pkF (qbk hi2) ?_|refine qar (qbk hi2) ?_|refine qa5 (qbf hi2) ?_|refine qa4 (qbf hi2) ?_|refine pkT (qbf hi2) ?_|refine qax (qbf hi2) ?_|refine qa9 c1 ?_|refine qbc c1 ?_|refine pkF c1 ?_|refine qar c1 ?_|refine qav hC (p1) ?_|refine qaq hS (by kernel_rfl) ?_);conv => whnf)
   exact ⟨(1,tdV L 1 0,[.chain 1 1 3]),⟨hi2,.inr ⟨Nat.zero_lt_one,rfl,rfl⟩⟩,by show L.length - 1 < L.length - 0;omega,kle rfl,(by refine ⟨rfl,rfl,rfl,rfl,rfl,rfl,1,rfl,?_,?_⟩ <;> repeat' (first|exact trivial|exact rfl|exact wkr rfl|exact wko rfl|exact Nat.zero_le _|exact ⟨_,rfl,WkV.int (qbr (m :=1) (by decide))⟩|exact ⟨_,rfl,WkV.eq e2⟩|exact qwl _ _ (by decide)|exact kle rfl|exact bdq|exact mxI rfl|exact mxS rfl|apply And.intro))⟩
  ·have e0:L = [] :=List.eq_nil_of_length_eq_zero (by omega)
   have eR:nlV L = .nils :=if_pos e0
   refine qar (qb9 hi2) ?_
   conv => whnf
   refine .inl ?_
   conv => whnf
   rw [eR]
   exact ⟨_,rfl,Wk.refl _⟩
 ·obtain ⟨hj2,rfl,rfl⟩ :=hv
  obtain rfl:K = 1 :=hK
  conv => whnf
  by_cases hi2:i < L.length
  ·have p1 :=qjy (qfq h hi2)
   have e2 :=qh0 L 0 hi2
   have c1:decide (Int.ofNat (gn L i) < 0) = false :=decide_eq_false (by simp only [Int.ofNat_eq_natCast];omega)
   have d1:decide ((i + (0 + 1)) * 8 ≤ 140737488355328) = true :=decide_eq_true (by omega)
   have d2:decide (i + (0 + 1) ≤ 9223372036854775807) = true :=decide_eq_true (by omega)
   have d4:decide (i = i) = true :=decide_eq_true rfl
   have d5 :=qhz L hi
   have hi1:IntKind.i64.wrap (Int.ofNat i + 1) = Int.ofNat (i + 1) :=qbr (m :=i + 1) (by omega)
   repeat ((first|refine qa2 (nthP (gx _ hi2)) ?_|refine qa5 (qbk hi2) ?_|refine qa4 (qbk hi2) ?_|refine pkT (qbk hi2) ?_|refine qax (qbk hi2) ?_|refine qa9 (qbk hi2) ?_|refine qbc (qbk hi2) ?_|refine pkF (qbk hi2) ?_|refine qar (qbk hi2) ?_|refine qa5 (qbf hi2) ?_|refine qa4 (qbf hi2) ?_|refine pkT (qbf hi2) ?_|refine qax (qbf hi2) ?_|refine qa9 c1 ?_|refine qbc c1 ?_|refine pkF c1 ?_|refine qar c1 ?_|refine qa5 d1 ?_|refine qa4 d1 ?_|refine pkT d1 ?_|refine qax d1 ?_|refine qa5 d2 ?_|refine qa4 d2 ?_|refine pkT d2 ?_|refine qax d2 ?_|refine qa5 d4 ?_|refine qa4 d4 ?_|refine pkT d4 ?_|refine qax d4 ?_|refine qa5 d5 ?_|refine qa4 d5 ?_|refine pkT d5 ?_|refine qax d5 ?_|refine qa9 d5 ?_|refine qbc d5 ?_|refine pkF d5 ?_|refine qar d5 ?_|refine qav hC (p1) ?_|refine qaq hS (by kernel_rfl) ?_);conv => whnf)
   exact ⟨(i + 1,tdV L (i + 1) 0,[.chain (i + 1) 1 3]),⟨hi2,.inr ⟨Nat.succ_pos _,rfl,rfl⟩⟩,by show L.length - (i + 1) < L.length - i;omega,kle rfl,(by refine ⟨rfl,rfl,rfl,rfl,rfl,rfl,1,rfl,?_,?_⟩ <;> repeat' (first|exact trivial|exact rfl|exact wkr rfl|exact wko rfl|exact Nat.zero_le _|exact ⟨_,rfl,WkV.int hi1⟩|exact ⟨_,rfl,WkV.eq e2⟩|exact qwl _ _ (by decide)|exact kle rfl|exact bdq|exact mxI rfl|exact mxS rfl|apply And.intro))⟩
  ·have eL:L.length = i :=by omega
   have e0:L ≠ [] :=fun z => by rw [z] at eL;rw [← eL] at hj2;exact absurd hj2 (Nat.lt_irrefl _)
   have eR:nlV L = nl (zl L) :=if_neg e0
   refine qar (qb9 hi2) ?_
   conv => whnf
   refine .inl ?_
   conv => whnf
   rw [eR]
   exact ⟨_,rfl,qzv (qrz (by rw [List.length_take];omega) (by rw [← eL,List.take_length]))⟩
theorem qtf {L:List Nat} {w:List UInt8} {R:List (List UInt8)} (h:∀ n,n ∈ L → n < 1000) (hl:L.length ≤ 1000) (hR:R.length ≤ 1000) (hwl:w.length ≤ 1000) (hbad:¬ ∃ n,n < 1000 ∧ w = dec n):Pure prog 43 [.lst (stA (L.map dec ++ w :: R)) (L.length + (R.length + 1)) .no] (.tup [.nils,.bool false]) :=by
 have lW :=qbs (L.map dec ++ w :: R)
 have lK :=fun i => qby (zl (L.take i))
 have hN:(L.map dec ++ w :: R).length = L.length + (R.length + 1) :=by rw [List.length_append,List.length_map,List.length_cons]
 have gx:∀ i,i < L.length → nth (stA (L.map dec ++ w :: R)) (i * 1) = some (.str (dec (gn L i))) :=fun i hi => by
  have k :=qb2 (l :=L.map dec ++ w :: R) (i :=i) (by omega)
  rw [k,qlu (by rw [List.length_map];exact hi)]
  simp [gB,gn,List.getD,hi]
 have gw:nth (stA (L.map dec ++ w :: R)) (L.length * 1) = some (.str w) :=by
  have k :=qb2 (l :=L.map dec ++ w :: R) (i :=L.length) (by omega)
  rw [k]
  simp [gB,List.getD]
 have pz :=qwr hbad hwl
 refine qbg hE rfl (by repeat' first|exact trivial|assumption|exact qa3 _|exact fun _ h => nomatch h|apply And.intro) (by repeat' first|exact trivial|assumption|exact qa3 _|exact fun _ h => nomatch h|apply And.intro) fun S q pc hS hq hC hE => ?_
 conv => whnf
 repeat ((first|refine qaq hS (by kernel_rfl) ?_);conv => whnf)
 refine qbh hE hS (A :=Nat × AV × List AObj) [0] (fun (i,v,_) => [(4,v),(5,nv i)]) (fun _ => []) (fun a => a.2.2) (fun (i,v,ux) => i ≤ L.length ∧ (i = 0 ∧ v = .nils ∧ ux = [] ∨ 0 < i ∧ v = tdV L i 0 ∧ ux = [.chain i 1 3])) (fun (i,_,_) => L.length - i) (0,.nils,[]) (kle rfl) rfl (by refine ⟨rfl,rfl,rfl,rfl,rfl,rfl,0,rfl,?_,?_⟩ <;> repeat' (first|exact trivial|exact rfl|exact wkr rfl|exact wko rfl|exact Nat.zero_le _|exact qwl _ _ (by decide)|exact kle rfl|exact bdq|exact mxI rfl|exact mxS rfl|apply And.intro)) ⟨Nat.zero_le _,.inl ⟨rfl,rfl,rfl⟩⟩ ?_
 rintro ⟨i,v,ux⟩ ⟨hi,hv⟩ K hK
 have hi:i ≤ L.length :=hi
 have hiN:i < L.length + (R.length + 1) :=by omega
 refine Or.elim hv (fun hv => ?_) fun hv => ?_
 ·obtain ⟨rfl,rfl,rfl⟩ :=hv
  obtain rfl:K = 0 :=hK
  conv => whnf
  by_cases hi2:0 < L.length
  ·have p1 :=qjy (qfq h hi2)
   have e2 :=qgw L 0 hi2
   have c1:decide (Int.ofNat (gn L 0) < 0) = false :=decide_eq_false (by simp only [Int.ofNat_eq_natCast];omega)
   repeat ((first|refine qa2 (nthP (gx _ hi2)) ?_|refine qa5 (qbk hiN) ?_|refine qa4 (qbk hiN) ?_|refine pkT (qbk hiN) ?_|refine qax (qbk hiN) ?_|refine qa9 (qbk hiN) ?_|refine qbc (qbk hiN) ?_|refine pkF (qbk hiN) ?_|refine qar (qbk hiN) ?_|refine qa5 (qbf hiN) ?_|refine qa4 (qbf hiN) ?_|refine pkT (qbf hiN) ?_|refine qax (qbf hiN) ?_|refine qa9 c1 ?_|refine qbc c1 ?_|refine pkF c1 ?_|refine qar c1 ?_|refine qav hC (p1) ?_|refine qaq hS (by kernel_rfl) ?_);conv => whnf)
   exact ⟨(1,tdV L 1 0,[.chain 1 1 3]),⟨hi2,.inr ⟨Nat.zero_lt_one,rfl,rfl⟩⟩,by show L.length - 1 < L.length - 0;omega,kle rfl,(by refine ⟨rfl,rfl,rfl,rfl,rfl,rfl,1,rfl,?_,?_⟩ <;> repeat' (first|exact trivial|exact rfl|exact wkr rfl|exact wko rfl|exact Nat.zero_le _|exact ⟨_,rfl,WkV.int (qbr (m :=1) (by decide))⟩|exact ⟨_,rfl,WkV.eq e2⟩|exact qwl _ _ (by decide)|exact kle rfl|exact bdq|exact mxI rfl|exact mxS rfl|apply And.intro))⟩
  ·have eL:L.length = 0 :=by omega
   rw [eL] at gw
   repeat ((first|refine qa2 (nthP gw) ?_|refine qa5 (qbk hiN) ?_|refine qa4 (qbk hiN) ?_|refine pkT (qbk hiN) ?_|refine qax (qbk hiN) ?_|refine qa9 (qbk hiN) ?_|refine qbc (qbk hiN) ?_|refine pkF (qbk hiN) ?_|refine qar (qbk hiN) ?_|refine qa5 (qbf hiN) ?_|refine qa4 (qbf hiN) ?_|refine pkT (qbf hiN) ?_|refine qax (qbf hiN) ?_|refine qav hC (pz) ?_|refine qaq hS (by kernel_rfl) ?_);conv => whnf)
   exact ⟨_,rfl,Wk.refl _⟩
 ·obtain ⟨hj2,rfl,rfl⟩ :=hv
  obtain rfl:K = 1 :=hK
  conv => whnf
  by_cases hi2:i < L.length
  ·have p1 :=qjy (qfq h hi2)
   have e2 :=qh0 L 0 hi2
   have c1:decide (Int.ofNat (gn L i) < 0) = false :=decide_eq_false (by simp only [Int.ofNat_eq_natCast];omega)
   have d1:decide ((i + (0 + 1)) * 8 ≤ 140737488355328) = true :=decide_eq_true (by omega)
   have d2:decide (i + (0 + 1) ≤ 9223372036854775807) = true :=decide_eq_true (by omega)
   have d4:decide (i = i) = true :=decide_eq_true rfl
   have d5 :=qhz L hi
   have hi1:IntKind.i64.wrap (Int.ofNat i + 1) = Int.ofNat (i + 1) :=qbr (m :=i + 1) (by omega)
   repeat ((first|refine qa2 (nthP (gx _ hi2)) ?_|refine qa5 (qbk hiN) ?_|refine qa4 (qbk hiN) ?_|refine pkT (qbk hiN) ?_|refine qax (qbk hiN) ?_|refine qa9 (qbk hiN) ?_|refine qbc (qbk hiN) ?_|refine pkF (qbk hiN) ?_|refine qar (qbk hiN) ?_|refine qa5 (qbf hiN) ?_|refine qa4 (qbf hiN) ?_|refine pkT (qbf hiN) ?_|refine qax (qbf hiN) ?_|refine qa9 c1 ?_|refine qbc c1 ?_|refine pkF c1 ?_|refine qar c1 ?_|refine qa5 d1 ?_|refine qa4 d1 ?_|refine pkT d1 ?_|refine qax d1 ?_|refine qa5 d2 ?_|refine qa4 d2 ?_|refine pkT d2 ?_|refine qax d2 ?_|refine qa5 d4 ?_|refine qa4 d4 ?_|refine pkT d4 ?_|refine qax d4 ?_|refine qa5 d5 ?_|refine qa4 d5 ?_|refine pkT d5 ?_|refine qax d5 ?_|refine qa9 d5 ?_|refine qbc d5 ?_|refine pkF d5 ?_|refine qar d5 ?_|refine qav hC (p1) ?_|refine qaq hS (by kernel_rfl) ?_);conv => whnf)
   exact ⟨(i + 1,tdV L (i + 1) 0,[.chain (i + 1) 1 3]),⟨hi2,.inr ⟨Nat.succ_pos _,rfl,rfl⟩⟩,by show L.length - (i + 1) < L.length - i;omega,kle rfl,(by refine ⟨rfl,rfl,rfl,rfl,rfl,rfl,1,rfl,?_,?_⟩ <;> repeat' (first|exact trivial|exact rfl|exact wkr rfl|exact wko rfl|exact Nat.zero_le _|exact ⟨_,rfl,WkV.int hi1⟩|exact ⟨_,rfl,WkV.eq e2⟩|exact qwl _ _ (by decide)|exact kle rfl|exact bdq|exact mxI rfl|exact mxS rfl|apply And.intro))⟩
  ·have eL:L.length = i :=by omega
   rw [eL] at gw
   repeat ((first|refine qa2 (nthP gw) ?_|refine qa5 (qbk hiN) ?_|refine qa4 (qbk hiN) ?_|refine pkT (qbk hiN) ?_|refine qax (qbk hiN) ?_|refine qa9 (qbk hiN) ?_|refine qbc (qbk hiN) ?_|refine pkF (qbk hiN) ?_|refine qar (qbk hiN) ?_|refine qa5 (qbf hiN) ?_|refine qa4 (qbf hiN) ?_|refine pkT (qbf hiN) ?_|refine qax (qbf hiN) ?_|refine qav hC (pz) ?_|refine qaq hS (by kernel_rfl) ?_);conv => whnf)
   exact ⟨_,rfl,Wk.refl _⟩
theorem qh5 {W:List (List UInt8)} (hl:W.length ≤ 1000) (hw:∀ w,w ∈ W → w.length ≤ 1000):(∃ M:List Nat,(∀ n,n ∈ M → n < 1000) ∧ W = M.map dec ∧ Pure prog 43 [.lst (stA W) W.length .no] (.tup [nlV M,.bool true])) ∨ (¬ ∃ M:List Nat,(∀ n,n ∈ M → n < 1000) ∧ W = M.map dec) ∧ Pure prog 43 [.lst (stA W) W.length .no] (.tup [.nils,.bool false]) :=by
 rcases wpre W with ⟨M,h1,rfl⟩ | ⟨M,w,R,h1,rfl,h2⟩
 ·rw [List.length_map] at hl ⊢
  exact .inl ⟨M,h1,rfl,qte h1 hl⟩
 ·refine .inr ⟨fun ⟨M',a,b⟩ => qqk h2 a b,?_⟩
  rw [List.length_append,List.length_map,List.length_cons] at hl ⊢
  exact qtf h1 (by omega) (by omega) (hw w (by simp)) h2
end
end Go.Abs.Seat
