/-
  The program's nearest train.
-/
import Derived.Test.YtpjclnoehlflcaaGreatDoorU12
import Derived.Test.YtpjclnoehlflcaaGreatDoorT55
namespace Go.Abs.Seat
noncomputable section
open Go Go.Abs Go.Proofs.Tryz
set_option maxRecDepth 100000
set_option maxHeartbeats 40000000
attribute [local irreducible] IntKind.wrap pEq
theorem qh6:∀ (l r:List (List (Nat × Nat))),tls (l ++ r) = tls l ++ tls r
 | [],_ => rfl
 | _ :: l,r => by simp only [tls,List.cons_append,qh6 l r]
theorem tlA1 (L:List (List (Nat × Nat))) (y:List (Nat × Nat)):AV.lst (tls L ++ [pv (zp y)]) (L.length + (0 + 1)) = .lst (tls (L ++ [y])) (L ++ [y]).length :=by
 rw [qh6,List.length_append];rfl
theorem rnT1 {m:Nat} {rs:List Nat} {L:List (List (Nat × Nat))} {y:List (Nat × Nat)} {j c e:Nat} (hj:j < rs.length) (h1:rs.getD j 0 = c) (h2:e = m + j):RnV m rs (.lst (tls L ++ [pv (zp y)]) (L.length + (0 + 1)) (.ch c)) (.lst (tls (L ++ [y])) (L ++ [y]).length (.ch e)) :=by
 rw [tlA1];exact RnV.ch hj h1 h2 (qaj (qba _))
theorem chT1 (L:List (List (Nat × Nat))) (y:List (Nat × Nat)):AObj.chain (L.length + (0 + 1)) 1 22 = .chain (L ++ [y]).length 1 22 :=by
 rw [List.length_append];rfl
theorem qgf (L:List (List (Nat × Nat))):qeh (tls L) (L.length * 1) = true :=by
 have :=qeu (tls L)
 rw [qnl] at this
 rw [Nat.mul_one];exact this
def ttI (tq:Nat → Prop) (j:Nat) (R:List (Nat × Nat)) (i:Nat):List (List (Nat × Nat)) :=(R.take i).map (mnG tq j)
theorem qhp {tq:Nat → Prop} {j:Nat} {R:List (Nat × Nat)} {i:Nat} (h:i < R.length):ttI tq j R (i + 1) = ttI tq j R i ++ [mnG tq j (gq R i)] :=by
 unfold ttI
 rw [qke R h,List.map_append];rfl
theorem qyo {tq:Nat → Prop} {j:Nat} {R:List (Nat × Nat)} {i:Nat} (h:i ≤ R.length):(ttI tq j R i).length = i :=by
 unfold ttI
 rw [List.length_map,List.length_take];omega
theorem qsb:∀ l:List Fd,wkl (fdv l) = fdv l
 | [] => by simp only [fdv,wkl]
 |x :: r => by simp only [fdv,wkl,wk,qho,qsb r]
theorem qkc:∀ l:List (List (Nat × Nat)),wkl (tls l) = tls l
 | [] => by simp only [tls,wkl]
 |x :: r => by simp only [tls,wkl,wk,qho,qkc r]
theorem q0k (l:List Fd) (c:Nat) (hne:l ≠ []) (hl:l.length < 4611686018427387904) (hb:∀ x,x ∈ l → x.2.1.1 ≤ 10800000000 ∧ x.2.1.2 ≤ 216000) :
  Pure prog 135 (wkl [.lst (fdv l) l.length (.ch c),.func (.func 136) [] []]) (.tup [fdA (bstF l),.bool true]) :=by
 have :=qr5 l hne hl hb
 rwa [show wkl [.lst (fdv l) l.length (.ch c),.func (.func 136) [] []] = [.lst (fdv l) l.length .no,.func (.func 136) [] []] by simp only [wkl,wk,qsb]]
theorem q0i (l:List (List (Nat × Nat))) (c:Nat) (hne:l ≠ []) (hl:l.length < 4611686018427387904) (hx:∀ x,x ∈ l → x.length < 4611686018427387904) :
  Pure prog 138 (wkl [.lst (tls l) l.length (.ch c),.func (.func 139) [] []]) (.tup [pv (zp (bstT l)),.bool true]) :=by
 have :=qr2 l hne hl hx
 rwa [show wkl [.lst (tls l) l.length (.ch c),.func (.func 139) [] []] = [.lst (tls l) l.length .no,.func (.func 139) [] []] by simp only [wkl,wk,qkc]]
theorem qtz {N:AV} {l:List Int} (hN:IL N l) (a b s9:Int) (Q k:Nat) (hk:k ≤ Q) (hQ:Q ≤ 3) (TL:List Nat) (hTL:TL ≠ []) (h60:∀ n,n ∈ TL → 1 ≤ n ∧ n ≤ 60) (n d:Nat) (hn:n ≤ 50000) (hd:1 ≤ d ∧ d ≤ 50000) :
  Pure prog 134 [whv a b (Int.ofNat Q) s9 N (nl (zl TL)) (prS (fun n => n ∈ TL) Q) (prM (fun n => n ∈ TL) Q),nv k,fv (Int.ofNat n) (Int.ofNat d)] (.tup [pv (zp (fdK (fun n => n ∈ TL) n d k).2.2),fv (Int.ofNat (fdK (fun n => n ∈ TL) n d k).2.1.1) (Int.ofNat (fdK (fun n => n ∈ TL) n d k).2.1.2)]) :=by
 have hne :=qg1 (tq :=fun n => n ∈ TL) (N :=n) (D :=d) (k :=k) h60 (List.exists_mem_of_ne_nil TL hTL) hd.1
 have hal:∀ x,x ∈ alP (fun n => n ∈ TL) k → 1 ≤ x ∧ x ≤ 216000 :=fun x hx => by
  have h2 :=qbq h60 k x ((qbc _ _ _).1 hx).2
  have h3:60 ^ k ≤ 60 ^ 3 :=Nat.pow_le_pow_right (by omega) (by omega)
  omega
 have hll:(alP (fun n => n ∈ TL) k).length ≤ 216001 :=by
  have h3:60 ^ k ≤ 60 ^ 3 :=Nat.pow_le_pow_right (by omega) (by omega)
  have :=qc1 (qak (fun n => n ∈ TL) k) (60 ^ k + 1)
  exact Nat.le_trans this (by omega)
 have hnth:nth (prS (fun n => n ∈ TL) Q) k = some (nl (zl (alP (fun n => n ∈ TL) k))) :=by
  rw [qta _ Q k hk]
  rcases qco (zl (alP (fun n => n ∈ TL) k)) with ⟨z,_⟩ | z
  ·exact absurd (List.map_eq_nil_iff.1 z) hne.1
  ·rw [z]
 have e:trA (qdt (alP (fun n => n ∈ TL) k) n d).1 = pv (zp (fdK (fun n => n ∈ TL) n d k).2.2) :=qg8 hne.2.1
 rw [← e]
 exact q09 hN a b s9 Q k hk hQ TL n d hn hd _ (qcf _ _) hal hll hne.1 hnth
theorem qzt {N:AV} {l:List Int} (hN:IL N l) {TL:List Nat} (hTL:TL ≠ []) (a b p s:Int) (hs:1 ≤ s ∧ s ≤ 3) (k:Nat):Pure prog 84 [ruv a b p s N (nl (zl TL)),nv k] (.bool (decide (qav s k))) :=by
 have :=qt9 hN (zl TL) a b p s hs k
 rcases qco (zl TL) with ⟨z,_⟩ | z
 ·exact absurd (List.map_eq_nil_iff.1 z) hTL
 ·rwa [z] at this
theorem fdA1 (L:List Fd) (y:Fd):AV.lst (fdv L ++ [nv y.1,nv y.2.1.1,nv y.2.1.2,pv (zp y.2.2)]) (L.length + (0 + 1)) = .lst (fdv (L ++ [y])) (L ++ [y]).length :=by
 rw [quv,List.length_append];rfl
theorem rnF1 {m:Nat} {rs:List Nat} {L:List Fd} {y:Fd} {j c e:Nat} (hj:j < rs.length) (h1:rs.getD j 0 = c) (h2:e = m + j):RnV m rs (.lst (fdv L ++ [nv y.1,nv y.2.1.1,nv y.2.1.2,pv (zp y.2.2)]) (L.length + (0 + 1)) (.ch c)) (.lst (fdv (L ++ [y])) (L ++ [y]).length (.ch e)) :=by
 rw [fdA1];exact RnV.ch hj h1 h2 (qaj (qqg _))
theorem chF1 (L:List Fd) (y:Fd):AObj.chain (L.length + (0 + 1)) 4 172 = .chain (L ++ [y]).length 4 172 :=by
 rw [List.length_append];rfl
theorem quu:∀ l:List Fd,(fdv l).length = l.length * 4
 | [] => rfl
 | _ :: r => by simp only [fdv,List.length_cons,quu r];omega
theorem quc (L:List Fd):qeh (fdv L) (L.length * 4) = true :=by
 have :=qeu (fdv L)
 rwa [quu] at this
theorem q1p {o:Option (List (Nat × Nat))} {t t' u:List (Nat × Nat)} (h:o = some t) (h1:t' = t) (h2:t' = u) (h3:t' ≠ []):Wk (.tup [pv (zp u),.bool true]) (fV o) :=by
 subst h h1 h2
 show Wk _ (.tup [trA t',.bool true])
 rw [qg8 h3]
 exact Wk.refl _
theorem qw2 {tq:Nat → Prop} (h1:∀ n,tq n → 1 ≤ n ∧ n ≤ 60) (hne:∃ n,tq n) {n d j:Nat} (hn:n ≤ 50000) (hd:1 ≤ d ∧ d ≤ 50000) (h2:1 ≤ j) (h3:j ≤ 3):(1 ≤ (fdK tq n d j).1 ∧ (fdK tq n d j).1 ≤ 3) ∧ 0 < (fdK tq n d j).2.2.length ∧ (fdK tq n d j).2.2.length ≤ 1000000 ∧ ∀ q,q ∈ (fdK tq n d j).2.2 → (mnG tq (fdK tq n d j).1 q).length = (fdK tq n d j).1 :=by
 have hll:(alP tq j).length ≤ 216001 :=by
  have h3:60 ^ j ≤ 60 ^ 3 :=Nat.pow_le_pow_right (by omega) h3
  have :=qc1 (qak tq j) (60 ^ j + 1)
  exact Nat.le_trans this (by omega)
 have hb :=(qp5 h1 h3 hn hd).ln
 refine ⟨⟨h2,h3⟩,List.length_pos_iff.2 (qg1 (k :=j) h1 hne hd.1).2.1,Nat.le_trans hb (by omega),fun q hq => ?_⟩
 obtain ⟨t,ht⟩ :=qkw h1 hd.1 q hq
 have et:mnG tq j q = t :=by unfold mnG;rw [ht];rfl
 show (mnG tq j q).length = j
 rw [et]
 exact (qcu ht).1.1.1
theorem qmo {N:AV} {l:List Int} (hN:IL N l) (a b s:Int) (hs:1 ≤ s ∧ s ≤ 3) (Q:Nat) (hQ:1 ≤ Q ∧ Q ≤ 3) (TL:List Nat) (hTL:TL ≠ []) (hsr:Srt TL) (h60:∀ n,n ∈ TL → 1 ≤ n ∧ n ≤ 60) (hTl:TL.length ≤ 60) (n d:Nat) (hn:n ≤ 50000) (hd:1 ≤ d ∧ d ≤ 50000) :
  Pure prog 94 [whv a b (Int.ofNat Q) s N (nl (zl TL)) (prS (fun n => n ∈ TL) Q) (prM (fun n => n ∈ TL) Q),fv (Int.ofNat n) (Int.ofNat d)] (fV (nrT (fun n => n ∈ TL) Q (qav s) n d)) :=by
 have lT:Live noL (nl (zl TL)) :=nl_no _
 have lN :=hN.no
 have lS :=qg9 (fun n => n ∈ TL) Q
 have lM :=qe5 (fun n => n ∈ TL) Q
 have lF :=qw5 (nrT (fun n => n ∈ TL) Q (qav s) n d)
 have lS2:Live noL (.lst (prS (fun n => n ∈ TL) Q) (prS (fun n => n ∈ TL) Q).length .no) :=⟨lS,fun _ e => nomatch e⟩
 have lM2:Live noL (.lst (prM (fun n => n ∈ TL) Q) (prM (fun n => n ∈ TL) Q).length .no) :=⟨lM,fun _ e => nomatch e⟩
 have hex :=List.exists_mem_of_ne_nil TL hTL
 have pn:∀ k,k ≤ Q → _ :=fun k hk => qtz hN a b s Q k hk hQ.2 TL hTL h60 n d hn hd
 have pl :=fun k => qzt hN hTL a b (Int.ofNat Q) s hs k
 have pfi:∀ (j:Nat),1 ≤ j → j ≤ Q → ∀ q,q ∈ (fdK (fun n => n ∈ TL) n d j).2.2 → Pure prog 137 [whv a b (Int.ofNat Q) s N (nl (zl TL)) (prS (fun n => n ∈ TL) Q) (prM (fun n => n ∈ TL) Q),nv j,qf q] (pv (zp (mnG (fun n => n ∈ TL) j q))) :=fun j h1 h2 q hq => by
  obtain ⟨t,ht⟩ :=qkw h60 hd.1 q hq
  have ho :=qga (all :=alP (fun n => n ∈ TL) j) (N :=n) (D :=d) (qcf _ _) (fun x hx => (qbq h60 j x ((qbc _ _ _).1 hx).2).1) hd.1
  obtain ⟨q2,x,y,hx,hy,e⟩ :=ho.mem q hq
  have bx :=qbq h60 j x ((qbc _ _ _).1 hx).2
  have by_ :=qbq h60 j y ((qbc _ _ _).1 hy).2
  have r1:(redF x y).1 ≤ x :=Nat.div_le_self _ _
  have r2:(redF x y).2 ≤ y :=Nat.div_le_self _ _
  have r3:1 ≤ (redF x y).1 :=by
   obtain ⟨g1,g2,_⟩ :=qf7 (x :=x) by_.1
   apply Nat.pos_of_ne_zero
   intro z
   rw [z,Nat.mul_zero] at g2
   omega
  have :=qrv hN a b s j Q ⟨h1,h2,hQ.2⟩ TL hTL hsr h60 hTl q (by rw [e];exact r3) q2 (by rw [e];omega) (by rw [e];omega) ht
  have et:mnG (fun n => n ∈ TL) j q = t :=by unfold mnG;rw [ht];rfl
  have htl:t ≠ [] :=fun z => by
   have :=(qcu ht).1.1.1
   rw [z] at this
   have:0 = j :=this
   omega
  rwa [qg8 htl,← et] at this
 have pfj:∀ x:Fd,(∃ j,1 ≤ j ∧ j ≤ Q ∧ x = fdK (fun n => n ∈ TL) n d j) → ∀ q,q ∈ x.2.2 → Pure prog 137 [whv a b (Int.ofNat Q) s N (nl (zl TL)) (prS (fun n => n ∈ TL) Q) (prM (fun n => n ∈ TL) Q),nv x.1,qf q] (pv (zp (mnG (fun n => n ∈ TL) x.1 q))) :=fun x ⟨j,h1,h2,h3⟩ => by
  rw [h3]
  exact pfi j h1 h2
 have lk:∀ k,Live noL (pv (zp (fdK (fun n => n ∈ TL) n d k).2.2)) :=fun k => pv_no _
 rcases hN.cs with rfl | rfl
 all_goals
  refine zA fun S q pc hS hq hC hE => ?_
  conv=>whnf
  refine qee hE hS (A :=Nat × AV × List AObj) [] (fun x hx => nomatch hx) [2,3] (fun (k,v,_) => [(6,v),(7,nv (k + 1))]) (fun _ => []) (fun a => a.2.2) (fun (k,v,ux) => k ≤ Q ∧ ((fdl (fun n => n ∈ TL) (qav s) n d k) = [] ∧ v = .nils ∧ ux = [] ∨ (fdl (fun n => n ∈ TL) (qav s) n d k) ≠ [] ∧ v = .lst (fdv (fdl (fun n => n ∈ TL) (qav s) n d k)) (fdl (fun n => n ∈ TL) (qav s) n d k).length (.ch 2) ∧ ux = [.chain (fdl (fun n => n ∈ TL) (qav s) n d k).length 4 172])) (fun (k,_,_) => Q - k) (0,.nils,[]) (Nat.le_of_ble_eq_true rfl) trivial rfl (by repeat' (first | exact bz lT | exact bz lN | exact bz lS2 | exact bz lM2 | exact zZ | apply And.intro)) (by refine ⟨rfl,rfl,rfl,rfl,rfl,rfl,by decide,?_,?_,?_,by kernel_rfl,?_,?_⟩ <;> repeat' (first | exact bz lT | exact zZ | apply And.intro)) ⟨Nat.zero_le _,.inl ⟨rfl,rfl,rfl⟩⟩ ?_
  rintro ⟨k,v,ux⟩ ⟨hk,hR⟩ M hM
  have hi1:k < Q → IntKind.i64.wrap (Int.ofNat (k + 1) + 1) = Int.ofNat (k + 1 + 1) :=fun h => qa2 (m :=k + 1 + 1) (by omega)
  have hbo :=qux (lets :=qav s) (N :=n) h60 hex hd.1 k
  have lz:(zp (fdK (fun n => n ∈ TL) n d (k + 1)).2.2).length = (fdK (fun n => n ∈ TL) n d (k + 1)).2.2.length :=qa9 _
  have c2:decide (((zp (fdK (fun n => n ∈ TL) n d (k + 1)).2.2).length:Int) > 0) = true :=zT (by
   have :=(qg1 (tq :=(fun n => n ∈ TL)) (N :=n) (D :=d) (k :=k + 1) h60 hex hd.1).2.1
   have h2:0 < (fdK (fun n => n ∈ TL) n d (k + 1)).2.2.length :=List.length_pos_iff.2 this
   rw [lz]
   show (0:Int) < ((fdK (fun n => n ∈ TL) n d (k + 1)).2.2.length:Int)
   omega)
  have plk :=pl (k + 1)
  rcases hR with ⟨e0,rfl,rfl⟩ | ⟨hne,rfl,rfl⟩
  ·obtain rfl:M = 2 :=hM
   conv=>whnf
   by_cases hk2:k < Q
   ·have c1:decide (Int.ofNat (k + 1) ≤ Int.ofNat Q) = true :=zT (by show ((k + 1:Nat):Int) ≤ (Q:Int);omega)
    have pk :=pn (k + 1) hk2
    by_cases hl:qav s (k + 1)
    ·rw [zT hl] at plk
     repeat ((first
      |refine qam c1 ?_
      |refine qal c1 ?_
      |refine qac (qah c1) ?_
      |refine qaa c1 ?_
      |refine qam c2 ?_
      |refine qal c2 ?_
      |refine qac (qah c2) ?_
      |refine qaa c2 ?_
      |refine qab hC (pk) ?_
      |refine qab hC (plk) ?_
      |refine zd hS ?_);conv=>whnf)
     exact ⟨(k + 1,.lst [nv (fdK (fun n => n ∈ TL) n d (k + 1)).1,nv (fdK (fun n => n ∈ TL) n d (k + 1)).2.1.1,nv (fdK (fun n => n ∈ TL) n d (k + 1)).2.1.2,pv (zp (fdK (fun n => n ∈ TL) n d (k + 1)).2.2)] 1 (.ch 2),[.chain 1 4 172]),[3],⟨hk2,.inr ⟨by rw [qlr hl];simp,by rw [qlr hl,e0];rfl,by rw [qlr hl,e0];rfl⟩⟩,by show Q - (k + 1) < Q - k;omega,(by refine ⟨rfl,rfl,rfl,rfl,rfl,rfl,by decide,?_,?_,?_,by kernel_rfl,?_,?_⟩ <;> repeat' (first | exact bz lT | exact bz lN | exact bz lS2 | exact bz lM2 | exact ⟨_,rfl,RnV.wk (WkV.int (hi1 hk2)) (Nat.zero_le _)⟩ | exact ⟨_,rfl,rnC (j :=0) (by decide) rfl rfl ⟨trivial,trivial,trivial,pv_no _,trivial⟩⟩ | exact zZ | apply And.intro))⟩
    ·rw [zF hl] at plk
     repeat ((first
      |refine qam c1 ?_
      |refine qal c1 ?_
      |refine qac (qah c1) ?_
      |refine qaa c1 ?_
      |refine qam c2 ?_
      |refine qal c2 ?_
      |refine qac (qah c2) ?_
      |refine qaa c2 ?_
      |refine qab hC (pk) ?_
      |refine qab hC (plk) ?_
      |refine zd hS ?_);conv=>whnf)
     exact ⟨(k + 1,.nils,[]),[],⟨hk2,.inl ⟨by rw [qot hl,e0],rfl,rfl⟩⟩,by show Q - (k + 1) < Q - k;omega,(by refine ⟨rfl,rfl,rfl,rfl,rfl,rfl,by decide,?_,?_,?_,by kernel_rfl,?_,?_⟩ <;> repeat' (first | exact bz lT | exact bz lN | exact bz lS2 | exact bz lM2 | exact ⟨_,rfl,RnV.wk (WkV.int (hi1 hk2)) (Nat.zero_le _)⟩ | exact zZ | apply And.intro))⟩
   ·have c1:decide (Int.ofNat (k + 1) ≤ Int.ofNat Q) = false :=zF (by show ¬ ((k + 1:Nat):Int) ≤ (Q:Int);omega)
    have ek:k = Q :=by omega
    have en :=qmn (hbo.resolve_right fun z => z.1 e0).2
    rw [ek] at en
    repeat ((first
     |refine qaz c1 ?_
     |refine qa0 c1 ?_
     |refine qac (qar c1) ?_
     |refine qad c1 ?_
     |refine qab hC (qj9) ?_
     |refine zd hS ?_);conv=>whnf)
    exact ⟨_,rfl,(show Wk (.tup [.nils,.bool false]) (fV (nrT (fun n => n ∈ TL) Q (qav s) n d)) by rw [en];exact Wk.refl _)⟩
  ·obtain rfl:M = 3 :=hM
   have hLl :=quw (tq :=(fun n => n ∈ TL)) (lets :=qav s) (N :=n) (D :=d) k
   conv=>whnf
   by_cases hk2:k < Q
   ·have c1:decide (Int.ofNat (k + 1) ≤ Int.ofNat Q) = true :=zT (by show ((k + 1:Nat):Int) ≤ (Q:Int);omega)
    have pk :=pn (k + 1) hk2
    by_cases hl:qav s (k + 1)
    ·rw [zT hl] at plk
     repeat ((first
      |refine qam c1 ?_
      |refine qal c1 ?_
      |refine qac (qah c1) ?_
      |refine qaa c1 ?_
      |refine qam c2 ?_
      |refine qal c2 ?_
      |refine qac (qah c2) ?_
      |refine qaa c2 ?_
      |refine qab hC (pk) ?_
      |refine qab hC (plk) ?_
      |refine zd hS ?_);conv=>whnf)
     refine qaa (zT (show ((fdl (fun n => n ∈ TL) (qav s) n d k).length + (0 + 1)) * 48 ≤ 140737488355328 by omega)) ?_
     conv=>whnf
     refine qaa (zT (show (fdl (fun n => n ∈ TL) (qav s) n d k).length + (0 + 1) ≤ 9223372036854775807 by omega)) ?_
     conv=>whnf
     refine qaa (quc (fdl (fun n => n ∈ TL) (qav s) n d k)) ?_
     conv=>whnf
     refine qaa (zT rfl) ?_
     conv=>whnf
     exact ⟨(k + 1,.lst (fdv ((fdl (fun n => n ∈ TL) (qav s) n d k) ++ [(fdK (fun n => n ∈ TL) n d (k + 1))])) ((fdl (fun n => n ∈ TL) (qav s) n d k) ++ [(fdK (fun n => n ∈ TL) n d (k + 1))]).length (.ch 2),[.chain ((fdl (fun n => n ∈ TL) (qav s) n d k) ++ [(fdK (fun n => n ∈ TL) n d (k + 1))]).length 4 172]),[2],⟨hk2,.inr ⟨by rw [qlr hl];simp,by rw [qlr hl],by rw [qlr hl]⟩⟩,by show Q - (k + 1) < Q - k;omega,(by refine ⟨rfl,rfl,rfl,rfl,rfl,rfl,by decide,?_,?_,?_,by kernel_rfl,?_,?_⟩ <;> repeat' (first | exact bz lT | exact bz lN | exact bz lS2 | exact bz lM2 | exact ⟨_,rfl,RnV.wk (WkV.int (hi1 hk2)) (Nat.zero_le _)⟩ | exact ⟨_,rfl,rnF1 (L :=(fdl (fun n => n ∈ TL) (qav s) n d k)) (y :=(fdK (fun n => n ∈ TL) n d (k + 1))) (j :=0) (by decide) rfl rfl⟩ | exact chF1 (fdl (fun n => n ∈ TL) (qav s) n d k) (fdK (fun n => n ∈ TL) n d (k + 1)) | exact OWk.eq (chF1 (fdl (fun n => n ∈ TL) (qav s) n d k) (fdK (fun n => n ∈ TL) n d (k + 1))) | exact zZ | apply And.intro))⟩
    ·rw [zF hl] at plk
     repeat ((first
      |refine qam c1 ?_
      |refine qal c1 ?_
      |refine qac (qah c1) ?_
      |refine qaa c1 ?_
      |refine qam c2 ?_
      |refine qal c2 ?_
      |refine qac (qah c2) ?_
      |refine qaa c2 ?_
      |refine qab hC (pk) ?_
      |refine qab hC (plk) ?_
      |refine zd hS ?_);conv=>whnf)
     exact ⟨(k + 1,.lst (fdv (fdl (fun n => n ∈ TL) (qav s) n d k)) (fdl (fun n => n ∈ TL) (qav s) n d k).length (.ch 2),[.chain (fdl (fun n => n ∈ TL) (qav s) n d k).length 4 172]),[2],⟨hk2,.inr ⟨by rw [qot hl];exact hne,by rw [qot hl],by rw [qot hl]⟩⟩,by show Q - (k + 1) < Q - k;omega,(by refine ⟨rfl,rfl,rfl,rfl,rfl,rfl,by decide,?_,?_,?_,by kernel_rfl,?_,?_⟩ <;> repeat' (first | exact bz lT | exact bz lN | exact bz lS2 | exact bz lM2 | exact ⟨_,rfl,RnV.wk (WkV.int (hi1 hk2)) (Nat.zero_le _)⟩ | exact ⟨_,rfl,rnC (j :=0) (by decide) rfl rfl (qqg _)⟩ | exact zZ | apply And.intro))⟩
   ·have c1:decide (Int.ofNat (k + 1) ≤ Int.ofNat Q) = false :=zF (by show ¬ ((k + 1:Nat):Int) ≤ (Q:Int);omega)
    have ek:k = Q :=by omega
    have hb3 :=(hbo.resolve_left fun z => hne z.1).2
    have en :=qmn hb3.2
    rw [ek] at en
    have pb :=q0k (fdl (fun n => n ∈ TL) (qav s) n d k) 2 hne (by omega) (fun x hx => by
     obtain ⟨j,j1,j2,rfl⟩ :=qos hx
     have :=qp5 (k :=j) h60 (by omega) hn hd
     exact ⟨this.e1,this.e2⟩)
    repeat ((first
     |refine qaz c1 ?_
     |refine qa0 c1 ?_
     |refine qac (qar c1) ?_
     |refine qad c1 ?_
     |refine zd hS ?_);conv=>whnf)
    have pf2 :=pfj (bstF (fdl (fun n => n ∈ TL) (qav s) n d k)) (Exists.imp (fun j h => ⟨h.1,Nat.le_trans h.2.1 hk,h.2.2⟩) hb3.1)
    have hBf:(1 ≤ (bstF (fdl (fun n => n ∈ TL) (qav s) n d k)).1 ∧ (bstF (fdl (fun n => n ∈ TL) (qav s) n d k)).1 ≤ 3) ∧ 0 < (bstF (fdl (fun n => n ∈ TL) (qav s) n d k)).2.2.length ∧ (bstF (fdl (fun n => n ∈ TL) (qav s) n d k)).2.2.length ≤ 1000000 ∧ ∀ q,q ∈ (bstF (fdl (fun n => n ∈ TL) (qav s) n d k)).2.2 → (mnG (fun n => n ∈ TL) (bstF (fdl (fun n => n ∈ TL) (qav s) n d k)).1 q).length = (bstF (fdl (fun n => n ∈ TL) (qav s) n d k)).1 :=by
     obtain ⟨j,j1,j2,ej⟩ :=hb3.1
     rw [ej]
     exact qw2 h60 hex hn hd j1 (by omega)
    have lB :=pv_no (zp (bstF (fdl (fun n => n ∈ TL) (qav s) n d k)).2.2)
    have lz2 :=qa9 (bstF (fdl (fun n => n ∈ TL) (qav s) n d k)).2.2
    refine qbp hC (pb) ?_
    conv=>whnf
    refine qee hE hS (A :=Nat × AV × List AObj) [] (fun x hx => nomatch hx) [2,3,10,54,55] (fun (i,v,_) => [(12,v),(56,nv i)]) (fun _ => []) (fun a => a.2.2) (fun (i,v,ux) => i ≤ (bstF (fdl (fun n => n ∈ TL) (qav s) n d k)).2.2.length ∧ (i = 0 ∧ v = .nils ∧ ux = [] ∨ 0 < i ∧ v = .lst (tls (ttI (fun n => n ∈ TL) (bstF (fdl (fun n => n ∈ TL) (qav s) n d k)).1 (bstF (fdl (fun n => n ∈ TL) (qav s) n d k)).2.2 i)) (ttI (fun n => n ∈ TL) (bstF (fdl (fun n => n ∈ TL) (qav s) n d k)).1 (bstF (fdl (fun n => n ∈ TL) (qav s) n d k)).2.2 i).length (.ch 4) ∧ ux = [.chain (ttI (fun n => n ∈ TL) (bstF (fdl (fun n => n ∈ TL) (qav s) n d k)).1 (bstF (fdl (fun n => n ∈ TL) (qav s) n d k)).2.2 i).length 1 22])) (fun (i,_,_) => (bstF (fdl (fun n => n ∈ TL) (qav s) n d k)).2.2.length - i) (0,.nils,[]) (Nat.le_of_ble_eq_true rfl) trivial rfl (by repeat' (first | exact bz lT | exact bz lN | exact bz lS2 | exact bz lM2 | exact qaj (qag _) | exact bz lB | exact ⟨_,rfl,RnV.wk (WkV.refl _) (bz lB)⟩ | exact zZ | apply And.intro)) (by refine ⟨rfl,rfl,rfl,rfl,rfl,rfl,by decide,?_,?_,?_,by kernel_rfl,?_,?_⟩ <;> repeat' (first | exact bz lT | exact bz lN | exact bz lS2 | exact bz lM2 | exact qaj (qag _) | exact bz lB | exact ⟨_,rfl,RnV.wk (WkV.refl _) (bz lB)⟩ | exact zZ | apply And.intro)) ⟨Nat.zero_le _,.inl ⟨rfl,rfl,rfl⟩⟩ ?_
    rintro ⟨i,v,ux⟩ ⟨hi,hR⟩ M hM
    have hi2:i < (bstF (fdl (fun n => n ∈ TL) (qav s) n d k)).2.2.length → IntKind.i64.wrap (Int.ofNat i + 1) = Int.ofNat (i + 1) :=fun h => qa2 (m :=i + 1) (by omega)
    rcases hR with ⟨e0,rfl,rfl⟩ | ⟨hne2,rfl,rfl⟩
    ·obtain rfl:M = 4 :=hM
     have hi3:i < (bstF (fdl (fun n => n ∈ TL) (qav s) n d k)).2.2.length :=by omega
     conv=>whnf
     have c3:decide (Int.ofNat i < ((zp (bstF (fdl (fun n => n ∈ TL) (qav s) n d k)).2.2).length:Int)) = true :=zT (by rw [lz2];show (i:Int) < _;omega)
     have ir:i < (zp (bstF (fdl (fun n => n ∈ TL) (qav s) n d k)).2.2).length :=by rw [lz2];exact hi3
     have pf3 :=pf2 _ (qfr (bstF (fdl (fun n => n ∈ TL) (qav s) n d k)).2.2 hi3)
     repeat ((first
      |refine qam c3 ?_
      |refine qal c3 ?_
      |refine qac (qah c3) ?_
      |refine qaa c3 ?_
      |refine qam (qaf ir) ?_
      |refine qal (qaf ir) ?_
      |refine qac (qah (qaf ir)) ?_
      |refine qaa (qaf ir) ?_
      |refine zd hS ?_);conv=>whnf)
     refine qac (takP (qbw (bstF (fdl (fun n => n ∈ TL) (qav s) n d k)).2.2 hi3)) ?_
     conv=>whnf
     repeat ((first
      |refine qam c3 ?_
      |refine qal c3 ?_
      |refine qac (qah c3) ?_
      |refine qaa c3 ?_
      |refine qam (qaf ir) ?_
      |refine qal (qaf ir) ?_
      |refine qac (qah (qaf ir)) ?_
      |refine qaa (qaf ir) ?_
      |refine qab hC (pf3) ?_
      |refine zd hS ?_);conv=>whnf)
     exact ⟨(i + 1,.lst [pv (zp (mnG (fun n => n ∈ TL) (bstF (fdl (fun n => n ∈ TL) (qav s) n d k)).1 (gq (bstF (fdl (fun n => n ∈ TL) (qav s) n d k)).2.2 i)))] 1 (.ch 4),[.chain 1 1 22]),[5],⟨hi3,.inr ⟨Nat.succ_pos _,by rw [qhp hi3,e0];rfl,by rw [qhp hi3,e0];rfl⟩⟩,by show (bstF (fdl (fun n => n ∈ TL) (qav s) n d k)).2.2.length - (i + 1) < (bstF (fdl (fun n => n ∈ TL) (qav s) n d k)).2.2.length - i;omega,(by refine ⟨rfl,rfl,rfl,rfl,rfl,rfl,by decide,?_,?_,?_,by kernel_rfl,?_,?_⟩ <;> repeat' (first | exact bz lT | exact bz lN | exact bz lS2 | exact bz lM2 | exact qaj (qag _) | exact bz lB | exact ⟨_,rfl,RnV.wk (WkV.refl _) (bz lB)⟩ | exact ⟨_,rfl,RnV.wk (WkV.int (hi2 hi3)) (Nat.zero_le _)⟩ | exact ⟨_,rfl,rnC (j :=0) (by decide) rfl rfl ⟨pv_no _,trivial⟩⟩ | exact zZ | apply And.intro))⟩
    ·obtain rfl:M = 5 :=hM
     have hTl2 :=qyo (tq :=(fun n => n ∈ TL)) (j :=(bstF (fdl (fun n => n ∈ TL) (qav s) n d k)).1) (R :=(bstF (fdl (fun n => n ∈ TL) (qav s) n d k)).2.2) hi
     conv=>whnf
     by_cases hi3:i < (bstF (fdl (fun n => n ∈ TL) (qav s) n d k)).2.2.length
     ·have c3:decide (Int.ofNat i < ((zp (bstF (fdl (fun n => n ∈ TL) (qav s) n d k)).2.2).length:Int)) = true :=zT (by rw [lz2];show (i:Int) < _;omega)
      have ir:i < (zp (bstF (fdl (fun n => n ∈ TL) (qav s) n d k)).2.2).length :=by rw [lz2];exact hi3
      have pf3 :=pf2 _ (qfr (bstF (fdl (fun n => n ∈ TL) (qav s) n d k)).2.2 hi3)
      repeat ((first
       |refine qam c3 ?_
       |refine qal c3 ?_
       |refine qac (qah c3) ?_
       |refine qaa c3 ?_
       |refine qam (qaf ir) ?_
       |refine qal (qaf ir) ?_
       |refine qac (qah (qaf ir)) ?_
       |refine qaa (qaf ir) ?_
       |refine zd hS ?_);conv=>whnf)
      refine qac (takP (qbw (bstF (fdl (fun n => n ∈ TL) (qav s) n d k)).2.2 hi3)) ?_
      conv=>whnf
      repeat ((first
       |refine qam c3 ?_
       |refine qal c3 ?_
       |refine qac (qah c3) ?_
       |refine qaa c3 ?_
       |refine qam (qaf ir) ?_
       |refine qal (qaf ir) ?_
       |refine qac (qah (qaf ir)) ?_
       |refine qaa (qaf ir) ?_
       |refine qab hC (pf3) ?_
       |refine zd hS ?_);conv=>whnf)
      refine qaa (zT (show ((ttI (fun n => n ∈ TL) (bstF (fdl (fun n => n ∈ TL) (qav s) n d k)).1 (bstF (fdl (fun n => n ∈ TL) (qav s) n d k)).2.2 i).length + (0 + 1)) * 24 ≤ 140737488355328 by omega)) ?_
      conv=>whnf
      refine qaa (zT (show (ttI (fun n => n ∈ TL) (bstF (fdl (fun n => n ∈ TL) (qav s) n d k)).1 (bstF (fdl (fun n => n ∈ TL) (qav s) n d k)).2.2 i).length + (0 + 1) ≤ 9223372036854775807 by omega)) ?_
      conv=>whnf
      refine qaa (qgf (ttI (fun n => n ∈ TL) (bstF (fdl (fun n => n ∈ TL) (qav s) n d k)).1 (bstF (fdl (fun n => n ∈ TL) (qav s) n d k)).2.2 i)) ?_
      conv=>whnf
      refine qaa (zT rfl) ?_
      conv=>whnf
      exact ⟨(i + 1,.lst (tls ((ttI (fun n => n ∈ TL) (bstF (fdl (fun n => n ∈ TL) (qav s) n d k)).1 (bstF (fdl (fun n => n ∈ TL) (qav s) n d k)).2.2 i) ++ [mnG (fun n => n ∈ TL) (bstF (fdl (fun n => n ∈ TL) (qav s) n d k)).1 (gq (bstF (fdl (fun n => n ∈ TL) (qav s) n d k)).2.2 i)])) ((ttI (fun n => n ∈ TL) (bstF (fdl (fun n => n ∈ TL) (qav s) n d k)).1 (bstF (fdl (fun n => n ∈ TL) (qav s) n d k)).2.2 i) ++ [mnG (fun n => n ∈ TL) (bstF (fdl (fun n => n ∈ TL) (qav s) n d k)).1 (gq (bstF (fdl (fun n => n ∈ TL) (qav s) n d k)).2.2 i)]).length (.ch 4),[.chain ((ttI (fun n => n ∈ TL) (bstF (fdl (fun n => n ∈ TL) (qav s) n d k)).1 (bstF (fdl (fun n => n ∈ TL) (qav s) n d k)).2.2 i) ++ [mnG (fun n => n ∈ TL) (bstF (fdl (fun n => n ∈ TL) (qav s) n d k)).1 (gq (bstF (fdl (fun n => n ∈ TL) (qav s) n d k)).2.2 i)]).length 1 22]),[4],⟨hi3,.inr ⟨Nat.succ_pos _,by rw [qhp hi3],by rw [qhp hi3]⟩⟩,by show (bstF (fdl (fun n => n ∈ TL) (qav s) n d k)).2.2.length - (i + 1) < (bstF (fdl (fun n => n ∈ TL) (qav s) n d k)).2.2.length - i;omega,(by refine ⟨rfl,rfl,rfl,rfl,rfl,rfl,by decide,?_,?_,?_,by kernel_rfl,?_,?_⟩ <;> repeat' (first | exact bz lT | exact bz lN | exact bz lS2 | exact bz lM2 | exact qaj (qag _) | exact bz lB | exact ⟨_,rfl,RnV.wk (WkV.refl _) (bz lB)⟩ | exact ⟨_,rfl,RnV.wk (WkV.int (hi2 hi3)) (Nat.zero_le _)⟩ | exact ⟨_,rfl,rnT1 (L :=(ttI (fun n => n ∈ TL) (bstF (fdl (fun n => n ∈ TL) (qav s) n d k)).1 (bstF (fdl (fun n => n ∈ TL) (qav s) n d k)).2.2 i)) (y :=mnG (fun n => n ∈ TL) (bstF (fdl (fun n => n ∈ TL) (qav s) n d k)).1 (gq (bstF (fdl (fun n => n ∈ TL) (qav s) n d k)).2.2 i)) (j :=0) (by decide) rfl rfl⟩ | exact chT1 (ttI (fun n => n ∈ TL) (bstF (fdl (fun n => n ∈ TL) (qav s) n d k)).1 (bstF (fdl (fun n => n ∈ TL) (qav s) n d k)).2.2 i) (mnG (fun n => n ∈ TL) (bstF (fdl (fun n => n ∈ TL) (qav s) n d k)).1 (gq (bstF (fdl (fun n => n ∈ TL) (qav s) n d k)).2.2 i)) | exact OWk.eq (chT1 (ttI (fun n => n ∈ TL) (bstF (fdl (fun n => n ∈ TL) (qav s) n d k)).1 (bstF (fdl (fun n => n ∈ TL) (qav s) n d k)).2.2 i) (mnG (fun n => n ∈ TL) (bstF (fdl (fun n => n ∈ TL) (qav s) n d k)).1 (gq (bstF (fdl (fun n => n ∈ TL) (qav s) n d k)).2.2 i))) | exact zZ | apply And.intro))⟩
     ·have c3:decide (Int.ofNat i < ((zp (bstF (fdl (fun n => n ∈ TL) (qav s) n d k)).2.2).length:Int)) = false :=zF (by rw [lz2];show ¬ (i:Int) < _;omega)
      have et:(ttI (fun n => n ∈ TL) (bstF (fdl (fun n => n ∈ TL) (qav s) n d k)).1 (bstF (fdl (fun n => n ∈ TL) (qav s) n d k)).2.2 i) = (bstF (fdl (fun n => n ∈ TL) (qav s) n d k)).2.2.map (mnG (fun n => n ∈ TL) (bstF (fdl (fun n => n ∈ TL) (qav s) n d k)).1) :=by unfold ttI;rw [List.take_of_length_le (by omega)]
      have hml:∀ x,x ∈ (ttI (fun n => n ∈ TL) (bstF (fdl (fun n => n ∈ TL) (qav s) n d k)).1 (bstF (fdl (fun n => n ∈ TL) (qav s) n d k)).2.2 i) → x.length = (bstF (fdl (fun n => n ∈ TL) (qav s) n d k)).1 :=fun x hx => by
       rw [et] at hx
       obtain ⟨q,hq,rfl⟩ :=List.mem_map.1 hx
       exact hBf.2.2.2 q hq
      have hne3:(ttI (fun n => n ∈ TL) (bstF (fdl (fun n => n ∈ TL) (qav s) n d k)).1 (bstF (fdl (fun n => n ∈ TL) (qav s) n d k)).2.2 i) ≠ [] :=fun e => by rw [e] at hTl2;have:0 = i :=hTl2;omega
      have pt :=q0i (ttI (fun n => n ∈ TL) (bstF (fdl (fun n => n ∈ TL) (qav s) n d k)).1 (bstF (fdl (fun n => n ∈ TL) (qav s) n d k)).2.2 i) 4 hne3 (by omega) (fun x hx => by rw [hml x hx];omega)
      have htr:trF (fun n => n ∈ TL) (bstF (fdl (fun n => n ∈ TL) (qav s) n d k)) = bstT (ttI (fun n => n ∈ TL) (bstF (fdl (fun n => n ∈ TL) (qav s) n d k)).1 (bstF (fdl (fun n => n ∈ TL) (qav s) n d k)).2.2 i) :=by rw [et];rfl
      have htn:trF (fun n => n ∈ TL) (bstF (fdl (fun n => n ∈ TL) (qav s) n d k)) ≠ [] :=fun e => by
       have :=hml _ (qvf hne3 hml).1
       rw [← htr,e] at this
       have:0 = (bstF (fdl (fun n => n ∈ TL) (qav s) n d k)).1 :=this
       omega
      repeat ((first
       |refine qaz c3 ?_
       |refine qa0 c3 ?_
       |refine qac (qar c3) ?_
       |refine qad c3 ?_
       |refine zd hS ?_);conv=>whnf)
      refine qbp hC (pt) ?_
      conv=>whnf
      exact ⟨_,rfl,q1p en (by rw [ek]) htr htn⟩
end
end Go.Abs.Seat
