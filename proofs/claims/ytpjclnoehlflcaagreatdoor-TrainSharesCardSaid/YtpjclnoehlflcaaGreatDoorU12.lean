/-
  The first train of some pairs that turns by a fraction.
  What is found for each number of pairs, and that the best of it is the best train: plain.
-/
import Derived.Test.YtpjclnoehlflcaaGreatDoorT43
import Derived.Test.YtpjclnoehlflcaaGreatDoorU10
import Derived.Test.YtpjclnoehlflcaaGreatDoorU11
namespace Go.Abs.Seat
noncomputable section
open Go Go.Abs Go.Proofs.Tryz
set_option maxRecDepth 100000
set_option maxHeartbeats 40000000
attribute [local irreducible] IntKind.wrap pEq
theorem qrv {N:AV} {l:List Int} (hN:IL N l) (a b s:Int) (P Q:Nat) (hP:1 ≤ P ∧ P ≤ Q ∧ Q ≤ 3) (TL:List Nat) (hTL:TL ≠ []) (hsr:Srt TL) (h60:∀ n,n ∈ TL → 1 ≤ n ∧ n ≤ 60) (hTl:TL.length ≤ 60) (q:Nat × Nat) (h1:1 ≤ q.1) (h2:1 ≤ q.2) (h3:q.1 ≤ 60 ^ P) (h4:q.2 ≤ 60 ^ P) {t:List (Nat × Nat)} (ht:mnT (Wt (fun n => n ∈ TL) P q.1 q.2 (0,0)) = some t) :
  Pure prog 137 [whv a b (Int.ofNat Q) s N (nl (zl TL)) (prS (fun n => n ∈ TL) Q) (prM (fun n => n ∈ TL) Q),nv P,qf q] (trA t) :=by
 have lT:Live noL (nl (zl TL)) :=nl_no _
 have lN :=hN.no
 have lS :=qg9 (fun n => n ∈ TL) Q
 have lM :=qe5 (fun n => n ∈ TL) Q
 have lv :=ql6 t
 have hlen :=(qcu ht).1.1.1
 cases t with
 |nil => exact absurd hlen (by show ¬ 0 = P;omega)
 |cons p0 r0 =>
  have hX:BdO 4 (.cells (.node (nv q.1) (.node (nv q.2) .nil .nil) .nil) 2 24) :=⟨Nat.zero_le _,⟨Nat.zero_le _,trivial,trivial⟩,trivial⟩
  have ht2:mnT (Wt (fun n => n ∈ TL) P q.1 q.2 (qca [])) = some (p0 :: r0) :=ht
  have e3:srV [] (some (p0 :: r0)) = trA (p0 :: r0) :=rfl
  have fh :=quq hN a b s P Q hP TL hTL hsr h60 hTl _ hX P [] q.1 q.2 (Nat.zero_add _) h1 h2 h3 h4
  rw [ht2,e3] at fh
  rcases hN.cs with rfl | rfl
  all_goals
   refine zA fun S q pc hS hq hC hE => ?_
   conv=>whnf
   refine qat hC ?_
   conv=>whnf
   refine qc0 hS fh (Nat.le_of_ble_eq_true rfl) [] [] rfl (fun _ h => nomatch h) (ob4 rfl rfl rfl rfl) (ob4 rfl rfl rfl rfl) ?_
   conv=>whnf
   exact ⟨_,rfl,Wk.refl _⟩
end
end Go.Abs.Seat
namespace Go.Abs.Seat
noncomputable section
open Go Go.Abs
set_option maxRecDepth 100000
abbrev alP (tq:Nat → Prop) (k:Nat):List Nat :=lstP (qak tq k) (60 ^ k + 1)
def fdK (tq:Nat → Prop) (N D k:Nat):Fd :=(k,(qdt (alP tq k) N D).2,(qdt (alP tq k) N D).1)
def fdl (tq:Nat → Prop) (lets:Nat → Prop) (N D:Nat):Nat → List Fd
 | 0 => []
 |k + 1 => @ite _ (lets (k + 1)) (Classical.propDecidable _) (fdl tq lets N D k ++ [fdK tq N D (k + 1)]) (fdl tq lets N D k)
theorem qlr {tq lets:Nat → Prop} {N D k:Nat} (h:lets (k + 1)):fdl tq lets N D (k + 1) = fdl tq lets N D k ++ [fdK tq N D (k + 1)] :=by
 rw [fdl,if_pos h]
theorem qot {tq lets:Nat → Prop} {N D k:Nat} (h:¬ lets (k + 1)):fdl tq lets N D (k + 1) = fdl tq lets N D k :=by
 rw [fdl,if_neg h]
theorem quw {tq lets:Nat → Prop} {N D:Nat}:∀ k,(fdl tq lets N D k).length ≤ k
 | 0 => Nat.le_refl 0
 |k + 1 => by
  have ih :=quw (tq :=tq) (lets :=lets) (N :=N) (D :=D) k
  by_cases h:lets (k + 1)
  ·rw [qlr h,List.length_append];show _ + 1 ≤ _;omega
  ·rw [qot h];omega
theorem qos {tq lets:Nat → Prop} {N D:Nat} {x:Fd}:∀ {k:Nat},x ∈ fdl tq lets N D k → ∃ j,1 ≤ j ∧ j ≤ k ∧ x = fdK tq N D j
 | 0,h => by cases h
 |k + 1,h => by
  by_cases hl:lets (k + 1)
  ·rw [qlr hl] at h
   rcases List.mem_append.1 h with h | h
   ·obtain ⟨j,h1,h2,h3⟩ :=qos h
    exact ⟨j,h1,by omega,h3⟩
   ·exact ⟨k + 1,by omega,Nat.le_refl _,List.mem_singleton.1 h⟩
  ·rw [qot hl] at h
   obtain ⟨j,h1,h2,h3⟩ :=qos h
   exact ⟨j,h1,by omega,h3⟩
def mnG (tq:Nat → Prop) (k:Nat) (q:Nat × Nat):List (Nat × Nat) :=(mnT (Wt tq k q.1 q.2 (0,0))).getD []
def trF (tq:Nat → Prop) (x:Fd):List (Nat × Nat) :=bstT (x.2.2.map (mnG tq x.1))
theorem qg1 {tq:Nat → Prop} (h1:∀ n,tq n → 1 ≤ n ∧ n ≤ 60) (hne:∃ n,tq n) {N D k:Nat} (hD:1 ≤ D):alP tq k ≠ [] ∧ (qdt (alP tq k) N D).1 ≠ [] ∧ 1 ≤ (qdt (alP tq k) N D).2.2 :=by
 have ho :=qga (all :=alP tq k) (N :=N) (D :=D) (qcf _ _) (fun x hx => (qbq h1 k x ((qbc _ _ _).1 hx).2).1) hD
 have h2:alP tq k ≠ [] :=by
  obtain ⟨n,hn⟩ :=hne
  have hp:∀ k,qak tq k (n ^ k) :=fun k => by
   induction k with
   |zero => exact rfl
   |succ k ih => exact ⟨n ^ k,n,ih,hn,Nat.pow_succ n k⟩
  intro e
  have :=(qbc (qak tq k) (n ^ k) (60 ^ k + 1)).2 ⟨Nat.lt_succ_of_le (qbq h1 k _ (hp k)).2,hp k⟩
  rw [show lstP (qak tq k) (60 ^ k + 1) = [] from e] at this
  cases this
 have h3:(qdt (alP tq k) N D).1 ≠ [] :=fun e => h2 (ho.nil.1 e)
 exact ⟨h2,h3,ho.pos h3⟩
theorem optK {tq:Nat → Prop} (h1:∀ n,tq n → 1 ≤ n ∧ n ≤ 60) (hne:∃ n,tq n) {N D:Nat} (hD:1 ≤ D) (k:Nat):Opt tq N D k (trF tq (fdK tq N D k)) ∧ fle (dT N D (trF tq (fdK tq N D k))) (fdK tq N D k).2.1 ∧ fle (fdK tq N D k).2.1 (dT N D (trF tq (fdK tq N D k))) :=by
 have hn :=qg1 (N :=N) (D :=D) (k :=k) h1 hne hD
 have hg:∀ q,q ∈ (qdt (alP tq k) N D).1 → mnT (Wt tq k q.1 q.2 (0,0)) = some (mnG tq k q) :=fun q hq => by
  obtain ⟨t,ht⟩ :=qkw h1 hD q hq
  unfold mnG
  rw [ht];rfl
 have hb :=qvf (n :=k) (l :=(qdt (alP tq k) N D).1.map (mnG tq k)) (fun e => hn.2.1 (List.map_eq_nil_iff.1 e)) fun t ht => by
  obtain ⟨q,hq,rfl⟩ :=List.mem_map.1 ht
  exact (qcu (hg q hq)).1.1.1
 obtain ⟨q,hq,e⟩ :=List.mem_map.1 hb.1
 refine qwc h1 hD (Nat.lt_succ_self _) (trF tq (fdK tq N D k)) q hq (by rw [hg q hq,e];rfl) fun q' t' hq' ht' => ?_
 have:t' = mnG tq k q' :=Option.some.inj (ht'.symm.trans (hg q' hq'))
 exact hb.2 t' (List.mem_map.2 ⟨q',hq',this.symm⟩)
theorem qux {tq lets:Nat → Prop} (h1:∀ n,tq n → 1 ≤ n ∧ n ≤ 60) (hne:∃ n,tq n) {N D:Nat} (hD:1 ≤ D):∀ k,(fdl tq lets N D k = [] ∧ BO tq k lets N D none) ∨ (fdl tq lets N D k ≠ [] ∧ (∃ j,1 ≤ j ∧ j ≤ k ∧ bstF (fdl tq lets N D k) = fdK tq N D j) ∧ BO tq k lets N D (some (trF tq (bstF (fdl tq lets N D k)))))
 | 0 => .inl ⟨rfl,BO.zero _ _ _ _⟩
 |k + 1 => by
  have hp:∀ n,tq n → 1 ≤ n :=fun n h => (h1 n h).1
  have ih :=qux (lets :=lets) (N :=N) h1 hne hD k
  by_cases hl:lets (k + 1)
  ·right
   have ho :=optK h1 hne hD (N :=N) (k + 1)
   have y2 :=qdp hp ho.1.1.all
   rw [qlr hl]
   refine ⟨by simp,?_⟩
   rcases ih with ⟨e,hb⟩ | ⟨e,⟨j,j1,j2,ej⟩,hb⟩
   ·rw [e]
    exact ⟨⟨k + 1,by omega,Nat.le_refl _,rfl⟩,BO.new hp hb hl ho.1 fun t h => by cases h⟩
   ·have hj :=optK h1 hne hD (N :=N) j
    have y1 :=qdp hp hj.1.1.all
    have n1 :=(qg1 (N :=N) (k :=j) h1 hne hD).2.2
    have n2 :=(qg1 (N :=N) (k :=k + 1) h1 hne hD).2.2
    rw [qna,ej]
    rw [ej] at hb
    by_cases hlt:(fdK tq N D (k + 1)).2.1.1 * (fdK tq N D j).2.1.2 < (fdK tq N D j).2.1.1 * (fdK tq N D (k + 1)).2.1.2
    ·rw [if_pos (.inr hlt)]
     refine ⟨⟨k + 1,by omega,Nat.le_refl _,rfl⟩,BO.new hp hb hl ho.1 fun t h h2 => ?_⟩
     cases h
     have:fle (fdK tq N D j).2.1 (fdK tq N D (k + 1)).2.1 :=qb5 (b :=dT N D (trF tq (fdK tq N D j))) y1 hj.2.2 (qb5 (b :=dT N D (trF tq (fdK tq N D (k + 1)))) y2 h2 ho.2.1)
     exact absurd hlt (Nat.not_lt.2 this)
    ·rw [if_neg (by rintro (h | h);exact e h;exact hlt h)]
     refine ⟨⟨j,j1,by omega,rfl⟩,BO.old hp hb ho.1 ?_⟩
     exact qb5 (b :=(fdK tq N D j).2.1) n1 hj.2.1 (qb5 (b :=(fdK tq N D (k + 1)).2.1) n2 (show fle _ _ from Nat.le_of_not_lt hlt) ho.2.2)
  ·rw [qot hl]
   rcases ih with ⟨e,hb⟩ | ⟨e,⟨j,j1,j2,ej⟩,hb⟩
   ·exact .inl ⟨e,BO.same hb fun h => hl h.1⟩
   ·exact .inr ⟨e,⟨j,j1,by omega,ej⟩,BO.same hb fun h => hl h.1⟩
theorem qxd {n d:Nat} {L:List (Nat × Nat)} (h:∀ q,q ∈ L → (dQ n d q).1 ≤ 10800000000 ∧ q.2 ≤ 216000):NB (qfo n d L) L.length :=by
 suffices ∀ (M:List (Nat × Nat)) (s:NS) (m:Nat),NB s m → (∀ q,q ∈ M → (dQ n d q).1 ≤ 10800000000 ∧ q.2 ≤ 216000) → NB (M.foldl (cand n d) s) (m + M.length) by
  have :=this L ([],(0,0)) 0 ⟨Nat.zero_le _,Nat.zero_le _,Nat.zero_le _⟩ h
  rwa [Nat.zero_add] at this
 intro M
 induction M with
 |nil => exact fun s m h _ => h
 |cons q M ih =>
  intro s m hs hM
  have :=ih (cand n d s q) (m + 1) (q0f hs (hM q List.mem_cons_self).1 (hM q List.mem_cons_self).2) fun p hp => hM p (List.mem_cons_of_mem _ hp)
  rw [List.length_cons,show m + (M.length + 1) = m + 1 + M.length by omega]
  exact this
theorem qp5 {tq:Nat → Prop} (h1:∀ n,tq n → 1 ≤ n ∧ n ≤ 60) {n d k:Nat} (hk:k ≤ 3) (hn:n ≤ 50000) (hd:1 ≤ d ∧ d ≤ 50000):NB (qdt (alP tq k) n d) (2 * (alP tq k).length) :=by
 have hall:∀ x,x ∈ alP tq k → 1 ≤ x ∧ x ≤ 216000 :=fun x hx => by
  have h2 :=qbq h1 k x ((qbc _ _ _).1 hx).2
  have h3:60 ^ k ≤ 60 ^ 3 :=Nat.pow_le_pow_right (by omega) hk
  omega
 have hred:∀ x y,x ∈ alP tq k → y ∈ alP tq k → (dQ n d (redF x y)).1 ≤ 10800000000 ∧ (redF x y).2 ≤ 216000 :=fun x y hx hy => by
  have b1 :=hall x hx
  have b2 :=hall y hy
  have r1:(redF x y).1 ≤ x :=Nat.div_le_self _ _
  have r2:(redF x y).2 ≤ y :=Nat.div_le_self _ _
  have m1:(redF x y).1 * d ≤ 216000 * 50000 :=Nat.mul_le_mul (by omega) hd.2
  have m2:n * (redF x y).2 ≤ 50000 * 216000 :=Nat.mul_le_mul hn (by omega)
  refine ⟨?_,by omega⟩
  show gp _ _ ≤ _
  unfold gp
  omega
 have hL:∀ m:List Nat,(∀ x,x ∈ m → x ∈ alP tq k) → NB (qfo n d (m.flatMap (qbv (alP tq k) n d))) (m.flatMap (qbv (alP tq k) n d)).length :=fun m hm => by
  refine qxd fun q hq => ?_
  obtain ⟨x,hx,hq⟩ :=List.mem_flatMap.1 hq
  obtain ⟨y,hy,rfl⟩ :=(qej (N :=n) (qcf _ _) (fun x hx => (hall x hx).1) hd.1 (hm x hx)).1 q hq
  exact hred x y (hm x hx) hy
 have hlen:∀ m:List Nat,(m.flatMap (qbv (alP tq k) n d)).length ≤ 2 * m.length :=fun m => by
  induction m with
  |nil => exact Nat.le_refl _
  |cons x m ih =>
   rw [List.flatMap_cons,List.length_append,List.length_cons]
   have:(qbv (alP tq k) n d x).length ≤ 2 :=by
    unfold qbv
    rw [List.length_append]
    split <;> split <;> simp
   omega
 have h2 :=hL (alP tq k) fun _ h => h
 exact ⟨h2.e1,h2.e2,Nat.le_trans h2.ln (hlen _)⟩
end
end Go.Abs.Seat
