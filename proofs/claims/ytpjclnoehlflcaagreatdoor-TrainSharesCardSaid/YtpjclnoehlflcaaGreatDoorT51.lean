/-
  The document's near: the fractions of products that come nearest.
-/
import Derived.Test.YtpjclnoehlflcaaGreatDoorU9
import Derived.Test.YtpjclnoehlflcaaGreatDoorT44
import Derived.Test.YtpjclnoehlflcaaGreatDoorU4
namespace Go.Abs.Seat
noncomputable section
open Go Go.Abs Go.Proofs.Tryz
set_option maxRecDepth 100000
set_option maxHeartbeats 40000000
attribute [local irreducible] IntKind.wrap pEq
theorem qqp (d:Nat) {w w':Nat} (h:w ≤ w'):∀ l,cntB d w l ≤ cntB d w' l
 | [] => Nat.le_refl _
 |y :: r => by
  rw [cntB,cntB]
  by_cases k:y * d < w
  ·rw [if_pos k,if_pos (by omega)];exact Nat.succ_le_succ (qqp d h r)
  ·rw [if_neg k];exact Nat.zero_le _
theorem qdl {x:Nat} {c:Bool} (h:c = true):@Bool.rec (fun _ => Bool) (@Bool.rec (fun _ => Bool) true false (x,true).snd) (x,true).snd c = true :=by subst h;rfl
theorem qmz {x:Nat} {c:Bool} (h:c = false):@Bool.rec (fun _ => Bool) (@Bool.rec (fun _ => Bool) true false (x,true).snd) (x,true).snd c = false :=by subst h;rfl
def mnI (l:List Nat) (n d i:Nat):Nat :=min (cntB d (gn l i * n) l) (l.length - 1)
theorem qc9 {l:List Nat} (hs:Srt l) (n d:Nat) {i j:Nat} (h:i ≤ j) (hj:j < l.length):mnI l n d i ≤ mnI l n d j :=by
 unfold mnI
 have h1:gn l i ≤ gn l j :=by
  rcases Nat.eq_or_lt_of_le h with rfl | h
  ·exact Nat.le_refl _
  ·exact Nat.le_of_lt (hs i j h hj)
 have :=qqp d (Nat.mul_le_mul_right n h1) l
 omega
abbrev rR (l:List Nat) (n d i:Nat):List (Nat × Nat) :=(l.take i).flatMap (rcOf l n d)
theorem qkq (l:List Nat) (n d:Nat) {i:Nat} (h:i < l.length):rR l n d (i + 1) = rR l n d i ++ ((if 1 ≤ mnI l n d i then [(gn l (mnI l n d i - 1),gn l i)] else []) ++ [(gn l (mnI l n d i),gn l i)]) :=by
 unfold rR
 rw [qnm l h,List.flatMap_append]
 simp only [List.flatMap_cons,List.flatMap_nil,List.append_nil]
 rfl
theorem qx0 (l:List Nat) (n d i:Nat):(rR l n d i).length ≤ 2 * l.length :=by
 have h:∀ m:List Nat,(m.flatMap (rcOf l n d)).length ≤ 2 * m.length :=fun m => by
  induction m with
  |nil => exact Nat.le_refl _
  |cons x m ih =>
   rw [List.flatMap_cons,List.length_append,List.length_cons]
   have:(rcOf l n d x).length ≤ 2 :=by
    unfold rcOf
    split <;> simp
   omega
 have :=h (l.take i)
 have h2:(l.take i).length ≤ l.length :=by rw [List.length_take];omega
 unfold rR
 omega
theorem maxU {u:Nat} (h:u ≤ 1000000000):maxI 0 (IntKind.i64.wrap (Int.ofNat u - 1)) = Int.ofNat (u - 1) :=by
 rw [qas (by show -9223372036854775808 ≤ (u:Int) - 1;omega) (by show (u:Int) - 1 < 9223372036854775808;omega)]
 unfold maxI
 show (if (u:Int) - 1 > 0 then (u:Int) - 1 else 0) = ((u - 1:Nat):Int)
 split <;> omega
theorem qre (l:List Nat) (hl0:l ≠ []) (hs:Srt l) (hal:∀ x,x ∈ l → 1 ≤ x ∧ x ≤ 216000) (hll:l.length ≤ 216001) (n d:Nat) (hn:n ≤ 50000) (hd:1 ≤ d ∧ d ≤ 50000) :
  Pure prog 95 [nl (zl l),fv (Int.ofNat n) (Int.ofNat d)] (pv (zp (rnF l n d))) :=by
 have lL :=nl_no (zl l)
 have lR :=qag (zp (rnF l n d))
 have lz :=qax l
 have hlen:0 < l.length :=List.length_pos_iff.2 hl0
 refine zA fun S q pc hS hq hC hE => ?_
 conv=>whnf
 refine qee hE hS (A :=Nat × Nat × AV × List AObj) [] (fun x hx => nomatch hx) [0,3] (fun (i,t,v,_) => [(5,v),(6,nv t),(7,nv i)]) (fun _ => []) (fun a => a.2.2.2) (fun (i,t,v,ux) => i ≤ l.length ∧ t < l.length ∧ (∀ j,i ≤ j → j < l.length → t ≤ mnI l n d j) ∧ (i = 0 ∧ v = .nils ∧ ux = [] ∨ 0 < i ∧ v = .lst (flat (zp (rR l n d i))) (zp (rR l n d i)).length (.ch 1) ∧ ux = [.chain (zp (rR l n d i)).length 2 24])) (fun (i,_,_) => l.length - i) (0,0,.nils,[]) (Nat.le_of_ble_eq_true rfl) trivial rfl (by repeat' (first | exact bz lL | exact zZ | apply And.intro)) (by refine ⟨rfl,rfl,rfl,rfl,rfl,rfl,by decide,?_,?_,?_,by kernel_rfl,?_,?_⟩ <;> repeat' (first | exact bz lL | exact ⟨_,rfl,RnV.wk (WkV.refl _) (bz lL)⟩ | exact zZ | apply And.intro)) ⟨Nat.zero_le _,hlen,fun _ _ _ => Nat.zero_le _,.inl ⟨rfl,rfl,rfl⟩⟩ ?_
 rintro ⟨i,t,v,ux⟩ ⟨hi,ht,hm,hR⟩ N hN
 have hi1:i < l.length → IntKind.i64.wrap (Int.ofNat i + 1) = Int.ofNat (i + 1) :=fun h => qa2 (m :=i + 1) (by omega)
 rcases hR with ⟨e0,rfl,rfl⟩ | ⟨hne,rfl,rfl⟩
 ·obtain rfl:N = 1 :=hN
  conv=>whnf
  have hi2:i < l.length :=e0 ▸ hlen
  have c1:decide (Int.ofNat i < ((zl l).length:Int)) = true :=zT (by rw [lz];show (i:Int) < _;omega)
  repeat ((first
   |refine qam c1 ?_
   |refine qal c1 ?_
   |refine qac (qah c1) ?_
   |refine qaa c1 ?_
   |refine zd hS ?_);conv=>whnf)
  refine qbe hE hS (A :=Nat) [0,3,5,7] (fun t => [(6,nv t)]) (fun _ => []) (fun _ => []) (fun t => t < l.length ∧ ∀ j,i ≤ j → j < l.length → t ≤ mnI l n d j) (fun t => l.length - t) t (Nat.le_of_ble_eq_true rfl) rfl zG1 ⟨ht,hm⟩ ?_
  clear hm
  intro u ⟨hu,hm⟩ M hM
  obtain rfl:M = 1 :=hM
  conv=>whnf
  have e1:IntKind.i64.wrap (Int.ofNat u + 1) = Int.ofNat (u + 1) :=qa2 (m :=u + 1) (by omega)
  have ht0 :=hal _ (qbd l hu)
  have hg0 :=hal _ (qbd l hi2)
  have m1:gn l u * d ≤ 216000 * 50000 :=Nat.mul_le_mul ht0.2 hd.2
  have m2:gn l i * n ≤ 216000 * 50000 :=Nat.mul_le_mul hg0.2 hn
  have e2:IntKind.i64.wrap (Int.ofNat (gn l u) * Int.ofNat d) = Int.ofNat (gn l u * d) :=mulN (by omega)
  have e3:IntKind.i64.wrap (Int.ofNat (gn l i) * Int.ofNat n) = Int.ofNat (gn l i * n) :=mulN (by omega)
  have ul:u < (zl l).length :=by rw [lz];exact hu
  have il:i < (zl l).length :=by rw [lz];exact hi2
  have n1:nth (ivs (zl l)) (u * 1) = some (nv (gn l u)) :=by rw [qa4 ul,qcw l hu]
  have n2:nth (ivs (zl l)) (i * 1) = some (nv (gn l i)) :=by rw [qa4 il,qcw l hi2]
  by_cases h1:u + 1 < l.length
  ·have c2:decide (IntKind.i64.wrap (Int.ofNat u + 1) < ((zl l).length:Int)) = true :=zT (by rw [e1,lz];show ((u + 1:Nat):Int) < _;omega)
   repeat ((first
    |refine qam c2 ?_
    |refine qal c2 ?_
    |refine qac (qah c2) ?_
    |refine qaa c2 ?_
    |refine qam (qdl c2) ?_
    |refine qal (qdl c2) ?_
    |refine qac (qah (qdl c2)) ?_
    |refine qaa (qdl c2) ?_
    |refine qam (qaf ul) ?_
    |refine qal (qaf ul) ?_
    |refine qac (qah (qaf ul)) ?_
    |refine qaa (qaf ul) ?_
    |refine qam (qaf il) ?_
    |refine qal (qaf il) ?_
    |refine qac (qah (qaf il)) ?_
    |refine qaa (qaf il) ?_
    |refine zd hS ?_);conv=>whnf)
   refine qac (nthP (n1)) ?_
   conv=>whnf
   repeat ((first
    |refine qam c2 ?_
    |refine qal c2 ?_
    |refine qac (qah c2) ?_
    |refine qaa c2 ?_
    |refine qam (qdl c2) ?_
    |refine qal (qdl c2) ?_
    |refine qac (qah (qdl c2)) ?_
    |refine qaa (qdl c2) ?_
    |refine qam (qaf ul) ?_
    |refine qal (qaf ul) ?_
    |refine qac (qah (qaf ul)) ?_
    |refine qaa (qaf ul) ?_
    |refine qam (qaf il) ?_
    |refine qal (qaf il) ?_
    |refine qac (qah (qaf il)) ?_
    |refine qaa (qaf il) ?_
    |refine zd hS ?_);conv=>whnf)
   refine qac (nthP (n2)) ?_
   conv=>whnf
   repeat ((first
    |refine qam c2 ?_
    |refine qal c2 ?_
    |refine qac (qah c2) ?_
    |refine qaa c2 ?_
    |refine qam (qdl c2) ?_
    |refine qal (qdl c2) ?_
    |refine qac (qah (qdl c2)) ?_
    |refine qaa (qdl c2) ?_
    |refine qam (qaf ul) ?_
    |refine qal (qaf ul) ?_
    |refine qac (qah (qaf ul)) ?_
    |refine qaa (qaf ul) ?_
    |refine qam (qaf il) ?_
    |refine qal (qaf il) ?_
    |refine qac (qah (qaf il)) ?_
    |refine qaa (qaf il) ?_
    |refine zd hS ?_);conv=>whnf)
   by_cases h2:gn l u * d < gn l i * n
   ·have c3:decide (IntKind.i64.wrap (Int.ofNat (gn l u) * Int.ofNat d) < IntKind.i64.wrap (Int.ofNat (gn l i) * Int.ofNat n)) = true :=zT (by rw [e2,e3];show ((gn l u * d:Nat):Int) < ((gn l i * n:Nat):Int);omega)
    repeat ((first
     |refine qam c2 ?_
     |refine qal c2 ?_
     |refine qac (qah c2) ?_
     |refine qaa c2 ?_
     |refine qam c3 ?_
     |refine qal c3 ?_
     |refine qac (qah c3) ?_
     |refine qaa c3 ?_
     |refine zd hS ?_);conv=>whnf)
    have hu2:∀ j,i ≤ j → j < l.length → u + 1 ≤ mnI l n d j :=fun j h3 h4 => Nat.le_trans (by
     have h5:u < cntB d (gn l i * n) l :=by
      apply Classical.byContradiction
      intro h6
      exact qm7 hs (by omega) hu h2
     show u + 1 ≤ min _ _
     omega) (qc9 hs n d h3 h4)
    exact ⟨u + 1,⟨h1,hu2⟩,by omega,Nat.le_refl _,(by refine ⟨rfl,rfl,rfl,rfl,rfl,rfl,1,rfl,?_,?_⟩ <;> repeat' (first | exact ⟨_,rfl,WkV.int e1⟩ | exact zZ | apply And.intro))⟩
   ·have c3:decide (IntKind.i64.wrap (Int.ofNat (gn l u) * Int.ofNat d) < IntKind.i64.wrap (Int.ofNat (gn l i) * Int.ofNat n)) = false :=zF (by rw [e2,e3];show ¬ ((gn l u * d:Nat):Int) < ((gn l i * n:Nat):Int);omega)
    repeat ((first
     |refine qam c2 ?_
     |refine qal c2 ?_
     |refine qac (qah c2) ?_
     |refine qaa c2 ?_
     |refine qaz c3 ?_
     |refine qa0 c3 ?_
     |refine qac (qar c3) ?_
     |refine qad c3 ?_
     |refine zd hS ?_);conv=>whnf)
    have hx:u = mnI l n d i :=by
     have h3 :=hm i (Nat.le_refl _) hi2
     have h4:¬ u < cntB d (gn l i * n) l :=fun h5 => h2 (qj7 _ _ _ _ h5)
     unfold mnI at h3 ⊢
     omega
    refine .inl ?_
    conv=>whnf
    have hnx :=qkq l n d hi2
    rw [← hx] at hnx
    rw [show rR l n d i = [] by rw [e0];rfl] at hnx
    have eK:maxI 0 (IntKind.i64.wrap (Int.ofNat u - 1)) = Int.ofNat (u - 1) :=maxU (by omega)
    have hu1l:u - 1 < l.length :=by omega
    have ul1:u - 1 < (zl l).length :=by rw [lz];exact hu1l
    have n3:nth (ivs (zl l)) ((u - 1) * 1) = some (nv (gn l (u - 1))) :=by rw [qa4 ul1,qcw l hu1l]
    have k1:IntKind.i64.wrap (Int.ofNat (u - 1) + 1) = Int.ofNat (u - 1 + 1) :=qa2 (m :=u - 1 + 1) (by omega)
    refine qa1 8 rfl (congrArg (AV.int .i64) eK) ?_
    refine qae hE hS ?_
    conv=>whnf
    refine qaa (zT (show Int.ofNat (u - 1) ≤ Int.ofNat u by show ((u - 1:Nat):Int) ≤ (u:Int);omega)) ?_
    conv=>whnf
    repeat ((first
     |refine qam (qaf ul1) ?_
     |refine qal (qaf ul1) ?_
     |refine qac (qah (qaf ul1)) ?_
     |refine qaa (qaf ul1) ?_
     |refine qam (qaf il) ?_
     |refine qal (qaf il) ?_
     |refine qac (qah (qaf il)) ?_
     |refine qaa (qaf il) ?_
     |refine zd hS ?_);conv=>whnf)
    refine qac (nthP (n3)) ?_
    conv=>whnf
    repeat ((first
     |refine qam (qaf ul1) ?_
     |refine qal (qaf ul1) ?_
     |refine qac (qah (qaf ul1)) ?_
     |refine qaa (qaf ul1) ?_
     |refine qam (qaf il) ?_
     |refine qal (qaf il) ?_
     |refine qac (qah (qaf il)) ?_
     |refine qaa (qaf il) ?_
     |refine zd hS ?_);conv=>whnf)
    refine qac (nthP (n2)) ?_
    conv=>whnf
    repeat ((first
     |refine qam (qaf ul1) ?_
     |refine qal (qaf ul1) ?_
     |refine qac (qah (qaf ul1)) ?_
     |refine qaa (qaf ul1) ?_
     |refine qam (qaf il) ?_
     |refine qal (qaf il) ?_
     |refine qac (qah (qaf il)) ?_
     |refine qaa (qaf il) ?_
     |refine zd hS ?_);conv=>whnf)
    skip
    by_cases hu0:u = 0
    ·have hu1:u - 1 = u :=by omega
     rw [if_neg (by omega),List.nil_append] at hnx
     refine qa1 8 rfl (congrArg (AV.int .i64) (k1.trans (by rw [show u - 1 + 1 = 1 by omega]):IntKind.i64.wrap (Int.ofNat (u - 1) + 1) = Int.ofNat 1)) ?_
     refine qae hE hS ?_
     conv=>whnf
     refine qad (zF (show ¬ Int.ofNat 1 ≤ Int.ofNat u by show ¬ ((1:Nat):Int) ≤ (u:Int);omega)) ?_
     conv=>whnf
     exact ⟨(i + 1,u,.lst [nv (gn l (u - 1)),nv (gn l i)] 1 (.ch 1),[.chain 1 2 24]),[34],⟨hi2,hu,fun j h3 h4 => hx ▸ qc9 hs n d (by omega) h4,.inr ⟨Nat.succ_pos _,by rw [hnx,hu1];rfl,by rw [hnx];rfl⟩⟩,by show l.length - (i + 1) < l.length - i;omega,(by refine ⟨rfl,rfl,rfl,rfl,rfl,rfl,by decide,?_,?_,?_,by kernel_rfl,?_,?_⟩ <;> repeat' (first | exact bz lL | exact ⟨_,rfl,RnV.wk (WkV.refl _) (bz lL)⟩ | exact ⟨_,rfl,RnV.wk (WkV.int (hi1 hi2)) (Nat.zero_le _)⟩ | exact ⟨_,rfl,rnC (j :=0) (by decide) rfl rfl ⟨trivial,trivial,trivial⟩⟩ | exact zZ | apply And.intro))⟩
    ·rw [if_pos (by omega)] at hnx
     refine qa1 8 rfl (congrArg (AV.int .i64) (k1.trans (by rw [show u - 1 + 1 = u by omega]):IntKind.i64.wrap (Int.ofNat (u - 1) + 1) = Int.ofNat u)) ?_
     skip
     refine qae hE hS ?_
     conv=>whnf
     refine qaa (zT (show Int.ofNat u ≤ Int.ofNat u from Int.le_refl _)) ?_
     conv=>whnf
     repeat ((first
      |refine qam (qaf ul) ?_
      |refine qal (qaf ul) ?_
      |refine qac (qah (qaf ul)) ?_
      |refine qaa (qaf ul) ?_
      |refine qam (qaf il) ?_
      |refine qal (qaf il) ?_
      |refine qac (qah (qaf il)) ?_
      |refine qaa (qaf il) ?_
      |refine zd hS ?_);conv=>whnf)
     refine qac (nthP (n1)) ?_
     conv=>whnf
     repeat ((first
      |refine qam (qaf ul) ?_
      |refine qal (qaf ul) ?_
      |refine qac (qah (qaf ul)) ?_
      |refine qaa (qaf ul) ?_
      |refine qam (qaf il) ?_
      |refine qal (qaf il) ?_
      |refine qac (qah (qaf il)) ?_
      |refine qaa (qaf il) ?_
      |refine zd hS ?_);conv=>whnf)
     refine qac (nthP (n2)) ?_
     conv=>whnf
     repeat ((first
      |refine qam (qaf ul) ?_
      |refine qal (qaf ul) ?_
      |refine qac (qah (qaf ul)) ?_
      |refine qaa (qaf ul) ?_
      |refine qam (qaf il) ?_
      |refine qal (qaf il) ?_
      |refine qac (qah (qaf il)) ?_
      |refine qaa (qaf il) ?_
      |refine zd hS ?_);conv=>whnf)
     skip
     have k2:IntKind.i64.wrap (Int.ofNat u + 1) = Int.ofNat (u + 1) :=qa2 (m :=u + 1) (by omega)
     refine qa1 8 rfl (congrArg (AV.int .i64) k2) ?_
     refine qae hE hS ?_
     conv=>whnf
     refine qad (zF (show ¬ Int.ofNat (u + 1) ≤ Int.ofNat u by show ¬ ((u + 1:Nat):Int) ≤ (u:Int);omega)) ?_
     conv=>whnf
     exact ⟨(i + 1,u,.lst [nv (gn l (u - 1)),nv (gn l i),nv (gn l u),nv (gn l i)] 2 (.ch 1),[.chain 2 2 24]),[34],⟨hi2,hu,fun j h3 h4 => hx ▸ qc9 hs n d (by omega) h4,.inr ⟨Nat.succ_pos _,by rw [hnx];rfl,by rw [hnx];rfl⟩⟩,by show l.length - (i + 1) < l.length - i;omega,(by refine ⟨rfl,rfl,rfl,rfl,rfl,rfl,by decide,?_,?_,?_,by kernel_rfl,?_,?_⟩ <;> repeat' (first | exact bz lL | exact ⟨_,rfl,RnV.wk (WkV.refl _) (bz lL)⟩ | exact ⟨_,rfl,RnV.wk (WkV.int (hi1 hi2)) (Nat.zero_le _)⟩ | exact ⟨_,rfl,rnC (j :=0) (by decide) rfl rfl ⟨trivial,trivial,trivial,trivial,trivial⟩⟩ | exact zZ | apply And.intro))⟩
  ·have c2:decide (IntKind.i64.wrap (Int.ofNat u + 1) < ((zl l).length:Int)) = false :=zF (by rw [e1,lz];show ¬ ((u + 1:Nat):Int) < _;omega)
   repeat ((first
    |refine qaz c2 ?_
    |refine qa0 c2 ?_
    |refine qac (qar c2) ?_
    |refine qad c2 ?_
    |refine qaz (qmz c2) ?_
    |refine qa0 (qmz c2) ?_
    |refine qac (qar (qmz c2)) ?_
    |refine qad (qmz c2) ?_
    |refine zd hS ?_);conv=>whnf)
   have hx:u = mnI l n d i :=by
    have h3 :=hm i (Nat.le_refl _) hi2
    unfold mnI at h3 ⊢
    omega
   refine .inl ?_
   conv=>whnf
   have hnx :=qkq l n d hi2
   rw [← hx] at hnx
   rw [show rR l n d i = [] by rw [e0];rfl] at hnx
   have eK:maxI 0 (IntKind.i64.wrap (Int.ofNat u - 1)) = Int.ofNat (u - 1) :=maxU (by omega)
   have hu1l:u - 1 < l.length :=by omega
   have ul1:u - 1 < (zl l).length :=by rw [lz];exact hu1l
   have n3:nth (ivs (zl l)) ((u - 1) * 1) = some (nv (gn l (u - 1))) :=by rw [qa4 ul1,qcw l hu1l]
   have k1:IntKind.i64.wrap (Int.ofNat (u - 1) + 1) = Int.ofNat (u - 1 + 1) :=qa2 (m :=u - 1 + 1) (by omega)
   refine qa1 8 rfl (congrArg (AV.int .i64) eK) ?_
   refine qae hE hS ?_
   conv=>whnf
   refine qaa (zT (show Int.ofNat (u - 1) ≤ Int.ofNat u by show ((u - 1:Nat):Int) ≤ (u:Int);omega)) ?_
   conv=>whnf
   repeat ((first
    |refine qam (qaf ul1) ?_
    |refine qal (qaf ul1) ?_
    |refine qac (qah (qaf ul1)) ?_
    |refine qaa (qaf ul1) ?_
    |refine qam (qaf il) ?_
    |refine qal (qaf il) ?_
    |refine qac (qah (qaf il)) ?_
    |refine qaa (qaf il) ?_
    |refine zd hS ?_);conv=>whnf)
   refine qac (nthP (n3)) ?_
   conv=>whnf
   repeat ((first
    |refine qam (qaf ul1) ?_
    |refine qal (qaf ul1) ?_
    |refine qac (qah (qaf ul1)) ?_
    |refine qaa (qaf ul1) ?_
    |refine qam (qaf il) ?_
    |refine qal (qaf il) ?_
    |refine qac (qah (qaf il)) ?_
    |refine qaa (qaf il) ?_
    |refine zd hS ?_);conv=>whnf)
   refine qac (nthP (n2)) ?_
   conv=>whnf
   repeat ((first
    |refine qam (qaf ul1) ?_
    |refine qal (qaf ul1) ?_
    |refine qac (qah (qaf ul1)) ?_
    |refine qaa (qaf ul1) ?_
    |refine qam (qaf il) ?_
    |refine qal (qaf il) ?_
    |refine qac (qah (qaf il)) ?_
    |refine qaa (qaf il) ?_
    |refine zd hS ?_);conv=>whnf)
   skip
   by_cases hu0:u = 0
   ·have hu1:u - 1 = u :=by omega
    rw [if_neg (by omega),List.nil_append] at hnx
    refine qa1 8 rfl (congrArg (AV.int .i64) (k1.trans (by rw [show u - 1 + 1 = 1 by omega]):IntKind.i64.wrap (Int.ofNat (u - 1) + 1) = Int.ofNat 1)) ?_
    refine qae hE hS ?_
    conv=>whnf
    refine qad (zF (show ¬ Int.ofNat 1 ≤ Int.ofNat u by show ¬ ((1:Nat):Int) ≤ (u:Int);omega)) ?_
    conv=>whnf
    exact ⟨(i + 1,u,.lst [nv (gn l (u - 1)),nv (gn l i)] 1 (.ch 1),[.chain 1 2 24]),[34],⟨hi2,hu,fun j h3 h4 => hx ▸ qc9 hs n d (by omega) h4,.inr ⟨Nat.succ_pos _,by rw [hnx,hu1];rfl,by rw [hnx];rfl⟩⟩,by show l.length - (i + 1) < l.length - i;omega,(by refine ⟨rfl,rfl,rfl,rfl,rfl,rfl,by decide,?_,?_,?_,by kernel_rfl,?_,?_⟩ <;> repeat' (first | exact bz lL | exact ⟨_,rfl,RnV.wk (WkV.refl _) (bz lL)⟩ | exact ⟨_,rfl,RnV.wk (WkV.int (hi1 hi2)) (Nat.zero_le _)⟩ | exact ⟨_,rfl,rnC (j :=0) (by decide) rfl rfl ⟨trivial,trivial,trivial⟩⟩ | exact zZ | apply And.intro))⟩
   ·rw [if_pos (by omega)] at hnx
    refine qa1 8 rfl (congrArg (AV.int .i64) (k1.trans (by rw [show u - 1 + 1 = u by omega]):IntKind.i64.wrap (Int.ofNat (u - 1) + 1) = Int.ofNat u)) ?_
    skip
    refine qae hE hS ?_
    conv=>whnf
    refine qaa (zT (show Int.ofNat u ≤ Int.ofNat u from Int.le_refl _)) ?_
    conv=>whnf
    repeat ((first
     |refine qam (qaf ul) ?_
     |refine qal (qaf ul) ?_
     |refine qac (qah (qaf ul)) ?_
     |refine qaa (qaf ul) ?_
     |refine qam (qaf il) ?_
     |refine qal (qaf il) ?_
     |refine qac (qah (qaf il)) ?_
     |refine qaa (qaf il) ?_
     |refine zd hS ?_);conv=>whnf)
    refine qac (nthP (n1)) ?_
    conv=>whnf
    repeat ((first
     |refine qam (qaf ul) ?_
     |refine qal (qaf ul) ?_
     |refine qac (qah (qaf ul)) ?_
     |refine qaa (qaf ul) ?_
     |refine qam (qaf il) ?_
     |refine qal (qaf il) ?_
     |refine qac (qah (qaf il)) ?_
     |refine qaa (qaf il) ?_
     |refine zd hS ?_);conv=>whnf)
    refine qac (nthP (n2)) ?_
    conv=>whnf
    repeat ((first
     |refine qam (qaf ul) ?_
     |refine qal (qaf ul) ?_
     |refine qac (qah (qaf ul)) ?_
     |refine qaa (qaf ul) ?_
     |refine qam (qaf il) ?_
     |refine qal (qaf il) ?_
     |refine qac (qah (qaf il)) ?_
     |refine qaa (qaf il) ?_
     |refine zd hS ?_);conv=>whnf)
    skip
    have k2:IntKind.i64.wrap (Int.ofNat u + 1) = Int.ofNat (u + 1) :=qa2 (m :=u + 1) (by omega)
    refine qa1 8 rfl (congrArg (AV.int .i64) k2) ?_
    refine qae hE hS ?_
    conv=>whnf
    refine qad (zF (show ¬ Int.ofNat (u + 1) ≤ Int.ofNat u by show ¬ ((u + 1:Nat):Int) ≤ (u:Int);omega)) ?_
    conv=>whnf
    exact ⟨(i + 1,u,.lst [nv (gn l (u - 1)),nv (gn l i),nv (gn l u),nv (gn l i)] 2 (.ch 1),[.chain 2 2 24]),[34],⟨hi2,hu,fun j h3 h4 => hx ▸ qc9 hs n d (by omega) h4,.inr ⟨Nat.succ_pos _,by rw [hnx];rfl,by rw [hnx];rfl⟩⟩,by show l.length - (i + 1) < l.length - i;omega,(by refine ⟨rfl,rfl,rfl,rfl,rfl,rfl,by decide,?_,?_,?_,by kernel_rfl,?_,?_⟩ <;> repeat' (first | exact bz lL | exact ⟨_,rfl,RnV.wk (WkV.refl _) (bz lL)⟩ | exact ⟨_,rfl,RnV.wk (WkV.int (hi1 hi2)) (Nat.zero_le _)⟩ | exact ⟨_,rfl,rnC (j :=0) (by decide) rfl rfl ⟨trivial,trivial,trivial,trivial,trivial⟩⟩ | exact zZ | apply And.intro))⟩
 ·obtain rfl:N = 2 :=hN
  have hRl :=qx0 l n d i
  conv=>whnf
  by_cases hi2:i < l.length
  ·have c1:decide (Int.ofNat i < ((zl l).length:Int)) = true :=zT (by rw [lz];show (i:Int) < _;omega)
   repeat ((first
    |refine qam c1 ?_
    |refine qal c1 ?_
    |refine qac (qah c1) ?_
    |refine qaa c1 ?_
    |refine zd hS ?_);conv=>whnf)
   refine qbe hE hS (A :=Nat) [0,3,5,7] (fun t => [(6,nv t)]) (fun _ => []) (fun _ => []) (fun t => t < l.length ∧ ∀ j,i ≤ j → j < l.length → t ≤ mnI l n d j) (fun t => l.length - t) t (Nat.le_of_ble_eq_true rfl) rfl (by refine ⟨rfl,rfl,rfl,rfl,rfl,rfl,2,rfl,?_,?_⟩ <;> repeat' (first | exact Nat.max_le.2 ⟨Nat.le_of_ble_eq_true rfl,qaj (qag _)⟩ | exact zZ | apply And.intro)) ⟨ht,hm⟩ ?_
   clear hm
   intro u ⟨hu,hm⟩ M hM
   obtain rfl:M = 2 :=hM
   conv=>whnf
   have e1:IntKind.i64.wrap (Int.ofNat u + 1) = Int.ofNat (u + 1) :=qa2 (m :=u + 1) (by omega)
   have ht0 :=hal _ (qbd l hu)
   have hg0 :=hal _ (qbd l hi2)
   have m1:gn l u * d ≤ 216000 * 50000 :=Nat.mul_le_mul ht0.2 hd.2
   have m2:gn l i * n ≤ 216000 * 50000 :=Nat.mul_le_mul hg0.2 hn
   have e2:IntKind.i64.wrap (Int.ofNat (gn l u) * Int.ofNat d) = Int.ofNat (gn l u * d) :=mulN (by omega)
   have e3:IntKind.i64.wrap (Int.ofNat (gn l i) * Int.ofNat n) = Int.ofNat (gn l i * n) :=mulN (by omega)
   have ul:u < (zl l).length :=by rw [lz];exact hu
   have il:i < (zl l).length :=by rw [lz];exact hi2
   have n1:nth (ivs (zl l)) (u * 1) = some (nv (gn l u)) :=by rw [qa4 ul,qcw l hu]
   have n2:nth (ivs (zl l)) (i * 1) = some (nv (gn l i)) :=by rw [qa4 il,qcw l hi2]
   by_cases h1:u + 1 < l.length
   ·have c2:decide (IntKind.i64.wrap (Int.ofNat u + 1) < ((zl l).length:Int)) = true :=zT (by rw [e1,lz];show ((u + 1:Nat):Int) < _;omega)
    repeat ((first
     |refine qam c2 ?_
     |refine qal c2 ?_
     |refine qac (qah c2) ?_
     |refine qaa c2 ?_
     |refine qam (qdl c2) ?_
     |refine qal (qdl c2) ?_
     |refine qac (qah (qdl c2)) ?_
     |refine qaa (qdl c2) ?_
     |refine qam (qaf ul) ?_
     |refine qal (qaf ul) ?_
     |refine qac (qah (qaf ul)) ?_
     |refine qaa (qaf ul) ?_
     |refine qam (qaf il) ?_
     |refine qal (qaf il) ?_
     |refine qac (qah (qaf il)) ?_
     |refine qaa (qaf il) ?_
     |refine zd hS ?_);conv=>whnf)
    refine qac (nthP (n1)) ?_
    conv=>whnf
    repeat ((first
     |refine qam c2 ?_
     |refine qal c2 ?_
     |refine qac (qah c2) ?_
     |refine qaa c2 ?_
     |refine qam (qdl c2) ?_
     |refine qal (qdl c2) ?_
     |refine qac (qah (qdl c2)) ?_
     |refine qaa (qdl c2) ?_
     |refine qam (qaf ul) ?_
     |refine qal (qaf ul) ?_
     |refine qac (qah (qaf ul)) ?_
     |refine qaa (qaf ul) ?_
     |refine qam (qaf il) ?_
     |refine qal (qaf il) ?_
     |refine qac (qah (qaf il)) ?_
     |refine qaa (qaf il) ?_
     |refine zd hS ?_);conv=>whnf)
    refine qac (nthP (n2)) ?_
    conv=>whnf
    repeat ((first
     |refine qam c2 ?_
     |refine qal c2 ?_
     |refine qac (qah c2) ?_
     |refine qaa c2 ?_
     |refine qam (qdl c2) ?_
     |refine qal (qdl c2) ?_
     |refine qac (qah (qdl c2)) ?_
     |refine qaa (qdl c2) ?_
     |refine qam (qaf ul) ?_
     |refine qal (qaf ul) ?_
     |refine qac (qah (qaf ul)) ?_
     |refine qaa (qaf ul) ?_
     |refine qam (qaf il) ?_
     |refine qal (qaf il) ?_
     |refine qac (qah (qaf il)) ?_
     |refine qaa (qaf il) ?_
     |refine zd hS ?_);conv=>whnf)
    by_cases h2:gn l u * d < gn l i * n
    ·have c3:decide (IntKind.i64.wrap (Int.ofNat (gn l u) * Int.ofNat d) < IntKind.i64.wrap (Int.ofNat (gn l i) * Int.ofNat n)) = true :=zT (by rw [e2,e3];show ((gn l u * d:Nat):Int) < ((gn l i * n:Nat):Int);omega)
     repeat ((first
      |refine qam c2 ?_
      |refine qal c2 ?_
      |refine qac (qah c2) ?_
      |refine qaa c2 ?_
      |refine qam c3 ?_
      |refine qal c3 ?_
      |refine qac (qah c3) ?_
      |refine qaa c3 ?_
      |refine zd hS ?_);conv=>whnf)
     have hu2:∀ j,i ≤ j → j < l.length → u + 1 ≤ mnI l n d j :=fun j h3 h4 => Nat.le_trans (by
      have h5:u < cntB d (gn l i * n) l :=by
       apply Classical.byContradiction
       intro h6
       exact qm7 hs (by omega) hu h2
      show u + 1 ≤ min _ _
      omega) (qc9 hs n d h3 h4)
     exact ⟨u + 1,⟨h1,hu2⟩,by omega,Nat.le_refl _,(by refine ⟨rfl,rfl,rfl,rfl,rfl,rfl,2,rfl,?_,?_⟩ <;> repeat' (first | exact ⟨_,rfl,WkV.int e1⟩ | exact Nat.max_le.2 ⟨Nat.le_of_ble_eq_true rfl,qaj (qag _)⟩ | exact zZ | apply And.intro))⟩
    ·have c3:decide (IntKind.i64.wrap (Int.ofNat (gn l u) * Int.ofNat d) < IntKind.i64.wrap (Int.ofNat (gn l i) * Int.ofNat n)) = false :=zF (by rw [e2,e3];show ¬ ((gn l u * d:Nat):Int) < ((gn l i * n:Nat):Int);omega)
     repeat ((first
      |refine qam c2 ?_
      |refine qal c2 ?_
      |refine qac (qah c2) ?_
      |refine qaa c2 ?_
      |refine qaz c3 ?_
      |refine qa0 c3 ?_
      |refine qac (qar c3) ?_
      |refine qad c3 ?_
      |refine zd hS ?_);conv=>whnf)
     have hx:u = mnI l n d i :=by
      have h3 :=hm i (Nat.le_refl _) hi2
      have h4:¬ u < cntB d (gn l i * n) l :=fun h5 => h2 (qj7 _ _ _ _ h5)
      unfold mnI at h3 ⊢
      omega
     refine .inl ?_
     conv=>whnf
     have hnx :=qkq l n d hi2
     rw [← hx] at hnx
     have eK:maxI 0 (IntKind.i64.wrap (Int.ofNat u - 1)) = Int.ofNat (u - 1) :=maxU (by omega)
     have hu1l:u - 1 < l.length :=by omega
     have ul1:u - 1 < (zl l).length :=by rw [lz];exact hu1l
     have n3:nth (ivs (zl l)) ((u - 1) * 1) = some (nv (gn l (u - 1))) :=by rw [qa4 ul1,qcw l hu1l]
     have k1:IntKind.i64.wrap (Int.ofNat (u - 1) + 1) = Int.ofNat (u - 1 + 1) :=qa2 (m :=u - 1 + 1) (by omega)
     refine qa1 8 rfl (congrArg (AV.int .i64) eK) ?_
     refine qae hE hS ?_
     conv=>whnf
     refine qaa (zT (show Int.ofNat (u - 1) ≤ Int.ofNat u by show ((u - 1:Nat):Int) ≤ (u:Int);omega)) ?_
     conv=>whnf
     repeat ((first
      |refine qam (qaf ul1) ?_
      |refine qal (qaf ul1) ?_
      |refine qac (qah (qaf ul1)) ?_
      |refine qaa (qaf ul1) ?_
      |refine qam (qaf il) ?_
      |refine qal (qaf il) ?_
      |refine qac (qah (qaf il)) ?_
      |refine qaa (qaf il) ?_
      |refine zd hS ?_);conv=>whnf)
     refine qac (nthP (n3)) ?_
     conv=>whnf
     repeat ((first
      |refine qam (qaf ul1) ?_
      |refine qal (qaf ul1) ?_
      |refine qac (qah (qaf ul1)) ?_
      |refine qaa (qaf ul1) ?_
      |refine qam (qaf il) ?_
      |refine qal (qaf il) ?_
      |refine qac (qah (qaf il)) ?_
      |refine qaa (qaf il) ?_
      |refine zd hS ?_);conv=>whnf)
     refine qac (nthP (n2)) ?_
     conv=>whnf
     repeat ((first
      |refine qam (qaf ul1) ?_
      |refine qal (qaf ul1) ?_
      |refine qac (qah (qaf ul1)) ?_
      |refine qaa (qaf ul1) ?_
      |refine qam (qaf il) ?_
      |refine qal (qaf il) ?_
      |refine qac (qah (qaf il)) ?_
      |refine qaa (qaf il) ?_
      |refine zd hS ?_);conv=>whnf)
     refine qaa (zT (show ((zp (rR l n d i)).length + (0 + 1)) * 16 ≤ 140737488355328 by rw [qa9];omega)) ?_
     conv=>whnf
     refine qaa (zT (show (zp (rR l n d i)).length + (0 + 1) ≤ 9223372036854775807 by rw [qa9];omega)) ?_
     conv=>whnf
     refine qaa (qcz (rR l n d i)) ?_
     conv=>whnf
     refine qaa (zT (rfl)) ?_
     conv=>whnf
     refine zd hS ?_
     conv=>whnf
     by_cases hu0:u = 0
     ·have hu1:u - 1 = u :=by omega
      rw [if_neg (by omega),List.nil_append] at hnx
      refine qa1 8 rfl (congrArg (AV.int .i64) (k1.trans (by rw [show u - 1 + 1 = 1 by omega]):IntKind.i64.wrap (Int.ofNat (u - 1) + 1) = Int.ofNat 1)) ?_
      refine qae hE hS ?_
      conv=>whnf
      refine qad (zF (show ¬ Int.ofNat 1 ≤ Int.ofNat u by show ¬ ((1:Nat):Int) ≤ (u:Int);omega)) ?_
      conv=>whnf
      exact ⟨(i + 1,u,.lst (flat (zp (rR l n d i ++ [(gn l (u - 1),gn l i)]))) (zp (rR l n d i ++ [(gn l (u - 1),gn l i)])).length (.ch 1),[.chain (zp (rR l n d i ++ [(gn l (u - 1),gn l i)])).length 2 24]),[1],⟨hi2,hu,fun j h3 h4 => hx ▸ qc9 hs n d (by omega) h4,.inr ⟨Nat.succ_pos _,by rw [hnx,hu1],by rw [hnx,hu1]⟩⟩,by show l.length - (i + 1) < l.length - i;omega,(by refine ⟨rfl,rfl,rfl,rfl,rfl,rfl,by decide,?_,?_,?_,by kernel_rfl,?_,?_⟩ <;> repeat' (first | exact bz lL | exact ⟨_,rfl,RnV.wk (WkV.refl _) (bz lL)⟩ | exact ⟨_,rfl,RnV.wk (WkV.int (hi1 hi2)) (Nat.zero_le _)⟩ | exact ⟨_,rfl,rnB (l :=rR l n d i) (q :=(gn l (u - 1),gn l i)) (j :=0) (by decide) rfl rfl⟩ | exact chB (rR l n d i) (gn l (u - 1),gn l i) | exact OWk.eq (chB (rR l n d i) (gn l (u - 1),gn l i)) | exact zZ | apply And.intro))⟩
     ·rw [if_pos (by omega)] at hnx
      refine qa1 8 rfl (congrArg (AV.int .i64) (k1.trans (by rw [show u - 1 + 1 = u by omega]):IntKind.i64.wrap (Int.ofNat (u - 1) + 1) = Int.ofNat u)) ?_
      refine qa1 5 rfl (pvA _ (gn l (u - 1),gn l i) _) ?_
      refine qae hE hS ?_
      conv=>whnf
      refine qaa (zT (show Int.ofNat u ≤ Int.ofNat u from Int.le_refl _)) ?_
      conv=>whnf
      repeat ((first
       |refine qam (qaf ul) ?_
       |refine qal (qaf ul) ?_
       |refine qac (qah (qaf ul)) ?_
       |refine qaa (qaf ul) ?_
       |refine qam (qaf il) ?_
       |refine qal (qaf il) ?_
       |refine qac (qah (qaf il)) ?_
       |refine qaa (qaf il) ?_
       |refine zd hS ?_);conv=>whnf)
      refine qac (nthP (n1)) ?_
      conv=>whnf
      repeat ((first
       |refine qam (qaf ul) ?_
       |refine qal (qaf ul) ?_
       |refine qac (qah (qaf ul)) ?_
       |refine qaa (qaf ul) ?_
       |refine qam (qaf il) ?_
       |refine qal (qaf il) ?_
       |refine qac (qah (qaf il)) ?_
       |refine qaa (qaf il) ?_
       |refine zd hS ?_);conv=>whnf)
      refine qac (nthP (n2)) ?_
      conv=>whnf
      repeat ((first
       |refine qam (qaf ul) ?_
       |refine qal (qaf ul) ?_
       |refine qac (qah (qaf ul)) ?_
       |refine qaa (qaf ul) ?_
       |refine qam (qaf il) ?_
       |refine qal (qaf il) ?_
       |refine qac (qah (qaf il)) ?_
       |refine qaa (qaf il) ?_
       |refine zd hS ?_);conv=>whnf)
      refine qaa (zT (show ((zp (rR l n d i ++ [(gn l (u - 1),gn l i)])).length + (0 + 1)) * 16 ≤ 140737488355328 by rw [qa9,List.length_append,List.length_cons,List.length_nil];omega)) ?_
      conv=>whnf
      refine qaa (zT (show (zp (rR l n d i ++ [(gn l (u - 1),gn l i)])).length + (0 + 1) ≤ 9223372036854775807 by rw [qa9,List.length_append,List.length_cons,List.length_nil];omega)) ?_
      conv=>whnf
      refine qaa (qcz (rR l n d i ++ [(gn l (u - 1),gn l i)])) ?_
      conv=>whnf
      refine qaa (zT (by simp only [qa9,List.length_append,List.length_cons,List.length_nil])) ?_
      conv=>whnf
      refine zd hS ?_
      conv=>whnf
      have k2:IntKind.i64.wrap (Int.ofNat u + 1) = Int.ofNat (u + 1) :=qa2 (m :=u + 1) (by omega)
      refine qa1 8 rfl (congrArg (AV.int .i64) k2) ?_
      refine qae hE hS ?_
      conv=>whnf
      refine qad (zF (show ¬ Int.ofNat (u + 1) ≤ Int.ofNat u by show ¬ ((u + 1:Nat):Int) ≤ (u:Int);omega)) ?_
      conv=>whnf
      exact ⟨(i + 1,u,.lst (flat (zp (rR l n d i ++ [(gn l (u - 1),gn l i)] ++ [(gn l u,gn l i)]))) (zp (rR l n d i ++ [(gn l (u - 1),gn l i)] ++ [(gn l u,gn l i)])).length (.ch 1),[.chain (zp (rR l n d i ++ [(gn l (u - 1),gn l i)] ++ [(gn l u,gn l i)])).length 2 24]),[1],⟨hi2,hu,fun j h3 h4 => hx ▸ qc9 hs n d (by omega) h4,.inr ⟨Nat.succ_pos _,by rw [hnx,List.append_assoc],by rw [hnx,List.append_assoc]⟩⟩,by show l.length - (i + 1) < l.length - i;omega,(by refine ⟨rfl,rfl,rfl,rfl,rfl,rfl,by decide,?_,?_,?_,by kernel_rfl,?_,?_⟩ <;> repeat' (first | exact bz lL | exact ⟨_,rfl,RnV.wk (WkV.refl _) (bz lL)⟩ | exact ⟨_,rfl,RnV.wk (WkV.int (hi1 hi2)) (Nat.zero_le _)⟩ | exact ⟨_,rfl,rnB (l :=rR l n d i ++ [(gn l (u - 1),gn l i)]) (q :=(gn l u,gn l i)) (j :=0) (by decide) rfl rfl⟩ | exact chB (rR l n d i ++ [(gn l (u - 1),gn l i)]) (gn l u,gn l i) | exact OWk.eq (chB (rR l n d i ++ [(gn l (u - 1),gn l i)]) (gn l u,gn l i)) | exact zZ | apply And.intro))⟩
   ·have c2:decide (IntKind.i64.wrap (Int.ofNat u + 1) < ((zl l).length:Int)) = false :=zF (by rw [e1,lz];show ¬ ((u + 1:Nat):Int) < _;omega)
    repeat ((first
     |refine qaz c2 ?_
     |refine qa0 c2 ?_
     |refine qac (qar c2) ?_
     |refine qad c2 ?_
     |refine qaz (qmz c2) ?_
     |refine qa0 (qmz c2) ?_
     |refine qac (qar (qmz c2)) ?_
     |refine qad (qmz c2) ?_
     |refine zd hS ?_);conv=>whnf)
    have hx:u = mnI l n d i :=by
     have h3 :=hm i (Nat.le_refl _) hi2
     unfold mnI at h3 ⊢
     omega
    refine .inl ?_
    conv=>whnf
    have hnx :=qkq l n d hi2
    rw [← hx] at hnx
    have eK:maxI 0 (IntKind.i64.wrap (Int.ofNat u - 1)) = Int.ofNat (u - 1) :=maxU (by omega)
    have hu1l:u - 1 < l.length :=by omega
    have ul1:u - 1 < (zl l).length :=by rw [lz];exact hu1l
    have n3:nth (ivs (zl l)) ((u - 1) * 1) = some (nv (gn l (u - 1))) :=by rw [qa4 ul1,qcw l hu1l]
    have k1:IntKind.i64.wrap (Int.ofNat (u - 1) + 1) = Int.ofNat (u - 1 + 1) :=qa2 (m :=u - 1 + 1) (by omega)
    refine qa1 8 rfl (congrArg (AV.int .i64) eK) ?_
    refine qae hE hS ?_
    conv=>whnf
    refine qaa (zT (show Int.ofNat (u - 1) ≤ Int.ofNat u by show ((u - 1:Nat):Int) ≤ (u:Int);omega)) ?_
    conv=>whnf
    repeat ((first
     |refine qam (qaf ul1) ?_
     |refine qal (qaf ul1) ?_
     |refine qac (qah (qaf ul1)) ?_
     |refine qaa (qaf ul1) ?_
     |refine qam (qaf il) ?_
     |refine qal (qaf il) ?_
     |refine qac (qah (qaf il)) ?_
     |refine qaa (qaf il) ?_
     |refine zd hS ?_);conv=>whnf)
    refine qac (nthP (n3)) ?_
    conv=>whnf
    repeat ((first
     |refine qam (qaf ul1) ?_
     |refine qal (qaf ul1) ?_
     |refine qac (qah (qaf ul1)) ?_
     |refine qaa (qaf ul1) ?_
     |refine qam (qaf il) ?_
     |refine qal (qaf il) ?_
     |refine qac (qah (qaf il)) ?_
     |refine qaa (qaf il) ?_
     |refine zd hS ?_);conv=>whnf)
    refine qac (nthP (n2)) ?_
    conv=>whnf
    repeat ((first
     |refine qam (qaf ul1) ?_
     |refine qal (qaf ul1) ?_
     |refine qac (qah (qaf ul1)) ?_
     |refine qaa (qaf ul1) ?_
     |refine qam (qaf il) ?_
     |refine qal (qaf il) ?_
     |refine qac (qah (qaf il)) ?_
     |refine qaa (qaf il) ?_
     |refine zd hS ?_);conv=>whnf)
    refine qaa (zT (show ((zp (rR l n d i)).length + (0 + 1)) * 16 ≤ 140737488355328 by rw [qa9];omega)) ?_
    conv=>whnf
    refine qaa (zT (show (zp (rR l n d i)).length + (0 + 1) ≤ 9223372036854775807 by rw [qa9];omega)) ?_
    conv=>whnf
    refine qaa (qcz (rR l n d i)) ?_
    conv=>whnf
    refine qaa (zT (rfl)) ?_
    conv=>whnf
    refine zd hS ?_
    conv=>whnf
    by_cases hu0:u = 0
    ·have hu1:u - 1 = u :=by omega
     rw [if_neg (by omega),List.nil_append] at hnx
     refine qa1 8 rfl (congrArg (AV.int .i64) (k1.trans (by rw [show u - 1 + 1 = 1 by omega]):IntKind.i64.wrap (Int.ofNat (u - 1) + 1) = Int.ofNat 1)) ?_
     refine qae hE hS ?_
     conv=>whnf
     refine qad (zF (show ¬ Int.ofNat 1 ≤ Int.ofNat u by show ¬ ((1:Nat):Int) ≤ (u:Int);omega)) ?_
     conv=>whnf
     exact ⟨(i + 1,u,.lst (flat (zp (rR l n d i ++ [(gn l (u - 1),gn l i)]))) (zp (rR l n d i ++ [(gn l (u - 1),gn l i)])).length (.ch 1),[.chain (zp (rR l n d i ++ [(gn l (u - 1),gn l i)])).length 2 24]),[1],⟨hi2,hu,fun j h3 h4 => hx ▸ qc9 hs n d (by omega) h4,.inr ⟨Nat.succ_pos _,by rw [hnx,hu1],by rw [hnx,hu1]⟩⟩,by show l.length - (i + 1) < l.length - i;omega,(by refine ⟨rfl,rfl,rfl,rfl,rfl,rfl,by decide,?_,?_,?_,by kernel_rfl,?_,?_⟩ <;> repeat' (first | exact bz lL | exact ⟨_,rfl,RnV.wk (WkV.refl _) (bz lL)⟩ | exact ⟨_,rfl,RnV.wk (WkV.int (hi1 hi2)) (Nat.zero_le _)⟩ | exact ⟨_,rfl,rnB (l :=rR l n d i) (q :=(gn l (u - 1),gn l i)) (j :=0) (by decide) rfl rfl⟩ | exact chB (rR l n d i) (gn l (u - 1),gn l i) | exact OWk.eq (chB (rR l n d i) (gn l (u - 1),gn l i)) | exact zZ | apply And.intro))⟩
    ·rw [if_pos (by omega)] at hnx
     refine qa1 8 rfl (congrArg (AV.int .i64) (k1.trans (by rw [show u - 1 + 1 = u by omega]):IntKind.i64.wrap (Int.ofNat (u - 1) + 1) = Int.ofNat u)) ?_
     refine qa1 5 rfl (pvA _ (gn l (u - 1),gn l i) _) ?_
     refine qae hE hS ?_
     conv=>whnf
     refine qaa (zT (show Int.ofNat u ≤ Int.ofNat u from Int.le_refl _)) ?_
     conv=>whnf
     repeat ((first
      |refine qam (qaf ul) ?_
      |refine qal (qaf ul) ?_
      |refine qac (qah (qaf ul)) ?_
      |refine qaa (qaf ul) ?_
      |refine qam (qaf il) ?_
      |refine qal (qaf il) ?_
      |refine qac (qah (qaf il)) ?_
      |refine qaa (qaf il) ?_
      |refine zd hS ?_);conv=>whnf)
     refine qac (nthP (n1)) ?_
     conv=>whnf
     repeat ((first
      |refine qam (qaf ul) ?_
      |refine qal (qaf ul) ?_
      |refine qac (qah (qaf ul)) ?_
      |refine qaa (qaf ul) ?_
      |refine qam (qaf il) ?_
      |refine qal (qaf il) ?_
      |refine qac (qah (qaf il)) ?_
      |refine qaa (qaf il) ?_
      |refine zd hS ?_);conv=>whnf)
     refine qac (nthP (n2)) ?_
     conv=>whnf
     repeat ((first
      |refine qam (qaf ul) ?_
      |refine qal (qaf ul) ?_
      |refine qac (qah (qaf ul)) ?_
      |refine qaa (qaf ul) ?_
      |refine qam (qaf il) ?_
      |refine qal (qaf il) ?_
      |refine qac (qah (qaf il)) ?_
      |refine qaa (qaf il) ?_
      |refine zd hS ?_);conv=>whnf)
     refine qaa (zT (show ((zp (rR l n d i ++ [(gn l (u - 1),gn l i)])).length + (0 + 1)) * 16 ≤ 140737488355328 by rw [qa9,List.length_append,List.length_cons,List.length_nil];omega)) ?_
     conv=>whnf
     refine qaa (zT (show (zp (rR l n d i ++ [(gn l (u - 1),gn l i)])).length + (0 + 1) ≤ 9223372036854775807 by rw [qa9,List.length_append,List.length_cons,List.length_nil];omega)) ?_
     conv=>whnf
     refine qaa (qcz (rR l n d i ++ [(gn l (u - 1),gn l i)])) ?_
     conv=>whnf
     refine qaa (zT (by simp only [qa9,List.length_append,List.length_cons,List.length_nil])) ?_
     conv=>whnf
     refine zd hS ?_
     conv=>whnf
     have k2:IntKind.i64.wrap (Int.ofNat u + 1) = Int.ofNat (u + 1) :=qa2 (m :=u + 1) (by omega)
     refine qa1 8 rfl (congrArg (AV.int .i64) k2) ?_
     refine qae hE hS ?_
     conv=>whnf
     refine qad (zF (show ¬ Int.ofNat (u + 1) ≤ Int.ofNat u by show ¬ ((u + 1:Nat):Int) ≤ (u:Int);omega)) ?_
     conv=>whnf
     exact ⟨(i + 1,u,.lst (flat (zp (rR l n d i ++ [(gn l (u - 1),gn l i)] ++ [(gn l u,gn l i)]))) (zp (rR l n d i ++ [(gn l (u - 1),gn l i)] ++ [(gn l u,gn l i)])).length (.ch 1),[.chain (zp (rR l n d i ++ [(gn l (u - 1),gn l i)] ++ [(gn l u,gn l i)])).length 2 24]),[1],⟨hi2,hu,fun j h3 h4 => hx ▸ qc9 hs n d (by omega) h4,.inr ⟨Nat.succ_pos _,by rw [hnx,List.append_assoc],by rw [hnx,List.append_assoc]⟩⟩,by show l.length - (i + 1) < l.length - i;omega,(by refine ⟨rfl,rfl,rfl,rfl,rfl,rfl,by decide,?_,?_,?_,by kernel_rfl,?_,?_⟩ <;> repeat' (first | exact bz lL | exact ⟨_,rfl,RnV.wk (WkV.refl _) (bz lL)⟩ | exact ⟨_,rfl,RnV.wk (WkV.int (hi1 hi2)) (Nat.zero_le _)⟩ | exact ⟨_,rfl,rnB (l :=rR l n d i ++ [(gn l (u - 1),gn l i)]) (q :=(gn l u,gn l i)) (j :=0) (by decide) rfl rfl⟩ | exact chB (rR l n d i ++ [(gn l (u - 1),gn l i)]) (gn l u,gn l i) | exact OWk.eq (chB (rR l n d i ++ [(gn l (u - 1),gn l i)]) (gn l u,gn l i)) | exact zZ | apply And.intro))⟩
  ·have c1:decide (Int.ofNat i < ((zl l).length:Int)) = false :=zF (by rw [lz];show ¬ (i:Int) < _;omega)
   repeat ((first
    |refine qaz c1 ?_
    |refine qa0 c1 ?_
    |refine qac (qar c1) ?_
    |refine qad c1 ?_
    |refine zd hS ?_);conv=>whnf)
   have e:rR l n d i = rnF l n d :=by
    unfold rR rnF
    rw [List.take_of_length_le (by omega)]
   rw [e]
   exact ⟨_,rfl,(WkV.own _ _ _).1⟩
end
end Go.Abs.Seat
