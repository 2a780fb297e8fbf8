/-
  What was found, and the best of it.
-/
import Derived.Test.YtpjclnoehlflcaaGreatDoorU9
import Derived.Test.YtpjclnoehlflcaaGreatDoorT44
namespace Go.Abs.Seat
noncomputable section
open Go Go.Abs Go.Proofs.Tryz
set_option maxRecDepth 100000
set_option maxHeartbeats 40000000
attribute [local irreducible] IntKind.wrap pEq
abbrev Fd :=Nat × (Nat × Nat) × List (Nat × Nat)
abbrev fdA (x:Fd):AV :=.agg [nv x.1,nv x.2.1.1,nv x.2.1.2,pv (zp x.2.2)]
def fdv:List Fd → List AV
 | [] => []
 |x :: r => nv x.1 :: nv x.2.1.1 :: nv x.2.1.2 :: pv (zp x.2.2) :: fdv r
theorem qqg:∀ l,Lives noL (fdv l)
 | [] => trivial
 | _ :: r => ⟨trivial,trivial,trivial,pv_no _,qqg r⟩
theorem quv:∀ (l r:List Fd),fdv (l ++ r) = fdv l ++ fdv r
 | [],_ => rfl
 | _ :: l,r => by simp only [fdv,List.cons_append,quv l r]
abbrev gf (l:List Fd) (i:Nat):Fd :=l.getD i (0,(0,0),[])
theorem q0b (l:List Fd) {i:Nat} (h:i < l.length):l.drop i = gf l i :: l.drop (i + 1) :=by
 rw [List.drop_eq_getElem_cons h]
 simp [gf,List.getD,h]
theorem qsj (l:List Fd) {i:Nat} (h:i < l.length):l.take (i + 1) = l.take i ++ [gf l i] :=by
 rw [List.take_succ_eq_append_getElem h]
 simp [gf,List.getD,h]
theorem q1g (l:List Fd) {i:Nat} (h:i < l.length):gf l i ∈ l :=by
 have e:gf l i = l[i] :=by simp [gf,List.getD,h]
 rw [e];exact List.getElem_mem h
theorem qqh:∀ (l:List Fd) (i:Nat),qew (i * 4) (fdv l) = fdv (l.drop i)
 | _,0 => rfl
 | [],i + 1 => by rw [qd6,List.drop_eq_nil_of_le (Nat.zero_le _),List.drop_eq_nil_of_le (Nat.zero_le _)];rfl
 |p :: r,i + 1 => by
  rw [show (i + 1) * 4 = i * 4 + 4 by omega,List.drop_succ_cons,← qqh r i]
  rfl
theorem qxs (l:List Fd) {i:Nat} (h:i < l.length):qdk 4 (qew (i * 4) (fdv l)) = some [nv (gf l i).1,nv (gf l i).2.1.1,nv (gf l i).2.1.2,pv (zp (gf l i).2.2)] :=by
 rw [qqh,q0b l h]
 rfl
def bstF:List Fd → Fd
 | [] => (0,(0,0),[])
 |x :: r => r.foldl (fun o y => if y.2.1.1 * o.2.1.2 < o.2.1.1 * y.2.1.2 then y else o) x
theorem qna (l:List Fd) (y:Fd):bstF (l ++ [y]) = if l = [] ∨ y.2.1.1 * (bstF l).2.1.2 < (bstF l).2.1.1 * y.2.1.2 then y else bstF l :=by
 cases l with
 |nil => rw [if_pos (.inl rfl)];rfl
 |cons x r =>
  show (r ++ [y]).foldl _ x = _
  rw [List.foldl_append]
  show (if y.2.1.1 * (bstF (x :: r)).2.1.2 < (bstF (x :: r)).2.1.1 * y.2.1.2 then y else bstF (x :: r)) = _
  by_cases h:y.2.1.1 * (bstF (x :: r)).2.1.2 < (bstF (x :: r)).2.1.1 * y.2.1.2
  ·rw [if_pos h,if_pos (.inr h)]
  ·rw [if_neg h,if_neg (by rintro (k | k);cases k;exact h k)]
theorem qxg:∀ (l:List Fd),l ≠ [] → bstF l ∈ l :=by
 intro l hl
 cases l with
 |nil => exact absurd rfl hl
 |cons x r =>
  suffices ∀ (r:List Fd) (o:Fd),r.foldl (fun o y => if y.2.1.1 * o.2.1.2 < o.2.1.1 * y.2.1.2 then y else o) o = o ∨ r.foldl (fun o y => if y.2.1.1 * o.2.1.2 < o.2.1.1 * y.2.1.2 then y else o) o ∈ r by
   rcases this r x with h | h
   ·show List.foldl _ x r ∈ _
    rw [h];exact List.mem_cons_self
   ·exact List.mem_cons_of_mem _ h
  intro r
  induction r with
  |nil => exact fun o => .inl rfl
  |cons y r ih =>
   intro o
   rw [List.foldl_cons]
   rcases ih (if y.2.1.1 * o.2.1.2 < o.2.1.1 * y.2.1.2 then y else o) with h | h
   ·rw [h]
    split
    ·exact .inr List.mem_cons_self
    ·exact .inl rfl
   ·exact .inr (List.mem_cons_of_mem _ h)
theorem qrr (x y:Fd) (h1:x.2.1.1 * y.2.1.2 < 4611686018427387904) (h2:y.2.1.1 * x.2.1.2 < 4611686018427387904):Pure prog 136 [fdA x,fdA y] (.bool (decide (x.2.1.1 * y.2.1.2 < y.2.1.1 * x.2.1.2))) :=by
 have lx :=qag (zp x.2.2)
 have ly :=qag (zp y.2.2)
 refine zA fun S q pc hS hq hC hE => ?_
 conv=>whnf
 refine qab hC (qd7 x.2.1.1 x.2.1.2 y.2.1.1 y.2.1.2 h1 h2) ?_
 conv=>whnf
 exact ⟨_,rfl,wkb qno⟩
theorem qj9:Pure prog 135 [.nils,.func (.func 136) [] []] (.tup [.agg [nv 0,nv 0,nv 0,.nils],.bool false]) :=by
 refine zA fun S q pc hS hq hC hE => ?_
 conv=>whnf
 refine qae hE hS ?_
 conv=>whnf
 exact ⟨_,rfl,Wk.refl _⟩
theorem qr5 (l:List Fd) (hne:l ≠ []) (hl:l.length < 4611686018427387904) (hb:∀ x,x ∈ l → x.2.1.1 ≤ 10800000000 ∧ x.2.1.2 ≤ 216000) :
  Pure prog 135 [.lst (fdv l) l.length .no,.func (.func 136) [] []] (.tup [fdA (bstF l),.bool true]) :=by
 have ls :=qqg l
 have lo :=qag (zp (bstF l).2.2)
 have h0:0 < l.length :=List.length_pos_iff.2 hne
 refine zA fun S q pc hS hq hC hE => ?_
 conv=>whnf
 refine qbe hE hS (A :=Nat × (Nat × Nat × Nat) × AV) [0,1,4,6,9,10] (fun (i,_,_) => [(11,nv i)]) (fun (_,x,v) => [(1,.cells (.node (nv x.1) (.node (nv x.2.1) (.node v .nil .nil) .nil) (.node (nv x.2.2) .nil .nil)) 4 172)]) (fun _ => []) (fun (i,x,v) => i ≤ l.length ∧ (i = 0 ∧ x = (0,0,0) ∧ v = .nils ∨ 1 ≤ i ∧ x = ((bstF (l.take i)).1,(bstF (l.take i)).2.1) ∧ v = pv (zp (bstF (l.take i)).2.2))) (fun (i,_) => l.length - i) (0,(0,0,0),.nils) (Nat.le_of_ble_eq_true rfl) rfl zG2 ⟨Nat.zero_le _,.inl ⟨rfl,rfl,rfl⟩⟩ ?_
 rintro ⟨i,x,v⟩ ⟨hi,hR⟩ M hM
 obtain rfl:M = 2 :=hM
 have hi1:i < l.length → IntKind.i64.wrap (Int.ofNat i + 1) = Int.ofNat (i + 1) :=fun h => qa2 (m :=i + 1) (by omega)
 rcases hR with ⟨rfl,rfl,rfl⟩ | ⟨h1,rfl,rfl⟩
 ·have lg :=qag (zp (gf l 0).2.2)
  conv=>whnf
  refine qaa ((show decide (Int.ofNat 0 < (l.length:Int)) = true from zT (by show (0:Int) < _;omega))) ?_
  conv=>whnf
  refine qaa (qaf (show 0 < l.length from h0)) ?_
  conv=>whnf
  refine qac (takP (qxs l h0)) ?_
  conv=>whnf
  have ht:bstF (l.take 1) = gf l 0 :=by rw [show l.take 1 = l.take 0 ++ [gf l 0] from qsj l h0];rfl
  exact ⟨(1,((gf l 0).1,(gf l 0).2.1),pv (zp (gf l 0).2.2)),⟨h0,.inr ⟨Nat.le_refl _,by rw [ht],by rw [ht]⟩⟩,by show l.length - 1 < l.length - 0;omega,Nat.le_refl _,(by refine ⟨rfl,rfl,rfl,rfl,rfl,rfl,2,rfl,?_,?_⟩ <;> repeat' (first | exact ⟨_,rfl,WkV.int (hi1 h0)⟩ | exact bz (pv_no _) | exact Nat.max_le.2 ⟨Nat.zero_le _,qaj (qag _)⟩ | exact zZ | apply And.intro))⟩
 ·have lq :=qag (zp (bstF (l.take i)).2.2)
  have lg :=qag (zp (gf l i).2.2)
  conv=>whnf
  by_cases h:i < l.length
  ·refine qaa ((show decide (Int.ofNat i < (l.length:Int)) = true from zT (by show (i:Int) < _;omega))) ?_
   conv=>whnf
   refine qaa (qaf (show i < l.length from h)) ?_
   conv=>whnf
   refine qac (takP (qxs l h)) ?_
   conv=>whnf
   have htn:l.take i ≠ [] :=fun e => by
    have :=congrArg List.length e
    rw [List.length_take,List.length_nil] at this
    omega
   have hb1 :=hb _ (q1g l h)
   have hb2 :=hb _ (List.mem_of_mem_take (qxg _ htn))
   have m1:(gf l i).2.1.1 * (bstF (l.take i)).2.1.2 ≤ 10800000000 * 216000 :=Nat.mul_le_mul hb1.1 hb2.2
   have m2:(bstF (l.take i)).2.1.1 * (gf l i).2.1.2 ≤ 10800000000 * 216000 :=Nat.mul_le_mul hb2.1 hb1.2
   have hz:(Int.ofNat i == 0) = false :=qow (b :=0) (by omega)
   have hc :=qrr (gf l i) (bstF (l.take i)) (by omega) (by omega)
   have hsn:bstF (l.take (i + 1)) = _ :=(congrArg bstF (qsj l h)).trans (qna _ _)
   repeat ((first
    |refine qaz hz ?_
    |refine qa0 hz ?_
    |refine qac (qar hz) ?_
    |refine qad hz ?_
    |refine qab hC (hc) ?_
    |refine zd hS ?_);conv=>whnf)
   by_cases h3:(gf l i).2.1.1 * (bstF (l.take i)).2.1.2 < (bstF (l.take i)).2.1.1 * (gf l i).2.1.2
   ·refine qaa (zT h3) ?_
    conv=>whnf
    rw [if_pos (.inr h3)] at hsn
    exact ⟨(i + 1,((gf l i).1,(gf l i).2.1),pv (zp (gf l i).2.2)),⟨h,.inr ⟨by omega,by rw [hsn],by rw [hsn]⟩⟩,by show l.length - (i + 1) < l.length - i;omega,Nat.le_refl _,(by refine ⟨rfl,rfl,rfl,rfl,rfl,rfl,2,rfl,?_,?_⟩ <;> repeat' (first | exact ⟨_,rfl,WkV.int (hi1 h)⟩ | exact Nat.max_le.2 ⟨Nat.zero_le _,qaj (qag _)⟩ | exact zZ | apply And.intro))⟩
   ·refine qad (zF h3) ?_
    conv=>whnf
    rw [if_neg (by rintro (k | k);exact htn k;exact h3 k)] at hsn
    exact ⟨(i + 1,((bstF (l.take i)).1,(bstF (l.take i)).2.1),pv (zp (bstF (l.take i)).2.2)),⟨h,.inr ⟨by omega,by rw [hsn],by rw [hsn]⟩⟩,by show l.length - (i + 1) < l.length - i;omega,Nat.le_refl _,(by refine ⟨rfl,rfl,rfl,rfl,rfl,rfl,2,rfl,?_,?_⟩ <;> repeat' (first | exact ⟨_,rfl,WkV.int (hi1 h)⟩ | exact Nat.max_le.2 ⟨Nat.zero_le _,qaj (qag _)⟩ | exact zZ | apply And.intro))⟩
  ·refine qad ((show decide (Int.ofNat i < (l.length:Int)) = false from zF (by show ¬ (i:Int) < _;omega))) ?_
   conv=>whnf
   rw [List.take_of_length_le (by omega)]
   refine .inl ?_
   conv=>whnf
   exact ⟨_,rfl,wkT2 (zT (show (l.length:Int) > 0 by omega))⟩
end
end Go.Abs.Seat
