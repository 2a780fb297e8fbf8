/-
  Sharings: held against each other, and the best of them.
  Sharing pairs: the search.
-/
import Derived.Test.YtpjclnoehlflcaaGreatDoorT59
import Derived.Test.YtpjclnoehlflcaaGreatDoorU7
import Derived.Test.YtpjclnoehlflcaaGreatDoorU11
import Derived.Test.YtpjclnoehlflcaaGreatDoorT43
import Derived.Test.YtpjclnoehlflcaaGreatDoorU4
namespace Go.Abs.Seat
noncomputable section
open Go Go.Abs Go.Proofs.Tryz
set_option maxRecDepth 100000
set_option maxHeartbeats 40000000
attribute [local irreducible] IntKind.wrap pEq
def qe1:List (List (Nat × Nat)) → List (List (Nat × Nat)) → Int
 | [],[] => 0
 | [],_ :: _ => -1
 | _ :: _,[] => 1
 |p :: r,q :: s => if lexQ p q = 0 then qe1 r s else lexQ p q
theorem qf0 (l:List (List (Nat × Nat))) {i:Nat} (h:i < l.length):l.drop i = gt l i :: l.drop (i + 1) :=by
 rw [List.drop_eq_getElem_cons h]
 simp [gt,List.getD,h]
theorem qcx {l:List (List (Nat × Nat))} {i:Nat} (h:l.length ≤ i):l.drop i = [] :=List.drop_eq_nil_of_le h
theorem qva (u v:List (Nat × Nat)) (hu:u.length < 4611686018427387904):Pure prog 111 [pv (zp u),pv (zp v)] (iv (lexQ u v)) :=by
 have lu :=qag (zp u)
 have lw :=qag (zp v)
 refine zA fun S q pc hS hq hC hE => ?_
 conv=>whnf
 refine qab hC (qm8 u v hu) ?_
 conv=>whnf
 exact ⟨_,rfl,Wk.refl _⟩
theorem qu9 (u v:List (List (Nat × Nat))) (hu:u.length < 4611686018427387904) (hx:∀ x,x ∈ u → x.length < 4611686018427387904):Pure prog 110 [.lst (tls u) u.length .no,.lst (tls v) v.length .no,.func (.func 111) [] []] (iv (qe1 u v)) :=by
 have lu :=qba u
 have lw :=qba v
 refine zA fun S q pc hS hq hC hE => ?_
 conv=>whnf
 refine qbh hE hS (A :=Nat) [0,1,2,11,12] (fun i => [(13,nv i)]) (fun _ => []) (fun i => i ≤ u.length ∧ i ≤ v.length ∧ qe1 (u.drop i) (v.drop i) = qe1 u v) (fun i => u.length - i) 0 rfl rfl zD ⟨Nat.zero_le _,Nat.zero_le _,rfl⟩ ?_
 intro i ⟨hi,hi2,he⟩
 have hi1:i < u.length → IntKind.i64.wrap (Int.ofNat i + 1) = Int.ofNat (i + 1) :=fun h => qa2 (m :=i + 1) (by omega)
 conv=>whnf
 by_cases h:i < u.length
 ·refine qaa ((show decide (Int.ofNat i < (u.length:Int)) = true from zT (by show (i:Int) < _;omega))) ?_
  conv=>whnf
  refine qaa (qaf (show i < u.length from h)) ?_
  conv=>whnf
  refine qac (nthP (show nth (tls u) (i * 1) = some (pv (zp (gt u i))) by rw [Nat.mul_one];exact qeb u i h)) ?_
  conv=>whnf
  rw [qf0 u h] at he
  have l1 :=qag (zp (gt u i))
  by_cases h2:i < v.length
  ·have l2 :=qag (zp (gt v i))
   refine qad ((show decide (Int.ofNat i ≥ (v.length:Int)) = false from zF (by show ¬ ((v.length:Int) ≤ (i:Int));omega))) ?_
   conv=>whnf
   refine qaa (qaf (show i < v.length from h2)) ?_
   conv=>whnf
   refine qac (nthP (show nth (tls v) (i * 1) = some (pv (zp (gt v i))) by rw [Nat.mul_one];exact qeb v i h2)) ?_
   conv=>whnf
   rw [qf0 v h2,qe1] at he
   refine qab hC (qva (gt u i) (gt v i) (hx _ (qix u h))) ?_
   conv=>whnf
   by_cases h3:lexQ (gt u i) (gt v i) = 0
   ·refine qad ((show (lexQ (gt u i) (gt v i) != 0) = false by rw [h3];rfl)) ?_
    conv=>whnf
    rw [if_pos h3] at he
    exact ⟨i + 1,⟨h,h2,he⟩,by omega,(by refine ⟨rfl,rfl,rfl,rfl,?_,?_⟩ <;> repeat' (first | exact congrArg (fun z => some (AV.int .i64 z)) (hi1 h) | exact zZ | apply And.intro))⟩
   ·refine qaa ((show (lexQ (gt u i) (gt v i) != 0) = true from bne_iff_ne.2 h3)) ?_
    conv=>whnf
    rw [if_neg h3] at he
    rw [← he]
    exact ⟨_,rfl,Wk.refl _⟩
  ·refine qaa ((show decide (Int.ofNat i ≥ (v.length:Int)) = true from zT (by show ((v.length:Int) ≤ (i:Int));omega))) ?_
   conv=>whnf
   rw [qcx (l :=v) (by omega),qe1] at he
   rw [← he]
   exact ⟨_,rfl,Wk.refl _⟩
 ·refine qad ((show decide (Int.ofNat i < (u.length:Int)) = false from zF (by show ¬ (i:Int) < _;omega))) ?_
  conv=>whnf
  rw [qcx (l :=u) (by omega)] at he
  by_cases h2:u.length < v.length
  ·refine qaa ((show decide ((u.length:Int) < (v.length:Int)) = true from zT (by omega))) ?_
   conv=>whnf
   rw [qf0 v (by omega),qe1] at he
   rw [← he]
   exact ⟨_,rfl,Wk.refl _⟩
  ·refine qad ((show decide ((u.length:Int) < (v.length:Int)) = false from zF (by omega))) ?_
   conv=>whnf
   rw [qcx (l :=v) (by omega),qe1] at he
   rw [← he]
   exact ⟨_,rfl,Wk.refl _⟩
theorem qwl (x y z:Int):Pure prog 73 [.lst [iv x,iv y,iv z] 3 .full] (iv (if x = 0 then if y = 0 then z else y else x)) :=by
 refine zA fun S q pc hS hq hC hE => ?_
 conv=>whnf
 refine qae hE hS ?_
 conv=>whnf
 by_cases h:x = 0
 ·rw [show (x != 0) = false by rw [h];rfl]
  conv=>whnf
  rw [show IntKind.i64.wrap (0 + 1) = 1 from qas (by decide) (by decide)]
  conv=>whnf
  refine qae hE hS ?_
  conv=>whnf
  rw [if_pos h]
  by_cases h2:y = 0
  ·rw [show (y != 0) = false by rw [h2];rfl]
   conv=>whnf
   rw [show IntKind.i64.wrap (1 + 1) = 2 from qas (by decide) (by decide)]
   conv=>whnf
   refine qae hE hS ?_
   conv=>whnf
   rw [if_pos h2]
   by_cases h3:z = 0
   ·rw [show (z != 0) = false by rw [h3];rfl]
    conv=>whnf
    rw [show IntKind.i64.wrap (2 + 1) = 3 from qas (by decide) (by decide)]
    conv=>whnf
    refine qae hE hS ?_
    conv=>whnf
    rw [h3]
    exact ⟨_,rfl,Wk.refl _⟩
   ·rw [show (z != 0) = true from bne_iff_ne.2 h3]
    conv=>whnf
    exact ⟨_,rfl,Wk.refl _⟩
  ·rw [show (y != 0) = true from bne_iff_ne.2 h2]
   conv=>whnf
   rw [if_neg h2]
   exact ⟨_,rfl,Wk.refl _⟩
 ·rw [show (x != 0) = true from bne_iff_ne.2 h]
  conv=>whnf
  rw [if_neg h]
  exact ⟨_,rfl,Wk.refl _⟩
abbrev Sh :=List (List (Nat × Nat)) × Nat × Nat
abbrev shA (x:Sh):AV :=.agg [.lst (tls x.1) x.1.length .no,nv x.2.1,nv x.2.2]
def shv:List Sh → List AV
 | [] => []
 |x :: r => .lst (tls x.1) x.1.length .no :: nv x.2.1 :: nv x.2.2 :: shv r
theorem qdi:∀ l,Lives noL (shv l)
 | [] => trivial
 | _ :: r => ⟨⟨qba _,fun _ h => nomatch h⟩,trivial,trivial,qdi r⟩
theorem qsr:∀ (l r:List Sh),shv (l ++ r) = shv l ++ shv r
 | [],_ => rfl
 | _ :: l,r => by simp only [shv,List.cons_append,qsr l r]
abbrev gsh (l:List Sh) (i:Nat):Sh :=l.getD i ([],0,0)
theorem qxa (l:List Sh) {i:Nat} (h:i < l.length):l.drop i = gsh l i :: l.drop (i + 1) :=by
 rw [List.drop_eq_getElem_cons h]
 simp [gsh,List.getD,h]
theorem qo8 (l:List Sh) {i:Nat} (h:i < l.length):l.take (i + 1) = l.take i ++ [gsh l i] :=by
 rw [List.take_succ_eq_append_getElem h]
 simp [gsh,List.getD,h]
theorem qz0 (l:List Sh) {i:Nat} (h:i < l.length):gsh l i ∈ l :=by
 have e:gsh l i = l[i] :=by simp [gsh,List.getD,h]
 rw [e];exact List.getElem_mem h
theorem qpe:∀ (l:List Sh) (i:Nat),qew (i * 3) (shv l) = shv (l.drop i)
 | _,0 => rfl
 | [],i + 1 => by rw [qd6,List.drop_eq_nil_of_le (Nat.zero_le _),List.drop_eq_nil_of_le (Nat.zero_le _)];rfl
 |p :: r,i + 1 => by
  rw [show (i + 1) * 3 = i * 3 + 3 by omega,List.drop_succ_cons,← qpe r i]
  rfl
theorem qxq (l:List Sh) {i:Nat} (h:i < l.length):qdk 3 (qew (i * 3) (shv l)) = some [.lst (tls (gsh l i).1) (gsh l i).1.length .no,nv (gsh l i).2.1,nv (gsh l i).2.2] :=by
 rw [qpe,qxa l h]
 rfl
theorem qsq:∀ l:List Sh,(shv l).length = l.length * 3
 | [] => rfl
 | _ :: r => by simp only [shv,List.length_cons,qsq r];omega
theorem qua (L:List Sh):qeh (shv L) (L.length * 3) = true :=by
 have :=qeu (shv L)
 rwa [qsq] at this
def ordS (a b:Sh):Int :=if ordI (Int.ofNat a.2.1) (Int.ofNat b.2.1) = 0 then if ordI (Int.ofNat a.2.2) (Int.ofNat b.2.2) = 0 then qe1 a.1 b.1 else ordI (Int.ofNat a.2.2) (Int.ofNat b.2.2) else ordI (Int.ofNat a.2.1) (Int.ofNat b.2.1)
structure ShS (x:Sh):Prop where
 n:x.1.length < 4611686018427387904
 t:∀ u,u ∈ x.1 → u.length < 4611686018427387904
theorem qns (x y:Sh) (h:ShS x):Pure prog 109 [shA x,shA y] (.bool (decide (ordS x y < 0))) :=by
 have lx :=qba x.1
 have ly :=qba y.1
 have c1 :=qfm (Int.ofNat x.2.1) (Int.ofNat y.2.1)
 have c2 :=qfm (Int.ofNat x.2.2) (Int.ofNat y.2.2)
 have c3 :=qu9 x.1 y.1 h.n h.t
 have c4 :=qwl (ordI (Int.ofNat x.2.1) (Int.ofNat y.2.1)) (ordI (Int.ofNat x.2.2) (Int.ofNat y.2.2)) (qe1 x.1 y.1)
 refine zA fun S q pc hS hq hC hE => ?_
 conv=>whnf
 repeat ((first
  |refine qab hC (c1) ?_
  |refine qab hC (c2) ?_
  |refine qab hC (c3) ?_
  |refine qab hC (c4) ?_
  |refine zd hS ?_);conv=>whnf)
 exact ⟨_,rfl,Wk.refl _⟩
def qc2:List Sh → Sh
 | [] => ([],0,0)
 |x :: r => r.foldl (fun o y => if ordS y o < 0 then y else o) x
theorem qr0 (l:List Sh) (y:Sh):qc2 (l ++ [y]) = if l = [] ∨ ordS y (qc2 l) < 0 then y else qc2 l :=by
 cases l with
 |nil => rw [if_pos (.inl rfl)];rfl
 |cons x r =>
  show (r ++ [y]).foldl _ x = _
  rw [List.foldl_append]
  show (if ordS y (qc2 (x :: r)) < 0 then y else qc2 (x :: r)) = _
  by_cases h:ordS y (qc2 (x :: r)) < 0
  ·rw [if_pos h,if_pos (.inr h)]
  ·rw [if_neg h,if_neg (by rintro (k | k);cases k;exact h k)]
theorem qr4:Pure prog 108 [.nils,.func (.func 109) [] []] (.tup [.agg [.nils,nv 0,nv 0],.bool false]) :=by
 refine zA fun S q pc hS hq hC hE => ?_
 conv=>whnf
 refine qae hE hS ?_
 conv=>whnf
 exact ⟨_,rfl,Wk.refl _⟩
theorem qr3 (l:List Sh) (hne:l ≠ []) (hl:l.length < 4611686018427387904) (hb:∀ x,x ∈ l → ShS x) :
  Pure prog 108 [.lst (shv l) l.length .no,.func (.func 109) [] []] (.tup [shA (qc2 l),.bool true]) :=by
 have ls :=qdi l
 have lo :=qba (qc2 l).1
 have h0:0 < l.length :=List.length_pos_iff.2 hne
 refine zA fun S q pc hS hq hC hE => ?_
 conv=>whnf
 refine qbe hE hS (A :=Nat × AV × Nat × Nat) [0,1,4,6,9,10] (fun (i,_,_) => [(11,nv i)]) (fun (_,v,x) => [(1,.cells (.node v (.node (nv x.1) .nil .nil) (.node (nv x.2) .nil .nil)) 3 138)]) (fun _ => []) (fun (i,v,x) => i ≤ l.length ∧ (i = 0 ∧ v = .nils ∧ x = (0,0) ∨ 1 ≤ i ∧ v = .lst (tls (qc2 (l.take i)).1) (qc2 (l.take i)).1.length .no ∧ x = (qc2 (l.take i)).2)) (fun (i,_) => l.length - i) (0,.nils,(0,0)) (Nat.le_of_ble_eq_true rfl) rfl zG2 ⟨Nat.zero_le _,.inl ⟨rfl,rfl,rfl⟩⟩ ?_
 rintro ⟨i,v,x⟩ ⟨hi,hR⟩ M hM
 obtain rfl:M = 2 :=hM
 have hi1:i < l.length → IntKind.i64.wrap (Int.ofNat i + 1) = Int.ofNat (i + 1) :=fun h => qa2 (m :=i + 1) (by omega)
 rcases hR with ⟨rfl,rfl,rfl⟩ | ⟨h1,rfl,rfl⟩
 ·have lg :=qba (gsh l 0).1
  conv=>whnf
  refine qaa ((show decide (Int.ofNat 0 < (l.length:Int)) = true from zT (by show (0:Int) < _;omega))) ?_
  conv=>whnf
  refine qaa (qaf (show 0 < l.length from h0)) ?_
  conv=>whnf
  refine qac (takP (qxq l h0)) ?_
  conv=>whnf
  have ht:qc2 (l.take 1) = gsh l 0 :=by rw [show l.take 1 = l.take 0 ++ [gsh l 0] from qo8 l h0];rfl
  exact ⟨(1,.lst (tls (gsh l 0).1) (gsh l 0).1.length .no,(gsh l 0).2),⟨h0,.inr ⟨Nat.le_refl _,by rw [ht],by rw [ht]⟩⟩,by show l.length - 1 < l.length - 0;omega,Nat.le_refl _,(by refine ⟨rfl,rfl,rfl,rfl,rfl,rfl,2,rfl,?_,?_⟩ <;> repeat' (first | exact ⟨_,rfl,WkV.int (hi1 h0)⟩ | exact Nat.max_le.2 ⟨Nat.zero_le _,qaj (qba _)⟩ | exact zZ | apply And.intro))⟩
 ·have lq :=qba (qc2 (l.take i)).1
  have lg :=qba (gsh l i).1
  conv=>whnf
  by_cases h:i < l.length
  ·refine qaa ((show decide (Int.ofNat i < (l.length:Int)) = true from zT (by show (i:Int) < _;omega))) ?_
   conv=>whnf
   refine qaa (qaf (show i < l.length from h)) ?_
   conv=>whnf
   refine qac (takP (qxq l h)) ?_
   conv=>whnf
   have htn:l.take i ≠ [] :=fun e => by
    have :=congrArg List.length e
    rw [List.length_take,List.length_nil] at this
    omega
   have hz:(Int.ofNat i == 0) = false :=qow (b :=0) (by omega)
   have hc :=qns (gsh l i) (qc2 (l.take i)) (hb _ (qz0 l h))
   have hsn:qc2 (l.take (i + 1)) = _ :=(congrArg qc2 (qo8 l h)).trans (qr0 _ _)
   repeat ((first
    |refine qaz hz ?_
    |refine qa0 hz ?_
    |refine qac (qar hz) ?_
    |refine qad hz ?_
    |refine qab hC (hc) ?_
    |refine zd hS ?_);conv=>whnf)
   by_cases h3:ordS (gsh l i) (qc2 (l.take i)) < 0
   ·refine qaa (zT h3) ?_
    conv=>whnf
    rw [if_pos (.inr h3)] at hsn
    exact ⟨(i + 1,.lst (tls (gsh l i).1) (gsh l i).1.length .no,(gsh l i).2),⟨h,.inr ⟨by omega,by rw [hsn],by rw [hsn]⟩⟩,by show l.length - (i + 1) < l.length - i;omega,Nat.le_refl _,(by refine ⟨rfl,rfl,rfl,rfl,rfl,rfl,2,rfl,?_,?_⟩ <;> repeat' (first | exact ⟨_,rfl,WkV.int (hi1 h)⟩ | exact Nat.max_le.2 ⟨Nat.zero_le _,qaj (qba _)⟩ | exact zZ | apply And.intro))⟩
   ·refine qad (zF h3) ?_
    conv=>whnf
    rw [if_neg (by rintro (k | k);exact htn k;exact h3 k)] at hsn
    exact ⟨(i + 1,.lst (tls (qc2 (l.take i)).1) (qc2 (l.take i)).1.length .no,(qc2 (l.take i)).2),⟨h,.inr ⟨by omega,by rw [hsn],by rw [hsn]⟩⟩,by show l.length - (i + 1) < l.length - i;omega,Nat.le_refl _,(by refine ⟨rfl,rfl,rfl,rfl,rfl,rfl,2,rfl,?_,?_⟩ <;> repeat' (first | exact ⟨_,rfl,WkV.int (hi1 h)⟩ | exact Nat.max_le.2 ⟨Nat.zero_le _,qaj (qba _)⟩ | exact zZ | apply And.intro))⟩
  ·refine qad ((show decide (Int.ofNat i < (l.length:Int)) = false from zF (by show ¬ (i:Int) < _;omega))) ?_
   conv=>whnf
   rw [List.take_of_length_le (by omega)]
   refine .inl ?_
   conv=>whnf
   exact ⟨_,rfl,wkT2 (zT (show (l.length:Int) > 0 by omega))⟩
def absT (p q b:Nat):Nat :=(p - q) / b + (q - p) / b
def wfN (t:Nat) (f:Nat × Nat) (u:List (Nat × Nat)):Nat :=absT (offP (redF (xP u) (yP u)).1 f.2 t) (offQ (redF (xP u) (yP u)).2 f.1 t) ((redF (xP u) (yP u)).2 * f.2)
def rnds (g:Nat → List Sh):Nat → List Sh
 | 0 => []
 |k + 1 => rnds g k ++ g (k + 1)
def srch (tr:Nat → Nat × Nat → Option (List (Nat × Nat))) (P pairs t:Nat):List (Nat × Nat) → Sh → List Sh
 | [],now => if pairs < now.2.2 then [] else [now]
 |f :: r,now => if pairs < now.2.2 then [] else rnds (fun n => match tr n f with | none => [] | some u => srch tr P pairs t r (now.1 ++ [u],max now.2.1 (wfN t f u),now.2.2 + u.length)) P
theorem ql9 {tr:Nat → Nat × Nat → Option (List (Nat × Nat))} {P pairs t:Nat} {r:List (Nat × Nat)} {now:Sh} (h:pairs < now.2.2):srch tr P pairs t r now = [] :=by
 cases r <;> rw [srch,if_pos h]
def lsS (l:List Sh):qdj :=
 match l with
 | [] => none
 |x :: r => some (shv (x :: r),(x :: r).length)
theorem qeg {l:List Sh} (h:l ≠ []):lsS l = some (shv l,l.length) :=by
 cases l with
 |nil => exact absurd rfl h
 |cons x r => rfl
theorem qe7 {l:List Sh} (h:l = []):lsS l = none :=by subst h;rfl
def tlA (l:List (List (Nat × Nat))):AV :=
 match l with
 | [] => .nils
 |x :: r => .lst (tls (x :: r)) (x :: r).length .no
theorem qh7 {l:List (List (Nat × Nat))} (h:l ≠ []):tlA l = .lst (tls l) l.length .no :=by
 cases l with
 |nil => exact absurd rfl h
 |cons x r => rfl
abbrev hpS (a b p s:Int) (N:AV) (fs:List (Nat × Nat)) (pairs t:Nat) (es:List (AV × AV)) (all:AObj):Tr AObj :=
 appT [.cells (.node (iv a) (.node (iv b) (.node (iv s) .nil .nil) .nil) (.node (iv p) (.node N .nil .nil) .nil)) 5 48,.cells (.node (pv (zp fs)) .nil .nil) 1 66,.cells (.node (nv pairs) .nil .nil) 1 3,.cells (.node (nv t) .nil .nil) 1 3,.mapo es,.cells (.node (.map 4) .nil .nil) 1 132,all,.cells (.node (.func (.func 106) [] [.ptr 2 0,.ptr 1 0,.ptr 6 0,.ptr 0 0,.ptr 5 0,.ptr 3 0,.ptr 7 0]) .nil .nil) 1 136] 0 .nil
theorem qec (a b p s:Int) (N:AV) (fs:List (Nat × Nat)) (pairs t:Nat) (es:List (AV × AV)) (all:AObj):HEnd (hpS a b p s N fs pairs t es all) 8 :=qcr _ 0 .nil qey
theorem qf2.cw {P:Program} {f:FuncId} {y x:AV} {r:List AV} {b:Nat → AObj} {m a:Nat} {ty:TypeId} {sz:Nat} {e:TypeId} {L L':qdj} {v:AV} (hw:WkV y x) (h:qf2 P f (x :: r) b m a ty sz e L L' v):qf2 P f (y :: r) b m a ty sz e L L' v :=by
 intro B H c hc h1 h2 h3 g vs cs w hr hv hl
 refine h B H c hc h1 h2 h3 g vs cs w hr ?_ ⟨hw.lv _ hl.1,hl.2⟩
 simp only [VRels] at hv ⊢
 obtain ⟨u,us,e,h1,h2⟩ :=hv
 exact ⟨u,us,e,hw.wk _ _ _ h1,h2⟩
abbrev capS:List AV :=[.ptr 2 0,.ptr 1 0,.ptr 6 0,.ptr 0 0,.ptr 5 0,.ptr 3 0,.ptr 7 0]
theorem qms (a b s:Int) (p:Nat) (N:AV) (fs:List (Nat × Nat)) (pairs t:Nat) (es:List (AV × AV)) (hes:BdE 8 es) (lN:Live noL N) (now:Sh) (hw:pairs < now.2.2) :
  qf2 prog 106 (.agg [tlA now.1,nv now.2.1,nv now.2.2] :: capS) (hv (hpS a b (Int.ofNat p) s N fs pairs t es .hole)) 8 6 135 3 138 none none (.tup []) :=by
 have lz :=qag (zp fs)
 have lt :=qba now.1
 have hbd:qi9 8 (hv (hpS a b (Int.ofNat p) s N fs pairs t es .hole)) 6 8 :=by
  repeat' (first | exact trivial | exact .inl rfl | apply And.intro | exact hes | exact bz lN | exact qaj lz | exact Nat.zero_le _ | exact Nat.le_of_ble_eq_true rfl | refine Or.inr ?_)
 refine qcm (h :=hpS a b (Int.ofNat p) s N fs pairs t es (qby 135 8 none)) hE rfl (qec _ _ _ _ _ _ _ _ _ _) rfl (Nat.le_of_ble_eq_true rfl) ?_ (Nat.zero_le _) hbd trivial trivial (fun h => absurd rfl h) ?_ rfl rfl fun S q pc hS hq hC hE => ?_
 ·by_cases h1:now.1 = []
  ·rw [h1];exact Nat.le_of_ble_eq_true rfl
  ·rw [qh7 h1];exact Nat.max_le.2 ⟨Nat.max_le.2 ⟨qaj lt,Nat.zero_le _⟩,Nat.le_of_ble_eq_true rfl⟩
 ·repeat' (first | exact trivial | exact .inl rfl | exact .inr rfl | apply And.intro)
 ·have c1:decide (Int.ofNat now.2.2 > Int.ofNat pairs) = true :=zT (show (pairs:Int) < (now.2.2:Int) by omega)
  by_cases h1:now.1 = []
  ·rw [h1]
   conv=>whnf
   refine qaa (c1) ?_
   conv=>whnf
   exact ⟨_,8,rfl,WkV.refl _,Nat.le_refl _,fun h => absurd rfl h,by repeat' (first | exact trivial | exact .inl rfl | exact .inr rfl | apply And.intro),rfl,fun h => absurd rfl h⟩
  ·rw [qh7 h1]
   conv=>whnf
   refine qaa (c1) ?_
   conv=>whnf
   exact ⟨_,8,rfl,WkV.refl _,Nat.le_refl _,fun h => absurd rfl h,by repeat' (first | exact trivial | exact .inl rfl | exact .inr rfl | apply And.intro),rfl,fun h => absurd rfl h⟩
theorem qv1 (L:List Sh) (x:Sh):shv L ++ [.lst (tls x.1) x.1.length .no,nv x.2.1,nv x.2.2] = shv (L ++ [x]) :=by
 rw [qsr];rfl
theorem qwq (a b s:Int) (p:Nat) (N:AV) (fs:List (Nat × Nat)) (pairs t:Nat) (es:List (AV × AV)) (hes:BdE 8 es) (lN:Live noL N) (now:Sh) (hw:¬ pairs < now.2.2) (hne:now.1 ≠ []) (hlen:now.1.length = fs.length) :
  qf2 prog 106 (.agg [tlA now.1,nv now.2.1,nv now.2.2] :: capS) (hv (hpS a b (Int.ofNat p) s N fs pairs t es .hole)) 8 6 135 3 138 none (some (shv [now],1)) (.tup []) :=by
 have lz :=qag (zp fs)
 have lt :=qba now.1
 have hbd:qi9 8 (hv (hpS a b (Int.ofNat p) s N fs pairs t es .hole)) 6 8 :=by
  repeat' (first | exact trivial | exact .inl rfl | apply And.intro | exact hes | exact bz lN | exact qaj lz | exact Nat.zero_le _ | exact Nat.le_of_ble_eq_true rfl | refine Or.inr ?_)
 have c1:decide (Int.ofNat now.2.2 > Int.ofNat pairs) = false :=zF (show ¬ (pairs:Int) < (now.2.2:Int) by omega)
 have c2:((now.1.length:Int) == ((zp fs).length:Int)) = true :=by rw [qa9,hlen];exact beq_self_eq_true _
 rw [qh7 hne]
 refine qcm (h :=hpS a b (Int.ofNat p) s N fs pairs t es (qby 135 8 none)) hE rfl (qec _ _ _ _ _ _ _ _ _ _) rfl (Nat.le_of_ble_eq_true rfl) (Nat.max_le.2 ⟨Nat.max_le.2 ⟨qaj lt,Nat.zero_le _⟩,Nat.le_of_ble_eq_true rfl⟩) (Nat.zero_le _) hbd trivial (qaj (qdi _)) (fun h => absurd rfl h) (by repeat' (first | exact trivial | exact .inl rfl | exact .inr rfl | apply And.intro)) rfl rfl fun S q pc hS hq hC hE => ?_
 conv=>whnf
 refine qad (c1) ?_
 conv=>whnf
 refine qaa (c2) ?_
 conv=>whnf
 exact ⟨_,9,rfl,WkV.refl _,Nat.le_of_ble_eq_true rfl,fun h => absurd rfl h,by repeat' (first | exact trivial | exact .inl rfl | exact .inr rfl | apply And.intro),rfl,fun _ => rfl⟩
theorem lcS (LS:List Sh) (x:Sh) (c:Nat) (ty:TypeId):AObj.cells (.node (.lst (shv LS ++ [.lst (tls x.1) x.1.length .no,nv x.2.1,nv x.2.2]) (LS.length + (0 + 1)) (.ch c)) .nil .nil) 1 ty = qby ty c (some (shv (LS ++ [x]),(LS ++ [x]).length)) :=by
 unfold qby
 rw [qv1,List.length_append];rfl
theorem lhS (LS:List Sh) (x:Sh) (e:TypeId):AObj.chain (LS.length + (0 + 1)) 3 e = lchn 3 e (some (shv (LS ++ [x]),(LS ++ [x]).length)) :=by
 unfold lchn
 rw [List.length_append];rfl
theorem qud (a b s:Int) (p:Nat) (N:AV) (fs:List (Nat × Nat)) (pairs t:Nat) (es:List (AV × AV)) (hes:BdE 8 es) (lN:Live noL N) (now:Sh) (hw:¬ pairs < now.2.2) (hne:now.1 ≠ []) (hlen:now.1.length = fs.length) (LS:List Sh) (_hLS:LS ≠ []) (hl:LS.length ≤ 1000) :
  qf2 prog 106 (.agg [tlA now.1,nv now.2.1,nv now.2.2] :: capS) (hv (hpS a b (Int.ofNat p) s N fs pairs t es .hole)) 8 6 135 3 138 (some (shv LS,LS.length)) (some (shv (LS ++ [now]),(LS ++ [now]).length)) (.tup []) :=by
 have lz :=qag (zp fs)
 have lt :=qba now.1
 have lS :=qdi LS
 have hbd:qi9 8 (hv (hpS a b (Int.ofNat p) s N fs pairs t es .hole)) 6 8 :=by
  repeat' (first | exact trivial | exact .inl rfl | apply And.intro | exact hes | exact bz lN | exact qaj lz | exact Nat.zero_le _ | exact Nat.le_of_ble_eq_true rfl | refine Or.inr ?_)
 have c1:decide (Int.ofNat now.2.2 > Int.ofNat pairs) = false :=zF (show ¬ (pairs:Int) < (now.2.2:Int) by omega)
 have c2:((now.1.length:Int) == ((zp fs).length:Int)) = true :=by rw [qa9,hlen];exact beq_self_eq_true _
 rw [qh7 hne]
 refine qcm (n :=9) (h :=appT [.chain LS.length 3 138] 8 (hpS a b (Int.ofNat p) s N fs pairs t es (qby 135 8 (some (shv LS,LS.length))))) hE rfl (show HEnd _ 9 from qcr [_] 8 _ (qec _ _ _ _ _ _ _ _ _ _)) rfl (Nat.le_of_ble_eq_true rfl) (Nat.max_le.2 ⟨Nat.max_le.2 ⟨qaj lt,Nat.zero_le _⟩,Nat.le_of_ble_eq_true rfl⟩) (Nat.zero_le _) hbd (qaj lS) (qaj (qdi _)) (fun _ h => nomatch h) (by repeat' (first | exact trivial | exact .inl rfl | exact .inr rfl | apply And.intro)) rfl rfl fun S q pc hS hq hC hE => ?_
 conv=>whnf
 refine qad (c1) ?_
 conv=>whnf
 refine qaa (c2) ?_
 conv=>whnf
 refine qaa (zT (show (LS.length + (0 + 1)) * 40 ≤ 140737488355328 by omega)) ?_
 conv=>whnf
 refine qaa (zT (show LS.length + (0 + 1) ≤ 9223372036854775807 by omega)) ?_
 conv=>whnf
 refine qaa (qua LS) ?_
 conv=>whnf
 refine qaa (zT rfl) ?_
 conv=>whnf
 exact ⟨_,8,rfl,WkV.refl _,Nat.le_refl _,fun _ => rfl,by repeat' (first | exact trivial | exact .inl rfl | exact .inr rfl | apply And.intro),lcS LS now 8 _,fun _ => lhS LS now _⟩
structure Knw (tr:Nat → Nat × Nat → Option (List (Nat × Nat))) (P:Nat) (fs:List (Nat × Nat)) (es:List (AV × AV)):Prop where
 no:∀ n f,1 ≤ n → n ≤ P → f ∈ fs → tr n f = none → qdh prog seatT 134 (.agg [nv n,nv f.1,nv f.2]) es 0 = some none
 yes:∀ n f u,1 ≤ n → n ≤ P → f ∈ fs → tr n f = some u → ∃ i,qdh prog seatT 134 (.agg [nv n,nv f.1,nv f.2]) es 0 = some (some (i,pv (zp u)))
theorem qjx {P:Program} {T:Tr TypeInfo} {kt:TypeId} {k:AV} {es:List (AV × AV)} {ok:Bool} {z:Value} (h:qdh P T kt k es 0 = some none):(match qdh P T kt k es 0 with | some (some (_,v)) => Plan.ret (qhk ok v true) | some none => .ret (qhk ok (ofV z) false) | none => .fail) = .ret (qhk ok (ofV z) false) :=by rw [h]
theorem qjw {P:Program} {T:Tr TypeInfo} {kt:TypeId} {k x:AV} {es:List (AV × AV)} {ok:Bool} {z:Value} {i:Nat} (h:qdh P T kt k es 0 = some (some (i,x))):(match qdh P T kt k es 0 with | some (some (_,v)) => Plan.ret (qhk ok v true) | some none => .ret (qhk ok (ofV z) false) | none => .fail) = .ret (qhk ok x true) :=by rw [h]
structure Trn (tr:Nat → Nat × Nat → Option (List (Nat × Nat))) (P:Nat) (fs:List (Nat × Nat)):Prop where
 fr:∀ f,f ∈ fs → f.1 ≤ 50000 ∧ 1 ≤ f.2 ∧ f.2 ≤ 50000
 tv:∀ n f u,1 ≤ n → n ≤ P → f ∈ fs → tr n f = some u → 1 ≤ u.length ∧ u.length ≤ 3 ∧ TV (pv (zp u)) u.length (redF (xP u) (yP u)).1 (redF (xP u) (yP u)).2
abbrev HS (a b s:Int) (p:Nat) (N:AV) (fs:List (Nat × Nat)) (pairs t:Nat) (es:List (AV × AV)) (now:Sh) (L L':qdj):Prop :=
 qf2 prog 106 (.agg [tlA now.1,nv now.2.1,nv now.2.2] :: capS) (hv (hpS a b (Int.ofNat p) s N fs pairs t es .hole)) 8 6 135 3 138 L L' (.tup [])
def Rnd (a b s:Int) (p:Nat) (N:AV) (fs:List (Nat × Nat)) (pairs t:Nat) (es:List (AV × AV)) (f:Nat × Nat) (now:Sh) (n:Nat) (Sc Sn:List Sh):Prop :=
 (Sc = Sn ∧ qdh prog seatT 134 (.agg [nv n,nv f.1,nv f.2]) es 0 = some none) ∨
 ∃ u x y w,(∃ j,qdh prog seatT 134 (.agg [nv n,nv f.1,nv f.2]) es 0 = some (some (j,pv (zp u)))) ∧ Pure prog 68 [pv (zp u),fv (Int.ofNat f.1) (Int.ofNat f.2)] (.agg [iv (dN x y),nv w]) ∧ 1 ≤ w ∧
  (∃ z,maxI (maxI (Int.ofNat now.2.1) (IntKind.i64.wrap ((IntKind.i64.wrap (dN x y * Int.ofNat t)).tdiv (Int.ofNat w)))) (IntKind.i64.wrap (0 - IntKind.i64.wrap ((IntKind.i64.wrap (dN x y * Int.ofNat t)).tdiv (Int.ofNat w)))) = Int.ofNat z ∧
   ∃ q,IntKind.i64.wrap (Int.ofNat now.2.2 + ((zp u).length:Int)) = Int.ofNat q ∧
   ((Sc = [] ∧ Sn = [] ∧ HS a b s p N fs pairs t es (now.1 ++ [u],z,q) none none) ∨ (Sc = [] ∧ Sn ≠ [] ∧ HS a b s p N fs pairs t es (now.1 ++ [u],z,q) none (some (shv Sn,Sn.length))) ∨ (Sc ≠ [] ∧ Sn ≠ [] ∧ HS a b s p N fs pairs t es (now.1 ++ [u],z,q) (some (shv Sc,Sc.length)) (some (shv Sn,Sn.length)))))
theorem shWk {xs:List AV} {k c x y:Nat} {X Y:Int} {l:List (List (Nat × Nat))} (e0:xs = tls l) (ek:k = l.length) (hl:l ≠ []) (h1:X = Int.ofNat x) (h2:Y = Int.ofNat y):WkV (.agg [.lst xs k (.ch c),.int .i64 X,.int .i64 Y]) (.agg [tlA l,nv x,nv y]) :=by
 subst e0 ek h1 h2
 rw [qh7 hl]
 have e:wk (.agg [.lst (tls l) l.length (.ch c),nv x,nv y]) = .agg [.lst (tls l) l.length .no,nv x,nv y] :=by simp only [wk,wkl,qkc]
 refine ⟨?_,fun L h => ?_⟩
 ·have :=Wk.wk (.agg [.lst (tls l) l.length (.ch c),nv x,nv y])
  rwa [e] at this
 ·have :=qnh (L :=L) (.agg [.lst (tls l) l.length (.ch c),nv x,nv y]) h
  rwa [e] at this
theorem HS.cw {a b s:Int} {p:Nat} {N:AV} {fs:List (Nat × Nat)} {pairs t:Nat} {es:List (AV × AV)} {l:List (List (Nat × Nat))} {z q:Nat} {L L':qdj} (hf:HS a b s p N fs pairs t es (l,z,q) L L') (hl:l ≠ []) {xs:List AV} {k c:Nat} {X Y:Int} (h1:X = Int.ofNat z) (h2:Y = Int.ofNat q) (e0:xs = tls l) (ek:k = l.length) :
  qf2 prog 106 (.agg [.lst xs k (.ch c),.int .i64 X,.int .i64 Y] :: capS) (hv (hpS a b (Int.ofNat p) s N fs pairs t es .hole)) 8 6 135 3 138 L L' (.tup []) :=qf2.cw (shWk e0 ek hl h1 h2) hf
end
end Go.Abs.Seat
