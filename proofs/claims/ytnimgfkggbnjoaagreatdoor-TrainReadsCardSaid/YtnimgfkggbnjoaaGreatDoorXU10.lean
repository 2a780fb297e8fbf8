/-
  Bills: what is as defined.
-/
import Derived.Test.YtnimgfkggbnjoaaGreatDoorXU7
import Derived.Test.YtnimgfkggbnjoaaGreatDoorXT51
import Derived.Test.YtnimgfkggbnjoaaGreatDoorXU9
import Derived.Test.YtnimgfkggbnjoaaGreatDoorXU6
import Derived.Test.YtnimgfkggbnjoaaGreatDoorXU4
import Derived.Test.YtnimgfkggbnjoaaGreatDoorXU5
import Derived.Test.YtnimgfkggbnjoaaGreatDoorXT44
namespace Go.Abs.Seat
noncomputable section
open Go Go.Abs Go.Proofs.Tryz
set_option maxRecDepth 100000
set_option maxHeartbeats 40000000
attribute [local irreducible] IntKind.wrap pEq
/- The walk through a list for the first member that is so (IndexFunc, ContainsFunc): hp is what the closure tells. -/


theorem qx8 (u v:List (Nat × Nat)) {i:Nat} (h:i < u.length) (h2:i < v.length):(u.drop i = v.drop i) ↔ (gq u i = gq v i ∧ u.drop (i + 1) = v.drop (i + 1)) :=by
 rw [qne u h,qne v h2,List.cons.injEq]
theorem qpm (u v:List (Nat × Nat)) (hu:u.length < 4611686018427387904):Pure prog 31 [pv (zp u),pv (zp v)] (.bool (decide (u = v))) :=by
 have lu :=qa3 (zp u)
 have lw :=qa3 (zp v)
 have hzu :=qew u
 have hzv :=qew v
 refine qbg hE rfl (by repeat' first|exact trivial|assumption|exact qa3 _|exact fun _ h => nomatch h|apply And.intro) (by repeat' first|exact trivial|assumption|exact qa3 _|exact fun _ h => nomatch h|apply And.intro) fun S q pc hS hq hC hE => ?_
 conv => whnf
 by_cases hn:u.length = v.length
 ·have c0:(((zp u).length:Int) != ((zp v).length:Int)) = false :=by rw [hzu,hzv,hn];exact bne_self_eq_false _
  repeat ((first|refine qa9 c0 ?_|refine qbc c0 ?_|refine pkF c0 ?_|refine qar c0 ?_|refine qaq hS (by kernel_rfl) ?_);conv => whnf)
  refine qj0 hE hS (A :=Nat) [0,1] (fun i => [(5,nv i)]) (fun _ => []) (fun i => i ≤ u.length ∧ (u.drop i = v.drop i ↔ u = v)) (fun i => u.length - i) 0 rfl rfl (by refine ⟨rfl,rfl,rfl,rfl,?_,?_⟩ <;> repeat' (first|exact trivial|exact rfl|exact Nat.zero_le _|exact kle rfl|exact qc1 (by assumption)|exact qc1 (qa3 _)|exact qc1 (qby _)|exact mxI rfl|apply And.intro)) ⟨Nat.zero_le _,.rfl⟩ ?_
  intro i ⟨hi,he⟩
  have hi1:i < u.length → IntKind.i64.wrap (Int.ofNat i + 1) = Int.ofNat (i + 1) :=fun h => qbr (m :=i + 1) (by omega)
  conv => whnf
  by_cases h:i < u.length
  ·have c1:decide (Int.ofNat i < ((zp u).length:Int)) = true :=decide_eq_true (by rw [hzu];show (i:Int) < _;omega)
   have h2:i < v.length :=hn ▸ h
   have c2:decide (Int.ofNat i < ((zp v).length:Int)) = true :=decide_eq_true (by rw [hzv];show (i:Int) < _;omega)
   repeat ((first|refine qa5 ‹_› ?_|refine qa4 ‹_› ?_|refine pkT ‹_› ?_|refine qax ‹_› ?_|refine qaq hS (by kernel_rfl) ?_);conv => whnf)
   refine qa2 (takP (qns u h)) ?_
   conv => whnf
   repeat ((first|refine qa5 ‹_› ?_|refine qa4 ‹_› ?_|refine pkT ‹_› ?_|refine qax ‹_› ?_|refine qaq hS (by kernel_rfl) ?_);conv => whnf)
   refine qa2 (takP (qns v h2)) ?_
   conv => whnf
   rw [qx8 u v h h2] at he
   by_cases h3:gq u i = gq v i
   ·have hq':∀ cst,q0 74 cst (fv (gq u i).1 (gq u i).2) (fv (gq v i).1 (gq v i).2) = some true :=fun cst => by rw [h3];exact qu9 (.inr rfl) cst _ _
    refine qjb hq true (hq' _) ?_
    conv => whnf
    refine qaq hS (by kernel_rfl) ?_
    conv => whnf
    exact ⟨i + 1,⟨h,⟨fun k => he.1 ⟨h3,k⟩,fun k => (he.2 k).2⟩⟩,by omega,(by refine ⟨rfl,rfl,rfl,rfl,?_,?_⟩ <;> repeat' (first|exact trivial|exact rfl|exact Nat.zero_le _|exact congrArg (fun z => some (AV.int .i64 z)) (hi1 h)|exact kle rfl|exact qc1 (by assumption)|exact qc1 (qa3 _)|exact qc1 (qby _)|exact mxI rfl|apply And.intro))⟩
   ·refine qjb hq false (qzm (.inr rfl) _ _ _ _ _ fun k => h3 (Prod.ext (Int.ofNat.inj k.1) (Int.ofNat.inj k.2))) ?_
    conv => whnf
    refine qaq hS (by kernel_rfl) ?_
    conv => whnf
    have e:decide (u = v) = false :=decide_eq_false fun k => h3 (by rw [k])
    rw [e]
    exact ⟨_,rfl,Wk.refl _⟩
  ·have c1:decide (Int.ofNat i < ((zp u).length:Int)) = false :=decide_eq_false (by rw [hzu];show ¬ (i:Int) < _;omega)
   repeat ((first|refine qa9 c1 ?_|refine qbc c1 ?_|refine pkF c1 ?_|refine qar c1 ?_|refine qaq hS (by kernel_rfl) ?_);conv => whnf)
   have e1:u.drop i = [] :=List.drop_eq_nil_of_le (by omega)
   have e2:v.drop i = [] :=List.drop_eq_nil_of_le (by omega)
   have e:decide (u = v) = true :=decide_eq_true (he.1 (by rw [e1,e2]))
   rw [e]
   exact ⟨_,rfl,Wk.refl _⟩
 ·have c0:(((zp u).length:Int) != ((zp v).length:Int)) = true :=bne_iff_ne.2 (by rw [hzu,hzv];omega)
  repeat ((first|refine qa5 c0 ?_|refine qa4 c0 ?_|refine pkT c0 ?_|refine qax c0 ?_|refine qaq hS (by kernel_rfl) ?_);conv => whnf)
  have e:decide (u = v) = false :=decide_eq_false fun k => hn (congrArg _ k)
  rw [e]
  exact ⟨_,rfl,Wk.refl _⟩

end
end Go.Abs.Seat
namespace Go.Abs.Seat
noncomputable section
open Go Go.Abs Go.Proofs.Tryz
set_option maxRecDepth 100000
set_option maxHeartbeats 4000000

abbrev Lk :=Nat × Nat × Nat
abbrev LkI :=Int × Int × Int
abbrev gL (L:List LkI) (i:Nat):LkI :=L.getD i (0,0,0)
abbrev gN (N:List Lk) (i:Nat):Lk :=N.getD i (0,0,0)
def lks:List LkI → List AV
 | [] => []
 |x :: r => iv x.1 :: iv x.2.1 :: iv x.2.2 :: lks r
abbrev lkA (L:List LkI):AV :=.lst (lks L) L.length .no
theorem qr9:∀ L,Lives noL (lks L)
 | [] => trivial
 | _ :: r => ⟨trivial,trivial,trivial,qr9 r⟩
theorem qy9 (L:List LkI):Live noL (lkA L) :=⟨qr9 L,fun _ h => nomatch h⟩
def trF (N:List Lk):Nat → Nat → List (Nat × Nat)
 | _,0 => []
 | 0,_ + 1 => []
 |f + 1,a + 1 => trF N f (gN N a).1 ++ [(gN N a).2]
def tr (N:List Lk) (a:Nat):List (Nat × Nat) :=trF N a a
def wfN (N:List Lk):Prop :=∀ i,i < N.length → (gN N i).1 ≤ i
theorem qnp (N:List Lk) (h:wfN N):∀ (f g a:Nat),a ≤ f → a ≤ g → a ≤ N.length → trF N f a = trF N g a
 | 0,0,0,_,_,_ => rfl
 | 0,_ + 1,0,_,_,_ => rfl
 | _ + 1,0,0,_,_,_ => rfl
 | _ + 1,_ + 1,0,_,_,_ => rfl
 | 0,_,a + 1,h1,_,_ => absurd h1 (Nat.not_succ_le_zero _)
 | _ + 1,0,a + 1,_,h2,_ => absurd h2 (Nat.not_succ_le_zero _)
 |f + 1,g + 1,a + 1,h1,h2,h3 => by
  have :=h a (by omega)
  rw [trF,trF,qnp N h f g (gN N a).1 (by omega) (by omega) (by omega)]
theorem qqq {N:List Lk} (h:wfN N) {i:Nat} (hi:i < N.length):tr N (i + 1) = tr N (gN N i).1 ++ [(gN N i).2] :=by
 have :=h i hi
 show trF N (i + 1) (i + 1) = _
 rw [trF,qnp N h i (gN N i).1 (gN N i).1 this (Nat.le_refl _) (by omega)]
 rfl
theorem qno (N:List Lk) (h:wfN N) (i:Nat) (hi:i ≤ N.length):∀ (f a:Nat),a ≤ i → trF (N.take i) f a = trF N f a
 | 0,0,_ => rfl
 | _ + 1,0,_ => rfl
 | 0,a + 1,_ => rfl
 |f + 1,a + 1,h1 => by
  have e:gN (N.take i) a = gN N a :=by simp [gN,List.getD,show a < i by omega]
  have :=h a (by omega)
  rw [trF,trF,e,qno N h i hi f (gN N a).1 (by omega)]
theorem qqp {N:List Lk} (h:wfN N) {i a:Nat} (hi:i ≤ N.length) (ha:a ≤ i):tr (N.take i) a = tr N a :=qno N h i hi a a ha
theorem qtl {N:List Lk} (h:wfN N) (i:Nat):wfN (N.take i) :=fun j hj => by
 rw [List.length_take] at hj
 have e:gN (N.take i) j = gN N j :=by simp [gN,List.getD,show j < i by omega]
 rw [e];exact h j (by omega)
abbrev tN (n:Nat):Prop :=4 ≤ n ∧ n ≤ 60
structure okN (N:List Lk):Prop where
 wf:wfN N
 t1:∀ i,i < N.length → tN (gN N i).2.1
 t2:∀ i,i < N.length → tN (gN N i).2.2
 d:∀ i,i < N.length → (tr N (i + 1)).length ≤ 3
theorem okN.all {N:List Lk} (h:okN N):∀ (f a:Nat),a ≤ f → a ≤ N.length → AllT tN (tr N a)
 | _,0,_,_ => trivial
 | 0,_ + 1,h1,_ => absurd h1 (Nat.not_succ_le_zero _)
 |f + 1,a + 1,h1,h2 => by
  have h3 :=h.wf a (by omega)
  have :=h.all f (gN N a).1 (by omega) (by omega)
  rw [qqq h.wf (by omega)]
  have key:∀ (l:List (Nat × Nat)) (p:Nat × Nat),AllT tN l → tN p.1 ∧ tN p.2 → AllT tN (l ++ [p]) :=by
   intro l p hl hp
   induction l with
   |nil => exact ⟨hp,trivial⟩
   |cons q r ih => exact ⟨hl.1,ih hl.2⟩
  exact key _ _ this ⟨h.t1 a (by omega),h.t2 a (by omega)⟩
theorem okN.take {N:List Lk} (h:okN N) (i:Nat):okN (N.take i) :=by
 have g:∀ j,j < (N.take i).length → gN (N.take i) j = gN N j ∧ j < N.length ∧ j < i :=fun j hj => by
  rw [List.length_take] at hj
  exact ⟨by simp [gN,List.getD,show j < i by omega],by omega,by omega⟩
 refine ⟨qtl h.wf i,fun j hj => ?_,fun j hj => ?_,fun j hj => ?_⟩
 ·rw [(g j hj).1];exact h.t1 j (g j hj).2.1
 ·rw [(g j hj).1];exact h.t2 j (g j hj).2.1
 ·by_cases hi:i ≤ N.length
  ·rw [qqp h.wf hi (g j hj).2.2];exact h.d j (g j hj).2.1
  ·rw [List.take_of_length_le (by omega)];exact h.d j (g j hj).2.1
theorem qsm {N:List Lk} {x:Lk} {i:Nat} (h:i < N.length):gN (N ++ [x]) i = gN N i :=by
 simp [gN,List.getD,List.getElem?_append,h]
theorem qkv {N:List Lk} {x:Lk}:gN (N ++ [x]) N.length = x :=by
 simp [gN,List.getD]
theorem ql4 {N:List Lk} (h:wfN N) {x:Lk} (hx:x.1 ≤ N.length):wfN (N ++ [x]) :=fun i hi => by
 rw [List.length_append] at hi
 simp only [List.length_cons,List.length_nil] at hi
 by_cases e:i < N.length
 ·rw [qsm e];exact h i e
 ·obtain rfl:i = N.length :=by omega
  rw [qkv];exact hx
theorem qvv {N:List Lk} (h:wfN N) {x:Lk} (hx:x.1 ≤ N.length) {a:Nat} (ha:a ≤ N.length):tr (N ++ [x]) a = tr N a :=by
 have :=qqp (ql4 h hx) (i :=N.length) (a :=a) (by rw [List.length_append];omega) ha
 rw [List.take_left'] at this
 ·exact this.symm
 ·rfl
theorem ql8 {N:List Lk} (h:wfN N) {x:Lk} (hx:x.1 ≤ N.length):tr (N ++ [x]) (N.length + 1) = tr N x.1 ++ [x.2] :=by
 rw [qqq (ql4 h hx) (by rw [List.length_append];exact Nat.lt_succ_self _),qkv,qvv h hx hx]
theorem okN.app {N:List Lk} (h:okN N) {x:Lk} (hx:x.1 ≤ N.length) (h1:tN x.2.1) (h2:tN x.2.2) (h3:(tr N x.1).length ≤ 2):okN (N ++ [x]) :=by
 have c:∀ i,i < (N ++ [x]).length → i < N.length ∨ i = N.length :=fun i hi => by
  rw [List.length_append] at hi
  simp only [List.length_cons,List.length_nil] at hi
  omega
 refine ⟨ql4 h.wf hx,fun i hi => ?_,fun i hi => ?_,fun i hi => ?_⟩
 ·rcases c i hi with e | rfl
  ·rw [qsm e];exact h.t1 i e
  ·rw [qkv];exact h1
 ·rcases c i hi with e | rfl
  ·rw [qsm e];exact h.t2 i e
  ·rw [qkv];exact h2
 ·rcases c i hi with e | rfl
  ·rw [qvv h.wf hx e];exact h.d i e
  ·rw [ql8 h.wf hx,List.length_append]
   simp only [List.length_cons,List.length_nil]
   omega
end
end Go.Abs.Seat
/-! The path to an arbor: how far it is, its train. -/
namespace Go.Abs.Seat
noncomputable section
open Go Go.Abs Go.Proofs.Tryz
set_option maxRecDepth 100000
set_option maxHeartbeats 40000000
attribute [local irreducible] IntKind.wrap pEq
section
variable {N:List Lk} {i b:Nat}
end
end
end Go.Abs.Seat

namespace Go.Abs.Seat
noncomputable section
open Go Go.Abs Go.Proofs.Tryz
set_option maxRecDepth 100000
set_option maxHeartbeats 40000000
attribute [local irreducible] IntKind.wrap pEq qco
theorem gft {x:Nat} {c:Bool} (h:c = true):@Bool.rec (fun _ => Bool) (@Bool.rec (fun _ => Bool) true false (x,false).snd) (x,false).snd c = false :=by subst h;rfl
theorem gff {x:Nat} {c:Bool} (h:c = false):@Bool.rec (fun _ => Bool) (@Bool.rec (fun _ => Bool) true false (x,false).snd) (x,false).snd c = true :=by subst h;rfl
def LL (v:AV) (L:List LkI):Prop :=v = .nils ∧ L = [] ∨ v = lkA L
theorem LL.no {v:AV} {L:List LkI} (h:LL v L):Live noL v :=by
 rcases h with ⟨rfl,_⟩ | rfl
 ·trivial
 ·exact qy9 L
def dgt (n:Nat):UInt8 :=UInt8.ofNat (48 + n)
def dec (n:Nat):List UInt8 :=if n < 10 then [dgt n] else if n < 100 then [dgt (n / 10),dgt (n % 10)] else [dgt (n / 100),dgt (n / 10 % 10),dgt (n % 10)]
theorem qt3 {T:Tr TypeInfo} {t:TypeId} {s:List UInt8} {k k':IntKind} {x y:Int} {a b:Nat} (hT:tyU T t = some .string) (hx:x = Int.ofNat a) (hy:y = Int.ofNat b) (hab:a ≤ b) (hb:b ≤ s.length):qco T t (.str s) (some (.int k x)) (some (.int k' y)) = .ret (.str ((s.drop a).take (b - a))) :=by
 subst hx hy
 unfold qco
 rw [hT]
 have h1:bnd (some (.int k' (Int.ofNat b))) s.length s.length = some b :=by
  simp [bnd,hb]
 have h2:bnd (some (.int k (Int.ofNat a))) 0 b = some a :=by
  simp [bnd,hab]
 simp only [h1,h2]
theorem wk_s {a b:List UInt8} (h:a = b):Wk (.str a) (.str b) :=h ▸ Wk.refl _
def dg1:List UInt8 :=[48,49,50,51,52,53,54,55,56,57,97,98,99,100,101,102,103,104,105,106,107,108,109,110,111,112,113,114,115,116,117,118,119,120,121,122]
def dg2:List UInt8 :=[48,48,48,49,48,50,48,51,48,52,48,53,48,54,48,55,48,56,48,57,49,48,49,49,49,50,49,51,49,52,49,53,49,54,49,55,49,56,49,57,50,48,50,49,50,50,50,51,50,52,50,53,50,54,50,55,50,56,50,57,51,48,51,49,51,50,51,51,51,52,51,53,51,54,51,55,51,56,51,57,52,48,52,49,52,50,52,51,52,52,52,53,52,54,52,55,52,56,52,57,53,48,53,49,53,50,53,51,53,52,53,53,53,54,53,55,53,56,53,57,54,48,54,49,54,50,54,51,54,52,54,53,54,54,54,55,54,56,54,57,55,48,55,49,55,50,55,51,55,52,55,53,55,54,55,55,55,56,55,57,56,48,56,49,56,50,56,51,56,52,56,53,56,54,56,55,56,56,56,57,57,48,57,49,57,50,57,51,57,52,57,53,57,54,57,55,57,56,57,57]
theorem qyp:∀ n,n < 10 → ((dg1.drop n).take (n + 1 - n)) = dec n :=by decide +kernel
theorem qyo:∀ n,n < 100 → ¬ n < 10 → ((dg2.drop (n * 2)).take (n * 2 + 2 - n * 2)) = dec n :=by decide +kernel
theorem qsb {n:Nat} (h:n < 100):Pure prog 83 [nv n] (.str (dec n)) :=by
 have c1:decide (Int.ofNat n < 100) = true :=decide_eq_true (by simp only [Int.ofNat_eq_natCast];omega)
 by_cases h10:n < 10
 ·have c2:decide (Int.ofNat n < 10) = true :=decide_eq_true (by simp only [Int.ofNat_eq_natCast];omega)
  have w1:IntKind.i64.wrap (Int.ofNat n + 1) = Int.ofNat (n + 1) :=qbr (m :=n + 1) (by omega)
  refine qbg hE rfl (by repeat' first|exact trivial|assumption|exact qa3 _|exact fun _ h => nomatch h|apply And.intro) (by repeat' first|exact trivial|assumption|exact qa3 _|exact fun _ h => nomatch h|apply And.intro) fun S q pc hS hq hC hE => ?_
  conv => whnf
  refine qb0 hC ?_
  conv => whnf
  refine qcy hE hS ?_
  conv => whnf
  refine qb0 hC ?_
  conv => whnf
  refine qcy hE hS ?_
  conv => whnf
  repeat ((first|refine qa5 c1 ?_|refine qa4 c1 ?_|refine pkT c1 ?_|refine qax c1 ?_|refine qa5 (qcc c1) ?_|refine qa4 (qcc c1) ?_|refine pkT (qcc c1) ?_|refine qax (qcc c1) ?_|refine qaq hS (by kernel_rfl) ?_);conv => whnf)
  refine qb0 hC ?_
  conv => whnf
  refine qcy hE hS ?_
  conv => whnf
  repeat ((first|refine qa5 c2 ?_|refine qa4 c2 ?_|refine pkT c2 ?_|refine qax c2 ?_|refine qaq hS (by kernel_rfl) ?_);conv => whnf)
  refine qa2 (qt3 (s :=dg1) (a :=n) (b :=n + 1) (by kernel_rfl) rfl w1 (Nat.le_succ n) (show n + 1 ≤ 36 by omega)) ?_
  conv => whnf
  exact ⟨_,rfl,wk_s (qyp n h10)⟩
 ·have c2:decide (Int.ofNat n < 10) = false :=decide_eq_false (by simp only [Int.ofNat_eq_natCast];omega)
  have w1:IntKind.i64.wrap (Int.ofNat n * 2) = Int.ofNat (n * 2) :=qbr (m :=n * 2) (by omega)
  have w2:IntKind.i64.wrap (IntKind.i64.wrap (Int.ofNat n * 2) + 2) = Int.ofNat (n * 2 + 2) :=by rw [w1];exact qbr (m :=n * 2 + 2) (by omega)
  refine qbg hE rfl (by repeat' first|exact trivial|assumption|exact qa3 _|exact fun _ h => nomatch h|apply And.intro) (by repeat' first|exact trivial|assumption|exact qa3 _|exact fun _ h => nomatch h|apply And.intro) fun S q pc hS hq hC hE => ?_
  conv => whnf
  refine qb0 hC ?_
  conv => whnf
  refine qcy hE hS ?_
  conv => whnf
  refine qb0 hC ?_
  conv => whnf
  refine qcy hE hS ?_
  conv => whnf
  repeat ((first|refine qa5 c1 ?_|refine qa4 c1 ?_|refine pkT c1 ?_|refine qax c1 ?_|refine qa5 (qcc c1) ?_|refine qa4 (qcc c1) ?_|refine pkT (qcc c1) ?_|refine qax (qcc c1) ?_|refine qaq hS (by kernel_rfl) ?_);conv => whnf)
  refine qb0 hC ?_
  conv => whnf
  refine qcy hE hS ?_
  conv => whnf
  repeat ((first|refine qa9 c2 ?_|refine qbc c2 ?_|refine pkF c2 ?_|refine qar c2 ?_|refine qaq hS (by kernel_rfl) ?_);conv => whnf)
  refine qa2 (qt3 (s :=dg2) (a :=n * 2) (b :=n * 2 + 2) (by kernel_rfl) w1 w2 (Nat.le_add_right _ 2) (show n * 2 + 2 ≤ 200 by omega)) ?_
  conv => whnf
  exact ⟨_,rfl,wk_s (qyo n h h10)⟩
theorem dgW {m:Nat} {x:Int} (hx:x = Int.ofNat m) (hm:m < 10):UInt8.ofNat (IntKind.u8.wrap (IntKind.i64.wrap (48 + x))).toNat = dgt m :=by
 subst hx
 have h1:IntKind.i64.wrap (48 + Int.ofNat m) = Int.ofNat (48 + m) :=by
  rw [show (48:Int) + Int.ofNat m = Int.ofNat (48 + m) from rfl]
  exact qbr (m :=48 + m) (by omega)
 rw [h1]
 unfold dgt
 have h2:∀ m,m < 10 → (IntKind.u8.wrap (Int.ofNat (48 + m))).toNat = 48 + m :=by decide +kernel
 rw [h2 m hm]
theorem qcl {n:Nat} (h:n < 1000):Pure prog 40 [nv n] (.str (dec n)) :=by
 have k0 :=dgW (x :=Int.tmod (Int.ofNat n) 10) (m :=n % 10) rfl (Nat.mod_lt _ (by decide))
 have q1:IntKind.i64.wrap ((Int.ofNat n).tdiv 10) = Int.ofNat (n / 10) :=qbr (m :=n / 10) (by omega)
 have q2:IntKind.i64.wrap ((IntKind.i64.wrap ((Int.ofNat n).tdiv 10)).tdiv 10) = Int.ofNat (n / 100) :=by
  rw [q1,show n / 100 = n / 10 / 10 by omega]
  exact qbr (m :=n / 10 / 10) (by omega)
 have k1 :=dgW (x :=(IntKind.i64.wrap ((Int.ofNat n).tdiv 10)).tmod 10) (m :=n / 10 % 10) (by rw [q1];rfl) (Nat.mod_lt _ (by decide))
 have k2 :=dgW (x :=(IntKind.i64.wrap ((IntKind.i64.wrap ((Int.ofNat n).tdiv 10)).tdiv 10)).tmod 10) (m :=n / 100 % 10) (by rw [q2];rfl) (Nat.mod_lt _ (by decide))
 by_cases h10:n < 10
 ·have c1:decide (Int.ofNat n ≥ 10) = false :=decide_eq_false (by simp only [Int.ofNat_eq_natCast];omega)
  refine qbg hE rfl (by repeat' first|exact trivial|assumption|exact qa3 _|exact fun _ h => nomatch h|apply And.intro) (by repeat' first|exact trivial|assumption|exact qa3 _|exact fun _ h => nomatch h|apply And.intro) fun S q pc hS hq hC hE => ?_
  conv => whnf
  refine qa6 hE hS ?_
  conv => whnf
  repeat ((first|refine qa9 c1 ?_|refine qbc c1 ?_|refine pkF c1 ?_|refine qar c1 ?_|refine qaq hS (by kernel_rfl) ?_);conv => whnf)
  exact ⟨_,rfl,wk_s (by rw [k0,Nat.mod_eq_of_lt h10,dec,if_pos h10])⟩
 ·have c1:decide (Int.ofNat n ≥ 10) = true :=decide_eq_true (by simp only [Int.ofNat_eq_natCast];omega)
  by_cases h100:n < 100
  ·have c2:decide (IntKind.i64.wrap ((Int.ofNat n).tdiv 10) ≥ 10) = false :=decide_eq_false (by rw [q1];simp only [Int.ofNat_eq_natCast];omega)
   refine qbg hE rfl (by repeat' first|exact trivial|assumption|exact qa3 _|exact fun _ h => nomatch h|apply And.intro) (by repeat' first|exact trivial|assumption|exact qa3 _|exact fun _ h => nomatch h|apply And.intro) fun S q pc hS hq hC hE => ?_
   conv => whnf
   refine qa6 hE hS ?_
   conv => whnf
   repeat ((first|refine qa5 c1 ?_|refine qa4 c1 ?_|refine pkT c1 ?_|refine qax c1 ?_|refine qaq hS (by kernel_rfl) ?_);conv => whnf)
   refine qa6 hE hS ?_
   conv => whnf
   repeat ((first|refine qa9 c2 ?_|refine qbc c2 ?_|refine pkF c2 ?_|refine qar c2 ?_|refine qaq hS (by kernel_rfl) ?_);conv => whnf)
   exact ⟨_,rfl,wk_s (by rw [k0,k1,Nat.mod_eq_of_lt (show n / 10 < 10 by omega),dec,if_neg h10,if_pos h100];rfl)⟩
  ·have c2:decide (IntKind.i64.wrap ((Int.ofNat n).tdiv 10) ≥ 10) = true :=decide_eq_true (by rw [q1];simp only [Int.ofNat_eq_natCast];omega)
   have c3:decide (IntKind.i64.wrap ((IntKind.i64.wrap ((Int.ofNat n).tdiv 10)).tdiv 10) ≥ 10) = false :=decide_eq_false (by rw [q2];simp only [Int.ofNat_eq_natCast];omega)
   refine qbg hE rfl (by repeat' first|exact trivial|assumption|exact qa3 _|exact fun _ h => nomatch h|apply And.intro) (by repeat' first|exact trivial|assumption|exact qa3 _|exact fun _ h => nomatch h|apply And.intro) fun S q pc hS hq hC hE => ?_
   conv => whnf
   refine qa6 hE hS ?_
   conv => whnf
   repeat ((first|refine qa5 c1 ?_|refine qa4 c1 ?_|refine pkT c1 ?_|refine qax c1 ?_|refine qaq hS (by kernel_rfl) ?_);conv => whnf)
   refine qa6 hE hS ?_
   conv => whnf
   repeat ((first|refine qa5 c2 ?_|refine qa4 c2 ?_|refine pkT c2 ?_|refine qax c2 ?_|refine qaq hS (by kernel_rfl) ?_);conv => whnf)
   refine qa6 hE hS ?_
   conv => whnf
   repeat ((first|refine qa9 c3 ?_|refine qbc c3 ?_|refine pkF c3 ?_|refine qar c3 ?_|refine qaq hS (by kernel_rfl) ?_);conv => whnf)
   exact ⟨_,rfl,wk_s (by rw [k0,k1,k2,Nat.mod_eq_of_lt (show n / 100 < 10 by omega),dec,if_neg h10,if_neg h100];rfl)⟩
end
end Go.Abs.Seat
namespace Go.Abs.Seat
noncomputable section
open Go Go.Abs Go.Proofs.Tryz
set_option maxRecDepth 100000
set_option maxHeartbeats 40000000
attribute [local irreducible] pEq
theorem qb8 (n:Nat):(dec n).length ≤ 3 :=by
 unfold dec
 split
 ·exact kle rfl
 ·split <;> exact kle rfl
theorem stOk {a b:List UInt8} (h:(a ++ b).length ≤ 1000000):decide (a.length + b.length ≤ qev) = true :=decide_eq_true (by rw [List.length_append] at h;unfold qev;omega)
theorem qfv (n:Nat):([32] ++ dec n).length ≤ 4 :=by
 have :=qb8 n
 rw [List.length_append]
 show 1 + _ ≤ 4
 omega
theorem qbv {a b:List UInt8} {m n:Nat} (ha:a.length ≤ m) (hb:b.length ≤ n):(a ++ b).length ≤ m + n :=by rw [List.length_append];omega
theorem mil {a m:Nat} (h:a ≤ m) (hm:Nat.ble m 1000000 = true):a ≤ 1000000 :=Nat.le_trans h (Nat.le_of_ble_eq_true hm)
end
end Go.Abs.Seat
namespace Go.Abs.Seat
noncomputable section
open Go Go.Abs Go.Proofs.Tryz
set_option maxRecDepth 100000
set_option maxHeartbeats 40000000
attribute [local irreducible] IntKind.wrap pEq qco
def spl (c:UInt8):List UInt8 → List (List UInt8)
 | [] => [[]]
 |b :: r => if b = c then [] :: spl c r else match spl c r with
  | [] => [[b]]
  |x :: t => (b :: x) :: t
theorem qgf (c:UInt8):∀ s,spl c s ≠ []
 | [] => fun h => nomatch h
 |b :: r => by
  rw [spl]
  split
  ·exact fun h => nomatch h
  ·split <;> exact fun h => nomatch h
theorem qmc (c:UInt8):∀ s,(spl c s).length = Lib.countByte s c + 1
 | [] => rfl
 |b :: r => by
  have ih :=qmc c r
  unfold Lib.countByte at ih ⊢
  rw [spl,List.count_cons]
  by_cases e:b = c
  ·rw [if_pos e,e]
   simp [ih]
  ·rw [if_neg e]
   have hb:(b == c) = false :=beq_eq_false_iff_ne.2 e
   rw [hb]
   split
   ·rename_i h;exact absurd h (qgf c r)
   ·rename_i x t h
    rw [h] at ih
    simpa using ih
theorem qj3 (c:UInt8):∀ r,(Lib.indexByte r c = -1 ∧ spl c r = [r]) ∨ ∃ m,Lib.indexByte r c = Int.ofNat m ∧ m < r.length ∧ spl c r = r.take m :: spl c (r.drop (m + 1))
 | [] => .inl ⟨rfl,rfl⟩
 |b :: r => by
  by_cases e:b = c
  ·refine .inr ⟨0,?_,Nat.succ_pos _,?_⟩
   ·rw [Lib.indexByte,if_pos (beq_iff_eq.2 e)];rfl
   ·rw [spl,if_pos e];rfl
  ·have hb:¬ (b == c) = true :=fun z => e (beq_iff_eq.1 z)
   rcases qj3 c r with ⟨h1,h2⟩ | ⟨m,h1,h2,h3⟩
   ·left
    rw [Lib.indexByte,if_neg hb,h1,spl,if_neg e,h2]
    exact ⟨rfl,rfl⟩
   ·refine .inr ⟨m + 1,?_,Nat.succ_lt_succ h2,?_⟩
    ·rw [Lib.indexByte,if_neg hb,h1,if_neg (fun z => by have :=beq_iff_eq.1 z;simp only [Int.ofNat_eq_natCast] at this;omega)];rfl
    ·rw [spl,if_neg e,h3];rfl
theorem qwv {T:Tr TypeInfo} {t:TypeId} {s:List UInt8} {k:IntKind} {y:Int} {b:Nat} (hT:tyU T t = some .string) (hy:y = Int.ofNat b) (hb:b ≤ s.length):qco T t (.str s) none (some (.int k y)) = .ret (.str (s.take b)) :=by
 subst hy
 unfold qco
 rw [hT]
 have h1:bnd (some (.int k (Int.ofNat b))) s.length s.length = some b :=by
  simp [bnd,hb]
 have h2:bnd none 0 b = some 0 :=rfl
 simp only [h1,h2,List.drop_zero,Nat.sub_zero]
theorem qic {T:Tr TypeInfo} {t:TypeId} {s:List UInt8} {k:IntKind} {x:Int} {a:Nat} (hT:tyU T t = some .string) (hx:x = Int.ofNat a) (ha:a ≤ s.length):qco T t (.str s) (some (.int k x)) none = .ret (.str (s.drop a)) :=by
 subst hx
 unfold qco
 rw [hT]
 have h1:bnd none s.length s.length = some s.length :=rfl
 have h2:bnd (some (.int k (Int.ofNat a))) 0 s.length = some a :=by
  simp [bnd,ha]
 simp only [h1,h2]
 rw [List.take_of_length_le (by rw [List.length_drop];exact Nat.le_refl _)]
theorem qz0 {T:Tr TypeInfo} {t e:TypeId} {inf:TypeInfo} {o len cap h:Nat} {k:IntKind} {y:Int} (hT:tyU T t = some (.slice e)) (hi:T.get e = some inf) (hy:y = Int.ofNat h) (hh:h ≤ cap):qco T t (.slc o 0 len cap) none (some (.int k y)) = .chk (Nat.ble len cap) (.ret (.slc o 0 h cap)) :=by
 subst hy
 unfold qco
 rw [hT]
 have h1:bnd (some (.int k (Int.ofNat h))) len cap = some h :=by
  simp [bnd,hh]
 have h2:bnd none 0 h = some 0 :=rfl
 simp only [hi,h1,h2,Nat.zero_mul,Nat.add_zero,ite_self,Nat.sub_zero]
theorem qyl (c:UInt8):(Int.ofNat c.toNat).toNat.toUInt8 = c :=by simp
theorem wk_i {a b:Int} (h:a = b):Wk (iv a) (iv b) :=h ▸ Wk.refl _
theorem qut (s:List UInt8) (c:UInt8):Pure prog 128 [.str s,.str [c]] (iv (Lib.indexByte s c)) :=by
 by_cases e:s = [c]
 ·have e1:([c] == s) = true :=beq_iff_eq.2 e.symm
  have e2:Lib.indexByte s c = 0 :=by rw [e,Lib.indexByte,if_pos (beq_self_eq_true c)]
  refine qbg hE rfl (by repeat' first|exact trivial|assumption|exact qa3 _|exact fun _ h => nomatch h|apply And.intro) (by repeat' first|exact trivial|assumption|exact qa3 _|exact fun _ h => nomatch h|apply And.intro) fun S q pc hS hq hC hE => ?_
  conv => whnf
  refine qb0 hC ?_
  conv => whnf
  refine qcy hE hS ?_
  conv => whnf
  repeat ((first|refine qa5 e1 ?_|refine qa4 e1 ?_|refine pkT e1 ?_|refine qax e1 ?_|refine qa5 (qcc e1) ?_|refine qa4 (qcc e1) ?_|refine pkT (qcc e1) ?_|refine qax (qcc e1) ?_|refine qa9 (qc8 e1) ?_|refine qbc (qc8 e1) ?_|refine pkF (qc8 e1) ?_|refine qar (qc8 e1) ?_|refine qaq hS (by kernel_rfl) ?_);conv => whnf)
  exact ⟨_,rfl,wk_i e2.symm⟩
 ·have e1:([c] == s) = false :=beq_eq_false_iff_ne.2 fun z => e z.symm
  refine qbg hE rfl (by repeat' first|exact trivial|assumption|exact qa3 _|exact fun _ h => nomatch h|apply And.intro) (by repeat' first|exact trivial|assumption|exact qa3 _|exact fun _ h => nomatch h|apply And.intro) fun S q pc hS hq hC hE => ?_
  conv => whnf
  refine qb0 hC ?_
  conv => whnf
  refine qcy hE hS ?_
  conv => whnf
  repeat ((first|refine qa9 e1 ?_|refine qbc e1 ?_|refine pkF e1 ?_|refine qar e1 ?_|refine qa5 (gff e1) ?_|refine qa4 (gff e1) ?_|refine pkT (gff e1) ?_|refine qax (gff e1) ?_|refine qa9 (qc8 e1) ?_|refine qbc (qc8 e1) ?_|refine pkF (qc8 e1) ?_|refine qar (qc8 e1) ?_|refine qaq hS (by kernel_rfl) ?_);conv => whnf)
  refine qb0 hC ?_
  conv => whnf
  refine qcy hE hS ?_
  conv => whnf
  exact ⟨_,rfl,wk_i (by rw [show ((c.toNat:Int)).toNat.toUInt8 = c from qyl c])⟩
theorem qs3 (s:List UInt8) (c:UInt8):Pure prog 127 [.str s,.str [c]] (nv (Lib.countByte s c)) :=by
 refine qbg hE rfl (by repeat' first|exact trivial|assumption|exact qa3 _|exact fun _ h => nomatch h|apply And.intro) (by repeat' first|exact trivial|assumption|exact qa3 _|exact fun _ h => nomatch h|apply And.intro) fun S q pc hS hq hC hE => ?_
 conv => whnf
 repeat ((first|refine qaq hS (by kernel_rfl) ?_);conv => whnf)
 exact ⟨_,rfl,wk_i (by rw [show ((c.toNat:Int)).toNat.toUInt8 = c from qyl c];rfl)⟩
def stA (l:List (List UInt8)):List AV :=l.map .str
theorem qbs:∀ l,Lives noL (stA l)
 | [] => trivial
 | _ :: r => ⟨trivial,qbs r⟩
theorem qfu (l:List (List UInt8)):(stA l).length = l.length :=List.length_map _
structure SpI (c:UInt8) (s:List UInt8) (n i:Nat) (r:List UInt8) (t:Tr AV) (P:List (List UInt8)):Prop where
 eq:spl c s = P ++ spl c r
 len:P.length = i
 old:∀ j,j < i → t.get j = (stA P)[j]?
 new:∀ j,i ≤ j → j < n → ∃ x,t.get j = some x
 le:r.length ≤ s.length
 bdd:∀ j a,t.get j = some a → bd a = 0
theorem SpI.bT {c:UInt8} {s r:List UInt8} {n i k:Nat} {t:Tr AV} {P:List (List UInt8)} (h:SpI c s n i r t P):BdT k t :=qta fun j a e => by rw [h.bdd j a e];exact Nat.zero_le _
theorem SpI.step {c:UInt8} {s r:List UInt8} {n i m:Nat} {t:Tr AV} {P:List (List UInt8)} (h:SpI c s n i r t P) (hi:i < n) (h3:spl c r = r.take m :: spl c (r.drop (m + 1))):SpI c s n (i + 1) (r.drop (m + 1)) (tset (pathOf (0 + i * 1)) t (.str (r.take m))) (P ++ [r.take m]) :=by
 obtain ⟨x,hx⟩ :=h.new i (Nat.le_refl i) hi
 have hx':t.get (0 + i * 1) = some x :=by rw [Nat.zero_add,Nat.mul_one];exact hx
 have hl :=h.len
 refine ⟨by rw [h.eq,h3,List.append_assoc];rfl,by rw [List.length_append,h.len];rfl,fun j hj => ?_,fun j h1 h2 => ?_,Nat.le_trans (by rw [List.length_drop];exact Nat.sub_le _ _) h.le,?_⟩
 ·rw [qh8 hx',Nat.zero_add,Nat.mul_one]
  unfold stA
  rw [List.map_append]
  by_cases e:j = i
  ·rw [if_pos e,List.getElem?_append_right (by rw [List.length_map];omega),List.length_map,hl,e,Nat.sub_self];rfl
  ·rw [if_neg e,List.getElem?_append_left (by rw [List.length_map];omega)]
   exact h.old j (by omega)
 ·rw [qh8 hx',Nat.zero_add,Nat.mul_one,if_neg (by omega)]
  exact h.new j (by omega) h2
 ·intro j a e
  rw [qh8 hx'] at e
  split at e
  ·cases e;rfl
  ·exact h.bdd j a e
theorem qdg {s:List UInt8} {k:Nat} (h:k < s.length):(match nthB s k with | some b => Plan.ret (.int .u8 b.toNat) | none => Plan.fail) = Plan.ret (.int .u8 (s.getD k 0).toNat) :=by
 rw [qkp,List.getElem?_eq_getElem h]
 simp [List.getD,h]
theorem qcu (s:List UInt8) (c:UInt8) (hs:s.length ≤ 1000):Pure prog 84 [.str s,.str [c]] (.lst (stA (spl c s)) (spl c s).length .no) :=by
 have p1 :=qs3 s c
 have e1:([c] == ([]:List UInt8)) = false :=rfl
 have h1 :=qmc c s
 have h2:Lib.countByte s c ≤ s.length :=List.count_le_length
 obtain ⟨M,hM⟩ : ∃ M,M = minI (IntKind.i64.wrap (Int.ofNat (Lib.countByte s c) + 1)) (IntKind.i64.wrap ((s.length:Int) + 1)) :=⟨_,rfl⟩
 have hM2:M = Int.ofNat (Lib.countByte s c + 1) :=by
  rw [hM,show IntKind.i64.wrap (Int.ofNat (Lib.countByte s c) + 1) = Int.ofNat (Lib.countByte s c + 1) from qbr (m :=Lib.countByte s c + 1) (by omega),show IntKind.i64.wrap ((s.length:Int) + 1) = Int.ofNat (s.length + 1) from qbr (m :=s.length + 1) (by omega)]
  unfold minI
  split
  ·rename_i h
   simp only [Int.ofNat_eq_natCast] at h ⊢
   omega
  ·rfl
 have m1:decide (0 ≤ minI (IntKind.i64.wrap (Int.ofNat (Lib.countByte s c) + 1)) (IntKind.i64.wrap ((s.length:Int) + 1))) = true :=decide_eq_true (by rw [← hM,hM2];exact Int.natCast_nonneg _)
 have m2:(minI (IntKind.i64.wrap (Int.ofNat (Lib.countByte s c) + 1)) (IntKind.i64.wrap ((s.length:Int) + 1))).toNat = Lib.countByte s c + 1 :=by rw [← hM,hM2];rfl
 have m3:decide (minI (IntKind.i64.wrap (Int.ofNat (Lib.countByte s c) + 1)) (IntKind.i64.wrap ((s.length:Int) + 1)) ≤ minI (IntKind.i64.wrap (Int.ofNat (Lib.countByte s c) + 1)) (IntKind.i64.wrap ((s.length:Int) + 1))) = true :=decide_eq_true (Int.le_refl _)
 have m4:decide (minI (IntKind.i64.wrap (Int.ofNat (Lib.countByte s c) + 1)) (IntKind.i64.wrap ((s.length:Int) + 1)) ≤ 9223372036854775807) = true :=decide_eq_true (by rw [← hM,hM2];simp only [Int.ofNat_eq_natCast];omega)
 have m5:decide (16 * (minI (IntKind.i64.wrap (Int.ofNat (Lib.countByte s c) + 1)) (IntKind.i64.wrap ((s.length:Int) + 1))).toNat ≤ 2 * 140737488355328) = true :=decide_eq_true (by rw [m2];omega)
 have lS :=qbs (spl c s)
 have eM:IntKind.i64.wrap (minI (IntKind.i64.wrap (Int.ofNat (Lib.countByte s c) + 1)) (IntKind.i64.wrap ((s.length:Int) + 1)) - 1) = Int.ofNat (Lib.countByte s c) :=by
  rw [← hM,hM2,show Int.ofNat (Lib.countByte s c + 1) - 1 = Int.ofNat (Lib.countByte s c) by simp only [Int.ofNat_eq_natCast];omega]
  exact qbr (m :=Lib.countByte s c) (by omega)
 have eS:AV.slc 0 0 (minI (IntKind.i64.wrap (Int.ofNat (Lib.countByte s c) + 1)) (IntKind.i64.wrap ((s.length:Int) + 1))).toNat (minI (IntKind.i64.wrap (Int.ofNat (Lib.countByte s c) + 1)) (IntKind.i64.wrap ((s.length:Int) + 1))).toNat = .slc 0 0 (Lib.countByte s c + 1) (Lib.countByte s c + 1) :=by rw [m2]
 refine qlg hE rfl (by repeat' first|exact trivial|assumption|exact qa3 _|exact fun _ h => nomatch h|apply And.intro) (by repeat' first|exact trivial|assumption|exact qa3 _|exact fun _ h => nomatch h|apply And.intro) fun S q pc hS hq hC hE => ?_
 conv => whnf
 refine qb0 hC ?_
 conv => whnf
 refine qcy hE hS ?_
 conv => whnf
 repeat ((first|refine qa5 ‹_› ?_|refine qa4 ‹_› ?_|refine pkT ‹_› ?_|refine qax ‹_› ?_|refine qav hC (p1) ?_|refine qaq hS (by kernel_rfl) ?_);conv => whnf)
 refine qxp m2 ?_
 refine qw4 (show Lib.countByte s c + 1 + 1 < 2 ^ 64 by omega) ?_
 intro t0 ht0
 conv => whnf
 have hI0:SpI c s (Lib.countByte s c + 1) 0 s t0 [] :=⟨rfl,rfl,fun j h => absurd h (Nat.not_lt_zero _),fun j _ h => ⟨_,by rw [ht0,if_pos h]⟩,Nat.le_refl _,fun j a e => by
  rw [ht0] at e
  split at e
  ·cases e;rfl
  ·cases e⟩
 refine qbh hE hS (A :=Nat × List UInt8 × Tr AV) [1,2] (fun (i,r,t) => [(0,.str r),(3,nv (Lib.countByte s c)),(9,.slc 0 0 (Lib.countByte s c + 1) (Lib.countByte s c + 1)),(10,nv i)]) (fun (_,_,t) => [(0,.cells t (Lib.countByte s c + 1) 9)]) (fun _ => []) (fun (i,r,t) => i ≤ Lib.countByte s c ∧ ∃ P,SpI c s (Lib.countByte s c + 1) i r t P) (fun (i,_,_) => Lib.countByte s c - i) (0,s,t0) (kle rfl) rfl (zhg 1) ⟨Nat.zero_le _,[],hI0⟩ ?_
 rintro ⟨i,r,t⟩ ⟨hi,hP⟩ K hK
 obtain rfl:K = 1 :=hK
 conv => whnf
 refine Exists.elim hP fun P hP => ?_
 by_cases hi2:i < Lib.countByte s c
 ·have pi :=qut r c
  have hl :=congrArg List.length hP.eq
  have hP2 :=hP.len
  have hrl :=hP.le
  rw [List.length_append,h1,hP2] at hl
  refine Or.elim (qj3 c r) (fun z => ?_) fun z => Exists.elim z fun m z => ?_
  ·exact absurd hl (by rw [z.2];show Lib.countByte s c + 1 ≠ i + 1;omega)
  ·have z1 :=z.1
   have z2 :=z.2.1
   have z3 :=z.2.2
   rw [z1] at pi
   have t1:decide (Int.ofNat m < 0) = false :=decide_eq_false (by simp only [Int.ofNat_eq_natCast];omega)
   have w0:IntKind.i64.wrap (Int.ofNat m + 0) = Int.ofNat m :=qbr (m :=m) (by omega)
   have w1:IntKind.i64.wrap (Int.ofNat m + 1) = Int.ofNat (m + 1) :=qbr (m :=m + 1) (by omega)
   have hi1:IntKind.i64.wrap (Int.ofNat i + 1) = Int.ofNat (i + 1) :=qbr (m :=i + 1) (by omega)
   have b1:Nat.ble (0 + i * 1 + 1) (Lib.countByte s c + 1) = true :=Nat.ble_eq_true_of_le (by omega)
   have hn :=hP.new i (Nat.le_refl i) (by omega)
   have hS :=hP.step (by omega) z3
   refine Exists.elim hn fun x hx => ?_
   have gt:t.get (0 + i * 1) = some x :=by rw [Nat.zero_add,Nat.mul_one];exact hx
   have iR :=qbf (show i < Lib.countByte s c + 1 by omega)
   try have z1:=qbk hi2
   repeat ((first|refine qa2 (qwv (by kernel_rfl) w0 (Nat.le_of_lt z2)) ?_|refine qa5 ‹_› ?_|refine qa4 ‹_› ?_|refine pkT ‹_› ?_|refine qax ‹_› ?_|refine qa9 ‹_› ?_|refine qbc ‹_› ?_|refine pkF ‹_› ?_|refine qar ‹_› ?_|refine qav hC (pi) ?_|refine qaq hS (by kernel_rfl) ?_);conv => whnf)
   refine qq0 gt ?_
   conv => whnf
   repeat ((first|refine qa2 (qic (by kernel_rfl) w1 z2) ?_|refine qa5 (qbk hi2) ?_|refine qa4 (qbk hi2) ?_|refine pkT (qbk hi2) ?_|refine qax (qbk hi2) ?_|refine qa9 (qbk hi2) ?_|refine qbc (qbk hi2) ?_|refine pkF (qbk hi2) ?_|refine qar (qbk hi2) ?_|refine qaq hS (by kernel_rfl) ?_);conv => whnf)
   exact ⟨(i + 1,r.drop (m + 1),tset (pathOf (0 + i * 1)) t (.str (r.take m))),⟨hi2,_,hS⟩,by show Lib.countByte s c - (i + 1) < Lib.countByte s c - i;omega,Nat.le_refl _,(zhg 1)⟩
 ·have hiE:i = Lib.countByte s c :=by omega
  have hl :=congrArg List.length hP.eq
  have hP2 :=hP.len
  rw [List.length_append,h1,hP2] at hl
  refine Or.elim (qj3 c r) (fun z => ?_) fun z => Exists.elim z fun m z => ?_
  rotate_left
  ·have :=List.length_pos_iff.2 (qgf c (r.drop (m + 1)))
   exact absurd hl (by rw [z.2.2,List.length_cons];omega)
  refine Exists.elim (hP.new i (Nat.le_refl i) (by omega)) fun x hx => ?_
  have gt:t.get (0 + i * 1) = some x :=by rw [Nat.zero_add,Nat.mul_one];exact hx
  have b1:Nat.ble (0 + i * 1 + 1) (Lib.countByte s c + 1) = true :=Nat.ble_eq_true_of_le (by omega)
  have b2:Nat.ble (Lib.countByte s c + 1) (Lib.countByte s c + 1) = true :=Nat.ble_eq_true_of_le (Nat.le_refl _)
  have iR :=qbf (show i < Lib.countByte s c + 1 by omega)
  have hi1:IntKind.i64.wrap (Int.ofNat i + 1) = Int.ofNat (i + 1) :=qbr (m :=i + 1) (by omega)
  have hz:∀ j,j < (stA (spl c s)).length → (tset (pathOf (0 + i * 1)) t (.str r)).get j = (stA (spl c s))[j]? :=fun j hj => by
   rw [qh8 gt,hP.eq,z.2,Nat.zero_add,Nat.mul_one]
   rw [qfu,h1] at hj
   unfold stA
   rw [List.map_append]
   by_cases e:j = i
   ·rw [if_pos e,List.getElem?_append_right (by rw [List.length_map];omega),List.length_map,hP2,e,Nat.sub_self];rfl
   ·rw [if_neg e,List.getElem?_append_left (by rw [List.length_map];omega)]
    exact hP.old j (by omega)
  refine qar (qb9 hi2) ?_
  conv => whnf
  refine .inl ?_
  conv => whnf
  repeat ((first|refine qa5 ‹_› ?_|refine qa4 ‹_› ?_|refine pkT ‹_› ?_|refine qax ‹_› ?_|refine qa9 ‹_› ?_|refine qbc ‹_› ?_|refine pkF ‹_› ?_|refine qar ‹_› ?_|refine qaq hS (by kernel_rfl) ?_);conv => whnf)
  refine qq0 gt ?_
  conv => whnf
  repeat ((first|refine qa2 (qz0 (e :=9) (inf :=t9) (h :=i + 1) (by kernel_rfl) (by kernel_rfl) hi1 (show i + 1 ≤ Lib.countByte s c + 1 by omega)) ?_|refine qa5 b2 ?_|refine qa4 b2 ?_|refine pkT b2 ?_|refine qax b2 ?_|refine qaq hS (by kernel_rfl) ?_);conv => whnf)
  exact ⟨_,rfl,FzV.slcL rfl (by rw [qfu,h1];exact Nat.le_refl _) hz lS (by rw [h1,hiE])⟩
end
end Go.Abs.Seat
namespace Go.Abs.Seat
noncomputable section
open Go Go.Abs Go.Proofs.Tryz
set_option maxRecDepth 100000
set_option maxHeartbeats 40000000
attribute [local irreducible] IntKind.wrap pEq




end
end Go.Abs.Seat
