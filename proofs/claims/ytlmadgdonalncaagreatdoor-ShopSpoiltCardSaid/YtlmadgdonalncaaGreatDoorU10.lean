/-
  Bills: what is as defined.
-/
import Derived.Test.YtlmadgdonalncaaGreatDoorU7
import Derived.Test.YtlmadgdonalncaaGreatDoorT51
import Derived.Test.YtlmadgdonalncaaGreatDoorU9
import Derived.Test.YtlmadgdonalncaaGreatDoorU6
import Derived.Test.YtlmadgdonalncaaGreatDoorU4
import Derived.Test.YtlmadgdonalncaaGreatDoorU5
import Derived.Test.YtlmadgdonalncaaGreatDoorT44
namespace Go.Abs.Seat
noncomputable section
open Go Go.Abs Go.Proofs.Tryz
set_option maxRecDepth 100000
set_option maxHeartbeats 40000000
attribute [local irreducible] IntKind.wrap pEq
abbrev bv (x:AV) (a b c s e:Int):AV :=.agg [x,iv a,iv b,iv c,iv s,iv e]
theorem qbk (x a b:Int):Pure prog 101 [iv x,iv a,iv b] (.bool (decide (a ≤ x ∧ x ≤ b))) :=by
 refine qan hE rfl (by repeat' first|exact trivial|assumption|exact qae _|exact fun _ h => nomatch h|apply And.intro) (by repeat' first|exact trivial|assumption|exact qae _|exact fun _ h => nomatch h|apply And.intro) fun S q pc hS hq hC hE => ?_
 conv => whnf
 by_cases h:a ≤ x
 ·rw [show decide (x ≥ a) = true from decide_eq_true h]
  conv => whnf
  exact ⟨_,rfl,wkb (by simp [h])⟩
 ·rw [show decide (x ≥ a) = false from decide_eq_false h]
  conv => whnf
  exact ⟨_,rfl,wkb (by simp [h])⟩
theorem qb3 (x a b:Int):Pure prog 67 [iv x,iv a,iv b] (.bool (decide (a ≤ x ∧ x ≤ b))) :=by
 refine qan hE rfl (by repeat' first|exact trivial|assumption|exact qae _|exact fun _ h => nomatch h|apply And.intro) (by repeat' first|exact trivial|assumption|exact qae _|exact fun _ h => nomatch h|apply And.intro) fun S q pc hS hq hC hE => ?_
 conv => whnf
 by_cases h:a ≤ x
 ·rw [show decide (x ≥ a) = true from decide_eq_true h]
  conv => whnf
  exact ⟨_,rfl,wkb (by simp [h])⟩
 ·rw [show decide (x ≥ a) = false from decide_eq_false h]
  conv => whnf
  exact ⟨_,rfl,wkb (by simp [h])⟩
theorem qby (a:Int):Pure prog 138 [iv a] (.bool (decide (tth a))) :=by
 refine qan hE rfl (by repeat' first|exact trivial|assumption|exact qae _|exact fun _ h => nomatch h|apply And.intro) (by repeat' first|exact trivial|assumption|exact qae _|exact fun _ h => nomatch h|apply And.intro) fun S q pc hS hq hC hE => ?_
 conv => whnf
 refine qab hC (qbk a 4 60) ?_
 conv => whnf
 exact ⟨_,rfl,Wk.refl _⟩
/- The walk through a list for the first member that is so (IndexFunc, ContainsFunc): hp is what the closure tells. -/




end
end Go.Abs.Seat
namespace Go.Abs.Seat
noncomputable section
open Go Go.Abs Go.Proofs.Tryz
set_option maxRecDepth 100000
set_option maxHeartbeats 4000000

abbrev Lk :=Nat × Nat × Nat
abbrev LkI :=Int × Int × Int
abbrev gL (L:List LkI) (i:Nat):LkI :=L.getD i (0,0,0)
abbrev gN (N:List Lk) (i:Nat):Lk :=N.getD i (0,0,0)
def lks:List LkI → List AV
 | [] => []
 |x :: r => iv x.1 :: iv x.2.1 :: iv x.2.2 :: lks r
abbrev lkA (L:List LkI):AV :=.lst (lks L) L.length .no
def cK (x:Lk):LkI :=(Int.ofNat x.1,Int.ofNat x.2.1,Int.ofNat x.2.2)
def cL (N:List Lk):List LkI :=N.map cK
abbrev nkA (N:List Lk):AV :=.lst (lks (cL N)) N.length .no
theorem qcx (N:List Lk):(cL N).length = N.length :=List.length_map _
theorem qtg (N:List Lk):lkA (cL N) = nkA N :=by unfold lkA;rw [qcx]
theorem lks_len:∀ L,(lks L).length = L.length * 3
 | [] => rfl
 | _ :: r => by simp only [lks,List.length_cons,lks_len r];omega
theorem qa5:∀ L,Lives noL (lks L)
 | [] => trivial
 | _ :: r => ⟨trivial,trivial,trivial,qa5 r⟩
theorem lkA_no (L:List LkI):Live noL (lkA L) :=⟨qa5 L,fun _ h => nomatch h⟩
theorem qlh:∀ (l r:List LkI),lks (l ++ r) = lks l ++ lks r
 | [],_ => rfl
 | _ :: l,r => by simp only [lks,List.cons_append,qlh l r]
theorem qif:∀ L,wkl (lks L) = lks L
 | [] => rfl
 | _ :: r => by simp only [lks,wkl,wk,qif r]
theorem qrf (l:List LkI) {i:Nat} (h:i < l.length):l.drop i = gL l i :: l.drop (i + 1) :=by
 rw [List.drop_eq_getElem_cons h]
 simp [gL,List.getD,h]
theorem qow (l:List LkI) {i:Nat} (h:i < l.length):l.take (i + 1) = l.take i ++ [gL l i] :=by
 rw [List.take_succ_eq_append_getElem h]
 simp [gL,List.getD,h]
theorem qko (l:List Lk) {i:Nat} (h:i < l.length):l.take (i + 1) = l.take i ++ [gN l i] :=by
 rw [List.take_succ_eq_append_getElem h]
 simp [gN,List.getD,h]
theorem qtl (l:List Lk) {i:Nat} (h:i < l.length):gN l i ∈ l :=by
 have e:gN l i = l[i] :=by simp [gN,List.getD,h]
 rw [e];exact List.getElem_mem h
theorem qjc (N:List Lk) {i:Nat} (h:i < N.length):gL (cL N) i = cK (gN N i) :=by
 simp [gL,gN,cL,List.getD,h]
theorem qi7:∀ (l:List LkI) (i:Nat),qb4 (i * 3) (lks l) = lks (l.drop i)
 | _,0 => rfl
 | [],i + 1 => by rw [qcq,List.drop_eq_nil_of_le (Nat.zero_le _),List.drop_eq_nil_of_le (Nat.zero_le _)];rfl
 |p :: r,i + 1 => by
  rw [show (i + 1) * 3 = i * 3 + 3 by omega,List.drop_succ_cons,← qi7 r i]
  rfl
theorem qoy (l:List LkI) {i:Nat} (h:i < l.length):qbo 3 (qb4 (i * 3) (lks l)) = some [iv (gL l i).1,iv (gL l i).2.1,iv (gL l i).2.2] :=by
 rw [qi7,qrf l h]
 rfl
theorem qju (N:List Lk) {i:Nat} (h:i < N.length):qbo 3 (qb4 (i * 3) (lks (cL N))) = some [nv (gN N i).1,nv (gN N i).2.1,nv (gN N i).2.2] :=by
 rw [qoy (cL N) (by rw [qcx];exact h),qjc N h]
 rfl
def trF (N:List Lk):Nat → Nat → List (Nat × Nat)
 | _,0 => []
 | 0,_ + 1 => []
 |f + 1,a + 1 => trF N f (gN N a).1 ++ [(gN N a).2]
def tr (N:List Lk) (a:Nat):List (Nat × Nat) :=trF N a a
def wfN (N:List Lk):Prop :=∀ i,i < N.length → (gN N i).1 ≤ i
theorem qlz (N:List Lk) (h:wfN N):∀ (f g a:Nat),a ≤ f → a ≤ g → a ≤ N.length → trF N f a = trF N g a
 | 0,0,0,_,_,_ => rfl
 | 0,_ + 1,0,_,_,_ => rfl
 | _ + 1,0,0,_,_,_ => rfl
 | _ + 1,_ + 1,0,_,_,_ => rfl
 | 0,_,a + 1,h1,_,_ => absurd h1 (Nat.not_succ_le_zero _)
 | _ + 1,0,a + 1,_,h2,_ => absurd h2 (Nat.not_succ_le_zero _)
 |f + 1,g + 1,a + 1,h1,h2,h3 => by
  have :=h a (by omega)
  rw [trF,trF,qlz N h f g (gN N a).1 (by omega) (by omega) (by omega)]
theorem qov (N:List Lk):tr N 0 = [] :=rfl
theorem qdi {N:List Lk} (h:wfN N) {i:Nat} (hi:i < N.length):tr N (i + 1) = tr N (gN N i).1 ++ [(gN N i).2] :=by
 have :=h i hi
 show trF N (i + 1) (i + 1) = _
 rw [trF,qlz N h i (gN N i).1 (gN N i).1 this (Nat.le_refl _) (by omega)]
 rfl
theorem qly (N:List Lk) (h:wfN N) (i:Nat) (hi:i ≤ N.length):∀ (f a:Nat),a ≤ i → trF (N.take i) f a = trF N f a
 | 0,0,_ => rfl
 | _ + 1,0,_ => rfl
 | 0,a + 1,_ => rfl
 |f + 1,a + 1,h1 => by
  have e:gN (N.take i) a = gN N a :=by simp [gN,List.getD,show a < i by omega]
  have :=h a (by omega)
  rw [trF,trF,e,qly N h i hi f (gN N a).1 (by omega)]
theorem qkn {N:List Lk} (h:wfN N) {i a:Nat} (hi:i ≤ N.length) (ha:a ≤ i):tr (N.take i) a = tr N a :=qly N h i hi a a ha
theorem qru {N:List Lk} (h:wfN N) (i:Nat):wfN (N.take i) :=fun j hj => by
 rw [List.length_take] at hj
 have e:gN (N.take i) j = gN N j :=by simp [gN,List.getD,show j < i by omega]
 rw [e];exact h j (by omega)
theorem qta {N:List Lk} (h:wfN N):∀ (f a:Nat),a ≤ f → a ≤ N.length → (tr N a).length ≤ a
 | _,0,_,_ => Nat.le_refl 0
 | 0,_ + 1,h1,_ => absurd h1 (Nat.not_succ_le_zero _)
 |f + 1,a + 1,h1,h2 => by
  have h3 :=h a (by omega)
  have :=qta h f (gN N a).1 (by omega) (by omega)
  rw [qdi h (by omega),List.length_append]
  simp only [List.length_cons,List.length_nil]
  omega
theorem qxf {N:List Lk} (h:wfN N) {a:Nat} (ha:1 ≤ a) (h2:a ≤ N.length):tr N a ≠ [] :=by
 obtain ⟨k,rfl⟩ : ∃ k,a = k + 1 :=⟨a - 1,by omega⟩
 rw [qdi h (by omega)]
 simp
theorem qvz {N:List Lk} (h:wfN N) {a:Nat} (ha:1 ≤ a) (h2:a ≤ N.length):1 ≤ (tr N a).length :=List.length_pos_iff.2 (qxf h ha h2)
abbrev tN (n:Nat):Prop :=4 ≤ n ∧ n ≤ 60
theorem tN_i {n:Nat} (h:tN n):tth (Int.ofNat n) :=by unfold tth;simp only [Int.ofNat_eq_natCast];omega
structure okN (N:List Lk):Prop where
 wf:wfN N
 t1:∀ i,i < N.length → tN (gN N i).2.1
 t2:∀ i,i < N.length → tN (gN N i).2.2
 d:∀ i,i < N.length → (tr N (i + 1)).length ≤ 3
theorem okN.dl {N:List Lk} (h:okN N) {a:Nat} (ha:a ≤ N.length):(tr N a).length ≤ 3 :=by
 cases a with
 |zero => exact Nat.zero_le _
 |succ a => exact h.d a ha
theorem okN.all {N:List Lk} (h:okN N):∀ (f a:Nat),a ≤ f → a ≤ N.length → AllT tN (tr N a)
 | _,0,_,_ => trivial
 | 0,_ + 1,h1,_ => absurd h1 (Nat.not_succ_le_zero _)
 |f + 1,a + 1,h1,h2 => by
  have h3 :=h.wf a (by omega)
  have :=h.all f (gN N a).1 (by omega) (by omega)
  rw [qdi h.wf (by omega)]
  have key:∀ (l:List (Nat × Nat)) (p:Nat × Nat),AllT tN l → tN p.1 ∧ tN p.2 → AllT tN (l ++ [p]) :=by
   intro l p hl hp
   induction l with
   |nil => exact ⟨hp,trivial⟩
   |cons q r ih => exact ⟨hl.1,ih hl.2⟩
  exact key _ _ this ⟨h.t1 a (by omega),h.t2 a (by omega)⟩
theorem okN.take {N:List Lk} (h:okN N) (i:Nat):okN (N.take i) :=by
 have g:∀ j,j < (N.take i).length → gN (N.take i) j = gN N j ∧ j < N.length ∧ j < i :=fun j hj => by
  rw [List.length_take] at hj
  exact ⟨by simp [gN,List.getD,show j < i by omega],by omega,by omega⟩
 refine ⟨qru h.wf i,fun j hj => ?_,fun j hj => ?_,fun j hj => ?_⟩
 ·rw [(g j hj).1];exact h.t1 j (g j hj).2.1
 ·rw [(g j hj).1];exact h.t2 j (g j hj).2.1
 ·by_cases hi:i ≤ N.length
  ·rw [qkn h.wf hi (g j hj).2.2];exact h.d j (g j hj).2.1
  ·rw [List.take_of_length_le (by omega)];exact h.d j (g j hj).2.1
def pcOk (L:List LkI) (H:List Int):Prop :=
 ((1 ≤ L.length ∧ L.length ≤ 5) ∧ (1 ≤ H.length ∧ H.length ≤ 4)) ∧ (∃ N,L = cL N ∧ okN N) ∧ ∀ j,j < H.length → 1 ≤ gi H j ∧ gi H j ≤ (L.length:Int)
instance (L:List LkI) (H:List Int):Decidable (pcOk L H) :=Classical.propDecidable _
def lkAt (N:List Lk) (x:LkI):Prop :=(0 ≤ x.1 ∧ x.1 ≤ (N.length:Int)) ∧ (tth x.2.1 ∧ tth x.2.2) ∧ (tr N x.1.toNat).length ≤ 2
theorem qqw {N:List Lk} {x:Lk} {i:Nat} (h:i < N.length):gN (N ++ [x]) i = gN N i :=by
 simp [gN,List.getD,List.getElem?_append,h]
theorem qja {N:List Lk} {x:Lk}:gN (N ++ [x]) N.length = x :=by
 simp [gN,List.getD]
theorem qig {N:List Lk} (h:wfN N) {x:Lk} (hx:x.1 ≤ N.length):wfN (N ++ [x]) :=fun i hi => by
 rw [List.length_append] at hi
 simp only [List.length_cons,List.length_nil] at hi
 by_cases e:i < N.length
 ·rw [qqw e];exact h i e
 ·obtain rfl:i = N.length :=by omega
  rw [qja];exact hx
theorem qtb {N:List Lk} (h:wfN N) {x:Lk} (hx:x.1 ≤ N.length) {a:Nat} (ha:a ≤ N.length):tr (N ++ [x]) a = tr N a :=by
 have :=qkn (qig h hx) (i :=N.length) (a :=a) (by rw [List.length_append];omega) ha
 rw [List.take_left'] at this
 ·exact this.symm
 ·rfl
theorem qgo {N:List Lk} (h:wfN N) {x:Lk} (hx:x.1 ≤ N.length):tr (N ++ [x]) (N.length + 1) = tr N x.1 ++ [x.2] :=by
 rw [qdi (qig h hx) (by rw [List.length_append];exact Nat.lt_succ_self _),qja,qtb h hx hx]
theorem okN.app {N:List Lk} (h:okN N) {x:Lk} (hx:x.1 ≤ N.length) (h1:tN x.2.1) (h2:tN x.2.2) (h3:(tr N x.1).length ≤ 2):okN (N ++ [x]) :=by
 have c:∀ i,i < (N ++ [x]).length → i < N.length ∨ i = N.length :=fun i hi => by
  rw [List.length_append] at hi
  simp only [List.length_cons,List.length_nil] at hi
  omega
 refine ⟨qig h.wf hx,fun i hi => ?_,fun i hi => ?_,fun i hi => ?_⟩
 ·rcases c i hi with e | rfl
  ·rw [qqw e];exact h.t1 i e
  ·rw [qja];exact h1
 ·rcases c i hi with e | rfl
  ·rw [qqw e];exact h.t2 i e
  ·rw [qja];exact h2
 ·rcases c i hi with e | rfl
  ·rw [qtb h.wf hx e];exact h.d i e
  ·rw [qgo h.wf hx,List.length_append]
   simp only [List.length_cons,List.length_nil]
   omega
theorem toN {a:Int} (h:0 ≤ a):Int.ofNat a.toNat = a :=Int.toNat_of_nonneg h
theorem qna (N:List Lk) (x:Lk):cL (N ++ [x]) = cL N ++ [cK x] :=by rw [cL,List.map_append];rfl
theorem lkAt.next {N:List Lk} (h:okN N) {x:LkI} (hx:lkAt N x):∃ M,cL M = cL N ++ [x] ∧ okN M ∧ M.length = N.length + 1 :=by
 have f1 :=toN hx.1.1
 have f2 :=toN (show 0 ≤ x.2.1 from Int.le_trans (by decide) hx.2.1.1.1)
 have f3 :=toN (show 0 ≤ x.2.2 from Int.le_trans (by decide) hx.2.1.2.1)
 refine ⟨N ++ [(x.1.toNat,x.2.1.toNat,x.2.2.toNat)],?_,h.app ?_ ?_ ?_ hx.2.2,by rw [List.length_append];rfl⟩
 ·rw [qna]
  have:cK (x.1.toNat,x.2.1.toNat,x.2.2.toNat) = x :=by
   unfold cK
   show (Int.ofNat x.1.toNat,Int.ofNat x.2.1.toNat,Int.ofNat x.2.2.toNat) = x
   rw [f1,f2,f3]
  rw [this]
 ·have :=hx.1.2
  show x.1.toNat ≤ N.length
  omega
 ·have :=hx.2.1.1
  show 4 ≤ x.2.1.toNat ∧ x.2.1.toNat ≤ 60
  omega
 ·have :=hx.2.1.2
  show 4 ≤ x.2.2.toNat ∧ x.2.2.toNat ≤ 60
  omega
theorem lkAt.not {L:List LkI} {N:List Lk} {i:Nat} (hi:i < L.length) (e:L.take i = cL N) (hx:¬ lkAt N (gL L i)):¬ ∃ M,L = cL M ∧ okN M :=by
 rintro ⟨M,rfl,h⟩
 rw [qcx] at hi
 have e1:M.take i = N :=by
  have inj:∀ (a b:List Lk),cL a = cL b → a = b :=fun a b hh => by
   refine List.map_inj_right (f :=cK) (fun x y hxy => ?_) |>.1 hh
   obtain ⟨x1,x2,x3⟩ :=x
   obtain ⟨y1,y2,y3⟩ :=y
   have k1:Int.ofNat x1 = Int.ofNat y1 :=congrArg Prod.fst hxy
   have k2:Int.ofNat x2 = Int.ofNat y2 :=congrArg (fun z => z.2.1) hxy
   have k3:Int.ofNat x3 = Int.ofNat y3 :=congrArg (fun z => z.2.2) hxy
   cases k1;cases k2;cases k3;rfl
  apply inj
  rw [← e,cL,cL,List.map_take]
 apply hx
 rw [qjc M hi]
 have hl:N.length = i :=by rw [← e1,List.length_take];omega
 have w :=h.wf i hi
 have t1 :=tN_i (h.t1 i hi)
 have t2 :=tN_i (h.t2 i hi)
 refine ⟨⟨Int.natCast_nonneg _,?_⟩,⟨t1,t2⟩,?_⟩
 ·rw [hl];exact Int.ofNat_le.2 w
 ·show (tr N (gN M i).1).length ≤ 2
  have :=h.d i hi
  rw [qdi h.wf hi,List.length_append] at this
  simp only [List.length_cons,List.length_nil] at this
  rw [← e1,qkn h.wf (Nat.le_of_lt hi) w]
  omega
end
end Go.Abs.Seat
/-! The path to an arbor: how far it is, its train. -/
namespace Go.Abs.Seat
noncomputable section
open Go Go.Abs Go.Proofs.Tryz
set_option maxRecDepth 100000
set_option maxHeartbeats 40000000
attribute [local irreducible] IntKind.wrap pEq
theorem qwn (N:List Lk):Live noL (nkA N) :=⟨qa5 _,fun _ h => nomatch h⟩
theorem qol {i:Nat} (h:i < 4611686018427387904):IntKind.i64.wrap (Int.ofNat (i + 1) - 1) = Int.ofNat i :=by
 rw [show Int.ofNat (i + 1) - 1 = Int.ofNat i by show ((i + 1:Nat):Int) - 1 = (i:Int);omega]
 exact qev (by show _ ≤ (i:Int);omega) (by show (i:Int) < _;omega)
theorem qg4:∀ (L:List LkI) (i:Nat),i < L.length → nth (lks L) (i * 3) = some (iv (gL L i).1)
 | [],_,h => absurd h (Nat.not_lt_zero _)
 | _ :: _,0,_ => rfl
 | _ :: r,i + 1,h => by
  rw [show (i + 1) * 3 = i * 3 + 1 + 1 + 1 by omega]
  exact qg4 r i (by simpa using h)
theorem qox (L:List LkI) {i:Nat} (h:i < L.length):qbo 2 (qb4 (i * 3 + 1) (lks L)) = some [iv (gL L i).2.1,iv (gL L i).2.2] :=by
 have e:qb4 (i * 3 + 1) (lks L) = qb4 1 (qb4 (i * 3) (lks L)) :=by
  rw [qcq,qcq,qcq,List.drop_drop]
 rw [e,qi7,qrf L h]
 rfl
section
variable {N:List Lk} {i b:Nat}
theorem lkR (h:i < N.length) (hN:N.length ≤ 5):inR (IntKind.i64.wrap (Int.ofNat (i + 1) - 1)) N.length = true :=by
 rw [qol (by omega)];exact qaq h
theorem lkG (h:i < N.length) (hN:N.length ≤ 5) (e:(gN N i).1 = b):nth (lks (cL N)) ((IntKind.i64.wrap (Int.ofNat (i + 1) - 1)).toNat * 3 + 0) = some (nv b) :=by
 subst e
 have :=qg4 (cL N) i (by rw [qcx];exact h)
 rw [qjc N h] at this
 rw [qol (by omega)]
 exact this
end
theorem ways {N:List Lk} (h:wfN N) {a:Nat} (ha:a ≤ N.length) (h3:(tr N a).length ≤ 3):(a = 0 ∧ tr N a = []) ∨ (∃ i,a = i + 1 ∧ i < N.length ∧ (gN N i).1 = 0 ∧ tr N a = [(gN N i).2]) ∨
  (∃ i j,a = i + 1 ∧ i < N.length ∧ (gN N i).1 = j + 1 ∧ j < N.length ∧ (gN N j).1 = 0 ∧ tr N a = [(gN N j).2,(gN N i).2]) ∨
  (∃ i j k,a = i + 1 ∧ i < N.length ∧ (gN N i).1 = j + 1 ∧ j < N.length ∧ (gN N j).1 = k + 1 ∧ k < N.length ∧ (gN N k).1 = 0 ∧ tr N a = [(gN N k).2,(gN N j).2,(gN N i).2]) :=by
 cases a with
 |zero => exact .inl ⟨rfl,rfl⟩
 |succ i =>
  have h1 :=qdi h (i :=i) (by omega)
  have f1 :=h i (by omega)
  cases e1:(gN N i).1 with
  |zero => exact .inr (.inl ⟨i,rfl,by omega,e1,by rw [h1,e1];rfl⟩)
  |succ j =>
   have h2 :=qdi h (i :=j) (by omega)
   have f2 :=h j (by omega)
   cases e2:(gN N j).1 with
   |zero => exact .inr (.inr (.inl ⟨i,j,rfl,by omega,e1,by omega,e2,by rw [h1,e1,h2,e2];rfl⟩))
   |succ k =>
    have h4 :=qdi h (i :=k) (by omega)
    have f3 :=h k (by omega)
    cases e3:(gN N k).1 with
    |zero => exact .inr (.inr (.inr ⟨i,j,k,rfl,by omega,e1,by omega,e2,by omega,e3,by rw [h1,e1,h2,e2,h4,e3];rfl⟩))
    |succ m =>
     have h5 :=qvz h (a :=m + 1) (by omega) (by omega)
     rw [h1,e1,h2,e2,h4,e3] at h3
     simp only [List.length_append,List.length_cons,List.length_nil] at h3
     omega
theorem wkE {v v':AV} (h:v = v'):Wk v v' :=by subst h;exact Wk.refl _
theorem up1:IntKind.i64.wrap (0 + 1) = 1 :=qev (by decide) (by decide)
theorem up2:IntKind.i64.wrap (IntKind.i64.wrap (0 + 1) + 1) = 2 :=by rw [up1];exact qev (by decide) (by decide)
theorem up3:IntKind.i64.wrap (IntKind.i64.wrap (IntKind.i64.wrap (0 + 1) + 1) + 1) = 3 :=by rw [up2];exact qev (by decide) (by decide)
theorem qjh {N:List Lk} (h:wfN N) (hN:N.length ≤ 5) {a:Nat} (ha:a ≤ N.length) (h3:(tr N a).length ≤ 3):Pure prog 110 [nkA N,nv a] (nv (tr N a).length) :=by
 have lN :=qa5 (cL N)
 rcases ways h ha h3 with ⟨rfl,et⟩ | ⟨i,rfl,hi,fi,et⟩ | ⟨i,j,rfl,hi,fi,hj,fj,et⟩ | ⟨i,j,k,rfl,hi,fi,hj,fj,hk,fk,et⟩
 ·rw [et]
  refine qan hE rfl (by repeat' first|exact trivial|assumption|exact qae _|exact fun _ h => nomatch h|apply And.intro) (by repeat' first|exact trivial|assumption|exact qae _|exact fun _ h => nomatch h|apply And.intro) fun S q pc hS hq hC hE => ?_
  conv => whnf
  refine qap hC ?_
  conv => whnf
  refine qao hE hS ?_
  conv => whnf
  refine qao hE hS ?_
  conv => whnf
  refine qap hC ?_
  conv => whnf
  refine qao hE hS ?_
  conv => whnf
  exact ⟨_,rfl,Wk.refl _⟩
 ·rw [et]
  refine qan hE rfl (by repeat' first|exact trivial|assumption|exact qae _|exact fun _ h => nomatch h|apply And.intro) (by repeat' first|exact trivial|assumption|exact qae _|exact fun _ h => nomatch h|apply And.intro) fun S q pc hS hq hC hE => ?_
  conv => whnf
  refine qap hC ?_
  conv => whnf
  refine qao hE hS ?_
  conv => whnf
  refine qao hE hS ?_
  conv => whnf
  refine qap hC ?_
  conv => whnf
  refine qao hE hS ?_
  conv => whnf
  refine qaa (lkR hi hN) ?_
  conv => whnf
  refine qal (nthP (lkG hi hN fi)) ?_
  conv => whnf
  refine qap hC ?_
  conv => whnf
  refine qao hE hS ?_
  conv => whnf
  refine qbc hE hS ?_
  conv => whnf
  refine qbc hE hS ?_
  conv => whnf
  refine qad hS (by kernel_rfl) ?_
  conv => whnf
  exact ⟨_,rfl,wkE (congrArg (AV.int .i64) up1)⟩
 ·rw [et]
  refine qan hE rfl (by repeat' first|exact trivial|assumption|exact qae _|exact fun _ h => nomatch h|apply And.intro) (by repeat' first|exact trivial|assumption|exact qae _|exact fun _ h => nomatch h|apply And.intro) fun S q pc hS hq hC hE => ?_
  conv => whnf
  refine qap hC ?_
  conv => whnf
  refine qao hE hS ?_
  conv => whnf
  refine qao hE hS ?_
  conv => whnf
  refine qap hC ?_
  conv => whnf
  refine qao hE hS ?_
  conv => whnf
  refine qaa (lkR hi hN) ?_
  conv => whnf
  refine qal (nthP (lkG hi hN fi)) ?_
  conv => whnf
  refine qap hC ?_
  conv => whnf
  refine qao hE hS ?_
  conv => whnf
  refine qaa (lkR hj hN) ?_
  conv => whnf
  refine qal (nthP (lkG hj hN fj)) ?_
  conv => whnf
  refine qap hC ?_
  conv => whnf
  refine qao hE hS ?_
  conv => whnf
  refine qbc hE hS ?_
  conv => whnf
  refine qbc hE hS ?_
  conv => whnf
  refine qad hS (by kernel_rfl) ?_
  conv => whnf
  refine qbc hE hS ?_
  conv => whnf
  refine qbc hE hS ?_
  conv => whnf
  refine qad hS (by kernel_rfl) ?_
  conv => whnf
  exact ⟨_,rfl,wkE (congrArg (AV.int .i64) up2)⟩
 ·rw [et]
  refine qan hE rfl (by repeat' first|exact trivial|assumption|exact qae _|exact fun _ h => nomatch h|apply And.intro) (by repeat' first|exact trivial|assumption|exact qae _|exact fun _ h => nomatch h|apply And.intro) fun S q pc hS hq hC hE => ?_
  conv => whnf
  refine qap hC ?_
  conv => whnf
  refine qao hE hS ?_
  conv => whnf
  refine qao hE hS ?_
  conv => whnf
  refine qap hC ?_
  conv => whnf
  refine qao hE hS ?_
  conv => whnf
  refine qaa (lkR hi hN) ?_
  conv => whnf
  refine qal (nthP (lkG hi hN fi)) ?_
  conv => whnf
  refine qap hC ?_
  conv => whnf
  refine qao hE hS ?_
  conv => whnf
  refine qaa (lkR hj hN) ?_
  conv => whnf
  refine qal (nthP (lkG hj hN fj)) ?_
  conv => whnf
  refine qap hC ?_
  conv => whnf
  refine qao hE hS ?_
  conv => whnf
  refine qaa (lkR hk hN) ?_
  conv => whnf
  refine qal (nthP (lkG hk hN fk)) ?_
  conv => whnf
  refine qap hC ?_
  conv => whnf
  refine qao hE hS ?_
  conv => whnf
  refine qbc hE hS ?_
  conv => whnf
  refine qbc hE hS ?_
  conv => whnf
  refine qad hS (by kernel_rfl) ?_
  conv => whnf
  refine qbc hE hS ?_
  conv => whnf
  refine qbc hE hS ?_
  conv => whnf
  refine qad hS (by kernel_rfl) ?_
  conv => whnf
  refine qbc hE hS ?_
  conv => whnf
  refine qbc hE hS ?_
  conv => whnf
  refine qad hS (by kernel_rfl) ?_
  conv => whnf
  exact ⟨_,rfl,wkE (congrArg (AV.int .i64) up3)⟩
def tvA (l:List (Nat × Nat)):AV :=match l with | [] => .nils | _ => pv (zp l)
end
end Go.Abs.Seat

namespace Go.Abs.Seat
noncomputable section
open Go Go.Abs Go.Proofs.Tryz
set_option maxRecDepth 100000
set_option maxHeartbeats 40000000
attribute [local irreducible] IntKind.wrap pEq qb0
theorem gft {x:Nat} {c:Bool} (h:c = true):@Bool.rec (fun _ => Bool) (@Bool.rec (fun _ => Bool) true false (x,false).snd) (x,false).snd c = false :=by subst h;rfl
theorem gff {x:Nat} {c:Bool} (h:c = false):@Bool.rec (fun _ => Bool) (@Bool.rec (fun _ => Bool) true false (x,false).snd) (x,false).snd c = true :=by subst h;rfl
theorem slTo {T:Tr TypeInfo} {t e:TypeId} {inf:TypeInfo} {xs ys:List AV} {n:Nat} {k:IntKind} {z:Int} {h:Nat} (hT:tyU T t = some (.slice e)) (hi:T.get e = some inf) (hz:z = Int.ofNat h) (hn:h ≤ n)
  (hy:qbo (h * inf.size) xs = some ys):qb0 T t (.lst xs n .no) none (some (.int k z)) = .chk (decide (0 * inf.size ≤ xs.length)) (.ret (.lst ys h .no)) :=by
 subst hz
 unfold qb0
 have e1:bnd (some (.int k (Int.ofNat h))) n n = some h :=by
  unfold bnd
  simp only [Int.ofNat_eq_natCast]
  rw [decide_eq_true (show (0:Int) ≤ (h:Int) by omega),decide_eq_true (show (h:Int) ≤ (n:Int) by omega)]
  rfl
 have e2:bnd none 0 h = some 0 :=rfl
 have e3:qb4 (0 * inf.size) xs = xs :=by rw [Nat.zero_mul];rfl
 simp only [hT,hi,e1,e2,e3,Nat.sub_zero,hy]
theorem qhb (a b:Int):Pure prog 102 [.agg [iv a,iv b]] (.bool (decide (tth a ∧ tth b))) :=by
 by_cases h:tth a
 ·have c1:decide (tth a) = true :=decide_eq_true h
  refine qan hE rfl (by repeat' first|exact trivial|assumption|exact qae _|exact fun _ h => nomatch h|apply And.intro) (by repeat' first|exact trivial|assumption|exact qae _|exact fun _ h => nomatch h|apply And.intro) fun S q pc hS hq hC hE => ?_
  conv => whnf
  repeat ((first|refine qaj c1 ?_|refine qai c1 ?_|refine pkT c1 ?_|refine qaa c1 ?_|refine qab hC (qby a) ?_|refine qab hC (qby b) ?_|refine qad hS (by kernel_rfl) ?_);conv => whnf)
  exact ⟨_,rfl,wkb (by simp [h])⟩
 ·have c1:decide (tth a) = false :=decide_eq_false h
  refine qan hE rfl (by repeat' first|exact trivial|assumption|exact qae _|exact fun _ h => nomatch h|apply And.intro) (by repeat' first|exact trivial|assumption|exact qae _|exact fun _ h => nomatch h|apply And.intro) fun S q pc hS hq hC hE => ?_
  conv => whnf
  repeat ((first|refine qar c1 ?_|refine qas c1 ?_|refine pkF c1 ?_|refine qac c1 ?_|refine qab hC (qby a) ?_|refine qad hS (by kernel_rfl) ?_);conv => whnf)
  exact ⟨_,rfl,wkb (by simp [h])⟩
def LL (v:AV) (L:List LkI):Prop :=v = .nils ∧ L = [] ∨ v = lkA L
theorem LL.no {v:AV} {L:List LkI} (h:LL v L):Live noL v :=by
 rcases h with ⟨rfl,_⟩ | rfl
 ·trivial
 ·exact lkA_no L
theorem ql1:∀ (L:List LkI) (i:Nat),i ≤ L.length → qbo (i * 3) (lks L) = some (lks (L.take i))
 | _,0,_ => by rw [List.take_zero];rfl
 | [],i + 1,h => absurd h (by simp)
 |x :: l,i + 1,h => by
  have :=ql1 l i (by simpa using h)
  rw [show (i + 1) * 3 = i * 3 + 1 + 1 + 1 by omega]
  show (match (match (match qbo (i * 3) (lks l) with | some r => some (iv x.2.2 :: r) | none => none) with | some r => some (iv x.2.1 :: r) | none => none) with | some r => some (iv x.1 :: r) | none => none) = _
  rw [this];rfl
theorem nt_t {b:Bool} (h:b = true):(!b) = false :=by rw [h];rfl
theorem nt_f {b:Bool} (h:b = false):(!b) = true :=by rw [h];rfl
theorem qob {x h:AV} {L:List LkI} {M:List Int} (hx:LL x L) (hh:IL h M) (hn:¬ ((1 ≤ L.length ∧ L.length ≤ 5) ∧ (1 ≤ M.length ∧ M.length ≤ 4))) :
  Pure prog 89 [.agg [x,h]] (.bool false) :=by
 have lx :=hx.no
 have lh :=hh.no
 by_cases h1:1 ≤ L.length ∧ L.length ≤ 5
 ·have h2:¬ (1 ≤ M.length ∧ M.length ≤ 4) :=fun k => hn ⟨h1,k⟩
  have c1:(!decide (1 ≤ (L.length:Int) ∧ (L.length:Int) ≤ 5)) = false :=nt_t (decide_eq_true (by omega))
  rcases hx with ⟨_,rfl⟩ | rfl
  ·exact absurd h1.1 (by decide)
  rcases hh with ⟨rfl,rfl⟩ | rfl
  ·refine qan hE rfl (by repeat' first|exact trivial|assumption|exact qae _|exact fun _ h => nomatch h|apply And.intro) (by repeat' first|exact trivial|assumption|exact qae _|exact fun _ h => nomatch h|apply And.intro) fun S q pc hS hq hC hE => ?_
   conv => whnf
   repeat ((first|refine qar c1 ?_|refine qas c1 ?_|refine pkF c1 ?_|refine qac c1 ?_|refine qab hC (qbk L.length 1 5) ?_|refine qab hC (qbk 0 1 4) ?_|refine qad hS (by kernel_rfl) ?_);conv => whnf)
   exact ⟨_,rfl,Wk.refl _⟩
  ·have c2:(!decide (1 ≤ (M.length:Int) ∧ (M.length:Int) ≤ 4)) = true :=nt_f (decide_eq_false (by omega))
   refine qan hE rfl (by repeat' first|exact trivial|assumption|exact qae _|exact fun _ h => nomatch h|apply And.intro) (by repeat' first|exact trivial|assumption|exact qae _|exact fun _ h => nomatch h|apply And.intro) fun S q pc hS hq hC hE => ?_
   conv => whnf
   repeat ((first|refine qaj ‹_› ?_|refine qai ‹_› ?_|refine pkT ‹_› ?_|refine qaa ‹_› ?_|refine qar ‹_› ?_|refine qas ‹_› ?_|refine pkF ‹_› ?_|refine qac ‹_› ?_|refine qab hC (qbk L.length 1 5) ?_|refine qab hC (qbk M.length 1 4) ?_|refine qad hS (by kernel_rfl) ?_);conv => whnf)
   exact ⟨_,rfl,Wk.refl _⟩
 ·rcases hx with ⟨rfl,rfl⟩ | rfl
  ·rcases hh with ⟨rfl,rfl⟩ | rfl
   all_goals
    refine qan hE rfl (by repeat' first|exact trivial|assumption|exact qae _|exact fun _ h => nomatch h|apply And.intro) (by repeat' first|exact trivial|assumption|exact qae _|exact fun _ h => nomatch h|apply And.intro) fun S q pc hS hq hC hE => ?_
    conv => whnf
    repeat ((first|refine qaj h1 ?_|refine qai h1 ?_|refine pkT h1 ?_|refine qaa h1 ?_|refine qar h1 ?_|refine qas h1 ?_|refine pkF h1 ?_|refine qac h1 ?_|refine qab hC (qbk 0 1 5) ?_|refine qad hS (by kernel_rfl) ?_);conv => whnf)
    exact ⟨_,rfl,Wk.refl _⟩
  ·have c1:(!decide (1 ≤ (L.length:Int) ∧ (L.length:Int) ≤ 5)) = true :=nt_f (decide_eq_false (by omega))
   rcases hh with ⟨rfl,rfl⟩ | rfl
   all_goals
    refine qan hE rfl (by repeat' first|exact trivial|assumption|exact qae _|exact fun _ h => nomatch h|apply And.intro) (by repeat' first|exact trivial|assumption|exact qae _|exact fun _ h => nomatch h|apply And.intro) fun S q pc hS hq hC hE => ?_
    conv => whnf
    repeat ((first|refine qaj c1 ?_|refine qai c1 ?_|refine pkT c1 ?_|refine qaa c1 ?_|refine qab hC (qbk L.length 1 5) ?_|refine qad hS (by kernel_rfl) ?_);conv => whnf)
    exact ⟨_,rfl,Wk.refl _⟩
def qlm (n:Nat) (M:List Int):Prop :=∀ j,j < M.length → 1 ≤ gi M j ∧ gi M j ≤ (n:Int)
instance (n:Nat) (M:List Int):Decidable (qlm n M) :=Classical.propDecidable _
theorem qha (L:List LkI) (M:List Int) (h1:1 ≤ L.length ∧ L.length ≤ 5) (h2:1 ≤ M.length ∧ M.length ≤ 4):Pure prog 89 [.agg [lkA L,nl M]] (.bool (decide (pcOk L M))) :=by
 have lL :=lkA_no L
 have lM :=qau M
 have lLs :=qa5 L
 have c1:(!decide (1 ≤ (L.length:Int) ∧ (L.length:Int) ≤ 5)) = false :=nt_t (decide_eq_true (by omega))
 have c2:(!decide (1 ≤ (M.length:Int) ∧ (M.length:Int) ≤ 4)) = false :=nt_t (decide_eq_true (by omega))
 refine qan hE rfl (by repeat' first|exact trivial|assumption|exact qae _|exact fun _ h => nomatch h|apply And.intro) (by repeat' first|exact trivial|assumption|exact qae _|exact fun _ h => nomatch h|apply And.intro) fun S q pc hS hq hC hE => ?_
 conv => whnf
 repeat ((first|refine qar ‹_› ?_|refine qas ‹_› ?_|refine pkF ‹_› ?_|refine qac ‹_› ?_|refine qab hC (qbk L.length 1 5) ?_|refine qab hC (qbk M.length 1 4) ?_|refine qad hS (by kernel_rfl) ?_);conv => whnf)
 refine qe7 hE hS (A :=List Lk) [1,2,18,19] (fun N => [(20,nv N.length)]) (fun _ => []) (fun N => N.length ≤ L.length ∧ cL N = L.take N.length ∧ okN N) (fun N => L.length - N.length) [] rfl rfl (by refine ⟨rfl,rfl,rfl,rfl,?_,?_⟩ <;> repeat' (first|exact trivial|exact rfl|exact Nat.zero_le _|exact bz lL|exact bz lM|exact kle rfl|exact qaf (by assumption)|exact qaf (qae _)|exact qaf (qau _)|exact mxI rfl|apply And.intro)) ⟨Nat.zero_le _,rfl,⟨fun _ h => absurd h (Nat.not_lt_zero _),fun _ h => absurd h (Nat.not_lt_zero _),fun _ h => absurd h (Nat.not_lt_zero _),fun _ h => absurd h (Nat.not_lt_zero _)⟩⟩ ?_
 rintro N ⟨hl,he,hN⟩
 conv => whnf
 by_cases hi:N.length < L.length
 ·refine qaa (qag hi) ?_
  conv => whnf
  refine qaa (qaq hi) ?_
  conv => whnf
  have ht :=qoy L hi
  have hno:¬ lkAt N (gL L N.length) → decide (pcOk L M) = false :=fun k => decide_eq_false fun z => lkAt.not hi he.symm k z.2.1
  have htk :=qow L hi
  unfold lkAt at hno
  revert ht hno htk
  generalize gL L N.length = y
  obtain ⟨a,b,c⟩ :=y
  intro ht hno htk
  by_cases q1:0 ≤ a ∧ a ≤ (N.length:Int)
  ·have d1:(!decide (0 ≤ a ∧ a ≤ Int.ofNat N.length)) = false :=nt_t (decide_eq_true q1)
   obtain ⟨f,rfl⟩ : ∃ f:Nat,a = Int.ofNat f :=⟨a.toNat,(Int.toNat_of_nonneg q1.1).symm⟩
   have ht:qbo 3 (qb4 (N.length * 3) (lks L)) = some [nv f,iv b,iv c] :=ht
   have hs:qb0 (E q pc).T 62 (.lst (lks L) L.length .no) none (some (.int .i64 (Int.ofNat N.length))) = .chk (decide (0 * t94.size ≤ (lks L).length)) (.ret (.lst (lks (cL N)) N.length .no)) :=slTo (e :=94) (inf :=t94) (h :=N.length) (by kernel_rfl) (by kernel_rfl) rfl (by omega) (by rw [show t94.size = 3 from rfl,he];exact ql1 L _ hl)
   have d0:decide (0 * t94.size ≤ (lks L).length) = true :=decide_eq_true (by rw [Nat.zero_mul];exact Nat.zero_le _)
   refine qal (takP ht) ?_
   conv => whnf
   by_cases q2:tth b ∧ tth c
   ·have d2:(!decide (tth b ∧ tth c)) = false :=nt_t (decide_eq_true q2)
    repeat ((first|refine qal (hs) ?_|refine qaj ‹_› ?_|refine qai ‹_› ?_|refine pkT ‹_› ?_|refine qaa ‹_› ?_|refine qar ‹_› ?_|refine qas ‹_› ?_|refine pkF ‹_› ?_|refine qac ‹_› ?_|refine qaj (gff ‹_›) ?_|refine qai (gff ‹_›) ?_|refine pkT (gff ‹_›) ?_|refine qaa (gff ‹_›) ?_|refine qab hC (qbk (Int.ofNat f) 0 (Int.ofNat N.length)) ?_|refine qab hC (qhb b c) ?_|refine qad hS (by kernel_rfl) ?_);conv => whnf)
    have hf:f ≤ N.length :=Int.ofNat_le.1 q1.2
    have lNs :=qa5 (cL N)
    refine qab hC (qjh hN.wf (by omega) hf (hN.dl hf)) ?_
    conv => whnf
    by_cases q3:(tr N f).length ≤ 2
    ·have d3:decide (Int.ofNat (tr N f).length ≥ 3) = false :=decide_eq_false (by show ¬ (3:Int) ≤ ((tr N f).length:Int);omega)
     repeat ((first|refine qar ‹_› ?_|refine qas ‹_› ?_|refine pkF ‹_› ?_|refine qac ‹_› ?_|refine qaj (gff ‹_›) ?_|refine qai (gff ‹_›) ?_|refine pkT (gff ‹_›) ?_|refine qaa (gff ‹_›) ?_|refine qad hS (by kernel_rfl) ?_);conv => whnf)
     obtain ⟨M2,e1,k1,e2⟩ :=lkAt.next hN (x :=(Int.ofNat f,b,c)) ⟨q1,q2,q3⟩
     have hw:IntKind.i64.wrap (Int.ofNat N.length + 1) = Int.ofNat M2.length :=by rw [e2];exact qaz (m :=N.length + 1) (by omega)
     exact ⟨M2,⟨by omega,by rw [e1,e2,htk,he],k1⟩,by omega,(by refine ⟨rfl,rfl,rfl,rfl,?_,?_⟩ <;> repeat' (first|exact trivial|exact rfl|exact Nat.zero_le _|exact congrArg (fun z => some (AV.int .i64 z)) hw|exact bz lL|exact bz lM|exact kle rfl|exact qaf (by assumption)|exact qaf (qae _)|exact qaf (qau _)|exact mxI rfl|apply And.intro))⟩
    ·have d3:decide (Int.ofNat (tr N f).length ≥ 3) = true :=decide_eq_true (by show (3:Int) ≤ ((tr N f).length:Int);omega)
     rw [hno fun k => q3 k.2.2]
     repeat ((first|refine qaj ‹_› ?_|refine qai ‹_› ?_|refine pkT ‹_› ?_|refine qaa ‹_› ?_|refine qar ‹_› ?_|refine qas ‹_› ?_|refine pkF ‹_› ?_|refine qac ‹_› ?_|refine qaj (gff ‹_›) ?_|refine qai (gff ‹_›) ?_|refine pkT (gff ‹_›) ?_|refine qaa (gff ‹_›) ?_|refine qad hS (by kernel_rfl) ?_);conv => whnf)
     exact ⟨_,rfl,Wk.refl _⟩
   ·have d2:(!decide (tth b ∧ tth c)) = true :=nt_f (decide_eq_false q2)
    rw [hno fun k => q2 k.2.1]
    repeat ((first|refine qaj ‹_› ?_|refine qai ‹_› ?_|refine pkT ‹_› ?_|refine qaa ‹_› ?_|refine qar ‹_› ?_|refine qas ‹_› ?_|refine pkF ‹_› ?_|refine qac ‹_› ?_|refine qaj (gff ‹_›) ?_|refine qai (gff ‹_›) ?_|refine pkT (gff ‹_›) ?_|refine qaa (gff ‹_›) ?_|refine qar (gft ‹_›) ?_|refine qas (gft ‹_›) ?_|refine pkF (gft ‹_›) ?_|refine qac (gft ‹_›) ?_|refine qab hC (qbk (Int.ofNat f) 0 (Int.ofNat N.length)) ?_|refine qab hC (qhb b c) ?_|refine qad hS (by kernel_rfl) ?_);conv => whnf)
    exact ⟨_,rfl,Wk.refl _⟩
  ·have d1:(!decide (0 ≤ a ∧ a ≤ Int.ofNat N.length)) = true :=nt_f (decide_eq_false q1)
   have ht:qbo 3 (qb4 (N.length * 3) (lks L)) = some [iv a,iv b,iv c] :=ht
   rw [hno fun k => q1 k.1]
   refine qal (takP ht) ?_
   conv => whnf
   repeat ((first|refine qaj d1 ?_|refine qai d1 ?_|refine pkT d1 ?_|refine qaa d1 ?_|refine qar (gft d1) ?_|refine qas (gft d1) ?_|refine pkF (gft d1) ?_|refine qac (gft d1) ?_|refine qab hC (qbk a 0 (Int.ofNat N.length)) ?_|refine qad hS (by kernel_rfl) ?_);conv => whnf)
   exact ⟨_,rfl,Wk.refl _⟩
 ·refine qac (qbt hi) ?_
  conv => whnf
  have e:N.length = L.length :=by omega
  rw [List.take_of_length_le (by omega)] at he
  have hp:decide (pcOk L M) = decide (qlm L.length M) :=decide_eq_decide.2 ⟨fun z => z.2.2,fun z => ⟨⟨h1,h2⟩,⟨N,he.symm,hN⟩,z⟩⟩
  rw [hp]
  refine qap hC ?_
  conv => whnf
  refine qao hE hS ?_
  conv => whnf
  refine qap hC ?_
  conv => whnf
  refine qao hE hS ?_
  conv => whnf
  refine qay hE hS (A :=Nat) [0,1,7] (fun i => [(8,nv i)]) (fun _ => []) (fun _ => []) (fun i => i ≤ M.length ∧ ∀ j,j < i → 1 ≤ gi M j ∧ gi M j ≤ (L.length:Int)) (fun i => M.length - i) 0 (kle rfl) rfl (zhg 1) ⟨Nat.zero_le _,fun _ h => absurd h (Nat.not_lt_zero _)⟩ ?_
  intro i ⟨hi1,hj⟩ K hK
  obtain rfl:K = 1 :=hK
  conv => whnf
  by_cases hi2:i < M.length
  ·refine qaa (qag hi2) ?_
   conv => whnf
   refine qaa (qaq (i :=i) (n :=M.length) hi2) ?_
   conv => whnf
   refine qal (nthP (qcf (l :=M) (i :=i) hi2)) ?_
   conv => whnf
   refine qap hC ?_
   conv => whnf
   refine qao hE hS ?_
   conv => whnf
   refine qab hC (qbk (gi M i) 1 L.length) ?_
   conv => whnf
   by_cases q:1 ≤ gi M i ∧ gi M i ≤ (L.length:Int)
   ·refine qac (nt_t (decide_eq_true q)) ?_
    conv => whnf
    exact ⟨i + 1,⟨hi2,fun j h => by
     by_cases e:j = i
     ·subst e;exact q
     ·exact hj j (by omega)⟩,by omega,Nat.le_refl _,(zhg 1)⟩
   ·refine qaa (nt_f (decide_eq_false q)) ?_
    conv => whnf
    rw [show decide (Int.ofNat i ≥ 0) = true from decide_eq_true (Int.natCast_nonneg i)]
    conv => whnf
    rw [decide_eq_false (show ¬ qlm L.length M from fun z => q (z i hi2))]
    exact ⟨_,rfl,Wk.refl _⟩
  ·refine qac (qbt hi2) ?_
   conv => whnf
   refine .inl ?_
   conv => whnf
   rw [decide_eq_true (show qlm L.length M from fun j h => hj j (by omega))]
   exact ⟨_,rfl,Wk.refl _⟩
theorem isPiece_pure {x h:AV} {L:List LkI} {M:List Int} (hx:LL x L) (hh:IL h M):Pure prog 89 [.agg [x,h]] (.bool (decide (pcOk L M))) :=by
 by_cases hn:(1 ≤ L.length ∧ L.length ≤ 5) ∧ (1 ≤ M.length ∧ M.length ≤ 4)
 ·rcases hx with ⟨_,rfl⟩ | rfl
  ·exact absurd hn.1.1 (by decide)
  rcases hh with ⟨_,rfl⟩ | rfl
  ·exact absurd hn.2.1 (by decide)
  exact qha L M hn.1 hn.2
 ·rw [decide_eq_false fun z => hn z.1]
  exact qob hx hh hn
def dgt (n:Nat):UInt8 :=UInt8.ofNat (48 + n)
def dec (n:Nat):List UInt8 :=if n < 10 then [dgt n] else if n < 100 then [dgt (n / 10),dgt (n % 10)] else [dgt (n / 100),dgt (n / 10 % 10),dgt (n % 10)]
theorem qv9 {T:Tr TypeInfo} {t:TypeId} {s:List UInt8} {k k':IntKind} {x y:Int} {a b:Nat} (hT:tyU T t = some .string) (hx:x = Int.ofNat a) (hy:y = Int.ofNat b) (hab:a ≤ b) (hb:b ≤ s.length):qb0 T t (.str s) (some (.int k x)) (some (.int k' y)) = .ret (.str ((s.drop a).take (b - a))) :=by
 subst hx hy
 unfold qb0
 rw [hT]
 have h1:bnd (some (.int k' (Int.ofNat b))) s.length s.length = some b :=by
  simp [bnd,hb]
 have h2:bnd (some (.int k (Int.ofNat a))) 0 b = some a :=by
  simp [bnd,hab]
 simp only [h1,h2]
theorem wk_s {a b:List UInt8} (h:a = b):Wk (.str a) (.str b) :=h ▸ Wk.refl _
def dg1:List UInt8 :=[48,49,50,51,52,53,54,55,56,57,97,98,99,100,101,102,103,104,105,106,107,108,109,110,111,112,113,114,115,116,117,118,119,120,121,122]
def dg2:List UInt8 :=[48,48,48,49,48,50,48,51,48,52,48,53,48,54,48,55,48,56,48,57,49,48,49,49,49,50,49,51,49,52,49,53,49,54,49,55,49,56,49,57,50,48,50,49,50,50,50,51,50,52,50,53,50,54,50,55,50,56,50,57,51,48,51,49,51,50,51,51,51,52,51,53,51,54,51,55,51,56,51,57,52,48,52,49,52,50,52,51,52,52,52,53,52,54,52,55,52,56,52,57,53,48,53,49,53,50,53,51,53,52,53,53,53,54,53,55,53,56,53,57,54,48,54,49,54,50,54,51,54,52,54,53,54,54,54,55,54,56,54,57,55,48,55,49,55,50,55,51,55,52,55,53,55,54,55,55,55,56,55,57,56,48,56,49,56,50,56,51,56,52,56,53,56,54,56,55,56,56,56,57,57,48,57,49,57,50,57,51,57,52,57,53,57,54,57,55,57,56,57,57]
theorem qv8:∀ n,n < 10 → ((dg1.drop n).take (n + 1 - n)) = dec n :=by decide +kernel
theorem qv7:∀ n,n < 100 → ¬ n < 10 → ((dg2.drop (n * 2)).take (n * 2 + 2 - n * 2)) = dec n :=by decide +kernel
theorem qds {n:Nat} (h:n < 100):Pure prog 141 [nv n] (.str (dec n)) :=by
 have c1:decide (Int.ofNat n < 100) = true :=decide_eq_true (by simp only [Int.ofNat_eq_natCast];omega)
 by_cases h10:n < 10
 ·have c2:decide (Int.ofNat n < 10) = true :=decide_eq_true (by simp only [Int.ofNat_eq_natCast];omega)
  have w1:IntKind.i64.wrap (Int.ofNat n + 1) = Int.ofNat (n + 1) :=qaz (m :=n + 1) (by omega)
  refine qan hE rfl (by repeat' first|exact trivial|assumption|exact qae _|exact fun _ h => nomatch h|apply And.intro) (by repeat' first|exact trivial|assumption|exact qae _|exact fun _ h => nomatch h|apply And.intro) fun S q pc hS hq hC hE => ?_
  conv => whnf
  refine qap hC ?_
  conv => whnf
  refine qao hE hS ?_
  conv => whnf
  refine qap hC ?_
  conv => whnf
  refine qao hE hS ?_
  conv => whnf
  repeat ((first|refine qaj c1 ?_|refine qai c1 ?_|refine pkT c1 ?_|refine qaa c1 ?_|refine qaj (qaw c1) ?_|refine qai (qaw c1) ?_|refine pkT (qaw c1) ?_|refine qaa (qaw c1) ?_|refine qad hS (by kernel_rfl) ?_);conv => whnf)
  refine qap hC ?_
  conv => whnf
  refine qao hE hS ?_
  conv => whnf
  repeat ((first|refine qaj c2 ?_|refine qai c2 ?_|refine pkT c2 ?_|refine qaa c2 ?_|refine qad hS (by kernel_rfl) ?_);conv => whnf)
  refine qal (qv9 (s :=dg1) (a :=n) (b :=n + 1) (by kernel_rfl) rfl w1 (Nat.le_succ n) (show n + 1 ≤ 36 by omega)) ?_
  conv => whnf
  exact ⟨_,rfl,wk_s (qv8 n h10)⟩
 ·have c2:decide (Int.ofNat n < 10) = false :=decide_eq_false (by simp only [Int.ofNat_eq_natCast];omega)
  have w1:IntKind.i64.wrap (Int.ofNat n * 2) = Int.ofNat (n * 2) :=qaz (m :=n * 2) (by omega)
  have w2:IntKind.i64.wrap (IntKind.i64.wrap (Int.ofNat n * 2) + 2) = Int.ofNat (n * 2 + 2) :=by rw [w1];exact qaz (m :=n * 2 + 2) (by omega)
  refine qan hE rfl (by repeat' first|exact trivial|assumption|exact qae _|exact fun _ h => nomatch h|apply And.intro) (by repeat' first|exact trivial|assumption|exact qae _|exact fun _ h => nomatch h|apply And.intro) fun S q pc hS hq hC hE => ?_
  conv => whnf
  refine qap hC ?_
  conv => whnf
  refine qao hE hS ?_
  conv => whnf
  refine qap hC ?_
  conv => whnf
  refine qao hE hS ?_
  conv => whnf
  repeat ((first|refine qaj c1 ?_|refine qai c1 ?_|refine pkT c1 ?_|refine qaa c1 ?_|refine qaj (qaw c1) ?_|refine qai (qaw c1) ?_|refine pkT (qaw c1) ?_|refine qaa (qaw c1) ?_|refine qad hS (by kernel_rfl) ?_);conv => whnf)
  refine qap hC ?_
  conv => whnf
  refine qao hE hS ?_
  conv => whnf
  repeat ((first|refine qar c2 ?_|refine qas c2 ?_|refine pkF c2 ?_|refine qac c2 ?_|refine qad hS (by kernel_rfl) ?_);conv => whnf)
  refine qal (qv9 (s :=dg2) (a :=n * 2) (b :=n * 2 + 2) (by kernel_rfl) w1 w2 (Nat.le_add_right _ 2) (show n * 2 + 2 ≤ 200 by omega)) ?_
  conv => whnf
  exact ⟨_,rfl,wk_s (qv7 n h h10)⟩
end
end Go.Abs.Seat
namespace Go.Abs.Seat
noncomputable section
open Go Go.Abs Go.Proofs.Tryz
set_option maxRecDepth 100000
set_option maxHeartbeats 40000000
attribute [local irreducible] pEq
def lnM (n:Nat):List UInt8 :=[112,105,101,99,101] ++ ([32] ++ dec n)
def lnL (x:Nat × Nat × Nat):List UInt8 :=(([108,105,110,107] ++ ([32] ++ dec x.1)) ++ ([32] ++ dec x.2.1)) ++ ([32] ++ dec x.2.2)
def lnH (n:Nat):List UInt8 :=[104,97,110,100] ++ ([32] ++ dec n)
theorem qb6 (n:Nat):(dec n).length ≤ 3 :=by
 unfold dec
 split
 ·exact kle rfl
 ·split <;> exact kle rfl
theorem stOk {a b:List UInt8} (h:(a ++ b).length ≤ 1000000):decide (a.length + b.length ≤ qdp) = true :=decide_eq_true (by rw [List.length_append] at h;unfold qdp;omega)
theorem qdq (n:Nat):([32] ++ dec n).length ≤ 4 :=by
 have :=qb6 n
 rw [List.length_append]
 show 1 + _ ≤ 4
 omega
theorem qbf {a b:List UInt8} {m n:Nat} (ha:a.length ≤ m) (hb:b.length ≤ n):(a ++ b).length ≤ m + n :=by rw [List.length_append];omega
theorem qqk (n:Nat):(lnM n).length ≤ 9 :=qbf (kle rfl:([112,105,101,99,101]:List UInt8).length ≤ 5) (qdq n)
theorem qqm (x:Nat × Nat × Nat):(lnL x).length ≤ 16 :=qbf (qbf (qbf (kle rfl:([108,105,110,107]:List UInt8).length ≤ 4) (qdq _)) (qdq _)) (qdq _)
theorem qqo (n:Nat):(lnH n).length ≤ 8 :=qbf (kle rfl:([104,97,110,100]:List UInt8).length ≤ 4) (qdq n)
theorem mil {a m:Nat} (h:a ≤ m) (hm:Nat.ble m 1000000 = true):a ≤ 1000000 :=Nat.le_trans h (Nat.le_of_ble_eq_true hm)
theorem qn7 {n:Nat} (h:n < 100):Pure prog 140 [.iface 191 (nv n)] (.str (lnM n)) :=by
 have p1 :=qds h
 have f1 :=mil (qdq n) rfl
 have f2 :=mil (qqk n) rfl
 refine qan hE rfl (by repeat' first|exact trivial|assumption|exact qae _|exact fun _ h => nomatch h|apply And.intro) (by repeat' first|exact trivial|assumption|exact qae _|exact fun _ h => nomatch h|apply And.intro) fun S q pc hS hq hC hE => ?_
 conv => whnf
 refine qap hC ?_
 conv => whnf
 refine qao hE hS ?_
 conv => whnf
 refine qap hC ?_
 conv => whnf
 refine qao hE hS ?_
 conv => whnf
 refine qah hE hS ?_
 conv => whnf
 repeat ((first|refine qaj (stOk f1) ?_|refine qai (stOk f1) ?_|refine pkT (stOk f1) ?_|refine qaa (stOk f1) ?_|refine qar (stOk f1) ?_|refine qas (stOk f1) ?_|refine pkF (stOk f1) ?_|refine qac (stOk f1) ?_|refine qaj (stOk f2) ?_|refine qai (stOk f2) ?_|refine pkT (stOk f2) ?_|refine qaa (stOk f2) ?_|refine qar (stOk f2) ?_|refine qas (stOk f2) ?_|refine pkF (stOk f2) ?_|refine qac (stOk f2) ?_|refine qab hC (p1) ?_|refine qad hS (by kernel_rfl) ?_);conv => whnf)
 refine qah hE hS ?_
 conv => whnf
 repeat ((first|refine qad hS (by kernel_rfl) ?_);conv => whnf)
 exact ⟨_,rfl,Wk.refl _⟩
theorem qn9 {n:Nat} (h:n < 100):Pure prog 140 [.iface 194 (nv n)] (.str (lnH n)) :=by
 have p1 :=qds h
 have f1 :=mil (qdq n) rfl
 have f2 :=mil (qqo n) rfl
 refine qan hE rfl (by repeat' first|exact trivial|assumption|exact qae _|exact fun _ h => nomatch h|apply And.intro) (by repeat' first|exact trivial|assumption|exact qae _|exact fun _ h => nomatch h|apply And.intro) fun S q pc hS hq hC hE => ?_
 conv => whnf
 refine qap hC ?_
 conv => whnf
 refine qao hE hS ?_
 conv => whnf
 refine qap hC ?_
 conv => whnf
 refine qao hE hS ?_
 conv => whnf
 refine qah hE hS ?_
 conv => whnf
 repeat ((first|refine qaj (stOk f1) ?_|refine qai (stOk f1) ?_|refine pkT (stOk f1) ?_|refine qaa (stOk f1) ?_|refine qar (stOk f1) ?_|refine qas (stOk f1) ?_|refine pkF (stOk f1) ?_|refine qac (stOk f1) ?_|refine qaj (stOk f2) ?_|refine qai (stOk f2) ?_|refine pkT (stOk f2) ?_|refine qaa (stOk f2) ?_|refine qar (stOk f2) ?_|refine qas (stOk f2) ?_|refine pkF (stOk f2) ?_|refine qac (stOk f2) ?_|refine qab hC (p1) ?_|refine qad hS (by kernel_rfl) ?_);conv => whnf)
 refine qah hE hS ?_
 conv => whnf
 repeat ((first|refine qad hS (by kernel_rfl) ?_);conv => whnf)
 exact ⟨_,rfl,Wk.refl _⟩
theorem qn8 {x:Nat × Nat × Nat} (h1:x.1 < 100) (h2:x.2.1 < 100) (h3:x.2.2 < 100):Pure prog 140 [.iface 193 (.agg [nv x.1,nv x.2.1,nv x.2.2])] (.str (lnL x)) :=by
 have p1 :=qds h1
 have p2 :=qds h2
 have p3 :=qds h3
 have f1 :=mil (qdq x.1) rfl
 have f2 :=mil (qdq x.2.1) rfl
 have f3 :=mil (qdq x.2.2) rfl
 have g1 :=mil (qbf (kle rfl:([108,105,110,107]:List UInt8).length ≤ 4) (qdq x.1)) rfl
 have g2 :=mil (qbf (qbf (kle rfl:([108,105,110,107]:List UInt8).length ≤ 4) (qdq x.1)) (qdq x.2.1)) rfl
 have g3 :=mil (qqm x) rfl
 refine qan hE rfl (by repeat' first|exact trivial|assumption|exact qae _|exact fun _ h => nomatch h|apply And.intro) (by repeat' first|exact trivial|assumption|exact qae _|exact fun _ h => nomatch h|apply And.intro) fun S q pc hS hq hC hE => ?_
 conv => whnf
 refine qap hC ?_
 conv => whnf
 refine qao hE hS ?_
 conv => whnf
 refine qap hC ?_
 conv => whnf
 refine qao hE hS ?_
 conv => whnf
 refine qah hE hS ?_
 conv => whnf
 repeat ((first|refine qaj (stOk f1) ?_|refine qai (stOk f1) ?_|refine pkT (stOk f1) ?_|refine qaa (stOk f1) ?_|refine qar (stOk f1) ?_|refine qas (stOk f1) ?_|refine pkF (stOk f1) ?_|refine qac (stOk f1) ?_|refine qaj (stOk g1) ?_|refine qai (stOk g1) ?_|refine pkT (stOk g1) ?_|refine qaa (stOk g1) ?_|refine qar (stOk g1) ?_|refine qas (stOk g1) ?_|refine pkF (stOk g1) ?_|refine qac (stOk g1) ?_|refine qab hC (p1) ?_|refine qad hS (by kernel_rfl) ?_);conv => whnf)
 refine qah hE hS ?_
 conv => whnf
 repeat ((first|refine qaj (stOk f2) ?_|refine qai (stOk f2) ?_|refine pkT (stOk f2) ?_|refine qaa (stOk f2) ?_|refine qar (stOk f2) ?_|refine qas (stOk f2) ?_|refine pkF (stOk f2) ?_|refine qac (stOk f2) ?_|refine qaj (stOk g2) ?_|refine qai (stOk g2) ?_|refine pkT (stOk g2) ?_|refine qaa (stOk g2) ?_|refine qar (stOk g2) ?_|refine qas (stOk g2) ?_|refine pkF (stOk g2) ?_|refine qac (stOk g2) ?_|refine qab hC (p2) ?_|refine qad hS (by kernel_rfl) ?_);conv => whnf)
 refine qah hE hS ?_
 conv => whnf
 repeat ((first|refine qaj (stOk f3) ?_|refine qai (stOk f3) ?_|refine pkT (stOk f3) ?_|refine qaa (stOk f3) ?_|refine qar (stOk f3) ?_|refine qas (stOk f3) ?_|refine pkF (stOk f3) ?_|refine qac (stOk f3) ?_|refine qaj (stOk g3) ?_|refine qai (stOk g3) ?_|refine pkT (stOk g3) ?_|refine qaa (stOk g3) ?_|refine qar (stOk g3) ?_|refine qas (stOk g3) ?_|refine pkF (stOk g3) ?_|refine qac (stOk g3) ?_|refine qab hC (p3) ?_|refine qad hS (by kernel_rfl) ?_);conv => whnf)
 refine qah hE hS ?_
 conv => whnf
 repeat ((first|refine qad hS (by kernel_rfl) ?_);conv => whnf)
 exact ⟨_,rfl,Wk.refl _⟩
end
end Go.Abs.Seat
namespace Go.Abs.Seat
noncomputable section
open Go Go.Abs Go.Proofs.Tryz
set_option maxRecDepth 100000
set_option maxHeartbeats 40000000
attribute [local irreducible] IntKind.wrap pEq qb0
def spl (c:UInt8):List UInt8 → List (List UInt8)
 | [] => [[]]
 |b :: r => if b = c then [] :: spl c r else match spl c r with
  | [] => [[b]]
  |x :: t => (b :: x) :: t
theorem qgt (c:UInt8):∀ s,spl c s ≠ []
 | [] => fun h => nomatch h
 |b :: r => by
  rw [spl]
  split
  ·exact fun h => nomatch h
  ·split <;> exact fun h => nomatch h
theorem qgu (c:UInt8):∀ s,(spl c s).length = Lib.countByte s c + 1
 | [] => rfl
 |b :: r => by
  have ih :=qgu c r
  unfold Lib.countByte at ih ⊢
  rw [spl,List.count_cons]
  by_cases e:b = c
  ·rw [if_pos e,e]
   simp [ih]
  ·rw [if_neg e]
   have hb:(b == c) = false :=beq_eq_false_iff_ne.2 e
   rw [hb]
   split
   ·rename_i h;exact absurd h (qgt c r)
   ·rename_i x t h
    rw [h] at ih
    simpa using ih
theorem qim (c:UInt8):∀ r,(Lib.indexByte r c = -1 ∧ spl c r = [r]) ∨ ∃ m,Lib.indexByte r c = Int.ofNat m ∧ m < r.length ∧ spl c r = r.take m :: spl c (r.drop (m + 1))
 | [] => .inl ⟨rfl,rfl⟩
 |b :: r => by
  by_cases e:b = c
  ·refine .inr ⟨0,?_,Nat.succ_pos _,?_⟩
   ·rw [Lib.indexByte,if_pos (beq_iff_eq.2 e)];rfl
   ·rw [spl,if_pos e];rfl
  ·have hb:¬ (b == c) = true :=fun z => e (beq_iff_eq.1 z)
   rcases qim c r with ⟨h1,h2⟩ | ⟨m,h1,h2,h3⟩
   ·left
    rw [Lib.indexByte,if_neg hb,h1,spl,if_neg e,h2]
    exact ⟨rfl,rfl⟩
   ·refine .inr ⟨m + 1,?_,Nat.succ_lt_succ h2,?_⟩
    ·rw [Lib.indexByte,if_neg hb,h1,if_neg (fun z => by have :=beq_iff_eq.1 z;simp only [Int.ofNat_eq_natCast] at this;omega)];rfl
    ·rw [spl,if_neg e,h3];rfl
theorem qt8 {T:Tr TypeInfo} {t:TypeId} {s:List UInt8} {k:IntKind} {y:Int} {b:Nat} (hT:tyU T t = some .string) (hy:y = Int.ofNat b) (hb:b ≤ s.length):qb0 T t (.str s) none (some (.int k y)) = .ret (.str (s.take b)) :=by
 subst hy
 unfold qb0
 rw [hT]
 have h1:bnd (some (.int k (Int.ofNat b))) s.length s.length = some b :=by
  simp [bnd,hb]
 have h2:bnd none 0 b = some 0 :=rfl
 simp only [h1,h2,List.drop_zero,Nat.sub_zero]
theorem qo4 {T:Tr TypeInfo} {t:TypeId} {s:List UInt8} {k:IntKind} {x:Int} {a:Nat} (hT:tyU T t = some .string) (hx:x = Int.ofNat a) (ha:a ≤ s.length):qb0 T t (.str s) (some (.int k x)) none = .ret (.str (s.drop a)) :=by
 subst hx
 unfold qb0
 rw [hT]
 have h1:bnd none s.length s.length = some s.length :=rfl
 have h2:bnd (some (.int k (Int.ofNat a))) 0 s.length = some a :=by
  simp [bnd,ha]
 simp only [h1,h2]
 rw [List.take_of_length_le (by rw [List.length_drop];exact Nat.le_refl _)]
theorem qxj {T:Tr TypeInfo} {t e:TypeId} {inf:TypeInfo} {o len cap h:Nat} {k:IntKind} {y:Int} (hT:tyU T t = some (.slice e)) (hi:T.get e = some inf) (hy:y = Int.ofNat h) (hh:h ≤ cap):qb0 T t (.slc o 0 len cap) none (some (.int k y)) = .chk (Nat.ble len cap) (.ret (.slc o 0 h cap)) :=by
 subst hy
 unfold qb0
 rw [hT]
 have h1:bnd (some (.int k (Int.ofNat h))) len cap = some h :=by
  simp [bnd,hh]
 have h2:bnd none 0 h = some 0 :=rfl
 simp only [hi,h1,h2,Nat.zero_mul,Nat.add_zero,ite_self,Nat.sub_zero]
theorem qvw (c:UInt8):(Int.ofNat c.toNat).toNat.toUInt8 = c :=by simp
theorem wk_i {a b:Int} (h:a = b):Wk (iv a) (iv b) :=h ▸ Wk.refl _
theorem qsr (s:List UInt8) (c:UInt8):Pure prog 173 [.str s,.str [c]] (iv (Lib.indexByte s c)) :=by
 by_cases e:s = [c]
 ·have e1:([c] == s) = true :=beq_iff_eq.2 e.symm
  have e2:Lib.indexByte s c = 0 :=by rw [e,Lib.indexByte,if_pos (beq_self_eq_true c)]
  refine qan hE rfl (by repeat' first|exact trivial|assumption|exact qae _|exact fun _ h => nomatch h|apply And.intro) (by repeat' first|exact trivial|assumption|exact qae _|exact fun _ h => nomatch h|apply And.intro) fun S q pc hS hq hC hE => ?_
  conv => whnf
  refine qap hC ?_
  conv => whnf
  refine qao hE hS ?_
  conv => whnf
  repeat ((first|refine qaj e1 ?_|refine qai e1 ?_|refine pkT e1 ?_|refine qaa e1 ?_|refine qaj (qaw e1) ?_|refine qai (qaw e1) ?_|refine pkT (qaw e1) ?_|refine qaa (qaw e1) ?_|refine qar (qba e1) ?_|refine qas (qba e1) ?_|refine pkF (qba e1) ?_|refine qac (qba e1) ?_|refine qad hS (by kernel_rfl) ?_);conv => whnf)
  exact ⟨_,rfl,wk_i e2.symm⟩
 ·have e1:([c] == s) = false :=beq_eq_false_iff_ne.2 fun z => e z.symm
  refine qan hE rfl (by repeat' first|exact trivial|assumption|exact qae _|exact fun _ h => nomatch h|apply And.intro) (by repeat' first|exact trivial|assumption|exact qae _|exact fun _ h => nomatch h|apply And.intro) fun S q pc hS hq hC hE => ?_
  conv => whnf
  refine qap hC ?_
  conv => whnf
  refine qao hE hS ?_
  conv => whnf
  repeat ((first|refine qar e1 ?_|refine qas e1 ?_|refine pkF e1 ?_|refine qac e1 ?_|refine qaj (gff e1) ?_|refine qai (gff e1) ?_|refine pkT (gff e1) ?_|refine qaa (gff e1) ?_|refine qar (qba e1) ?_|refine qas (qba e1) ?_|refine pkF (qba e1) ?_|refine qac (qba e1) ?_|refine qad hS (by kernel_rfl) ?_);conv => whnf)
  refine qap hC ?_
  conv => whnf
  refine qao hE hS ?_
  conv => whnf
  exact ⟨_,rfl,wk_i (by rw [show ((c.toNat:Int)).toNat.toUInt8 = c from qvw c])⟩
theorem qrh (s:List UInt8) (c:UInt8):Pure prog 172 [.str s,.str [c]] (nv (Lib.countByte s c)) :=by
 refine qan hE rfl (by repeat' first|exact trivial|assumption|exact qae _|exact fun _ h => nomatch h|apply And.intro) (by repeat' first|exact trivial|assumption|exact qae _|exact fun _ h => nomatch h|apply And.intro) fun S q pc hS hq hC hE => ?_
 conv => whnf
 repeat ((first|refine qad hS (by kernel_rfl) ?_);conv => whnf)
 exact ⟨_,rfl,wk_i (by rw [show ((c.toNat:Int)).toNat.toUInt8 = c from qvw c];rfl)⟩
def stA (l:List (List UInt8)):List AV :=l.map .str
theorem qbp:∀ l,Lives noL (stA l)
 | [] => trivial
 | _ :: r => ⟨trivial,qbp r⟩
theorem qik (l:List (List UInt8)):(stA l).length = l.length :=List.length_map _
structure SpI (c:UInt8) (s:List UInt8) (n i:Nat) (r:List UInt8) (t:Tr AV) (P:List (List UInt8)):Prop where
 eq:spl c s = P ++ spl c r
 len:P.length = i
 old:∀ j,j < i → t.get j = (stA P)[j]?
 new:∀ j,i ≤ j → j < n → ∃ x,t.get j = some x
 le:r.length ≤ s.length
 bdd:∀ j a,t.get j = some a → bd a = 0
theorem SpI.bT {c:UInt8} {s r:List UInt8} {n i k:Nat} {t:Tr AV} {P:List (List UInt8)} (h:SpI c s n i r t P):BdT k t :=qvm fun j a e => by rw [h.bdd j a e];exact Nat.zero_le _
theorem SpI.step {c:UInt8} {s r:List UInt8} {n i m:Nat} {t:Tr AV} {P:List (List UInt8)} (h:SpI c s n i r t P) (hi:i < n) (h3:spl c r = r.take m :: spl c (r.drop (m + 1))):SpI c s n (i + 1) (r.drop (m + 1)) (tset (pathOf (0 + i * 1)) t (.str (r.take m))) (P ++ [r.take m]) :=by
 obtain ⟨x,hx⟩ :=h.new i (Nat.le_refl i) hi
 have hx':t.get (0 + i * 1) = some x :=by rw [Nat.zero_add,Nat.mul_one];exact hx
 have hl :=h.len
 refine ⟨by rw [h.eq,h3,List.append_assoc];rfl,by rw [List.length_append,h.len];rfl,fun j hj => ?_,fun j h1 h2 => ?_,Nat.le_trans (by rw [List.length_drop];exact Nat.sub_le _ _) h.le,?_⟩
 ·rw [qfk hx',Nat.zero_add,Nat.mul_one]
  unfold stA
  rw [List.map_append]
  by_cases e:j = i
  ·rw [if_pos e,List.getElem?_append_right (by rw [List.length_map];omega),List.length_map,hl,e,Nat.sub_self];rfl
  ·rw [if_neg e,List.getElem?_append_left (by rw [List.length_map];omega)]
   exact h.old j (by omega)
 ·rw [qfk hx',Nat.zero_add,Nat.mul_one,if_neg (by omega)]
  exact h.new j (by omega) h2
 ·intro j a e
  rw [qfk hx'] at e
  split at e
  ·cases e;rfl
  ·exact h.bdd j a e
theorem qhm {s:List UInt8} {k:Nat} (h:k < s.length):(match nthB s k with | some b => Plan.ret (.int .u8 b.toNat) | none => Plan.fail) = Plan.ret (.int .u8 (s.getD k 0).toNat) :=by
 rw [qlf,List.getElem?_eq_getElem h]
 simp [List.getD,h]
theorem qbd (s:List UInt8) (c:UInt8) (hs:s.length ≤ 1000):Pure prog 142 [.str s,.str [c]] (.lst (stA (spl c s)) (spl c s).length .no) :=by
 have p1 :=qrh s c
 have e1:([c] == ([]:List UInt8)) = false :=rfl
 have h1 :=qgu c s
 have h2:Lib.countByte s c ≤ s.length :=List.count_le_length
 obtain ⟨M,hM⟩ : ∃ M,M = minI (IntKind.i64.wrap (Int.ofNat (Lib.countByte s c) + 1)) (IntKind.i64.wrap ((s.length:Int) + 1)) :=⟨_,rfl⟩
 have hM2:M = Int.ofNat (Lib.countByte s c + 1) :=by
  rw [hM,show IntKind.i64.wrap (Int.ofNat (Lib.countByte s c) + 1) = Int.ofNat (Lib.countByte s c + 1) from qaz (m :=Lib.countByte s c + 1) (by omega),show IntKind.i64.wrap ((s.length:Int) + 1) = Int.ofNat (s.length + 1) from qaz (m :=s.length + 1) (by omega)]
  unfold minI
  split
  ·rename_i h
   simp only [Int.ofNat_eq_natCast] at h ⊢
   omega
  ·rfl
 have m1:decide (0 ≤ minI (IntKind.i64.wrap (Int.ofNat (Lib.countByte s c) + 1)) (IntKind.i64.wrap ((s.length:Int) + 1))) = true :=decide_eq_true (by rw [← hM,hM2];exact Int.natCast_nonneg _)
 have m2:(minI (IntKind.i64.wrap (Int.ofNat (Lib.countByte s c) + 1)) (IntKind.i64.wrap ((s.length:Int) + 1))).toNat = Lib.countByte s c + 1 :=by rw [← hM,hM2];rfl
 have m3:decide (minI (IntKind.i64.wrap (Int.ofNat (Lib.countByte s c) + 1)) (IntKind.i64.wrap ((s.length:Int) + 1)) ≤ minI (IntKind.i64.wrap (Int.ofNat (Lib.countByte s c) + 1)) (IntKind.i64.wrap ((s.length:Int) + 1))) = true :=decide_eq_true (Int.le_refl _)
 have m4:decide (minI (IntKind.i64.wrap (Int.ofNat (Lib.countByte s c) + 1)) (IntKind.i64.wrap ((s.length:Int) + 1)) ≤ 9223372036854775807) = true :=decide_eq_true (by rw [← hM,hM2];simp only [Int.ofNat_eq_natCast];omega)
 have m5:decide (16 * (minI (IntKind.i64.wrap (Int.ofNat (Lib.countByte s c) + 1)) (IntKind.i64.wrap ((s.length:Int) + 1))).toNat ≤ 2 * 140737488355328) = true :=decide_eq_true (by rw [m2];omega)
 have lS :=qbp (spl c s)
 have eM:IntKind.i64.wrap (minI (IntKind.i64.wrap (Int.ofNat (Lib.countByte s c) + 1)) (IntKind.i64.wrap ((s.length:Int) + 1)) - 1) = Int.ofNat (Lib.countByte s c) :=by
  rw [← hM,hM2,show Int.ofNat (Lib.countByte s c + 1) - 1 = Int.ofNat (Lib.countByte s c) by simp only [Int.ofNat_eq_natCast];omega]
  exact qaz (m :=Lib.countByte s c) (by omega)
 have eS:AV.slc 0 0 (minI (IntKind.i64.wrap (Int.ofNat (Lib.countByte s c) + 1)) (IntKind.i64.wrap ((s.length:Int) + 1))).toNat (minI (IntKind.i64.wrap (Int.ofNat (Lib.countByte s c) + 1)) (IntKind.i64.wrap ((s.length:Int) + 1))).toNat = .slc 0 0 (Lib.countByte s c + 1) (Lib.countByte s c + 1) :=by rw [m2]
 refine qbr hE rfl (by repeat' first|exact trivial|assumption|exact qae _|exact fun _ h => nomatch h|apply And.intro) (by repeat' first|exact trivial|assumption|exact qae _|exact fun _ h => nomatch h|apply And.intro) fun S q pc hS hq hC hE => ?_
 conv => whnf
 refine qap hC ?_
 conv => whnf
 refine qao hE hS ?_
 conv => whnf
 repeat ((first|refine qaj m1 ?_|refine qai m1 ?_|refine pkT m1 ?_|refine qaa m1 ?_|refine qaj m3 ?_|refine qai m3 ?_|refine pkT m3 ?_|refine qaa m3 ?_|refine qaj m4 ?_|refine qai m4 ?_|refine pkT m4 ?_|refine qaa m4 ?_|refine qaj m5 ?_|refine qai m5 ?_|refine pkT m5 ?_|refine qaa m5 ?_|refine qab hC (p1) ?_|refine qad hS (by kernel_rfl) ?_);conv => whnf)
 refine qu1 m2 ?_
 refine qug (show Lib.countByte s c + 1 + 1 < 2 ^ 64 by omega) ?_
 intro t0 ht0
 conv => whnf
 have hI0:SpI c s (Lib.countByte s c + 1) 0 s t0 [] :=⟨rfl,rfl,fun j h => absurd h (Nat.not_lt_zero _),fun j _ h => ⟨_,by rw [ht0,if_pos h]⟩,Nat.le_refl _,fun j a e => by
  rw [ht0] at e
  split at e
  ·cases e;rfl
  ·cases e⟩
 refine qay hE hS (A :=Nat × List UInt8 × Tr AV) [1,2] (fun (i,r,t) => [(0,.str r),(3,nv (Lib.countByte s c)),(9,.slc 0 0 (Lib.countByte s c + 1) (Lib.countByte s c + 1)),(10,nv i)]) (fun (_,_,t) => [(0,.cells t (Lib.countByte s c + 1) 9)]) (fun _ => []) (fun (i,r,t) => i ≤ Lib.countByte s c ∧ ∃ P,SpI c s (Lib.countByte s c + 1) i r t P) (fun (i,_,_) => Lib.countByte s c - i) (0,s,t0) (kle rfl) rfl (by refine ⟨rfl,rfl,rfl,rfl,rfl,rfl,1,rfl,?_,?_⟩ <;> repeat' (first|exact trivial|exact rfl|exact wkr rfl|exact wko rfl|exact Nat.zero_le _|exact ⟨_,rfl,WkV.int eM⟩|exact ⟨_,rfl,WkV.eq eS⟩|exact hI0.bT|exact kle rfl|exact bdq|exact mxI rfl|exact mxS rfl|apply And.intro)) ⟨Nat.zero_le _,[],hI0⟩ ?_
 rintro ⟨i,r,t⟩ ⟨hi,hP⟩ K hK
 obtain rfl:K = 1 :=hK
 conv => whnf
 refine Exists.elim hP fun P hP => ?_
 by_cases hi2:i < Lib.countByte s c
 ·have pi :=qsr r c
  have hl :=congrArg List.length hP.eq
  have hP2 :=hP.len
  have hrl :=hP.le
  rw [List.length_append,h1,hP2] at hl
  refine Or.elim (qim c r) (fun z => ?_) fun z => Exists.elim z fun m z => ?_
  ·exact absurd hl (by rw [z.2];show Lib.countByte s c + 1 ≠ i + 1;omega)
  ·have z1 :=z.1
   have z2 :=z.2.1
   have z3 :=z.2.2
   rw [z1] at pi
   have t1:decide (Int.ofNat m < 0) = false :=decide_eq_false (by simp only [Int.ofNat_eq_natCast];omega)
   have w0:IntKind.i64.wrap (Int.ofNat m + 0) = Int.ofNat m :=qaz (m :=m) (by omega)
   have w1:IntKind.i64.wrap (Int.ofNat m + 1) = Int.ofNat (m + 1) :=qaz (m :=m + 1) (by omega)
   have hi1:IntKind.i64.wrap (Int.ofNat i + 1) = Int.ofNat (i + 1) :=qaz (m :=i + 1) (by omega)
   have b1:Nat.ble (0 + i * 1 + 1) (Lib.countByte s c + 1) = true :=Nat.ble_eq_true_of_le (by omega)
   have hn :=hP.new i (Nat.le_refl i) (by omega)
   have hS :=hP.step (by omega) z3
   refine Exists.elim hn fun x hx => ?_
   have gt:t.get (0 + i * 1) = some x :=by rw [Nat.zero_add,Nat.mul_one];exact hx
   have iR :=qaq (show i < Lib.countByte s c + 1 by omega)
   repeat ((first|refine qal (qt8 (by kernel_rfl) w0 (Nat.le_of_lt z2)) ?_|refine qaj (qag hi2) ?_|refine qai (qag hi2) ?_|refine pkT (qag hi2) ?_|refine qaa (qag hi2) ?_|refine qar (qag hi2) ?_|refine qas (qag hi2) ?_|refine pkF (qag hi2) ?_|refine qac (qag hi2) ?_|refine qar t1 ?_|refine qas t1 ?_|refine pkF t1 ?_|refine qac t1 ?_|refine qaj iR ?_|refine qai iR ?_|refine pkT iR ?_|refine qaa iR ?_|refine qar iR ?_|refine qas iR ?_|refine pkF iR ?_|refine qac iR ?_|refine qaj b1 ?_|refine qai b1 ?_|refine pkT b1 ?_|refine qaa b1 ?_|refine qab hC (pi) ?_|refine qad hS (by kernel_rfl) ?_);conv => whnf)
   refine qku gt ?_
   conv => whnf
   repeat ((first|refine qal (qo4 (by kernel_rfl) w1 z2) ?_|refine qaj (qag hi2) ?_|refine qai (qag hi2) ?_|refine pkT (qag hi2) ?_|refine qaa (qag hi2) ?_|refine qar (qag hi2) ?_|refine qas (qag hi2) ?_|refine pkF (qag hi2) ?_|refine qac (qag hi2) ?_|refine qad hS (by kernel_rfl) ?_);conv => whnf)
   exact ⟨(i + 1,r.drop (m + 1),tset (pathOf (0 + i * 1)) t (.str (r.take m))),⟨hi2,_,hS⟩,by show Lib.countByte s c - (i + 1) < Lib.countByte s c - i;omega,Nat.le_refl _,(by refine ⟨rfl,rfl,rfl,rfl,rfl,rfl,1,rfl,?_,?_⟩ <;> repeat' (first|exact trivial|exact rfl|exact wkr rfl|exact wko rfl|exact Nat.zero_le _|exact ⟨_,rfl,WkV.int hi1⟩|exact hS.bT|exact kle rfl|exact bdq|exact mxI rfl|exact mxS rfl|apply And.intro))⟩
 ·have hiE:i = Lib.countByte s c :=by omega
  have hl :=congrArg List.length hP.eq
  have hP2 :=hP.len
  rw [List.length_append,h1,hP2] at hl
  refine Or.elim (qim c r) (fun z => ?_) fun z => Exists.elim z fun m z => ?_
  rotate_left
  ·have :=List.length_pos_iff.2 (qgt c (r.drop (m + 1)))
   exact absurd hl (by rw [z.2.2,List.length_cons];omega)
  refine Exists.elim (hP.new i (Nat.le_refl i) (by omega)) fun x hx => ?_
  have gt:t.get (0 + i * 1) = some x :=by rw [Nat.zero_add,Nat.mul_one];exact hx
  have b1:Nat.ble (0 + i * 1 + 1) (Lib.countByte s c + 1) = true :=Nat.ble_eq_true_of_le (by omega)
  have b2:Nat.ble (Lib.countByte s c + 1) (Lib.countByte s c + 1) = true :=Nat.ble_eq_true_of_le (Nat.le_refl _)
  have iR :=qaq (show i < Lib.countByte s c + 1 by omega)
  have hi1:IntKind.i64.wrap (Int.ofNat i + 1) = Int.ofNat (i + 1) :=qaz (m :=i + 1) (by omega)
  have hz:∀ j,j < (stA (spl c s)).length → (tset (pathOf (0 + i * 1)) t (.str r)).get j = (stA (spl c s))[j]? :=fun j hj => by
   rw [qfk gt,hP.eq,z.2,Nat.zero_add,Nat.mul_one]
   rw [qik,h1] at hj
   unfold stA
   rw [List.map_append]
   by_cases e:j = i
   ·rw [if_pos e,List.getElem?_append_right (by rw [List.length_map];omega),List.length_map,hP2,e,Nat.sub_self];rfl
   ·rw [if_neg e,List.getElem?_append_left (by rw [List.length_map];omega)]
    exact hP.old j (by omega)
  refine qac (qbt hi2) ?_
  conv => whnf
  refine .inl ?_
  conv => whnf
  repeat ((first|refine qaj iR ?_|refine qai iR ?_|refine pkT iR ?_|refine qaa iR ?_|refine qar iR ?_|refine qas iR ?_|refine pkF iR ?_|refine qac iR ?_|refine qaj b1 ?_|refine qai b1 ?_|refine pkT b1 ?_|refine qaa b1 ?_|refine qad hS (by kernel_rfl) ?_);conv => whnf)
  refine qku gt ?_
  conv => whnf
  repeat ((first|refine qal (qxj (e :=9) (inf :=t9) (h :=i + 1) (by kernel_rfl) (by kernel_rfl) hi1 (show i + 1 ≤ Lib.countByte s c + 1 by omega)) ?_|refine qaj b2 ?_|refine qai b2 ?_|refine pkT b2 ?_|refine qaa b2 ?_|refine qad hS (by kernel_rfl) ?_);conv => whnf)
  exact ⟨_,rfl,FzV.slcL rfl (by rw [qik,h1];exact Nat.le_refl _) hz lS (by rw [h1,hiE])⟩
end
end Go.Abs.Seat
namespace Go.Abs.Seat
noncomputable section
open Go Go.Abs Go.Proofs.Tryz
set_option maxRecDepth 100000
set_option maxHeartbeats 40000000
attribute [local irreducible] IntKind.wrap pEq

theorem qoi (p:Nat × Nat):∀ l:List (Nat × Nat),xP (l ++ [p]) = xP l * p.1 ∧ yP (l ++ [p]) = yP l * p.2
 | [] => ⟨by simp [xP],by simp [yP]⟩
 |q :: l => by
  have :=qoi p l
  rw [List.cons_append,xP,yP,xP,yP,this.1,this.2]
  exact ⟨by ac_rfl,by ac_rfl⟩
theorem qvs:∀ l:List (Nat × Nat),AllT tN l → (1 ≤ xP l ∧ xP l ≤ 60 ^ l.length) ∧ 1 ≤ yP l ∧ yP l ≤ 60 ^ l.length
 | [],_ => ⟨⟨by simp [xP],by simp [xP]⟩,by simp [yP],by simp [yP]⟩
 |q :: l,h => by
  have ih :=qvs l h.2
  have h1 :=h.1
  rw [xP,yP,List.length_cons,Nat.pow_succ,Nat.mul_comm _ 60]
  exact ⟨⟨Nat.mul_pos (by omega) ih.1.1,Nat.mul_le_mul h1.1.2 ih.1.2⟩,Nat.mul_pos (by omega) ih.2.1,Nat.mul_le_mul h1.2.2 ih.2.2⟩
def rtA (N:List Lk) (a:Nat):Nat × Nat :=(xP (tr N a),yP (tr N a))
def rtL (N:List Lk) (k:Nat):List (Nat × Nat) :=(List.range k).map (rtA N)
theorem qbn (N:List Lk) (k:Nat):(rtL N k).length = k :=by simp [rtL]
theorem qmc (N:List Lk) (k:Nat):rtL N (k + 1) = rtL N k ++ [rtA N k] :=by simp [rtL,List.range_succ]
theorem qe0 (N:List Lk) {k a:Nat} (h:a < k):gq (rtL N k) a = rtA N a :=by simp [gq,rtL,List.getD,h]
theorem qgy {N:List Lk} (h:okN N) {a:Nat} (ha:a ≤ N.length):(1 ≤ (rtA N a).1 ∧ (rtA N a).1 ≤ 216000) ∧ 1 ≤ (rtA N a).2 ∧ (rtA N a).2 ≤ 216000 :=by
 have h1 :=qvs _ (h.all a a (Nat.le_refl _) ha)
 have h2 :=h.dl ha
 have h3:60 ^ (tr N a).length ≤ 60 ^ 3 :=Nat.pow_le_pow_right (by decide) h2
 have h4:60 ^ 3 = 216000 :=rfl
 exact ⟨⟨h1.1.1,by show xP _ ≤ _;omega⟩,h1.2.1,by show yP _ ≤ _;omega⟩
theorem qmd {N:List Lk} (h:okN N) {i:Nat} (hi:i < N.length):rtA N (i + 1) = ((rtA N (gN N i).1).1 * (gN N i).2.1,(rtA N (gN N i).1).2 * (gN N i).2.2) :=by
 unfold rtA
 rw [qdi h.wf hi,(qoi _ _).1,(qoi _ _).2]
def wiV (N:List Lk) (M:List Int):AV :=.agg [nkA N,nl M,pv (zp (rtL N (N.length + 1)))]
theorem qqc:∀ (L:List LkI) (i:Nat),i < L.length → nth (lks L) (i * 3 + 1) = some (iv (gL L i).2.1)
 | [],_,h => absurd h (Nat.not_lt_zero _)
 | _ :: _,0,_ => rfl
 | _ :: r,i + 1,h => by
  rw [show (i + 1) * 3 + 1 = i * 3 + 1 + 1 + 1 + 1 by omega]
  exact qqc r i (by simpa using h)
theorem qqb:∀ (L:List LkI) (i:Nat),i < L.length → nth (lks L) (i * 3 + 2) = some (iv (gL L i).2.2)
 | [],_,h => absurd h (Nat.not_lt_zero _)
 | _ :: _,0,_ => rfl
 | _ :: r,i + 1,h => by
  rw [show (i + 1) * 3 + 2 = i * 3 + 2 + 1 + 1 + 1 by omega]
  exact qqb r i (by simpa using h)
theorem quz (N:List Lk) {i:Nat} (h:i < N.length):nth (lks (cL N)) (i * 3 + 0) = some (nv (gN N i).1) :=by
 have :=qg4 (cL N) i (by rw [qcx];exact h)
 rwa [qjc N h] at this
theorem qqa (N:List Lk) {i:Nat} (h:i < N.length):nth (lks (cL N)) (i * 3 + 1) = some (nv (gN N i).2.1) :=by
 have :=qqc (cL N) i (by rw [qcx];exact h)
 rwa [qjc N h] at this
theorem qp9 (N:List Lk) {i:Nat} (h:i < N.length):nth (lks (cL N)) (i * 3 + 2) = some (nv (gN N i).2.2) :=by
 have :=qqb (cL N) i (by rw [qcx];exact h)
 rwa [qjc N h] at this
def rtV (N:List Lk) (i c:Nat):AV :=.lst (flat (zp (rtL N (i + 1)))) (zp (rtL N (i + 1))).length (.ch c)
theorem qt2 (N:List Lk) (i:Nat) {c n:Nat} (h:c + 1 ≤ n):bd (rtV N i c) ≤ n :=Nat.max_le.2 ⟨h,qaf (qae _)⟩
theorem qma {N:List Lk} (h:okN N) (h1:1 ≤ N.length) {a b:AV} {c ty:Nat}:AObj.cells (.node a (.node b .nil .nil) (.node (.lst [iv 1,iv 1,iv (IntKind.i64.wrap (1 * Int.ofNat (gN N 0).2.1)),iv (IntKind.i64.wrap (1 * Int.ofNat (gN N 0).2.2))] 2 (.ch c)) .nil .nil)) 3 ty = AObj.cells (.node a (.node b .nil .nil) (.node (rtV N 1 c) .nil .nil)) 3 ty :=by
 have f0:(gN N 0).1 = 0 :=Nat.le_zero.1 (h.wf 0 h1)
 have t1 :=h.t1 0 h1
 have t2 :=h.t2 0 h1
 have e1:rtA N 1 = (1 * (gN N 0).2.1,1 * (gN N 0).2.2) :=by
  have :=qmd h h1
  rw [f0] at this
  exact this
 have e2:rtL N 2 = [(1,1),(1 * (gN N 0).2.1,1 * (gN N 0).2.2)] :=by rw [qmc,e1];rfl
 unfold rtV
 rw [e2,show (1:Int) * Int.ofNat (gN N 0).2.1 = Int.ofNat 1 * Int.ofNat (gN N 0).2.1 from rfl,show (1:Int) * Int.ofNat (gN N 0).2.2 = Int.ofNat 1 * Int.ofNat (gN N 0).2.2 from rfl,mulN (by omega),mulN (by omega)]
 rfl
theorem qj7 (l:List (Nat × Nat)):qdn (flat (zp l)) ((zp l).length * 2) = true :=by
 have :=qd2 (flat (zp l))
 rwa [flat_len] at this
theorem qq2 (l:List (Nat × Nat)) (q:Nat × Nat):flat (zp (l ++ [q])) = flat (zp l) ++ [nv q.1,nv q.2] :=by
 induction l with
 |nil => rfl
 |cons x r ih => exact congrArg (fun z => nv x.1 :: nv x.2 :: z) ih
theorem qpf {N:List Lk} (h:okN N) {i:Nat} (hi:i < N.length) {a b:AV} {c ty:Nat}:AObj.cells (.node a (.node b .nil .nil) (.node (.lst (flat (zp (rtL N (i + 1))) ++ [iv (IntKind.i64.wrap (Int.ofNat (rtA N (gN N i).1).1 * Int.ofNat (gN N i).2.1)),iv (IntKind.i64.wrap (Int.ofNat (rtA N (gN N i).1).2 * Int.ofNat (gN N i).2.2))]) ((zp (rtL N (i + 1))).length + (0 + 1)) (.ch c)) .nil .nil)) 3 ty = AObj.cells (.node a (.node b .nil .nil) (.node (rtV N (i + 1) c) .nil .nil)) 3 ty :=by
 have t1 :=h.t1 i hi
 have t2 :=h.t2 i hi
 have hb :=qgy h (a :=(gN N i).1) (by have :=h.wf i hi;omega)
 have e1 :=qmd h hi
 have m1:(rtA N (gN N i).1).1 * (gN N i).2.1 ≤ 216000 * 60 :=Nat.mul_le_mul hb.1.2 t1.2
 have m2:(rtA N (gN N i).1).2 * (gN N i).2.2 ≤ 216000 * 60 :=Nat.mul_le_mul hb.2.2 t2.2
 unfold rtV
 rw [qmc N (i + 1),qq2,mulN (by omega),mulN (by omega),e1,qcj,qcj,List.length_append]
 rfl
theorem qmb (N:List Lk) (i:Nat) {ty:Nat}:AObj.chain ((zp (rtL N (i + 1))).length + (0 + 1)) 2 ty = .chain (zp (rtL N (i + 1 + 1))).length 2 ty :=by
 rw [qcj,qcj,qbn,qbn]
theorem qxe (N:List Lk) (M:List Int) {c:Nat}:Wk (.agg [.lst (lks (cL N)) N.length .no,.lst (ivs M) M.length .no,.lst (flat (zp (rtL N (N.length + 1)))) (zp (rtL N (N.length + 1))).length (.ch c)]) (.agg [nkA N,nl M,pv (zp (rtL N (N.length + 1)))]) :=by
 have :=Wk.wk (.agg [.lst (lks (cL N)) N.length .no,.lst (ivs M) M.length .no,.lst (flat (zp (rtL N (N.length + 1)))) (zp (rtL N (N.length + 1))).length (.ch c)])
 simp only [wk,wkl,qlw,qif,qgl] at this
 exact this
theorem qgm {N:List Lk} (h:okN N) (h1:1 ≤ N.length) (hN:N.length ≤ 5) (M:List Int):Pure prog 103 [.agg [nkA N,nl M]] (wiV N M) :=by
 have lN :=qa5 (cL N)
 have lM :=qau M
 have lR :=qae (zp (rtL N (N.length + 1)))
 unfold wiV
 have f0:(gN N 0).1 = 0 :=Nat.le_zero.1 (h.wf 0 h1)
 have c0:decide (0 < (N.length:Int)) = true :=decide_eq_true (by omega)
 have g0:nth (lks (cL N)) ((0:Int).toNat * 3 + 0) = some (nv 0) :=by
  have :=qg4 (cL N) 0 (by rw [qcx];exact h1)
  rw [qjc N h1] at this
  rw [show nv 0 = iv (cK (gN N 0)).1 by unfold cK;rw [f0]]
  exact this
 have g1:nth (lks (cL N)) ((0:Int).toNat * 3 + 1) = some (nv (gN N 0).2.1) :=qqa N h1
 have g2:nth (lks (cL N)) ((0:Int).toNat * 3 + 2) = some (nv (gN N 0).2.2) :=qp9 N h1
 have r0:inR 0 N.length = true :=qaq (i :=0) h1
 refine qan hE rfl (by repeat' first|exact trivial|assumption|exact qae _|exact fun _ h => nomatch h|apply And.intro) (by repeat' first|exact trivial|assumption|exact qae _|exact fun _ h => nomatch h|apply And.intro) fun S q pc hS hq hC hE => ?_
 conv => whnf
 refine qah hE hS ?_
 conv => whnf
 refine qaa (c0) ?_
 conv => whnf
 refine qaa (r0) ?_
 conv => whnf
 refine qal (nthP (g0)) ?_
 conv => whnf
 refine qad hS (by kernel_rfl) ?_
 conv => whnf
 refine qaa (r0) ?_
 conv => whnf
 refine qal (nthP (g1)) ?_
 conv => whnf
 refine qaa (r0) ?_
 conv => whnf
 refine qal (nthP (g2)) ?_
 conv => whnf
 refine qad hS (by kernel_rfl) ?_
 conv => whnf
 refine qay hE hS (A :=Nat) [1,2,3,12] (fun i => [(13,nv i)]) (fun i => [(2,.cells (.node (.lst (lks (cL N)) N.length .no) (.node (.lst (ivs M) M.length .no) .nil .nil) (.node (rtV N i 39) .nil .nil)) 3 155),(39,.chain (zp (rtL N (i + 1))).length 2 161)]) (fun _ => []) (fun i => 1 ≤ i ∧ i ≤ N.length) (fun i => N.length - i) 1 (kle rfl) rfl (zhg 42) ⟨Nat.le_refl _,h1⟩ ?_
 rintro i ⟨hi1,hi⟩ K hK
 obtain rfl:K = 42 :=hK
 conv => whnf
 by_cases hi2:i < N.length
 ·refine qaa (qag hi2) ?_
  conv => whnf
  refine qaa (qaq hi2) ?_
  conv => whnf
  refine qal (nthP (quz N hi2)) ?_
  conv => whnf
  have hf :=h.wf i hi2
  have tk:qbo 2 (qb4 ((gN N i).1 * 2) (flat (zp (rtL N (i + 1))))) = some [nv (rtA N (gN N i).1).1,nv (rtA N (gN N i).1).2] :=by
   rw [qgp _ (by rw [qbn];omega),qe0 N (by omega)]
  have lR2 :=qae (zp (rtL N (i + 1)))
  refine qaa ((show inR (Int.ofNat (gN N i).1) (zp (rtL N (i + 1))).length = true by rw [qcj,qbn];exact qaq (by omega))) ?_
  conv => whnf
  refine qal (takP tk) ?_
  conv => whnf
  refine qad hS (by kernel_rfl) ?_
  conv => whnf
  refine qaa (qaq hi2) ?_
  conv => whnf
  refine qal (nthP (qqa N hi2)) ?_
  conv => whnf
  refine qaa (qaq hi2) ?_
  conv => whnf
  refine qal (nthP (qp9 N hi2)) ?_
  conv => whnf
  have hz:(zp (rtL N (i + 1))).length = i + 1 :=by rw [qcj,qbn]
  refine qaa (decide_eq_true (show ((zp (rtL N (i + 1))).length + (0 + 1)) * 16 ≤ 140737488355328 by omega)) ?_
  conv => whnf
  refine qaa (decide_eq_true (show (zp (rtL N (i + 1))).length + (0 + 1) ≤ 9223372036854775807 by omega)) ?_
  conv => whnf
  refine qaa (qj7 (rtL N (i + 1))) ?_
  conv => whnf
  refine qaa (decide_eq_true rfl) ?_
  conv => whnf
  refine qad hS (by kernel_rfl) ?_
  conv => whnf
  exact ⟨i + 1,⟨by omega,hi2⟩,by omega,Nat.le_refl _,(zhg 42)⟩
 ·refine qac (qbt hi2) ?_
  conv => whnf
  refine .inl ?_
  conv => whnf
  have e:i = N.length :=by omega
  subst e
  exact ⟨_,rfl,qxe N M⟩
def rsm (p q:Nat × Nat):Prop :=p.1 * q.2 = q.1 * p.2
instance (p q:Nat × Nat):Decidable (rsm p q) :=Nat.decEq _ _
theorem qcz (u v:Nat × Nat) (h1:u.1 * v.2 < 4611686018427387904) (h2:v.1 * u.2 < 4611686018427387904):Pure prog 148 [qf u,qf v] (.bool (decide (rsm u v))) :=by
 refine qan hE rfl (by repeat' first|exact trivial|assumption|exact qae _|exact fun _ h => nomatch h|apply And.intro) (by repeat' first|exact trivial|assumption|exact qae _|exact fun _ h => nomatch h|apply And.intro) fun S q pc hS hq hC hE => ?_
 conv => whnf
 refine ⟨_,rfl,wkb ?_⟩
 rw [mulN (a :=u.1) (b :=v.2) (by omega),mulN (a :=v.1) (b :=u.2) (by omega),Bool.eq_iff_iff,beq_iff_eq,decide_eq_true_iff]
 exact ⟨fun h => Int.ofNat.inj h,fun h => congrArg Int.ofNat h⟩
theorem qxg {L:List Nat} (h:L ≠ []):sv (zl L) = nl (zl L) :=by
 cases L with
 |nil => exact absurd rfl h
 |cons x r => rfl
def spL (N N2:List Lk) (H:List Nat):Nat → List Nat
 | 0 => []
 |i + 1 => spL N N2 H i ++ if rsm (rtA N (gn H i)) (rtA N2 (gn H i)) then [] else [i]
theorem qkr (N N2:List Lk) (H:List Nat):∀ i,(spL N N2 H i).length ≤ i
 | 0 => Nat.le_refl 0
 |i + 1 => by
  have :=qkr N N2 H i
  rw [spL,List.length_append]
  split
  ·simp only [List.length_nil];omega
  ·simp only [List.length_cons,List.length_nil];omega
theorem rnI {m:Nat} {rs:List Nat} {L:List Nat} {y:Nat} {j c e:Nat} (hj:j < rs.length) (h1:rs.getD j 0 = c) (h2:e = m + j):RnV m rs (.lst (ivs (zl L) ++ [nv y]) (L.length + (0 + 1)) (.ch c)) (.lst (ivs (zl (L ++ [y]))) (L ++ [y]).length (.ch e)) :=by
 rw [show AV.lst (ivs (zl L) ++ [nv y]) (L.length + (0 + 1)) (.ch c) = .lst (ivs (zl (L ++ [y]))) (L ++ [y]).length (.ch c) from qxb L y c]
 exact RnV.ch hj h1 h2 (qaf (qau _))
structure hdN (n:Nat) (H:List Nat):Prop where
 l4:H.length ≤ 4
 le:∀ x,x ∈ H → x ≤ n
theorem qkq {N N2:List Lk} (h:okN N) (h2:okN N2) (_hN:N.length ≤ 5) (hl:N2.length = N.length) {H:List Nat} (hH:hdN N.length H) :
  Pure prog 104 [wiV N (zl H),wiV N2 (zl H)] (sv (zl (spL N N2 H H.length))) :=by
 have lN :=qa5 (cL N)
 have lN2 :=qa5 (cL N2)
 have lM :=qau (zl H)
 have lR :=qae (zp (rtL N (N.length + 1)))
 have lR2 :=qae (zp (rtL N2 (N2.length + 1)))
 have lv :=qv6 (zl (spL N N2 H H.length))
 have hz :=qcc H
 have h4 :=hH.l4
 unfold wiV
 refine qan hE rfl (by repeat' first|exact trivial|assumption|exact qae _|exact fun _ h => nomatch h|apply And.intro) (by repeat' first|exact trivial|assumption|exact qae _|exact fun _ h => nomatch h|apply And.intro) fun S q pc hS hq hC hE => ?_
 conv => whnf
 refine qoz hE hS (A :=Nat × AV × List AObj) [] (fun x hx => nomatch hx) [2,3,10,11] (fun (i,v,_) => [(5,v),(12,nv i)]) (fun _ => []) (fun a => a.2.2) (fun (i,v,ux) => i ≤ H.length ∧ (spL N N2 H i = [] ∧ v = .nils ∧ ux = [] ∨ spL N N2 H i ≠ [] ∧ v = .lst (ivs (zl (spL N N2 H i))) (spL N N2 H i).length (.ch 2) ∧ ux = [.chain (spL N N2 H i).length 1 3])) (fun (i,_) => H.length - i) (0,.nils,[]) (kle rfl) trivial rfl (by repeat' (first|exact trivial|exact Nat.zero_le _|exact kle rfl|exact bdq|exact mxI rfl|exact mxS rfl|apply And.intro)) zhr ⟨Nat.zero_le _,.inl ⟨rfl,rfl,rfl⟩⟩ ?_
 rintro ⟨i,v,ux⟩ ⟨hi,⟨he,rfl,rfl⟩ | ⟨he,rfl,rfl⟩⟩ K hK
 ·obtain rfl:K = 2 :=hK
  conv => whnf
  by_cases hi2:i < H.length
  ·have hiz:i < (zl H).length :=by omega
   have hg :=hH.le _ (qm3 H hi2)
   have b1 :=qgy h (a :=gn H i) hg
   have b2 :=qgy h2 (a :=gn H i) (by omega)
   have m1:(rtA N (gn H i)).1 * (rtA N2 (gn H i)).2 ≤ 216000 * 216000 :=Nat.mul_le_mul b1.1.2 b2.2.2
   have m2:(rtA N2 (gn H i)).1 * (rtA N (gn H i)).2 ≤ 216000 * 216000 :=Nat.mul_le_mul b2.1.2 b1.2.2
   have g0:nth (ivs (zl H)) (i * 1) = some (nv (gn H i)) :=by rw [qcf hiz,qi9 H hi2]
   have t1:qbo 2 (qb4 (gn H i * 2) (flat (zp (rtL N (N.length + 1))))) = some [nv (rtA N (gn H i)).1,nv (rtA N (gn H i)).2] :=by
    rw [qgp _ (by rw [qbn];omega),qe0 N (by omega)]
   have t2:qbo 2 (qb4 (gn H i * 2) (flat (zp (rtL N2 (N2.length + 1))))) = some [nv (rtA N2 (gn H i)).1,nv (rtA N2 (gn H i)).2] :=by
    rw [qgp _ (by rw [qbn];omega),qe0 N2 (by omega)]
   have hi1:IntKind.i64.wrap (Int.ofNat i + 1) = Int.ofNat (i + 1) :=qaz (m :=i + 1) (by omega)
   refine qaa (qag hiz) ?_
   conv => whnf
   refine qaa (qaq hiz) ?_
   conv => whnf
   refine qal (nthP (g0)) ?_
   conv => whnf
   refine qaa ((show inR (Int.ofNat (gn H i)) (zp (rtL N (N.length + 1))).length = true by rw [qcj,qbn];exact qaq (by omega))) ?_
   conv => whnf
   refine qal (takP t1) ?_
   conv => whnf
   refine qaa ((show inR (Int.ofNat (gn H i)) (zp (rtL N2 (N2.length + 1))).length = true by rw [qcj,qbn];exact qaq (by omega))) ?_
   conv => whnf
   refine qal (takP t2) ?_
   conv => whnf
   refine qab hC (qcz (rtA N (gn H i)) (rtA N2 (gn H i)) (by omega) (by omega)) ?_
   conv => whnf
   refine qad hS (by kernel_rfl) ?_
   conv => whnf
   by_cases hs:rsm (rtA N (gn H i)) (rtA N2 (gn H i))
   ·have e1:spL N N2 H (i + 1) = [] :=by rw [spL,if_pos hs,he];rfl
    refine qac (nt_t (decide_eq_true hs)) ?_
    conv => whnf
    exact ⟨(i + 1,.nils,[]),[],⟨hi2,.inl ⟨e1,rfl,rfl⟩⟩,by show H.length - (i + 1) < H.length - i;omega,zhr⟩
   ·have e1:spL N N2 H (i + 1) = [i] :=by rw [spL,if_neg hs,he];rfl
    refine qaa (nt_f (decide_eq_false hs)) ?_
    conv => whnf
    exact ⟨(i + 1,.lst [nv i] 1 (.ch 2),[.chain 1 1 3]),[14],⟨hi2,.inr ⟨by rw [e1];simp,by rw [e1];rfl,by rw [e1];rfl⟩⟩,by show H.length - (i + 1) < H.length - i;omega,zhr⟩
  ·refine qac (qbt (show ¬ i < (zl H).length by omega)) ?_
   conv => whnf
   have e:i = H.length :=by omega
   rw [← e,he]
   exact ⟨_,rfl,Wk.refl _⟩
 ·obtain rfl:K = 3 :=hK
  conv => whnf
  by_cases hi2:i < H.length
  ·have hiz:i < (zl H).length :=by omega
   have hg :=hH.le _ (qm3 H hi2)
   have b1 :=qgy h (a :=gn H i) hg
   have b2 :=qgy h2 (a :=gn H i) (by omega)
   have m1:(rtA N (gn H i)).1 * (rtA N2 (gn H i)).2 ≤ 216000 * 216000 :=Nat.mul_le_mul b1.1.2 b2.2.2
   have m2:(rtA N2 (gn H i)).1 * (rtA N (gn H i)).2 ≤ 216000 * 216000 :=Nat.mul_le_mul b2.1.2 b1.2.2
   have g0:nth (ivs (zl H)) (i * 1) = some (nv (gn H i)) :=by rw [qcf hiz,qi9 H hi2]
   have t1:qbo 2 (qb4 (gn H i * 2) (flat (zp (rtL N (N.length + 1))))) = some [nv (rtA N (gn H i)).1,nv (rtA N (gn H i)).2] :=by
    rw [qgp _ (by rw [qbn];omega),qe0 N (by omega)]
   have t2:qbo 2 (qb4 (gn H i * 2) (flat (zp (rtL N2 (N2.length + 1))))) = some [nv (rtA N2 (gn H i)).1,nv (rtA N2 (gn H i)).2] :=by
    rw [qgp _ (by rw [qbn];omega),qe0 N2 (by omega)]
   have hi1:IntKind.i64.wrap (Int.ofNat i + 1) = Int.ofNat (i + 1) :=qaz (m :=i + 1) (by omega)
   refine qaa (qag hiz) ?_
   conv => whnf
   refine qaa (qaq hiz) ?_
   conv => whnf
   refine qal (nthP (g0)) ?_
   conv => whnf
   refine qaa ((show inR (Int.ofNat (gn H i)) (zp (rtL N (N.length + 1))).length = true by rw [qcj,qbn];exact qaq (by omega))) ?_
   conv => whnf
   refine qal (takP t1) ?_
   conv => whnf
   refine qaa ((show inR (Int.ofNat (gn H i)) (zp (rtL N2 (N2.length + 1))).length = true by rw [qcj,qbn];exact qaq (by omega))) ?_
   conv => whnf
   refine qal (takP t2) ?_
   conv => whnf
   refine qab hC (qcz (rtA N (gn H i)) (rtA N2 (gn H i)) (by omega) (by omega)) ?_
   conv => whnf
   refine qad hS (by kernel_rfl) ?_
   conv => whnf
   have hsl :=qkr N N2 H i
   by_cases hs:rsm (rtA N (gn H i)) (rtA N2 (gn H i))
   ·have e1:spL N N2 H (i + 1) = spL N N2 H i :=by rw [spL,if_pos hs,List.append_nil]
    refine qac (nt_t (decide_eq_true hs)) ?_
    conv => whnf
    exact ⟨(i + 1,.lst (ivs (zl (spL N N2 H i))) (spL N N2 H i).length (.ch 2),[.chain (spL N N2 H i).length 1 3]),[2],⟨hi2,.inr ⟨by rw [e1];exact he,by rw [e1],by rw [e1]⟩⟩,by show H.length - (i + 1) < H.length - i;omega,zhr⟩
   ·have e1:spL N N2 H (i + 1) = spL N N2 H i ++ [i] :=by rw [spL,if_neg hs]
    refine qaa (nt_f (decide_eq_false hs)) ?_
    conv => whnf
    refine qaa (decide_eq_true (show ((spL N N2 H i).length + (0 + 1)) * 8 ≤ 140737488355328 by omega)) ?_
    conv => whnf
    refine qaa (decide_eq_true (show (spL N N2 H i).length + (0 + 1) ≤ 9223372036854775807 by omega)) ?_
    conv => whnf
    refine qaa (qsq (spL N N2 H i)) ?_
    conv => whnf
    refine qaa (decide_eq_true rfl) ?_
    conv => whnf
    exact ⟨(i + 1,.lst (ivs (zl (spL N N2 H i ++ [i]))) (spL N N2 H i ++ [i]).length (.ch 2),[.chain (spL N N2 H i ++ [i]).length 1 3]),[2],⟨hi2,.inr ⟨by rw [e1];simp,by rw [e1],by rw [e1]⟩⟩,by show H.length - (i + 1) < H.length - i;omega,zhr⟩
  ·refine qac (qbt (show ¬ i < (zl H).length by omega)) ?_
   conv => whnf
   have e:i = H.length :=by omega
   rw [← e,qxg he]
   exact ⟨_,rfl,qxd _ 2⟩
def suP (N N2:List Lk) (H:List Nat) (hand:Nat) (to:Nat × Nat):Prop :=rsm (rtA N2 (gn H hand)) to ∧ (spL N N2 H H.length = [] ∨ spL N N2 H H.length = [hand])
instance (N N2:List Lk) (H:List Nat) (hand:Nat) (to:Nat × Nat):Decidable (suP N N2 H hand to) :=instDecidableAnd
theorem qnl {N N2:List Lk} (h:okN N) (h2:okN N2) (hN:N.length ≤ 5) (hl:N2.length = N.length) {H:List Nat} (hH:hdN N.length H) {hand:Nat} (hh:hand < H.length) {to:Nat × Nat} (t1:to.1 ≤ 50000) (t2:to.2 ≤ 50000) :
  Pure prog 109 [wiV N (zl H),wiV N2 (zl H),nv hand,qf to] (.bool (decide (suP N N2 H hand to))) :=by
 have lN :=qa5 (cL N)
 have lN2 :=qa5 (cL N2)
 have lM :=qau (zl H)
 have lR :=qae (zp (rtL N (N.length + 1)))
 have lR2 :=qae (zp (rtL N2 (N2.length + 1)))
 have sp :=qkq h h2 hN hl hH
 have hz :=qcc H
 have hiz:hand < (zl H).length :=by omega
 have hg :=hH.le _ (qm3 H hh)
 have b2 :=qgy h2 (a :=gn H hand) (by omega)
 have m1:(rtA N2 (gn H hand)).1 * to.2 ≤ 216000 * 50000 :=Nat.mul_le_mul b2.1.2 t2
 have m2:to.1 * (rtA N2 (gn H hand)).2 ≤ 50000 * 216000 :=Nat.mul_le_mul t1 b2.2.2
 have g0:nth (ivs (zl H)) (hand * 1) = some (nv (gn H hand)) :=by rw [qcf hiz,qi9 H hh]
 have t2:qbo 2 (qb4 (gn H hand * 2) (flat (zp (rtL N2 (N2.length + 1))))) = some [nv (rtA N2 (gn H hand)).1,nv (rtA N2 (gn H hand)).2] :=by
  rw [qgp _ (by rw [qbn];omega),qe0 N2 (by omega)]
 have hsl :=qkr N N2 H H.length
 by_cases hs:rsm (rtA N2 (gn H hand)) to
 ·have c1 :=nt_t (decide_eq_true hs)
  match hL:spL N N2 H H.length,sp with
  | [],sp =>
   have e:decide (suP N N2 H hand to) = true :=decide_eq_true ⟨hs,.inl hL⟩
   rw [e]
   have sp:Pure prog 104 [wiV N (zl H),wiV N2 (zl H)] .nils :=sp
   unfold wiV at sp ⊢
   refine qan hE rfl (by repeat' first|exact trivial|assumption|exact qae _|exact fun _ h => nomatch h|apply And.intro) (by repeat' first|exact trivial|assumption|exact qae _|exact fun _ h => nomatch h|apply And.intro) fun S q pc hS hq hC hE => ?_
   conv => whnf
   refine qaa (qaq hiz) ?_
   conv => whnf
   refine qal (nthP (g0)) ?_
   conv => whnf
   refine qaa ((show inR (Int.ofNat (gn H hand)) (zp (rtL N2 (N2.length + 1))).length = true by rw [qcj,qbn];exact qaq (by omega))) ?_
   conv => whnf
   refine qal (takP t2) ?_
   conv => whnf
   refine qab hC (qcz (rtA N2 (gn H hand)) to (by omega) (by omega)) ?_
   conv => whnf
   refine qad hS (by kernel_rfl) ?_
   conv => whnf
   refine qac (c1) ?_
   conv => whnf
   refine qab hC (sp) ?_
   conv => whnf
   exact ⟨_,rfl,Wk.refl _⟩
  | [x],sp =>
   have sp:Pure prog 104 [wiV N (zl H),wiV N2 (zl H)] (.lst [nv x] 1 .no) :=sp
   unfold wiV at sp ⊢
   refine qan hE rfl (by repeat' first|exact trivial|assumption|exact qae _|exact fun _ h => nomatch h|apply And.intro) (by repeat' first|exact trivial|assumption|exact qae _|exact fun _ h => nomatch h|apply And.intro) fun S q pc hS hq hC hE => ?_
   conv => whnf
   refine qaa (qaq hiz) ?_
   conv => whnf
   refine qal (nthP (g0)) ?_
   conv => whnf
   refine qaa ((show inR (Int.ofNat (gn H hand)) (zp (rtL N2 (N2.length + 1))).length = true by rw [qcj,qbn];exact qaq (by omega))) ?_
   conv => whnf
   refine qal (takP t2) ?_
   conv => whnf
   refine qab hC (qcz (rtA N2 (gn H hand)) to (by omega) (by omega)) ?_
   conv => whnf
   refine qad hS (by kernel_rfl) ?_
   conv => whnf
   refine qac (c1) ?_
   conv => whnf
   refine qab hC (sp) ?_
   conv => whnf
   refine ⟨_,rfl,wkb ?_⟩
   rw [Bool.eq_iff_iff,beq_iff_eq,decide_eq_true_iff]
   refine ⟨fun z => ⟨hs,.inr (by rw [hL,Int.ofNat.inj z])⟩,fun z => ?_⟩
   rcases z.2 with z | z <;> rw [hL] at z
   ·cases z
   ·exact congrArg Int.ofNat (List.cons.inj z).1
  |x :: y :: r,sp =>
   have e:decide (suP N N2 H hand to) = false :=decide_eq_false fun z => by
    rcases z.2 with z | z <;> rw [hL] at z <;> cases z
   rw [e]
   have sp:Pure prog 104 [wiV N (zl H),wiV N2 (zl H)] (nl (zl (x :: y :: r))) :=sp
   have lsp :=nl_no (zl (x :: y :: r))
   unfold wiV at sp ⊢
   refine qan hE rfl (by repeat' first|exact trivial|assumption|exact qae _|exact fun _ h => nomatch h|apply And.intro) (by repeat' first|exact trivial|assumption|exact qae _|exact fun _ h => nomatch h|apply And.intro) fun S q pc hS hq hC hE => ?_
   conv => whnf
   refine qaa (qaq hiz) ?_
   conv => whnf
   refine qal (nthP (g0)) ?_
   conv => whnf
   refine qaa ((show inR (Int.ofNat (gn H hand)) (zp (rtL N2 (N2.length + 1))).length = true by rw [qcj,qbn];exact qaq (by omega))) ?_
   conv => whnf
   refine qal (takP t2) ?_
   conv => whnf
   refine qab hC (qcz (rtA N2 (gn H hand)) to (by omega) (by omega)) ?_
   conv => whnf
   refine qad hS (by kernel_rfl) ?_
   conv => whnf
   refine qac (c1) ?_
   conv => whnf
   refine qab hC (sp) ?_
   conv => whnf
   exact ⟨_,rfl,Wk.refl _⟩
 ·have c1 :=nt_f (decide_eq_false hs)
  have e:decide (suP N N2 H hand to) = false :=decide_eq_false fun z => hs z.1
  rw [e]
  unfold wiV
  refine qan hE rfl (by repeat' first|exact trivial|assumption|exact qae _|exact fun _ h => nomatch h|apply And.intro) (by repeat' first|exact trivial|assumption|exact qae _|exact fun _ h => nomatch h|apply And.intro) fun S q pc hS hq hC hE => ?_
  conv => whnf
  refine qaa (qaq hiz) ?_
  conv => whnf
  refine qal (nthP (g0)) ?_
  conv => whnf
  refine qaa ((show inR (Int.ofNat (gn H hand)) (zp (rtL N2 (N2.length + 1))).length = true by rw [qcj,qbn];exact qaq (by omega))) ?_
  conv => whnf
  refine qal (takP t2) ?_
  conv => whnf
  refine qab hC (qcz (rtA N2 (gn H hand)) to (by omega) (by omega)) ?_
  conv => whnf
  refine qad hS (by kernel_rfl) ?_
  conv => whnf
  refine qaa (c1) ?_
  conv => whnf
  exact ⟨_,rfl,Wk.refl _⟩
theorem qva (L:List LkI) {i n:Nat} (h:i < n):gL (L.take n) i = gL L i :=by simp [gL,List.getD,h]
theorem qxq {L:List LkI} {N:List Lk} (e:cL N = L.take N.length) {i:Nat} (hi:i < N.length):gL L i = cK (gN N i) :=by
 rw [← qjc N hi,e,qva L hi]
theorem lk3 {L:List LkI} {N:List Lk} (e:cL N = L.take N.length) (hl:N.length ≤ L.length) (h5:L.length ≤ 7) {i:Nat} (hi:i < N.length):qbo 3 (qb4 ((IntKind.i64.wrap (Int.ofNat (i + 1) - 1)).toNat * 3) (lks L)) = some [nv (gN N i).1,nv (gN N i).2.1,nv (gN N i).2.2] :=by
 have :=qoy L (i :=i) (by omega)
 rw [qxq e hi] at this
 rw [qol (by omega)]
 exact this
theorem lkR7 {n i:Nat} (h:i < n) (hN:n ≤ 7):inR (IntKind.i64.wrap (Int.ofNat (i + 1) - 1)) n = true :=by
 rw [qol (by omega)];exact qaq h
theorem qvy (l:List (Nat × Nat)):Live noL (tvA l) :=by
 cases l with
 |nil => trivial
 |cons x r => exact ⟨qae _,fun _ h => nomatch h⟩
theorem qou (t:List (Nat × Nat)) (p:Nat × Nat):tvA (t ++ [p]) = pv (zp (t ++ [p])) :=by
 cases t <;> rfl
theorem qt5 {t:List (Nat × Nat)} {p:Nat × Nat} {k c:Nat} (hk:k = (zp (t ++ [p])).length):Wk (.lst (flat (zp t) ++ [nv p.1,nv p.2]) k (.ch c)) (pv (zp (t ++ [p]))) :=by
 rw [← qq2]
 exact qvu hk
theorem qmg {L:List LkI} {M:List Int} {N:List Lk} (e:cL N = L.take N.length) (hl:N.length ≤ L.length) (h5:L.length ≤ 7) (h:wfN N):∀ (f a:Nat),a ≤ f → a ≤ N.length → Pure prog 92 [.agg [lkA L,nl M],nv a] (tvA (tr N a))
 | _,0,_,_ => by
  have lL :=lkA_no L
  have lM :=qau M
  have lLs :=qa5 L
  rw [qov]
  refine qan hE rfl (by repeat' first|exact trivial|assumption|exact qae _|exact fun _ h => nomatch h|apply And.intro) (by repeat' first|exact trivial|assumption|exact qae _|exact fun _ h => nomatch h|apply And.intro) fun S q pc hS hq hC hE => ?_
  conv => whnf
  exact ⟨_,rfl,Wk.refl _⟩
 | 0,_ + 1,h1,_ => absurd h1 (Nat.not_succ_le_zero _)
 |f + 1,i + 1,h1,h2 => by
  have hi :=h i (by omega)
  have ih :=qmg (M :=M) e hl h5 h f (gN N i).1 (by omega) (by omega)
  have hlen :=qta h (gN N i).1 (gN N i).1 (Nat.le_refl _) (by omega)
  have lT :=qvy (tr N (gN N i).1)
  have l3 :=lk3 e hl h5 (i :=i) (by omega)
  have lL :=lkA_no L
  have lM :=qau M
  have lLs :=qa5 L
  rw [qdi h (by omega),qou]
  generalize gN N i = y at *
  obtain ⟨b,c,d⟩ :=y
  have hlen:(tr N b).length ≤ 7 :=Nat.le_trans hlen (Nat.le_trans (show b ≤ i from hi) (by omega))
  have ih:Pure prog 92 [.agg [lkA L,nl M],nv b] (tvA (tr N b)) :=ih
  have lT:Live noL (tvA (tr N b)) :=lT
  have l3:qbo 3 (qb4 ((IntKind.i64.wrap (Int.ofNat (i + 1) - 1)).toNat * 3) (lks L)) = some [nv b,nv c,nv d] :=l3
  show Pure prog _ _ (pv (zp (tr N b ++ [(c,d)])))
  generalize tr N b = t at *
  cases t with
  |nil =>
   refine qan hE rfl (by repeat' first|exact trivial|assumption|exact qae _|exact fun _ h => nomatch h|apply And.intro) (by repeat' first|exact trivial|assumption|exact qae _|exact fun _ h => nomatch h|apply And.intro) fun S q pc hS hq hC hE => ?_
   conv => whnf
   refine qaa (lkR7 (show i < L.length by omega) h5) ?_
   conv => whnf
   refine qal (takP l3) ?_
   conv => whnf
   refine qab hC (ih) ?_
   conv => whnf
   refine qad hS (by kernel_rfl) ?_
   conv => whnf
   exact ⟨_,rfl,Wk.wk _⟩
  |cons w0 r =>
   have ih:Pure prog 92 [.agg [lkA L,nl M],nv b] (pv (zp (w0 :: r))) :=ih
   have lq :=qae (zp (w0 :: r))
   refine qan hE rfl (by repeat' first|exact trivial|assumption|exact qae _|exact fun _ h => nomatch h|apply And.intro) (by repeat' first|exact trivial|assumption|exact qae _|exact fun _ h => nomatch h|apply And.intro) fun S q pc hS hq hC hE => ?_
   conv => whnf
   refine qaa (lkR7 (show i < L.length by omega) h5) ?_
   conv => whnf
   refine qal (takP l3) ?_
   conv => whnf
   refine qab hC (ih) ?_
   conv => whnf
   refine qal (qul (e :=86) (ys :=flat (zp (w0 :: r))) (m :=(zp (w0 :: r)).length) (l :=flat (zp (w0 :: r))) (by kernel_rfl) rfl (qnj (zp (w0 :: r)))) ?_
   conv => whnf
   have hz :=qcj r
   have hlen:r.length + 1 ≤ 7 :=hlen
   refine qaa (qfj (zp (w0 :: r))) ?_
   conv => whnf
   refine qaa (decide_eq_true (show ((zp r).length + 1) * 16 ≤ 140737488355328 by omega)) ?_
   conv => whnf
   refine qaa (decide_eq_true (show (zp r).length + 1 ≤ 9223372036854775807 by omega)) ?_
   conv => whnf
   refine qaa (decide_eq_true (show ((zp r).length + 1 + (0 + 1)) * 16 ≤ 140737488355328 by omega)) ?_
   conv => whnf
   refine qaa (decide_eq_true (show (zp r).length + 1 + (0 + 1) ≤ 9223372036854775807 by omega)) ?_
   conv => whnf
   refine qaa (qj7 (w0 :: r)) ?_
   conv => whnf
   refine qaa (decide_eq_true rfl) ?_
   conv => whnf
   refine qad hS (by kernel_rfl) ?_
   conv => whnf
   exact ⟨_,rfl,qt5 (t :=w0 :: r) (p :=(c,d)) (by rw [qcj,List.length_append];show (zp r).length + 1 + (0 + 1) = r.length + 1 + 1;omega)⟩
end
end Go.Abs.Seat
