/-
  Bills: what is as defined.
-/
import Derived.Test.YtlmadgdonalncaaGreatDoorU7
import Derived.Test.YtlmadgdonalncaaGreatDoorT51
import Derived.Test.YtlmadgdonalncaaGreatDoorU9
import Derived.Test.YtlmadgdonalncaaGreatDoorU6
import Derived.Test.YtlmadgdonalncaaGreatDoorU4
import Derived.Test.YtlmadgdonalncaaGreatDoorT44
namespace Go.Abs.Seat
noncomputable section
open Go Go.Abs Go.Proofs.Tryz
set_option maxRecDepth 100000
set_option maxHeartbeats 40000000
attribute [local irreducible] IntKind.wrap pEq
abbrev bv (x:AV) (a b c s e:Int):AV :=.agg [x,iv a,iv b,iv c,iv s,iv e]
theorem qax (x a b:Int):Pure prog 101 [iv x,iv a,iv b] (.bool (decide (a ≤ x ∧ x ≤ b))) :=by
 refine qas hE rfl (by repeat' first|exact trivial|assumption|exact qag _|exact fun _ h => nomatch h|apply And.intro) (by repeat' first|exact trivial|assumption|exact qag _|exact fun _ h => nomatch h|apply And.intro) fun S q pc hS hq hC hE => ?_
 conv => whnf
 by_cases h:a ≤ x
 ·rw [show decide (x ≥ a) = true from decide_eq_true h]
  conv => whnf
  exact ⟨_,rfl,wkb (by simp [h])⟩
 ·rw [show decide (x ≥ a) = false from decide_eq_false h]
  conv => whnf
  exact ⟨_,rfl,wkb (by simp [h])⟩
theorem qaw (x a b:Int):Pure prog 67 [iv x,iv a,iv b] (.bool (decide (a ≤ x ∧ x ≤ b))) :=by
 refine qas hE rfl (by repeat' first|exact trivial|assumption|exact qag _|exact fun _ h => nomatch h|apply And.intro) (by repeat' first|exact trivial|assumption|exact qag _|exact fun _ h => nomatch h|apply And.intro) fun S q pc hS hq hC hE => ?_
 conv => whnf
 by_cases h:a ≤ x
 ·rw [show decide (x ≥ a) = true from decide_eq_true h]
  conv => whnf
  exact ⟨_,rfl,wkb (by simp [h])⟩
 ·rw [show decide (x ≥ a) = false from decide_eq_false h]
  conv => whnf
  exact ⟨_,rfl,wkb (by simp [h])⟩
theorem qbt (a:Int):Pure prog 138 [iv a] (.bool (decide (tth a))) :=by
 refine qas hE rfl (by repeat' first|exact trivial|assumption|exact qag _|exact fun _ h => nomatch h|apply And.intro) (by repeat' first|exact trivial|assumption|exact qag _|exact fun _ h => nomatch h|apply And.intro) fun S q pc hS hq hC hE => ?_
 conv => whnf
 refine qab hC (qax a 4 60) ?_
 conv => whnf
 exact ⟨_,rfl,Wk.refl _⟩
def fixP (p:Int → Bool):List Int → Int → Int
 | [],_ => -1
 |x :: r,i => if p x = true then i else fixP p r (i + 1)
theorem qtc (p:Int → Bool):∀ (l:List Int) (i:Int),0 ≤ i → decide (fixP p l i ≥ 0) = l.any p
 | [],i,_ => rfl
 |x :: r,i,h => by
  rw [fixP,List.any_cons]
  by_cases hx:p x = true
  ·rw [if_pos hx,decide_eq_true h,hx];rfl
  ·rw [if_neg hx,qtc p r (i + 1) (by omega),Bool.eq_false_iff.2 hx];rfl
theorem qzo (l:List Int) {i:Nat} (h:i < l.length):gi l i ∈ l :=by
 have e:gi l i = l[i] :=by simp [gi,List.getD,h]
 rw [e];exact List.getElem_mem h
/- The walk through a list for the first member that is so (IndexFunc, ContainsFunc): hp is what the closure tells. -/
theorem qyt (l:List Int):(l.any fun a => !(decide (tth a))) = !(decide (allT l)) :=by
 by_cases h:allT l
 ·rw [decide_eq_true h]
  apply Bool.eq_false_iff.2
  intro k
  obtain ⟨x,hx,hb⟩ :=List.any_eq_true.1 k
  obtain ⟨j,hj,e⟩ :=List.getElem_of_mem hx
  have :=h j hj
  rw [show gi l j = x by rw [← e];simp [gi,List.getD,hj]] at this
  rw [decide_eq_true this] at hb
  cases hb
 ·rw [decide_eq_false h]
  apply Classical.byContradiction
  intro k
  apply h
  intro j hj
  apply Classical.byContradiction
  intro hb
  apply k
  refine List.any_eq_true.2 ⟨gi l j,qzo l hj,?_⟩
  rw [decide_eq_false hb];rfl
theorem qjh (a:Int):Pure prog 137 [iv a] (.bool (!(decide (tth a)))) :=by
 refine qas hE rfl (by repeat' first|exact trivial|assumption|exact qag _|exact fun _ h => nomatch h|apply And.intro) (by repeat' first|exact trivial|assumption|exact qag _|exact fun _ h => nomatch h|apply And.intro) fun S q pc hS hq hC hE => ?_
 conv => whnf
 refine qab hC (qbt a) ?_
 conv => whnf
 exact ⟨_,rfl,Wk.refl _⟩
theorem qje (l:List Int) (hl:l.length < 4611686018427387904):Pure prog 151 [nl l,.func (.func 137) [] []] (iv (fixP (fun a => !(decide (tth a))) l 0)) :=by
 have hp :=qjh
 generalize hq:(fun a => !(decide (tth a))) = p at *
 have hp:∀ a,Pure prog 137 [iv a] (.bool (p a)) :=fun a => by rw [← hq];exact hp a
 have ll :=qal l
 refine qas hE rfl (by repeat' first|exact trivial|assumption|exact qag _|exact fun _ h => nomatch h|apply And.intro) (by repeat' first|exact trivial|assumption|exact qag _|exact fun _ h => nomatch h|apply And.intro) fun S q pc hS hq hC hE => ?_
 conv => whnf
 refine qfr hE hS (A :=Nat) [0,1,7] (fun i => [(8,nv i)]) (fun _ => []) (fun i => i ≤ l.length ∧ fixP p (l.drop i) i = fixP p l 0) (fun i => l.length - i) 0 rfl rfl (by refine ⟨rfl,rfl,rfl,rfl,?_,?_⟩ <;> repeat' (first|exact trivial|exact rfl|exact Nat.zero_le _|exact kle rfl|exact qae (by assumption)|exact qae (qag _)|exact qae (qal _)|exact mxI rfl|apply And.intro)) ⟨Nat.zero_le _,rfl⟩ ?_
 intro i ⟨hi,he⟩
 conv => whnf
 by_cases h:i < l.length
 ·rw [show decide (Int.ofNat i < ↑l.length) = true from qa3 h]
  conv => whnf
  refine qaa (qav (i :=i) (n :=l.length) h) ?_
  conv => whnf
  refine qaf (nthP (qbp (l :=l) (i :=i) h)) ?_
  conv => whnf
  refine qab hC (hp (gi l i)) ?_
  conv => whnf
  rw [qyn l h,fixP] at he
  by_cases h1:p (gi l i) = true
  ·rw [if_pos h1] at he
   refine qaa (h1) ?_
   conv => whnf
   rw [← he]
   exact ⟨_,rfl,Wk.refl _⟩
  ·rw [if_neg h1] at he
   refine qac ((Bool.eq_false_iff.2 h1)) ?_
   conv => whnf
   rw [show IntKind.i64.wrap (Int.ofNat i + 1) = Int.ofNat (i + 1) from qa7 (m :=i + 1) (by omega)]
   exact ⟨i + 1,⟨h,he⟩,by omega,(by refine ⟨rfl,rfl,rfl,rfl,?_,?_⟩ <;> repeat' (first|exact trivial|exact rfl|exact Nat.zero_le _|exact kle rfl|exact qae (by assumption)|exact qae (qag _)|exact qae (qal _)|exact mxI rfl|apply And.intro))⟩
 ·rw [show decide (Int.ofNat i < ↑l.length) = false from qbn h]
  conv => whnf
  rw [List.drop_eq_nil_of_le (by omega),fixP] at he
  rw [← he]
  exact ⟨_,rfl,Wk.refl _⟩
theorem qjf:Pure prog 151 [.nils,.func (.func 137) [] []] (iv (-1)) :=by
 refine qas hE rfl (by repeat' first|exact trivial|assumption|exact qag _|exact fun _ h => nomatch h|apply And.intro) (by repeat' first|exact trivial|assumption|exact qag _|exact fun _ h => nomatch h|apply And.intro) fun S q pc hS hq hC hE => ?_
 conv => whnf
 refine qam hE hS ?_
 conv => whnf
 exact ⟨_,rfl,Wk.refl _⟩
theorem qjg {v:AV} {l:List Int} (h:IL v l) (hl:l.length < 4611686018427387904):Pure prog 122 [v,.func (.func 137) [] []] (.bool (!(decide (allT l)))) :=by
 have lv :=h.no
 rw [← qyt l,← qtc _ l 0 (Int.le_refl _)]
 rcases h with ⟨rfl,rfl⟩ | rfl
 ·refine qas hE rfl (by repeat' first|exact trivial|assumption|exact qag _|exact fun _ h => nomatch h|apply And.intro) (by repeat' first|exact trivial|assumption|exact qag _|exact fun _ h => nomatch h|apply And.intro) fun S q pc hS hq hC hE => ?_
  conv => whnf
  refine qab hC (qjf) ?_
  conv => whnf
  exact ⟨_,rfl,Wk.refl _⟩
 ·refine qas hE rfl (by repeat' first|exact trivial|assumption|exact qag _|exact fun _ h => nomatch h|apply And.intro) (by repeat' first|exact trivial|assumption|exact qag _|exact fun _ h => nomatch h|apply And.intro) fun S q pc hS hq hC hE => ?_
  conv => whnf
  refine qab hC (qje l hl) ?_
  conv => whnf
  exact ⟨_,rfl,Wk.refl _⟩
def whOk (l:List Int):Prop :=l.length ≤ 8 ∧ allT l
instance (l:List Int):Decidable (whOk l) :=Classical.propDecidable _
theorem qkz {v:AV} {l:List Int} (h:IL v l) (hl:l.length < 4611686018427387904):Pure prog 84 [v] (.bool (decide (whOk l))) :=by
 have hb :=qjg h hl
 have lv :=h.no
 have nx:¬ (l.length ≤ 8) → decide (whOk l) = false :=fun k => decide_eq_false fun z => k z.1
 have ex:l.length ≤ 8 → decide (whOk l) = decide (allT l) :=fun k => decide_eq_decide.2 ⟨fun z => z.2,fun z => ⟨k,z⟩⟩
 rcases h with ⟨rfl,rfl⟩ | rfl
 ·refine qas hE rfl (by repeat' first|exact trivial|assumption|exact qag _|exact fun _ h => nomatch h|apply And.intro) (by repeat' first|exact trivial|assumption|exact qag _|exact fun _ h => nomatch h|apply And.intro) fun S q pc hS hq hC hE => ?_
  conv => whnf
  refine qab hC (hb) ?_
  conv => whnf
  rw [ex (Nat.zero_le _)]
  exact ⟨_,rfl,wkb (by simp)⟩
 ·refine qas hE rfl (by repeat' first|exact trivial|assumption|exact qag _|exact fun _ h => nomatch h|apply And.intro) (by repeat' first|exact trivial|assumption|exact qag _|exact fun _ h => nomatch h|apply And.intro) fun S q pc hS hq hC hE => ?_
  conv => whnf
  by_cases k:l.length ≤ 8
  ·rw [show decide ((l.length:Int) ≤ 8) = true from decide_eq_true (by omega)]
   conv => whnf
   refine qab hC (hb) ?_
   conv => whnf
   rw [ex k]
   exact ⟨_,rfl,wkb (by simp)⟩
  ·rw [show decide ((l.length:Int) ≤ 8) = false from decide_eq_false (by omega)]
   conv => whnf
   rw [nx k]
   exact ⟨_,rfl,Wk.refl _⟩




end
end Go.Abs.Seat
namespace Go.Abs.Seat
noncomputable section
open Go Go.Abs Go.Proofs.Tryz
set_option maxRecDepth 100000
set_option maxHeartbeats 4000000

abbrev Lk :=Nat × Nat × Nat
abbrev LkI :=Int × Int × Int
abbrev gL (L:List LkI) (i:Nat):LkI :=L.getD i (0,0,0)
abbrev gN (N:List Lk) (i:Nat):Lk :=N.getD i (0,0,0)
def lks:List LkI → List AV
 | [] => []
 |x :: r => iv x.1 :: iv x.2.1 :: iv x.2.2 :: lks r
abbrev lkA (L:List LkI):AV :=.lst (lks L) L.length .no
def cK (x:Lk):LkI :=(Int.ofNat x.1,Int.ofNat x.2.1,Int.ofNat x.2.2)
def cL (N:List Lk):List LkI :=N.map cK
abbrev nkA (N:List Lk):AV :=.lst (lks (cL N)) N.length .no
theorem qf9 (N:List Lk):(cL N).length = N.length :=List.length_map _
theorem lks_len:∀ L,(lks L).length = L.length * 3
 | [] => rfl
 | _ :: r => by simp only [lks,List.length_cons,lks_len r];omega
theorem qau:∀ L,Lives noL (lks L)
 | [] => trivial
 | _ :: r => ⟨trivial,trivial,trivial,qau r⟩
theorem lkA_no (L:List LkI):Live noL (lkA L) :=⟨qau L,fun _ h => nomatch h⟩
theorem qh2:∀ (l r:List LkI),lks (l ++ r) = lks l ++ lks r
 | [],_ => rfl
 | _ :: l,r => by simp only [lks,List.cons_append,qh2 l r]
theorem qqs:∀ L,wkl (lks L) = lks L
 | [] => rfl
 | _ :: r => by simp only [lks,wkl,wk,qqs r]
theorem qto (l:List LkI) {i:Nat} (h:i < l.length):l.drop i = gL l i :: l.drop (i + 1) :=by
 rw [List.drop_eq_getElem_cons h]
 simp [gL,List.getD,h]
theorem qw8 (l:List LkI) {i:Nat} (h:i < l.length):l.take (i + 1) = l.take i ++ [gL l i] :=by
 rw [List.take_succ_eq_append_getElem h]
 simp [gL,List.getD,h]
theorem qwf (l:List Lk) {i:Nat} (h:i < l.length):gN l i ∈ l :=by
 have e:gN l i = l[i] :=by simp [gN,List.getD,h]
 rw [e];exact List.getElem_mem h
theorem qlp (N:List Lk) {i:Nat} (h:i < N.length):gL (cL N) i = cK (gN N i) :=by
 simp [gL,gN,cL,List.getD,h]
theorem qkf:∀ (l:List LkI) (i:Nat),qcl (i * 3) (lks l) = lks (l.drop i)
 | _,0 => rfl
 | [],i + 1 => by rw [qc1,List.drop_eq_nil_of_le (Nat.zero_le _),List.drop_eq_nil_of_le (Nat.zero_le _)];rfl
 |p :: r,i + 1 => by
  rw [show (i + 1) * 3 = i * 3 + 3 by omega,List.drop_succ_cons,← qkf r i]
  rfl
theorem qny (l:List LkI) {i:Nat} (h:i < l.length):qb0 3 (qcl (i * 3) (lks l)) = some [iv (gL l i).1,iv (gL l i).2.1,iv (gL l i).2.2] :=by
 rw [qkf,qto l h]
 rfl
theorem qy2 (N:List Lk) {i:Nat} (h:i < N.length):qb0 3 (qcl (i * 3) (lks (cL N))) = some [nv (gN N i).1,nv (gN N i).2.1,nv (gN N i).2.2] :=by
 rw [qny (cL N) (by rw [qf9];exact h),qlp N h]
 rfl
def trF (N:List Lk):Nat → Nat → List (Nat × Nat)
 | _,0 => []
 | 0,_ + 1 => []
 |f + 1,a + 1 => trF N f (gN N a).1 ++ [(gN N a).2]
def tr (N:List Lk) (a:Nat):List (Nat × Nat) :=trF N a a
def wfN (N:List Lk):Prop :=∀ i,i < N.length → (gN N i).1 ≤ i
theorem qnw (N:List Lk) (h:wfN N):∀ (f g a:Nat),a ≤ f → a ≤ g → a ≤ N.length → trF N f a = trF N g a
 | 0,0,0,_,_,_ => rfl
 | 0,_ + 1,0,_,_,_ => rfl
 | _ + 1,0,0,_,_,_ => rfl
 | _ + 1,_ + 1,0,_,_,_ => rfl
 | 0,_,a + 1,h1,_,_ => absurd h1 (Nat.not_succ_le_zero _)
 | _ + 1,0,a + 1,_,h2,_ => absurd h2 (Nat.not_succ_le_zero _)
 |f + 1,g + 1,a + 1,h1,h2,h3 => by
  have :=h a (by omega)
  rw [trF,trF,qnw N h f g (gN N a).1 (by omega) (by omega) (by omega)]
theorem qw5 (N:List Lk):tr N 0 = [] :=rfl
theorem qem {N:List Lk} (h:wfN N) {i:Nat} (hi:i < N.length):tr N (i + 1) = tr N (gN N i).1 ++ [(gN N i).2] :=by
 have :=h i hi
 show trF N (i + 1) (i + 1) = _
 rw [trF,qnw N h i (gN N i).1 (gN N i).1 this (Nat.le_refl _) (by omega)]
 rfl
theorem qnv (N:List Lk) (h:wfN N) (i:Nat) (hi:i ≤ N.length):∀ (f a:Nat),a ≤ i → trF (N.take i) f a = trF N f a
 | 0,0,_ => rfl
 | _ + 1,0,_ => rfl
 | 0,a + 1,_ => rfl
 |f + 1,a + 1,h1 => by
  have e:gN (N.take i) a = gN N a :=by simp [gN,List.getD,show a < i by omega]
  have :=h a (by omega)
  rw [trF,trF,e,qnv N h i hi f (gN N a).1 (by omega)]
theorem ql6 {N:List Lk} (h:wfN N) {i a:Nat} (hi:i ≤ N.length) (ha:a ≤ i):tr (N.take i) a = tr N a :=qnv N h i hi a a ha
theorem qt6 {N:List Lk} (h:wfN N) (i:Nat):wfN (N.take i) :=fun j hj => by
 rw [List.length_take] at hj
 have e:gN (N.take i) j = gN N j :=by simp [gN,List.getD,show j < i by omega]
 rw [e];exact h j (by omega)
theorem q0c {N:List Lk} (h:wfN N) {a:Nat} (ha:1 ≤ a) (h2:a ≤ N.length):tr N a ≠ [] :=by
 obtain ⟨k,rfl⟩ : ∃ k,a = k + 1 :=⟨a - 1,by omega⟩
 rw [qem h (by omega)]
 simp
theorem qy0 {N:List Lk} (h:wfN N) {a:Nat} (ha:1 ≤ a) (h2:a ≤ N.length):1 ≤ (tr N a).length :=List.length_pos_iff.2 (q0c h ha h2)
abbrev tN (n:Nat):Prop :=4 ≤ n ∧ n ≤ 60
theorem tN_i {n:Nat} (h:tN n):tth (Int.ofNat n) :=by unfold tth;simp only [Int.ofNat_eq_natCast];omega
structure okN (N:List Lk):Prop where
 wf:wfN N
 t1:∀ i,i < N.length → tN (gN N i).2.1
 t2:∀ i,i < N.length → tN (gN N i).2.2
 d:∀ i,i < N.length → (tr N (i + 1)).length ≤ 3
theorem okN.dl {N:List Lk} (h:okN N) {a:Nat} (ha:a ≤ N.length):(tr N a).length ≤ 3 :=by
 cases a with
 |zero => exact Nat.zero_le _
 |succ a => exact h.d a ha
theorem okN.all {N:List Lk} (h:okN N):∀ (f a:Nat),a ≤ f → a ≤ N.length → AllT tN (tr N a)
 | _,0,_,_ => trivial
 | 0,_ + 1,h1,_ => absurd h1 (Nat.not_succ_le_zero _)
 |f + 1,a + 1,h1,h2 => by
  have h3 :=h.wf a (by omega)
  have :=h.all f (gN N a).1 (by omega) (by omega)
  rw [qem h.wf (by omega)]
  have key:∀ (l:List (Nat × Nat)) (p:Nat × Nat),AllT tN l → tN p.1 ∧ tN p.2 → AllT tN (l ++ [p]) :=by
   intro l p hl hp
   induction l with
   |nil => exact ⟨hp,trivial⟩
   |cons q r ih => exact ⟨hl.1,ih hl.2⟩
  exact key _ _ this ⟨h.t1 a (by omega),h.t2 a (by omega)⟩
theorem okN.take {N:List Lk} (h:okN N) (i:Nat):okN (N.take i) :=by
 have g:∀ j,j < (N.take i).length → gN (N.take i) j = gN N j ∧ j < N.length ∧ j < i :=fun j hj => by
  rw [List.length_take] at hj
  exact ⟨by simp [gN,List.getD,show j < i by omega],by omega,by omega⟩
 refine ⟨qt6 h.wf i,fun j hj => ?_,fun j hj => ?_,fun j hj => ?_⟩
 ·rw [(g j hj).1];exact h.t1 j (g j hj).2.1
 ·rw [(g j hj).1];exact h.t2 j (g j hj).2.1
 ·by_cases hi:i ≤ N.length
  ·rw [ql6 h.wf hi (g j hj).2.2];exact h.d j (g j hj).2.1
  ·rw [List.take_of_length_le (by omega)];exact h.d j (g j hj).2.1
def pcOk (L:List LkI) (H:List Int):Prop :=
 ((1 ≤ L.length ∧ L.length ≤ 5) ∧ (1 ≤ H.length ∧ H.length ≤ 4)) ∧ (∃ N,L = cL N ∧ okN N) ∧ ∀ j,j < H.length → 1 ≤ gi H j ∧ gi H j ≤ (L.length:Int)
instance (L:List LkI) (H:List Int):Decidable (pcOk L H) :=Classical.propDecidable _
def lkAt (N:List Lk) (x:LkI):Prop :=(0 ≤ x.1 ∧ x.1 ≤ (N.length:Int)) ∧ (tth x.2.1 ∧ tth x.2.2) ∧ (tr N x.1.toNat).length ≤ 2
theorem qs7 {N:List Lk} {x:Lk} {i:Nat} (h:i < N.length):gN (N ++ [x]) i = gN N i :=by
 simp [gN,List.getD,List.getElem?_append,h]
theorem qkl {N:List Lk} {x:Lk}:gN (N ++ [x]) N.length = x :=by
 simp [gN,List.getD]
theorem ql3 {N:List Lk} (h:wfN N) {x:Lk} (hx:x.1 ≤ N.length):wfN (N ++ [x]) :=fun i hi => by
 rw [List.length_append] at hi
 simp only [List.length_cons,List.length_nil] at hi
 by_cases e:i < N.length
 ·rw [qs7 e];exact h i e
 ·obtain rfl:i = N.length :=by omega
  rw [qkl];exact hx
theorem qvw {N:List Lk} (h:wfN N) {x:Lk} (hx:x.1 ≤ N.length) {a:Nat} (ha:a ≤ N.length):tr (N ++ [x]) a = tr N a :=by
 have :=ql6 (ql3 h hx) (i :=N.length) (a :=a) (by rw [List.length_append];omega) ha
 rw [List.take_left'] at this
 ·exact this.symm
 ·rfl
theorem ql7 {N:List Lk} (h:wfN N) {x:Lk} (hx:x.1 ≤ N.length):tr (N ++ [x]) (N.length + 1) = tr N x.1 ++ [x.2] :=by
 rw [qem (ql3 h hx) (by rw [List.length_append];exact Nat.lt_succ_self _),qkl,qvw h hx hx]
theorem okN.app {N:List Lk} (h:okN N) {x:Lk} (hx:x.1 ≤ N.length) (h1:tN x.2.1) (h2:tN x.2.2) (h3:(tr N x.1).length ≤ 2):okN (N ++ [x]) :=by
 have c:∀ i,i < (N ++ [x]).length → i < N.length ∨ i = N.length :=fun i hi => by
  rw [List.length_append] at hi
  simp only [List.length_cons,List.length_nil] at hi
  omega
 refine ⟨ql3 h.wf hx,fun i hi => ?_,fun i hi => ?_,fun i hi => ?_⟩
 ·rcases c i hi with e | rfl
  ·rw [qs7 e];exact h.t1 i e
  ·rw [qkl];exact h1
 ·rcases c i hi with e | rfl
  ·rw [qs7 e];exact h.t2 i e
  ·rw [qkl];exact h2
 ·rcases c i hi with e | rfl
  ·rw [qvw h.wf hx e];exact h.d i e
  ·rw [ql7 h.wf hx,List.length_append]
   simp only [List.length_cons,List.length_nil]
   omega
theorem toN {a:Int} (h:0 ≤ a):Int.ofNat a.toNat = a :=Int.toNat_of_nonneg h
theorem qwt (N:List Lk) (x:Lk):cL (N ++ [x]) = cL N ++ [cK x] :=by rw [cL,List.map_append];rfl
theorem lkAt.next {N:List Lk} (h:okN N) {x:LkI} (hx:lkAt N x):∃ M,cL M = cL N ++ [x] ∧ okN M ∧ M.length = N.length + 1 :=by
 have f1 :=toN hx.1.1
 have f2 :=toN (show 0 ≤ x.2.1 from Int.le_trans (by decide) hx.2.1.1.1)
 have f3 :=toN (show 0 ≤ x.2.2 from Int.le_trans (by decide) hx.2.1.2.1)
 refine ⟨N ++ [(x.1.toNat,x.2.1.toNat,x.2.2.toNat)],?_,h.app ?_ ?_ ?_ hx.2.2,by rw [List.length_append];rfl⟩
 ·rw [qwt]
  have:cK (x.1.toNat,x.2.1.toNat,x.2.2.toNat) = x :=by
   unfold cK
   show (Int.ofNat x.1.toNat,Int.ofNat x.2.1.toNat,Int.ofNat x.2.2.toNat) = x
   rw [f1,f2,f3]
  rw [this]
 ·have :=hx.1.2
  show x.1.toNat ≤ N.length
  omega
 ·have :=hx.2.1.1
  show 4 ≤ x.2.1.toNat ∧ x.2.1.toNat ≤ 60
  omega
 ·have :=hx.2.1.2
  show 4 ≤ x.2.2.toNat ∧ x.2.2.toNat ≤ 60
  omega
theorem lkAt.not {L:List LkI} {N:List Lk} {i:Nat} (hi:i < L.length) (e:L.take i = cL N) (hx:¬ lkAt N (gL L i)):¬ ∃ M,L = cL M ∧ okN M :=by
 rintro ⟨M,rfl,h⟩
 rw [qf9] at hi
 have e1:M.take i = N :=by
  have inj:∀ (a b:List Lk),cL a = cL b → a = b :=fun a b hh => by
   refine List.map_inj_right (f :=cK) (fun x y hxy => ?_) |>.1 hh
   obtain ⟨x1,x2,x3⟩ :=x
   obtain ⟨y1,y2,y3⟩ :=y
   have k1:Int.ofNat x1 = Int.ofNat y1 :=congrArg Prod.fst hxy
   have k2:Int.ofNat x2 = Int.ofNat y2 :=congrArg (fun z => z.2.1) hxy
   have k3:Int.ofNat x3 = Int.ofNat y3 :=congrArg (fun z => z.2.2) hxy
   cases k1;cases k2;cases k3;rfl
  apply inj
  rw [← e,cL,cL,List.map_take]
 apply hx
 rw [qlp M hi]
 have hl:N.length = i :=by rw [← e1,List.length_take];omega
 have w :=h.wf i hi
 have t1 :=tN_i (h.t1 i hi)
 have t2 :=tN_i (h.t2 i hi)
 refine ⟨⟨Int.natCast_nonneg _,?_⟩,⟨t1,t2⟩,?_⟩
 ·rw [hl];exact Int.ofNat_le.2 w
 ·show (tr N (gN M i).1).length ≤ 2
  have :=h.d i hi
  rw [qem h.wf hi,List.length_append] at this
  simp only [List.length_cons,List.length_nil] at this
  rw [← e1,ql6 h.wf (Nat.le_of_lt hi) w]
  omega
end
end Go.Abs.Seat
/-! The path to an arbor: how far it is, its train. -/
namespace Go.Abs.Seat
noncomputable section
open Go Go.Abs Go.Proofs.Tryz
set_option maxRecDepth 100000
set_option maxHeartbeats 40000000
attribute [local irreducible] IntKind.wrap pEq
theorem qw2 {i:Nat} (h:i < 4611686018427387904):IntKind.i64.wrap (Int.ofNat (i + 1) - 1) = Int.ofNat i :=by
 rw [show Int.ofNat (i + 1) - 1 = Int.ofNat i by show ((i + 1:Nat):Int) - 1 = (i:Int);omega]
 exact qdp (by show _ ≤ (i:Int);omega) (by show (i:Int) < _;omega)
theorem qbf:∀ (L:List LkI) (i:Nat),i < L.length → nth (lks L) (i * 3) = some (iv (gL L i).1)
 | [],_,h => absurd h (Nat.not_lt_zero _)
 | _ :: _,0,_ => rfl
 | _ :: r,i + 1,h => by
  rw [show (i + 1) * 3 = i * 3 + 1 + 1 + 1 by omega]
  exact qbf r i (by simpa using h)
theorem qw9 (L:List LkI) {i:Nat} (h:i < L.length):qb0 2 (qcl (i * 3 + 1) (lks L)) = some [iv (gL L i).2.1,iv (gL L i).2.2] :=by
 have e:qcl (i * 3 + 1) (lks L) = qcl 1 (qcl (i * 3) (lks L)) :=by
  rw [qc1,qc1,qc1,List.drop_drop]
 rw [e,qkf,qto L h]
 rfl
section
variable {N:List Lk} {i b:Nat}
theorem lkR (h:i < N.length) (hN:N.length ≤ 5):inR (IntKind.i64.wrap (Int.ofNat (i + 1) - 1)) N.length = true :=by
 rw [qw2 (by omega)];exact qav h
theorem lkG (h:i < N.length) (hN:N.length ≤ 5) (e:(gN N i).1 = b):nth (lks (cL N)) ((IntKind.i64.wrap (Int.ofNat (i + 1) - 1)).toNat * 3 + 0) = some (nv b) :=by
 subst e
 have :=qbf (cL N) i (by rw [qf9];exact h)
 rw [qlp N h] at this
 rw [qw2 (by omega)]
 exact this
end
theorem ways {N:List Lk} (h:wfN N) {a:Nat} (ha:a ≤ N.length) (h3:(tr N a).length ≤ 3):(a = 0 ∧ tr N a = []) ∨ (∃ i,a = i + 1 ∧ i < N.length ∧ (gN N i).1 = 0 ∧ tr N a = [(gN N i).2]) ∨
  (∃ i j,a = i + 1 ∧ i < N.length ∧ (gN N i).1 = j + 1 ∧ j < N.length ∧ (gN N j).1 = 0 ∧ tr N a = [(gN N j).2,(gN N i).2]) ∨
  (∃ i j k,a = i + 1 ∧ i < N.length ∧ (gN N i).1 = j + 1 ∧ j < N.length ∧ (gN N j).1 = k + 1 ∧ k < N.length ∧ (gN N k).1 = 0 ∧ tr N a = [(gN N k).2,(gN N j).2,(gN N i).2]) :=by
 cases a with
 |zero => exact .inl ⟨rfl,rfl⟩
 |succ i =>
  have h1 :=qem h (i :=i) (by omega)
  have f1 :=h i (by omega)
  cases e1:(gN N i).1 with
  |zero => exact .inr (.inl ⟨i,rfl,by omega,e1,by rw [h1,e1];rfl⟩)
  |succ j =>
   have h2 :=qem h (i :=j) (by omega)
   have f2 :=h j (by omega)
   cases e2:(gN N j).1 with
   |zero => exact .inr (.inr (.inl ⟨i,j,rfl,by omega,e1,by omega,e2,by rw [h1,e1,h2,e2];rfl⟩))
   |succ k =>
    have h4 :=qem h (i :=k) (by omega)
    have f3 :=h k (by omega)
    cases e3:(gN N k).1 with
    |zero => exact .inr (.inr (.inr ⟨i,j,k,rfl,by omega,e1,by omega,e2,by omega,e3,by rw [h1,e1,h2,e2,h4,e3];rfl⟩))
    |succ m =>
     have h5 :=qy0 h (a :=m + 1) (by omega) (by omega)
     rw [h1,e1,h2,e2,h4,e3] at h3
     simp only [List.length_append,List.length_cons,List.length_nil] at h3
     omega
theorem wkE {v v':AV} (h:v = v'):Wk v v' :=by subst h;exact Wk.refl _
theorem up1:IntKind.i64.wrap (0 + 1) = 1 :=qdp (by decide) (by decide)
theorem up2:IntKind.i64.wrap (IntKind.i64.wrap (0 + 1) + 1) = 2 :=by rw [up1];exact qdp (by decide) (by decide)
theorem up3:IntKind.i64.wrap (IntKind.i64.wrap (IntKind.i64.wrap (0 + 1) + 1) + 1) = 3 :=by rw [up2];exact qdp (by decide) (by decide)
theorem qkq {N:List Lk} (h:wfN N) (hN:N.length ≤ 5) {a:Nat} (ha:a ≤ N.length) (h3:(tr N a).length ≤ 3):Pure prog 110 [nkA N,nv a] (nv (tr N a).length) :=by
 have lN :=qau (cL N)
 rcases ways h ha h3 with ⟨rfl,et⟩ | ⟨i,rfl,hi,fi,et⟩ | ⟨i,j,rfl,hi,fi,hj,fj,et⟩ | ⟨i,j,k,rfl,hi,fi,hj,fj,hk,fk,et⟩
 ·rw [et]
  refine qas hE rfl (by repeat' first|exact trivial|assumption|exact qag _|exact fun _ h => nomatch h|apply And.intro) (by repeat' first|exact trivial|assumption|exact qag _|exact fun _ h => nomatch h|apply And.intro) fun S q pc hS hq hC hE => ?_
  conv => whnf
  refine qar hC ?_
  conv => whnf
  refine qan hE hS ?_
  conv => whnf
  refine qan hE hS ?_
  conv => whnf
  refine qar hC ?_
  conv => whnf
  refine qan hE hS ?_
  conv => whnf
  exact ⟨_,rfl,Wk.refl _⟩
 ·rw [et]
  refine qas hE rfl (by repeat' first|exact trivial|assumption|exact qag _|exact fun _ h => nomatch h|apply And.intro) (by repeat' first|exact trivial|assumption|exact qag _|exact fun _ h => nomatch h|apply And.intro) fun S q pc hS hq hC hE => ?_
  conv => whnf
  refine qar hC ?_
  conv => whnf
  refine qan hE hS ?_
  conv => whnf
  refine qan hE hS ?_
  conv => whnf
  refine qar hC ?_
  conv => whnf
  refine qan hE hS ?_
  conv => whnf
  refine qaa (lkR hi hN) ?_
  conv => whnf
  refine qaf (nthP (lkG hi hN fi)) ?_
  conv => whnf
  refine qar hC ?_
  conv => whnf
  refine qan hE hS ?_
  conv => whnf
  refine qaz hE hS ?_
  conv => whnf
  refine qaz hE hS ?_
  conv => whnf
  refine qad hS (by kernel_rfl) ?_
  conv => whnf
  exact ⟨_,rfl,wkE (congrArg (AV.int .i64) up1)⟩
 ·rw [et]
  refine qas hE rfl (by repeat' first|exact trivial|assumption|exact qag _|exact fun _ h => nomatch h|apply And.intro) (by repeat' first|exact trivial|assumption|exact qag _|exact fun _ h => nomatch h|apply And.intro) fun S q pc hS hq hC hE => ?_
  conv => whnf
  refine qar hC ?_
  conv => whnf
  refine qan hE hS ?_
  conv => whnf
  refine qan hE hS ?_
  conv => whnf
  refine qar hC ?_
  conv => whnf
  refine qan hE hS ?_
  conv => whnf
  refine qaa (lkR hi hN) ?_
  conv => whnf
  refine qaf (nthP (lkG hi hN fi)) ?_
  conv => whnf
  refine qar hC ?_
  conv => whnf
  refine qan hE hS ?_
  conv => whnf
  refine qaa (lkR hj hN) ?_
  conv => whnf
  refine qaf (nthP (lkG hj hN fj)) ?_
  conv => whnf
  refine qar hC ?_
  conv => whnf
  refine qan hE hS ?_
  conv => whnf
  refine qaz hE hS ?_
  conv => whnf
  refine qaz hE hS ?_
  conv => whnf
  refine qad hS (by kernel_rfl) ?_
  conv => whnf
  refine qaz hE hS ?_
  conv => whnf
  refine qaz hE hS ?_
  conv => whnf
  refine qad hS (by kernel_rfl) ?_
  conv => whnf
  exact ⟨_,rfl,wkE (congrArg (AV.int .i64) up2)⟩
 ·rw [et]
  refine qas hE rfl (by repeat' first|exact trivial|assumption|exact qag _|exact fun _ h => nomatch h|apply And.intro) (by repeat' first|exact trivial|assumption|exact qag _|exact fun _ h => nomatch h|apply And.intro) fun S q pc hS hq hC hE => ?_
  conv => whnf
  refine qar hC ?_
  conv => whnf
  refine qan hE hS ?_
  conv => whnf
  refine qan hE hS ?_
  conv => whnf
  refine qar hC ?_
  conv => whnf
  refine qan hE hS ?_
  conv => whnf
  refine qaa (lkR hi hN) ?_
  conv => whnf
  refine qaf (nthP (lkG hi hN fi)) ?_
  conv => whnf
  refine qar hC ?_
  conv => whnf
  refine qan hE hS ?_
  conv => whnf
  refine qaa (lkR hj hN) ?_
  conv => whnf
  refine qaf (nthP (lkG hj hN fj)) ?_
  conv => whnf
  refine qar hC ?_
  conv => whnf
  refine qan hE hS ?_
  conv => whnf
  refine qaa (lkR hk hN) ?_
  conv => whnf
  refine qaf (nthP (lkG hk hN fk)) ?_
  conv => whnf
  refine qar hC ?_
  conv => whnf
  refine qan hE hS ?_
  conv => whnf
  refine qaz hE hS ?_
  conv => whnf
  refine qaz hE hS ?_
  conv => whnf
  refine qad hS (by kernel_rfl) ?_
  conv => whnf
  refine qaz hE hS ?_
  conv => whnf
  refine qaz hE hS ?_
  conv => whnf
  refine qad hS (by kernel_rfl) ?_
  conv => whnf
  refine qaz hE hS ?_
  conv => whnf
  refine qaz hE hS ?_
  conv => whnf
  refine qad hS (by kernel_rfl) ?_
  conv => whnf
  exact ⟨_,rfl,wkE (congrArg (AV.int .i64) up3)⟩
end
end Go.Abs.Seat

namespace Go.Abs.Seat
noncomputable section
open Go Go.Abs Go.Proofs.Tryz
set_option maxRecDepth 100000
set_option maxHeartbeats 40000000
attribute [local irreducible] IntKind.wrap pEq qd1
theorem gft {x:Nat} {c:Bool} (h:c = true):@Bool.rec (fun _ => Bool) (@Bool.rec (fun _ => Bool) true false (x,false).snd) (x,false).snd c = false :=by subst h;rfl
theorem gff {x:Nat} {c:Bool} (h:c = false):@Bool.rec (fun _ => Bool) (@Bool.rec (fun _ => Bool) true false (x,false).snd) (x,false).snd c = true :=by subst h;rfl
theorem slTo {T:Tr TypeInfo} {t e:TypeId} {inf:TypeInfo} {xs ys:List AV} {n:Nat} {k:IntKind} {z:Int} {h:Nat} (hT:tyU T t = some (.slice e)) (hi:T.get e = some inf) (hz:z = Int.ofNat h) (hn:h ≤ n)
  (hy:qb0 (h * inf.size) xs = some ys):qd1 T t (.lst xs n .no) none (some (.int k z)) = .chk (decide (0 * inf.size ≤ xs.length)) (.ret (.lst ys h .no)) :=by
 subst hz
 unfold qd1
 have e1:bnd (some (.int k (Int.ofNat h))) n n = some h :=by
  unfold bnd
  simp only [Int.ofNat_eq_natCast]
  rw [decide_eq_true (show (0:Int) ≤ (h:Int) by omega),decide_eq_true (show (h:Int) ≤ (n:Int) by omega)]
  rfl
 have e2:bnd none 0 h = some 0 :=rfl
 have e3:qcl (0 * inf.size) xs = xs :=by rw [Nat.zero_mul];rfl
 simp only [hT,hi,e1,e2,e3,Nat.sub_zero,hy]
theorem qh4 (a b:Int):Pure prog 102 [.agg [iv a,iv b]] (.bool (decide (tth a ∧ tth b))) :=by
 by_cases h:tth a
 ·have c1:decide (tth a) = true :=decide_eq_true h
  refine qas hE rfl (by repeat' first|exact trivial|assumption|exact qag _|exact fun _ h => nomatch h|apply And.intro) (by repeat' first|exact trivial|assumption|exact qag _|exact fun _ h => nomatch h|apply And.intro) fun S q pc hS hq hC hE => ?_
  conv => whnf
  repeat ((first|refine qai c1 ?_|refine qah c1 ?_|refine pkT c1 ?_|refine qaa c1 ?_|refine qab hC (qbt a) ?_|refine qab hC (qbt b) ?_|refine qad hS (by kernel_rfl) ?_);conv => whnf)
  exact ⟨_,rfl,wkb (by simp [h])⟩
 ·have c1:decide (tth a) = false :=decide_eq_false h
  refine qas hE rfl (by repeat' first|exact trivial|assumption|exact qag _|exact fun _ h => nomatch h|apply And.intro) (by repeat' first|exact trivial|assumption|exact qag _|exact fun _ h => nomatch h|apply And.intro) fun S q pc hS hq hC hE => ?_
  conv => whnf
  repeat ((first|refine qao c1 ?_|refine qap c1 ?_|refine pkF c1 ?_|refine qac c1 ?_|refine qab hC (qbt a) ?_|refine qad hS (by kernel_rfl) ?_);conv => whnf)
  exact ⟨_,rfl,wkb (by simp [h])⟩
def LL (v:AV) (L:List LkI):Prop :=v = .nils ∧ L = [] ∨ v = lkA L
theorem LL.no {v:AV} {L:List LkI} (h:LL v L):Live noL v :=by
 rcases h with ⟨rfl,_⟩ | rfl
 ·trivial
 ·exact lkA_no L
theorem qji:∀ (L:List LkI) (i:Nat),i ≤ L.length → qb0 (i * 3) (lks L) = some (lks (L.take i))
 | _,0,_ => by rw [List.take_zero];rfl
 | [],i + 1,h => absurd h (by simp)
 |x :: l,i + 1,h => by
  have :=qji l i (by simpa using h)
  rw [show (i + 1) * 3 = i * 3 + 1 + 1 + 1 by omega]
  show (match (match (match qb0 (i * 3) (lks l) with | some r => some (iv x.2.2 :: r) | none => none) with | some r => some (iv x.2.1 :: r) | none => none) with | some r => some (iv x.1 :: r) | none => none) = _
  rw [this];rfl
theorem nt_t {b:Bool} (h:b = true):(!b) = false :=by rw [h];rfl
theorem nt_f {b:Bool} (h:b = false):(!b) = true :=by rw [h];rfl
theorem qqh {x h:AV} {L:List LkI} {M:List Int} (hx:LL x L) (hh:IL h M) (hn:¬ ((1 ≤ L.length ∧ L.length ≤ 5) ∧ (1 ≤ M.length ∧ M.length ≤ 4))) :
  Pure prog 89 [.agg [x,h]] (.bool false) :=by
 have lx :=hx.no
 have lh :=hh.no
 by_cases h1:1 ≤ L.length ∧ L.length ≤ 5
 ·have h2:¬ (1 ≤ M.length ∧ M.length ≤ 4) :=fun k => hn ⟨h1,k⟩
  have c1:(!decide (1 ≤ (L.length:Int) ∧ (L.length:Int) ≤ 5)) = false :=nt_t (decide_eq_true (by omega))
  rcases hx with ⟨_,rfl⟩ | rfl
  ·exact absurd h1.1 (by decide)
  rcases hh with ⟨rfl,rfl⟩ | rfl
  ·refine qas hE rfl (by repeat' first|exact trivial|assumption|exact qag _|exact fun _ h => nomatch h|apply And.intro) (by repeat' first|exact trivial|assumption|exact qag _|exact fun _ h => nomatch h|apply And.intro) fun S q pc hS hq hC hE => ?_
   conv => whnf
   repeat ((first|refine qao c1 ?_|refine qap c1 ?_|refine pkF c1 ?_|refine qac c1 ?_|refine qab hC (qax L.length 1 5) ?_|refine qab hC (qax 0 1 4) ?_|refine qad hS (by kernel_rfl) ?_);conv => whnf)
   exact ⟨_,rfl,Wk.refl _⟩
  ·have c2:(!decide (1 ≤ (M.length:Int) ∧ (M.length:Int) ≤ 4)) = true :=nt_f (decide_eq_false (by omega))
   refine qas hE rfl (by repeat' first|exact trivial|assumption|exact qag _|exact fun _ h => nomatch h|apply And.intro) (by repeat' first|exact trivial|assumption|exact qag _|exact fun _ h => nomatch h|apply And.intro) fun S q pc hS hq hC hE => ?_
   conv => whnf
   repeat ((first|refine qai ‹_› ?_|refine qah ‹_› ?_|refine pkT ‹_› ?_|refine qaa ‹_› ?_|refine qao ‹_› ?_|refine qap ‹_› ?_|refine pkF ‹_› ?_|refine qac ‹_› ?_|refine qab hC (qax L.length 1 5) ?_|refine qab hC (qax M.length 1 4) ?_|refine qad hS (by kernel_rfl) ?_);conv => whnf)
   exact ⟨_,rfl,Wk.refl _⟩
 ·rcases hx with ⟨rfl,rfl⟩ | rfl
  ·rcases hh with ⟨rfl,rfl⟩ | rfl
   all_goals
    refine qas hE rfl (by repeat' first|exact trivial|assumption|exact qag _|exact fun _ h => nomatch h|apply And.intro) (by repeat' first|exact trivial|assumption|exact qag _|exact fun _ h => nomatch h|apply And.intro) fun S q pc hS hq hC hE => ?_
    conv => whnf
    repeat ((first|refine qai h1 ?_|refine qah h1 ?_|refine pkT h1 ?_|refine qaa h1 ?_|refine qao h1 ?_|refine qap h1 ?_|refine pkF h1 ?_|refine qac h1 ?_|refine qab hC (qax 0 1 5) ?_|refine qad hS (by kernel_rfl) ?_);conv => whnf)
    exact ⟨_,rfl,Wk.refl _⟩
  ·have c1:(!decide (1 ≤ (L.length:Int) ∧ (L.length:Int) ≤ 5)) = true :=nt_f (decide_eq_false (by omega))
   rcases hh with ⟨rfl,rfl⟩ | rfl
   all_goals
    refine qas hE rfl (by repeat' first|exact trivial|assumption|exact qag _|exact fun _ h => nomatch h|apply And.intro) (by repeat' first|exact trivial|assumption|exact qag _|exact fun _ h => nomatch h|apply And.intro) fun S q pc hS hq hC hE => ?_
    conv => whnf
    repeat ((first|refine qai c1 ?_|refine qah c1 ?_|refine pkT c1 ?_|refine qaa c1 ?_|refine qab hC (qax L.length 1 5) ?_|refine qad hS (by kernel_rfl) ?_);conv => whnf)
    exact ⟨_,rfl,Wk.refl _⟩
def qvb (n:Nat) (M:List Int):Prop :=∀ j,j < M.length → 1 ≤ gi M j ∧ gi M j ≤ (n:Int)
instance (n:Nat) (M:List Int):Decidable (qvb n M) :=Classical.propDecidable _
theorem qm9 (L:List LkI) (M:List Int) (h1:1 ≤ L.length ∧ L.length ≤ 5) (h2:1 ≤ M.length ∧ M.length ≤ 4):Pure prog 89 [.agg [lkA L,nl M]] (.bool (decide (pcOk L M))) :=by
 have lL :=lkA_no L
 have lM :=qal M
 have lLs :=qau L
 have c1:(!decide (1 ≤ (L.length:Int) ∧ (L.length:Int) ≤ 5)) = false :=nt_t (decide_eq_true (by omega))
 have c2:(!decide (1 ≤ (M.length:Int) ∧ (M.length:Int) ≤ 4)) = false :=nt_t (decide_eq_true (by omega))
 refine qas hE rfl (by repeat' first|exact trivial|assumption|exact qag _|exact fun _ h => nomatch h|apply And.intro) (by repeat' first|exact trivial|assumption|exact qag _|exact fun _ h => nomatch h|apply And.intro) fun S q pc hS hq hC hE => ?_
 conv => whnf
 repeat ((first|refine qao ‹_› ?_|refine qap ‹_› ?_|refine pkF ‹_› ?_|refine qac ‹_› ?_|refine qab hC (qax L.length 1 5) ?_|refine qab hC (qax M.length 1 4) ?_|refine qad hS (by kernel_rfl) ?_);conv => whnf)
 refine qfr hE hS (A :=List Lk) [1,2,18,19] (fun N => [(20,nv N.length)]) (fun _ => []) (fun N => N.length ≤ L.length ∧ cL N = L.take N.length ∧ okN N) (fun N => L.length - N.length) [] rfl rfl (by refine ⟨rfl,rfl,rfl,rfl,?_,?_⟩ <;> repeat' (first|exact trivial|exact rfl|exact Nat.zero_le _|exact bz lL|exact bz lM|exact kle rfl|exact qae (by assumption)|exact qae (qag _)|exact qae (qal _)|exact mxI rfl|apply And.intro)) ⟨Nat.zero_le _,rfl,⟨fun _ h => absurd h (Nat.not_lt_zero _),fun _ h => absurd h (Nat.not_lt_zero _),fun _ h => absurd h (Nat.not_lt_zero _),fun _ h => absurd h (Nat.not_lt_zero _)⟩⟩ ?_
 rintro N ⟨hl,he,hN⟩
 conv => whnf
 by_cases hi:N.length < L.length
 ·refine qaa (qa3 hi) ?_
  conv => whnf
  refine qaa (qav hi) ?_
  conv => whnf
  have ht :=qny L hi
  have hno:¬ lkAt N (gL L N.length) → decide (pcOk L M) = false :=fun k => decide_eq_false fun z => lkAt.not hi he.symm k z.2.1
  have htk :=qw8 L hi
  unfold lkAt at hno
  revert ht hno htk
  generalize gL L N.length = y
  obtain ⟨a,b,c⟩ :=y
  intro ht hno htk
  by_cases q1:0 ≤ a ∧ a ≤ (N.length:Int)
  ·have d1:(!decide (0 ≤ a ∧ a ≤ Int.ofNat N.length)) = false :=nt_t (decide_eq_true q1)
   obtain ⟨f,rfl⟩ : ∃ f:Nat,a = Int.ofNat f :=⟨a.toNat,(Int.toNat_of_nonneg q1.1).symm⟩
   have ht:qb0 3 (qcl (N.length * 3) (lks L)) = some [nv f,iv b,iv c] :=ht
   have hs:qd1 (E q pc).T 62 (.lst (lks L) L.length .no) none (some (.int .i64 (Int.ofNat N.length))) = .chk (decide (0 * t94.size ≤ (lks L).length)) (.ret (.lst (lks (cL N)) N.length .no)) :=slTo (e :=94) (inf :=t94) (h :=N.length) (by kernel_rfl) (by kernel_rfl) rfl (by omega) (by rw [show t94.size = 3 from rfl,he];exact qji L _ hl)
   have d0:decide (0 * t94.size ≤ (lks L).length) = true :=decide_eq_true (by rw [Nat.zero_mul];exact Nat.zero_le _)
   refine qaf (takP ht) ?_
   conv => whnf
   by_cases q2:tth b ∧ tth c
   ·have d2:(!decide (tth b ∧ tth c)) = false :=nt_t (decide_eq_true q2)
    repeat ((first|refine qaf (hs) ?_|refine qai ‹_› ?_|refine qah ‹_› ?_|refine pkT ‹_› ?_|refine qaa ‹_› ?_|refine qao ‹_› ?_|refine qap ‹_› ?_|refine pkF ‹_› ?_|refine qac ‹_› ?_|refine qai (gff ‹_›) ?_|refine qah (gff ‹_›) ?_|refine pkT (gff ‹_›) ?_|refine qaa (gff ‹_›) ?_|refine qab hC (qax (Int.ofNat f) 0 (Int.ofNat N.length)) ?_|refine qab hC (qh4 b c) ?_|refine qad hS (by kernel_rfl) ?_);conv => whnf)
    have hf:f ≤ N.length :=Int.ofNat_le.1 q1.2
    have lNs :=qau (cL N)
    refine qab hC (qkq hN.wf (by omega) hf (hN.dl hf)) ?_
    conv => whnf
    by_cases q3:(tr N f).length ≤ 2
    ·have d3:decide (Int.ofNat (tr N f).length ≥ 3) = false :=decide_eq_false (by show ¬ (3:Int) ≤ ((tr N f).length:Int);omega)
     repeat ((first|refine qao ‹_› ?_|refine qap ‹_› ?_|refine pkF ‹_› ?_|refine qac ‹_› ?_|refine qai (gff ‹_›) ?_|refine qah (gff ‹_›) ?_|refine pkT (gff ‹_›) ?_|refine qaa (gff ‹_›) ?_|refine qad hS (by kernel_rfl) ?_);conv => whnf)
     obtain ⟨M2,e1,k1,e2⟩ :=lkAt.next hN (x :=(Int.ofNat f,b,c)) ⟨q1,q2,q3⟩
     have hw:IntKind.i64.wrap (Int.ofNat N.length + 1) = Int.ofNat M2.length :=by rw [e2];exact qa7 (m :=N.length + 1) (by omega)
     exact ⟨M2,⟨by omega,by rw [e1,e2,htk,he],k1⟩,by omega,(by refine ⟨rfl,rfl,rfl,rfl,?_,?_⟩ <;> repeat' (first|exact trivial|exact rfl|exact Nat.zero_le _|exact congrArg (fun z => some (AV.int .i64 z)) hw|exact bz lL|exact bz lM|exact kle rfl|exact qae (by assumption)|exact qae (qag _)|exact qae (qal _)|exact mxI rfl|apply And.intro))⟩
    ·have d3:decide (Int.ofNat (tr N f).length ≥ 3) = true :=decide_eq_true (by show (3:Int) ≤ ((tr N f).length:Int);omega)
     rw [hno fun k => q3 k.2.2]
     repeat ((first|refine qai ‹_› ?_|refine qah ‹_› ?_|refine pkT ‹_› ?_|refine qaa ‹_› ?_|refine qao ‹_› ?_|refine qap ‹_› ?_|refine pkF ‹_› ?_|refine qac ‹_› ?_|refine qai (gff ‹_›) ?_|refine qah (gff ‹_›) ?_|refine pkT (gff ‹_›) ?_|refine qaa (gff ‹_›) ?_|refine qad hS (by kernel_rfl) ?_);conv => whnf)
     exact ⟨_,rfl,Wk.refl _⟩
   ·have d2:(!decide (tth b ∧ tth c)) = true :=nt_f (decide_eq_false q2)
    rw [hno fun k => q2 k.2.1]
    repeat ((first|refine qai ‹_› ?_|refine qah ‹_› ?_|refine pkT ‹_› ?_|refine qaa ‹_› ?_|refine qao ‹_› ?_|refine qap ‹_› ?_|refine pkF ‹_› ?_|refine qac ‹_› ?_|refine qai (gff ‹_›) ?_|refine qah (gff ‹_›) ?_|refine pkT (gff ‹_›) ?_|refine qaa (gff ‹_›) ?_|refine qao (gft ‹_›) ?_|refine qap (gft ‹_›) ?_|refine pkF (gft ‹_›) ?_|refine qac (gft ‹_›) ?_|refine qab hC (qax (Int.ofNat f) 0 (Int.ofNat N.length)) ?_|refine qab hC (qh4 b c) ?_|refine qad hS (by kernel_rfl) ?_);conv => whnf)
    exact ⟨_,rfl,Wk.refl _⟩
  ·have d1:(!decide (0 ≤ a ∧ a ≤ Int.ofNat N.length)) = true :=nt_f (decide_eq_false q1)
   have ht:qb0 3 (qcl (N.length * 3) (lks L)) = some [iv a,iv b,iv c] :=ht
   rw [hno fun k => q1 k.1]
   refine qaf (takP ht) ?_
   conv => whnf
   repeat ((first|refine qai d1 ?_|refine qah d1 ?_|refine pkT d1 ?_|refine qaa d1 ?_|refine qao (gft d1) ?_|refine qap (gft d1) ?_|refine pkF (gft d1) ?_|refine qac (gft d1) ?_|refine qab hC (qax a 0 (Int.ofNat N.length)) ?_|refine qad hS (by kernel_rfl) ?_);conv => whnf)
   exact ⟨_,rfl,Wk.refl _⟩
 ·refine qac (qbn hi) ?_
  conv => whnf
  have e:N.length = L.length :=by omega
  rw [List.take_of_length_le (by omega)] at he
  have hp:decide (pcOk L M) = decide (qvb L.length M) :=decide_eq_decide.2 ⟨fun z => z.2.2,fun z => ⟨⟨h1,h2⟩,⟨N,he.symm,hN⟩,z⟩⟩
  rw [hp]
  refine qar hC ?_
  conv => whnf
  refine qan hE hS ?_
  conv => whnf
  refine qar hC ?_
  conv => whnf
  refine qan hE hS ?_
  conv => whnf
  refine qa4 hE hS (A :=Nat) [0,1,7] (fun i => [(8,nv i)]) (fun _ => []) (fun _ => []) (fun i => i ≤ M.length ∧ ∀ j,j < i → 1 ≤ gi M j ∧ gi M j ≤ (L.length:Int)) (fun i => M.length - i) 0 (kle rfl) rfl (zhg 1) ⟨Nat.zero_le _,fun _ h => absurd h (Nat.not_lt_zero _)⟩ ?_
  intro i ⟨hi1,hj⟩ K hK
  obtain rfl:K = 1 :=hK
  conv => whnf
  by_cases hi2:i < M.length
  ·refine qaa (qa3 hi2) ?_
   conv => whnf
   refine qaa (qav (i :=i) (n :=M.length) hi2) ?_
   conv => whnf
   refine qaf (nthP (qbp (l :=M) (i :=i) hi2)) ?_
   conv => whnf
   refine qar hC ?_
   conv => whnf
   refine qan hE hS ?_
   conv => whnf
   refine qab hC (qax (gi M i) 1 L.length) ?_
   conv => whnf
   by_cases q:1 ≤ gi M i ∧ gi M i ≤ (L.length:Int)
   ·refine qac (nt_t (decide_eq_true q)) ?_
    conv => whnf
    exact ⟨i + 1,⟨hi2,fun j h => by
     by_cases e:j = i
     ·subst e;exact q
     ·exact hj j (by omega)⟩,by omega,Nat.le_refl _,(zhg 1)⟩
   ·refine qaa (nt_f (decide_eq_false q)) ?_
    conv => whnf
    rw [show decide (Int.ofNat i ≥ 0) = true from decide_eq_true (Int.natCast_nonneg i)]
    conv => whnf
    rw [decide_eq_false (show ¬ qvb L.length M from fun z => q (z i hi2))]
    exact ⟨_,rfl,Wk.refl _⟩
  ·refine qac (qbn hi2) ?_
   conv => whnf
   refine .inl ?_
   conv => whnf
   rw [decide_eq_true (show qvb L.length M from fun j h => hj j (by omega))]
   exact ⟨_,rfl,Wk.refl _⟩
theorem isPiece_pure {x h:AV} {L:List LkI} {M:List Int} (hx:LL x L) (hh:IL h M):Pure prog 89 [.agg [x,h]] (.bool (decide (pcOk L M))) :=by
 by_cases hn:(1 ≤ L.length ∧ L.length ≤ 5) ∧ (1 ≤ M.length ∧ M.length ≤ 4)
 ·rcases hx with ⟨_,rfl⟩ | rfl
  ·exact absurd hn.1.1 (by decide)
  rcases hh with ⟨_,rfl⟩ | rfl
  ·exact absurd hn.2.1 (by decide)
  exact qm9 L M hn.1 hn.2
 ·rw [decide_eq_false fun z => hn z.1]
  exact qqh hx hh hn
end
end Go.Abs.Seat
namespace Go.Abs.Seat
noncomputable section
open Go Go.Abs Go.Proofs.Tryz
set_option maxRecDepth 100000
set_option maxHeartbeats 40000000
attribute [local irreducible] IntKind.wrap pEq
theorem qyv (n m:Nat):aeqC prog seatT 8 3 (nv n) (nv m) = some (decide (n = m)) :=by
 have:(Int.ofNat n == Int.ofNat m) = decide (n = m) :=by
  by_cases h:n = m
  ·subst h;rw [decide_eq_true rfl];exact beq_self_eq_true _
  ·rw [decide_eq_false h];exact beq_eq_false_iff_ne.2 fun e => h (Int.ofNat.inj e)
 rw [← this];rfl
def mpE:List (Nat × Nat) → List (AV × AV)
 | [] => []
 |x :: r => (nv x.1,nv x.2) :: mpE r
def getE:List (Nat × Nat) → Nat → Nat
 | [],_ => 0
 |x :: r,k => if k = x.1 then x.2 else getE r k
def putE:List (Nat × Nat) → Nat → Nat → List (Nat × Nat)
 | [],k,v => [(k,v)]
 |x :: r,k,v => if k = x.1 then (k,v) :: r else x :: putE r k v
theorem qsf (m:Nat):∀ l,BdE m (mpE l)
 | [] => trivial
 | _ :: l => ⟨Nat.zero_le _,Nat.zero_le _,qsf m l⟩
theorem qnc (k:Nat):∀ (l:List (Nat × Nat)) (i:Nat),(∃ j v,qb6 prog seatT 3 (nv k) (mpE l) i = some (some (i + j,nv v)) ∧ getE l k = v ∧ (∀ w:Nat,setE (mpE l) j (nv k,nv w) = mpE (putE l k w)) ∧ qeu (mpE l) j = some (nv k)) ∨ (qb6 prog seatT 3 (nv k) (mpE l) i = some none ∧ getE l k = 0 ∧ ∀ w:Nat,qfi (mpE l) (nv k,nv w) = mpE (putE l k w))
 | [],i => .inr ⟨rfl,rfl,fun _ => rfl⟩
 |x :: l,i => by
  rw [mpE,qb6,qyv]
  by_cases h:k = x.1
  ·rw [decide_eq_true h]
   exact .inl ⟨0,x.2,rfl,by rw [getE,if_pos h],fun w => by rw [putE,if_pos h];rfl,by rw [h];rfl⟩
  ·rw [decide_eq_false h]
   rcases qnc k l (i + 1) with ⟨j,v,h1,h2,h3,h4⟩ | ⟨h1,h2,h3⟩
   ·exact .inl ⟨j + 1,v,by rw [show i + (j + 1) = i + 1 + j by omega];exact h1,by rw [getE,if_neg h];exact h2,fun w => by rw [putE,if_neg h,setE,h3];rfl,h4⟩
   ·exact .inr ⟨h1,by rw [getE,if_neg h];exact h2,fun w => by rw [putE,if_neg h,qfi,h3];rfl⟩
theorem qqd (k : Nat) (l : List (Nat × Nat)) : (match qb6 prog seatT 3 (nv k) (mpE l) 0 with
   |some (some (_,v)) => Plan.ret v
   |some none => .ret (iv 0)
   |none => .fail) = .ret (nv (getE l k)) :=by
 rcases qnc k l 0 with ⟨j,v,h1,h2,_⟩ | ⟨h1,h2,_⟩
 ·rw [h1,h2]
 ·rw [h1,h2];rfl
theorem qw4 {o : Nat} {k v : Nat} {z : Int} (hz : z = Int.ofNat v) {l : List (Nat × Nat)} {y : Bool} {s n : Nat} {h : Tr AObj} {K : KP} (hk : runP (.seto o (.mapo (mpE (putE l k v))) 0 .skip) y s h n K) : runP (match qb6 prog seatT 3 (nv k) (mpE l) 0 with
   |some (some (i,_)) => match qeu (mpE l) i with
    |some k' => Plan.chk (qg3 8 k' (nv k)) (.seto o (.mapo (setE (mpE l) i (nv k,iv z))) (Nat.max (bd (nv k)) (bd (iv z))) .skip)
    |none => .fail
   |some none => .seto o (.mapo (qfi (mpE l) (nv k,iv z))) (Nat.max (bd (nv k)) (bd (iv z))) .skip
   |none => .fail) y s h n K :=by
 subst hz
 rcases qnc k l 0 with ⟨j,x,h1,h2,h3,h4⟩ | ⟨h1,h2,h3⟩
 ·rw [h1]
  simp only [Nat.zero_add,h4,h3]
  simp only [show qg3 8 (nv k) (nv k) = true by simp [qg3]]
  exact hk
 ·rw [h1]
  simp only [h3]
  exact hk
theorem qee (k v:Nat):∀ l,getE (putE l k v) k = v
 | [] => by rw [putE,getE,if_pos rfl]
 |x :: l => by
  rw [putE]
  by_cases h:k = x.1
  ·rw [if_pos h,getE,if_pos rfl]
  ·rw [if_neg h,getE,if_neg h,qee k v l]
theorem qf2 (k v j:Nat) (hj:j ≠ k):∀ l,getE (putE l k v) j = getE l j
 | [] => if_neg hj
 |x :: l => by
  rw [putE]
  by_cases h:k = x.1
  ·rw [if_pos h,getE,if_neg hj,getE,if_neg (by rw [← h];exact hj)]
  ·rw [if_neg h,getE,getE,qf2 k v j hj l]
theorem qrh (k v w:Nat):∀ l,putE (putE l k v) k w = putE l k w
 | [] => if_pos rfl
 |x :: l => by
  rw [putE,putE]
  by_cases h:k = x.1
  ·rw [if_pos h,if_pos h,putE,if_pos rfl]
  ·rw [if_neg h,if_neg h,putE,if_neg h,qrh k v w l]
def fitB (long saw:Nat):List (Nat × Nat) → List (Nat × Nat) → Bool
 | [],_ => true
 |x :: r,E => if long < (if 0 < getE E x.1 then getE E x.1 + saw else getE E x.1) + 2 * x.2 then false else fitB long saw r (putE E x.1 ((if 0 < getE E x.1 then getE E x.1 + saw else getE E x.1) + 2 * x.2))
theorem qtd {long saw:Nat} (hl:long ≤ 500) (hs:saw ≤ 9) {teeth sh:List Nat} (hT:sh.length ≤ teeth.length) (h8:teeth.length ≤ 8) (ht:∀ x,x ∈ teeth → x ≤ 60):Pure prog 87 [nv long,nv saw,nl (zl teeth),nl (zl sh)] (.bool (fitB long saw (sh.zip teeth) [])) :=by
 have lT :=qal (zl teeth)
 have lS :=qal (zl sh)
 have z1 :=qct teeth
 have z2 :=qct sh
 have lz:(sh.zip teeth).length = sh.length :=by rw [List.length_zip];omega
 refine qas hE rfl (by repeat' first|exact trivial|assumption|exact qag _|exact fun _ h => nomatch h|apply And.intro) (by repeat' first|exact trivial|assumption|exact qag _|exact fun _ h => nomatch h|apply And.intro) fun S q pc hS hq hC hE => ?_
 conv => whnf
 refine qa4 hE hS (A :=Nat × List (Nat × Nat)) [0,1,2,9,13,14] (fun (i,_) => [(15,nv i)]) (fun (_,E) => [(0,.mapo (mpE E))]) (fun _ => []) (fun (i,E) => i ≤ sh.length ∧ fitB long saw ((sh.zip teeth).drop i) E = fitB long saw (sh.zip teeth) [] ∧ ∀ k,getE E k ≤ i * 129) (fun (i,_) => sh.length - i) (0,[]) (kle rfl) rfl (zhg 1) ⟨Nat.zero_le _,rfl,fun _ => Nat.zero_le _⟩ ?_
 rintro ⟨i,E⟩ ⟨hi,he,hb⟩ Q hQ
 obtain rfl:Q = 1 :=hQ
 conv => whnf
 by_cases hi2:i < sh.length
 ·have hiz:i < (zl sh).length :=by omega
  have hit:i < (zl teeth).length :=by omega
  have hi1:IntKind.i64.wrap (Int.ofNat i + 1) = Int.ofNat (i + 1) :=qa7 (m :=i + 1) (by omega)
  have g0:nth (ivs (zl sh)) (i * 1) = some (nv (gn sh i)) :=by rw [qbp hiz,qkk sh hi2]
  have g1:nth (ivs (zl teeth)) (i * 1) = some (nv (gn teeth i)) :=by rw [qbp hit,qkk teeth (by omega)]
  have hbk :=hb (gn sh i)
  have h60 :=ht _ (qpb teeth (show i < teeth.length by omega))
  have hd:(sh.zip teeth).drop i = (gn sh i,gn teeth i) :: (sh.zip teeth).drop (i + 1) :=by
   rw [List.drop_eq_getElem_cons (by omega),List.getElem_zip]
   simp [gn,List.getD,hi2,show i < teeth.length by omega]
  rw [hd,fitB] at he
  generalize gn sh i = k at *
  generalize gn teeth i = t at *
  have hw2:IntKind.i64.wrap (2 * Int.ofNat t) = Int.ofNat (2 * t) :=by
   show IntKind.i64.wrap (Int.ofNat 2 * Int.ofNat t) = _
   exact mulN (by omega)
  refine qaa (qa3 hiz) ?_
  conv => whnf
  refine qaa (qav hiz) ?_
  conv => whnf
  refine qaf (nthP (g0)) ?_
  conv => whnf
  refine qaf (qqd k E) ?_
  conv => whnf
  by_cases h0:0 < getE E k
  ·rw [if_pos h0] at he
   have c1:decide (Int.ofNat (getE E k) > 0) = true :=decide_eq_true (by show (0:Int) < ((getE E k:Nat):Int);omega)
   have hw1:IntKind.i64.wrap (Int.ofNat (getE E k) + Int.ofNat saw) = Int.ofNat (getE E k + saw) :=qa7 (m :=getE E k + saw) (by omega)
   refine qaa (c1) ?_
   conv => whnf
   refine qaf (qqd k E) ?_
   conv => whnf
   refine qw4 hw1 ?_
   conv => whnf
   refine qaf (qqd k (putE E k (getE E k + saw))) ?_
   conv => whnf
   refine qaa (qav hit) ?_
   conv => whnf
   refine qaf (nthP (g1)) ?_
   conv => whnf
   have hw3:IntKind.i64.wrap (Int.ofNat (getE (putE E k (getE E k + saw)) k) + IntKind.i64.wrap (2 * Int.ofNat t)) = Int.ofNat (getE E k + saw + 2 * t) :=by rw [qee,hw2];exact qa7 (m :=getE E k + saw + 2 * t) (by omega)
   refine qw4 hw3 ?_
   conv => whnf
   refine qad hS (by kernel_rfl) ?_
   conv => whnf
   refine qaf (qqd k (putE (putE E k (getE E k + saw)) k (getE E k + saw + 2 * t))) ?_
   conv => whnf
   have eo :=congrArg (fun l => AObj.mapo (mpE l)) (qrh k (getE E k + saw) (getE E k + saw + 2 * t) E)
   by_cases h1:long < getE E k + saw + 2 * t
   ·have he:false = fitB long saw (sh.zip teeth) [] :=by rw [← he];exact (if_pos h1).symm
    refine qaa ((show decide (Int.ofNat (getE (putE (putE E k (getE E k + saw)) k (getE E k + saw + 2 * t)) k) > Int.ofNat long) = true by rw [qee];exact decide_eq_true (Int.ofNat_lt.2 h1))) ?_
    conv => whnf
    rw [← he]
    exact ⟨_,rfl,Wk.refl _⟩
   ·have he:fitB long saw ((sh.zip teeth).drop (i + 1)) (putE E k (getE E k + saw + 2 * t)) = fitB long saw (sh.zip teeth) [] :=by rw [← he];exact (if_neg h1).symm
    refine qac ((show decide (Int.ofNat (getE (putE (putE E k (getE E k + saw)) k (getE E k + saw + 2 * t)) k) > Int.ofNat long) = false by rw [qee];exact decide_eq_false fun z => h1 (Int.ofNat_lt.1 z))) ?_
    conv => whnf
    exact ⟨(i + 1,putE E k (getE E k + saw + 2 * t)),⟨hi2,he,fun j => by
     by_cases e:j = k
     ·subst e;rw [qee];omega
     ·rw [qf2 k _ j e];have :=hb j;omega⟩,by show sh.length - (i + 1) < sh.length - i;omega,Nat.le_refl _,(zhg 1)⟩
  ·rw [if_neg h0] at he
   have c1:decide (Int.ofNat (getE E k) > 0) = false :=decide_eq_false (by show ¬ (0:Int) < ((getE E k:Nat):Int);omega)
   refine qac (c1) ?_
   conv => whnf
   refine qaf (qqd k E) ?_
   conv => whnf
   refine qaa (qav hit) ?_
   conv => whnf
   refine qaf (nthP (g1)) ?_
   conv => whnf
   have hw3:IntKind.i64.wrap (Int.ofNat (getE E k) + IntKind.i64.wrap (2 * Int.ofNat t)) = Int.ofNat (getE E k + 2 * t) :=by rw [hw2];exact qa7 (m :=getE E k + 2 * t) (by omega)
   refine qw4 hw3 ?_
   conv => whnf
   refine qad hS (by kernel_rfl) ?_
   conv => whnf
   refine qaf (qqd k (putE E k (getE E k + 2 * t))) ?_
   conv => whnf
   by_cases h1:long < getE E k + 2 * t
   ·have he:false = fitB long saw (sh.zip teeth) [] :=by rw [← he];exact (if_pos h1).symm
    refine qaa ((show decide (Int.ofNat (getE (putE E k (getE E k + 2 * t)) k) > Int.ofNat long) = true by rw [qee];exact decide_eq_true (Int.ofNat_lt.2 h1))) ?_
    conv => whnf
    rw [← he]
    exact ⟨_,rfl,Wk.refl _⟩
   ·have he:fitB long saw ((sh.zip teeth).drop (i + 1)) (putE E k (getE E k + 2 * t)) = fitB long saw (sh.zip teeth) [] :=by rw [← he];exact (if_neg h1).symm
    refine qac ((show decide (Int.ofNat (getE (putE E k (getE E k + 2 * t)) k) > Int.ofNat long) = false by rw [qee];exact decide_eq_false fun z => h1 (Int.ofNat_lt.1 z))) ?_
    conv => whnf
    exact ⟨(i + 1,putE E k (getE E k + 2 * t)),⟨hi2,he,fun j => by
     by_cases e:j = k
     ·subst e;rw [qee];omega
     ·rw [qf2 k _ j e];have :=hb j;omega⟩,by show sh.length - (i + 1) < sh.length - i;omega,Nat.le_refl _,(zhg 1)⟩
 ·refine qac (qbn (show ¬ i < (zl sh).length by omega)) ?_
  conv => whnf
  refine .inl ?_
  conv => whnf
  rw [List.drop_eq_nil_of_le (by omega)] at he
  rw [← he]
  exact ⟨_,rfl,Wk.refl _⟩
theorem qqp (p:Nat × Nat):∀ l:List (Nat × Nat),xP (l ++ [p]) = xP l * p.1 ∧ yP (l ++ [p]) = yP l * p.2
 | [] => ⟨by simp [xP],by simp [yP]⟩
 |q :: l => by
  have :=qqp p l
  rw [List.cons_append,xP,yP,xP,yP,this.1,this.2]
  exact ⟨by ac_rfl,by ac_rfl⟩
theorem qyy:∀ l:List (Nat × Nat),AllT tN l → (1 ≤ xP l ∧ xP l ≤ 60 ^ l.length) ∧ 1 ≤ yP l ∧ yP l ≤ 60 ^ l.length
 | [],_ => ⟨⟨by simp [xP],by simp [xP]⟩,by simp [yP],by simp [yP]⟩
 |q :: l,h => by
  have ih :=qyy l h.2
  have h1 :=h.1
  rw [xP,yP,List.length_cons,Nat.pow_succ,Nat.mul_comm _ 60]
  exact ⟨⟨Nat.mul_pos (by omega) ih.1.1,Nat.mul_le_mul h1.1.2 ih.1.2⟩,Nat.mul_pos (by omega) ih.2.1,Nat.mul_le_mul h1.2.2 ih.2.2⟩
def rtA (N:List Lk) (a:Nat):Nat × Nat :=(xP (tr N a),yP (tr N a))
def rtL (N:List Lk) (k:Nat):List (Nat × Nat) :=(List.range k).map (rtA N)
theorem qbr (N:List Lk) (k:Nat):(rtL N k).length = k :=by simp [rtL]
theorem qob (N:List Lk) (k:Nat):rtL N (k + 1) = rtL N k ++ [rtA N k] :=by simp [rtL,List.range_succ]
theorem qfj (N:List Lk) {k a:Nat} (h:a < k):gq (rtL N k) a = rtA N a :=by simp [gq,rtL,List.getD,h]
theorem qhs {N:List Lk} (h:okN N) {a:Nat} (ha:a ≤ N.length):(1 ≤ (rtA N a).1 ∧ (rtA N a).1 ≤ 216000) ∧ 1 ≤ (rtA N a).2 ∧ (rtA N a).2 ≤ 216000 :=by
 have h1 :=qyy _ (h.all a a (Nat.le_refl _) ha)
 have h2 :=h.dl ha
 have h3:60 ^ (tr N a).length ≤ 60 ^ 3 :=Nat.pow_le_pow_right (by decide) h2
 have h4:60 ^ 3 = 216000 :=rfl
 exact ⟨⟨h1.1.1,by show xP _ ≤ _;omega⟩,h1.2.1,by show yP _ ≤ _;omega⟩
theorem qoc {N:List Lk} (h:okN N) {i:Nat} (hi:i < N.length):rtA N (i + 1) = ((rtA N (gN N i).1).1 * (gN N i).2.1,(rtA N (gN N i).1).2 * (gN N i).2.2) :=by
 unfold rtA
 rw [qem h.wf hi,(qqp _ _).1,(qqp _ _).2]
def wiV (N:List Lk) (M:List Int):AV :=.agg [nkA N,nl M,pv (zp (rtL N (N.length + 1)))]
theorem qb9:∀ (L:List LkI) (i:Nat),i < L.length → nth (lks L) (i * 3 + 1) = some (iv (gL L i).2.1)
 | [],_,h => absurd h (Nat.not_lt_zero _)
 | _ :: _,0,_ => rfl
 | _ :: r,i + 1,h => by
  rw [show (i + 1) * 3 + 1 = i * 3 + 1 + 1 + 1 + 1 by omega]
  exact qb9 r i (by simpa using h)
theorem qck:∀ (L:List LkI) (i:Nat),i < L.length → nth (lks L) (i * 3 + 2) = some (iv (gL L i).2.2)
 | [],_,h => absurd h (Nat.not_lt_zero _)
 | _ :: _,0,_ => rfl
 | _ :: r,i + 1,h => by
  rw [show (i + 1) * 3 + 2 = i * 3 + 2 + 1 + 1 + 1 by omega]
  exact qck r i (by simpa using h)
theorem qxw (N:List Lk) {i:Nat} (h:i < N.length):nth (lks (cL N)) (i * 3 + 0) = some (nv (gN N i).1) :=by
 have :=qbf (cL N) i (by rw [qf9];exact h)
 rwa [qlp N h] at this
theorem qsb (N:List Lk) {i:Nat} (h:i < N.length):nth (lks (cL N)) (i * 3 + 1) = some (nv (gN N i).2.1) :=by
 have :=qb9 (cL N) i (by rw [qf9];exact h)
 rwa [qlp N h] at this
theorem qsa (N:List Lk) {i:Nat} (h:i < N.length):nth (lks (cL N)) (i * 3 + 2) = some (nv (gN N i).2.2) :=by
 have :=qck (cL N) i (by rw [qf9];exact h)
 rwa [qlp N h] at this
def rtV (N:List Lk) (i c:Nat):AV :=.lst (flat (zp (rtL N (i + 1)))) (zp (rtL N (i + 1))).length (.ch c)
theorem qwy (N:List Lk) (i:Nat) {c n:Nat} (h:c + 1 ≤ n):bd (rtV N i c) ≤ n :=Nat.max_le.2 ⟨h,qae (qag _)⟩
theorem qn9 {N:List Lk} (h:okN N) (h1:1 ≤ N.length) {a b:AV} {c ty:Nat}:AObj.cells (.node a (.node b .nil .nil) (.node (.lst [iv 1,iv 1,iv (IntKind.i64.wrap (1 * Int.ofNat (gN N 0).2.1)),iv (IntKind.i64.wrap (1 * Int.ofNat (gN N 0).2.2))] 2 (.ch c)) .nil .nil)) 3 ty = AObj.cells (.node a (.node b .nil .nil) (.node (rtV N 1 c) .nil .nil)) 3 ty :=by
 have f0:(gN N 0).1 = 0 :=Nat.le_zero.1 (h.wf 0 h1)
 have t1 :=h.t1 0 h1
 have t2 :=h.t2 0 h1
 have e1:rtA N 1 = (1 * (gN N 0).2.1,1 * (gN N 0).2.2) :=by
  have :=qoc h h1
  rw [f0] at this
  exact this
 have e2:rtL N 2 = [(1,1),(1 * (gN N 0).2.1,1 * (gN N 0).2.2)] :=by rw [qob,e1];rfl
 unfold rtV
 rw [e2,show (1:Int) * Int.ofNat (gN N 0).2.1 = Int.ofNat 1 * Int.ofNat (gN N 0).2.1 from rfl,show (1:Int) * Int.ofNat (gN N 0).2.2 = Int.ofNat 1 * Int.ofNat (gN N 0).2.2 from rfl,mulN (by omega),mulN (by omega)]
 rfl
theorem qso (l:List (Nat × Nat)):qcf (flat (zp l)) ((zp l).length * 2) = true :=by
 have :=qec (flat (zp l))
 rwa [flat_len] at this
theorem qye (l:List (Nat × Nat)) (q:Nat × Nat):flat (zp (l ++ [q])) = flat (zp l) ++ [nv q.1,nv q.2] :=by
 induction l with
 |nil => rfl
 |cons x r ih => exact congrArg (fun z => nv x.1 :: nv x.2 :: z) ih
theorem qrf {N:List Lk} (h:okN N) {i:Nat} (hi:i < N.length) {a b:AV} {c ty:Nat}:AObj.cells (.node a (.node b .nil .nil) (.node (.lst (flat (zp (rtL N (i + 1))) ++ [iv (IntKind.i64.wrap (Int.ofNat (rtA N (gN N i).1).1 * Int.ofNat (gN N i).2.1)),iv (IntKind.i64.wrap (Int.ofNat (rtA N (gN N i).1).2 * Int.ofNat (gN N i).2.2))]) ((zp (rtL N (i + 1))).length + (0 + 1)) (.ch c)) .nil .nil)) 3 ty = AObj.cells (.node a (.node b .nil .nil) (.node (rtV N (i + 1) c) .nil .nil)) 3 ty :=by
 have t1 :=h.t1 i hi
 have t2 :=h.t2 i hi
 have hb :=qhs h (a :=(gN N i).1) (by have :=h.wf i hi;omega)
 have e1 :=qoc h hi
 have m1:(rtA N (gN N i).1).1 * (gN N i).2.1 ≤ 216000 * 60 :=Nat.mul_le_mul hb.1.2 t1.2
 have m2:(rtA N (gN N i).1).2 * (gN N i).2.2 ≤ 216000 * 60 :=Nat.mul_le_mul hb.2.2 t2.2
 unfold rtV
 rw [qob N (i + 1),qye,mulN (by omega),mulN (by omega),e1,qde,qde,List.length_append]
 rfl
theorem qoa (N:List Lk) (i:Nat) {ty:Nat}:AObj.chain ((zp (rtL N (i + 1))).length + (0 + 1)) 2 ty = .chain (zp (rtL N (i + 1 + 1))).length 2 ty :=by
 rw [qde,qde,qbr,qbr]
theorem q0b (N:List Lk) (M:List Int) {c:Nat}:Wk (.agg [.lst (lks (cL N)) N.length .no,.lst (ivs M) M.length .no,.lst (flat (zp (rtL N (N.length + 1)))) (zp (rtL N (N.length + 1))).length (.ch c)]) (.agg [nkA N,nl M,pv (zp (rtL N (N.length + 1)))]) :=by
 have :=Wk.wk (.agg [.lst (lks (cL N)) N.length .no,.lst (ivs M) M.length .no,.lst (flat (zp (rtL N (N.length + 1)))) (zp (rtL N (N.length + 1))).length (.ch c)])
 simp only [wk,wkl,qnt,qqs,qhi] at this
 exact this
theorem qhj {N:List Lk} (h:okN N) (h1:1 ≤ N.length) (hN:N.length ≤ 5) (M:List Int):Pure prog 103 [.agg [nkA N,nl M]] (wiV N M) :=by
 have lN :=qau (cL N)
 have lM :=qal M
 have lR :=qag (zp (rtL N (N.length + 1)))
 unfold wiV
 have f0:(gN N 0).1 = 0 :=Nat.le_zero.1 (h.wf 0 h1)
 have c0:decide (0 < (N.length:Int)) = true :=decide_eq_true (by omega)
 have g0:nth (lks (cL N)) ((0:Int).toNat * 3 + 0) = some (nv 0) :=by
  have :=qbf (cL N) 0 (by rw [qf9];exact h1)
  rw [qlp N h1] at this
  rw [show nv 0 = iv (cK (gN N 0)).1 by unfold cK;rw [f0]]
  exact this
 have g1:nth (lks (cL N)) ((0:Int).toNat * 3 + 1) = some (nv (gN N 0).2.1) :=qsb N h1
 have g2:nth (lks (cL N)) ((0:Int).toNat * 3 + 2) = some (nv (gN N 0).2.2) :=qsa N h1
 have r0:inR 0 N.length = true :=qav (i :=0) h1
 refine qas hE rfl (by repeat' first|exact trivial|assumption|exact qag _|exact fun _ h => nomatch h|apply And.intro) (by repeat' first|exact trivial|assumption|exact qag _|exact fun _ h => nomatch h|apply And.intro) fun S q pc hS hq hC hE => ?_
 conv => whnf
 refine qam hE hS ?_
 conv => whnf
 refine qaa (c0) ?_
 conv => whnf
 refine qaa (r0) ?_
 conv => whnf
 refine qaf (nthP (g0)) ?_
 conv => whnf
 refine qad hS (by kernel_rfl) ?_
 conv => whnf
 refine qaa (r0) ?_
 conv => whnf
 refine qaf (nthP (g1)) ?_
 conv => whnf
 refine qaa (r0) ?_
 conv => whnf
 refine qaf (nthP (g2)) ?_
 conv => whnf
 refine qad hS (by kernel_rfl) ?_
 conv => whnf
 refine qa4 hE hS (A :=Nat) [1,2,3,12] (fun i => [(13,nv i)]) (fun i => [(2,.cells (.node (.lst (lks (cL N)) N.length .no) (.node (.lst (ivs M) M.length .no) .nil .nil) (.node (rtV N i 39) .nil .nil)) 3 155),(39,.chain (zp (rtL N (i + 1))).length 2 161)]) (fun _ => []) (fun i => 1 ≤ i ∧ i ≤ N.length) (fun i => N.length - i) 1 (kle rfl) rfl (zhg 42) ⟨Nat.le_refl _,h1⟩ ?_
 rintro i ⟨hi1,hi⟩ K hK
 obtain rfl:K = 42 :=hK
 conv => whnf
 by_cases hi2:i < N.length
 ·refine qaa (qa3 hi2) ?_
  conv => whnf
  refine qaa (qav hi2) ?_
  conv => whnf
  refine qaf (nthP (qxw N hi2)) ?_
  conv => whnf
  have hf :=h.wf i hi2
  have tk:qb0 2 (qcl ((gN N i).1 * 2) (flat (zp (rtL N (i + 1))))) = some [nv (rtA N (gN N i).1).1,nv (rtA N (gN N i).1).2] :=by
   rw [qhl _ (by rw [qbr];omega),qfj N (by omega)]
  have lR2 :=qag (zp (rtL N (i + 1)))
  refine qaa ((show inR (Int.ofNat (gN N i).1) (zp (rtL N (i + 1))).length = true by rw [qde,qbr];exact qav (by omega))) ?_
  conv => whnf
  refine qaf (takP tk) ?_
  conv => whnf
  refine qad hS (by kernel_rfl) ?_
  conv => whnf
  refine qaa (qav hi2) ?_
  conv => whnf
  refine qaf (nthP (qsb N hi2)) ?_
  conv => whnf
  refine qaa (qav hi2) ?_
  conv => whnf
  refine qaf (nthP (qsa N hi2)) ?_
  conv => whnf
  have hz:(zp (rtL N (i + 1))).length = i + 1 :=by rw [qde,qbr]
  refine qaa (decide_eq_true (show ((zp (rtL N (i + 1))).length + (0 + 1)) * 16 ≤ 140737488355328 by omega)) ?_
  conv => whnf
  refine qaa (decide_eq_true (show (zp (rtL N (i + 1))).length + (0 + 1) ≤ 9223372036854775807 by omega)) ?_
  conv => whnf
  refine qaa (qso (rtL N (i + 1))) ?_
  conv => whnf
  refine qaa (decide_eq_true rfl) ?_
  conv => whnf
  refine qad hS (by kernel_rfl) ?_
  conv => whnf
  exact ⟨i + 1,⟨by omega,hi2⟩,by omega,Nat.le_refl _,(zhg 42)⟩
 ·refine qac (qbn hi2) ?_
  conv => whnf
  refine .inl ?_
  conv => whnf
  have e:i = N.length :=by omega
  subst e
  exact ⟨_,rfl,q0b N M⟩
def rsm (p q:Nat × Nat):Prop :=p.1 * q.2 = q.1 * p.2
instance (p q:Nat × Nat):Decidable (rsm p q) :=Nat.decEq _ _
theorem qdc (u v:Nat × Nat) (h1:u.1 * v.2 < 4611686018427387904) (h2:v.1 * u.2 < 4611686018427387904):Pure prog 148 [qf u,qf v] (.bool (decide (rsm u v))) :=by
 refine qas hE rfl (by repeat' first|exact trivial|assumption|exact qag _|exact fun _ h => nomatch h|apply And.intro) (by repeat' first|exact trivial|assumption|exact qag _|exact fun _ h => nomatch h|apply And.intro) fun S q pc hS hq hC hE => ?_
 conv => whnf
 refine ⟨_,rfl,wkb ?_⟩
 rw [mulN (a :=u.1) (b :=v.2) (by omega),mulN (a :=v.1) (b :=u.2) (by omega),Bool.eq_iff_iff,beq_iff_eq,decide_eq_true_iff]
 exact ⟨fun h => Int.ofNat.inj h,fun h => congrArg Int.ofNat h⟩
theorem q0d {L:List Nat} (h:L ≠ []):sv (zl L) = nl (zl L) :=by
 cases L with
 |nil => exact absurd rfl h
 |cons x r => rfl
def spL (N N2:List Lk) (H:List Nat):Nat → List Nat
 | 0 => []
 |i + 1 => spL N N2 H i ++ if rsm (rtA N (gn H i)) (rtA N2 (gn H i)) then [] else [i]
theorem qmc (N N2:List Lk) (H:List Nat):∀ i,(spL N N2 H i).length ≤ i
 | 0 => Nat.le_refl 0
 |i + 1 => by
  have :=qmc N N2 H i
  rw [spL,List.length_append]
  split
  ·simp only [List.length_nil];omega
  ·simp only [List.length_cons,List.length_nil];omega
theorem rnI {m:Nat} {rs:List Nat} {L:List Nat} {y:Nat} {j c e:Nat} (hj:j < rs.length) (h1:rs.getD j 0 = c) (h2:e = m + j):RnV m rs (.lst (ivs (zl L) ++ [nv y]) (L.length + (0 + 1)) (.ch c)) (.lst (ivs (zl (L ++ [y]))) (L ++ [y]).length (.ch e)) :=by
 rw [show AV.lst (ivs (zl L) ++ [nv y]) (L.length + (0 + 1)) (.ch c) = .lst (ivs (zl (L ++ [y]))) (L ++ [y]).length (.ch c) from qz7 L y c]
 exact RnV.ch hj h1 h2 (qae (qal _))
structure hdN (n:Nat) (H:List Nat):Prop where
 l4:H.length ≤ 4
 le:∀ x,x ∈ H → x ≤ n
theorem qmb {N N2:List Lk} (h:okN N) (h2:okN N2) (_hN:N.length ≤ 5) (hl:N2.length = N.length) {H:List Nat} (hH:hdN N.length H) :
  Pure prog 104 [wiV N (zl H),wiV N2 (zl H)] (sv (zl (spL N N2 H H.length))) :=by
 have lN :=qau (cL N)
 have lN2 :=qau (cL N2)
 have lM :=qal (zl H)
 have lR :=qag (zp (rtL N (N.length + 1)))
 have lR2 :=qag (zp (rtL N2 (N2.length + 1)))
 have lv :=qy3 (zl (spL N N2 H H.length))
 have hz :=qct H
 have h4 :=hH.l4
 unfold wiV
 refine qas hE rfl (by repeat' first|exact trivial|assumption|exact qag _|exact fun _ h => nomatch h|apply And.intro) (by repeat' first|exact trivial|assumption|exact qag _|exact fun _ h => nomatch h|apply And.intro) fun S q pc hS hq hC hE => ?_
 conv => whnf
 refine qq3 hE hS (A :=Nat × AV × List AObj) [] (fun x hx => nomatch hx) [2,3,10,11] (fun (i,v,_) => [(5,v),(12,nv i)]) (fun _ => []) (fun a => a.2.2) (fun (i,v,ux) => i ≤ H.length ∧ (spL N N2 H i = [] ∧ v = .nils ∧ ux = [] ∨ spL N N2 H i ≠ [] ∧ v = .lst (ivs (zl (spL N N2 H i))) (spL N N2 H i).length (.ch 2) ∧ ux = [.chain (spL N N2 H i).length 1 3])) (fun (i,_) => H.length - i) (0,.nils,[]) (kle rfl) trivial rfl (by repeat' (first|exact trivial|exact Nat.zero_le _|exact kle rfl|exact bdq|exact mxI rfl|exact mxS rfl|apply And.intro)) zhr ⟨Nat.zero_le _,.inl ⟨rfl,rfl,rfl⟩⟩ ?_
 rintro ⟨i,v,ux⟩ ⟨hi,⟨he,rfl,rfl⟩ | ⟨he,rfl,rfl⟩⟩ K hK
 ·obtain rfl:K = 2 :=hK
  conv => whnf
  by_cases hi2:i < H.length
  ·have hiz:i < (zl H).length :=by omega
   have hg :=hH.le _ (qpb H hi2)
   have b1 :=qhs h (a :=gn H i) hg
   have b2 :=qhs h2 (a :=gn H i) (by omega)
   have m1:(rtA N (gn H i)).1 * (rtA N2 (gn H i)).2 ≤ 216000 * 216000 :=Nat.mul_le_mul b1.1.2 b2.2.2
   have m2:(rtA N2 (gn H i)).1 * (rtA N (gn H i)).2 ≤ 216000 * 216000 :=Nat.mul_le_mul b2.1.2 b1.2.2
   have g0:nth (ivs (zl H)) (i * 1) = some (nv (gn H i)) :=by rw [qbp hiz,qkk H hi2]
   have t1:qb0 2 (qcl (gn H i * 2) (flat (zp (rtL N (N.length + 1))))) = some [nv (rtA N (gn H i)).1,nv (rtA N (gn H i)).2] :=by
    rw [qhl _ (by rw [qbr];omega),qfj N (by omega)]
   have t2:qb0 2 (qcl (gn H i * 2) (flat (zp (rtL N2 (N2.length + 1))))) = some [nv (rtA N2 (gn H i)).1,nv (rtA N2 (gn H i)).2] :=by
    rw [qhl _ (by rw [qbr];omega),qfj N2 (by omega)]
   have hi1:IntKind.i64.wrap (Int.ofNat i + 1) = Int.ofNat (i + 1) :=qa7 (m :=i + 1) (by omega)
   refine qaa (qa3 hiz) ?_
   conv => whnf
   refine qaa (qav hiz) ?_
   conv => whnf
   refine qaf (nthP (g0)) ?_
   conv => whnf
   refine qaa ((show inR (Int.ofNat (gn H i)) (zp (rtL N (N.length + 1))).length = true by rw [qde,qbr];exact qav (by omega))) ?_
   conv => whnf
   refine qaf (takP t1) ?_
   conv => whnf
   refine qaa ((show inR (Int.ofNat (gn H i)) (zp (rtL N2 (N2.length + 1))).length = true by rw [qde,qbr];exact qav (by omega))) ?_
   conv => whnf
   refine qaf (takP t2) ?_
   conv => whnf
   refine qab hC (qdc (rtA N (gn H i)) (rtA N2 (gn H i)) (by omega) (by omega)) ?_
   conv => whnf
   refine qad hS (by kernel_rfl) ?_
   conv => whnf
   by_cases hs:rsm (rtA N (gn H i)) (rtA N2 (gn H i))
   ·have e1:spL N N2 H (i + 1) = [] :=by rw [spL,if_pos hs,he];rfl
    refine qac (nt_t (decide_eq_true hs)) ?_
    conv => whnf
    exact ⟨(i + 1,.nils,[]),[],⟨hi2,.inl ⟨e1,rfl,rfl⟩⟩,by show H.length - (i + 1) < H.length - i;omega,zhr⟩
   ·have e1:spL N N2 H (i + 1) = [i] :=by rw [spL,if_neg hs,he];rfl
    refine qaa (nt_f (decide_eq_false hs)) ?_
    conv => whnf
    exact ⟨(i + 1,.lst [nv i] 1 (.ch 2),[.chain 1 1 3]),[14],⟨hi2,.inr ⟨by rw [e1];simp,by rw [e1];rfl,by rw [e1];rfl⟩⟩,by show H.length - (i + 1) < H.length - i;omega,zhr⟩
  ·refine qac (qbn (show ¬ i < (zl H).length by omega)) ?_
   conv => whnf
   have e:i = H.length :=by omega
   rw [← e,he]
   exact ⟨_,rfl,Wk.refl _⟩
 ·obtain rfl:K = 3 :=hK
  conv => whnf
  by_cases hi2:i < H.length
  ·have hiz:i < (zl H).length :=by omega
   have hg :=hH.le _ (qpb H hi2)
   have b1 :=qhs h (a :=gn H i) hg
   have b2 :=qhs h2 (a :=gn H i) (by omega)
   have m1:(rtA N (gn H i)).1 * (rtA N2 (gn H i)).2 ≤ 216000 * 216000 :=Nat.mul_le_mul b1.1.2 b2.2.2
   have m2:(rtA N2 (gn H i)).1 * (rtA N (gn H i)).2 ≤ 216000 * 216000 :=Nat.mul_le_mul b2.1.2 b1.2.2
   have g0:nth (ivs (zl H)) (i * 1) = some (nv (gn H i)) :=by rw [qbp hiz,qkk H hi2]
   have t1:qb0 2 (qcl (gn H i * 2) (flat (zp (rtL N (N.length + 1))))) = some [nv (rtA N (gn H i)).1,nv (rtA N (gn H i)).2] :=by
    rw [qhl _ (by rw [qbr];omega),qfj N (by omega)]
   have t2:qb0 2 (qcl (gn H i * 2) (flat (zp (rtL N2 (N2.length + 1))))) = some [nv (rtA N2 (gn H i)).1,nv (rtA N2 (gn H i)).2] :=by
    rw [qhl _ (by rw [qbr];omega),qfj N2 (by omega)]
   have hi1:IntKind.i64.wrap (Int.ofNat i + 1) = Int.ofNat (i + 1) :=qa7 (m :=i + 1) (by omega)
   refine qaa (qa3 hiz) ?_
   conv => whnf
   refine qaa (qav hiz) ?_
   conv => whnf
   refine qaf (nthP (g0)) ?_
   conv => whnf
   refine qaa ((show inR (Int.ofNat (gn H i)) (zp (rtL N (N.length + 1))).length = true by rw [qde,qbr];exact qav (by omega))) ?_
   conv => whnf
   refine qaf (takP t1) ?_
   conv => whnf
   refine qaa ((show inR (Int.ofNat (gn H i)) (zp (rtL N2 (N2.length + 1))).length = true by rw [qde,qbr];exact qav (by omega))) ?_
   conv => whnf
   refine qaf (takP t2) ?_
   conv => whnf
   refine qab hC (qdc (rtA N (gn H i)) (rtA N2 (gn H i)) (by omega) (by omega)) ?_
   conv => whnf
   refine qad hS (by kernel_rfl) ?_
   conv => whnf
   have hsl :=qmc N N2 H i
   by_cases hs:rsm (rtA N (gn H i)) (rtA N2 (gn H i))
   ·have e1:spL N N2 H (i + 1) = spL N N2 H i :=by rw [spL,if_pos hs,List.append_nil]
    refine qac (nt_t (decide_eq_true hs)) ?_
    conv => whnf
    exact ⟨(i + 1,.lst (ivs (zl (spL N N2 H i))) (spL N N2 H i).length (.ch 2),[.chain (spL N N2 H i).length 1 3]),[2],⟨hi2,.inr ⟨by rw [e1];exact he,by rw [e1],by rw [e1]⟩⟩,by show H.length - (i + 1) < H.length - i;omega,zhr⟩
   ·have e1:spL N N2 H (i + 1) = spL N N2 H i ++ [i] :=by rw [spL,if_neg hs]
    refine qaa (nt_f (decide_eq_false hs)) ?_
    conv => whnf
    refine qaa (decide_eq_true (show ((spL N N2 H i).length + (0 + 1)) * 8 ≤ 140737488355328 by omega)) ?_
    conv => whnf
    refine qaa (decide_eq_true (show (spL N N2 H i).length + (0 + 1) ≤ 9223372036854775807 by omega)) ?_
    conv => whnf
    refine qaa (qu5 (spL N N2 H i)) ?_
    conv => whnf
    refine qaa (decide_eq_true rfl) ?_
    conv => whnf
    exact ⟨(i + 1,.lst (ivs (zl (spL N N2 H i ++ [i]))) (spL N N2 H i ++ [i]).length (.ch 2),[.chain (spL N N2 H i ++ [i]).length 1 3]),[2],⟨hi2,.inr ⟨by rw [e1];simp,by rw [e1],by rw [e1]⟩⟩,by show H.length - (i + 1) < H.length - i;omega,zhr⟩
  ·refine qac (qbn (show ¬ i < (zl H).length by omega)) ?_
   conv => whnf
   have e:i = H.length :=by omega
   rw [← e,q0d he]
   exact ⟨_,rfl,q0a _ 2⟩
def suP (N N2:List Lk) (H:List Nat) (hand:Nat) (to:Nat × Nat):Prop :=rsm (rtA N2 (gn H hand)) to ∧ (spL N N2 H H.length = [] ∨ spL N N2 H H.length = [hand])
instance (N N2:List Lk) (H:List Nat) (hand:Nat) (to:Nat × Nat):Decidable (suP N N2 H hand to) :=instDecidableAnd
theorem qpu {N N2:List Lk} (h:okN N) (h2:okN N2) (hN:N.length ≤ 5) (hl:N2.length = N.length) {H:List Nat} (hH:hdN N.length H) {hand:Nat} (hh:hand < H.length) {to:Nat × Nat} (t1:to.1 ≤ 50000) (t2:to.2 ≤ 50000) :
  Pure prog 109 [wiV N (zl H),wiV N2 (zl H),nv hand,qf to] (.bool (decide (suP N N2 H hand to))) :=by
 have lN :=qau (cL N)
 have lN2 :=qau (cL N2)
 have lM :=qal (zl H)
 have lR :=qag (zp (rtL N (N.length + 1)))
 have lR2 :=qag (zp (rtL N2 (N2.length + 1)))
 have sp :=qmb h h2 hN hl hH
 have hz :=qct H
 have hiz:hand < (zl H).length :=by omega
 have hg :=hH.le _ (qpb H hh)
 have b2 :=qhs h2 (a :=gn H hand) (by omega)
 have m1:(rtA N2 (gn H hand)).1 * to.2 ≤ 216000 * 50000 :=Nat.mul_le_mul b2.1.2 t2
 have m2:to.1 * (rtA N2 (gn H hand)).2 ≤ 50000 * 216000 :=Nat.mul_le_mul t1 b2.2.2
 have g0:nth (ivs (zl H)) (hand * 1) = some (nv (gn H hand)) :=by rw [qbp hiz,qkk H hh]
 have t2:qb0 2 (qcl (gn H hand * 2) (flat (zp (rtL N2 (N2.length + 1))))) = some [nv (rtA N2 (gn H hand)).1,nv (rtA N2 (gn H hand)).2] :=by
  rw [qhl _ (by rw [qbr];omega),qfj N2 (by omega)]
 have hsl :=qmc N N2 H H.length
 by_cases hs:rsm (rtA N2 (gn H hand)) to
 ·have c1 :=nt_t (decide_eq_true hs)
  match hL:spL N N2 H H.length,sp with
  | [],sp =>
   have e:decide (suP N N2 H hand to) = true :=decide_eq_true ⟨hs,.inl hL⟩
   rw [e]
   have sp:Pure prog 104 [wiV N (zl H),wiV N2 (zl H)] .nils :=sp
   unfold wiV at sp ⊢
   refine qas hE rfl (by repeat' first|exact trivial|assumption|exact qag _|exact fun _ h => nomatch h|apply And.intro) (by repeat' first|exact trivial|assumption|exact qag _|exact fun _ h => nomatch h|apply And.intro) fun S q pc hS hq hC hE => ?_
   conv => whnf
   refine qaa (qav hiz) ?_
   conv => whnf
   refine qaf (nthP (g0)) ?_
   conv => whnf
   refine qaa ((show inR (Int.ofNat (gn H hand)) (zp (rtL N2 (N2.length + 1))).length = true by rw [qde,qbr];exact qav (by omega))) ?_
   conv => whnf
   refine qaf (takP t2) ?_
   conv => whnf
   refine qab hC (qdc (rtA N2 (gn H hand)) to (by omega) (by omega)) ?_
   conv => whnf
   refine qad hS (by kernel_rfl) ?_
   conv => whnf
   refine qac (c1) ?_
   conv => whnf
   refine qab hC (sp) ?_
   conv => whnf
   exact ⟨_,rfl,Wk.refl _⟩
  | [x],sp =>
   have sp:Pure prog 104 [wiV N (zl H),wiV N2 (zl H)] (.lst [nv x] 1 .no) :=sp
   unfold wiV at sp ⊢
   refine qas hE rfl (by repeat' first|exact trivial|assumption|exact qag _|exact fun _ h => nomatch h|apply And.intro) (by repeat' first|exact trivial|assumption|exact qag _|exact fun _ h => nomatch h|apply And.intro) fun S q pc hS hq hC hE => ?_
   conv => whnf
   refine qaa (qav hiz) ?_
   conv => whnf
   refine qaf (nthP (g0)) ?_
   conv => whnf
   refine qaa ((show inR (Int.ofNat (gn H hand)) (zp (rtL N2 (N2.length + 1))).length = true by rw [qde,qbr];exact qav (by omega))) ?_
   conv => whnf
   refine qaf (takP t2) ?_
   conv => whnf
   refine qab hC (qdc (rtA N2 (gn H hand)) to (by omega) (by omega)) ?_
   conv => whnf
   refine qad hS (by kernel_rfl) ?_
   conv => whnf
   refine qac (c1) ?_
   conv => whnf
   refine qab hC (sp) ?_
   conv => whnf
   refine ⟨_,rfl,wkb ?_⟩
   rw [Bool.eq_iff_iff,beq_iff_eq,decide_eq_true_iff]
   refine ⟨fun z => ⟨hs,.inr (by rw [hL,Int.ofNat.inj z])⟩,fun z => ?_⟩
   rcases z.2 with z | z <;> rw [hL] at z
   ·cases z
   ·exact congrArg Int.ofNat (List.cons.inj z).1
  |x :: y :: r,sp =>
   have e:decide (suP N N2 H hand to) = false :=decide_eq_false fun z => by
    rcases z.2 with z | z <;> rw [hL] at z <;> cases z
   rw [e]
   have sp:Pure prog 104 [wiV N (zl H),wiV N2 (zl H)] (nl (zl (x :: y :: r))) :=sp
   have lsp :=nl_no (zl (x :: y :: r))
   unfold wiV at sp ⊢
   refine qas hE rfl (by repeat' first|exact trivial|assumption|exact qag _|exact fun _ h => nomatch h|apply And.intro) (by repeat' first|exact trivial|assumption|exact qag _|exact fun _ h => nomatch h|apply And.intro) fun S q pc hS hq hC hE => ?_
   conv => whnf
   refine qaa (qav hiz) ?_
   conv => whnf
   refine qaf (nthP (g0)) ?_
   conv => whnf
   refine qaa ((show inR (Int.ofNat (gn H hand)) (zp (rtL N2 (N2.length + 1))).length = true by rw [qde,qbr];exact qav (by omega))) ?_
   conv => whnf
   refine qaf (takP t2) ?_
   conv => whnf
   refine qab hC (qdc (rtA N2 (gn H hand)) to (by omega) (by omega)) ?_
   conv => whnf
   refine qad hS (by kernel_rfl) ?_
   conv => whnf
   refine qac (c1) ?_
   conv => whnf
   refine qab hC (sp) ?_
   conv => whnf
   exact ⟨_,rfl,Wk.refl _⟩
 ·have c1 :=nt_f (decide_eq_false hs)
  have e:decide (suP N N2 H hand to) = false :=decide_eq_false fun z => hs z.1
  rw [e]
  unfold wiV
  refine qas hE rfl (by repeat' first|exact trivial|assumption|exact qag _|exact fun _ h => nomatch h|apply And.intro) (by repeat' first|exact trivial|assumption|exact qag _|exact fun _ h => nomatch h|apply And.intro) fun S q pc hS hq hC hE => ?_
  conv => whnf
  refine qaa (qav hiz) ?_
  conv => whnf
  refine qaf (nthP (g0)) ?_
  conv => whnf
  refine qaa ((show inR (Int.ofNat (gn H hand)) (zp (rtL N2 (N2.length + 1))).length = true by rw [qde,qbr];exact qav (by omega))) ?_
  conv => whnf
  refine qaf (takP t2) ?_
  conv => whnf
  refine qab hC (qdc (rtA N2 (gn H hand)) to (by omega) (by omega)) ?_
  conv => whnf
  refine qad hS (by kernel_rfl) ?_
  conv => whnf
  refine qaa (c1) ?_
  conv => whnf
  exact ⟨_,rfl,Wk.refl _⟩

end
end Go.Abs.Seat
