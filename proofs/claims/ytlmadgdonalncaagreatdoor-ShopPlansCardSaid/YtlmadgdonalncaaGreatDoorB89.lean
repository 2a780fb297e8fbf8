/-
  The search for plans: its nodes.
-/
import Derived.Test.YtlmadgdonalncaaGreatDoorU14
namespace Go.Abs.Seat
noncomputable section
open Go Go.Abs Go.Proofs.Tryz
set_option maxRecDepth 100000
set_option maxHeartbeats 40000000
attribute [local irreducible] IntKind.wrap pEq
def lvP (W J:List LkI) (i n:Nat):Prop :=(gL J i).2.1 ≤ (gL W n).1
instance (W J:List LkI) (i n:Nat):Decidable (lvP W J i n) :=inferInstanceAs (Decidable (_ ≤ _))
def ndP (W J:List LkI) (i:Nat) (g:Nat → List Pln):Nat → List Pln
 | 0 => []
 |k + 1 => ndP W J i g k ++ if lvP W J i k then g k else []
def uxP (q:Nat):List Pln → List AObj
 | [] => []
 |x :: r => .hole :: .hole :: .hole :: .hole :: .hole :: .hole :: .hole :: .hole :: .hole :: .hole :: .hole :: .hole :: .hole :: .hole :: .hole :: .hole :: .chain q 1 3 :: .hole :: [.chain (x :: r).length 2 126]
def uxQ (q:Nat):List Pln → List AObj
 | [] => []
 |x :: r => .hole :: .hole :: .hole :: .hole :: .hole :: .hole :: .hole :: .hole :: .hole :: .hole :: .hole :: .hole :: .hole :: .hole :: .hole :: .hole :: .hole :: .hole :: .chain q 1 3 :: [.chain (x :: r).length 2 126]
def uhP (c:Nat) (T:List Pln):List (Nat × AObj) :=[(2,qbx 129 c (lsP T))]
theorem qlg {xs:List AV} {k c:Nat} {l:List Int} (e:xs = ivs l) (ek:k = l.length):WkV (.lst xs k (.ch c)) (nl l) :=by
 subst e ek
 exact WkV.own _ _ _
theorem qee {P:Program} {f:FuncId} {y x:AV} {r:List AV} {b:Nat → AObj} {m a:Nat} {ty:TypeId} {sz:Nat} {e:TypeId} {L L':qdn} {v:AV} (hw:WkV y x) (h:qlk P f (x :: r) b m a ty sz e L L' v):qlk P f (y :: r) b m a ty sz e L L' v :=by
 intro B H c hc h1 h2 h3 g vs cs w hr hv hl
 refine h B H c hc h1 h2 h3 g vs cs w hr ?_ ⟨hw.lv _ hl.1,hl.2⟩
 simp only [VRels] at hv ⊢
 obtain ⟨u,us,e,h1,h2⟩ :=hv
 exact ⟨u,us,e,hw.wk _ _ _ h1,h2⟩
theorem qrk (l:List Pln):LBd 4 (lsP l) :=by
 cases l with
 |nil => trivial
 |cons x r => exact qad (qen _)
theorem qty {l:List Pln} (h:l ≠ []):lsP l ≠ none :=by rw [qgo h];exact fun z => nomatch z
theorem qwu {W J:List LkI} (hW:areW W) (hJ:areJ J) {g:Nat → List Pln} (hl:0 < J.length)
  (hg:∀ n,n < W.length → lvP W J 0 n → HP W J (nl [Int.ofNat n]) (lsP (ndP W J 0 g n)) (lsP (ndP W J 0 g n ++ g n))):HP W J .nils none (lsP (ndP W J 0 g W.length)) :=by
 have lW :=qay W
 have lJ :=qay J
 have hJ6 :=hJ.1.2
 have hW3 :=hW.1.2
 refine qdl (h :=hpP W J (qbx 129 4 none)) hE rfl (qfk W J _) rfl (kle rfl) (kle rfl) (Nat.zero_le _) (hbdP W J) trivial (qrk _) (fun h => absurd rfl h) (by repeat' (first|exact trivial|exact .inl rfl|exact .inr rfl|apply And.intro)) rfl rfl fun S q pc hS hq hC hE => ?_
 conv => whnf
 refine qaa (decide_eq_true (show (0:Int) < (J.length:Int) by omega)) ?_
 conv => whnf
 refine qbo hE hS (A :=Nat × List Pln) [2] (fun x hx => nomatch hx) [0,1,2,3,4,6,19] (fun (n,_) => [(20,nv n)]) (fun (_,T) => uhP 22 T) (fun (_,T) => uxP (0 + 1) T) (fun (n,T) => n ≤ W.length ∧ T = ndP W J 0 g n) (fun (n,_) => W.length - n) (0,[]) (kle rfl) trivial rfl (by refine ⟨rfl,rfl,rfl,rfl,rfl,rfl,4,rfl,?_,?_,?_⟩ <;> repeat' (first|exact trivial|exact rfl|exact wkr rfl|exact wko rfl|exact OWk.same _|exact OWk.loop _ _ _ _ _ _ _ (by repeat' (first|exact trivial|exact WkV.refl _|exact WkV.unk _|apply And.intro))|exact Nat.zero_le _|exact qad lW|exact qad lJ|exact kle rfl|exact bdq|exact mxI rfl|exact mxS rfl|apply And.intro)) ⟨Nat.zero_le _,rfl⟩ ?_
 rintro ⟨n,T⟩ ⟨hn,hT⟩ N hN
 have hn:n ≤ W.length :=hn
 have hT:T = ndP W J 0 g n :=hT
 by_cases hn2:n < W.length
 ·have hn1:IntKind.i64.wrap (Int.ofNat n + 1) = Int.ofNat (n + 1) :=qa5 (m :=n + 1) (by omega)
  have g1 :=qbe W n hn2
  have g2 :=qbq J 0 hl
  have iJ:inR (0:Int) J.length = true :=qaj (i :=0) hl
  have hf :=hg n hn2
  rw [← hT] at hf
  by_cases c:lvP W J 0 n
  ·have c0:decide ((gL W n).1 ≥ (gL J 0).2.1) = true :=decide_eq_true c
   have hf :=hf c
   have hT2:T ++ g n = ndP W J 0 g (n + 1) :=by rw [ndP,if_pos c,hT]
   obtain ⟨G,hG⟩ : ∃ G,G = g n :=⟨_,rfl⟩
   rw [← hG] at hf hT2
   cases T with
   |nil =>
    obtain rfl:N = 4 :=hN
    cases G with
    |nil =>
     have hf:HP W J (nl [Int.ofNat n]) none none :=hf
     conv => whnf
     try have z232:=qav hn2
     try have z233:=qaj hn2
     repeat ((first|refine qaf (nthP g1) ?_|refine qaf (nthP g2) ?_|refine qai ‹_› ?_|refine qah ‹_› ?_|refine pkT ‹_› ?_|refine qaa ‹_› ?_|refine qao ‹_› ?_|refine qap ‹_› ?_|refine pkF ‹_› ?_|refine qac ‹_› ?_|refine qae hS (by kernel_rfl) ?_);conv => whnf)
     refine qas hC ?_
     conv => whnf
     refine qam hE hS ?_
     conv => whnf
     refine qda hq true rfl ?_
     conv => whnf
     refine qas hC ?_
     conv => whnf
     refine qff hS (qee (qlg rfl rfl) hf) (by exact kle rfl) (by repeat' (first|exact trivial|exact .inl rfl|exact .inr rfl|apply And.intro)) rfl ?_
     conv => whnf
     refine qae hS (by kernel_rfl) ?_
     conv => whnf
     exact ⟨(n + 1,[]),⟨hn2,hT2⟩,by show W.length - (n + 1) < W.length - n;omega,Nat.le_refl _,(by refine ⟨rfl,rfl,rfl,rfl,rfl,rfl,4,rfl,?_,?_,?_⟩ <;> repeat' (first|exact trivial|exact rfl|exact wkr rfl|exact wko rfl|exact OWk.same _|exact OWk.loop _ _ _ _ _ _ _ (by repeat' (first|exact trivial|exact WkV.refl _|exact WkV.unk _|apply And.intro))|exact Nat.zero_le _|exact ⟨_,rfl,WkV.int hn1⟩|exact qad lW|exact qad lJ|exact bdcP (kle rfl)|exact kle rfl|exact bdq|exact mxI rfl|exact mxS rfl|apply And.intro))⟩
    |cons y r =>
     have hf:HP W J (nl [Int.ofNat n]) none (some (plE (y :: r),(y :: r).length)) :=hf
     conv => whnf
     try have z234:=qav hn2
     try have z235:=qaj hn2
     repeat ((first|refine qaf (nthP g1) ?_|refine qaf (nthP g2) ?_|refine qai ‹_› ?_|refine qah ‹_› ?_|refine pkT ‹_› ?_|refine qaa ‹_› ?_|refine qao ‹_› ?_|refine qap ‹_› ?_|refine pkF ‹_› ?_|refine qac ‹_› ?_|refine qae hS (by kernel_rfl) ?_);conv => whnf)
     refine qas hC ?_
     conv => whnf
     refine qam hE hS ?_
     conv => whnf
     refine qda hq true rfl ?_
     conv => whnf
     refine qas hC ?_
     conv => whnf
     refine qfe hS (qee (qlg rfl rfl) hf) (by exact kle rfl) (by exact kle rfl) (by repeat' (first|exact trivial|exact .inl rfl|exact .inr rfl|apply And.intro)) rfl rfl rfl ?_
     conv => whnf
     refine qae hS (by kernel_rfl) ?_
     conv => whnf
     exact ⟨(n + 1,y :: r),⟨hn2,hT2⟩,by show W.length - (n + 1) < W.length - n;omega,Nat.zero_le _,(by refine ⟨rfl,rfl,rfl,rfl,rfl,rfl,23,rfl,?_,?_,?_⟩ <;> repeat' (first|exact trivial|exact rfl|exact wkr rfl|exact wko rfl|exact OWk.same _|exact OWk.loop _ _ _ _ _ _ _ (by repeat' (first|exact trivial|exact WkV.refl _|exact WkV.unk _|apply And.intro))|exact Nat.zero_le _|exact ⟨_,rfl,WkV.int hn1⟩|exact qad lW|exact qad lJ|exact bdcP (kle rfl)|exact kle rfl|exact bdq|exact mxI rfl|exact mxS rfl|apply And.intro))⟩
   |cons x r =>
    obtain rfl:N = 23 :=hN
    have hf:HP W J (nl [Int.ofNat n]) (some (plE (x :: r),(x :: r).length)) (some (plE (x :: r ++ G),(x :: r ++ G).length)) :=hf
    conv => whnf
    try have z236:=qav hn2
    try have z237:=qaj hn2
    repeat ((first|refine qaf (nthP g1) ?_|refine qaf (nthP g2) ?_|refine qai ‹_› ?_|refine qah ‹_› ?_|refine pkT ‹_› ?_|refine qaa ‹_› ?_|refine qao ‹_› ?_|refine qap ‹_› ?_|refine pkF ‹_› ?_|refine qac ‹_› ?_|refine qae hS (by kernel_rfl) ?_);conv => whnf)
    refine qas hC ?_
    conv => whnf
    refine qam hE hS ?_
    conv => whnf
    refine qda hq true rfl ?_
    conv => whnf
    refine qas hC ?_
    conv => whnf
    refine qfd hS (qee (qlg rfl rfl) hf) 22 (by exact kle rfl) (by repeat' (first|exact trivial|exact .inl rfl|exact .inr rfl|apply And.intro)) rfl rfl rfl rfl ?_
    conv => whnf
    refine qae hS (by kernel_rfl) ?_
    conv => whnf
    exact ⟨(n + 1,x :: r ++ G),⟨hn2,hT2⟩,by show W.length - (n + 1) < W.length - n;omega,Nat.le_refl _,(by refine ⟨rfl,rfl,rfl,rfl,rfl,rfl,23,rfl,?_,?_,?_⟩ <;> repeat' (first|exact trivial|exact rfl|exact wkr rfl|exact wko rfl|exact OWk.same _|exact OWk.loop _ _ _ _ _ _ _ (by repeat' (first|exact trivial|exact WkV.refl _|exact WkV.unk _|apply And.intro))|exact Nat.zero_le _|exact ⟨_,rfl,WkV.int hn1⟩|exact qad lW|exact qad lJ|exact bdcP (kle rfl)|exact kle rfl|exact bdq|exact mxI rfl|exact mxS rfl|apply And.intro))⟩
  ·have c0:decide ((gL W n).1 ≥ (gL J 0).2.1) = false :=decide_eq_false c
   have hT2:T = ndP W J 0 g (n + 1) :=by rw [ndP,if_neg c,List.append_nil,hT]
   cases T with
   |nil =>
    obtain rfl:N = 4 :=hN
    conv => whnf
    try have z238:=qav hn2
    try have z239:=qaj hn2
    repeat ((first|refine qaf (nthP g1) ?_|refine qaf (nthP g2) ?_|refine qai ‹_› ?_|refine qah ‹_› ?_|refine pkT ‹_› ?_|refine qaa ‹_› ?_|refine qao ‹_› ?_|refine qap ‹_› ?_|refine pkF ‹_› ?_|refine qac ‹_› ?_|refine qae hS (by kernel_rfl) ?_);conv => whnf)
    exact ⟨(n + 1,[]),⟨hn2,hT2⟩,by show W.length - (n + 1) < W.length - n;omega,Nat.le_refl _,(by refine ⟨rfl,rfl,rfl,rfl,rfl,rfl,4,rfl,?_,?_,?_⟩ <;> repeat' (first|exact trivial|exact rfl|exact wkr rfl|exact wko rfl|exact OWk.same _|exact OWk.loop _ _ _ _ _ _ _ (by repeat' (first|exact trivial|exact WkV.refl _|exact WkV.unk _|apply And.intro))|exact Nat.zero_le _|exact ⟨_,rfl,WkV.int hn1⟩|exact qad lW|exact qad lJ|exact bdcP (kle rfl)|exact kle rfl|exact bdq|exact mxI rfl|exact mxS rfl|apply And.intro))⟩
   |cons x r =>
    obtain rfl:N = 23 :=hN
    conv => whnf
    try have z240:=qav hn2
    try have z241:=qaj hn2
    repeat ((first|refine qaf (nthP g1) ?_|refine qaf (nthP g2) ?_|refine qai ‹_› ?_|refine qah ‹_› ?_|refine pkT ‹_› ?_|refine qaa ‹_› ?_|refine qao ‹_› ?_|refine qap ‹_› ?_|refine pkF ‹_› ?_|refine qac ‹_› ?_|refine qae hS (by kernel_rfl) ?_);conv => whnf)
    exact ⟨(n + 1,x :: r),⟨hn2,hT2⟩,by show W.length - (n + 1) < W.length - n;omega,Nat.le_refl _,(by refine ⟨rfl,rfl,rfl,rfl,rfl,rfl,23,rfl,?_,?_,?_⟩ <;> repeat' (first|exact trivial|exact rfl|exact wkr rfl|exact wko rfl|exact OWk.same _|exact OWk.loop _ _ _ _ _ _ _ (by repeat' (first|exact trivial|exact WkV.refl _|exact WkV.unk _|apply And.intro))|exact Nat.zero_le _|exact ⟨_,rfl,WkV.int hn1⟩|exact qad lW|exact qad lJ|exact bdcP (kle rfl)|exact kle rfl|exact bdq|exact mxI rfl|exact mxS rfl|apply And.intro))⟩
 ·have en:n = W.length :=by omega
  subst en
  rw [← hT]
  cases T with
  |nil =>
   obtain rfl:N = 4 :=hN
   conv => whnf
   refine qac (qbh hn2) ?_
   conv => whnf
   refine .inl ?_
   conv => whnf
   exact ⟨_,4,rfl,WkV.refl _,Nat.le_refl _,fun h => absurd rfl h,by repeat' (first|exact trivial|exact .inl rfl|exact .inr rfl|apply And.intro),rfl,fun h => absurd rfl h⟩
  |cons x r =>
   obtain rfl:N = 23 :=hN
   conv => whnf
   refine qac (qbh hn2) ?_
   conv => whnf
   refine .inl ?_
   conv => whnf
   exact ⟨_,22,rfl,WkV.refl _,kle rfl,fun h => absurd rfl h,by repeat' (first|exact trivial|exact .inl rfl|exact .inr rfl|apply And.intro),rfl,fun _ => rfl⟩
theorem qwt {W J:List LkI} (hW:areW W) (hJ:areJ J) {now:List Int} (hne:now ≠ []) {g:Nat → List Pln} (hl:now.length < J.length)
  (hg:∀ n,n < W.length → lvP W J now.length n → HP W J (nl (now ++ [Int.ofNat n])) (lsP (ndP W J now.length g n)) (lsP (ndP W J now.length g n ++ g n))):HP W J (nl now) none (lsP (ndP W J now.length g W.length)) :=by
 have lW :=qay W
 have lJ :=qay J
 have hJ6 :=hJ.1.2
 have hW3 :=hW.1.2
 obtain ⟨x0,r0,rfl⟩ : ∃ x r,now = x :: r :=by
  cases now with
  |nil => exact absurd rfl hne
  |cons x r => exact ⟨x,r,rfl⟩
 have lN :=qat (x0 :: r0)
 have hr0:r0.length + 1 < J.length :=hl
 refine qdl (h :=hpP W J (qbx 129 4 none)) hE rfl (qfk W J _) rfl (kle rfl) (Nat.max_le.2 ⟨qad lN,kle rfl⟩) (Nat.zero_le _) (hbdP W J) trivial (qrk _) (fun h => absurd rfl h) (by repeat' (first|exact trivial|exact .inl rfl|exact .inr rfl|apply And.intro)) rfl rfl fun S q pc hS hq hC hE => ?_
 conv => whnf
 refine qaa (decide_eq_true (show (((x0 :: r0).length:Nat):Int) < (J.length:Int) by rw [List.length_cons];omega)) ?_
 conv => whnf
 refine qbo hE hS (A :=Nat × List Pln) [2] (fun x hx => nomatch hx) [0,1,2,3,4,6,19] (fun (n,_) => [(20,nv n)]) (fun (_,T) => uhP 23 T) (fun (_,T) => uxQ (0 + (r0.length + 1) + (0 + 1)) T) (fun (n,T) => n ≤ W.length ∧ T = ndP W J (x0 :: r0).length g n) (fun (n,_) => W.length - n) (0,[]) (kle rfl) trivial rfl (by refine ⟨rfl,rfl,rfl,rfl,rfl,rfl,4,rfl,?_,?_,?_⟩ <;> repeat' (first|exact trivial|exact rfl|exact wkr rfl|exact wko rfl|exact OWk.same _|exact OWk.loop _ _ _ _ _ _ _ (by repeat' (first|exact trivial|exact WkV.refl _|exact WkV.unk _|apply And.intro))|exact Nat.zero_le _|exact qad lW|exact qad lJ|exact qad lN|exact kle rfl|exact bdq|exact mxI rfl|exact mxS rfl|apply And.intro)) ⟨Nat.zero_le _,rfl⟩ ?_
 rintro ⟨n,T⟩ ⟨hn,hT⟩ N hN
 have hn:n ≤ W.length :=hn
 have hT:T = ndP W J (x0 :: r0).length g n :=hT
 by_cases hn2:n < W.length
 ·have hn1:IntKind.i64.wrap (Int.ofNat n + 1) = Int.ofNat (n + 1) :=qa5 (m :=n + 1) (by omega)
  have g1 :=qbe W n hn2
  have g2 :=qbq J (r0.length + 1) hr0
  have iJ:inR (((x0 :: r0).length:Nat):Int) J.length = true :=qaj (i :=r0.length + 1) hr0
  have hf :=hg n hn2
  rw [← hT] at hf
  by_cases c:lvP W J (x0 :: r0).length n
  ·have c0:decide ((gL W n).1 ≥ (gL J (x0 :: r0).length).2.1) = true :=decide_eq_true c
   have hf :=hf c
   have hT2:T ++ g n = ndP W J (x0 :: r0).length g (n + 1) :=by rw [ndP,if_pos c,hT]
   obtain ⟨G,hG⟩ : ∃ G,G = g n :=⟨_,rfl⟩
   rw [← hG] at hf hT2
   cases T with
   |nil =>
    obtain rfl:N = 4 :=hN
    cases G with
    |nil =>
     have hf:HP W J (nl (x0 :: r0 ++ [Int.ofNat n])) none none :=hf
     conv => whnf
     try have z242:=qav hn2
     try have z243:=qaj hn2
     repeat ((first|refine qaf (nthP g1) ?_|refine qaf (nthP g2) ?_|refine qai ‹_› ?_|refine qah ‹_› ?_|refine pkT ‹_› ?_|refine qaa ‹_› ?_|refine qao ‹_› ?_|refine qap ‹_› ?_|refine pkF ‹_› ?_|refine qac ‹_› ?_|refine qae hS (by kernel_rfl) ?_);conv => whnf)
     refine qas hC ?_
     conv => whnf
     refine qam hE hS ?_
     conv => whnf
     refine qda hq false rfl ?_
     conv => whnf
     refine qaf (qfi (e :=3) (ys :=ivs (x0 :: r0)) (m :=(x0 :: r0).length) (own :=.no) (l :=ivs (x0 :: r0)) (by kernel_rfl) rfl (qdf _)) ?_
     conv => whnf
     refine qaa (qbz (x0 :: r0)) ?_
     conv => whnf
     refine qaa (decide_eq_true (show (0 + (r0.length + 1)) * 8 ≤ 140737488355328 by omega)) ?_
     conv => whnf
     refine qaa (decide_eq_true (show 0 + (r0.length + 1) ≤ 9223372036854775807 by omega)) ?_
     conv => whnf
     refine qaa (decide_eq_true (show (0 + (r0.length + 1) + (0 + 1)) * 8 ≤ 140737488355328 by omega)) ?_
     conv => whnf
     refine qaa (decide_eq_true (show 0 + (r0.length + 1) + (0 + 1) ≤ 9223372036854775807 by omega)) ?_
     conv => whnf
     refine qaa ((show qca (ivs (x0 :: r0)) ((0 + (r0.length + 1)) * 1) = true by rw [Nat.zero_add];exact qc4 (x0 :: r0))) ?_
     conv => whnf
     refine qaa (decide_eq_true rfl) ?_
     conv => whnf
     refine qas hC ?_
     conv => whnf
     refine qff hS (qee (qlg (qgd (x0 :: r0) (Int.ofNat n)).symm (by rw [List.length_append,List.length_cons];simp)) hf) (by exact kle rfl) (by repeat' (first|exact trivial|exact .inl rfl|exact .inr rfl|apply And.intro)) rfl ?_
     conv => whnf
     refine qae hS (by kernel_rfl) ?_
     conv => whnf
     exact ⟨(n + 1,[]),⟨hn2,hT2⟩,by show W.length - (n + 1) < W.length - n;omega,Nat.le_refl _,(by refine ⟨rfl,rfl,rfl,rfl,rfl,rfl,4,rfl,?_,?_,?_⟩ <;> repeat' (first|exact trivial|exact rfl|exact wkr rfl|exact wko rfl|exact OWk.same _|exact OWk.loop _ _ _ _ _ _ _ (by repeat' (first|exact trivial|exact WkV.refl _|exact WkV.unk _|apply And.intro))|exact Nat.zero_le _|exact ⟨_,rfl,WkV.int hn1⟩|exact qad lW|exact qad lJ|exact qad lN|exact bdcP (kle rfl)|exact kle rfl|exact bdq|exact mxI rfl|exact mxS rfl|apply And.intro))⟩
    |cons y r =>
     have hf:HP W J (nl (x0 :: r0 ++ [Int.ofNat n])) none (some (plE (y :: r),(y :: r).length)) :=hf
     conv => whnf
     try have z244:=qav hn2
     try have z245:=qaj hn2
     repeat ((first|refine qaf (nthP g1) ?_|refine qaf (nthP g2) ?_|refine qai ‹_› ?_|refine qah ‹_› ?_|refine pkT ‹_› ?_|refine qaa ‹_› ?_|refine qao ‹_› ?_|refine qap ‹_› ?_|refine pkF ‹_› ?_|refine qac ‹_› ?_|refine qae hS (by kernel_rfl) ?_);conv => whnf)
     refine qas hC ?_
     conv => whnf
     refine qam hE hS ?_
     conv => whnf
     refine qda hq false rfl ?_
     conv => whnf
     refine qaf (qfi (e :=3) (ys :=ivs (x0 :: r0)) (m :=(x0 :: r0).length) (own :=.no) (l :=ivs (x0 :: r0)) (by kernel_rfl) rfl (qdf _)) ?_
     conv => whnf
     refine qaa (qbz (x0 :: r0)) ?_
     conv => whnf
     refine qaa (decide_eq_true (show (0 + (r0.length + 1)) * 8 ≤ 140737488355328 by omega)) ?_
     conv => whnf
     refine qaa (decide_eq_true (show 0 + (r0.length + 1) ≤ 9223372036854775807 by omega)) ?_
     conv => whnf
     refine qaa (decide_eq_true (show (0 + (r0.length + 1) + (0 + 1)) * 8 ≤ 140737488355328 by omega)) ?_
     conv => whnf
     refine qaa (decide_eq_true (show 0 + (r0.length + 1) + (0 + 1) ≤ 9223372036854775807 by omega)) ?_
     conv => whnf
     refine qaa ((show qca (ivs (x0 :: r0)) ((0 + (r0.length + 1)) * 1) = true by rw [Nat.zero_add];exact qc4 (x0 :: r0))) ?_
     conv => whnf
     refine qaa (decide_eq_true rfl) ?_
     conv => whnf
     refine qas hC ?_
     conv => whnf
     refine qfe hS (qee (qlg (qgd (x0 :: r0) (Int.ofNat n)).symm (by rw [List.length_append,List.length_cons];simp)) hf) (by exact kle rfl) (by exact kle rfl) (by repeat' (first|exact trivial|exact .inl rfl|exact .inr rfl|apply And.intro)) rfl rfl rfl ?_
     conv => whnf
     refine qae hS (by kernel_rfl) ?_
     conv => whnf
     exact ⟨(n + 1,y :: r),⟨hn2,hT2⟩,by show W.length - (n + 1) < W.length - n;omega,Nat.zero_le _,(by refine ⟨rfl,rfl,rfl,rfl,rfl,rfl,24,rfl,?_,?_,?_⟩ <;> repeat' (first|exact trivial|exact rfl|exact wkr rfl|exact wko rfl|exact OWk.same _|exact OWk.loop _ _ _ _ _ _ _ (by repeat' (first|exact trivial|exact WkV.refl _|exact WkV.unk _|apply And.intro))|exact Nat.zero_le _|exact ⟨_,rfl,WkV.int hn1⟩|exact qad lW|exact qad lJ|exact qad lN|exact bdcP (kle rfl)|exact kle rfl|exact bdq|exact mxI rfl|exact mxS rfl|apply And.intro))⟩
   |cons x r =>
    obtain rfl:N = 24 :=hN
    have hf:HP W J (nl (x0 :: r0 ++ [Int.ofNat n])) (some (plE (x :: r),(x :: r).length)) (some (plE (x :: r ++ G),(x :: r ++ G).length)) :=hf
    conv => whnf
    try have z246:=qav hn2
    try have z247:=qaj hn2
    repeat ((first|refine qaf (nthP g1) ?_|refine qaf (nthP g2) ?_|refine qai ‹_› ?_|refine qah ‹_› ?_|refine pkT ‹_› ?_|refine qaa ‹_› ?_|refine qao ‹_› ?_|refine qap ‹_› ?_|refine pkF ‹_› ?_|refine qac ‹_› ?_|refine qae hS (by kernel_rfl) ?_);conv => whnf)
    refine qas hC ?_
    conv => whnf
    refine qam hE hS ?_
    conv => whnf
    refine qda hq false rfl ?_
    conv => whnf
    refine qaf (qfi (e :=3) (ys :=ivs (x0 :: r0)) (m :=(x0 :: r0).length) (own :=.no) (l :=ivs (x0 :: r0)) (by kernel_rfl) rfl (qdf _)) ?_
    conv => whnf
    refine qaa (qbz (x0 :: r0)) ?_
    conv => whnf
    refine qaa (decide_eq_true (show (0 + (r0.length + 1)) * 8 ≤ 140737488355328 by omega)) ?_
    conv => whnf
    refine qaa (decide_eq_true (show 0 + (r0.length + 1) ≤ 9223372036854775807 by omega)) ?_
    conv => whnf
    refine qaa (decide_eq_true (show (0 + (r0.length + 1) + (0 + 1)) * 8 ≤ 140737488355328 by omega)) ?_
    conv => whnf
    refine qaa (decide_eq_true (show 0 + (r0.length + 1) + (0 + 1) ≤ 9223372036854775807 by omega)) ?_
    conv => whnf
    refine qaa ((show qca (ivs (x0 :: r0)) ((0 + (r0.length + 1)) * 1) = true by rw [Nat.zero_add];exact qc4 (x0 :: r0))) ?_
    conv => whnf
    refine qaa (decide_eq_true rfl) ?_
    conv => whnf
    refine qas hC ?_
    conv => whnf
    refine qfd hS (qee (qlg (qgd (x0 :: r0) (Int.ofNat n)).symm (by rw [List.length_append,List.length_cons];simp)) hf) 23 (by exact kle rfl) (by repeat' (first|exact trivial|exact .inl rfl|exact .inr rfl|apply And.intro)) rfl rfl rfl rfl ?_
    conv => whnf
    refine qae hS (by kernel_rfl) ?_
    conv => whnf
    exact ⟨(n + 1,x :: r ++ G),⟨hn2,hT2⟩,by show W.length - (n + 1) < W.length - n;omega,Nat.le_refl _,(by refine ⟨rfl,rfl,rfl,rfl,rfl,rfl,24,rfl,?_,?_,?_⟩ <;> repeat' (first|exact trivial|exact rfl|exact wkr rfl|exact wko rfl|exact OWk.same _|exact OWk.loop _ _ _ _ _ _ _ (by repeat' (first|exact trivial|exact WkV.refl _|exact WkV.unk _|apply And.intro))|exact Nat.zero_le _|exact ⟨_,rfl,WkV.int hn1⟩|exact qad lW|exact qad lJ|exact qad lN|exact bdcP (kle rfl)|exact kle rfl|exact bdq|exact mxI rfl|exact mxS rfl|apply And.intro))⟩
  ·have c0:decide ((gL W n).1 ≥ (gL J (x0 :: r0).length).2.1) = false :=decide_eq_false c
   have hT2:T = ndP W J (x0 :: r0).length g (n + 1) :=by rw [ndP,if_neg c,List.append_nil,hT]
   cases T with
   |nil =>
    obtain rfl:N = 4 :=hN
    conv => whnf
    try have z248:=qav hn2
    try have z249:=qaj hn2
    repeat ((first|refine qaf (nthP g1) ?_|refine qaf (nthP g2) ?_|refine qai ‹_› ?_|refine qah ‹_› ?_|refine pkT ‹_› ?_|refine qaa ‹_› ?_|refine qao ‹_› ?_|refine qap ‹_› ?_|refine pkF ‹_› ?_|refine qac ‹_› ?_|refine qae hS (by kernel_rfl) ?_);conv => whnf)
    exact ⟨(n + 1,[]),⟨hn2,hT2⟩,by show W.length - (n + 1) < W.length - n;omega,Nat.le_refl _,(by refine ⟨rfl,rfl,rfl,rfl,rfl,rfl,4,rfl,?_,?_,?_⟩ <;> repeat' (first|exact trivial|exact rfl|exact wkr rfl|exact wko rfl|exact OWk.same _|exact OWk.loop _ _ _ _ _ _ _ (by repeat' (first|exact trivial|exact WkV.refl _|exact WkV.unk _|apply And.intro))|exact Nat.zero_le _|exact ⟨_,rfl,WkV.int hn1⟩|exact qad lW|exact qad lJ|exact qad lN|exact bdcP (kle rfl)|exact kle rfl|exact bdq|exact mxI rfl|exact mxS rfl|apply And.intro))⟩
   |cons x r =>
    obtain rfl:N = 24 :=hN
    conv => whnf
    try have z250:=qav hn2
    try have z251:=qaj hn2
    repeat ((first|refine qaf (nthP g1) ?_|refine qaf (nthP g2) ?_|refine qai ‹_› ?_|refine qah ‹_› ?_|refine pkT ‹_› ?_|refine qaa ‹_› ?_|refine qao ‹_› ?_|refine qap ‹_› ?_|refine pkF ‹_› ?_|refine qac ‹_› ?_|refine qae hS (by kernel_rfl) ?_);conv => whnf)
    exact ⟨(n + 1,x :: r),⟨hn2,hT2⟩,by show W.length - (n + 1) < W.length - n;omega,Nat.le_refl _,(by refine ⟨rfl,rfl,rfl,rfl,rfl,rfl,24,rfl,?_,?_,?_⟩ <;> repeat' (first|exact trivial|exact rfl|exact wkr rfl|exact wko rfl|exact OWk.same _|exact OWk.loop _ _ _ _ _ _ _ (by repeat' (first|exact trivial|exact WkV.refl _|exact WkV.unk _|apply And.intro))|exact Nat.zero_le _|exact ⟨_,rfl,WkV.int hn1⟩|exact qad lW|exact qad lJ|exact qad lN|exact bdcP (kle rfl)|exact kle rfl|exact bdq|exact mxI rfl|exact mxS rfl|apply And.intro))⟩
 ·have en:n = W.length :=by omega
  subst en
  rw [← hT]
  cases T with
  |nil =>
   obtain rfl:N = 4 :=hN
   conv => whnf
   refine qac (qbh hn2) ?_
   conv => whnf
   refine .inl ?_
   conv => whnf
   exact ⟨_,4,rfl,WkV.refl _,Nat.le_refl _,fun h => absurd rfl h,by repeat' (first|exact trivial|exact .inl rfl|exact .inr rfl|apply And.intro),rfl,fun h => absurd rfl h⟩
  |cons x r =>
   obtain rfl:N = 24 :=hN
   conv => whnf
   refine qac (qbh hn2) ?_
   conv => whnf
   refine .inl ?_
   conv => whnf
   exact ⟨_,23,rfl,WkV.refl _,kle rfl,fun h => absurd rfl h,by repeat' (first|exact trivial|exact .inl rfl|exact .inr rfl|apply And.intro),rfl,fun _ => rfl⟩
theorem qws {W J:List LkI} (hW:areW W) (hJ:areJ J) {now:List Int} (hne:now ≠ []) {LS:List Pln} (hLS:LS ≠ []) {g:Nat → List Pln} (hl:now.length < J.length)
  (hg:∀ n,n < W.length → lvP W J now.length n → HP W J (nl (now ++ [Int.ofNat n])) (lsP (LS ++ ndP W J now.length g n)) (lsP (LS ++ ndP W J now.length g n ++ g n))):HP W J (nl now) (lsP LS) (lsP (LS ++ ndP W J now.length g W.length)) :=by
 have lW :=qay W
 have lJ :=qay J
 have hJ6 :=hJ.1.2
 have hW3 :=hW.1.2
 obtain ⟨x0,r0,rfl⟩ : ∃ x r,now = x :: r :=by
  cases now with
  |nil => exact absurd rfl hne
  |cons x r => exact ⟨x,r,rfl⟩
 have lN :=qat (x0 :: r0)
 have hr0:r0.length + 1 < J.length :=hl
 have lS :=qen LS
 rw [qgo hLS]
 refine qdl (n :=5) (h :=appT [.chain LS.length 2 126] 4 (hpP W J (qbx 129 4 (some (plE LS,LS.length))))) hE rfl (show HEnd _ 5 from qc1 [_] 4 _ (qfk W J _)) rfl (kle rfl) (Nat.max_le.2 ⟨qad lN,kle rfl⟩) (Nat.zero_le _) (hbdP W J) (qad lS) (qrk _) (fun _ h => qty (fun z => hLS (List.append_eq_nil_iff.1 z).1) h) (by repeat' (first|exact trivial|exact .inl rfl|exact .inr rfl|apply And.intro)) rfl rfl fun S q pc hS hq hC hE => ?_
 conv => whnf
 refine qaa (decide_eq_true (show (((x0 :: r0).length:Nat):Int) < (J.length:Int) by rw [List.length_cons];omega)) ?_
 conv => whnf
 refine qbo hE hS (A :=Nat × List Pln) [2,4] (fun x hx => nomatch hx) [0,1,2,3,4,6,19] (fun (n,_) => [(20,nv n)]) (fun (_,T) => [(2,qbx 129 4 (some (plE T,T.length))),(4,.chain T.length 2 126)]) (fun _ => []) (fun (n,T) => n ≤ W.length ∧ T = LS ++ ndP W J (x0 :: r0).length g n) (fun (n,_) => W.length - n) (0,LS) (kle rfl) trivial rfl (by refine ⟨rfl,rfl,rfl,rfl,rfl,rfl,5,rfl,?_,?_,?_⟩ <;> repeat' (first|exact trivial|exact rfl|exact wkr rfl|exact wko rfl|exact OWk.same _|exact OWk.loop _ _ _ _ _ _ _ (by repeat' (first|exact trivial|exact WkV.refl _|exact WkV.unk _|apply And.intro))|exact Nat.zero_le _|exact qad lW|exact qad lJ|exact qad lN|exact bdcP (kle rfl)|exact kle rfl|exact bdq|exact mxI rfl|exact mxS rfl|apply And.intro)) ⟨Nat.zero_le _,(List.append_nil _).symm⟩ ?_
 rintro ⟨n,T⟩ ⟨hn,hT⟩ N hN
 have hn:n ≤ W.length :=hn
 have hT:T = LS ++ ndP W J (x0 :: r0).length g n :=hT
 by_cases hn2:n < W.length
 ·have hn1:IntKind.i64.wrap (Int.ofNat n + 1) = Int.ofNat (n + 1) :=qa5 (m :=n + 1) (by omega)
  have g1 :=qbe W n hn2
  have g2 :=qbq J (r0.length + 1) hr0
  have iJ:inR (((x0 :: r0).length:Nat):Int) J.length = true :=qaj (i :=r0.length + 1) hr0
  have hf :=hg n hn2
  rw [← hT] at hf
  by_cases c:lvP W J (x0 :: r0).length n
  ·have c0:decide ((gL W n).1 ≥ (gL J (x0 :: r0).length).2.1) = true :=decide_eq_true c
   have hf :=hf c
   have hT2:T ++ g n = LS ++ ndP W J (x0 :: r0).length g (n + 1) :=by rw [ndP,if_pos c,hT,List.append_assoc]
   obtain ⟨G,hG⟩ : ∃ G,G = g n :=⟨_,rfl⟩
   rw [← hG] at hf hT2
   rw [qgo (show T ≠ [] by rw [hT];exact fun z => hLS (List.append_eq_nil_iff.1 z).1),qgo (show T ++ G ≠ [] by rw [hT];exact fun z => hLS (List.append_eq_nil_iff.1 (List.append_eq_nil_iff.1 z).1).1)] at hf
   obtain rfl:N = 5 :=hN
   conv => whnf
   try have z252:=qav hn2
   try have z253:=qaj hn2
   repeat ((first|refine qaf (nthP g1) ?_|refine qaf (nthP g2) ?_|refine qai ‹_› ?_|refine qah ‹_› ?_|refine pkT ‹_› ?_|refine qaa ‹_› ?_|refine qao ‹_› ?_|refine qap ‹_› ?_|refine pkF ‹_› ?_|refine qac ‹_› ?_|refine qae hS (by kernel_rfl) ?_);conv => whnf)
   refine qas hC ?_
   conv => whnf
   refine qam hE hS ?_
   conv => whnf
   refine qda hq false rfl ?_
   conv => whnf
   refine qaf (qfi (e :=3) (ys :=ivs (x0 :: r0)) (m :=(x0 :: r0).length) (own :=.no) (l :=ivs (x0 :: r0)) (by kernel_rfl) rfl (qdf _)) ?_
   conv => whnf
   refine qaa (qbz (x0 :: r0)) ?_
   conv => whnf
   refine qaa (decide_eq_true (show (0 + (r0.length + 1)) * 8 ≤ 140737488355328 by omega)) ?_
   conv => whnf
   refine qaa (decide_eq_true (show 0 + (r0.length + 1) ≤ 9223372036854775807 by omega)) ?_
   conv => whnf
   refine qaa (decide_eq_true (show (0 + (r0.length + 1) + (0 + 1)) * 8 ≤ 140737488355328 by omega)) ?_
   conv => whnf
   refine qaa (decide_eq_true (show 0 + (r0.length + 1) + (0 + 1) ≤ 9223372036854775807 by omega)) ?_
   conv => whnf
   refine qaa ((show qca (ivs (x0 :: r0)) ((0 + (r0.length + 1)) * 1) = true by rw [Nat.zero_add];exact qc4 (x0 :: r0))) ?_
   conv => whnf
   refine qaa (decide_eq_true rfl) ?_
   conv => whnf
   refine qas hC ?_
   conv => whnf
   refine qfd hS (qee (qlg (qgd (x0 :: r0) (Int.ofNat n)).symm (by rw [List.length_append,List.length_cons];simp)) hf) 4 (by exact kle rfl) (by repeat' (first|exact trivial|exact .inl rfl|exact .inr rfl|apply And.intro)) rfl rfl rfl rfl ?_
   conv => whnf
   refine qae hS (by kernel_rfl) ?_
   conv => whnf
   exact ⟨(n + 1,T ++ G),⟨hn2,hT2⟩,by show W.length - (n + 1) < W.length - n;omega,Nat.le_refl _,(by refine ⟨rfl,rfl,rfl,rfl,rfl,rfl,5,rfl,?_,?_,?_⟩ <;> repeat' (first|exact trivial|exact rfl|exact wkr rfl|exact wko rfl|exact OWk.same _|exact OWk.loop _ _ _ _ _ _ _ (by repeat' (first|exact trivial|exact WkV.refl _|exact WkV.unk _|apply And.intro))|exact Nat.zero_le _|exact ⟨_,rfl,WkV.int hn1⟩|exact qad lW|exact qad lJ|exact qad lN|exact bdcP (kle rfl)|exact kle rfl|exact bdq|exact mxI rfl|exact mxS rfl|apply And.intro))⟩
  ·have c0:decide ((gL W n).1 ≥ (gL J (x0 :: r0).length).2.1) = false :=decide_eq_false c
   have hT2:T = LS ++ ndP W J (x0 :: r0).length g (n + 1) :=by rw [ndP,if_neg c,List.append_nil,hT]
   obtain rfl:N = 5 :=hN
   conv => whnf
   try have z254:=qav hn2
   try have z255:=qaj hn2
   repeat ((first|refine qaf (nthP g1) ?_|refine qaf (nthP g2) ?_|refine qai ‹_› ?_|refine qah ‹_› ?_|refine pkT ‹_› ?_|refine qaa ‹_› ?_|refine qao ‹_› ?_|refine qap ‹_› ?_|refine pkF ‹_› ?_|refine qac ‹_› ?_|refine qae hS (by kernel_rfl) ?_);conv => whnf)
   exact ⟨(n + 1,T),⟨hn2,hT2⟩,by show W.length - (n + 1) < W.length - n;omega,Nat.le_refl _,(by refine ⟨rfl,rfl,rfl,rfl,rfl,rfl,5,rfl,?_,?_,?_⟩ <;> repeat' (first|exact trivial|exact rfl|exact wkr rfl|exact wko rfl|exact OWk.same _|exact OWk.loop _ _ _ _ _ _ _ (by repeat' (first|exact trivial|exact WkV.refl _|exact WkV.unk _|apply And.intro))|exact Nat.zero_le _|exact ⟨_,rfl,WkV.int hn1⟩|exact qad lW|exact qad lJ|exact qad lN|exact bdcP (kle rfl)|exact kle rfl|exact bdq|exact mxI rfl|exact mxS rfl|apply And.intro))⟩
 ·have en:n = W.length :=by omega
  subst en
  obtain rfl:N = 5 :=hN
  rw [← hT,qgo (show T ≠ [] by rw [hT];exact fun z => hLS (List.append_eq_nil_iff.1 z).1)]
  conv => whnf
  refine qac (qbh hn2) ?_
  conv => whnf
  refine .inl ?_
  conv => whnf
  exact ⟨_,4,rfl,WkV.refl _,Nat.le_refl _,fun _ => rfl,by repeat' (first|exact trivial|exact .inl rfl|exact .inr rfl|apply And.intro),rfl,fun _ => rfl⟩
end
end Go.Abs.Seat
