/-
  The search for plans: its nodes.
-/
import Derived.Test.YtlmadgdonalncaaGreatDoorU14
namespace Go.Abs.Seat
noncomputable section
open Go Go.Abs Go.Proofs.Tryz
set_option maxRecDepth 100000
set_option maxHeartbeats 40000000
attribute [local irreducible] IntKind.wrap pEq
def lvP (W J:List LkI) (i n:Nat):Prop :=(gL J i).2.1 ≤ (gL W n).1
instance (W J:List LkI) (i n:Nat):Decidable (lvP W J i n) :=inferInstanceAs (Decidable (_ ≤ _))
def ndP (W J:List LkI) (i:Nat) (g:Nat → List Pln):Nat → List Pln
 | 0 => []
 |k + 1 => ndP W J i g k ++ if lvP W J i k then g k else []
def uxP (q:Nat):List Pln → List AObj
 | [] => []
 |x :: r => .hole :: .hole :: .hole :: .hole :: .hole :: .hole :: .hole :: .hole :: .hole :: .hole :: .hole :: .hole :: .hole :: .hole :: .hole :: .hole :: .chain q 1 3 :: .hole :: [.chain (x :: r).length 2 126]
def uxQ (q:Nat):List Pln → List AObj
 | [] => []
 |x :: r => .hole :: .hole :: .hole :: .hole :: .hole :: .hole :: .hole :: .hole :: .hole :: .hole :: .hole :: .hole :: .hole :: .hole :: .hole :: .hole :: .hole :: .hole :: .chain q 1 3 :: [.chain (x :: r).length 2 126]
def uhP (c:Nat) (T:List Pln):List (Nat × AObj) :=[(2,qbs 129 c (lsP T))]
theorem qno {xs:List AV} {k c:Nat} {l:List Int} (e:xs = ivs l) (ek:k = l.length):WkV (.lst xs k (.ch c)) (nl l) :=by
 subst e ek
 exact WkV.own _ _ _
theorem qed {P:Program} {f:FuncId} {y x:AV} {r:List AV} {b:Nat → AObj} {m a:Nat} {ty:TypeId} {sz:Nat} {e:TypeId} {L L':qdo} {v:AV} (hw:WkV y x) (h:ql2 P f (x :: r) b m a ty sz e L L' v):ql2 P f (y :: r) b m a ty sz e L L' v :=by
 intro B H c hc h1 h2 h3 g vs cs w hr hv hl
 refine h B H c hc h1 h2 h3 g vs cs w hr ?_ ⟨hw.lv _ hl.1,hl.2⟩
 simp only [VRels] at hv ⊢
 obtain ⟨u,us,e,h1,h2⟩ :=hv
 exact ⟨u,us,e,hw.wk _ _ _ h1,h2⟩
theorem qsm (l:List Pln):LBd 4 (lsP l) :=by
 cases l with
 |nil => trivial
 |cons x r => exact qae (qep _)
theorem qu4 {l:List Pln} (h:l ≠ []):lsP l ≠ none :=by rw [qgy h];exact fun z => nomatch z
theorem qxz {W J:List LkI} (hW:areW W) (hJ:areJ J) {g:Nat → List Pln} (hl:0 < J.length)
  (hg:∀ n,n < W.length → lvP W J 0 n → HP W J (nl [Int.ofNat n]) (lsP (ndP W J 0 g n)) (lsP (ndP W J 0 g n ++ g n))):HP W J .nils none (lsP (ndP W J 0 g W.length)) :=by
 have lW :=qau W
 have lJ :=qau J
 have hJ6 :=hJ.1.2
 have hW3 :=hW.1.2
 refine qdk (h :=hpP W J (qbs 129 4 none)) hE rfl (qfm W J _) rfl (kle rfl) (kle rfl) (Nat.zero_le _) (hbdP W J) trivial (qsm _) (fun h => absurd rfl h) (by repeat' (first|exact trivial|exact .inl rfl|exact .inr rfl|apply And.intro)) rfl rfl fun S q pc hS hq hC hE => ?_
 conv => whnf
 refine qaa (decide_eq_true (show (0:Int) < (J.length:Int) by omega)) ?_
 conv => whnf
 refine qbj hE hS (A :=Nat × List Pln) [2] (fun x hx => nomatch hx) [0,1,2,3,4,6,19] (fun (n,_) => [(20,nv n)]) (fun (_,T) => uhP 22 T) (fun (_,T) => uxP (0 + 1) T) (fun (n,T) => n ≤ W.length ∧ T = ndP W J 0 g n) (fun (n,_) => W.length - n) (0,[]) (kle rfl) trivial rfl (zhy 4) ⟨Nat.zero_le _,rfl⟩ ?_
 rintro ⟨n,T⟩ ⟨hn,hT⟩ N hN
 have hn:n ≤ W.length :=hn
 have hT:T = ndP W J 0 g n :=hT
 by_cases hn2:n < W.length
 ·have hn1:IntKind.i64.wrap (Int.ofNat n + 1) = Int.ofNat (n + 1) :=qa7 (m :=n + 1) (by omega)
  have g1 :=qbf W n hn2
  have g2 :=qb9 J 0 hl
  have iJ:inR (0:Int) J.length = true :=qav (i :=0) hl
  have hf :=hg n hn2
  rw [← hT] at hf
  by_cases c:lvP W J 0 n
  ·have c0:decide ((gL W n).1 ≥ (gL J 0).2.1) = true :=decide_eq_true c
   have hf :=hf c
   have hT2:T ++ g n = ndP W J 0 g (n + 1) :=by rw [ndP,if_pos c,hT]
   obtain ⟨G,hG⟩ : ∃ G,G = g n :=⟨_,rfl⟩
   rw [← hG] at hf hT2
   cases T with
   |nil =>
    obtain rfl:N = 4 :=hN
    cases G with
    |nil =>
     have hf:HP W J (nl [Int.ofNat n]) none none :=hf
     conv => whnf
     try have z80:=qa3 hn2
     try have z81:=qav hn2
     repeat ((first|refine qaf (nthP g1) ?_|refine qaf (nthP g2) ?_|refine qai ‹_› ?_|refine qah ‹_› ?_|refine pkT ‹_› ?_|refine qaa ‹_› ?_|refine qao ‹_› ?_|refine qap ‹_› ?_|refine pkF ‹_› ?_|refine qac ‹_› ?_|refine qad hS (by kernel_rfl) ?_);conv => whnf)
     refine qar hC ?_
     conv => whnf
     refine qan hE hS ?_
     conv => whnf
     refine qb8 hq true rfl ?_
     conv => whnf
     refine qar hC ?_
     conv => whnf
     refine qfh hS (qed (qno rfl rfl) hf) (by exact kle rfl) (by repeat' (first|exact trivial|exact .inl rfl|exact .inr rfl|apply And.intro)) rfl ?_
     conv => whnf
     refine qad hS (by kernel_rfl) ?_
     conv => whnf
     exact ⟨(n + 1,[]),⟨hn2,hT2⟩,by show W.length - (n + 1) < W.length - n;omega,Nat.le_refl _,(zhy 4)⟩
    |cons y r =>
     have hf:HP W J (nl [Int.ofNat n]) none (some (plE (y :: r),(y :: r).length)) :=hf
     conv => whnf
     try have z82:=qa3 hn2
     try have z83:=qav hn2
     repeat ((first|refine qaf (nthP g1) ?_|refine qaf (nthP g2) ?_|refine qai ‹_› ?_|refine qah ‹_› ?_|refine pkT ‹_› ?_|refine qaa ‹_› ?_|refine qao ‹_› ?_|refine qap ‹_› ?_|refine pkF ‹_› ?_|refine qac ‹_› ?_|refine qad hS (by kernel_rfl) ?_);conv => whnf)
     refine qar hC ?_
     conv => whnf
     refine qan hE hS ?_
     conv => whnf
     refine qb8 hq true rfl ?_
     conv => whnf
     refine qar hC ?_
     conv => whnf
     refine qfg hS (qed (qno rfl rfl) hf) (by exact kle rfl) (by exact kle rfl) (by repeat' (first|exact trivial|exact .inl rfl|exact .inr rfl|apply And.intro)) rfl rfl rfl ?_
     conv => whnf
     refine qad hS (by kernel_rfl) ?_
     conv => whnf
     exact ⟨(n + 1,y :: r),⟨hn2,hT2⟩,by show W.length - (n + 1) < W.length - n;omega,Nat.zero_le _,(zhy 23)⟩
   |cons x r =>
    obtain rfl:N = 23 :=hN
    have hf:HP W J (nl [Int.ofNat n]) (some (plE (x :: r),(x :: r).length)) (some (plE (x :: r ++ G),(x :: r ++ G).length)) :=hf
    conv => whnf
    try have z84:=qa3 hn2
    try have z85:=qav hn2
    repeat ((first|refine qaf (nthP g1) ?_|refine qaf (nthP g2) ?_|refine qai ‹_› ?_|refine qah ‹_› ?_|refine pkT ‹_› ?_|refine qaa ‹_› ?_|refine qao ‹_› ?_|refine qap ‹_› ?_|refine pkF ‹_› ?_|refine qac ‹_› ?_|refine qad hS (by kernel_rfl) ?_);conv => whnf)
    refine qar hC ?_
    conv => whnf
    refine qan hE hS ?_
    conv => whnf
    refine qb8 hq true rfl ?_
    conv => whnf
    refine qar hC ?_
    conv => whnf
    refine qff hS (qed (qno rfl rfl) hf) 22 (by exact kle rfl) (by repeat' (first|exact trivial|exact .inl rfl|exact .inr rfl|apply And.intro)) rfl rfl rfl rfl ?_
    conv => whnf
    refine qad hS (by kernel_rfl) ?_
    conv => whnf
    exact ⟨(n + 1,x :: r ++ G),⟨hn2,hT2⟩,by show W.length - (n + 1) < W.length - n;omega,Nat.le_refl _,(zhy 23)⟩
  ·have c0:decide ((gL W n).1 ≥ (gL J 0).2.1) = false :=decide_eq_false c
   have hT2:T = ndP W J 0 g (n + 1) :=by rw [ndP,if_neg c,List.append_nil,hT]
   cases T with
   |nil =>
    obtain rfl:N = 4 :=hN
    conv => whnf
    try have z86:=qa3 hn2
    try have z87:=qav hn2
    repeat ((first|refine qaf (nthP g1) ?_|refine qaf (nthP g2) ?_|refine qai ‹_› ?_|refine qah ‹_› ?_|refine pkT ‹_› ?_|refine qaa ‹_› ?_|refine qao ‹_› ?_|refine qap ‹_› ?_|refine pkF ‹_› ?_|refine qac ‹_› ?_|refine qad hS (by kernel_rfl) ?_);conv => whnf)
    exact ⟨(n + 1,[]),⟨hn2,hT2⟩,by show W.length - (n + 1) < W.length - n;omega,Nat.le_refl _,(zhy 4)⟩
   |cons x r =>
    obtain rfl:N = 23 :=hN
    conv => whnf
    try have z88:=qa3 hn2
    try have z89:=qav hn2
    repeat ((first|refine qaf (nthP g1) ?_|refine qaf (nthP g2) ?_|refine qai ‹_› ?_|refine qah ‹_› ?_|refine pkT ‹_› ?_|refine qaa ‹_› ?_|refine qao ‹_› ?_|refine qap ‹_› ?_|refine pkF ‹_› ?_|refine qac ‹_› ?_|refine qad hS (by kernel_rfl) ?_);conv => whnf)
    exact ⟨(n + 1,x :: r),⟨hn2,hT2⟩,by show W.length - (n + 1) < W.length - n;omega,Nat.le_refl _,(zhy 23)⟩
 ·have en:n = W.length :=by omega
  subst en
  rw [← hT]
  cases T with
  |nil =>
   obtain rfl:N = 4 :=hN
   conv => whnf
   refine qac (qbn hn2) ?_
   conv => whnf
   refine .inl ?_
   conv => whnf
   exact ⟨_,4,rfl,WkV.refl _,Nat.le_refl _,fun h => absurd rfl h,by repeat' (first|exact trivial|exact .inl rfl|exact .inr rfl|apply And.intro),rfl,fun h => absurd rfl h⟩
  |cons x r =>
   obtain rfl:N = 23 :=hN
   conv => whnf
   refine qac (qbn hn2) ?_
   conv => whnf
   refine .inl ?_
   conv => whnf
   exact ⟨_,22,rfl,WkV.refl _,kle rfl,fun h => absurd rfl h,by repeat' (first|exact trivial|exact .inl rfl|exact .inr rfl|apply And.intro),rfl,fun _ => rfl⟩
theorem qxy {W J:List LkI} (hW:areW W) (hJ:areJ J) {now:List Int} (hne:now ≠ []) {g:Nat → List Pln} (hl:now.length < J.length)
  (hg:∀ n,n < W.length → lvP W J now.length n → HP W J (nl (now ++ [Int.ofNat n])) (lsP (ndP W J now.length g n)) (lsP (ndP W J now.length g n ++ g n))):HP W J (nl now) none (lsP (ndP W J now.length g W.length)) :=by
 have lW :=qau W
 have lJ :=qau J
 have hJ6 :=hJ.1.2
 have hW3 :=hW.1.2
 obtain ⟨x0,r0,rfl⟩ : ∃ x r,now = x :: r :=by
  cases now with
  |nil => exact absurd rfl hne
  |cons x r => exact ⟨x,r,rfl⟩
 have lN :=qal (x0 :: r0)
 have hr0:r0.length + 1 < J.length :=hl
 refine qdk (h :=hpP W J (qbs 129 4 none)) hE rfl (qfm W J _) rfl (kle rfl) (Nat.max_le.2 ⟨qae lN,kle rfl⟩) (Nat.zero_le _) (hbdP W J) trivial (qsm _) (fun h => absurd rfl h) (by repeat' (first|exact trivial|exact .inl rfl|exact .inr rfl|apply And.intro)) rfl rfl fun S q pc hS hq hC hE => ?_
 conv => whnf
 refine qaa (decide_eq_true (show (((x0 :: r0).length:Nat):Int) < (J.length:Int) by rw [List.length_cons];omega)) ?_
 conv => whnf
 refine qbj hE hS (A :=Nat × List Pln) [2] (fun x hx => nomatch hx) [0,1,2,3,4,6,19] (fun (n,_) => [(20,nv n)]) (fun (_,T) => uhP 23 T) (fun (_,T) => uxQ (0 + (r0.length + 1) + (0 + 1)) T) (fun (n,T) => n ≤ W.length ∧ T = ndP W J (x0 :: r0).length g n) (fun (n,_) => W.length - n) (0,[]) (kle rfl) trivial rfl (zhy 4) ⟨Nat.zero_le _,rfl⟩ ?_
 rintro ⟨n,T⟩ ⟨hn,hT⟩ N hN
 have hn:n ≤ W.length :=hn
 have hT:T = ndP W J (x0 :: r0).length g n :=hT
 by_cases hn2:n < W.length
 ·have hn1:IntKind.i64.wrap (Int.ofNat n + 1) = Int.ofNat (n + 1) :=qa7 (m :=n + 1) (by omega)
  have g1 :=qbf W n hn2
  have g2 :=qb9 J (r0.length + 1) hr0
  have iJ:inR (((x0 :: r0).length:Nat):Int) J.length = true :=qav (i :=r0.length + 1) hr0
  have hf :=hg n hn2
  rw [← hT] at hf
  by_cases c:lvP W J (x0 :: r0).length n
  ·have c0:decide ((gL W n).1 ≥ (gL J (x0 :: r0).length).2.1) = true :=decide_eq_true c
   have hf :=hf c
   have hT2:T ++ g n = ndP W J (x0 :: r0).length g (n + 1) :=by rw [ndP,if_pos c,hT]
   obtain ⟨G,hG⟩ : ∃ G,G = g n :=⟨_,rfl⟩
   rw [← hG] at hf hT2
   cases T with
   |nil =>
    obtain rfl:N = 4 :=hN
    cases G with
    |nil =>
     have hf:HP W J (nl (x0 :: r0 ++ [Int.ofNat n])) none none :=hf
     conv => whnf
     try have z90:=qa3 hn2
     try have z91:=qav hn2
     repeat ((first|refine qaf (nthP g1) ?_|refine qaf (nthP g2) ?_|refine qai ‹_› ?_|refine qah ‹_› ?_|refine pkT ‹_› ?_|refine qaa ‹_› ?_|refine qao ‹_› ?_|refine qap ‹_› ?_|refine pkF ‹_› ?_|refine qac ‹_› ?_|refine qad hS (by kernel_rfl) ?_);conv => whnf)
     refine qar hC ?_
     conv => whnf
     refine qan hE hS ?_
     conv => whnf
     refine qb8 hq false rfl ?_
     conv => whnf
     refine qaf (qd9 (e :=3) (ys :=ivs (x0 :: r0)) (m :=(x0 :: r0).length) (own :=.no) (l :=ivs (x0 :: r0)) (by kernel_rfl) rfl (qen _)) ?_
     conv => whnf
     refine qaa (qco (x0 :: r0)) ?_
     conv => whnf
     refine qaa (decide_eq_true (show (0 + (r0.length + 1)) * 8 ≤ 140737488355328 by omega)) ?_
     conv => whnf
     refine qaa (decide_eq_true (show 0 + (r0.length + 1) ≤ 9223372036854775807 by omega)) ?_
     conv => whnf
     refine qaa (decide_eq_true (show (0 + (r0.length + 1) + (0 + 1)) * 8 ≤ 140737488355328 by omega)) ?_
     conv => whnf
     refine qaa (decide_eq_true (show 0 + (r0.length + 1) + (0 + 1) ≤ 9223372036854775807 by omega)) ?_
     conv => whnf
     refine qaa ((show qcf (ivs (x0 :: r0)) ((0 + (r0.length + 1)) * 1) = true by rw [Nat.zero_add];exact qet (x0 :: r0))) ?_
     conv => whnf
     refine qaa (decide_eq_true rfl) ?_
     conv => whnf
     refine qar hC ?_
     conv => whnf
     refine qfh hS (qed (qno (qki (x0 :: r0) (Int.ofNat n)).symm (by rw [List.length_append,List.length_cons];simp)) hf) (by exact kle rfl) (by repeat' (first|exact trivial|exact .inl rfl|exact .inr rfl|apply And.intro)) rfl ?_
     conv => whnf
     refine qad hS (by kernel_rfl) ?_
     conv => whnf
     exact ⟨(n + 1,[]),⟨hn2,hT2⟩,by show W.length - (n + 1) < W.length - n;omega,Nat.le_refl _,(zhy 4)⟩
    |cons y r =>
     have hf:HP W J (nl (x0 :: r0 ++ [Int.ofNat n])) none (some (plE (y :: r),(y :: r).length)) :=hf
     conv => whnf
     try have z92:=qa3 hn2
     try have z93:=qav hn2
     repeat ((first|refine qaf (nthP g1) ?_|refine qaf (nthP g2) ?_|refine qai ‹_› ?_|refine qah ‹_› ?_|refine pkT ‹_› ?_|refine qaa ‹_› ?_|refine qao ‹_› ?_|refine qap ‹_› ?_|refine pkF ‹_› ?_|refine qac ‹_› ?_|refine qad hS (by kernel_rfl) ?_);conv => whnf)
     refine qar hC ?_
     conv => whnf
     refine qan hE hS ?_
     conv => whnf
     refine qb8 hq false rfl ?_
     conv => whnf
     refine qaf (qd9 (e :=3) (ys :=ivs (x0 :: r0)) (m :=(x0 :: r0).length) (own :=.no) (l :=ivs (x0 :: r0)) (by kernel_rfl) rfl (qen _)) ?_
     conv => whnf
     refine qaa (qco (x0 :: r0)) ?_
     conv => whnf
     refine qaa (decide_eq_true (show (0 + (r0.length + 1)) * 8 ≤ 140737488355328 by omega)) ?_
     conv => whnf
     refine qaa (decide_eq_true (show 0 + (r0.length + 1) ≤ 9223372036854775807 by omega)) ?_
     conv => whnf
     refine qaa (decide_eq_true (show (0 + (r0.length + 1) + (0 + 1)) * 8 ≤ 140737488355328 by omega)) ?_
     conv => whnf
     refine qaa (decide_eq_true (show 0 + (r0.length + 1) + (0 + 1) ≤ 9223372036854775807 by omega)) ?_
     conv => whnf
     refine qaa ((show qcf (ivs (x0 :: r0)) ((0 + (r0.length + 1)) * 1) = true by rw [Nat.zero_add];exact qet (x0 :: r0))) ?_
     conv => whnf
     refine qaa (decide_eq_true rfl) ?_
     conv => whnf
     refine qar hC ?_
     conv => whnf
     refine qfg hS (qed (qno (qki (x0 :: r0) (Int.ofNat n)).symm (by rw [List.length_append,List.length_cons];simp)) hf) (by exact kle rfl) (by exact kle rfl) (by repeat' (first|exact trivial|exact .inl rfl|exact .inr rfl|apply And.intro)) rfl rfl rfl ?_
     conv => whnf
     refine qad hS (by kernel_rfl) ?_
     conv => whnf
     exact ⟨(n + 1,y :: r),⟨hn2,hT2⟩,by show W.length - (n + 1) < W.length - n;omega,Nat.zero_le _,(zhy 24)⟩
   |cons x r =>
    obtain rfl:N = 24 :=hN
    have hf:HP W J (nl (x0 :: r0 ++ [Int.ofNat n])) (some (plE (x :: r),(x :: r).length)) (some (plE (x :: r ++ G),(x :: r ++ G).length)) :=hf
    conv => whnf
    try have z94:=qa3 hn2
    try have z95:=qav hn2
    repeat ((first|refine qaf (nthP g1) ?_|refine qaf (nthP g2) ?_|refine qai ‹_› ?_|refine qah ‹_› ?_|refine pkT ‹_› ?_|refine qaa ‹_› ?_|refine qao ‹_› ?_|refine qap ‹_› ?_|refine pkF ‹_› ?_|refine qac ‹_› ?_|refine qad hS (by kernel_rfl) ?_);conv => whnf)
    refine qar hC ?_
    conv => whnf
    refine qan hE hS ?_
    conv => whnf
    refine qb8 hq false rfl ?_
    conv => whnf
    refine qaf (qd9 (e :=3) (ys :=ivs (x0 :: r0)) (m :=(x0 :: r0).length) (own :=.no) (l :=ivs (x0 :: r0)) (by kernel_rfl) rfl (qen _)) ?_
    conv => whnf
    refine qaa (qco (x0 :: r0)) ?_
    conv => whnf
    refine qaa (decide_eq_true (show (0 + (r0.length + 1)) * 8 ≤ 140737488355328 by omega)) ?_
    conv => whnf
    refine qaa (decide_eq_true (show 0 + (r0.length + 1) ≤ 9223372036854775807 by omega)) ?_
    conv => whnf
    refine qaa (decide_eq_true (show (0 + (r0.length + 1) + (0 + 1)) * 8 ≤ 140737488355328 by omega)) ?_
    conv => whnf
    refine qaa (decide_eq_true (show 0 + (r0.length + 1) + (0 + 1) ≤ 9223372036854775807 by omega)) ?_
    conv => whnf
    refine qaa ((show qcf (ivs (x0 :: r0)) ((0 + (r0.length + 1)) * 1) = true by rw [Nat.zero_add];exact qet (x0 :: r0))) ?_
    conv => whnf
    refine qaa (decide_eq_true rfl) ?_
    conv => whnf
    refine qar hC ?_
    conv => whnf
    refine qff hS (qed (qno (qki (x0 :: r0) (Int.ofNat n)).symm (by rw [List.length_append,List.length_cons];simp)) hf) 23 (by exact kle rfl) (by repeat' (first|exact trivial|exact .inl rfl|exact .inr rfl|apply And.intro)) rfl rfl rfl rfl ?_
    conv => whnf
    refine qad hS (by kernel_rfl) ?_
    conv => whnf
    exact ⟨(n + 1,x :: r ++ G),⟨hn2,hT2⟩,by show W.length - (n + 1) < W.length - n;omega,Nat.le_refl _,(zhy 24)⟩
  ·have c0:decide ((gL W n).1 ≥ (gL J (x0 :: r0).length).2.1) = false :=decide_eq_false c
   have hT2:T = ndP W J (x0 :: r0).length g (n + 1) :=by rw [ndP,if_neg c,List.append_nil,hT]
   cases T with
   |nil =>
    obtain rfl:N = 4 :=hN
    conv => whnf
    try have z96:=qa3 hn2
    try have z97:=qav hn2
    repeat ((first|refine qaf (nthP g1) ?_|refine qaf (nthP g2) ?_|refine qai ‹_› ?_|refine qah ‹_› ?_|refine pkT ‹_› ?_|refine qaa ‹_› ?_|refine qao ‹_› ?_|refine qap ‹_› ?_|refine pkF ‹_› ?_|refine qac ‹_› ?_|refine qad hS (by kernel_rfl) ?_);conv => whnf)
    exact ⟨(n + 1,[]),⟨hn2,hT2⟩,by show W.length - (n + 1) < W.length - n;omega,Nat.le_refl _,(zhy 4)⟩
   |cons x r =>
    obtain rfl:N = 24 :=hN
    conv => whnf
    try have z98:=qa3 hn2
    try have z99:=qav hn2
    repeat ((first|refine qaf (nthP g1) ?_|refine qaf (nthP g2) ?_|refine qai ‹_› ?_|refine qah ‹_› ?_|refine pkT ‹_› ?_|refine qaa ‹_› ?_|refine qao ‹_› ?_|refine qap ‹_› ?_|refine pkF ‹_› ?_|refine qac ‹_› ?_|refine qad hS (by kernel_rfl) ?_);conv => whnf)
    exact ⟨(n + 1,x :: r),⟨hn2,hT2⟩,by show W.length - (n + 1) < W.length - n;omega,Nat.le_refl _,(zhy 24)⟩
 ·have en:n = W.length :=by omega
  subst en
  rw [← hT]
  cases T with
  |nil =>
   obtain rfl:N = 4 :=hN
   conv => whnf
   refine qac (qbn hn2) ?_
   conv => whnf
   refine .inl ?_
   conv => whnf
   exact ⟨_,4,rfl,WkV.refl _,Nat.le_refl _,fun h => absurd rfl h,by repeat' (first|exact trivial|exact .inl rfl|exact .inr rfl|apply And.intro),rfl,fun h => absurd rfl h⟩
  |cons x r =>
   obtain rfl:N = 24 :=hN
   conv => whnf
   refine qac (qbn hn2) ?_
   conv => whnf
   refine .inl ?_
   conv => whnf
   exact ⟨_,23,rfl,WkV.refl _,kle rfl,fun h => absurd rfl h,by repeat' (first|exact trivial|exact .inl rfl|exact .inr rfl|apply And.intro),rfl,fun _ => rfl⟩
theorem qxx {W J:List LkI} (hW:areW W) (hJ:areJ J) {now:List Int} (hne:now ≠ []) {LS:List Pln} (hLS:LS ≠ []) {g:Nat → List Pln} (hl:now.length < J.length)
  (hg:∀ n,n < W.length → lvP W J now.length n → HP W J (nl (now ++ [Int.ofNat n])) (lsP (LS ++ ndP W J now.length g n)) (lsP (LS ++ ndP W J now.length g n ++ g n))):HP W J (nl now) (lsP LS) (lsP (LS ++ ndP W J now.length g W.length)) :=by
 have lW :=qau W
 have lJ :=qau J
 have hJ6 :=hJ.1.2
 have hW3 :=hW.1.2
 obtain ⟨x0,r0,rfl⟩ : ∃ x r,now = x :: r :=by
  cases now with
  |nil => exact absurd rfl hne
  |cons x r => exact ⟨x,r,rfl⟩
 have lN :=qal (x0 :: r0)
 have hr0:r0.length + 1 < J.length :=hl
 have lS :=qep LS
 rw [qgy hLS]
 refine qdk (n :=5) (h :=appT [.chain LS.length 2 126] 4 (hpP W J (qbs 129 4 (some (plE LS,LS.length))))) hE rfl (show HEnd _ 5 from qcq [_] 4 _ (qfm W J _)) rfl (kle rfl) (Nat.max_le.2 ⟨qae lN,kle rfl⟩) (Nat.zero_le _) (hbdP W J) (qae lS) (qsm _) (fun _ h => qu4 (fun z => hLS (List.append_eq_nil_iff.1 z).1) h) (by repeat' (first|exact trivial|exact .inl rfl|exact .inr rfl|apply And.intro)) rfl rfl fun S q pc hS hq hC hE => ?_
 conv => whnf
 refine qaa (decide_eq_true (show (((x0 :: r0).length:Nat):Int) < (J.length:Int) by rw [List.length_cons];omega)) ?_
 conv => whnf
 refine qbj hE hS (A :=Nat × List Pln) [2,4] (fun x hx => nomatch hx) [0,1,2,3,4,6,19] (fun (n,_) => [(20,nv n)]) (fun (_,T) => [(2,qbs 129 4 (some (plE T,T.length))),(4,.chain T.length 2 126)]) (fun _ => []) (fun (n,T) => n ≤ W.length ∧ T = LS ++ ndP W J (x0 :: r0).length g n) (fun (n,_) => W.length - n) (0,LS) (kle rfl) trivial rfl (zhy 5) ⟨Nat.zero_le _,(List.append_nil _).symm⟩ ?_
 rintro ⟨n,T⟩ ⟨hn,hT⟩ N hN
 have hn:n ≤ W.length :=hn
 have hT:T = LS ++ ndP W J (x0 :: r0).length g n :=hT
 by_cases hn2:n < W.length
 ·have hn1:IntKind.i64.wrap (Int.ofNat n + 1) = Int.ofNat (n + 1) :=qa7 (m :=n + 1) (by omega)
  have g1 :=qbf W n hn2
  have g2 :=qb9 J (r0.length + 1) hr0
  have iJ:inR (((x0 :: r0).length:Nat):Int) J.length = true :=qav (i :=r0.length + 1) hr0
  have hf :=hg n hn2
  rw [← hT] at hf
  by_cases c:lvP W J (x0 :: r0).length n
  ·have c0:decide ((gL W n).1 ≥ (gL J (x0 :: r0).length).2.1) = true :=decide_eq_true c
   have hf :=hf c
   have hT2:T ++ g n = LS ++ ndP W J (x0 :: r0).length g (n + 1) :=by rw [ndP,if_pos c,hT,List.append_assoc]
   obtain ⟨G,hG⟩ : ∃ G,G = g n :=⟨_,rfl⟩
   rw [← hG] at hf hT2
   rw [qgy (show T ≠ [] by rw [hT];exact fun z => hLS (List.append_eq_nil_iff.1 z).1),qgy (show T ++ G ≠ [] by rw [hT];exact fun z => hLS (List.append_eq_nil_iff.1 (List.append_eq_nil_iff.1 z).1).1)] at hf
   obtain rfl:N = 5 :=hN
   conv => whnf
   try have z100:=qa3 hn2
   try have z101:=qav hn2
   repeat ((first|refine qaf (nthP g1) ?_|refine qaf (nthP g2) ?_|refine qai ‹_› ?_|refine qah ‹_› ?_|refine pkT ‹_› ?_|refine qaa ‹_› ?_|refine qao ‹_› ?_|refine qap ‹_› ?_|refine pkF ‹_› ?_|refine qac ‹_› ?_|refine qad hS (by kernel_rfl) ?_);conv => whnf)
   refine qar hC ?_
   conv => whnf
   refine qan hE hS ?_
   conv => whnf
   refine qb8 hq false rfl ?_
   conv => whnf
   refine qaf (qd9 (e :=3) (ys :=ivs (x0 :: r0)) (m :=(x0 :: r0).length) (own :=.no) (l :=ivs (x0 :: r0)) (by kernel_rfl) rfl (qen _)) ?_
   conv => whnf
   refine qaa (qco (x0 :: r0)) ?_
   conv => whnf
   refine qaa (decide_eq_true (show (0 + (r0.length + 1)) * 8 ≤ 140737488355328 by omega)) ?_
   conv => whnf
   refine qaa (decide_eq_true (show 0 + (r0.length + 1) ≤ 9223372036854775807 by omega)) ?_
   conv => whnf
   refine qaa (decide_eq_true (show (0 + (r0.length + 1) + (0 + 1)) * 8 ≤ 140737488355328 by omega)) ?_
   conv => whnf
   refine qaa (decide_eq_true (show 0 + (r0.length + 1) + (0 + 1) ≤ 9223372036854775807 by omega)) ?_
   conv => whnf
   refine qaa ((show qcf (ivs (x0 :: r0)) ((0 + (r0.length + 1)) * 1) = true by rw [Nat.zero_add];exact qet (x0 :: r0))) ?_
   conv => whnf
   refine qaa (decide_eq_true rfl) ?_
   conv => whnf
   refine qar hC ?_
   conv => whnf
   refine qff hS (qed (qno (qki (x0 :: r0) (Int.ofNat n)).symm (by rw [List.length_append,List.length_cons];simp)) hf) 4 (by exact kle rfl) (by repeat' (first|exact trivial|exact .inl rfl|exact .inr rfl|apply And.intro)) rfl rfl rfl rfl ?_
   conv => whnf
   refine qad hS (by kernel_rfl) ?_
   conv => whnf
   exact ⟨(n + 1,T ++ G),⟨hn2,hT2⟩,by show W.length - (n + 1) < W.length - n;omega,Nat.le_refl _,(zhy 5)⟩
  ·have c0:decide ((gL W n).1 ≥ (gL J (x0 :: r0).length).2.1) = false :=decide_eq_false c
   have hT2:T = LS ++ ndP W J (x0 :: r0).length g (n + 1) :=by rw [ndP,if_neg c,List.append_nil,hT]
   obtain rfl:N = 5 :=hN
   conv => whnf
   try have z102:=qa3 hn2
   try have z103:=qav hn2
   repeat ((first|refine qaf (nthP g1) ?_|refine qaf (nthP g2) ?_|refine qai ‹_› ?_|refine qah ‹_› ?_|refine pkT ‹_› ?_|refine qaa ‹_› ?_|refine qao ‹_› ?_|refine qap ‹_› ?_|refine pkF ‹_› ?_|refine qac ‹_› ?_|refine qad hS (by kernel_rfl) ?_);conv => whnf)
   exact ⟨(n + 1,T),⟨hn2,hT2⟩,by show W.length - (n + 1) < W.length - n;omega,Nat.le_refl _,(zhy 5)⟩
 ·have en:n = W.length :=by omega
  subst en
  obtain rfl:N = 5 :=hN
  rw [← hT,qgy (show T ≠ [] by rw [hT];exact fun z => hLS (List.append_eq_nil_iff.1 z).1)]
  conv => whnf
  refine qac (qbn hn2) ?_
  conv => whnf
  refine .inl ?_
  conv => whnf
  exact ⟨_,4,rfl,WkV.refl _,Nat.le_refl _,fun _ => rfl,by repeat' (first|exact trivial|exact .inl rfl|exact .inr rfl|apply And.intro),rfl,fun _ => rfl⟩
end
end Go.Abs.Seat
