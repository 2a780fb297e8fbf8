/-
  The law TrainPrints.
-/
import Derived.Test.YtnimgfkggbnjoaaGreatDoorVB146
import Derived.Test.YtnimgfkggbnjoaaGreatDoorVB148
import Derived.Test.YtnimgfkggbnjoaaGreatDoorVU8
namespace Go.Abs.Seat
noncomputable section
open Go Go.Abs Go.Proofs.Tryz
set_option maxRecDepth 100000
set_option maxHeartbeats 40000000
attribute [local irreducible] IntKind.wrap pEq
theorem qlv {N:AV} {l:List Int} (h:IL N l) (hl:l.length < 4611686018427387904) {a b p s:Int} (ho:rOk a b p s l):Pure prog 10 [rv a b p s N] (.bool true) :=qin h hl a b p s (Iff.intro (fun _ => ho) fun _ => rfl)
theorem qlw {N:AV} {l:List Int} (h:IL N l) (hl:l.length < 4611686018427387904) {a b p s:Int} (ho:¬ rOk a b p s l):Pure prog 10 [rv a b p s N] (.bool false) :=qin h hl a b p s (Iff.intro (fun e => nomatch e) fun z => absurd z ho)
theorem qp4 {X:AV} {Ls:List (List (Int × Int))} (h:XQ X Ls) (hl:Ls.length < 4611686018427387904) (hll:∀ i,i < Ls.length → (gLs Ls i).length < 4611686018427387904) (ho:okTs Ls):Pure prog 11 [X] (.bool true) :=qkq h hl hll (Iff.intro (fun _ => ho) fun _ => rfl)
theorem qp5 {X:AV} {Ls:List (List (Int × Int))} (h:XQ X Ls) (hl:Ls.length < 4611686018427387904) (hll:∀ i,i < Ls.length → (gLs Ls i).length < 4611686018427387904) (ho:¬ okTs Ls):Pure prog 11 [X] (.bool false) :=qkq h hl hll (Iff.intro (fun e => nomatch e) fun z => absurd z ho)
theorem qn1 {X:AV} {Ls:List (List (Int × Int))} (h:XQ X Ls) (hs:qko Ls):Pure prog 7 [X] (.bool true) :=qht h (Iff.intro (fun _ => hs) fun _ => rfl)
theorem qn2 {X:AV} {Ls:List (List (Int × Int))} (h:XQ X Ls) (hs:¬ qko Ls):Pure prog 7 [X] (.bool false) :=qht h (Iff.intro (fun e => nomatch e) fun z => absurd z hs)
theorem qvp {a b p s:Int} {l:List Int} {Ls:List (List (Int × Int))} (h1:rOk a b p s l) (h2:okTs Ls):∃ (r:TrR) (V:List Nat) (T:List (List (Nat × Nat))),OkQ r V T ∧ a = Int.ofNat r.1 ∧ b = Int.ofNat r.2.1 ∧ p = Int.ofNat r.2.2.1 ∧ s = Int.ofNat r.2.2.2 ∧ l = zl V ∧ Ls = T.map zp :=by
 obtain ⟨r,V,e1,e2,e3,e4,e5⟩ :=qtv h1
 obtain ⟨T,e6⟩ :=qt5 h2
 refine ⟨r,V,T,⟨?_,by rw [← e6];exact h2⟩,e1,e2,e3,e4,e5,e6⟩
 rw [e1,e2,e3,e4,e5] at h1
 exact h1
theorem TQ.sh {X:AV} {T:List (List (Nat × Nat))} (h:TQ X T):X = .nils ∨ ∃ vs,X = .lst vs T.length .no :=by
 rcases h with ⟨rfl,_⟩ | rfl
 ·exact .inl rfl
 ·exact .inr ⟨_,rfl⟩
theorem printsT_law (known:Pure prog 8 [] (.bool true)) (a b p s:Int) (hs:-9223372036854775808 ≤ s ∧ s < 9223372036854775808) {N:AV} {l:List Int} (hN:IL N l) {X:AV} {Ls:List (List (Int × Int))} (hX:XQ X Ls):Pure prog 3 [rv a b p s N,X] (.bool true) :=by
 have lN :=hN.no
 have lX :=hX.no
 have pn:Pure prog 6 [iv 0] (.bool true) :=qez (n :=0) (Nat.zero_le 8)
 by_cases h8:l.length ≤ 8
 rotate_left
 ·have p1 :=qlq h8
  rcases hN with ⟨rfl,rfl⟩ | rfl
  ·exact absurd (Nat.zero_le 8) h8
  rcases hX with ⟨rfl,_⟩ | ⟨vs,hv,rfl⟩
  all_goals
   refine qap hE rfl (by repeat' first|exact trivial|assumption|exact qal _|exact fun _ h => nomatch h|apply And.intro) (by repeat' first|exact trivial|assumption|exact qal _|exact fun _ h => nomatch h|apply And.intro) fun S q pc hS hq hC hE => ?_
   conv => whnf
   repeat ((first|refine qad hC (p1) ?_|refine qad hC (known) ?_|refine qac hS (by kernel_rfl) ?_);conv => whnf)
   exact ⟨_,rfl,Wk.refl _⟩
 have p1 :=qez h8
 by_cases hsh:qko Ls
 rotate_left
 ·have p2 :=qn2 hX hsh
  rcases hN with ⟨rfl,rfl⟩ | rfl <;> rcases hX with ⟨rfl,_⟩ | ⟨vs,hv,rfl⟩
  all_goals
   refine qap hE rfl (by repeat' first|exact trivial|assumption|exact qal _|exact fun _ h => nomatch h|apply And.intro) (by repeat' first|exact trivial|assumption|exact qal _|exact fun _ h => nomatch h|apply And.intro) fun S q pc hS hq hC hE => ?_
   conv => whnf
   repeat ((first|refine qad hC (pn) ?_|refine qad hC (p1) ?_|refine qad hC (p2) ?_|refine qad hC (known) ?_|refine qac hS (by kernel_rfl) ?_);conv => whnf)
   exact ⟨_,rfl,Wk.refl _⟩
 have p2 :=qn1 hX hsh
 have hl:l.length < 4611686018427387904 :=by omega
 have hLs:Ls.length < 4611686018427387904 :=by have :=hsh.1;omega
 have hll:∀ i,i < Ls.length → (gLs Ls i).length < 4611686018427387904 :=fun i hi => by have :=hsh.2 i hi;omega
 by_cases hr:rOk a b p s l
 rotate_left
 ·have p3 :=qkm (a :=a) (b :=b) (p :=p) hs hN hX hl hLs fun z => hr z.1
  have p4 :=qlw hN hl hr
  rcases hN with ⟨rfl,rfl⟩ | rfl <;> rcases hX with ⟨rfl,_⟩ | ⟨vs,hv,rfl⟩
  all_goals
   refine qap hE rfl (by repeat' first|exact trivial|assumption|exact qal _|exact fun _ h => nomatch h|apply And.intro) (by repeat' first|exact trivial|assumption|exact qal _|exact fun _ h => nomatch h|apply And.intro) fun S q pc hS hq hC hE => ?_
   conv => whnf
   repeat ((first|refine qad hC (pn) ?_|refine qad hC (p1) ?_|refine qad hC (p2) ?_|refine qad hC (p3) ?_|refine qad hC (p4) ?_|refine qad hC (known) ?_|refine qac hS (by kernel_rfl) ?_);conv => whnf)
   exact ⟨_,rfl,Wk.refl _⟩
 have p4 :=qlv hN hl hr
 by_cases ht:okTs Ls
 rotate_left
 ·have p3 :=qkm (a :=a) (b :=b) (p :=p) hs hN hX hl hLs fun z => ht z.2
  have p5 :=qp5 hX hLs hll ht
  rcases hN with ⟨rfl,rfl⟩ | rfl <;> rcases hX with ⟨rfl,_⟩ | ⟨vs,hv,rfl⟩
  all_goals
   refine qap hE rfl (by repeat' first|exact trivial|assumption|exact qal _|exact fun _ h => nomatch h|apply And.intro) (by repeat' first|exact trivial|assumption|exact qal _|exact fun _ h => nomatch h|apply And.intro) fun S q pc hS hq hC hE => ?_
   conv => whnf
   repeat ((first|refine qad hC (pn) ?_|refine qad hC (p1) ?_|refine qad hC (p2) ?_|refine qad hC (p3) ?_|refine qad hC (p4) ?_|refine qad hC (p5) ?_|refine qad hC (known) ?_|refine qac hS (by kernel_rfl) ?_);conv => whnf)
   exact ⟨_,rfl,Wk.refl _⟩
 have p5 :=qp4 hX hLs hll ht
 obtain ⟨r,V,T,hq,rfl,rfl,rfl,rfl,rfl,rfl⟩ :=qvp hr ht
 have p3 :=qhf hq hN hX
 have hX2 :=hq.X hX
 have p6 :=qm7 hq.le hq.U hq
 have p7 :=qhb hN hX2 hq.ok hq.sh
 have hT4 :=hq.T
 have p8 :=qik (r :=r) (qdh V) hN (by have :=hq.V.1;omega)
 have p9 :=qil (qpx T) hX2 (by omega) (fun t ht => by have :=(hq.ne t ht).2.1;omega)
 obtain ⟨P,eP⟩ : ∃ P,P = prtT r V T :=⟨_,rfl⟩
 rw [← eP] at p3 p6 p7
 clear eP
 have te:(P == P) = true :=beq_self_eq_true _
 have hN2 :=qdh V
 have hX3 :=qpx T
 obtain ⟨N2,eN⟩ : ∃ N,N = nlV V :=⟨_,rfl⟩
 obtain ⟨X2,eX⟩ : ∃ X,X = xqT T :=⟨_,rfl⟩
 rw [← eN] at hN2 p6 p8
 rw [← eX] at hX3 p6 p9
 have lN2 :=hN2.no
 have lX2 :=hX3.no
 clear eN eX hX
 rcases hN with ⟨rfl,_⟩ | rfl <;> rcases hX2 with ⟨rfl,_⟩ | rfl <;> rcases hN2 with ⟨rfl,_⟩ | rfl <;> rcases hX3 with ⟨rfl,_⟩ | rfl
 all_goals
  refine qap hE rfl (by repeat' first|exact trivial|assumption|exact qal _|exact fun _ h => nomatch h|apply And.intro) (by repeat' first|exact trivial|assumption|exact qal _|exact fun _ h => nomatch h|apply And.intro) fun S q pc hS hq hC hE => ?_
  conv => whnf
  repeat ((first|refine qah te ?_|refine qag te ?_|refine pkT te ?_|refine qaa te ?_|refine qah (qa1 te) ?_|refine qag (qa1 te) ?_|refine pkT (qa1 te) ?_|refine qaa (qa1 te) ?_|refine qad hC (pn) ?_|refine qad hC (p1) ?_|refine qad hC (p2) ?_|refine qad hC (p3) ?_|refine qad hC (p4) ?_|refine qad hC (p5) ?_|refine qad hC (p6) ?_|refine qad hC (p7) ?_|refine qad hC (p8) ?_|refine qad hC (p9) ?_|refine qad hC (known) ?_|refine qac hS (by kernel_rfl) ?_);conv => whnf)
  exact ⟨_,rfl,Wk.refl _⟩
end
end Go.Abs.Seat
