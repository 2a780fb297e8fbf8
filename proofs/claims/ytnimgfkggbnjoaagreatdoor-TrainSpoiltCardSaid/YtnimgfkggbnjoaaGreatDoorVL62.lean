/-
  The law TrainSpoilt.
-/
import Derived.Test.YtnimgfkggbnjoaaGreatDoorVL60
namespace Go.Abs.Seat
noncomputable section
open Go Go.Abs Go.Proofs.Tryz
set_option maxRecDepth 100000
set_option maxHeartbeats 40000000
attribute [local irreducible] IntKind.wrap pEq
theorem qk8:∀ l:List UInt8,qgg (byA l) = some l
 | [] => rfl
 |b :: r => by
  have h:qgg (byA r) = some r :=qk8 r
  show (match qgg (byA r) with | some l => some (UInt8.ofNat (Int.ofNat b.toNat).toNat :: l) | none => none) = _
  rw [h]
  simp
theorem qkz {t:Tr AV}:∀ (l:List AV) (off:Nat),(∀ j,j < l.length → t.get (off + j) = l[j]?) → qfn t off l.length = some l
 | [],_,_ => rfl
 |x :: l,off,h => by
  have h0:t.get off = some x :=h 0 (Nat.succ_pos _)
  have h1 :=qkz l (off + 1) fun j hj => by
   have :=h (j + 1) (Nat.succ_lt_succ hj)
   rw [show off + 1 + j = off + (j + 1) by omega]
   exact this
  rw [List.length_cons,qfn,h0,h1]
theorem qxz {t:Tr AV} {n:Nat} {l:List AV} {b:List UInt8} (e:qfn t 0 n = some l) (f:qgg l = some b):(match qfn t 0 n with | some l => (match qgg l with | some b => Plan.ret (.str b) | none => .fail) | none => .fail) = .ret (.str b) :=by
 rw [e]
 show (match qgg l with | some b => Plan.ret (.str b) | none => .fail) = _
 rw [f]
theorem qx9:∀ k,k < 10 → IntKind.u8.wrap (IntKind.i64.wrap (48 + Int.ofNat k)) = Int.ofNat (dgt k).toNat :=by decide +kernel
theorem qx7:∀ b,b < 58 → 48 ≤ b → IntKind.i64.wrap (IntKind.u8.wrap (Int.ofNat b - 48)) = Int.ofNat (b - 48) :=by decide +kernel
theorem qzb:∀ k,k < 10 → 48 ≤ (dgt k).toNat ∧ (dgt k).toNat ≤ 57 ∧ (dgt k).toNat = 48 + k :=by decide +kernel
theorem spoiltT_law (known:Pure prog 8 [] (.bool true)) (a b p s:Int) (hs:-9223372036854775808 ≤ s ∧ s < 9223372036854775808) {N:AV} {l:List Int} (hN:IL N l) {X:AV} {Ls:List (List (Int × Int))} (hX:XQ X Ls) (at_ digit:Int):Pure prog 5 [rv a b p s N,X,iv at_,iv digit] (.bool true) :=by
 have lN :=hN.no
 have lX :=hX.no
 have pn:Pure prog 6 [iv 0] (.bool true) :=qez (n :=0) (Nat.zero_le 8)
 by_cases h8:l.length ≤ 8
 rotate_left
 ·have p0 :=qlq h8
  rcases hN with ⟨rfl,rfl⟩ | rfl
  ·exact absurd (Nat.zero_le 8) h8
  rcases hX with ⟨rfl,_⟩ | ⟨vs,hv,rfl⟩
  all_goals
   refine qap hE rfl (by repeat' first|exact trivial|assumption|exact qal _|exact fun _ h => nomatch h|apply And.intro) (by repeat' first|exact trivial|assumption|exact qal _|exact fun _ h => nomatch h|apply And.intro) fun S q pc hS hq hC hE => ?_
   conv => whnf
   repeat ((first|refine qad hC (p0) ?_|refine qad hC (known) ?_|refine qac hS (by kernel_rfl) ?_);conv => whnf)
   exact ⟨_,rfl,Wk.refl _⟩
 have p0 :=qez h8
 by_cases hsh:qko Ls
 rotate_left
 ·have pq :=qn2 hX hsh
  rcases hN with ⟨rfl,rfl⟩ | rfl <;> rcases hX with ⟨rfl,_⟩ | ⟨vs,hv,rfl⟩
  all_goals
   refine qap hE rfl (by repeat' first|exact trivial|assumption|exact qal _|exact fun _ h => nomatch h|apply And.intro) (by repeat' first|exact trivial|assumption|exact qal _|exact fun _ h => nomatch h|apply And.intro) fun S q pc hS hq hC hE => ?_
   conv => whnf
   repeat ((first|refine qad hC (pn) ?_|refine qad hC (p0) ?_|refine qad hC (pq) ?_|refine qad hC (known) ?_|refine qac hS (by kernel_rfl) ?_);conv => whnf)
   exact ⟨_,rfl,Wk.refl _⟩
 have pq :=qn1 hX hsh
 have hl:l.length < 4611686018427387904 :=by omega
 have hLs:Ls.length < 4611686018427387904 :=by have :=hsh.1;omega
 have hll:∀ i,i < Ls.length → (gLs Ls i).length < 4611686018427387904 :=fun i hi => by have :=hsh.2 i hi;omega
 by_cases hr:rOk a b p s l
 rotate_left
 ·have p4 :=qlw hN hl hr
  rcases hN with ⟨rfl,rfl⟩ | rfl <;> rcases hX with ⟨rfl,_⟩ | ⟨vs,hv,rfl⟩
  all_goals
   refine qap hE rfl (by repeat' first|exact trivial|assumption|exact qal _|exact fun _ h => nomatch h|apply And.intro) (by repeat' first|exact trivial|assumption|exact qal _|exact fun _ h => nomatch h|apply And.intro) fun S q pc hS hq hC hE => ?_
   conv => whnf
   repeat ((first|refine qad hC (pn) ?_|refine qad hC (p0) ?_|refine qad hC (pq) ?_|refine qad hC (p4) ?_|refine qad hC (known) ?_|refine qac hS (by kernel_rfl) ?_);conv => whnf)
   exact ⟨_,rfl,Wk.refl _⟩
 have p4 :=qlv hN hl hr
 by_cases ht:okTs Ls
 rotate_left
 ·have p5 :=qp5 hX hLs hll ht
  rcases hN with ⟨rfl,rfl⟩ | rfl <;> rcases hX with ⟨rfl,_⟩ | ⟨vs,hv,rfl⟩
  all_goals
   refine qap hE rfl (by repeat' first|exact trivial|assumption|exact qal _|exact fun _ h => nomatch h|apply And.intro) (by repeat' first|exact trivial|assumption|exact qal _|exact fun _ h => nomatch h|apply And.intro) fun S q pc hS hq hC hE => ?_
   conv => whnf
   repeat ((first|refine qad hC (pn) ?_|refine qad hC (p0) ?_|refine qad hC (pq) ?_|refine qad hC (p4) ?_|refine qad hC (p5) ?_|refine qad hC (known) ?_|refine qac hS (by kernel_rfl) ?_);conv => whnf)
   exact ⟨_,rfl,Wk.refl _⟩
 have p5 :=qp4 hX hLs hll ht
 obtain ⟨r,V,T,hq,rfl,rfl,rfl,rfl,rfl,rfl⟩ :=qvp hr ht
 have p1 :=qhf hq hN hX
 have hX2 :=hq.X hX
 have hT4 :=hq.T
 obtain ⟨P,eP⟩ : ∃ P,P = prtT r V T :=⟨_,rfl⟩
 rw [← eP] at p1
 rcases hN with ⟨rfl,eV⟩ | rfl <;> rcases hX2 with ⟨rfl,eT⟩ | rfl
 all_goals
  by_cases d0:0 ≤ digit
  rotate_left
  ·have c1:decide (digit < 0) = true :=decide_eq_true (Int.not_le.1 d0)
   refine qap hE rfl (by repeat' first|exact trivial|assumption|exact qal _|exact fun _ h => nomatch h|apply And.intro) (by repeat' first|exact trivial|assumption|exact qal _|exact fun _ h => nomatch h|apply And.intro) fun S q pc hS hq hC hE => ?_
   conv => whnf
   repeat ((first|refine qah c1 ?_|refine qag c1 ?_|refine pkT c1 ?_|refine qaa c1 ?_|refine qam (gft c1) ?_|refine qan (gft c1) ?_|refine pkF (gft c1) ?_|refine qab (gft c1) ?_|refine qad hC (pn) ?_|refine qad hC (p0) ?_|refine qad hC (pq) ?_|refine qad hC (p4) ?_|refine qad hC (p5) ?_|refine qad hC (known) ?_|refine qac hS (by kernel_rfl) ?_);conv => whnf)
   exact ⟨_,rfl,Wk.refl _⟩
  have c1:decide (digit < 0) = false :=decide_eq_false (Int.not_lt.2 d0)
  by_cases d9:digit ≤ 9
  rotate_left
  ·have c2:decide (digit > 9) = true :=decide_eq_true (Int.not_le.1 d9)
   refine qap hE rfl (by repeat' first|exact trivial|assumption|exact qal _|exact fun _ h => nomatch h|apply And.intro) (by repeat' first|exact trivial|assumption|exact qal _|exact fun _ h => nomatch h|apply And.intro) fun S q pc hS hq hC hE => ?_
   conv => whnf
   repeat ((first|refine qam c1 ?_|refine qan c1 ?_|refine pkF c1 ?_|refine qab c1 ?_|refine qah (gff c1) ?_|refine qag (gff c1) ?_|refine pkT (gff c1) ?_|refine qaa (gff c1) ?_|refine qah c2 ?_|refine qag c2 ?_|refine pkT c2 ?_|refine qaa c2 ?_|refine qad hC (pn) ?_|refine qad hC (p0) ?_|refine qad hC (pq) ?_|refine qad hC (p4) ?_|refine qad hC (p5) ?_|refine qad hC (known) ?_|refine qac hS (by kernel_rfl) ?_);conv => whnf)
   exact ⟨_,rfl,Wk.refl _⟩
  have c2:decide (digit > 9) = false :=decide_eq_false (Int.not_lt.2 d9)
  obtain ⟨k,ek⟩ : ∃ k,digit = Int.ofNat k :=⟨digit.toNat,(Int.toNat_of_nonneg d0).symm⟩
  have hk:k < 10 :=by rw [ek] at d9;have:(k:Int) ≤ 9 :=d9;omega
  by_cases a0:0 ≤ at_
  rotate_left
  ·have c3:decide (at_ < 0) = true :=decide_eq_true (Int.not_le.1 a0)
   refine qap hE rfl (by repeat' first|exact trivial|assumption|exact qal _|exact fun _ h => nomatch h|apply And.intro) (by repeat' first|exact trivial|assumption|exact qal _|exact fun _ h => nomatch h|apply And.intro) fun S q pc hS hq hC hE => ?_
   conv => whnf
   repeat ((first|refine qam c1 ?_|refine qan c1 ?_|refine pkF c1 ?_|refine qab c1 ?_|refine qah (gff c1) ?_|refine qag (gff c1) ?_|refine pkT (gff c1) ?_|refine qaa (gff c1) ?_|refine qam c2 ?_|refine qan c2 ?_|refine pkF c2 ?_|refine qab c2 ?_|refine qah c3 ?_|refine qag c3 ?_|refine pkT c3 ?_|refine qaa c3 ?_|refine qam (gft c3) ?_|refine qan (gft c3) ?_|refine pkF (gft c3) ?_|refine qab (gft c3) ?_|refine qad hC (pn) ?_|refine qad hC (p0) ?_|refine qad hC (pq) ?_|refine qad hC (p4) ?_|refine qad hC (p5) ?_|refine qad hC (p1) ?_|refine qad hC (known) ?_|refine qac hS (by kernel_rfl) ?_);conv => whnf)
   exact ⟨_,rfl,Wk.refl _⟩
  have c3:decide (at_ < 0) = false :=decide_eq_false (Int.not_lt.2 a0)
  by_cases hi:at_.toNat < (P).length
  rotate_left
  ·have c4:decide (at_ ≥ ((P).length:Int)) = true :=decide_eq_true (by omega)
   refine qap hE rfl (by repeat' first|exact trivial|assumption|exact qal _|exact fun _ h => nomatch h|apply And.intro) (by repeat' first|exact trivial|assumption|exact qal _|exact fun _ h => nomatch h|apply And.intro) fun S q pc hS hq hC hE => ?_
   conv => whnf
   repeat ((first|refine qam c1 ?_|refine qan c1 ?_|refine pkF c1 ?_|refine qab c1 ?_|refine qah (gff c1) ?_|refine qag (gff c1) ?_|refine pkT (gff c1) ?_|refine qaa (gff c1) ?_|refine qam c2 ?_|refine qan c2 ?_|refine pkF c2 ?_|refine qab c2 ?_|refine qam c3 ?_|refine qan c3 ?_|refine pkF c3 ?_|refine qab c3 ?_|refine qah (gff c3) ?_|refine qag (gff c3) ?_|refine pkT (gff c3) ?_|refine qaa (gff c3) ?_|refine qah c4 ?_|refine qag c4 ?_|refine pkT c4 ?_|refine qaa c4 ?_|refine qam (gft c4) ?_|refine qan (gft c4) ?_|refine pkF (gft c4) ?_|refine qab (gft c4) ?_|refine qad hC (pn) ?_|refine qad hC (p0) ?_|refine qad hC (pq) ?_|refine qad hC (p4) ?_|refine qad hC (p5) ?_|refine qad hC (p1) ?_|refine qad hC (known) ?_|refine qac hS (by kernel_rfl) ?_);conv => whnf)
   exact ⟨_,rfl,Wk.refl _⟩
  have c4:decide (at_ ≥ ((P).length:Int)) = false :=decide_eq_false (by omega)
  have ia:inR at_ (P).length = true :=by
   rw [show at_ = Int.ofNat at_.toNat from (Int.toNat_of_nonneg a0).symm]
   exact qai hi
  have i0:decide (0 ≤ at_) = true :=decide_eq_true a0
  have i1:decide (at_ < ((P).length:Int)) = true :=decide_eq_true (by omega)
  obtain ⟨b,hb⟩ : ∃ b,b = (P).getD at_.toNat 0 :=⟨_,rfl⟩
  have hba :=qch hi
  rw [← hb] at hba
  obtain ⟨v,hv⟩ : ∃ v:Int,v = b.toNat :=⟨_,rfl⟩
  rw [← hv] at hba
  by_cases b1:48 ≤ v
  rotate_left
  ·have c5:decide (v < 48) = true :=decide_eq_true (Int.not_le.1 b1)
   refine qap hE rfl (by repeat' first|exact trivial|assumption|exact qal _|exact fun _ h => nomatch h|apply And.intro) (by repeat' first|exact trivial|assumption|exact qal _|exact fun _ h => nomatch h|apply And.intro) fun S q pc hS hq hC hE => ?_
   conv => whnf
   repeat ((first|refine qaf (hba) ?_|refine qam c1 ?_|refine qan c1 ?_|refine pkF c1 ?_|refine qab c1 ?_|refine qah (gff c1) ?_|refine qag (gff c1) ?_|refine pkT (gff c1) ?_|refine qaa (gff c1) ?_|refine qam c2 ?_|refine qan c2 ?_|refine pkF c2 ?_|refine qab c2 ?_|refine qam c3 ?_|refine qan c3 ?_|refine pkF c3 ?_|refine qab c3 ?_|refine qah (gff c3) ?_|refine qag (gff c3) ?_|refine pkT (gff c3) ?_|refine qaa (gff c3) ?_|refine qam c4 ?_|refine qan c4 ?_|refine pkF c4 ?_|refine qab c4 ?_|refine qah (gff c4) ?_|refine qag (gff c4) ?_|refine pkT (gff c4) ?_|refine qaa (gff c4) ?_|refine qah c5 ?_|refine qag c5 ?_|refine pkT c5 ?_|refine qaa c5 ?_|refine qam (gft c5) ?_|refine qan (gft c5) ?_|refine pkF (gft c5) ?_|refine qab (gft c5) ?_|refine qah i0 ?_|refine qag i0 ?_|refine pkT i0 ?_|refine qaa i0 ?_|refine qah i1 ?_|refine qag i1 ?_|refine pkT i1 ?_|refine qaa i1 ?_|refine qad hC (pn) ?_|refine qad hC (p0) ?_|refine qad hC (pq) ?_|refine qad hC (p4) ?_|refine qad hC (p5) ?_|refine qad hC (p1) ?_|refine qad hC (known) ?_|refine qac hS (by kernel_rfl) ?_);conv => whnf)
   exact ⟨_,rfl,Wk.refl _⟩
  have c5:decide (v < 48) = false :=decide_eq_false (Int.not_lt.2 b1)
  by_cases b2:v ≤ 57
  rotate_left
  ·have c6:decide (v > 57) = true :=decide_eq_true (Int.not_le.1 b2)
   refine qap hE rfl (by repeat' first|exact trivial|assumption|exact qal _|exact fun _ h => nomatch h|apply And.intro) (by repeat' first|exact trivial|assumption|exact qal _|exact fun _ h => nomatch h|apply And.intro) fun S q pc hS hq hC hE => ?_
   conv => whnf
   repeat ((first|refine qaf (hba) ?_|refine qam c1 ?_|refine qan c1 ?_|refine pkF c1 ?_|refine qab c1 ?_|refine qah (gff c1) ?_|refine qag (gff c1) ?_|refine pkT (gff c1) ?_|refine qaa (gff c1) ?_|refine qam c2 ?_|refine qan c2 ?_|refine pkF c2 ?_|refine qab c2 ?_|refine qam c3 ?_|refine qan c3 ?_|refine pkF c3 ?_|refine qab c3 ?_|refine qah (gff c3) ?_|refine qag (gff c3) ?_|refine pkT (gff c3) ?_|refine qaa (gff c3) ?_|refine qam c4 ?_|refine qan c4 ?_|refine pkF c4 ?_|refine qab c4 ?_|refine qah (gff c4) ?_|refine qag (gff c4) ?_|refine pkT (gff c4) ?_|refine qaa (gff c4) ?_|refine qam c5 ?_|refine qan c5 ?_|refine pkF c5 ?_|refine qab c5 ?_|refine qah (gff c5) ?_|refine qag (gff c5) ?_|refine pkT (gff c5) ?_|refine qaa (gff c5) ?_|refine qah c6 ?_|refine qag c6 ?_|refine pkT c6 ?_|refine qaa c6 ?_|refine qam (gft c6) ?_|refine qan (gft c6) ?_|refine pkF (gft c6) ?_|refine qab (gft c6) ?_|refine qah i0 ?_|refine qag i0 ?_|refine pkT i0 ?_|refine qaa i0 ?_|refine qah i1 ?_|refine qag i1 ?_|refine pkT i1 ?_|refine qaa i1 ?_|refine qad hC (pn) ?_|refine qad hC (p0) ?_|refine qad hC (pq) ?_|refine qad hC (p4) ?_|refine qad hC (p5) ?_|refine qad hC (p1) ?_|refine qad hC (known) ?_|refine qac hS (by kernel_rfl) ?_);conv => whnf)
   exact ⟨_,rfl,Wk.refl _⟩
  have c6:decide (v > 57) = false :=decide_eq_false (Int.not_lt.2 b2)
  have us :=qx7 b.toNat (by omega) (by omega)
  rw [show Int.ofNat b.toNat = v from hv.symm] at us
  by_cases e:b.toNat - 48 = k
  ·have c7:(IntKind.i64.wrap (IntKind.u8.wrap (v - 48)) == digit) = true :=by rw [us,e,ek];exact beq_self_eq_true _
   refine qap hE rfl (by repeat' first|exact trivial|assumption|exact qal _|exact fun _ h => nomatch h|apply And.intro) (by repeat' first|exact trivial|assumption|exact qal _|exact fun _ h => nomatch h|apply And.intro) fun S q pc hS hq hC hE => ?_
   conv => whnf
   repeat ((first|refine qaf (hba) ?_|refine qam c1 ?_|refine qan c1 ?_|refine pkF c1 ?_|refine qab c1 ?_|refine qah (gff c1) ?_|refine qag (gff c1) ?_|refine pkT (gff c1) ?_|refine qaa (gff c1) ?_|refine qam c2 ?_|refine qan c2 ?_|refine pkF c2 ?_|refine qab c2 ?_|refine qam c3 ?_|refine qan c3 ?_|refine pkF c3 ?_|refine qab c3 ?_|refine qah (gff c3) ?_|refine qag (gff c3) ?_|refine pkT (gff c3) ?_|refine qaa (gff c3) ?_|refine qam c4 ?_|refine qan c4 ?_|refine pkF c4 ?_|refine qab c4 ?_|refine qah (gff c4) ?_|refine qag (gff c4) ?_|refine pkT (gff c4) ?_|refine qaa (gff c4) ?_|refine qam c5 ?_|refine qan c5 ?_|refine pkF c5 ?_|refine qab c5 ?_|refine qah (gff c5) ?_|refine qag (gff c5) ?_|refine pkT (gff c5) ?_|refine qaa (gff c5) ?_|refine qam c6 ?_|refine qan c6 ?_|refine pkF c6 ?_|refine qab c6 ?_|refine qah (gff c6) ?_|refine qag (gff c6) ?_|refine pkT (gff c6) ?_|refine qaa (gff c6) ?_|refine qah c7 ?_|refine qag c7 ?_|refine pkT c7 ?_|refine qaa c7 ?_|refine qah i0 ?_|refine qag i0 ?_|refine pkT i0 ?_|refine qaa i0 ?_|refine qah i1 ?_|refine qag i1 ?_|refine pkT i1 ?_|refine qaa i1 ?_|refine qad hC (pn) ?_|refine qad hC (p0) ?_|refine qad hC (pq) ?_|refine qad hC (p4) ?_|refine qad hC (p5) ?_|refine qad hC (p1) ?_|refine qad hC (known) ?_|refine qac hS (by kernel_rfl) ?_);conv => whnf)
   exact ⟨_,rfl,Wk.refl _⟩
  have c7:(IntKind.i64.wrap (IntKind.u8.wrap (v - 48)) == digit) = false :=beq_eq_false_iff_ne.2 fun z => e (Int.ofNat.inj (us.symm.trans (z.trans ek)))
  obtain ⟨k1,k2,k3⟩ :=qzb k hk
  have pl:P.length ≤ 400 :=by rw [eP];exact hq.le
  have sh:shT V T :=⟨by have :=hq.V.1;omega,by have :=hq.T;omega,fun t ht => by have :=(hq.ne t ht).2.1;omega⟩
  have hno:¬ ∃ r' V' T',isU ((P).set at_.toNat (dgt k)) r' V' T' :=by
   subst eP
   exact qot hq.ok (fun j => Nat.le_trans (qyy sh j) (by decide)) (by rw [qcf];have :=hq.T;omega) hi (by rw [← hb];omega) (by rw [← hb];omega) k1 k2 (by rw [← hb];intro z;rw [z,k3] at e;omega)
  have p3 :=qig (s :=(P).set at_.toNat (dgt k)) (by rw [List.length_set];exact pl) hno
  have c8:decide (0 < (P).length) = true :=decide_eq_true (by omega)
  have bl:(byA (P)).length = (P).length :=List.length_map _
  refine qap hE rfl (by repeat' first|exact trivial|assumption|exact qal _|exact fun _ h => nomatch h|apply And.intro) (by repeat' first|exact trivial|assumption|exact qal _|exact fun _ h => nomatch h|apply And.intro) fun S q pc hS hq hC hE => ?_
  conv => whnf
  repeat ((first|refine qaf (hba) ?_|refine qam c1 ?_|refine qan c1 ?_|refine pkF c1 ?_|refine qab c1 ?_|refine qah (gff c1) ?_|refine qag (gff c1) ?_|refine pkT (gff c1) ?_|refine qaa (gff c1) ?_|refine qam c2 ?_|refine qan c2 ?_|refine pkF c2 ?_|refine qab c2 ?_|refine qam c3 ?_|refine qan c3 ?_|refine pkF c3 ?_|refine qab c3 ?_|refine qah (gff c3) ?_|refine qag (gff c3) ?_|refine pkT (gff c3) ?_|refine qaa (gff c3) ?_|refine qam c4 ?_|refine qan c4 ?_|refine pkF c4 ?_|refine qab c4 ?_|refine qah (gff c4) ?_|refine qag (gff c4) ?_|refine pkT (gff c4) ?_|refine qaa (gff c4) ?_|refine qam c5 ?_|refine qan c5 ?_|refine pkF c5 ?_|refine qab c5 ?_|refine qah (gff c5) ?_|refine qag (gff c5) ?_|refine pkT (gff c5) ?_|refine qaa (gff c5) ?_|refine qam c6 ?_|refine qan c6 ?_|refine pkF c6 ?_|refine qab c6 ?_|refine qah (gff c6) ?_|refine qag (gff c6) ?_|refine pkT (gff c6) ?_|refine qaa (gff c6) ?_|refine qam c7 ?_|refine qan c7 ?_|refine pkF c7 ?_|refine qab c7 ?_|refine qah i0 ?_|refine qag i0 ?_|refine pkT i0 ?_|refine qaa i0 ?_|refine qah i1 ?_|refine qag i1 ?_|refine pkT i1 ?_|refine qaa i1 ?_|refine qah c8 ?_|refine qag c8 ?_|refine pkT c8 ?_|refine qaa c8 ?_|refine qad hC (pn) ?_|refine qad hC (p0) ?_|refine qad hC (pq) ?_|refine qad hC (p4) ?_|refine qad hC (p5) ?_|refine qad hC (p1) ?_|refine qac hS (by kernel_rfl) ?_);conv => whnf)
  refine qt9 bl ?_
  intro t ht
  conv => whnf
  have gt:t.get (0 + at_.toNat * 1) = some (.int .u8 b.toNat) :=by
   rw [ht,Nat.zero_add,Nat.mul_one,hb]
   simp [byA,hi]
  have b3:Nat.ble (0 + at_.toNat * 1 + 1) (P).length = true :=Nat.ble_eq_true_of_le (by omega)
  have ed:IntKind.u8.wrap (IntKind.i64.wrap (48 + digit)) = Int.ofNat (dgt k).toNat :=by rw [ek];exact qx9 k hk
  repeat ((first|refine qah ia ?_|refine qag ia ?_|refine pkT ia ?_|refine qaa ia ?_|refine qah i0 ?_|refine qag i0 ?_|refine pkT i0 ?_|refine qaa i0 ?_|refine qah i1 ?_|refine qag i1 ?_|refine pkT i1 ?_|refine qaa i1 ?_|refine qah b3 ?_|refine qag b3 ?_|refine pkT b3 ?_|refine qaa b3 ?_|refine qac hS (by kernel_rfl) ?_);conv => whnf)
  refine qls gt ?_
  have hl2:(byA ((P).set at_.toNat (dgt k))).length = (P).length :=by unfold byA;rw [List.length_map,List.length_set]
  have gl:qfn (tset (pathOf (0 + at_.toNat * 1)) t (.int .u8 (IntKind.u8.wrap (IntKind.i64.wrap (48 + digit))))) 0 (P).length = some (byA ((P).set at_.toNat (dgt k))) :=by
   rw [← hl2]
   refine qkz _ _ fun j hj => ?_
   rw [qf5 gt,ed,Nat.zero_add,Nat.zero_add,Nat.mul_one]
   by_cases q:j = at_.toNat
   ·rw [if_pos q,q]
    simp [byA,hi]
   ·rw [if_neg q,ht]
    simp only [byA,List.getElem?_map]
    rw [List.getElem?_set_ne (Ne.symm q)]
  have c9:decide (0 + (P).length ≤ (P).length) = true :=decide_eq_true (by omega)
  conv => whnf
  repeat ((first|refine qaf (qxz gl (qk8 _)) ?_|refine qah c9 ?_|refine qag c9 ?_|refine pkT c9 ?_|refine qaa c9 ?_|refine qad hC (p3) ?_|refine qad hC (qdk) ?_|refine qad hC (known) ?_|refine qac hS (by kernel_rfl) ?_);conv => whnf)
  exact ⟨_,rfl,Wk.refl _⟩
end
end Go.Abs.Seat
