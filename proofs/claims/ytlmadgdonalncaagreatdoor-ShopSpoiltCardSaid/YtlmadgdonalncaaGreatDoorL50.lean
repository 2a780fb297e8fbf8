/-
  The law ShopSpoilt.
-/
import Derived.Test.YtlmadgdonalncaaGreatDoorU13
namespace Go.Abs.Seat
noncomputable section
open Go Go.Abs Go.Proofs.Tryz
set_option maxRecDepth 100000
set_option maxHeartbeats 40000000
attribute [local irreducible] IntKind.wrap pEq
theorem quj {N:List Lk} {H:List Nat} (h:pcN N H):(prtB N H).length ≤ 200 ∧ (lnsB N H).length ≤ 11 :=by
 have k :=qdm (N :=N) (H :=H) (lnsB N H).length
 have k2 :=qqj N H
 have l5 :=h.l5
 have h4 :=h.h4
 have d1 :=qb6 (ckN (lnsB N H) (lnsB N H).length % 127 / 100)
 have d2 :=qb6 (ckN (lnsB N H) (lnsB N H).length % 127 / 10 % 10)
 have d3 :=qb6 (ckN (lnsB N H) (lnsB N H).length % 127 % 10)
 have e:∀ c,(endL c).length = 4 + ((dec (c / 100)).length + ((dec (c / 10 % 10)).length + (dec (c % 10)).length)) :=fun c => by
  unfold endL
  rw [List.length_append,List.length_append,List.length_append]
  rfl
 refine ⟨?_,by omega⟩
 unfold prtB
 rw [qq5,List.length_append,List.length_append,e]
 show _ + (_ + 1) ≤ 200
 have k3:(lnsB N H).length * 17 ≤ 10 * 17 :=Nat.mul_le_mul_right 17 (by omega)
 omega
theorem qkj:∀ l:List UInt8,qfu (byA l) = some l
 | [] => rfl
 |b :: r => by
  have h:qfu (byA r) = some r :=qkj r
  show (match qfu (byA r) with | some l => some (UInt8.ofNat (Int.ofNat b.toNat).toNat :: l) | none => none) = _
  rw [h]
  simp
theorem qj6 {t:Tr AV}:∀ (l:List AV) (off:Nat),(∀ j,j < l.length → t.get (off + j) = l[j]?) → qew t off l.length = some l
 | [],_,_ => rfl
 |x :: l,off,h => by
  have h0:t.get off = some x :=h 0 (Nat.succ_pos _)
  have h1 :=qj6 l (off + 1) fun j hj => by
   have :=h (j + 1) (Nat.succ_lt_succ hj)
   rw [show off + 1 + j = off + (j + 1) by omega]
   exact this
  rw [List.length_cons,qew,h0,h1]
theorem qvk {t:Tr AV} {n:Nat} {l:List AV} {b:List UInt8} (e:qew t 0 n = some l) (f:qfu l = some b):(match qew t 0 n with | some l => (match qfu l with | some b => Plan.ret (.str b) | none => .fail) | none => .fail) = .ret (.str b) :=by
 rw [e]
 show (match qfu l with | some b => Plan.ret (.str b) | none => .fail) = _
 rw [f]
theorem qvx:∀ k,k < 10 → IntKind.u8.wrap (IntKind.i64.wrap (48 + Int.ofNat k)) = Int.ofNat (dgt k).toNat :=by decide +kernel
theorem qvv:∀ b,b < 58 → 48 ≤ b → IntKind.i64.wrap (IntKind.u8.wrap (Int.ofNat b - 48)) = Int.ofNat (b - 48) :=by decide +kernel
theorem qw7:∀ k,k < 10 → 48 ≤ (dgt k).toNat ∧ (dgt k).toNat ≤ 57 ∧ (dgt k).toNat = 48 + k :=by decide +kernel
theorem spoilt_law (known:Pure prog 13 [] (.bool true)) {x h:AV} {L:List LkI} {M:List Int} (hx:LL x L) (hh:IL h M) (at_ digit:Int):Pure prog 12 [.agg [x,h],iv at_,iv digit] (.bool true) :=by
 have lx :=hx.no
 have lh :=hh.no
 by_cases s:L.length ≤ 7 ∧ M.length ≤ 6
 rotate_left
 ·have ps :=qr1 hx hh s
  rcases hx with ⟨rfl,_⟩ | rfl <;> rcases hh with ⟨rfl,_⟩ | rfl
  all_goals
   refine qan hE rfl (by repeat' first|exact trivial|assumption|exact qae _|exact fun _ h => nomatch h|apply And.intro) (by repeat' first|exact trivial|assumption|exact qae _|exact fun _ h => nomatch h|apply And.intro) fun S q pc hS hq hC hE => ?_
   conv => whnf
   repeat ((first|refine qab hC (ps) ?_|refine qab hC (known) ?_|refine qad hS (by kernel_rfl) ?_);conv => whnf)
   exact ⟨_,rfl,Wk.refl _⟩
 have ps :=qo5 hx hh s.1 s.2
 have p2 :=qkz hx hh
 by_cases hp:pcOk L M
 rotate_left
 ·rw [decide_eq_false hp] at p2
  rcases hx with ⟨rfl,_⟩ | rfl <;> rcases hh with ⟨rfl,_⟩ | rfl
  all_goals
   refine qan hE rfl (by repeat' first|exact trivial|assumption|exact qae _|exact fun _ h => nomatch h|apply And.intro) (by repeat' first|exact trivial|assumption|exact qae _|exact fun _ h => nomatch h|apply And.intro) fun S q pc hS hq hC hE => ?_
   conv => whnf
   repeat ((first|refine qab hC (ps) ?_|refine qab hC (p2) ?_|refine qab hC (known) ?_|refine qad hS (by kernel_rfl) ?_);conv => whnf)
   exact ⟨_,rfl,Wk.refl _⟩
 rw [decide_eq_true hp] at p2
 obtain ⟨N,H,rfl,rfl,hp2⟩ :=qwi hp
 have hx2:x = nkA N :=by
  rcases hx with ⟨_,e⟩ | rfl
  ·have :=hp.1.1.1
   rw [e] at this
   exact absurd this (by decide)
  ·exact qtg N
 have hh2:h = nl (zl H) :=by
  rcases hh with ⟨_,e⟩ | rfl
  ·have :=hp.1.2.1
   rw [e] at this
   exact absurd this (by decide)
  ·rfl
 subst hx2 hh2
 have p1 :=qpe hp2
 by_cases d0:0 ≤ digit
 rotate_left
 ·have c1:decide (digit < 0) = true :=decide_eq_true (Int.not_le.1 d0)
  refine qan hE rfl (by repeat' first|exact trivial|assumption|exact qae _|exact fun _ h => nomatch h|apply And.intro) (by repeat' first|exact trivial|assumption|exact qae _|exact fun _ h => nomatch h|apply And.intro) fun S q pc hS hq hC hE => ?_
  conv => whnf
  repeat ((first|refine qaj c1 ?_|refine qai c1 ?_|refine pkT c1 ?_|refine qaa c1 ?_|refine qar (gft c1) ?_|refine qas (gft c1) ?_|refine pkF (gft c1) ?_|refine qac (gft c1) ?_|refine qab hC (ps) ?_|refine qab hC (p2) ?_|refine qab hC (known) ?_|refine qad hS (by kernel_rfl) ?_);conv => whnf)
  exact ⟨_,rfl,Wk.refl _⟩
 have c1:decide (digit < 0) = false :=decide_eq_false (Int.not_lt.2 d0)
 by_cases d9:digit ≤ 9
 rotate_left
 ·have c2:decide (digit > 9) = true :=decide_eq_true (Int.not_le.1 d9)
  refine qan hE rfl (by repeat' first|exact trivial|assumption|exact qae _|exact fun _ h => nomatch h|apply And.intro) (by repeat' first|exact trivial|assumption|exact qae _|exact fun _ h => nomatch h|apply And.intro) fun S q pc hS hq hC hE => ?_
  conv => whnf
  repeat ((first|refine qar c1 ?_|refine qas c1 ?_|refine pkF c1 ?_|refine qac c1 ?_|refine qaj (gff c1) ?_|refine qai (gff c1) ?_|refine pkT (gff c1) ?_|refine qaa (gff c1) ?_|refine qaj c2 ?_|refine qai c2 ?_|refine pkT c2 ?_|refine qaa c2 ?_|refine qab hC (ps) ?_|refine qab hC (p2) ?_|refine qab hC (known) ?_|refine qad hS (by kernel_rfl) ?_);conv => whnf)
  exact ⟨_,rfl,Wk.refl _⟩
 have c2:decide (digit > 9) = false :=decide_eq_false (Int.not_lt.2 d9)
 obtain ⟨k,ek⟩ : ∃ k,digit = Int.ofNat k :=⟨digit.toNat,(Int.toNat_of_nonneg d0).symm⟩
 have hk:k < 10 :=by rw [ek] at d9;have:(k:Int) ≤ 9 :=d9;omega
 by_cases a0:0 ≤ at_
 rotate_left
 ·have c3:decide (at_ < 0) = true :=decide_eq_true (Int.not_le.1 a0)
  refine qan hE rfl (by repeat' first|exact trivial|assumption|exact qae _|exact fun _ h => nomatch h|apply And.intro) (by repeat' first|exact trivial|assumption|exact qae _|exact fun _ h => nomatch h|apply And.intro) fun S q pc hS hq hC hE => ?_
  conv => whnf
  repeat ((first|refine qar c1 ?_|refine qas c1 ?_|refine pkF c1 ?_|refine qac c1 ?_|refine qaj (gff c1) ?_|refine qai (gff c1) ?_|refine pkT (gff c1) ?_|refine qaa (gff c1) ?_|refine qar c2 ?_|refine qas c2 ?_|refine pkF c2 ?_|refine qac c2 ?_|refine qaj c3 ?_|refine qai c3 ?_|refine pkT c3 ?_|refine qaa c3 ?_|refine qar (gft c3) ?_|refine qas (gft c3) ?_|refine pkF (gft c3) ?_|refine qac (gft c3) ?_|refine qab hC (ps) ?_|refine qab hC (p1) ?_|refine qab hC (p2) ?_|refine qab hC (known) ?_|refine qad hS (by kernel_rfl) ?_);conv => whnf)
  exact ⟨_,rfl,Wk.refl _⟩
 have c3:decide (at_ < 0) = false :=decide_eq_false (Int.not_lt.2 a0)
 by_cases hi:at_.toNat < (prtB N H).length
 rotate_left
 ·have c4:decide (at_ ≥ ((prtB N H).length:Int)) = true :=decide_eq_true (by omega)
  refine qan hE rfl (by repeat' first|exact trivial|assumption|exact qae _|exact fun _ h => nomatch h|apply And.intro) (by repeat' first|exact trivial|assumption|exact qae _|exact fun _ h => nomatch h|apply And.intro) fun S q pc hS hq hC hE => ?_
  conv => whnf
  repeat ((first|refine qar c1 ?_|refine qas c1 ?_|refine pkF c1 ?_|refine qac c1 ?_|refine qaj (gff c1) ?_|refine qai (gff c1) ?_|refine pkT (gff c1) ?_|refine qaa (gff c1) ?_|refine qar c2 ?_|refine qas c2 ?_|refine pkF c2 ?_|refine qac c2 ?_|refine qar c3 ?_|refine qas c3 ?_|refine pkF c3 ?_|refine qac c3 ?_|refine qaj (gff c3) ?_|refine qai (gff c3) ?_|refine pkT (gff c3) ?_|refine qaa (gff c3) ?_|refine qaj c4 ?_|refine qai c4 ?_|refine pkT c4 ?_|refine qaa c4 ?_|refine qar (gft c4) ?_|refine qas (gft c4) ?_|refine pkF (gft c4) ?_|refine qac (gft c4) ?_|refine qab hC (ps) ?_|refine qab hC (p1) ?_|refine qab hC (p2) ?_|refine qab hC (known) ?_|refine qad hS (by kernel_rfl) ?_);conv => whnf)
  exact ⟨_,rfl,Wk.refl _⟩
 have c4:decide (at_ ≥ ((prtB N H).length:Int)) = false :=decide_eq_false (by omega)
 have ia:inR at_ (prtB N H).length = true :=by
  rw [show at_ = Int.ofNat at_.toNat from (Int.toNat_of_nonneg a0).symm]
  exact qaq hi
 have i0:decide (0 ≤ at_) = true :=decide_eq_true a0
 have i1:decide (at_ < ((prtB N H).length:Int)) = true :=decide_eq_true (by omega)
 obtain ⟨b,hb⟩ : ∃ b,b = (prtB N H).getD at_.toNat 0 :=⟨_,rfl⟩
 have hba :=qhm hi
 rw [← hb] at hba
 obtain ⟨v,hv⟩ : ∃ v:Int,v = b.toNat :=⟨_,rfl⟩
 rw [← hv] at hba
 by_cases b1:48 ≤ v
 rotate_left
 ·have c5:decide (v < 48) = true :=decide_eq_true (Int.not_le.1 b1)
  refine qan hE rfl (by repeat' first|exact trivial|assumption|exact qae _|exact fun _ h => nomatch h|apply And.intro) (by repeat' first|exact trivial|assumption|exact qae _|exact fun _ h => nomatch h|apply And.intro) fun S q pc hS hq hC hE => ?_
  conv => whnf
  repeat ((first|refine qal (hba) ?_|refine qar c1 ?_|refine qas c1 ?_|refine pkF c1 ?_|refine qac c1 ?_|refine qaj (gff c1) ?_|refine qai (gff c1) ?_|refine pkT (gff c1) ?_|refine qaa (gff c1) ?_|refine qar c2 ?_|refine qas c2 ?_|refine pkF c2 ?_|refine qac c2 ?_|refine qar c3 ?_|refine qas c3 ?_|refine pkF c3 ?_|refine qac c3 ?_|refine qaj (gff c3) ?_|refine qai (gff c3) ?_|refine pkT (gff c3) ?_|refine qaa (gff c3) ?_|refine qar c4 ?_|refine qas c4 ?_|refine pkF c4 ?_|refine qac c4 ?_|refine qaj (gff c4) ?_|refine qai (gff c4) ?_|refine pkT (gff c4) ?_|refine qaa (gff c4) ?_|refine qaj c5 ?_|refine qai c5 ?_|refine pkT c5 ?_|refine qaa c5 ?_|refine qar (gft c5) ?_|refine qas (gft c5) ?_|refine pkF (gft c5) ?_|refine qac (gft c5) ?_|refine qaj i0 ?_|refine qai i0 ?_|refine pkT i0 ?_|refine qaa i0 ?_|refine qaj i1 ?_|refine qai i1 ?_|refine pkT i1 ?_|refine qaa i1 ?_|refine qab hC (ps) ?_|refine qab hC (p1) ?_|refine qab hC (p2) ?_|refine qab hC (known) ?_|refine qad hS (by kernel_rfl) ?_);conv => whnf)
  exact ⟨_,rfl,Wk.refl _⟩
 have c5:decide (v < 48) = false :=decide_eq_false (Int.not_lt.2 b1)
 by_cases b2:v ≤ 57
 rotate_left
 ·have c6:decide (v > 57) = true :=decide_eq_true (Int.not_le.1 b2)
  refine qan hE rfl (by repeat' first|exact trivial|assumption|exact qae _|exact fun _ h => nomatch h|apply And.intro) (by repeat' first|exact trivial|assumption|exact qae _|exact fun _ h => nomatch h|apply And.intro) fun S q pc hS hq hC hE => ?_
  conv => whnf
  repeat ((first|refine qal (hba) ?_|refine qar c1 ?_|refine qas c1 ?_|refine pkF c1 ?_|refine qac c1 ?_|refine qaj (gff c1) ?_|refine qai (gff c1) ?_|refine pkT (gff c1) ?_|refine qaa (gff c1) ?_|refine qar c2 ?_|refine qas c2 ?_|refine pkF c2 ?_|refine qac c2 ?_|refine qar c3 ?_|refine qas c3 ?_|refine pkF c3 ?_|refine qac c3 ?_|refine qaj (gff c3) ?_|refine qai (gff c3) ?_|refine pkT (gff c3) ?_|refine qaa (gff c3) ?_|refine qar c4 ?_|refine qas c4 ?_|refine pkF c4 ?_|refine qac c4 ?_|refine qaj (gff c4) ?_|refine qai (gff c4) ?_|refine pkT (gff c4) ?_|refine qaa (gff c4) ?_|refine qar c5 ?_|refine qas c5 ?_|refine pkF c5 ?_|refine qac c5 ?_|refine qaj (gff c5) ?_|refine qai (gff c5) ?_|refine pkT (gff c5) ?_|refine qaa (gff c5) ?_|refine qaj c6 ?_|refine qai c6 ?_|refine pkT c6 ?_|refine qaa c6 ?_|refine qar (gft c6) ?_|refine qas (gft c6) ?_|refine pkF (gft c6) ?_|refine qac (gft c6) ?_|refine qaj i0 ?_|refine qai i0 ?_|refine pkT i0 ?_|refine qaa i0 ?_|refine qaj i1 ?_|refine qai i1 ?_|refine pkT i1 ?_|refine qaa i1 ?_|refine qab hC (ps) ?_|refine qab hC (p1) ?_|refine qab hC (p2) ?_|refine qab hC (known) ?_|refine qad hS (by kernel_rfl) ?_);conv => whnf)
  exact ⟨_,rfl,Wk.refl _⟩
 have c6:decide (v > 57) = false :=decide_eq_false (Int.not_lt.2 b2)
 have us :=qvv b.toNat (by omega) (by omega)
 rw [show Int.ofNat b.toNat = v from hv.symm] at us
 by_cases e:b.toNat - 48 = k
 ·have c7:(IntKind.i64.wrap (IntKind.u8.wrap (v - 48)) == digit) = true :=by rw [us,e,ek];exact beq_self_eq_true _
  refine qan hE rfl (by repeat' first|exact trivial|assumption|exact qae _|exact fun _ h => nomatch h|apply And.intro) (by repeat' first|exact trivial|assumption|exact qae _|exact fun _ h => nomatch h|apply And.intro) fun S q pc hS hq hC hE => ?_
  conv => whnf
  repeat ((first|refine qal (hba) ?_|refine qar c1 ?_|refine qas c1 ?_|refine pkF c1 ?_|refine qac c1 ?_|refine qaj (gff c1) ?_|refine qai (gff c1) ?_|refine pkT (gff c1) ?_|refine qaa (gff c1) ?_|refine qar c2 ?_|refine qas c2 ?_|refine pkF c2 ?_|refine qac c2 ?_|refine qar c3 ?_|refine qas c3 ?_|refine pkF c3 ?_|refine qac c3 ?_|refine qaj (gff c3) ?_|refine qai (gff c3) ?_|refine pkT (gff c3) ?_|refine qaa (gff c3) ?_|refine qar c4 ?_|refine qas c4 ?_|refine pkF c4 ?_|refine qac c4 ?_|refine qaj (gff c4) ?_|refine qai (gff c4) ?_|refine pkT (gff c4) ?_|refine qaa (gff c4) ?_|refine qar c5 ?_|refine qas c5 ?_|refine pkF c5 ?_|refine qac c5 ?_|refine qaj (gff c5) ?_|refine qai (gff c5) ?_|refine pkT (gff c5) ?_|refine qaa (gff c5) ?_|refine qar c6 ?_|refine qas c6 ?_|refine pkF c6 ?_|refine qac c6 ?_|refine qaj (gff c6) ?_|refine qai (gff c6) ?_|refine pkT (gff c6) ?_|refine qaa (gff c6) ?_|refine qaj c7 ?_|refine qai c7 ?_|refine pkT c7 ?_|refine qaa c7 ?_|refine qaj i0 ?_|refine qai i0 ?_|refine pkT i0 ?_|refine qaa i0 ?_|refine qaj i1 ?_|refine qai i1 ?_|refine pkT i1 ?_|refine qaa i1 ?_|refine qab hC (ps) ?_|refine qab hC (p1) ?_|refine qab hC (p2) ?_|refine qab hC (known) ?_|refine qad hS (by kernel_rfl) ?_);conv => whnf)
  exact ⟨_,rfl,Wk.refl _⟩
 have c7:(IntKind.i64.wrap (IntKind.u8.wrap (v - 48)) == digit) = false :=beq_eq_false_iff_ne.2 fun z => e (Int.ofNat.inj (us.symm.trans (z.trans ek)))
 obtain ⟨k1,k2,k3⟩ :=qw7 k hk
 have pl :=quj hp2
 have hno:¬ ∃ N' H',isT ((prtB N H).set at_.toNat (dgt k)) N' H' :=qo1 hp2.okT (by have :=hp2.l5;omega) pl.2 hi (by rw [← hb];omega) (by rw [← hb];omega) k1 k2 (by rw [← hb];intro z;rw [z,k3] at e;omega)
 have p3 :=qno (s :=(prtB N H).set at_.toNat (dgt k)) (by rw [List.length_set];exact pl.1) hno
 have c8:decide (0 < (prtB N H).length) = true :=decide_eq_true (by omega)
 have bl:(byA (prtB N H)).length = (prtB N H).length :=List.length_map _
 refine qan hE rfl (by repeat' first|exact trivial|assumption|exact qae _|exact fun _ h => nomatch h|apply And.intro) (by repeat' first|exact trivial|assumption|exact qae _|exact fun _ h => nomatch h|apply And.intro) fun S q pc hS hq hC hE => ?_
 conv => whnf
 repeat ((first|refine qal (hba) ?_|refine qar c1 ?_|refine qas c1 ?_|refine pkF c1 ?_|refine qac c1 ?_|refine qaj (gff c1) ?_|refine qai (gff c1) ?_|refine pkT (gff c1) ?_|refine qaa (gff c1) ?_|refine qar c2 ?_|refine qas c2 ?_|refine pkF c2 ?_|refine qac c2 ?_|refine qar c3 ?_|refine qas c3 ?_|refine pkF c3 ?_|refine qac c3 ?_|refine qaj (gff c3) ?_|refine qai (gff c3) ?_|refine pkT (gff c3) ?_|refine qaa (gff c3) ?_|refine qar c4 ?_|refine qas c4 ?_|refine pkF c4 ?_|refine qac c4 ?_|refine qaj (gff c4) ?_|refine qai (gff c4) ?_|refine pkT (gff c4) ?_|refine qaa (gff c4) ?_|refine qar c5 ?_|refine qas c5 ?_|refine pkF c5 ?_|refine qac c5 ?_|refine qaj (gff c5) ?_|refine qai (gff c5) ?_|refine pkT (gff c5) ?_|refine qaa (gff c5) ?_|refine qar c6 ?_|refine qas c6 ?_|refine pkF c6 ?_|refine qac c6 ?_|refine qaj (gff c6) ?_|refine qai (gff c6) ?_|refine pkT (gff c6) ?_|refine qaa (gff c6) ?_|refine qar c7 ?_|refine qas c7 ?_|refine pkF c7 ?_|refine qac c7 ?_|refine qaj i0 ?_|refine qai i0 ?_|refine pkT i0 ?_|refine qaa i0 ?_|refine qaj i1 ?_|refine qai i1 ?_|refine pkT i1 ?_|refine qaa i1 ?_|refine qaj c8 ?_|refine qai c8 ?_|refine pkT c8 ?_|refine qaa c8 ?_|refine qab hC (ps) ?_|refine qab hC (p1) ?_|refine qab hC (p2) ?_|refine qad hS (by kernel_rfl) ?_);conv => whnf)
 refine qso bl ?_
 intro t ht
 conv => whnf
 have gt:t.get (0 + at_.toNat * 1) = some (.int .u8 b.toNat) :=by
  rw [ht,Nat.zero_add,Nat.mul_one,hb]
  simp [byA,hi]
 have b3:Nat.ble (0 + at_.toNat * 1 + 1) (prtB N H).length = true :=Nat.ble_eq_true_of_le (by omega)
 have ed:IntKind.u8.wrap (IntKind.i64.wrap (48 + digit)) = Int.ofNat (dgt k).toNat :=by rw [ek];exact qvx k hk
 repeat ((first|refine qaj ia ?_|refine qai ia ?_|refine pkT ia ?_|refine qaa ia ?_|refine qaj i0 ?_|refine qai i0 ?_|refine pkT i0 ?_|refine qaa i0 ?_|refine qaj i1 ?_|refine qai i1 ?_|refine pkT i1 ?_|refine qaa i1 ?_|refine qaj b3 ?_|refine qai b3 ?_|refine pkT b3 ?_|refine qaa b3 ?_|refine qad hS (by kernel_rfl) ?_);conv => whnf)
 refine qku gt ?_
 have hl2:(byA ((prtB N H).set at_.toNat (dgt k))).length = (prtB N H).length :=by unfold byA;rw [List.length_map,List.length_set]
 have gl:qew (tset (pathOf (0 + at_.toNat * 1)) t (.int .u8 (IntKind.u8.wrap (IntKind.i64.wrap (48 + digit))))) 0 (prtB N H).length = some (byA ((prtB N H).set at_.toNat (dgt k))) :=by
  rw [← hl2]
  refine qj6 _ _ fun j hj => ?_
  rw [qfk gt,ed,Nat.zero_add,Nat.zero_add,Nat.mul_one]
  by_cases q:j = at_.toNat
  ·rw [if_pos q,q]
   simp [byA,hi]
  ·rw [if_neg q,ht]
   simp only [byA,List.getElem?_map]
   rw [List.getElem?_set_ne (Ne.symm q)]
 have c9:decide (0 + (prtB N H).length ≤ (prtB N H).length) = true :=decide_eq_true (by omega)
 conv => whnf
 repeat ((first|refine qal (qvk gl (qkj _)) ?_|refine qaj c9 ?_|refine qai c9 ?_|refine pkT c9 ?_|refine qaa c9 ?_|refine qab hC (p3) ?_|refine qab hC (qpc) ?_|refine qab hC (known) ?_|refine qad hS (by kernel_rfl) ?_);conv => whnf)
 exact ⟨_,rfl,Wk.refl _⟩
end
end Go.Abs.Seat
