/-
  The best changes, as the program has them.
-/
import Derived.Test.YtlmadgdonalncaaGreatDoorB13
namespace Go.Abs.Seat
noncomputable section
open Go Go.Abs Go.Proofs.Tryz
set_option maxRecDepth 100000
set_option maxHeartbeats 40000000
attribute [local irreducible] pEq
theorem qfh {α:Type} {f:Nat → Option α} {x:α}:∀ {n k:Nat},fstO f k n = some x → ∃ j,f j = some x
 | 0,_,h => by cases h
 |n + 1,k,h => by
  rw [fstO] at h
  cases e:f k with
  |some y => rw [e] at h;exact ⟨k,by rw [e];exact h⟩
  |none => rw [e] at h;exact qfh h
theorem qil {g:List Lk → Nat → Option (List Lk)} {k:Nat} (hg:∀ now fr l,g now fr = some l → l.length = k) {N:List Lk} {lo hi:Nat}:∀ now fr l,srS g N lo hi now fr = some l → l.length = k + 1 :=fun now fr l h => by
 obtain ⟨i,h⟩ :=qfh h
 obtain ⟨a,h⟩ :=qfh h
 obtain ⟨b,h⟩ :=qfh h
 unfold stC at h
 split at h
 ·cases h
 ·cases e:g (chN now i a b) (i + 1) with
  |none => rw [e] at h;cases h
  |some m =>
   rw [e] at h
   cases h
   rw [List.length_cons,hg _ _ _ e]
theorem qgs {N:List Lk} {H:List Nat} {hand:Nat} {t:Nat × Nat}:∀ now fr l,sr0 N H hand t now fr = some l → l.length = 0 :=fun now fr l h => by
 unfold sr0 at h
 split at h
 ·cases h;rfl
 ·cases h
def chR (N:List Lk) (H:List Nat) (lo hi hand:Nat) (t:Nat × Nat):Option (List Lk) :=
 orE (sr0 N H hand t N 0) (orE (srS (sr0 N H hand t) N lo hi N 0) (srS (srS (sr0 N H hand t) N lo hi) N lo hi N 0))
def chV:Option (List Lk) → AV
 |none => .tup [.nils,iv 5]
 |some [] => .tup [.nils,iv 0]
 |some (c :: r) => .tup [nkA (c :: r),iv 0]
theorem changes_pure {N:List Lk} (h:okN N) (h1:1 ≤ N.length) (hN:N.length ≤ 5) {H:List Nat} (hH:hdN N.length H) (pP:Pure prog 89 [.agg [nkA N,nl (zl H)]] (.bool true)) {lo hi n d hand:Nat} (hlo:4 ≤ lo) (hle:lo ≤ hi) (hhi:hi ≤ 60) (hw:hi - lo ≤ 10) (hh:hand < H.length) (hn:n ≤ 50000) (hd:1 ≤ d ∧ d ≤ 50000) :
  Pure prog 52 [.agg [nkA N,nl (zl H)],nv lo,nv hi,nv hand,fv (Int.ofNat n) (Int.ofNat d)] (chV (chR N H lo hi hand (n,d))) :=by
 have lN :=qa5 (cL N)
 have lM :=qau (zl H)
 have lR :=qae (zp (rtL N (N.length + 1)))
 have hz :=qcc H
 have pr:Pure prog 106 [nv lo,nv hi] (.bool true) :=by
  have :=qf0 (Int.ofNat lo) (Int.ofNat hi)
  rwa [decide_eq_true (show (tth (Int.ofNat lo) ∧ tth (Int.ofNat hi)) ∧ Int.ofNat lo ≤ Int.ofNat hi from ⟨⟨tN_i ⟨hlo,by omega⟩,tN_i ⟨by omega,hhi⟩⟩,Int.ofNat_le.2 hle⟩)] at this
 have pf:Pure prog 107 [fv (Int.ofNat n) (Int.ofNat d)] (.bool true) :=by
  have :=qex (Int.ofNat n) (Int.ofNat d)
  rwa [decide_eq_true (qwt hn hd.1 hd.2)] at this
 have c3:decide (IntKind.i64.wrap (Int.ofNat hi - Int.ofNat lo) > 10) = false :=by
  rw [qev (by show _ ≤ (hi:Int) - (lo:Int);omega) (by show (hi:Int) - (lo:Int) < _;omega)]
  exact decide_eq_false (by show ¬ (10:Int) < (hi:Int) - (lo:Int);omega)
 have pin:Pure prog 101 [nv hand,iv 0,iv (IntKind.i64.wrap (((zl H).length:Int) - 1))] (.bool true) :=by
  have :=qbk (Int.ofNat hand) 0 (IntKind.i64.wrap (((zl H).length:Int) - 1))
  rwa [decide_eq_true (by rw [qev (by omega) (by have :=hH.l4;omega)];exact ⟨Int.natCast_nonneg _,by show (hand:Int) ≤ _;omega⟩)] at this
 have pw :=qgm h h1 hN (zl H)
 unfold wiV at pw
 have s0 :=qjw h h h1 hN rfl hH lo hi hh (t :=(n,d)) hn hd.2
 have q1 :=ql8 h h1 hN hlo hle hhi (k :=0) (by decide) qgs (fun now fr a b _ => qjw h a h1 hN b hH lo hi hh (t :=(n,d)) hn hd.2 fr)
 have q2 :=ql8 h h1 hN hlo hle hhi (k :=1) (by decide) (qil qgs) q1
 have q0 :=s0 0
 have q1 :=q1 N 0 h rfl (Nat.zero_le _)
 have q2 :=q2 N 0 h rfl (Nat.zero_le _)
 have L1 :=qil (N :=N) (lo :=lo) (hi :=hi) (qgs (N :=N) (H :=H) (hand :=hand) (t :=(n,d))) N 0
 have L2 :=qil (N :=N) (lo :=lo) (hi :=hi) (qil (N :=N) (lo :=lo) (hi :=hi) (qgs (N :=N) (H :=H) (hand :=hand) (t :=(n,d)))) N 0
 have L0 :=qgs (N :=N) (H :=H) (hand :=hand) (t :=(n,d)) N 0
 unfold chR
 generalize sr0 N H hand (n,d) N 0 = r0 at q0 L0 ⊢
 generalize srS (sr0 N H hand (n,d)) N lo hi N 0 = r1 at q1 L1 ⊢
 generalize srS (srS (sr0 N H hand (n,d)) N lo hi) N lo hi N 0 = r2 at q2 L2 ⊢
 clear s0
 have d1:decide (IntKind.i64.wrap (0 + 1) < 3) = true :=by rw [up1];rfl
 have d2:decide (IntKind.i64.wrap (IntKind.i64.wrap (0 + 1) + 1) < 3) = true :=by rw [up2];rfl
 have d3:decide (IntKind.i64.wrap (IntKind.i64.wrap (IntKind.i64.wrap (0 + 1) + 1) + 1) < 3) = false :=by rw [up3];rfl
 have q1:HFun prog 108 [.agg [nkA N,nl (zl H)],iv 0,iv (IntKind.i64.wrap (0 + 1)),.ptr 12 0,.ptr 3 0,.ptr 13 0,.ptr 0 0,.ptr 1 0,.ptr 2 0,.ptr 16 0] (hv (hpC N H lo hi hand (n,d))) 17 (srV r1) (hv (hpC N H lo hi hand (n,d))) :=by rw [up1];exact q1
 have q2:HFun prog 108 [.agg [nkA N,nl (zl H)],iv 0,iv (IntKind.i64.wrap (IntKind.i64.wrap (0 + 1) + 1)),.ptr 12 0,.ptr 3 0,.ptr 13 0,.ptr 0 0,.ptr 1 0,.ptr 2 0,.ptr 16 0] (hv (hpC N H lo hi hand (n,d))) 17 (srV r2) (hv (hpC N H lo hi hand (n,d))) :=by rw [up2];exact q2
 rcases r0 with _ | l0
 ·have q0:HFun prog 108 [.agg [nkA N,nl (zl H)],iv 0,iv (0),.ptr 12 0,.ptr 3 0,.ptr 13 0,.ptr 0 0,.ptr 1 0,.ptr 2 0,.ptr 16 0] (hv (hpC N H lo hi hand (n,d))) 17 (.tup [.nils,.bool false]) (hv (hpC N H lo hi hand (n,d))) :=q0
  rcases r1 with _ | l1
  ·have q1:HFun prog 108 [.agg [nkA N,nl (zl H)],iv 0,iv (IntKind.i64.wrap (0 + 1)),.ptr 12 0,.ptr 3 0,.ptr 13 0,.ptr 0 0,.ptr 1 0,.ptr 2 0,.ptr 16 0] (hv (hpC N H lo hi hand (n,d))) 17 (.tup [.nils,.bool false]) (hv (hpC N H lo hi hand (n,d))) :=q1
   rcases r2 with _ | l2
   ·have q2:HFun prog 108 [.agg [nkA N,nl (zl H)],iv 0,iv (IntKind.i64.wrap (IntKind.i64.wrap (0 + 1) + 1)),.ptr 12 0,.ptr 3 0,.ptr 13 0,.ptr 0 0,.ptr 1 0,.ptr 2 0,.ptr 16 0] (hv (hpC N H lo hi hand (n,d))) 17 (.tup [.nils,.bool false]) (hv (hpC N H lo hi hand (n,d))) :=q2
    show Pure prog 52 _ (.tup [.nils,iv 5])
    refine qan hE rfl (by repeat' first|exact trivial|assumption|exact qae _|exact fun _ h => nomatch h|apply And.intro) (by repeat' first|exact trivial|assumption|exact qae _|exact fun _ h => nomatch h|apply And.intro) fun S q pc hS hq hC hE => ?_
    conv => whnf
    repeat ((first|refine qar c3 ?_|refine qas c3 ?_|refine pkF c3 ?_|refine qac c3 ?_|refine qab hC (pP) ?_|refine qab hC (pr) ?_|refine qab hC (pf) ?_|refine qab hC (pin) ?_|refine qab hC (pw) ?_|refine qad hS (by kernel_rfl) ?_);conv => whnf)
    refine qah hE hS ?_
    conv => whnf
    refine qbg hC (HFun.pureR q0 (ob17 ⟨rfl,rfl,rfl,rfl,rfl,rfl,rfl,rfl,rfl,rfl,rfl,rfl,rfl,rfl,rfl,rfl,rfl,trivial⟩)) ?_
    conv => whnf
    refine qah hE hS ?_
    conv => whnf
    refine qbg hC (HFun.pureR q1 (ob17 ⟨rfl,rfl,rfl,rfl,rfl,rfl,rfl,rfl,rfl,rfl,rfl,rfl,rfl,rfl,rfl,rfl,rfl,trivial⟩)) ?_
    conv => whnf
    refine qah hE hS ?_
    conv => whnf
    refine qbg hC (HFun.pureR q2 (ob17 ⟨rfl,rfl,rfl,rfl,rfl,rfl,rfl,rfl,rfl,rfl,rfl,rfl,rfl,rfl,rfl,rfl,rfl,trivial⟩)) ?_
    conv => whnf
    refine qah hE hS ?_
    conv => whnf
    exact ⟨_,rfl,Wk.refl _⟩
   ·have e2 :=L2 l2 rfl
    obtain ⟨c,c2,rfl⟩ : ∃ c c2,l2 = [c,c2] :=by
     match l2,e2 with
     | [c,c2],_ => exact ⟨c,c2,rfl⟩
    have q2:HFun prog 108 [.agg [nkA N,nl (zl H)],iv 0,iv (IntKind.i64.wrap (IntKind.i64.wrap (0 + 1) + 1)),.ptr 12 0,.ptr 3 0,.ptr 13 0,.ptr 0 0,.ptr 1 0,.ptr 2 0,.ptr 16 0] (hv (hpC N H lo hi hand (n,d))) 17 (.tup [.lst [nv c.1,nv c.2.1,nv c.2.2,nv c2.1,nv c2.2.1,nv c2.2.2] 2 .no,.bool true]) (hv (hpC N H lo hi hand (n,d))) :=q2
    show Pure prog 52 _ (.tup [.lst [nv c.1,nv c.2.1,nv c.2.2,nv c2.1,nv c2.2.1,nv c2.2.2] 2 .no,iv 0])
    refine qan hE rfl (by repeat' first|exact trivial|assumption|exact qae _|exact fun _ h => nomatch h|apply And.intro) (by repeat' first|exact trivial|assumption|exact qae _|exact fun _ h => nomatch h|apply And.intro) fun S q pc hS hq hC hE => ?_
    conv => whnf
    repeat ((first|refine qar c3 ?_|refine qas c3 ?_|refine pkF c3 ?_|refine qac c3 ?_|refine qab hC (pP) ?_|refine qab hC (pr) ?_|refine qab hC (pf) ?_|refine qab hC (pin) ?_|refine qab hC (pw) ?_|refine qad hS (by kernel_rfl) ?_);conv => whnf)
    refine qah hE hS ?_
    conv => whnf
    refine qbg hC (HFun.pureR q0 (ob17 ⟨rfl,rfl,rfl,rfl,rfl,rfl,rfl,rfl,rfl,rfl,rfl,rfl,rfl,rfl,rfl,rfl,rfl,trivial⟩)) ?_
    conv => whnf
    refine qah hE hS ?_
    conv => whnf
    refine qbg hC (HFun.pureR q1 (ob17 ⟨rfl,rfl,rfl,rfl,rfl,rfl,rfl,rfl,rfl,rfl,rfl,rfl,rfl,rfl,rfl,rfl,rfl,trivial⟩)) ?_
    conv => whnf
    refine qah hE hS ?_
    conv => whnf
    refine qbg hC (HFun.pureR q2 (ob17 ⟨rfl,rfl,rfl,rfl,rfl,rfl,rfl,rfl,rfl,rfl,rfl,rfl,rfl,rfl,rfl,rfl,rfl,trivial⟩)) ?_
    conv => whnf
    exact ⟨_,rfl,Wk.refl _⟩
  ·have e1 :=L1 l1 rfl
   obtain ⟨c,rfl⟩ : ∃ c,l1 = [c] :=by
    match l1,e1 with
    | [c],_ => exact ⟨c,rfl⟩
   have q1:HFun prog 108 [.agg [nkA N,nl (zl H)],iv 0,iv (IntKind.i64.wrap (0 + 1)),.ptr 12 0,.ptr 3 0,.ptr 13 0,.ptr 0 0,.ptr 1 0,.ptr 2 0,.ptr 16 0] (hv (hpC N H lo hi hand (n,d))) 17 (.tup [.lst [nv c.1,nv c.2.1,nv c.2.2] 1 .no,.bool true]) (hv (hpC N H lo hi hand (n,d))) :=q1
   show Pure prog 52 _ (.tup [.lst [nv c.1,nv c.2.1,nv c.2.2] 1 .no,iv 0])
   refine qan hE rfl (by repeat' first|exact trivial|assumption|exact qae _|exact fun _ h => nomatch h|apply And.intro) (by repeat' first|exact trivial|assumption|exact qae _|exact fun _ h => nomatch h|apply And.intro) fun S q pc hS hq hC hE => ?_
   conv => whnf
   repeat ((first|refine qar c3 ?_|refine qas c3 ?_|refine pkF c3 ?_|refine qac c3 ?_|refine qab hC (pP) ?_|refine qab hC (pr) ?_|refine qab hC (pf) ?_|refine qab hC (pin) ?_|refine qab hC (pw) ?_|refine qad hS (by kernel_rfl) ?_);conv => whnf)
   refine qah hE hS ?_
   conv => whnf
   refine qbg hC (HFun.pureR q0 (ob17 ⟨rfl,rfl,rfl,rfl,rfl,rfl,rfl,rfl,rfl,rfl,rfl,rfl,rfl,rfl,rfl,rfl,rfl,trivial⟩)) ?_
   conv => whnf
   refine qah hE hS ?_
   conv => whnf
   refine qbg hC (HFun.pureR q1 (ob17 ⟨rfl,rfl,rfl,rfl,rfl,rfl,rfl,rfl,rfl,rfl,rfl,rfl,rfl,rfl,rfl,rfl,rfl,trivial⟩)) ?_
   conv => whnf
   exact ⟨_,rfl,Wk.refl _⟩
 ·obtain rfl:l0 = [] :=List.eq_nil_of_length_eq_zero (L0 l0 rfl)
  have q0:HFun prog 108 [.agg [nkA N,nl (zl H)],iv 0,iv (0),.ptr 12 0,.ptr 3 0,.ptr 13 0,.ptr 0 0,.ptr 1 0,.ptr 2 0,.ptr 16 0] (hv (hpC N H lo hi hand (n,d))) 17 (.tup [.nils,.bool true]) (hv (hpC N H lo hi hand (n,d))) :=q0
  show Pure prog 52 _ (.tup [.nils,iv 0])
  refine qan hE rfl (by repeat' first|exact trivial|assumption|exact qae _|exact fun _ h => nomatch h|apply And.intro) (by repeat' first|exact trivial|assumption|exact qae _|exact fun _ h => nomatch h|apply And.intro) fun S q pc hS hq hC hE => ?_
  conv => whnf
  repeat ((first|refine qar c3 ?_|refine qas c3 ?_|refine pkF c3 ?_|refine qac c3 ?_|refine qab hC (pP) ?_|refine qab hC (pr) ?_|refine qab hC (pf) ?_|refine qab hC (pin) ?_|refine qab hC (pw) ?_|refine qad hS (by kernel_rfl) ?_);conv => whnf)
  refine qah hE hS ?_
  conv => whnf
  refine qbg hC (HFun.pureR q0 (ob17 ⟨rfl,rfl,rfl,rfl,rfl,rfl,rfl,rfl,rfl,rfl,rfl,rfl,rfl,rfl,rfl,rfl,rfl,trivial⟩)) ?_
  conv => whnf
  exact ⟨_,rfl,Wk.refl _⟩
end
end Go.Abs.Seat
