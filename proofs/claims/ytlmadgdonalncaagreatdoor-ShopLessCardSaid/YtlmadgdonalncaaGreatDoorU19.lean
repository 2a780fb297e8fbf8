/-
  The best changes, as the program has them.
-/
import Derived.Test.YtlmadgdonalncaaGreatDoorB13
import Derived.Test.YtlmadgdonalncaaGreatDoorU18
import Derived.Test.YtlmadgdonalncaaGreatDoorU17
import Derived.Test.YtlmadgdonalncaaGreatDoorU11
import Derived.Test.YtlmadgdonalncaaGreatDoorU10
import Derived.Test.YtlmadgdonalncaaGreatDoorU12
import Derived.Test.YtlmadgdonalncaaGreatDoorU7
namespace Go.Abs.Seat
noncomputable section
open Go Go.Abs Go.Proofs.Tryz
set_option maxRecDepth 100000
set_option maxHeartbeats 40000000
attribute [local irreducible] pEq
theorem qf3 {α:Type} {f:Nat → Option α} {x:α}:∀ {n k:Nat},fstO f k n = some x → ∃ j,f j = some x
 | 0,_,h => by cases h
 |n + 1,k,h => by
  rw [fstO] at h
  cases e:f k with
  |some y => rw [e] at h;exact ⟨k,by rw [e];exact h⟩
  |none => rw [e] at h;exact qf3 h
theorem qjm {g:List Lk → Nat → Option (List Lk)} {k:Nat} (hg:∀ now fr l,g now fr = some l → l.length = k) {N:List Lk} {lo hi:Nat}:∀ now fr l,srS g N lo hi now fr = some l → l.length = k + 1 :=fun now fr l h => by
 obtain ⟨i,h⟩ :=qf3 h
 obtain ⟨a,h⟩ :=qf3 h
 obtain ⟨b,h⟩ :=qf3 h
 unfold stC at h
 split at h
 ·cases h
 ·cases e:g (chN now i a b) (i + 1) with
  |none => rw [e] at h;cases h
  |some m =>
   rw [e] at h
   cases h
   rw [List.length_cons,hg _ _ _ e]
theorem qho {N:List Lk} {H:List Nat} {hand:Nat} {t:Nat × Nat}:∀ now fr l,sr0 N H hand t now fr = some l → l.length = 0 :=fun now fr l h => by
 unfold sr0 at h
 split at h
 ·cases h;rfl
 ·cases h
def chR (N:List Lk) (H:List Nat) (lo hi hand:Nat) (t:Nat × Nat):Option (List Lk) :=
 orE (sr0 N H hand t N 0) (orE (srS (sr0 N H hand t) N lo hi N 0) (srS (srS (sr0 N H hand t) N lo hi) N lo hi N 0))
def chV:Option (List Lk) → AV
 |none => .tup [.nils,iv 5]
 |some [] => .tup [.nils,iv 0]
 |some (c :: r) => .tup [nkA (c :: r),iv 0]
theorem changes_pure {N:List Lk} (h:okN N) (h1:1 ≤ N.length) (hN:N.length ≤ 5) {H:List Nat} (hH:hdN N.length H) (pP:Pure prog 89 [.agg [nkA N,nl (zl H)]] (.bool true)) {lo hi n d hand:Nat} (hlo:4 ≤ lo) (hle:lo ≤ hi) (hhi:hi ≤ 60) (hw:hi - lo ≤ 10) (hh:hand < H.length) (hn:n ≤ 50000) (hd:1 ≤ d ∧ d ≤ 50000) :
  Pure prog 52 [.agg [nkA N,nl (zl H)],nv lo,nv hi,nv hand,fv (Int.ofNat n) (Int.ofNat d)] (chV (chR N H lo hi hand (n,d))) :=by
 have lN :=qau (cL N)
 have lM :=qal (zl H)
 have lR :=qag (zp (rtL N (N.length + 1)))
 have hz :=qct H
 have pr:Pure prog 106 [nv lo,nv hi] (.bool true) :=by
  have :=qg0 (Int.ofNat lo) (Int.ofNat hi)
  rwa [decide_eq_true (show (tth (Int.ofNat lo) ∧ tth (Int.ofNat hi)) ∧ Int.ofNat lo ≤ Int.ofNat hi from ⟨⟨tN_i ⟨hlo,by omega⟩,tN_i ⟨by omega,hhi⟩⟩,Int.ofNat_le.2 hle⟩)] at this
 have pf:Pure prog 107 [fv (Int.ofNat n) (Int.ofNat d)] (.bool true) :=by
  have :=qfb (Int.ofNat n) (Int.ofNat d)
  rwa [decide_eq_true (qzj hn hd.1 hd.2)] at this
 have c3:decide (IntKind.i64.wrap (Int.ofNat hi - Int.ofNat lo) > 10) = false :=by
  rw [qdp (by show _ ≤ (hi:Int) - (lo:Int);omega) (by show (hi:Int) - (lo:Int) < _;omega)]
  exact decide_eq_false (by show ¬ (10:Int) < (hi:Int) - (lo:Int);omega)
 have pin:Pure prog 101 [nv hand,iv 0,iv (IntKind.i64.wrap (((zl H).length:Int) - 1))] (.bool true) :=by
  have :=qax (Int.ofNat hand) 0 (IntKind.i64.wrap (((zl H).length:Int) - 1))
  rwa [decide_eq_true (by rw [qdp (by omega) (by have :=hH.l4;omega)];exact ⟨Int.natCast_nonneg _,by show (hand:Int) ≤ _;omega⟩)] at this
 have pw :=qhj h h1 hN (zl H)
 unfold wiV at pw
 have s0 :=qk8 h h h1 hN rfl hH lo hi hh (t :=(n,d)) hn hd.2
 have q1 :=qn5 h h1 hN hlo hle hhi (k :=0) (by decide) qho (fun now fr a b _ => qk8 h a h1 hN b hH lo hi hh (t :=(n,d)) hn hd.2 fr)
 have q2 :=qn5 h h1 hN hlo hle hhi (k :=1) (by decide) (qjm qho) q1
 have q0 :=s0 0
 have q1 :=q1 N 0 h rfl (Nat.zero_le _)
 have q2 :=q2 N 0 h rfl (Nat.zero_le _)
 have L1 :=qjm (N :=N) (lo :=lo) (hi :=hi) (qho (N :=N) (H :=H) (hand :=hand) (t :=(n,d))) N 0
 have L2 :=qjm (N :=N) (lo :=lo) (hi :=hi) (qjm (N :=N) (lo :=lo) (hi :=hi) (qho (N :=N) (H :=H) (hand :=hand) (t :=(n,d)))) N 0
 have L0 :=qho (N :=N) (H :=H) (hand :=hand) (t :=(n,d)) N 0
 unfold chR
 generalize sr0 N H hand (n,d) N 0 = r0 at q0 L0 ⊢
 generalize srS (sr0 N H hand (n,d)) N lo hi N 0 = r1 at q1 L1 ⊢
 generalize srS (srS (sr0 N H hand (n,d)) N lo hi) N lo hi N 0 = r2 at q2 L2 ⊢
 clear s0
 have d1:decide (IntKind.i64.wrap (0 + 1) < 3) = true :=by rw [up1];rfl
 have d2:decide (IntKind.i64.wrap (IntKind.i64.wrap (0 + 1) + 1) < 3) = true :=by rw [up2];rfl
 have d3:decide (IntKind.i64.wrap (IntKind.i64.wrap (IntKind.i64.wrap (0 + 1) + 1) + 1) < 3) = false :=by rw [up3];rfl
 have q1:HFun prog 108 [.agg [nkA N,nl (zl H)],iv 0,iv (IntKind.i64.wrap (0 + 1)),.ptr 12 0,.ptr 3 0,.ptr 13 0,.ptr 0 0,.ptr 1 0,.ptr 2 0,.ptr 16 0] (hv (hpC N H lo hi hand (n,d))) 17 (srV r1) (hv (hpC N H lo hi hand (n,d))) :=by rw [up1];exact q1
 have q2:HFun prog 108 [.agg [nkA N,nl (zl H)],iv 0,iv (IntKind.i64.wrap (IntKind.i64.wrap (0 + 1) + 1)),.ptr 12 0,.ptr 3 0,.ptr 13 0,.ptr 0 0,.ptr 1 0,.ptr 2 0,.ptr 16 0] (hv (hpC N H lo hi hand (n,d))) 17 (srV r2) (hv (hpC N H lo hi hand (n,d))) :=by rw [up2];exact q2
 rcases r0 with _ | l0
 ·have q0:HFun prog 108 [.agg [nkA N,nl (zl H)],iv 0,iv (0),.ptr 12 0,.ptr 3 0,.ptr 13 0,.ptr 0 0,.ptr 1 0,.ptr 2 0,.ptr 16 0] (hv (hpC N H lo hi hand (n,d))) 17 (.tup [.nils,.bool false]) (hv (hpC N H lo hi hand (n,d))) :=q0
  rcases r1 with _ | l1
  ·have q1:HFun prog 108 [.agg [nkA N,nl (zl H)],iv 0,iv (IntKind.i64.wrap (0 + 1)),.ptr 12 0,.ptr 3 0,.ptr 13 0,.ptr 0 0,.ptr 1 0,.ptr 2 0,.ptr 16 0] (hv (hpC N H lo hi hand (n,d))) 17 (.tup [.nils,.bool false]) (hv (hpC N H lo hi hand (n,d))) :=q1
   rcases r2 with _ | l2
   ·have q2:HFun prog 108 [.agg [nkA N,nl (zl H)],iv 0,iv (IntKind.i64.wrap (IntKind.i64.wrap (0 + 1) + 1)),.ptr 12 0,.ptr 3 0,.ptr 13 0,.ptr 0 0,.ptr 1 0,.ptr 2 0,.ptr 16 0] (hv (hpC N H lo hi hand (n,d))) 17 (.tup [.nils,.bool false]) (hv (hpC N H lo hi hand (n,d))) :=q2
    show Pure prog 52 _ (.tup [.nils,iv 5])
    refine qas hE rfl (by repeat' first|exact trivial|assumption|exact qag _|exact fun _ h => nomatch h|apply And.intro) (by repeat' first|exact trivial|assumption|exact qag _|exact fun _ h => nomatch h|apply And.intro) fun S q pc hS hq hC hE => ?_
    conv => whnf
    repeat ((first|refine qao c3 ?_|refine qap c3 ?_|refine pkF c3 ?_|refine qac c3 ?_|refine qab hC (pP) ?_|refine qab hC (pr) ?_|refine qab hC (pf) ?_|refine qab hC (pin) ?_|refine qab hC (pw) ?_|refine qad hS (by kernel_rfl) ?_);conv => whnf)
    refine qam hE hS ?_
    conv => whnf
    refine qa6 hC (HFun.pureR q0 (ob17 ⟨rfl,rfl,rfl,rfl,rfl,rfl,rfl,rfl,rfl,rfl,rfl,rfl,rfl,rfl,rfl,rfl,rfl,trivial⟩)) ?_
    conv => whnf
    refine qam hE hS ?_
    conv => whnf
    refine qa6 hC (HFun.pureR q1 (ob17 ⟨rfl,rfl,rfl,rfl,rfl,rfl,rfl,rfl,rfl,rfl,rfl,rfl,rfl,rfl,rfl,rfl,rfl,trivial⟩)) ?_
    conv => whnf
    refine qam hE hS ?_
    conv => whnf
    refine qa6 hC (HFun.pureR q2 (ob17 ⟨rfl,rfl,rfl,rfl,rfl,rfl,rfl,rfl,rfl,rfl,rfl,rfl,rfl,rfl,rfl,rfl,rfl,trivial⟩)) ?_
    conv => whnf
    refine qam hE hS ?_
    conv => whnf
    exact ⟨_,rfl,Wk.refl _⟩
   ·have e2 :=L2 l2 rfl
    obtain ⟨c,c2,rfl⟩ : ∃ c c2,l2 = [c,c2] :=by
     match l2,e2 with
     | [c,c2],_ => exact ⟨c,c2,rfl⟩
    have q2:HFun prog 108 [.agg [nkA N,nl (zl H)],iv 0,iv (IntKind.i64.wrap (IntKind.i64.wrap (0 + 1) + 1)),.ptr 12 0,.ptr 3 0,.ptr 13 0,.ptr 0 0,.ptr 1 0,.ptr 2 0,.ptr 16 0] (hv (hpC N H lo hi hand (n,d))) 17 (.tup [.lst [nv c.1,nv c.2.1,nv c.2.2,nv c2.1,nv c2.2.1,nv c2.2.2] 2 .no,.bool true]) (hv (hpC N H lo hi hand (n,d))) :=q2
    show Pure prog 52 _ (.tup [.lst [nv c.1,nv c.2.1,nv c.2.2,nv c2.1,nv c2.2.1,nv c2.2.2] 2 .no,iv 0])
    refine qas hE rfl (by repeat' first|exact trivial|assumption|exact qag _|exact fun _ h => nomatch h|apply And.intro) (by repeat' first|exact trivial|assumption|exact qag _|exact fun _ h => nomatch h|apply And.intro) fun S q pc hS hq hC hE => ?_
    conv => whnf
    repeat ((first|refine qao c3 ?_|refine qap c3 ?_|refine pkF c3 ?_|refine qac c3 ?_|refine qab hC (pP) ?_|refine qab hC (pr) ?_|refine qab hC (pf) ?_|refine qab hC (pin) ?_|refine qab hC (pw) ?_|refine qad hS (by kernel_rfl) ?_);conv => whnf)
    refine qam hE hS ?_
    conv => whnf
    refine qa6 hC (HFun.pureR q0 (ob17 ⟨rfl,rfl,rfl,rfl,rfl,rfl,rfl,rfl,rfl,rfl,rfl,rfl,rfl,rfl,rfl,rfl,rfl,trivial⟩)) ?_
    conv => whnf
    refine qam hE hS ?_
    conv => whnf
    refine qa6 hC (HFun.pureR q1 (ob17 ⟨rfl,rfl,rfl,rfl,rfl,rfl,rfl,rfl,rfl,rfl,rfl,rfl,rfl,rfl,rfl,rfl,rfl,trivial⟩)) ?_
    conv => whnf
    refine qam hE hS ?_
    conv => whnf
    refine qa6 hC (HFun.pureR q2 (ob17 ⟨rfl,rfl,rfl,rfl,rfl,rfl,rfl,rfl,rfl,rfl,rfl,rfl,rfl,rfl,rfl,rfl,rfl,trivial⟩)) ?_
    conv => whnf
    exact ⟨_,rfl,Wk.refl _⟩
  ·have e1 :=L1 l1 rfl
   obtain ⟨c,rfl⟩ : ∃ c,l1 = [c] :=by
    match l1,e1 with
    | [c],_ => exact ⟨c,rfl⟩
   have q1:HFun prog 108 [.agg [nkA N,nl (zl H)],iv 0,iv (IntKind.i64.wrap (0 + 1)),.ptr 12 0,.ptr 3 0,.ptr 13 0,.ptr 0 0,.ptr 1 0,.ptr 2 0,.ptr 16 0] (hv (hpC N H lo hi hand (n,d))) 17 (.tup [.lst [nv c.1,nv c.2.1,nv c.2.2] 1 .no,.bool true]) (hv (hpC N H lo hi hand (n,d))) :=q1
   show Pure prog 52 _ (.tup [.lst [nv c.1,nv c.2.1,nv c.2.2] 1 .no,iv 0])
   refine qas hE rfl (by repeat' first|exact trivial|assumption|exact qag _|exact fun _ h => nomatch h|apply And.intro) (by repeat' first|exact trivial|assumption|exact qag _|exact fun _ h => nomatch h|apply And.intro) fun S q pc hS hq hC hE => ?_
   conv => whnf
   repeat ((first|refine qao c3 ?_|refine qap c3 ?_|refine pkF c3 ?_|refine qac c3 ?_|refine qab hC (pP) ?_|refine qab hC (pr) ?_|refine qab hC (pf) ?_|refine qab hC (pin) ?_|refine qab hC (pw) ?_|refine qad hS (by kernel_rfl) ?_);conv => whnf)
   refine qam hE hS ?_
   conv => whnf
   refine qa6 hC (HFun.pureR q0 (ob17 ⟨rfl,rfl,rfl,rfl,rfl,rfl,rfl,rfl,rfl,rfl,rfl,rfl,rfl,rfl,rfl,rfl,rfl,trivial⟩)) ?_
   conv => whnf
   refine qam hE hS ?_
   conv => whnf
   refine qa6 hC (HFun.pureR q1 (ob17 ⟨rfl,rfl,rfl,rfl,rfl,rfl,rfl,rfl,rfl,rfl,rfl,rfl,rfl,rfl,rfl,rfl,rfl,trivial⟩)) ?_
   conv => whnf
   exact ⟨_,rfl,Wk.refl _⟩
 ·obtain rfl:l0 = [] :=List.eq_nil_of_length_eq_zero (L0 l0 rfl)
  have q0:HFun prog 108 [.agg [nkA N,nl (zl H)],iv 0,iv (0),.ptr 12 0,.ptr 3 0,.ptr 13 0,.ptr 0 0,.ptr 1 0,.ptr 2 0,.ptr 16 0] (hv (hpC N H lo hi hand (n,d))) 17 (.tup [.nils,.bool true]) (hv (hpC N H lo hi hand (n,d))) :=q0
  show Pure prog 52 _ (.tup [.nils,iv 0])
  refine qas hE rfl (by repeat' first|exact trivial|assumption|exact qag _|exact fun _ h => nomatch h|apply And.intro) (by repeat' first|exact trivial|assumption|exact qag _|exact fun _ h => nomatch h|apply And.intro) fun S q pc hS hq hC hE => ?_
  conv => whnf
  repeat ((first|refine qao c3 ?_|refine qap c3 ?_|refine pkF c3 ?_|refine qac c3 ?_|refine qab hC (pP) ?_|refine qab hC (pr) ?_|refine qab hC (pf) ?_|refine qab hC (pin) ?_|refine qab hC (pw) ?_|refine qad hS (by kernel_rfl) ?_);conv => whnf)
  refine qam hE hS ?_
  conv => whnf
  refine qa6 hC (HFun.pureR q0 (ob17 ⟨rfl,rfl,rfl,rfl,rfl,rfl,rfl,rfl,rfl,rfl,rfl,rfl,rfl,rfl,rfl,rfl,rfl,trivial⟩)) ?_
  conv => whnf
  exact ⟨_,rfl,Wk.refl _⟩
end
end Go.Abs.Seat
namespace Go.Abs.Seat
noncomputable section
open Go Go.Abs Go.Proofs.Tryz
set_option maxRecDepth 100000
set_option maxHeartbeats 40000000
attribute [local irreducible] IntKind.wrap pEq qd1
def srP (long saw:Nat) (T:List Nat) (most:Nat):Nat → List Nat → Option (List Nat)
 | 0,now => if pkP long saw T now then some now else none
 |f + 1,now => if pkP long saw T now then fstO (fun s => srP long saw T most f (now ++ [s])) 0 (min most (mnA 0 now + 1)) else none
def nwV (v:AV) (now:List Nat):Prop :=v = .nils ∧ now = [] ∨ v = nl (zl now) ∧ now ≠ []
theorem qqt:∀ (l r:List AV),wkl (l ++ r) = wkl l ++ wkl r
 | [],_ => rfl
 |x :: l,r => by rw [List.cons_append,wkl,qqt l r];rfl
theorem qy8 (long saw:Nat) (T:List Nat):pkP long saw T [] :=⟨fun _ hi => absurd hi (Nat.not_lt_zero _),fun _ hs => absurd hs (Nat.not_lt_zero _)⟩
def qgb (long saw:Nat) (T:List Nat):Option (List Nat) :=fstO (fun m => srP long saw T m T.length []) 1 T.length
end
end Go.Abs.Seat
namespace Go.Abs.Seat
noncomputable section
open Go Go.Abs Go.Proofs.Tryz
set_option maxRecDepth 100000
def stE (saw:Nat) (E:List (Nat × Nat)) (s:Nat):Int :=if 0 < getE E s then Int.ofNat (getE E s) else -Int.ofNat saw
theorem qwa (saw s:Nat):∀ (l:List (Nat × Nat)) (a:Int),a ≤ ldI saw s l a
 | [],_ => Int.le_refl _
 |x :: r,a => by
  rw [ldI]
  refine Int.le_trans ?_ (qwa saw s r _)
  by_cases h:x.1 = s
  ·rw [if_pos h];simp only [Int.ofNat_eq_natCast];omega
  ·rw [if_neg h];exact Int.le_refl _
theorem qte (long saw:Nat):∀ (l:List (Nat × Nat)) (E:List (Nat × Nat)),(∀ x,x ∈ l → 1 ≤ x.2) → (∀ s,stE saw E s ≤ Int.ofNat long) → (fitB long saw l E = true ↔ ∀ s,ldI saw s l (stE saw E s) ≤ Int.ofNat long)
 | [],E,_,hE => ⟨fun _ => hE,fun _ => rfl⟩
 |x :: r,E,ht,hE => by
  have h1 :=ht x (List.mem_cons_self ..)
  have hv:Int.ofNat ((if 0 < getE E x.1 then getE E x.1 + saw else getE E x.1) + 2 * x.2) = stE saw E x.1 + Int.ofNat saw + Int.ofNat (2 * x.2) :=by
   unfold stE
   by_cases h:0 < getE E x.1
   ·rw [if_pos h,if_pos h];simp only [Int.ofNat_eq_natCast];omega
   ·rw [if_neg h,if_neg h,show getE E x.1 = 0 by omega];simp only [Int.ofNat_eq_natCast];omega
  have hp:0 < (if 0 < getE E x.1 then getE E x.1 + saw else getE E x.1) + 2 * x.2 :=by omega
  rw [fitB]
  generalize (if 0 < getE E x.1 then getE E x.1 + saw else getE E x.1) + 2 * x.2 = v at *
  have hst:∀ s,stE saw (putE E x.1 v) s = if x.1 = s then Int.ofNat v else stE saw E s :=fun s => by
   by_cases e:s = x.1
   ·subst e
    rw [if_pos rfl];unfold stE
    rw [qee,if_pos hp]
   ·rw [if_neg fun z => e z.symm];unfold stE
    rw [qf2 _ _ _ e]
  by_cases hl:long < v
  ·rw [if_pos hl]
   refine ⟨fun z => absurd z (by decide),fun z => ?_⟩
   have :=z x.1
   rw [ldI,if_pos rfl,← hv] at this
   have h2 :=qwa saw x.1 r (Int.ofNat v)
   simp only [Int.ofNat_eq_natCast] at *
   omega
  ·rw [if_neg hl]
   have hE2:∀ s,stE saw (putE E x.1 v) s ≤ Int.ofNat long :=fun s => by
    rw [hst]
    split
    ·exact Int.ofNat_le.2 (by omega)
    ·exact hE s
   rw [qte long saw r _ (fun y hy => ht y (List.mem_cons_of_mem _ hy)) hE2]
   have hq:∀ s,ldI saw s r (stE saw (putE E x.1 v) s) = ldI saw s (x :: r) (stE saw E s) :=fun s => by
    rw [ldI,hst]
    by_cases e:x.1 = s
    ·rw [if_pos e,if_pos e,hv,e]
    ·rw [if_neg e,if_neg e]
   exact ⟨fun z s => by rw [← hq];exact z s,fun z s => by rw [hq];exact z s⟩
def odP (l:List Nat) (m:Nat):Prop :=∀ i,i < l.length → gn l i ≤ mnA m (l.take i)
theorem qou (x:Nat) (r:List Nat) (m:Nat):odP (x :: r) m ↔ x ≤ m ∧ odP r (max m (x + 1)) :=by
 constructor
 ·intro h
  refine ⟨h 0 (Nat.succ_pos _),fun i hi => ?_⟩
  exact h (i + 1) (Nat.succ_lt_succ hi)
 ·rintro ⟨h1,h2⟩ i hi
  cases i with
  |zero => exact h1
  |succ i => exact h2 i (Nat.lt_of_succ_lt_succ hi)
theorem qm5:∀ (a b:List Nat) (m:Nat),mnA m (a ++ b) = mnA (mnA m a) b
 | [],_,_ => rfl
 |x :: a,b,m => by rw [List.cons_append,mnA,mnA,qm5 a b]
theorem qv7:∀ (l:List Nat) (m:Nat),m ≤ mnA m l
 | [],_ => Nat.le_refl _
 |x :: r,m => by rw [mnA];exact Nat.le_trans (Nat.le_max_left _ _) (qv7 r _)
theorem qh0:∀ (l:List Nat) (m:Nat) (x:Nat),x ∈ l → x < mnA m l
 |y :: r,m,x,h => by
  rw [mnA]
  rcases List.mem_cons.1 h with e | h
  ·have :=qv7 r (max m (y + 1));omega
  ·exact qh0 r _ x h
theorem qm1:∀ (l:List Nat) (m:Nat),odP l m → mnA m l ≤ m + l.length
 | [],m,_ => Nat.le_refl _
 |x :: r,m,h => by
  rw [qou] at h
  have :=qm1 r _ h.2
  rw [mnA,List.length_cons];omega
theorem gnp1 (a b:List Nat) {i:Nat} (h:i < a.length):gn (a ++ b) i = gn a i :=by
 simp [gn,List.getD,List.getElem?_append,h]
theorem gnp2 (a:List Nat) (x:Nat) (b:List Nat):gn (a ++ x :: b) a.length = x :=by simp [gn,List.getD]
theorem qxv {a b:List Nat} {m:Nat} (h:odP (a ++ b) m):odP a m :=fun i hi => by
 have :=h i (by rw [List.length_append];omega)
 rwa [gnp1 a b hi,List.take_append_of_le_length (by omega)] at this
theorem quz {a b:List Nat} {x:Nat} {m:Nat} (h:odP (a ++ x :: b) m):x ≤ mnA m a :=by
 have :=h a.length (by rw [List.length_append,List.length_cons];omega)
 rwa [gnp2,List.take_append_of_le_length (Nat.le_refl _),List.take_length] at this
theorem quy {a:List Nat} {x m:Nat} (h:odP a m) (hx:x ≤ mnA m a):odP (a ++ [x]) m :=fun i hi => by
 rw [List.length_append] at hi
 by_cases e:i < a.length
 ·rw [gnp1 a _ e,List.take_append_of_le_length (by omega)];exact h i e
 ·obtain rfl:i = a.length :=by simp only [List.length_cons,List.length_nil] at hi;omega
  rw [gnp2,List.take_append_of_le_length (Nat.le_refl _),List.take_length];exact hx
theorem qz9 {T:List Nat} (sh:List Nat) {p:Nat → Prop} (ht:∀ x,x ∈ T → p x):∀ x,x ∈ sh.zip T → p x.2 :=fun x hx => ht _ (List.of_mem_zip (a :=x.1) (b :=x.2) hx).2
theorem qv9 (saw s:Nat):∀ (l:List (Nat × Nat)) (a:Int),(∀ x,x ∈ l → x.1 ≠ s) → ldI saw s l a = a
 | [],_,_ => rfl
 |x :: r,a,h => by rw [ldI,if_neg (h x (List.mem_cons_self ..)),qv9 saw s r a fun y hy => h y (List.mem_cons_of_mem _ hy)]
theorem qgj {long saw:Nat} {T sh:List Nat} (ht:∀ x,x ∈ T → 1 ≤ x):pkP long saw T sh ↔ odP sh 0 ∧ fitB long saw (sh.zip T) [] = true :=by
 have h0:∀ s,stE saw [] s = -Int.ofNat saw :=fun s => rfl
 have h1:∀ s,stE saw [] s ≤ Int.ofNat long :=fun s => by rw [h0];simp only [Int.ofNat_eq_natCast];omega
 rw [qte long saw _ [] (qz9 sh ht) h1]
 constructor
 ·rintro ⟨a,b⟩
  refine ⟨a,fun s => ?_⟩
  rw [h0]
  by_cases h:s < mnA 0 sh
  ·exact b s h
  ·rw [qv9]
   ·rw [← h0 s];exact h1 s
   ·intro x hx e
    have :=qh0 sh 0 x.1 (List.of_mem_zip (a :=x.1) (b :=x.2) hx).1
    omega
 ·rintro ⟨a,b⟩
  exact ⟨a,fun s _ => by have :=b s;rwa [h0] at this⟩
theorem qpg (long saw:Nat):∀ (a b E:List (Nat × Nat)),fitB long saw (a ++ b) E = true → fitB long saw a E = true
 | [],_,_,_ => rfl
 |x :: a,b,E,h => by
  rw [List.cons_append,fitB] at h
  rw [fitB]
  generalize (if 0 < getE E x.1 then getE E x.1 + saw else getE E x.1) + 2 * x.2 = v at *
  by_cases hl:long < v
  ·rw [if_pos hl] at h;cases h
  ·rw [if_neg hl] at h ⊢;exact qpg long saw a b _ h
theorem qqn:∀ (a b T:List Nat),∃ r,(a ++ b).zip T = a.zip T ++ r
 | [],b,T => ⟨b.zip T,by simp⟩
 |x :: a,b,[] => ⟨[],by simp⟩
 |x :: a,b,t :: T => by
  obtain ⟨r,h⟩ :=qqn a b T
  exact ⟨r,by rw [List.cons_append,List.zip_cons_cons,h];rfl⟩
theorem qrn {long saw:Nat} {T a b:List Nat} (ht:∀ x,x ∈ T → 1 ≤ x) (h:pkP long saw T (a ++ b)):pkP long saw T a :=by
 rw [qgj ht] at h ⊢
 obtain ⟨r,hr⟩ :=qqn a b T
 rw [hr] at h
 exact ⟨qxv h.1,qpg long saw _ _ _ h.2⟩
theorem qph (long saw:Nat):∀ (l E:List (Nat × Nat)),fitB long saw l E = true → ∀ x,x ∈ l → 2 * x.2 ≤ long
 |x :: l,E,h,y,hy => by
  rw [fitB] at h
  rcases List.mem_cons.1 hy with e | hy
  ·subst e
   by_cases hl:long < (if 0 < getE E y.1 then getE E y.1 + saw else getE E y.1) + 2 * y.2
   ·rw [if_pos hl] at h;cases h
   ·omega
  ·by_cases hl:long < (if 0 < getE E x.1 then getE E x.1 + saw else getE E x.1) + 2 * x.2
   ·rw [if_pos hl] at h;cases h
   ·rw [if_neg hl] at h;exact qph long saw l _ h y hy
def idL:Nat → List Nat → List Nat
 | _,[] => []
 |k,_ :: r => k :: idL (k + 1) r
theorem qs0:∀ (T:List Nat) (k:Nat),(idL k T).length = T.length
 | [],_ => rfl
 | _ :: r,k => by rw [idL,List.length_cons,List.length_cons,qs0 r]
theorem qsz:∀ (T:List Nat) (k:Nat),odP (idL k T) k
 | [],_ => fun i hi => absurd hi (Nat.not_lt_zero _)
 | _ :: r,k => by
  rw [idL,qou]
  exact ⟨Nat.le_refl _,by rw [show max k (k + 1) = k + 1 by omega];exact qsz r (k + 1)⟩
theorem qs1 (long saw:Nat):∀ (T:List Nat) (k:Nat) (E:List (Nat × Nat)),(∀ x,x ∈ T → 2 * x ≤ long) → (∀ j,k ≤ j → getE E j = 0) → fitB long saw ((idL k T).zip T) E = true
 | [],_,_,_,_ => rfl
 |t :: r,k,E,h,hE => by
  have h1 :=h t (List.mem_cons_self ..)
  rw [idL,List.zip_cons_cons,fitB]
  simp only [hE k (Nat.le_refl _),Nat.lt_irrefl,if_false,Nat.zero_add]
  rw [if_neg (by omega)]
  exact qs1 long saw r (k + 1) _ (fun x hx => h x (List.mem_cons_of_mem _ hx)) fun j hj => by rw [qf2 _ _ _ (by omega)];exact hE j (by omega)
def bfr:List Nat → List Nat → Bool
 |a :: r,b :: q => if a = b then bfr r q else decide (a < b)
 | _,_ => false
theorem qnk:∀ (n a b:List Nat),bfr (n ++ a) (n ++ b) = bfr a b
 | [],_,_ => rfl
 |x :: n,a,b => by rw [List.cons_append,List.cons_append,bfr,if_pos rfl,qnk n]
theorem qh7 {α:Type} {f:Nat → Option α}:∀ {n k:Nat},fstO f k n = none → ∀ i,k ≤ i → i < k + n → f i = none
 | 0,k,_,i,h1,h2 => by omega
 |n + 1,k,h,i,h1,h2 => by
  rw [fstO] at h
  cases e:f k with
  |some y => rw [e] at h;cases h
  |none =>
   rw [e] at h
   by_cases q:i = k
   ·subst q;exact e
   ·exact qh7 (n :=n) (k :=k + 1) h i (by omega) (by omega)
theorem qkn {α:Type} {f:Nat → Option α} {x:α}:∀ {n k:Nat},fstO f k n = some x → ∃ j,k ≤ j ∧ j < k + n ∧ f j = some x ∧ ∀ i,k ≤ i → i < j → f i = none
 | 0,_,h => by cases h
 |n + 1,k,h => by
  rw [fstO] at h
  cases e:f k with
  |some y => rw [e] at h;exact ⟨k,Nat.le_refl _,by omega,by rw [e];exact h,fun i a b => by omega⟩
  |none =>
   rw [e] at h
   obtain ⟨j,a,b,c,d⟩ :=qkn (n :=n) (k :=k + 1) h
   refine ⟨j,by omega,by omega,c,fun i h1 h2 => ?_⟩
   by_cases q:i = k
   ·subst q;exact e
   ·exact d i (by omega) h2
def cP (long saw:Nat) (T:List Nat) (most:Nat) (l:List Nat):Prop :=l.length = T.length ∧ pkP long saw T l ∧ mnA 0 l ≤ most
def qx7 (C:List Nat → Prop) (now:List Nat) (o:Option (List Nat)):Prop :=(∀ l,o = some l → C l ∧ (∃ r,l = now ++ r) ∧ ∀ r,C (now ++ r) → bfr (now ++ r) l = false) ∧ (o = none → ∀ r,¬ C (now ++ r))
theorem qjn {long saw:Nat} {T:List Nat} (ht:∀ x,x ∈ T → 1 ≤ x) {most:Nat}:∀ (f:Nat) (now:List Nat),now.length + f = T.length → mnA 0 now ≤ most → qx7 (cP long saw T most) now (srP long saw T most f now)
 | 0,now,hf,hm => by
  have hnil:∀ r,cP long saw T most (now ++ r) → r = [] :=fun r h => by
   have :=h.1
   rw [List.length_append] at this
   exact List.eq_nil_of_length_eq_zero (by omega)
  rw [srP]
  by_cases hp:pkP long saw T now
  ·rw [if_pos hp]
   refine ⟨fun l h => ?_,fun h => by cases h⟩
   cases h
   refine ⟨⟨by omega,hp,hm⟩,⟨[],by simp⟩,fun r h => ?_⟩
   rw [hnil r h]
   have :=qnk now [] []
   rw [List.append_nil] at this ⊢
   rw [this];rfl
  ·rw [if_neg hp]
   exact ⟨(fun l h => by cases h),fun _ r h => hp (qrn ht h.2.1)⟩
 |f + 1,now,hf,hm => by
  rw [srP]
  have hcons:∀ r,cP long saw T most (now ++ r) → ∃ s q,r = s :: q ∧ s < min most (mnA 0 now + 1) ∧ now ++ r = (now ++ [s]) ++ q :=fun r h => by
   cases r with
   |nil =>
    have :=h.1
    rw [List.length_append,List.length_nil] at this;omega
   |cons s q =>
    have h1 :=quz ((qgj ht).1 h.2.1).1
    have h2 :=qh0 (now ++ s :: q) 0 s (by simp)
    have h3 :=h.2.2
    exact ⟨s,q,rfl,by omega,by simp⟩
  by_cases hp:pkP long saw T now
  ·rw [if_pos hp]
   have ih:∀ s,s < min most (mnA 0 now + 1) → qx7 (cP long saw T most) (now ++ [s]) (srP long saw T most f (now ++ [s])) :=fun s hs => qjn (long :=long) (saw :=saw) (T :=T) ht (most :=most) f (now ++ [s]) (by rw [List.length_append];simp only [List.length_cons,List.length_nil];omega) (by rw [qm5];show max (mnA 0 now) (s + 1) ≤ most;omega)
   refine ⟨fun l h => ?_,fun h r hc => ?_⟩
   ·obtain ⟨j,_,hj,hl,hn⟩ :=qkn h
    have hj:j < min most (mnA 0 now + 1) :=by omega
    obtain ⟨h1,⟨q,h2⟩,h3⟩ :=(ih j hj).1 l hl
    refine ⟨h1,⟨j :: q,by rw [h2];simp⟩,fun r hc => ?_⟩
    obtain ⟨s,u,rfl,hs,e⟩ :=hcons r hc
    rw [e] at hc ⊢
    by_cases q1:s = j
    ·subst q1;exact h3 u hc
    ·by_cases q2:s < j
     ·exact absurd hc ((ih s hs).2 (hn s (Nat.zero_le _) q2) u)
     ·have e2:bfr ((now ++ [s]) ++ u) l = bfr (s :: u) (j :: q) :=by
       rw [h2,List.append_assoc,List.append_assoc];exact qnk now _ _
      rw [e2,bfr,if_neg q1];exact decide_eq_false q2
   ·obtain ⟨s,u,rfl,hs,e⟩ :=hcons r hc
    rw [e] at hc
    exact (ih s hs).2 (qh7 h s (Nat.zero_le _) (by omega)) u hc
  ·rw [if_neg hp]
   exact ⟨(fun l h => by cases h),fun _ r h => hp (qrn ht h.2.1)⟩
theorem qga {long saw:Nat} {T l:List Nat} (ht:∀ x,x ∈ T → 1 ≤ x) (h1:1 ≤ T.length) (h:qgb long saw T = some l):∃ m,1 ≤ m ∧ m ≤ T.length ∧ srP long saw T m T.length [] = some l ∧ (∀ i,1 ≤ i → i < m → srP long saw T i T.length [] = none) ∧ mnA 0 l = m ∧ l.length = T.length ∧ pkP long saw T l ∧ ∀ o,o.length = T.length → pkP long saw T o → m < mnA 0 o ∨ m = mnA 0 o ∧ bfr o l = false :=by
 obtain ⟨m,hm1,hm2,hl,hn⟩ :=qkn h
 have sp:∀ i,qx7 (cP long saw T i) [] (srP long saw T i T.length []) :=fun i => qjn (long :=long) (saw :=saw) ht (most :=i) T.length [] (by simp) (Nat.zero_le _)
 obtain ⟨⟨c1,c2,c3⟩,_,hb⟩ :=(sp m).1 l hl
 have pos:∀ o:List Nat,o.length = T.length → 1 ≤ mnA 0 o :=fun o ho => by
  cases o with
  |nil => simp only [List.length_nil] at ho;omega
  |cons x r => have :=qh0 (x :: r) 0 x (List.mem_cons_self ..);omega
 have least:∀ o,o.length = T.length → pkP long saw T o → m ≤ mnA 0 o :=fun o ho hp => by
  refine Nat.le_of_not_lt fun z => ?_
  exact (sp (mnA 0 o)).2 (hn _ (pos o ho) z) o ⟨ho,hp,Nat.le_refl _⟩
 refine ⟨m,hm1,by omega,hl,hn,Nat.le_antisymm c3 (least l c1 c2),c1,c2,fun o ho hp => ?_⟩
 by_cases e:m = mnA 0 o
 ·exact .inr ⟨e,hb o ⟨ho,hp,by rw [List.nil_append];omega⟩⟩
 ·have :=least o ho hp;exact .inl (by omega)
theorem qlx {long saw:Nat} {T:List Nat} (ht:∀ x,x ∈ T → 1 ≤ x) (h1:1 ≤ T.length) (h:qgb long saw T = none):∀ o,o.length = T.length → ¬ pkP long saw T o :=fun o ho hp => by
 have hx :=qm1 o 0 ((qgj ht).1 hp).1
 have pos:1 ≤ mnA 0 o :=by
  cases o with
  |nil => simp only [List.length_nil] at ho;omega
  |cons x r => have :=qh0 (x :: r) 0 x (List.mem_cons_self ..);omega
 exact (qjn (long :=long) (saw :=saw) ht (most :=mnA 0 o) T.length [] (by simp) (Nat.zero_le _)).2 (qh7 h _ pos (by omega)) o ⟨ho,hp,Nat.le_refl _⟩
theorem qpo {long saw:Nat} {T:List Nat} (ht:∀ x,x ∈ T → 1 ≤ x) (h1:1 ≤ T.length):qgb long saw T = none ↔ ∃ x,x ∈ T ∧ long < 2 * x :=by
 constructor
 ·intro h
  refine Classical.byContradiction fun k => ?_
  exact qlx ht h1 h (idL 0 T) (qs0 T 0) ((qgj ht).2 ⟨qsz T 0,qs1 long saw T 0 [] (fun x hx => Nat.le_of_not_lt fun z => k ⟨x,hx,z⟩) fun _ _ => rfl⟩)
 ·rintro ⟨x,hx,hl⟩
  cases e:qgb long saw T with
  |none => rfl
  |some l =>
   obtain ⟨_,_,_,_,_,_,hlen,hp,_⟩ :=qga ht h1 e
   have hf :=((qgj ht).1 hp).2
   obtain ⟨i,hi,hgi⟩ :=List.getElem_of_mem hx
   have hm:(l[i],T[i]) ∈ l.zip T :=by
    rw [← List.getElem_zip (h :=by rw [List.length_zip];omega)];exact List.getElem_mem _
   have :=qph long saw _ _ hf _ hm
   simp only [hgi] at this
   omega
end
end Go.Abs.Seat
namespace Go.Abs.Seat
noncomputable section
open Go Go.Abs Go.Proofs.Tryz
set_option maxRecDepth 100000
set_option maxHeartbeats 4000000
def hsS (J:List LkI) (P:List Int) (k D:Int):Nat → Nat
 | 0 => 0
 |m + 1 => hsS J P k D m + if gi P m = k ∧ (gL J m).2.2 ≤ D then (gL J m).1.toNat else 0
theorem qzk (J:List LkI) (P:List Int) (i:Nat):∀ m,hrN J P i m ≤ hsS J P (gi P i) (gL J i).2.2 m
 | 0 => Nat.le_refl _
 |m + 1 => by
  have ih :=qzk J P i m
  rw [hrN,hsS]
  by_cases c:gi P m = gi P i ∧ bfrJ J i m
  ·have c2:gi P m = gi P i ∧ (gL J m).2.2 ≤ (gL J i).2.2 :=⟨c.1,by rcases c.2 with h | h <;> omega⟩
   rw [if_pos c,if_pos c2]
   omega
  ·rw [if_neg c]
   omega
structure LateJ (J J':List LkI):Prop where
 len:J'.length = J.length
 eq:∀ i,i < J.length → (gL J' i).1 = (gL J i).1 ∧ (gL J' i).2.1 = (gL J i).2.1 ∧ (gL J i).2.2 ≤ (gL J' i).2.2
structure MoreW (W W':List LkI):Prop where
 len:W.length ≤ W'.length
 eq:∀ n,n < W.length → (gL W n).1 ≤ (gL W' n).1 ∧ (gL W' n).2.1 = (gL W n).2.1 ∧ (gL W' n).2.2 = (gL W n).2.2
theorem qo7 {J J':List LkI} (h:LateJ J J') (P:List Int) (k D:Int):∀ m,m ≤ J.length → hsS J' P k D m ≤ hsS J P k D m
 | 0,_ => Nat.le_refl _
 |m + 1,hm => by
  have ih :=qo7 h P k D m (by omega)
  have e :=h.eq m (by omega)
  rw [hsS,hsS,e.1]
  by_cases c:gi P m = k ∧ (gL J' m).2.2 ≤ D
  ·have c2:gi P m = k ∧ (gL J m).2.2 ≤ D :=⟨c.1,by omega⟩
   rw [if_pos c,if_pos c2]
   omega
  ·rw [if_neg c]
   omega
theorem qvp (J:List LkI) (i k:Nat):bfrJ J i k ∨ bfrJ J k i :=by unfold bfrJ;omega
theorem qyr {J:List LkI} {a b c:Nat} (h:bfrJ J a b) (k:bfrJ J b c):bfrJ J a c :=by unfold bfrJ at *;omega
theorem qsr (J:List LkI) (P:List Int) (k D:Int):∀ n,(∃ i,i < n ∧ gi P i = k ∧ (gL J i).2.2 ≤ D) → ∃ x,x < n ∧ gi P x = k ∧ (gL J x).2.2 ≤ D ∧ ∀ i,i < n → gi P i = k → (gL J i).2.2 ≤ D → bfrJ J x i
 | 0,h => by obtain ⟨i,h,_⟩ :=h;omega
 |n + 1,h => by
  by_cases c:∃ i,i < n ∧ gi P i = k ∧ (gL J i).2.2 ≤ D
  ·obtain ⟨x,x1,x2,x3,x4⟩ :=qsr J P k D n c
   by_cases d:(gi P n = k ∧ (gL J n).2.2 ≤ D) ∧ ¬ bfrJ J x n
   ·have d2:bfrJ J n x :=(qvp J x n).resolve_left d.2
    refine ⟨n,Nat.lt_succ_self n,d.1.1,d.1.2,fun i hi h1 h2 => ?_⟩
    by_cases e:i = n
    ·subst e;exact .inr ⟨rfl,Nat.le_refl _⟩
    ·exact qyr d2 (x4 i (by omega) h1 h2)
   ·refine ⟨x,by omega,x2,x3,fun i hi h1 h2 => ?_⟩
    by_cases e:i = n
    ·subst e
     exact Classical.byContradiction fun z => d ⟨⟨h1,h2⟩,z⟩
    ·exact x4 i (by omega) h1 h2
  ·obtain ⟨i,i1,i2,i3⟩ :=h
   have e:i = n :=by
    refine Classical.byContradiction fun z => c ⟨i,by omega,i2,i3⟩
   subst e
   refine ⟨i,i1,i2,i3,fun j hj h1 h2 => ?_⟩
   by_cases e:j = i
   ·subst e;exact .inr ⟨rfl,Nat.le_refl _⟩
   ·exact absurd ⟨j,by omega,h1,h2⟩ c
theorem qo8 {J:List LkI} {P:List Int} {k D:Int} {n x:Nat} (x2:gi P x = k) (x3:(gL J x).2.2 ≤ D) (x4:∀ i,i < n → gi P i = k → (gL J i).2.2 ≤ D → bfrJ J x i):∀ m,m ≤ n → hrN J P x m = hsS J P k D m
 | 0,_ => rfl
 |m + 1,hm => by
  have ih :=qo8 x2 x3 x4 m (by omega)
  rw [hrN,hsS,ih]
  congr 1
  by_cases c:gi P m = k ∧ (gL J m).2.2 ≤ D
  ·rw [if_pos c,if_pos ⟨c.1.trans x2.symm,x4 m (by omega) c.1 c.2⟩]
  ·rw [if_neg c,if_neg fun z => c ⟨z.1.trans x2,by rcases z.2 with h | h <;> omega⟩]
theorem qsy {W W' J J':List LkI} {P:List Int} (hW:MoreW W W') (hJ:LateJ J J') (hp:isPl W J P) (h:inTm W J P):inTm W' J' P :=fun i hi => by
 have hiJ:i < J.length :=by rw [← hJ.len];exact hi
 have hwi :=(hp.2 i (by rw [hp.1];exact hiJ)).1
 have hd :=(hW.eq (gi P i).toNat (by omega)).2.1
 have hj :=hJ.eq i hiJ
 obtain ⟨x,x1,x2,x3,x4⟩ :=qsr J P (gi P i) (gL J' i).2.2 J.length ⟨i,hiJ,rfl,hj.2.2⟩
 have hx :=h x x1
 have e1 :=qo8 x2 x3 x4 J.length (Nat.le_refl _)
 have e2 :=qo7 hJ P (gi P i) (gL J' i).2.2 J.length (Nat.le_refl _)
 have e3 :=qzk J' P i J.length
 have key:dyN W' J' P i ≤ dyN W J P x :=by
  unfold dyN
  rw [hd,hJ.len,x2]
  exact Nat.div_le_div_right (by omega)
 omega
theorem qst {W W' J J':List LkI} {P:List Int} (hW:MoreW W W') (hJ:LateJ J J') (hp:isPl W J P):isPl W' J' P :=by
 refine ⟨hp.1.trans hJ.len.symm,fun i hi => ?_⟩
 have h :=hp.2 i hi
 have h1 :=hW.eq (gi P i).toNat (by have :=h.1;omega)
 have h2 :=hJ.eq i (by have :=hp.1;omega)
 have h3 :=hW.len
 refine ⟨⟨h.1.1,by have :=h.1.2;omega⟩,?_⟩
 have :=h.2
 omega
theorem qnu {W W' J J':List LkI} {P:List Int} (hW:MoreW W W') (hJ:LateJ J J') (hp:isPl W J P):∀ m,m ≤ P.length → wgJ W' J' P m = wgJ W J P m
 | 0,_ => rfl
 |m + 1,hm => by
  have ih :=qnu hW hJ hp m (by omega)
  have h :=(hp.2 m (by omega)).1
  rw [wgJ,wgJ,ih,(hW.eq (gi P m).toNat (by omega)).2.2,(hJ.eq m (by have :=hp.1;omega)).1]
theorem qla {W W' J J':List LkI} {p:Pln} (hW:MoreW W W') (hJ:LateJ J J') (h:qdm W J = some p):∃ q,qdm W' J' = some q ∧ q.2 ≤ p.2 :=by
 obtain ⟨h1,h2,h3,_⟩ :=qif h
 have ho:okP W' J' p.1 :=⟨qst hW hJ h1.1,qsy hW hJ h1.1 h1.2⟩
 cases hq:qdm W' J' with
 |none => exact absurd ho (qnl hq _)
 |some q =>
  refine ⟨q,rfl,?_⟩
  have :=((qif hq).2.2.2 p.1 ho).1
  rw [qnu hW hJ h1.1 _ (Nat.le_refl _),← h2] at this
  exact this
theorem qo0 {saw saw' s:Nat} {long long':Nat} (hs:saw' ≤ saw) (hl:long ≤ long'):∀ (l:List (Nat × Nat)) (a a':Int),(a' ≤ a ∨ a' = -Int.ofNat saw' ∧ a = -Int.ofNat saw) → ldI saw s l a ≤ Int.ofNat long → ldI saw' s l a' ≤ Int.ofNat long'
 | [],a,a',h,k => by
  simp only [ldI,Int.ofNat_eq_natCast] at *
  omega
 |x :: r,a,a',h,k => by
  rw [ldI] at k ⊢
  refine qo0 hs hl r _ _ ?_ k
  by_cases c:x.1 = s
  ·rw [if_pos c,if_pos c]
   simp only [Int.ofNat_eq_natCast] at *
   omega
  ·rw [if_neg c,if_neg c]
   exact h
theorem qus {saw saw' long long':Nat} {T sh:List Nat} (hs:saw' ≤ saw) (hl:long ≤ long') (h:pkP long saw T sh):pkP long' saw' T sh :=
 ⟨h.1,fun s k => qo0 hs hl _ _ _ (.inr ⟨rfl,rfl⟩) (h.2 s k)⟩
theorem qtt {saw saw' long long':Nat} {T l:List Nat} (ht:∀ x,x ∈ T → 1 ≤ x) (h1:1 ≤ T.length) (hs:saw' ≤ saw) (hl:long ≤ long') (h:qgb long saw T = some l):∃ l',qgb long' saw' T = some l' ∧ mnA 0 l' ≤ mnA 0 l :=by
 obtain ⟨m,_,_,_,_,_,q2,q3,_⟩ :=qga ht h1 h
 have k :=qus hs hl q3
 cases hq:qgb long' saw' T with
 |none => exact absurd k (qlx ht h1 hq l q2)
 |some l' =>
  obtain ⟨m',_,_,_,_,e',_,_,w⟩ :=qga ht h1 hq
  refine ⟨l',rfl,?_⟩
  have :=w l q2 k
  omega
end
end Go.Abs.Seat
namespace Go.Abs.Seat
noncomputable section
open Go Go.Abs Go.Proofs.Tryz
set_option maxRecDepth 100000
set_option maxHeartbeats 40000000
attribute [local irreducible] IntKind.wrap pEq qd1
theorem qe4 {P:Program} {f:FuncId} {args:List AV} {R:List Nat} {o:Nat → AObj} {v:AV} (h:ql0 P f (wkl args) R o v):ql0 P f args R o v :=fun B H hH g vs cs w hr hv hl => h B H hH g vs cs w hr (qfp g w args _ hv) (qc9 args hl)
abbrev hpS (long saw:Nat) (T:List Nat):Tr AObj :=.node (.cells (.node (nv long) .nil .nil) 1 3) (.node (.cells (.node (nv saw) .nil .nil) 1 3) (.node .hole (.node .hole .nil .nil) .nil) (.node .hole .nil .nil)) (.node (.cells (.node (nl (zl T)) .nil .nil) 1 24) (.node .hole (.node (.cells (.node (.func (.func 86) [] [.ptr 0 0,.ptr 1 0,.ptr 2 0,.ptr 8 0]) .nil .nil) 1 137) .nil .nil) .nil) (.node .hole .nil .nil))
theorem qkj (long saw:Nat) (T:List Nat):HEnd (hpS long saw T) 9 :=qcq [(.cells (.node (nv long) .nil .nil) 1 3),(.cells (.node (nv saw) .nil .nil) 1 3),(.cells (.node (nl (zl T)) .nil .nil) 1 24),.hole,.hole,.hole,.hole,.hole,(.cells (.node (.func (.func 86) [] [.ptr 0 0,.ptr 1 0,.ptr 2 0,.ptr 8 0]) .nil .nil) 1 137)] 0 .nil qcr
theorem qzl (long saw:Nat) (T:List Nat):ObBd 9 (hpS long saw T) 9 :=by
 have lT :=qal (zl T)
 repeat' (first|exact trivial|exact Nat.zero_le _|exact qae lT|exact kle rfl|apply And.intro)
abbrev sqA (v:AV) (U most:Nat):List AV :=[v,nv U,nv most,.ptr 0 0,.ptr 1 0,.ptr 2 0,.ptr 8 0]
theorem ob9 {h h':Tr AObj} (e:ObEq h h' 9):∀ i,i < 9 → hv h i = hv h' i :=e.lt
def sqV:Option (List Nat) → AV
 |none => .nils
 |some l => nl (zl l)
theorem qq7 (o:Option (List Nat)):bd (sqV o) ≤ 9 :=by
 cases o with
 |none => exact Nat.zero_le _
 |some l => exact Nat.max_le.2 ⟨Nat.zero_le _,qae (qal _)⟩
theorem qzs {long saw:Nat} (hl:long ≤ 500) (hs:saw ≤ 9) {T now:List Nat} {v:AV} (hw:nwV v now) (hT:now.length ≤ T.length) (h8:T.length ≤ 8) (ht:∀ x,x ∈ T → 1 ≤ x ∧ x ≤ 60) (ho:odP now 0):Pure prog 87 [nv long,nv saw,nl (zl T),v] (.bool (decide (pkP long saw T now))) :=by
 have e:decide (pkP long saw T now) = fitB long saw (now.zip T) [] :=by
  rw [Bool.eq_iff_iff,decide_eq_true_iff,qgj fun x hx => (ht x hx).1]
  exact ⟨fun z => z.2,fun z => ⟨ho,z⟩⟩
 rcases hw with ⟨rfl,rfl⟩ | ⟨rfl,_⟩
 ·rw [decide_eq_true (qy8 long saw T)]
  exact qvd _ _ _
 ·rw [e]
  exact qtd hl hs hT h8 fun x hx => (ht x hx).2
theorem q0i (x y:Nat):minI (Int.ofNat x) (Int.ofNat y) = Int.ofNat (min y x) :=by
 unfold minI
 by_cases h:Int.ofNat y < Int.ofNat x
 ·have h2:y < x :=Int.ofNat_lt.1 h
  rw [if_pos h,Nat.min_eq_left (by omega)]
 ·have h2:¬ y < x :=fun k => h (Int.ofNat_lt.2 k)
  rw [if_neg h,Nat.min_eq_right (by omega)]
theorem qxb {now:List Nat} {s n ch U most:Nat} (hn:n = now.length + 1):wkl (sqA (.lst (ivs (zl now) ++ [nv s]) n (.ch ch)) U most) = sqA (nl (zl (now ++ [s]))) U most :=by
 have e:nl (zl (now ++ [s])) = .lst (ivs (zl now) ++ [nv s]) n .no :=by
  unfold nl
  rw [qqm,qct,List.length_append,hn];rfl
 rw [e]
 simp only [sqA,wkl,wk,qqt,qhi]
theorem qn7 {long saw:Nat} (hl:long ≤ 500) (hs:saw ≤ 9) {T:List Nat} (h8:T.length ≤ 8) (h1:1 ≤ T.length) (ht:∀ x,x ∈ T → 1 ≤ x ∧ x ≤ 60) {most:Nat} (hm:most ≤ 8):∀ (f:Nat) (now:List Nat) (v:AV),now.length + f = T.length → nwV v now → odP now 0 → HFun prog 86 (sqA v (mnA 0 now) most) (hv (hpS long saw T)) 9 (sqV (srP long saw T most f now)) (hv (hpS long saw T))
 |f,now,v,hf,hw,ho => by
  have lT :=qal (zl T)
  have lN :=qal (zl now)
  have zT :=qct T
  have zN :=qct now
  have hb :=qzl long saw T
  have pF :=qzs hl hs hw (by omega) h8 ht ho
  have bv :=qq7 (srP long saw T most f now)
  have bA:bdl (sqA v (mnA 0 now) most) ≤ 9 :=by
   rcases hw with ⟨rfl,_⟩ | ⟨rfl,_⟩
   ·exact Nat.max_le.2 ⟨Nat.zero_le _,Nat.le_of_ble_eq_true (m :=9) rfl⟩
   ·exact Nat.max_le.2 ⟨Nat.max_le.2 ⟨Nat.zero_le _,qae lN⟩,Nat.le_of_ble_eq_true (m :=9) rfl⟩
  by_cases hp:pkP long saw T now
  ·rw [decide_eq_true hp] at pF
   cases f with
   |zero =>
    have e:srP long saw T most 0 now = some now :=if_pos hp
    rw [e] at bv ⊢
    rcases hw with ⟨rfl,rfl⟩ | ⟨rfl,hne⟩
    ·simp only [List.length_nil] at hf;omega
    ·have c1:(((zl now).length:Int) == ((zl T).length:Int)) = true :=by rw [zN,zT,show now.length = T.length by omega];exact beq_self_eq_true _
     refine qdb hE rfl (qkj long saw T) bA bv hb hb fun S q pc hS hq hC hE => ?_
     conv => whnf
     refine qab hC (pF) ?_
     conv => whnf
     refine qaa (c1) ?_
     conv => whnf
     exact ⟨_,rfl,WkV.refl _,rfl,rfl,rfl,rfl,rfl,rfl,rfl,rfl,rfl,trivial⟩
   |succ f =>
    have e:srP long saw T most (f + 1) now = fstO (fun s => srP long saw T most f (now ++ [s])) 0 (min most (mnA 0 now + 1)) :=if_pos hp
    have hU8:mnA 0 now ≤ 8 :=by have :=qm1 now 0 ho;omega
    have ih:∀ s,s < min most (mnA 0 now + 1) → ∀ n ch,n = now.length + 1 → ∀ z,z = Int.ofNat (max (mnA 0 now) (s + 1)) → HFun prog 86 (wkl [.lst (ivs (zl now) ++ [nv s]) n (.ch ch),iv z,nv most,.ptr 0 0,.ptr 1 0,.ptr 2 0,.ptr 8 0]) (hv (hpS long saw T)) 9 (sqV (srP long saw T most f (now ++ [s]))) (hv (hpS long saw T)) :=fun s hsm n ch hn z hz => by
     subst hz
     refine (qxb hn:wkl (sqA (.lst (ivs (zl now) ++ [nv s]) n (.ch ch)) (max (mnA 0 now) (s + 1)) most) = _) ▸ ?_
     have :=qn7 hl hs h8 h1 ht hm f (now ++ [s]) _ (by rw [List.length_append];simp only [List.length_cons,List.length_nil];omega) (.inr ⟨rfl,by simp⟩) (quy ho (by omega))
     rw [qm5] at this
     exact this
    rw [e] at bv ⊢
    generalize mnA 0 now = U at *
    generalize hg:(fun s => srP long saw T most f (now ++ [s])) = g at *
    have ih:∀ s,s < min most (U + 1) → ∀ n ch,n = now.length + 1 → ∀ z,z = Int.ofNat (max U (s + 1)) → HFun prog 86 (wkl [.lst (ivs (zl now) ++ [nv s]) n (.ch ch),iv z,nv most,.ptr 0 0,.ptr 1 0,.ptr 2 0,.ptr 8 0]) (hv (hpS long saw T)) 9 (sqV (g s)) (hv (hpS long saw T)) :=fun s h1 n ch h2 z h3 => by rw [← hg];exact ih s h1 n ch h2 z h3
    have hmin:minI (IntKind.i64.wrap (Int.ofNat U + 1)) (Int.ofNat most) = Int.ofNat (min most (U + 1)) :=by
     rw [show IntKind.i64.wrap (Int.ofNat U + 1) = Int.ofNat (U + 1) from qa7 (m :=U + 1) (by omega)];exact q0i _ _
    have hB8:min most (U + 1) ≤ 8 :=by omega
    generalize min most (U + 1) = B at *
    obtain ⟨R,hR⟩ : ∃ R,R = fstO g 0 B :=⟨_,rfl⟩
    rw [← hR] at bv ⊢
    rcases hw with ⟨rfl,rfl⟩ | ⟨rfl,hne⟩
    ·have c1:((0:Int) == ((zl T).length:Int)) = false :=beq_eq_false_iff_ne.2 fun z => by omega
     refine qdb hE rfl (qkj long saw T) bA bv hb hb fun S q pc hS hq hC hE => ?_
     conv => whnf
     refine qab hC (pF) ?_
     conv => whnf
     refine qac (c1) ?_
     conv => whnf
     refine qa4 hE hS (A :=Nat) [0,1,2,3,4,5,6] (fun s => [(28,nv B),(29,nv s)]) (fun _ => []) (fun _ => []) (fun s => s ≤ B ∧ R = fstO g s (B - s)) (fun s => B - s) 0 (kle rfl) rfl (zhg 9) ⟨Nat.zero_le _,hR⟩ ?_
     intro s ⟨hsB,he⟩ Q hQ
     obtain rfl:Q = 9 :=hQ
     conv => whnf
     by_cases hs2:s < B
     rotate_left
     ·refine qac (decide_eq_false (show ¬ Int.ofNat s < Int.ofNat B from fun z => hs2 (Int.ofNat_lt.1 z))) ?_
      conv => whnf
      refine .inl ?_
      conv => whnf
      rw [qf4 _ (by omega)] at he
      subst he
      exact ⟨_,rfl,WkV.refl _,rfl,rfl,rfl,rfl,rfl,rfl,rfl,rfl,rfl,trivial⟩
     ·rw [qew _ hs2] at he
      have hi1:IntKind.i64.wrap (Int.ofNat s + 1) = Int.ofNat (s + 1) :=qa7 (m :=s + 1) (by omega)
      have hmx:maxI (Int.ofNat U) (IntKind.i64.wrap (Int.ofNat s + 1)) = Int.ofNat (max U (s + 1)) :=by rw [hi1];exact qx1 _ _
      have pI :=ih s hs2
      obtain ⟨o,ho⟩ : ∃ o,o = g s :=⟨_,rfl⟩
      rw [← ho] at pI he
      have lo :=qq7 o
      refine qaa (decide_eq_true (show Int.ofNat s < Int.ofNat B from Int.ofNat_lt.2 hs2)) ?_
      conv => whnf
      refine qar hC ?_
      conv => whnf
      refine qan hE hS ?_
      conv => whnf
      refine qb8 hq true (by kernel_rfl) ?_
      conv => whnf
      cases o with
      |none =>
       have he:R = fstO g (s + 1) (B - (s + 1)) :=he
       refine qa6 hC (qe4 (HFun.pureR (pI (0 + 1) _ rfl _ hmx) (ob9 ⟨rfl,rfl,rfl,rfl,rfl,rfl,rfl,rfl,rfl,trivial⟩))) ?_
       conv => whnf
       refine qad hS (by kernel_rfl) ?_
       conv => whnf
       refine qb8 hq true (by kernel_rfl) ?_
       conv => whnf
       exact ⟨s + 1,⟨by omega,he⟩,by omega,Nat.le_refl _,(zhg 9)⟩
      |some l =>
       have he:R = some l :=he
       refine qa6 hC (qe4 (HFun.pureR (pI (0 + 1) _ rfl _ hmx) (ob9 ⟨rfl,rfl,rfl,rfl,rfl,rfl,rfl,rfl,rfl,trivial⟩))) ?_
       conv => whnf
       refine qad hS (by kernel_rfl) ?_
       conv => whnf
       refine qb8 hq false (by kernel_rfl) ?_
       conv => whnf
       subst he
       exact ⟨_,rfl,WkV.refl _,rfl,rfl,rfl,rfl,rfl,rfl,rfl,rfl,rfl,trivial⟩
    ·rcases now with _ | ⟨x0,r0⟩
     ·exact absurd rfl hne
     have zr :=qct r0
     have hr8:r0.length + 1 + (f + 1) = T.length :=hf
     have c1:(((zl (x0 :: r0)).length:Int) == ((zl T).length:Int)) = false :=beq_eq_false_iff_ne.2 fun z => by omega
     refine qdb hE rfl (qkj long saw T) bA bv hb hb fun S q pc hS hq hC hE => ?_
     conv => whnf
     refine qab hC (pF) ?_
     conv => whnf
     refine qac (c1) ?_
     conv => whnf
     refine qa4 hE hS (A :=Nat) [0,1,2,3,4,5,6] (fun s => [(28,nv B),(29,nv s)]) (fun _ => []) (fun _ => []) (fun s => s ≤ B ∧ R = fstO g s (B - s)) (fun s => B - s) 0 (kle rfl) rfl (zhg 9) ⟨Nat.zero_le _,hR⟩ ?_
     intro s ⟨hsB,he⟩ Q hQ
     obtain rfl:Q = 9 :=hQ
     conv => whnf
     by_cases hs2:s < B
     rotate_left
     ·refine qac (decide_eq_false (show ¬ Int.ofNat s < Int.ofNat B from fun z => hs2 (Int.ofNat_lt.1 z))) ?_
      conv => whnf
      refine .inl ?_
      conv => whnf
      rw [qf4 _ (by omega)] at he
      subst he
      exact ⟨_,rfl,WkV.refl _,rfl,rfl,rfl,rfl,rfl,rfl,rfl,rfl,rfl,trivial⟩
     ·rw [qew _ hs2] at he
      have hi1:IntKind.i64.wrap (Int.ofNat s + 1) = Int.ofNat (s + 1) :=qa7 (m :=s + 1) (by omega)
      have hmx:maxI (Int.ofNat U) (IntKind.i64.wrap (Int.ofNat s + 1)) = Int.ofNat (max U (s + 1)) :=by rw [hi1];exact qx1 _ _
      have pI :=ih s hs2
      obtain ⟨o,ho⟩ : ∃ o,o = g s :=⟨_,rfl⟩
      rw [← ho] at pI he
      have lo :=qq7 o
      refine qaa (decide_eq_true (show Int.ofNat s < Int.ofNat B from Int.ofNat_lt.2 hs2)) ?_
      conv => whnf
      refine qar hC ?_
      conv => whnf
      refine qan hE hS ?_
      conv => whnf
      refine qb8 hq false (by kernel_rfl) ?_
      conv => whnf
      refine qaf (qd9 (e :=3) (ys :=ivs (zl (x0 :: r0))) (m :=(zl (x0 :: r0)).length) (own :=.no) (l :=ivs (zl (x0 :: r0))) (by kernel_rfl) rfl (qen _)) ?_
      conv => whnf
      refine qaa (qco (zl (x0 :: r0))) ?_
      conv => whnf
      refine qaa (decide_eq_true (show (0 + ((zl r0).length + 1)) * 8 ≤ 140737488355328 by omega)) ?_
      conv => whnf
      refine qaa (decide_eq_true (show 0 + ((zl r0).length + 1) ≤ 9223372036854775807 by omega)) ?_
      conv => whnf
      refine qaa (decide_eq_true (show (0 + ((zl r0).length + 1) + (0 + 1)) * 8 ≤ 140737488355328 by omega)) ?_
      conv => whnf
      refine qaa (decide_eq_true (show 0 + ((zl r0).length + 1) + (0 + 1) ≤ 9223372036854775807 by omega)) ?_
      conv => whnf
      refine qaa ((show qcf (ivs (zl (x0 :: r0))) ((0 + ((zl r0).length + 1)) * 1) = true by rw [Nat.zero_add];exact qet (zl (x0 :: r0)))) ?_
      conv => whnf
      refine qaa (decide_eq_true rfl) ?_
      conv => whnf
      cases o with
      |none =>
       have he:R = fstO g (s + 1) (B - (s + 1)) :=he
       refine qa6 hC (qe4 (HFun.pureR (pI (0 + ((zl r0).length + 1) + (0 + 1)) _ (by show _ = r0.length + 1 + 1;omega) _ hmx) (ob9 ⟨rfl,rfl,rfl,rfl,rfl,rfl,rfl,rfl,rfl,trivial⟩))) ?_
       conv => whnf
       refine qad hS (by kernel_rfl) ?_
       conv => whnf
       refine qb8 hq true (by kernel_rfl) ?_
       conv => whnf
       exact ⟨s + 1,⟨by omega,he⟩,by omega,Nat.le_refl _,(zhg 9)⟩
      |some l =>
       have he:R = some l :=he
       refine qa6 hC (qe4 (HFun.pureR (pI (0 + ((zl r0).length + 1) + (0 + 1)) _ (by show _ = r0.length + 1 + 1;omega) _ hmx) (ob9 ⟨rfl,rfl,rfl,rfl,rfl,rfl,rfl,rfl,rfl,trivial⟩))) ?_
       conv => whnf
       refine qad hS (by kernel_rfl) ?_
       conv => whnf
       refine qb8 hq false (by kernel_rfl) ?_
       conv => whnf
       subst he
       exact ⟨_,rfl,WkV.refl _,rfl,rfl,rfl,rfl,rfl,rfl,rfl,rfl,rfl,trivial⟩
  ·rw [decide_eq_false hp] at pF
   have e:srP long saw T most f now = none :=by
    cases f with
    |zero => exact if_neg hp
    |succ f => exact if_neg hp
   rw [e] at bv ⊢
   rcases hw with ⟨rfl,rfl⟩ | ⟨rfl,hne⟩
   all_goals
    refine qdb hE rfl (qkj long saw T) bA bv hb hb fun S q pc hS hq hC hE => ?_
    conv => whnf
    refine qab hC (pF) ?_
    conv => whnf
    exact ⟨_,rfl,WkV.refl _,rfl,rfl,rfl,rfl,rfl,rfl,rfl,rfl,rfl,trivial⟩
end
end Go.Abs.Seat
namespace Go.Abs.Seat
noncomputable section
open Go Go.Abs Go.Proofs.Tryz
set_option maxRecDepth 100000
set_option maxHeartbeats 40000000
attribute [local irreducible] IntKind.wrap pEq
def mxA:Nat → List Nat → Nat
 |a,[] => a
 |a,x :: r => mxA (max a x) r
theorem qu2 (T:List Nat) (h1:1 ≤ T.length) (h8:T.length ≤ 8):Pure prog 85 [nl (zl T)] (nv (mxA (gn T 0) (T.drop 1))) :=by
 have lT :=qal (zl T)
 have zT :=qct T
 have g0:nth (ivs (zl T)) (0 * 1) = some (nv (gn T 0)) :=by rw [qbp (by omega),qkk T (by omega)]
 refine qas hE rfl (by repeat' first|exact trivial|assumption|exact qag _|exact fun _ h => nomatch h|apply And.intro) (by repeat' first|exact trivial|assumption|exact qag _|exact fun _ h => nomatch h|apply And.intro) fun S q pc hS hq hC hE => ?_
 conv => whnf
 refine qac (decide_eq_false (show ¬ ((zl T).length:Int) < 1 by omega)) ?_
 conv => whnf
 refine qaa (qav (show 0 < (zl T).length by omega)) ?_
 conv => whnf
 refine qaf (nthP (g0)) ?_
 conv => whnf
 refine qfr hE hS (A :=Nat × Nat) [0] (fun (i,n) => [(3,nv n),(4,nv i)]) (fun _ => []) (fun (i,n) => i ≤ T.length ∧ mxA n (T.drop i) = mxA (gn T 0) (T.drop 1)) (fun (i,_) => T.length - i) (1,gn T 0) rfl rfl (by refine ⟨rfl,rfl,rfl,rfl,?_,?_⟩ <;> repeat' (first|exact trivial|exact rfl|exact Nat.zero_le _|exact qae lT|exact kle rfl|exact qae (by assumption)|exact qae (qag _)|exact qae (qal _)|exact mxI rfl|apply And.intro)) ⟨by omega,rfl⟩ ?_
 rintro ⟨i,n⟩ ⟨hi,he⟩
 conv => whnf
 by_cases hi2:i < T.length
 ·have hiz:i < (zl T).length :=by omega
  have g1:nth (ivs (zl T)) (i * 1) = some (nv (gn T i)) :=by rw [qbp hiz,qkk T hi2]
  rw [qvm T hi2,mxA] at he
  refine qaa (qa3 hiz) ?_
  conv => whnf
  refine qaa (qav hiz) ?_
  conv => whnf
  refine qaf (nthP (g1)) ?_
  conv => whnf
  exact ⟨(i + 1,max n (gn T i)),⟨by omega,he⟩,by show T.length - (i + 1) < T.length - i;omega,(by refine ⟨rfl,rfl,rfl,rfl,?_,?_⟩ <;> repeat' (first|exact trivial|exact rfl|exact Nat.zero_le _|exact congrArg (fun z => some (AV.int .i64 z)) (show IntKind.i64.wrap (Int.ofNat i + 1) = Int.ofNat (i + 1) from qa7 (m :=i + 1) (by omega))|exact congrArg (fun z => some (AV.int .i64 z)) (qx1 n (gn T i))|exact qae lT|exact kle rfl|exact qae (by assumption)|exact qae (qag _)|exact qae (qal _)|exact mxI rfl|apply And.intro))⟩
 ·refine qac (qbn (show ¬ i < (zl T).length by omega)) ?_
  conv => whnf
  rw [List.drop_eq_nil_of_le (by omega),mxA] at he
  rw [← he]
  exact ⟨_,rfl,Wk.refl _⟩
theorem qv6:∀ (l:List Nat) (a b:Nat),mxA a l ≤ b ↔ a ≤ b ∧ ∀ x,x ∈ l → x ≤ b
 | [],a,b => ⟨fun h => ⟨h,fun _ h => absurd h List.not_mem_nil⟩,fun h => h.1⟩
 |x :: r,a,b => by
  rw [mxA,qv6 r]
  constructor
  ·rintro ⟨h1,h2⟩
   refine ⟨by omega,fun y hy => ?_⟩
   rcases List.mem_cons.1 hy with e | hy
   ·omega
   ·exact h2 y hy
  ·rintro ⟨h1,h2⟩
   have :=h2 x (List.mem_cons_self ..)
   exact ⟨by omega,fun y hy => h2 y (List.mem_cons_of_mem _ hy)⟩
def stV:Option (List Nat) → AV
 |none => .tup [.nils,iv 0,iv 5]
 |some l => .tup [nl (zl l),nv (mnA 0 l),iv 0]
theorem qgu {long saw:Nat} {T:List Nat} (q1:swOk (Int.ofNat long) (Int.ofNat saw)) (q2:whOk (zl T)) (h1:1 ≤ T.length) (ht:∀ x,x ∈ T → 1 ≤ x ∧ x ≤ 60):Pure prog 40 [nv long,nv saw,nl (zl T)] (stV (qgb long saw T)) :=by
 have pA :=qkz (v :=nl (zl T)) (.inr rfl) (by have :=q2.1;omega)
 have lT :=qal (zl T)
 have hz :=qct T
 have h8:T.length ≤ 8 :=by have :=q2.1;omega
 have hl:long ≤ 500 :=by have :=q1.1.2;exact Int.ofNat_le.1 this
 have hs:saw ≤ 9 :=by have :=q1.2.2;exact Int.ofNat_le.1 this
 have c1:(!decide (swOk (Int.ofNat long) (Int.ofNat saw))) = false :=nt_t (decide_eq_true q1)
 have c2:(!decide (whOk (zl T))) = false :=nt_t (decide_eq_true q2)
 have c3:(((zl T).length:Int) == 0) = false :=beq_eq_false_iff_ne.2 fun z => by omega
 have pM :=qu2 T h1 h8
 have ht1:∀ x,x ∈ T → 1 ≤ x :=fun x hx => (ht x hx).1
 have hM:∀ b,mxA (gn T 0) (T.drop 1) ≤ b ↔ ∀ x,x ∈ T → x ≤ b :=fun b => by
  rw [qv6]
  rcases T with _ | ⟨x,r⟩
  ·simp only [List.length_nil] at h1;omega
  ·show x ≤ b ∧ (∀ y,y ∈ r → y ≤ b) ↔ _
   exact (List.forall_mem_cons (p :=fun y => y ≤ b)).symm
 have hM60:mxA (gn T 0) (T.drop 1) ≤ 60 :=(hM 60).2 fun x hx => (ht x hx).2
 generalize mxA (gn T 0) (T.drop 1) = M at *
 have hw:IntKind.i64.wrap (2 * Int.ofNat M) = Int.ofNat (2 * M) :=by
  show IntKind.i64.wrap (Int.ofNat 2 * Int.ofNat M) = _
  exact mulN (by omega)
 by_cases hno:2 * M ≤ long
 ·have c4:decide (IntKind.i64.wrap (2 * Int.ofNat M) > Int.ofNat long) = false :=by rw [hw];exact decide_eq_false fun z => by have :=Int.ofNat_lt.1 z;omega
  have pS :=fun m (hm:m ≤ 8) => qn7 hl hs h8 h1 ht hm T.length [] .nils (by simp) (.inl ⟨rfl,rfl⟩) (fun _ hi => absurd hi (Nat.not_lt_zero _))
  obtain ⟨l,hbl⟩ : ∃ l,qgb long saw T = some l :=by
   cases e:qgb long saw T with
   |some l => exact ⟨l,rfl⟩
   |none =>
    obtain ⟨x,hx,h2⟩ :=(qpo ht1 h1).1 e
    have :=(hM M).1 (Nat.le_refl _) x hx
    omega
  obtain ⟨m0,hm1,hm2,hf,hn,hmn,_⟩ :=qga ht1 h1 hbl
  have e:stV (qgb long saw T) = .tup [nl (zl l),nv m0,iv 0] :=by rw [hbl,← hmn];rfl
  rw [e]
  have lL :=qal (zl l)
  refine qas hE rfl (by repeat' first|exact trivial|assumption|exact qag _|exact fun _ h => nomatch h|apply And.intro) (by repeat' first|exact trivial|assumption|exact qag _|exact fun _ h => nomatch h|apply And.intro) fun S q pc hS hq hC hE => ?_
  conv => whnf
  repeat ((first|refine qao ‹_› ?_|refine qap ‹_› ?_|refine pkF ‹_› ?_|refine qac ‹_› ?_|refine qai (gff ‹_›) ?_|refine qah (gff ‹_›) ?_|refine pkT (gff ‹_›) ?_|refine qaa (gff ‹_›) ?_|refine qab hC (qi1 (Int.ofNat long) (Int.ofNat saw)) ?_|refine qab hC (pA) ?_|refine qab hC (pM) ?_|refine qad hS (by kernel_rfl) ?_);conv => whnf)
  refine qa4 hE hS (A :=Nat) [9] (fun m => [(10,nv m)]) (fun _ => []) (fun _ => []) (fun m => 1 ≤ m ∧ m ≤ m0) (fun m => m0 - m) 1 (kle rfl) rfl (zhg 9) ⟨Nat.le_refl _,hm1⟩ ?_
  intro m ⟨ha,hb⟩ Q hQ
  obtain rfl:Q = 9 :=hQ
  conv => whnf
  have pI :=pS m (by omega)
  by_cases h3:m = m0
  ·subst h3
   rw [hf] at pI
   refine qa6 hC (HFun.pureR pI (ob9 ⟨rfl,rfl,rfl,rfl,rfl,rfl,rfl,rfl,rfl,trivial⟩)) ?_
   conv => whnf
   refine qb8 hq false (by kernel_rfl) ?_
   conv => whnf
   exact ⟨_,rfl,Wk.refl _⟩
  ·rw [hn m ha (by omega)] at pI
   refine qa6 hC (HFun.pureR pI (ob9 ⟨rfl,rfl,rfl,rfl,rfl,rfl,rfl,rfl,rfl,trivial⟩)) ?_
   conv => whnf
   refine qb8 hq true (by kernel_rfl) ?_
   conv => whnf
   exact ⟨m + 1,⟨by omega,by omega⟩,by omega,Nat.le_refl _,(zhg 9)⟩
 ·have c4:decide (IntKind.i64.wrap (2 * Int.ofNat M) > Int.ofNat long) = true :=by rw [hw];exact decide_eq_true (Int.ofNat_lt.2 (by omega))
  have hbl:qgb long saw T = none :=by
   refine (qpo ht1 h1).2 (Classical.byContradiction fun k => hno ?_)
   have:M ≤ long / 2 :=(hM _).2 fun x hx => by
    have:¬ long < 2 * x :=fun z => k ⟨x,hx,z⟩
    omega
   omega
  rw [hbl]
  refine qas hE rfl (by repeat' first|exact trivial|assumption|exact qag _|exact fun _ h => nomatch h|apply And.intro) (by repeat' first|exact trivial|assumption|exact qag _|exact fun _ h => nomatch h|apply And.intro) fun S q pc hS hq hC hE => ?_
  conv => whnf
  repeat ((first|refine qai ‹_› ?_|refine qah ‹_› ?_|refine pkT ‹_› ?_|refine qaa ‹_› ?_|refine qao ‹_› ?_|refine qap ‹_› ?_|refine pkF ‹_› ?_|refine qac ‹_› ?_|refine qai (gff ‹_›) ?_|refine qah (gff ‹_›) ?_|refine pkT (gff ‹_›) ?_|refine qaa (gff ‹_›) ?_|refine qab hC (qi1 (Int.ofNat long) (Int.ofNat saw)) ?_|refine qab hC (pA) ?_|refine qab hC (pM) ?_|refine qad hS (by kernel_rfl) ?_);conv => whnf)
  exact ⟨_,rfl,Wk.refl _⟩




end
end Go.Abs.Seat
namespace Go.Abs.Seat
noncomputable section
open Go Go.Abs Go.Proofs.Tryz
set_option maxRecDepth 100000
set_option maxHeartbeats 40000000

end
end Go.Abs.Seat
namespace Go.Abs.Seat
noncomputable section
open Go Go.Abs Go.Proofs.Tryz
set_option maxRecDepth 100000
set_option maxHeartbeats 40000000
attribute [local irreducible] IntKind.wrap pEq
theorem pcN.len {N:List Lk} {H:List Nat} (h:pcN N H) {N2:List Lk} (h2:okN N2) (hl:N2.length = N.length):pcN N2 H :=
 ⟨h2,by rw [hl];exact h.l1,by rw [hl];exact h.l5,h.h1,h.h4,fun x hx => by rw [hl];exact h.hd x hx⟩



end
end Go.Abs.Seat
