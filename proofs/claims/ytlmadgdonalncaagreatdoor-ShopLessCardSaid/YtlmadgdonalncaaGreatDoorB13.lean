/-
  The search for changes: one more.
-/
import Derived.Test.YtlmadgdonalncaaGreatDoorU18
namespace Go.Abs.Seat
noncomputable section
open Go Go.Abs Go.Proofs.Tryz
set_option maxRecDepth 100000
set_option maxHeartbeats 40000000
attribute [local irreducible] IntKind.wrap pEq
theorem qew {α:Type} (f:Nat → Option α) {i n:Nat} (h:i < n):fstO f i (n - i) = orE (f i) (fstO f (i + 1) (n - (i + 1))) :=by
 rw [show n - i = n - (i + 1) + 1 by omega,fstO]
theorem qf4 {α:Type} (f:Nat → Option α) {i n:Nat} (h:n ≤ i):fstO f i (n - i) = none :=by
 rw [show n - i = 0 by omega,fstO]
theorem qlh {α:Type} (a b c:Option α):orE (orE a b) c = orE a (orE b c) :=by cases a <;> rfl
theorem qj9 {α:Type} (b:Option α):orE none b = b :=rfl
theorem ob17 {h h':Tr AObj} (e:ObEq h h' 17):∀ i,i < 17 → hv h i = hv h' i :=e.lt
theorem WkV.tup2 {x y b:AV} (h:WkV x y):WkV (.tup [x,b]) (.tup [y,b]) :=by
 refine ⟨fun g w u hu => ?_,fun L hl => ⟨h.lv L hl.1,hl.2⟩⟩
 obtain ⟨vs,e,h1⟩ :=hu
 obtain ⟨a,bs,e2,h2,h3⟩ :=h1
 exact ⟨vs,e,a,bs,e2,h.wk g w a h2,h3⟩
theorem qn5 {N:List Lk} (_h:okN N) (h1:1 ≤ N.length) (hN:N.length ≤ 5) {H:List Nat} {lo hi:Nat} (hlo:4 ≤ lo) (hle:lo ≤ hi) (hhi:hi ≤ 60) {hand:Nat} {t:Nat × Nat} {g:List Lk → Nat → Option (List Lk)} {k:Nat} (hk:k ≤ 1)
  (hgl:∀ now fr l,g now fr = some l → l.length = k) (hg:∀ now fr,okN now → now.length = N.length → fr ≤ N.length → HFun prog 108 (scA now H fr k) (hv (hpC N H lo hi hand t)) 17 (srV (g now fr)) (hv (hpC N H lo hi hand t)))
  (now:List Lk) (fr:Nat) (h2:okN now) (hl:now.length = N.length) (hfr:fr ≤ N.length):HFun prog 108 (scA now H fr (k + 1)) (hv (hpC N H lo hi hand t)) 17 (srV (srS g N lo hi now fr)) (hv (hpC N H lo hi hand t)) :=by
 have lN :=qau (cL N)
 have lN2 :=qau (cL now)
 have lM :=qal (zl H)
 have lR :=qag (zp (rtL N (N.length + 1)))
 have hb :=qwd N H lo hi hand t
 have hwk:IntKind.i64.wrap (Int.ofNat (k + 1) - 1) = Int.ofNat k :=qw2 (by omega)
 have bR:∀ R,srV R = srV R :=fun _ => rfl
 obtain ⟨R,hR⟩ : ∃ R,srS g N lo hi now fr = R :=⟨_,rfl⟩
 have bdR:bd (srV R) ≤ 17 :=by
  cases R with
  |none => exact Nat.zero_le _
  |some l => cases l with
   |nil => exact Nat.zero_le _
   |cons c r => exact Nat.max_le.2 ⟨Nat.max_le.2 ⟨Nat.zero_le _,qae (qau _)⟩,Nat.zero_le _⟩
 rw [hR]
 unfold srS at hR
 refine qdb hE rfl (qs3 N H lo hi hand t) (Nat.max_le.2 ⟨Nat.max_le.2 ⟨Nat.max_le.2 ⟨Nat.zero_le _,qae lN2⟩,Nat.max_le.2 ⟨Nat.max_le.2 ⟨Nat.zero_le _,qae lM⟩,Nat.zero_le _⟩⟩,kle rfl⟩) bdR hb hb fun S q pc hS hq hC hE => ?_
 conv => whnf
 refine qa4 hE hS (A :=Nat) [2,3,4,5,6,7,8,9,10] (fun i => [(15,nv i)]) (fun _ => []) (fun _ => []) (fun i => i ≤ N.length ∧ fstO (fun i => fstO (fun a => fstO (fun b => stC g N now i a b) lo (hi + 1 - lo)) lo (hi + 1 - lo)) i (N.length - i) = R) (fun i => N.length - i) fr (kle rfl) rfl (zhg 18) ⟨hfr,hR⟩ ?_
 rintro i ⟨hi1,hRi⟩ Q hQ
 obtain rfl:Q = 18 :=hQ
 conv => whnf
 by_cases hi2:i < N.length
 ·rw [qew _ hi2] at hRi
  have hw1:IntKind.i64.wrap (Int.ofNat i + 1) = Int.ofNat (i + 1) :=qa7 (m :=i + 1) (by omega)
  refine qaa (qa3 hi2) ?_
  conv => whnf
  refine qa4 hE hS (A :=Nat) [2,3,4,5,6,7,8,9,10,15] (fun a => [(16,nv a)]) (fun _ => []) (fun _ => []) (fun a => lo ≤ a ∧ a ≤ hi + 1 ∧ orE (fstO (fun a => fstO (fun b => stC g N now i a b) lo (hi + 1 - lo)) a (hi + 1 - a)) (fstO (fun i => fstO (fun a => fstO (fun b => stC g N now i a b) lo (hi + 1 - lo)) lo (hi + 1 - lo)) (i + 1) (N.length - (i + 1))) = R) (fun a => hi + 1 - a) lo (kle rfl) rfl (zhg 18) ⟨Nat.le_refl _,by omega,hRi⟩ ?_
  rintro a ⟨ha1,ha,hRa⟩ Q hQ
  obtain rfl:Q = 18 :=hQ
  conv => whnf
  by_cases ha2:a ≤ hi
  ·rw [qew _ (by omega:a < hi + 1),qlh] at hRa
   refine qaa (decide_eq_true (show Int.ofNat a ≤ Int.ofNat hi from Int.ofNat_le.2 ha2)) ?_
   conv => whnf
   refine qa4 hE hS (A :=Nat) [2,3,4,5,6,7,8,9,10,15,16] (fun b => [(17,nv b)]) (fun _ => []) (fun _ => []) (fun b => lo ≤ b ∧ b ≤ hi + 1 ∧ orE (fstO (fun b => stC g N now i a b) b (hi + 1 - b)) (orE (fstO (fun a => fstO (fun b => stC g N now i a b) lo (hi + 1 - lo)) (a + 1) (hi + 1 - (a + 1))) (fstO (fun i => fstO (fun a => fstO (fun b => stC g N now i a b) lo (hi + 1 - lo)) lo (hi + 1 - lo)) (i + 1) (N.length - (i + 1)))) = R) (fun b => hi + 1 - b) lo (kle rfl) rfl (zhg 18) ⟨Nat.le_refl _,by omega,hRa⟩ ?_
   rintro b ⟨hb1,hbb,hRb⟩ Q hQ
   obtain rfl:Q = 18 :=hQ
   conv => whnf
   by_cases hb2:b ≤ hi
   ·rw [qew _ (by omega:b < hi + 1),qlh] at hRb
    have tk:qb0 2 (qcl (i * 3 + 1) (lks (cL N))) = some [nv (gN N i).2.1,nv (gN N i).2.2] :=by
     have :=qw9 (cL N) (i :=i) (by rw [qf9];exact hi2)
     rwa [qlp N hi2] at this
    refine qaa (decide_eq_true (show Int.ofNat b ≤ Int.ofNat hi from Int.ofNat_le.2 hb2)) ?_
    conv => whnf
    refine qaa (qav hi2) ?_
    conv => whnf
    refine qaf (takP tk) ?_
    conv => whnf
    have hwb:IntKind.i64.wrap (Int.ofNat b + 1) = Int.ofNat (b + 1) :=qa7 (m :=b + 1) (by omega)
    by_cases hp:(gN N i).2 = (a,b)
    ·refine qb8 hq true ((qwq _ _ _ _ _).trans (congrArg some (decide_eq_true hp))) ?_
     conv => whnf
     refine qad hS (by kernel_rfl) ?_
     conv => whnf
     have hst:stC g N now i a b = none :=by unfold stC;rw [if_pos hp]
     rw [hst,qj9] at hRb
     exact ⟨b + 1,⟨by omega,by omega,hRb⟩,by omega,Nat.le_refl _,(zhg 18)⟩
    ·refine qb8 hq false ((qwq _ _ _ _ _).trans (congrArg some (decide_eq_false hp))) ?_
     conv => whnf
     refine qad hS (by kernel_rfl) ?_
     conv => whnf
     have hi3:i < now.length :=by omega
     have hst:stC g N now i a b = (g (chN now i a b) (i + 1)).map ((i,a,b) :: ·) :=by unfold stC;rw [if_neg hp]
     have hgc:HFun prog 108 [.agg [nkA (chN now i a b),nl (zl H)],iv (IntKind.i64.wrap (Int.ofNat i + 1)),iv (IntKind.i64.wrap (Int.ofNat (k + 1) - 1)),.ptr 12 0,.ptr 3 0,.ptr 13 0,.ptr 0 0,.ptr 1 0,.ptr 2 0,.ptr 16 0] (hv (hpC N H lo hi hand t)) 17 (srV (g (chN now i a b) (i + 1))) (hv (hpC N H lo hi hand t)) :=by
      rw [hw1,hwk];exact hg (chN now i a b) (i + 1) (h2.ch hi3 ⟨by omega,by omega⟩ ⟨by omega,by omega⟩) (by rw [qid];exact hl) hi2
     have hgl2 :=hgl (chN now i a b) (i + 1)
     have lC :=qau (cL (chN now i a b))
     rw [hst] at hRb
     refine qab hC (qlt (by omega) (zl H) hi3 a b) ?_
     conv => whnf
     have cs:g (chN now i a b) (i + 1) = none ∨ g (chN now i a b) (i + 1) = some [] ∨ ∃ c,g (chN now i a b) (i + 1) = some [c] :=by
      cases e:g (chN now i a b) (i + 1) with
      |none => exact .inl rfl
      |some l =>
       have hl2 :=hgl2 l e
       match l,hl2 with
       | [],_ => exact .inr (.inl rfl)
       | [c],_ => exact .inr (.inr ⟨c,rfl⟩)
       |c :: c2 :: r,hl2 => simp only [List.length_cons] at hl2;omega
     refine Or.elim cs (fun e => ?_) (fun cs2 => Or.elim cs2 (fun e => ?_) (fun cs3 => Exists.elim cs3 fun c e => ?_))
     ·rw [e] at hgc hRb
      have hgc:HFun prog 108 [.agg [nkA (chN now i a b),nl (zl H)],iv (IntKind.i64.wrap (Int.ofNat i + 1)),iv (IntKind.i64.wrap (Int.ofNat (k + 1) - 1)),.ptr 12 0,.ptr 3 0,.ptr 13 0,.ptr 0 0,.ptr 1 0,.ptr 2 0,.ptr 16 0] (hv (hpC N H lo hi hand t)) 17 (.tup [.nils,.bool false]) (hv (hpC N H lo hi hand t)) :=hgc
      have hRb:orE none _ = R :=hRb
      refine qa6 hC (HFun.pureR hgc (ob17 ⟨rfl,rfl,rfl,rfl,rfl,rfl,rfl,rfl,rfl,rfl,rfl,rfl,rfl,rfl,rfl,rfl,rfl,trivial⟩)) ?_
      conv => whnf
      refine qad hS (by kernel_rfl) ?_
      conv => whnf
      exact ⟨b + 1,⟨by omega,by omega,hRb⟩,by omega,Nat.le_refl _,(zhg 18)⟩
     ·rw [e] at hgc hRb
      have hgc:HFun prog 108 [.agg [nkA (chN now i a b),nl (zl H)],iv (IntKind.i64.wrap (Int.ofNat i + 1)),iv (IntKind.i64.wrap (Int.ofNat (k + 1) - 1)),.ptr 12 0,.ptr 3 0,.ptr 13 0,.ptr 0 0,.ptr 1 0,.ptr 2 0,.ptr 16 0] (hv (hpC N H lo hi hand t)) 17 (.tup [.nils,.bool true]) (hv (hpC N H lo hi hand t)) :=hgc
      have hRb:some [(i,a,b)] = R :=hRb
      refine qa6 hC (HFun.pureR hgc (ob17 ⟨rfl,rfl,rfl,rfl,rfl,rfl,rfl,rfl,rfl,rfl,rfl,rfl,rfl,rfl,rfl,rfl,rfl,trivial⟩)) ?_
      conv => whnf
      refine qad hS (by kernel_rfl) ?_
      conv => whnf
      have hv1:srV R = .tup [nkA [(i,a,b)],.bool true] :=by rw [← hRb];rfl
      exact ⟨_,rfl,(by rw [hv1];exact WkV.tup2 (WkV.own _ _ _)),rfl,rfl,rfl,rfl,rfl,rfl,rfl,rfl,rfl,rfl,rfl,rfl,rfl,rfl,rfl,rfl,rfl,trivial⟩
     ·rw [e] at hgc hRb
      have hgc:HFun prog 108 [.agg [nkA (chN now i a b),nl (zl H)],iv (IntKind.i64.wrap (Int.ofNat i + 1)),iv (IntKind.i64.wrap (Int.ofNat (k + 1) - 1)),.ptr 12 0,.ptr 3 0,.ptr 13 0,.ptr 0 0,.ptr 1 0,.ptr 2 0,.ptr 16 0] (hv (hpC N H lo hi hand t)) 17 (.tup [.lst [nv c.1,nv c.2.1,nv c.2.2] 1 .no,.bool true]) (hv (hpC N H lo hi hand t)) :=hgc
      have hRb:some [(i,a,b),c] = R :=hRb
      refine qa6 hC (HFun.pureR hgc (ob17 ⟨rfl,rfl,rfl,rfl,rfl,rfl,rfl,rfl,rfl,rfl,rfl,rfl,rfl,rfl,rfl,rfl,rfl,trivial⟩)) ?_
      conv => whnf
      refine qad hS (by kernel_rfl) ?_
      conv => whnf
      have hv1:srV R = .tup [nkA [(i,a,b),c],.bool true] :=by rw [← hRb];rfl
      exact ⟨_,rfl,(by rw [hv1];exact WkV.tup2 (WkV.own _ _ _)),rfl,rfl,rfl,rfl,rfl,rfl,rfl,rfl,rfl,rfl,rfl,rfl,rfl,rfl,rfl,rfl,rfl,trivial⟩
   ·refine qac (decide_eq_false (show ¬ Int.ofNat b ≤ Int.ofNat hi from fun z => hb2 (Int.ofNat_le.1 z))) ?_
    conv => whnf
    refine .inl ?_
    conv => whnf
    rw [qf4 _ (by omega:hi + 1 ≤ b),qj9] at hRb
    exact ⟨a + 1,⟨by omega,by omega,hRb⟩,by omega,Nat.le_refl _,(zhg 18)⟩
  ·refine qac (decide_eq_false (show ¬ Int.ofNat a ≤ Int.ofNat hi from fun z => ha2 (Int.ofNat_le.1 z))) ?_
   conv => whnf
   refine .inl ?_
   conv => whnf
   rw [qf4 _ (by omega:hi + 1 ≤ a),qj9] at hRa
   exact ⟨i + 1,⟨by omega,hRa⟩,by omega,Nat.le_refl _,(zhg 18)⟩
 ·refine qac (qbn hi2) ?_
  conv => whnf
  refine .inl ?_
  conv => whnf
  rw [qf4 _ (by omega:N.length ≤ i)] at hRi
  subst hRi
  exact ⟨_,rfl,WkV.refl _,rfl,rfl,rfl,rfl,rfl,rfl,rfl,rfl,rfl,rfl,rfl,rfl,rfl,rfl,rfl,rfl,rfl,trivial⟩
end
end Go.Abs.Seat
