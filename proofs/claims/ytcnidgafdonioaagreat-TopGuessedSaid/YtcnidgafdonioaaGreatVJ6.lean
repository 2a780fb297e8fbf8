/-
  The notes that a train breaks.
-/
import Derived.Test.YtcnidgafdonioaaGreatVJ5
/-! The notes that a train breaks. -/
namespace Go.Abs.Seat
noncomputable section
open Go Go.Abs Go.Proofs.Tryz
set_option maxRecDepth 100000
set_option maxHeartbeats 40000000
theorem wrapQ {k:Nat} (h1:1 ≤ k) (h3:k ≤ 3):IntKind.i64.wrap ((Int.ofNat (2 * k)).tdiv 2) = Int.ofNat k :=by
 obtain rfl | rfl | rfl:k = 1 ∨ k = 2 ∨ k = 3 :=by omega
 all_goals decide
attribute [local irreducible] pEq
theorem wkl_ntE:∀ (i:Nat) (l:List Nat),wkl (ntE i l) = ntE i l
 | _,[] => rfl
 |i,_ :: r => by simp only [ntE,wkl,wk,wkl_ntE (i + 1) r]
theorem fdA_wk (sp:List (Nat × Nat)) (nt:List Nat):wk (fdA sp nt) = fdA sp nt :=by simp only [wk,wkl,wkl_flat,wkl_ntE]
def teL:List (Nat × Nat) → List Nat
 | [] => []
 |p :: r => p.1 :: p.2 :: teL r
theorem teL_len:∀ l,(teL l).length = 2 * l.length
 | [] => rfl
 | _ :: r => by rw [teL,List.length_cons,List.length_cons,teL_len r,List.length_cons];omega
theorem Breaks1_pure {sp:List (Nat × Nat)} {nt:List Nat} (h:fdOk sp nt) (a b:Nat) (hnt:nt.length = 1) (hw:∀ i,i < 2 → (gq sp i).1 ≤ gn [a,b] i ∧ gn [a,b] i ≤ (gq sp i).2) (hb:bkL [a,b] nt nt.length = []):Pure prog 13 [fdA sp nt,pv (zp [(a,b)])] (.tup [.nils,iv 0]) :=by
 have lS :=flat_no (zp sp)
 have lN :=ntE_no 0 nt
 have hzs :=zp_len sp
 have hsp :=h.ln
 have pI :=isFind_pure h
 have eL:((((zp [(a,b)]).length:Nat):Int) != IntKind.i64.wrap ((((zp sp).length:Nat):Int).tdiv 2)) = false :=by
  rw [bne_eq_false_iff_eq,hzs,hsp,hnt]
  exact (wrapQ (k :=1) (by omega) (by omega)).symm
 have h60:∀ j,j < ([a,b]:List Nat).length → gn [a,b] j ≤ 60 :=fun j hj => by
  have hj:j < 2 :=hj
  have h1 :=hw j hj
  have h2 :=h.sp j (by omega)
  omega
 have pB :=breaks_pure (sp :=sp) (nt :=nt) (T :=[a,b]) (by rw [hnt];rfl) h.l3 h60
 rw [hb] at pB
 have pB:Pure prog 53 [.lst [nv a,nv b] 2 .no,wk (fdA sp nt)] .nils :=by rw [fdA_wk];exact pB
 have w0 :=hw 0 (by decide)
 have p0 :=gWithin_pure (Int.ofNat a) (Int.ofNat (gq sp 0).1) (Int.ofNat (gq sp 0).2)
 rw [decide_eq_true (show Int.ofNat (gq sp 0).1 ≤ Int.ofNat a ∧ Int.ofNat a ≤ Int.ofNat (gq sp 0).2 from ⟨Int.ofNat_le.2 w0.1,Int.ofNat_le.2 w0.2⟩)] at p0
 have t0:takeN 2 (dropN (0 * 2) (flat (zp sp))) = some [nv (gq sp 0).1,nv (gq sp 0).2] :=tak_zp sp (by omega)
 have i0:inR (0:Int) (zp sp).length = true :=inR_t (i :=0) (by omega)
 have w1 :=hw 1 (by decide)
 have p1 :=gWithin_pure (Int.ofNat b) (Int.ofNat (gq sp 1).1) (Int.ofNat (gq sp 1).2)
 rw [decide_eq_true (show Int.ofNat (gq sp 1).1 ≤ Int.ofNat b ∧ Int.ofNat b ≤ Int.ofNat (gq sp 1).2 from ⟨Int.ofNat_le.2 w1.1,Int.ofNat_le.2 w1.2⟩)] at p1
 have t1:takeN 2 (dropN (1 * 2) (flat (zp sp))) = some [nv (gq sp 1).1,nv (gq sp 1).2] :=tak_zp sp (by omega)
 have i1:inR (1:Int) (zp sp).length = true :=inR_t (i :=1) (by omega)
 refine pure_sym hE rfl (by repeat' (first | exact trivial | assumption | exact flat_no _ | exact (fun _ h => nomatch h) | apply And.intro)) (by repeat' (first | exact trivial | assumption | exact flat_no _ | exact (fun _ h => nomatch h) | apply And.intro)) fun S q pc hS hq hC hE => ?_
 conv => whnf
 refine sym_pure hC (pI) ?_
 conv => whnf
 refine bool_false (eL) ?_
 conv => whnf
 refine sym_unroll hE hS ?_
 conv => whnf
 refine sym_unroll hE hS ?_
 conv => whnf
 refine sym_unroll hE hS ?_
 conv => whnf
 refine bool_true (i0) ?_
 conv => whnf
 refine plan_as (takP t0) ?_
 conv => whnf
 refine sym_pure hC (p0) ?_
 conv => whnf
 refine sym_unroll hE hS ?_
 conv => whnf
 refine bool_true (i1) ?_
 conv => whnf
 refine plan_as (takP t1) ?_
 conv => whnf
 refine sym_pure hC (p1) ?_
 conv => whnf
 refine sym_unroll hE hS ?_
 conv => whnf
 refine sym_pureW hC (pB) ?_
 conv => whnf
 exact ⟨_,rfl,Wk.refl _⟩
theorem Breaks2_pure {sp:List (Nat × Nat)} {nt:List Nat} (h:fdOk sp nt) (a b c d:Nat) (hnt:nt.length = 2) (hw:∀ i,i < 4 → (gq sp i).1 ≤ gn [a,b,c,d] i ∧ gn [a,b,c,d] i ≤ (gq sp i).2) (hb:bkL [a,b,c,d] nt nt.length = []):Pure prog 13 [fdA sp nt,pv (zp [(a,b),(c,d)])] (.tup [.nils,iv 0]) :=by
 have lS :=flat_no (zp sp)
 have lN :=ntE_no 0 nt
 have hzs :=zp_len sp
 have hsp :=h.ln
 have pI :=isFind_pure h
 have eL:((((zp [(a,b),(c,d)]).length:Nat):Int) != IntKind.i64.wrap ((((zp sp).length:Nat):Int).tdiv 2)) = false :=by
  rw [bne_eq_false_iff_eq,hzs,hsp,hnt]
  exact (wrapQ (k :=2) (by omega) (by omega)).symm
 have h60:∀ j,j < ([a,b,c,d]:List Nat).length → gn [a,b,c,d] j ≤ 60 :=fun j hj => by
  have hj:j < 4 :=hj
  have h1 :=hw j hj
  have h2 :=h.sp j (by omega)
  omega
 have pB :=breaks_pure (sp :=sp) (nt :=nt) (T :=[a,b,c,d]) (by rw [hnt];rfl) h.l3 h60
 rw [hb] at pB
 have pB:Pure prog 53 [.lst [nv a,nv b,nv c,nv d] 4 .no,wk (fdA sp nt)] .nils :=by rw [fdA_wk];exact pB
 have w0 :=hw 0 (by decide)
 have p0 :=gWithin_pure (Int.ofNat a) (Int.ofNat (gq sp 0).1) (Int.ofNat (gq sp 0).2)
 rw [decide_eq_true (show Int.ofNat (gq sp 0).1 ≤ Int.ofNat a ∧ Int.ofNat a ≤ Int.ofNat (gq sp 0).2 from ⟨Int.ofNat_le.2 w0.1,Int.ofNat_le.2 w0.2⟩)] at p0
 have t0:takeN 2 (dropN (0 * 2) (flat (zp sp))) = some [nv (gq sp 0).1,nv (gq sp 0).2] :=tak_zp sp (by omega)
 have i0:inR (0:Int) (zp sp).length = true :=inR_t (i :=0) (by omega)
 have w1 :=hw 1 (by decide)
 have p1 :=gWithin_pure (Int.ofNat b) (Int.ofNat (gq sp 1).1) (Int.ofNat (gq sp 1).2)
 rw [decide_eq_true (show Int.ofNat (gq sp 1).1 ≤ Int.ofNat b ∧ Int.ofNat b ≤ Int.ofNat (gq sp 1).2 from ⟨Int.ofNat_le.2 w1.1,Int.ofNat_le.2 w1.2⟩)] at p1
 have t1:takeN 2 (dropN (1 * 2) (flat (zp sp))) = some [nv (gq sp 1).1,nv (gq sp 1).2] :=tak_zp sp (by omega)
 have i1:inR (1:Int) (zp sp).length = true :=inR_t (i :=1) (by omega)
 have w2 :=hw 2 (by decide)
 have p2 :=gWithin_pure (Int.ofNat c) (Int.ofNat (gq sp 2).1) (Int.ofNat (gq sp 2).2)
 rw [decide_eq_true (show Int.ofNat (gq sp 2).1 ≤ Int.ofNat c ∧ Int.ofNat c ≤ Int.ofNat (gq sp 2).2 from ⟨Int.ofNat_le.2 w2.1,Int.ofNat_le.2 w2.2⟩)] at p2
 have t2:takeN 2 (dropN (2 * 2) (flat (zp sp))) = some [nv (gq sp 2).1,nv (gq sp 2).2] :=tak_zp sp (by omega)
 have i2:inR (2:Int) (zp sp).length = true :=inR_t (i :=2) (by omega)
 have w3 :=hw 3 (by decide)
 have p3 :=gWithin_pure (Int.ofNat d) (Int.ofNat (gq sp 3).1) (Int.ofNat (gq sp 3).2)
 rw [decide_eq_true (show Int.ofNat (gq sp 3).1 ≤ Int.ofNat d ∧ Int.ofNat d ≤ Int.ofNat (gq sp 3).2 from ⟨Int.ofNat_le.2 w3.1,Int.ofNat_le.2 w3.2⟩)] at p3
 have t3:takeN 2 (dropN (3 * 2) (flat (zp sp))) = some [nv (gq sp 3).1,nv (gq sp 3).2] :=tak_zp sp (by omega)
 have i3:inR (3:Int) (zp sp).length = true :=inR_t (i :=3) (by omega)
 refine pure_sym hE rfl (by repeat' (first | exact trivial | assumption | exact flat_no _ | exact (fun _ h => nomatch h) | apply And.intro)) (by repeat' (first | exact trivial | assumption | exact flat_no _ | exact (fun _ h => nomatch h) | apply And.intro)) fun S q pc hS hq hC hE => ?_
 conv => whnf
 refine sym_pure hC (pI) ?_
 conv => whnf
 refine bool_false (eL) ?_
 conv => whnf
 refine sym_unroll hE hS ?_
 conv => whnf
 refine sym_unroll hE hS ?_
 conv => whnf
 refine sym_unroll hE hS ?_
 conv => whnf
 refine sym_unroll hE hS ?_
 conv => whnf
 refine bool_true (i0) ?_
 conv => whnf
 refine plan_as (takP t0) ?_
 conv => whnf
 refine sym_pure hC (p0) ?_
 conv => whnf
 refine sym_unroll hE hS ?_
 conv => whnf
 refine bool_true (i1) ?_
 conv => whnf
 refine plan_as (takP t1) ?_
 conv => whnf
 refine sym_pure hC (p1) ?_
 conv => whnf
 refine sym_unroll hE hS ?_
 conv => whnf
 refine bool_true (i2) ?_
 conv => whnf
 refine plan_as (takP t2) ?_
 conv => whnf
 refine sym_pure hC (p2) ?_
 conv => whnf
 refine sym_unroll hE hS ?_
 conv => whnf
 refine bool_true (i3) ?_
 conv => whnf
 refine plan_as (takP t3) ?_
 conv => whnf
 refine sym_pure hC (p3) ?_
 conv => whnf
 refine sym_unroll hE hS ?_
 conv => whnf
 refine sym_pureW hC (pB) ?_
 conv => whnf
 exact ⟨_,rfl,Wk.refl _⟩
theorem Breaks3_pure {sp:List (Nat × Nat)} {nt:List Nat} (h:fdOk sp nt) (a b c d e f:Nat) (hnt:nt.length = 3) (hw:∀ i,i < 6 → (gq sp i).1 ≤ gn [a,b,c,d,e,f] i ∧ gn [a,b,c,d,e,f] i ≤ (gq sp i).2) (hb:bkL [a,b,c,d,e,f] nt nt.length = []):Pure prog 13 [fdA sp nt,pv (zp [(a,b),(c,d),(e,f)])] (.tup [.nils,iv 0]) :=by
 have lS :=flat_no (zp sp)
 have lN :=ntE_no 0 nt
 have hzs :=zp_len sp
 have hsp :=h.ln
 have pI :=isFind_pure h
 have eL:((((zp [(a,b),(c,d),(e,f)]).length:Nat):Int) != IntKind.i64.wrap ((((zp sp).length:Nat):Int).tdiv 2)) = false :=by
  rw [bne_eq_false_iff_eq,hzs,hsp,hnt]
  exact (wrapQ (k :=3) (by omega) (by omega)).symm
 have h60:∀ j,j < ([a,b,c,d,e,f]:List Nat).length → gn [a,b,c,d,e,f] j ≤ 60 :=fun j hj => by
  have hj:j < 6 :=hj
  have h1 :=hw j hj
  have h2 :=h.sp j (by omega)
  omega
 have pB :=breaks_pure (sp :=sp) (nt :=nt) (T :=[a,b,c,d,e,f]) (by rw [hnt];rfl) h.l3 h60
 rw [hb] at pB
 have pB:Pure prog 53 [.lst [nv a,nv b,nv c,nv d,nv e,nv f] 6 .no,wk (fdA sp nt)] .nils :=by rw [fdA_wk];exact pB
 have w0 :=hw 0 (by decide)
 have p0 :=gWithin_pure (Int.ofNat a) (Int.ofNat (gq sp 0).1) (Int.ofNat (gq sp 0).2)
 rw [decide_eq_true (show Int.ofNat (gq sp 0).1 ≤ Int.ofNat a ∧ Int.ofNat a ≤ Int.ofNat (gq sp 0).2 from ⟨Int.ofNat_le.2 w0.1,Int.ofNat_le.2 w0.2⟩)] at p0
 have t0:takeN 2 (dropN (0 * 2) (flat (zp sp))) = some [nv (gq sp 0).1,nv (gq sp 0).2] :=tak_zp sp (by omega)
 have i0:inR (0:Int) (zp sp).length = true :=inR_t (i :=0) (by omega)
 have w1 :=hw 1 (by decide)
 have p1 :=gWithin_pure (Int.ofNat b) (Int.ofNat (gq sp 1).1) (Int.ofNat (gq sp 1).2)
 rw [decide_eq_true (show Int.ofNat (gq sp 1).1 ≤ Int.ofNat b ∧ Int.ofNat b ≤ Int.ofNat (gq sp 1).2 from ⟨Int.ofNat_le.2 w1.1,Int.ofNat_le.2 w1.2⟩)] at p1
 have t1:takeN 2 (dropN (1 * 2) (flat (zp sp))) = some [nv (gq sp 1).1,nv (gq sp 1).2] :=tak_zp sp (by omega)
 have i1:inR (1:Int) (zp sp).length = true :=inR_t (i :=1) (by omega)
 have w2 :=hw 2 (by decide)
 have p2 :=gWithin_pure (Int.ofNat c) (Int.ofNat (gq sp 2).1) (Int.ofNat (gq sp 2).2)
 rw [decide_eq_true (show Int.ofNat (gq sp 2).1 ≤ Int.ofNat c ∧ Int.ofNat c ≤ Int.ofNat (gq sp 2).2 from ⟨Int.ofNat_le.2 w2.1,Int.ofNat_le.2 w2.2⟩)] at p2
 have t2:takeN 2 (dropN (2 * 2) (flat (zp sp))) = some [nv (gq sp 2).1,nv (gq sp 2).2] :=tak_zp sp (by omega)
 have i2:inR (2:Int) (zp sp).length = true :=inR_t (i :=2) (by omega)
 have w3 :=hw 3 (by decide)
 have p3 :=gWithin_pure (Int.ofNat d) (Int.ofNat (gq sp 3).1) (Int.ofNat (gq sp 3).2)
 rw [decide_eq_true (show Int.ofNat (gq sp 3).1 ≤ Int.ofNat d ∧ Int.ofNat d ≤ Int.ofNat (gq sp 3).2 from ⟨Int.ofNat_le.2 w3.1,Int.ofNat_le.2 w3.2⟩)] at p3
 have t3:takeN 2 (dropN (3 * 2) (flat (zp sp))) = some [nv (gq sp 3).1,nv (gq sp 3).2] :=tak_zp sp (by omega)
 have i3:inR (3:Int) (zp sp).length = true :=inR_t (i :=3) (by omega)
 have w4 :=hw 4 (by decide)
 have p4 :=gWithin_pure (Int.ofNat e) (Int.ofNat (gq sp 4).1) (Int.ofNat (gq sp 4).2)
 rw [decide_eq_true (show Int.ofNat (gq sp 4).1 ≤ Int.ofNat e ∧ Int.ofNat e ≤ Int.ofNat (gq sp 4).2 from ⟨Int.ofNat_le.2 w4.1,Int.ofNat_le.2 w4.2⟩)] at p4
 have t4:takeN 2 (dropN (4 * 2) (flat (zp sp))) = some [nv (gq sp 4).1,nv (gq sp 4).2] :=tak_zp sp (by omega)
 have i4:inR (4:Int) (zp sp).length = true :=inR_t (i :=4) (by omega)
 have w5 :=hw 5 (by decide)
 have p5 :=gWithin_pure (Int.ofNat f) (Int.ofNat (gq sp 5).1) (Int.ofNat (gq sp 5).2)
 rw [decide_eq_true (show Int.ofNat (gq sp 5).1 ≤ Int.ofNat f ∧ Int.ofNat f ≤ Int.ofNat (gq sp 5).2 from ⟨Int.ofNat_le.2 w5.1,Int.ofNat_le.2 w5.2⟩)] at p5
 have t5:takeN 2 (dropN (5 * 2) (flat (zp sp))) = some [nv (gq sp 5).1,nv (gq sp 5).2] :=tak_zp sp (by omega)
 have i5:inR (5:Int) (zp sp).length = true :=inR_t (i :=5) (by omega)
 refine pure_sym hE rfl (by repeat' (first | exact trivial | assumption | exact flat_no _ | exact (fun _ h => nomatch h) | apply And.intro)) (by repeat' (first | exact trivial | assumption | exact flat_no _ | exact (fun _ h => nomatch h) | apply And.intro)) fun S q pc hS hq hC hE => ?_
 conv => whnf
 refine sym_pure hC (pI) ?_
 conv => whnf
 refine bool_false (eL) ?_
 conv => whnf
 refine sym_unroll hE hS ?_
 conv => whnf
 refine sym_unroll hE hS ?_
 conv => whnf
 refine sym_unroll hE hS ?_
 conv => whnf
 refine sym_unroll hE hS ?_
 conv => whnf
 refine sym_unroll hE hS ?_
 conv => whnf
 refine bool_true (i0) ?_
 conv => whnf
 refine plan_as (takP t0) ?_
 conv => whnf
 refine sym_pure hC (p0) ?_
 conv => whnf
 refine sym_unroll hE hS ?_
 conv => whnf
 refine bool_true (i1) ?_
 conv => whnf
 refine plan_as (takP t1) ?_
 conv => whnf
 refine sym_pure hC (p1) ?_
 conv => whnf
 refine sym_unroll hE hS ?_
 conv => whnf
 refine bool_true (i2) ?_
 conv => whnf
 refine plan_as (takP t2) ?_
 conv => whnf
 refine sym_pure hC (p2) ?_
 conv => whnf
 refine sym_unroll hE hS ?_
 conv => whnf
 refine bool_true (i3) ?_
 conv => whnf
 refine plan_as (takP t3) ?_
 conv => whnf
 refine sym_pure hC (p3) ?_
 conv => whnf
 refine sym_unroll hE hS ?_
 conv => whnf
 refine bool_true (i4) ?_
 conv => whnf
 refine plan_as (takP t4) ?_
 conv => whnf
 refine sym_pure hC (p4) ?_
 conv => whnf
 refine sym_unroll hE hS ?_
 conv => whnf
 refine bool_true (i5) ?_
 conv => whnf
 refine plan_as (takP t5) ?_
 conv => whnf
 refine sym_pure hC (p5) ?_
 conv => whnf
 refine sym_unroll hE hS ?_
 conv => whnf
 refine sym_pureW hC (pB) ?_
 conv => whnf
 exact ⟨_,rfl,Wk.refl _⟩
end
end Go.Abs.Seat

