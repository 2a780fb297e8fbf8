/-
  What the law makes of a train: its teeth, the find.
-/
import Derived.Test.YtcnidgafdonioaaGreatVJ10
import Derived.Test.YtcnidgafdonioaaGreatVJ9
namespace Go.Abs.Seat
noncomputable section
open Go Go.Abs Go.Proofs.Tryz
set_option maxRecDepth 100000
set_option maxHeartbeats 40000000
attribute [local irreducible] pEq
theorem wk_agg22 {x y x' y':AV} (h1:Wk x x') (h2:Wk y y'):Wk (.agg [x,y]) (.agg [x',y']) :=by
 intro g w u hu
 obtain ⟨vs,e,u1,us1,e1,r1,u2,us2,e2,r2,e3⟩ :=hu
 exact ⟨vs,e,u1,us1,e1,h1 g w _ r1,u2,us2,e2,h2 g w _ r2,e3⟩
theorem teeth1 (a b:Nat):Pure prog 16 [pv (zp [(a,b)])] (nl (zl [a,b])) :=by
 refine pure_sym hE rfl (by repeat' (first | exact trivial | assumption | exact flat_no _ | exact (fun _ h => nomatch h) | apply And.intro)) (by repeat' (first | exact trivial | assumption | exact flat_no _ | exact (fun _ h => nomatch h) | apply And.intro)) fun S q pc hS hq hC hE => ?_
 conv => whnf
 refine sym_unroll hE hS ?_
 conv => whnf
 refine sym_drawn hS (by kernel_rfl) ?_
 conv => whnf
 refine sym_unroll hE hS ?_
 conv => whnf
 exact ⟨_,rfl,wk_own rfl⟩
theorem teeth2 (a b c d:Nat):Pure prog 16 [pv (zp [(a,b),(c,d)])] (nl (zl [a,b,c,d])) :=by
 refine pure_sym hE rfl (by repeat' (first | exact trivial | assumption | exact flat_no _ | exact (fun _ h => nomatch h) | apply And.intro)) (by repeat' (first | exact trivial | assumption | exact flat_no _ | exact (fun _ h => nomatch h) | apply And.intro)) fun S q pc hS hq hC hE => ?_
 conv => whnf
 refine sym_unroll hE hS ?_
 conv => whnf
 refine sym_drawn hS (by kernel_rfl) ?_
 conv => whnf
 refine sym_unroll hE hS ?_
 conv => whnf
 refine sym_drawn hS (by kernel_rfl) ?_
 conv => whnf
 refine sym_unroll hE hS ?_
 conv => whnf
 exact ⟨_,rfl,wk_own rfl⟩
theorem teeth3 (a b c d e f:Nat):Pure prog 16 [pv (zp [(a,b),(c,d),(e,f)])] (nl (zl [a,b,c,d,e,f])) :=by
 refine pure_sym hE rfl (by repeat' (first | exact trivial | assumption | exact flat_no _ | exact (fun _ h => nomatch h) | apply And.intro)) (by repeat' (first | exact trivial | assumption | exact flat_no _ | exact (fun _ h => nomatch h) | apply And.intro)) fun S q pc hS hq hC hE => ?_
 conv => whnf
 refine sym_unroll hE hS ?_
 conv => whnf
 refine sym_drawn hS (by kernel_rfl) ?_
 conv => whnf
 refine sym_unroll hE hS ?_
 conv => whnf
 refine sym_drawn hS (by kernel_rfl) ?_
 conv => whnf
 refine sym_unroll hE hS ?_
 conv => whnf
 refine sym_drawn hS (by kernel_rfl) ?_
 conv => whnf
 refine sym_unroll hE hS ?_
 conv => whnf
 exact ⟨_,rfl,wk_own rfl⟩
theorem find1 (a b l m:Nat):Pure prog 12 [pv (zp [(a,b)]),nv l,nv m] (.agg [.lst [iv (maxI 4 (IntKind.i64.wrap (Int.ofNat a - Int.ofNat l))),iv (minI 60 (IntKind.i64.wrap (Int.ofNat a + Int.ofNat m))),iv (maxI 4 (IntKind.i64.wrap (Int.ofNat b - Int.ofNat l))),iv (minI 60 (IntKind.i64.wrap (Int.ofNat b + Int.ofNat m)))] 2 .no,.lst [iv 2,nv 0,iv 0,iv (IntKind.i64.wrap (Int.ofNat a + Int.ofNat b)),iv (IntKind.i64.wrap (Int.ofNat a + Int.ofNat b)),iv 0,iv 0,iv 0,iv 0] 1 .no]) :=by
 have pT :=teeth1 a b
 refine pure_sym hE rfl (by repeat' (first | exact trivial | assumption | exact flat_no _ | exact (fun _ h => nomatch h) | apply And.intro)) (by repeat' (first | exact trivial | assumption | exact flat_no _ | exact (fun _ h => nomatch h) | apply And.intro)) fun S q pc hS hq hC hE => ?_
 conv => whnf
 refine sym_pure hC (pT) ?_
 conv => whnf
 refine sym_unroll hE hS ?_
 conv => whnf
 refine sym_drawn hS (by kernel_rfl) ?_
 conv => whnf
 refine sym_unroll hE hS ?_
 conv => whnf
 refine sym_drawn hS (by kernel_rfl) ?_
 conv => whnf
 refine sym_unroll hE hS ?_
 conv => whnf
 refine sym_unroll hE hS ?_
 conv => whnf
 refine sym_drawn hS (by kernel_rfl) ?_
 conv => whnf
 refine sym_unroll hE hS ?_
 conv => whnf
 exact ⟨_,rfl,wk_agg22 (wk_own rfl) (wk_own rfl)⟩
theorem find2 (a b c d l m:Nat):Pure prog 12 [pv (zp [(a,b),(c,d)]),nv l,nv m] (.agg [.lst [iv (maxI 4 (IntKind.i64.wrap (Int.ofNat a - Int.ofNat l))),iv (minI 60 (IntKind.i64.wrap (Int.ofNat a + Int.ofNat m))),iv (maxI 4 (IntKind.i64.wrap (Int.ofNat b - Int.ofNat l))),iv (minI 60 (IntKind.i64.wrap (Int.ofNat b + Int.ofNat m))),iv (maxI 4 (IntKind.i64.wrap (Int.ofNat c - Int.ofNat l))),iv (minI 60 (IntKind.i64.wrap (Int.ofNat c + Int.ofNat m))),iv (maxI 4 (IntKind.i64.wrap (Int.ofNat d - Int.ofNat l))),iv (minI 60 (IntKind.i64.wrap (Int.ofNat d + Int.ofNat m)))] 4 .no,.lst [iv 2,nv 0,iv 0,iv (IntKind.i64.wrap (Int.ofNat a + Int.ofNat b)),iv (IntKind.i64.wrap (Int.ofNat a + Int.ofNat b)),iv 0,iv 0,iv 0,iv 0,iv 2,nv 1,iv 0,iv (IntKind.i64.wrap (Int.ofNat c + Int.ofNat d)),iv (IntKind.i64.wrap (Int.ofNat c + Int.ofNat d)),iv 0,iv 0,iv 0,iv 0] 2 .no]) :=by
 have pT :=teeth2 a b c d
 refine pure_sym hE rfl (by repeat' (first | exact trivial | assumption | exact flat_no _ | exact (fun _ h => nomatch h) | apply And.intro)) (by repeat' (first | exact trivial | assumption | exact flat_no _ | exact (fun _ h => nomatch h) | apply And.intro)) fun S q pc hS hq hC hE => ?_
 conv => whnf
 refine sym_pure hC (pT) ?_
 conv => whnf
 refine sym_unroll hE hS ?_
 conv => whnf
 refine sym_drawn hS (by kernel_rfl) ?_
 conv => whnf
 refine sym_unroll hE hS ?_
 conv => whnf
 refine sym_drawn hS (by kernel_rfl) ?_
 conv => whnf
 refine sym_unroll hE hS ?_
 conv => whnf
 refine sym_drawn hS (by kernel_rfl) ?_
 conv => whnf
 refine sym_unroll hE hS ?_
 conv => whnf
 refine sym_drawn hS (by kernel_rfl) ?_
 conv => whnf
 refine sym_unroll hE hS ?_
 conv => whnf
 refine sym_unroll hE hS ?_
 conv => whnf
 refine sym_drawn hS (by kernel_rfl) ?_
 conv => whnf
 refine sym_unroll hE hS ?_
 conv => whnf
 refine sym_drawn hS (by kernel_rfl) ?_
 conv => whnf
 refine sym_unroll hE hS ?_
 conv => whnf
 exact ⟨_,rfl,wk_agg22 (wk_own rfl) (wk_own rfl)⟩
theorem find3 (a b c d e f l m:Nat):Pure prog 12 [pv (zp [(a,b),(c,d),(e,f)]),nv l,nv m] (.agg [.lst [iv (maxI 4 (IntKind.i64.wrap (Int.ofNat a - Int.ofNat l))),iv (minI 60 (IntKind.i64.wrap (Int.ofNat a + Int.ofNat m))),iv (maxI 4 (IntKind.i64.wrap (Int.ofNat b - Int.ofNat l))),iv (minI 60 (IntKind.i64.wrap (Int.ofNat b + Int.ofNat m))),iv (maxI 4 (IntKind.i64.wrap (Int.ofNat c - Int.ofNat l))),iv (minI 60 (IntKind.i64.wrap (Int.ofNat c + Int.ofNat m))),iv (maxI 4 (IntKind.i64.wrap (Int.ofNat d - Int.ofNat l))),iv (minI 60 (IntKind.i64.wrap (Int.ofNat d + Int.ofNat m))),iv (maxI 4 (IntKind.i64.wrap (Int.ofNat e - Int.ofNat l))),iv (minI 60 (IntKind.i64.wrap (Int.ofNat e + Int.ofNat m))),iv (maxI 4 (IntKind.i64.wrap (Int.ofNat f - Int.ofNat l))),iv (minI 60 (IntKind.i64.wrap (Int.ofNat f + Int.ofNat m)))] 6 .no,.lst [iv 2,nv 0,iv 0,iv (IntKind.i64.wrap (Int.ofNat a + Int.ofNat b)),iv (IntKind.i64.wrap (Int.ofNat a + Int.ofNat b)),iv 0,iv 0,iv 0,iv 0,iv 2,nv 1,iv 0,iv (IntKind.i64.wrap (Int.ofNat c + Int.ofNat d)),iv (IntKind.i64.wrap (Int.ofNat c + Int.ofNat d)),iv 0,iv 0,iv 0,iv 0,iv 2,nv 2,iv 0,iv (IntKind.i64.wrap (Int.ofNat e + Int.ofNat f)),iv (IntKind.i64.wrap (Int.ofNat e + Int.ofNat f)),iv 0,iv 0,iv 0,iv 0] 3 .no]) :=by
 have pT :=teeth3 a b c d e f
 refine pure_sym hE rfl (by repeat' (first | exact trivial | assumption | exact flat_no _ | exact (fun _ h => nomatch h) | apply And.intro)) (by repeat' (first | exact trivial | assumption | exact flat_no _ | exact (fun _ h => nomatch h) | apply And.intro)) fun S q pc hS hq hC hE => ?_
 conv => whnf
 refine sym_pure hC (pT) ?_
 conv => whnf
 refine sym_unroll hE hS ?_
 conv => whnf
 refine sym_drawn hS (by kernel_rfl) ?_
 conv => whnf
 refine sym_unroll hE hS ?_
 conv => whnf
 refine sym_drawn hS (by kernel_rfl) ?_
 conv => whnf
 refine sym_unroll hE hS ?_
 conv => whnf
 refine sym_drawn hS (by kernel_rfl) ?_
 conv => whnf
 refine sym_unroll hE hS ?_
 conv => whnf
 refine sym_drawn hS (by kernel_rfl) ?_
 conv => whnf
 refine sym_unroll hE hS ?_
 conv => whnf
 refine sym_drawn hS (by kernel_rfl) ?_
 conv => whnf
 refine sym_unroll hE hS ?_
 conv => whnf
 refine sym_drawn hS (by kernel_rfl) ?_
 conv => whnf
 refine sym_unroll hE hS ?_
 conv => whnf
 refine sym_unroll hE hS ?_
 conv => whnf
 refine sym_drawn hS (by kernel_rfl) ?_
 conv => whnf
 refine sym_unroll hE hS ?_
 conv => whnf
 refine sym_drawn hS (by kernel_rfl) ?_
 conv => whnf
 refine sym_unroll hE hS ?_
 conv => whnf
 refine sym_drawn hS (by kernel_rfl) ?_
 conv => whnf
 refine sym_unroll hE hS ?_
 conv => whnf
 exact ⟨_,rfl,wk_agg22 (wk_own rfl) (wk_own rfl)⟩
theorem loF {a l:Nat} (ha:a ≤ 60) (hl:l ≤ 5):maxI 4 (IntKind.i64.wrap (Int.ofNat a - Int.ofNat l)) = Int.ofNat (max 4 (a - l)) :=by
 rw [show IntKind.i64.wrap (Int.ofNat a - Int.ofNat l) = (a:Int) - (l:Int) from wrapI (by show _ ≤ (a:Int) - (l:Int);omega) (by show (a:Int) - (l:Int) < _;omega)]
 unfold maxI
 show _ = ((max 4 (a - l):Nat):Int)
 by_cases c:(a:Int) - (l:Int) > 4
 ·rw [if_pos c,Nat.max_eq_right (by omega)];omega
 ·rw [if_neg c,Nat.max_eq_left (by omega)];rfl
theorem hiF {a m:Nat} (ha:a ≤ 60) (hm:m ≤ 5):minI 60 (IntKind.i64.wrap (Int.ofNat a + Int.ofNat m)) = Int.ofNat (min 60 (a + m)) :=by
 rw [show IntKind.i64.wrap (Int.ofNat a + Int.ofNat m) = Int.ofNat (a + m) from wrapN (m :=a + m) (by omega)]
 exact minI_n 60 (a + m)
theorem smF {a b:Nat} (ha:a ≤ 60) (hb:b ≤ 60):IntKind.i64.wrap (Int.ofNat a + Int.ofNat b) = Int.ofNat (a + b) :=wrapN (m :=a + b) (by omega)
def spT (l m:Nat) (T:List Nat):List (Nat × Nat) :=T.map fun t => (max 4 (t - l),min 60 (t + m))
def smL (L:List (Nat × Nat)):List Nat :=L.map fun p => p.1 + p.2
theorem find_pure {l m:Nat} (hl:l ≤ 5) (hm:m ≤ 5):∀ (L:List (Nat × Nat)),1 ≤ L.length ∧ L.length ≤ 3 → (∀ t,t ∈ teL L → t ≤ 60) → Pure prog 12 [pv (zp L),nv l,nv m] (fdA (spT l m (teL L)) (smL L))
 | [],h,_ => absurd h.1 (by decide)
 | [(a,b)],_,hT => by
  have hF :=find1 a b l m
  have b0:a ≤ 60 :=hT a (by simp [teL])
  have b1:b ≤ 60 :=hT b (by simp [teL])
  rw [loF (a :=a) (by omega) hl,hiF (a :=a) (by omega) hm,loF (a :=b) (by omega) hl,hiF (a :=b) (by omega) hm,smF (a :=a) (b :=b) (by omega) (by omega)] at hF
  exact hF
 | [(a,b),(c,d)],_,hT => by
  have hF :=find2 a b c d l m
  have b0:a ≤ 60 :=hT a (by simp [teL])
  have b1:b ≤ 60 :=hT b (by simp [teL])
  have b2:c ≤ 60 :=hT c (by simp [teL])
  have b3:d ≤ 60 :=hT d (by simp [teL])
  rw [loF (a :=a) (by omega) hl,hiF (a :=a) (by omega) hm,loF (a :=b) (by omega) hl,hiF (a :=b) (by omega) hm,loF (a :=c) (by omega) hl,hiF (a :=c) (by omega) hm,loF (a :=d) (by omega) hl,hiF (a :=d) (by omega) hm,smF (a :=a) (b :=b) (by omega) (by omega),smF (a :=c) (b :=d) (by omega) (by omega)] at hF
  exact hF
 | [(a,b),(c,d),(e,f)],_,hT => by
  have hF :=find3 a b c d e f l m
  have b0:a ≤ 60 :=hT a (by simp [teL])
  have b1:b ≤ 60 :=hT b (by simp [teL])
  have b2:c ≤ 60 :=hT c (by simp [teL])
  have b3:d ≤ 60 :=hT d (by simp [teL])
  have b4:e ≤ 60 :=hT e (by simp [teL])
  have b5:f ≤ 60 :=hT f (by simp [teL])
  rw [loF (a :=a) (by omega) hl,hiF (a :=a) (by omega) hm,loF (a :=b) (by omega) hl,hiF (a :=b) (by omega) hm,loF (a :=c) (by omega) hl,hiF (a :=c) (by omega) hm,loF (a :=d) (by omega) hl,hiF (a :=d) (by omega) hm,loF (a :=e) (by omega) hl,hiF (a :=e) (by omega) hm,loF (a :=f) (by omega) hl,hiF (a :=f) (by omega) hm,smF (a :=a) (b :=b) (by omega) (by omega),smF (a :=c) (b :=d) (by omega) (by omega),smF (a :=e) (b :=f) (by omega) (by omega)] at hF
  exact hF
 | _ :: _ :: _ :: _ :: _,h,_ => absurd h.2 (by simp)
theorem teeth_pure:∀ (L:List (Nat × Nat)),1 ≤ L.length ∧ L.length ≤ 3 → Pure prog 16 [pv (zp L)] (nl (zl (teL L)))
 | [],h => absurd h.1 (by decide)
 | [(a,b)],_ => teeth1 a b
 | [(a,b),(c,d)],_ => teeth2 a b c d
 | [(a,b),(c,d),(e,f)],_ => teeth3 a b c d e f
 | _ :: _ :: _ :: _ :: _,h => absurd h.2 (by simp)
theorem Breaks_pure {sp:List (Nat × Nat)} {nt:List Nat} (h:fdOk sp nt):∀ (L:List (Nat × Nat)),L.length = nt.length → (∀ i,i < sp.length → (gq sp i).1 ≤ gn (teL L) i ∧ gn (teL L) i ≤ (gq sp i).2) → bkL (teL L) nt nt.length = [] → Pure prog 13 [fdA sp nt,pv (zp L)] (.tup [.nils,iv 0])
 | [],e,_,_ => absurd h.l1 (by rw [← e];decide)
 | [(a,b)],e,hw,hb => Breaks1_pure h a b e.symm (fun i hi => hw i (by rw [h.ln,← e];exact hi)) hb
 | [(a,b),(c,d)],e,hw,hb => Breaks2_pure h a b c d e.symm (fun i hi => hw i (by rw [h.ln,← e];exact hi)) hb
 | [(a,b),(c,d),(p,q)],e,hw,hb => Breaks3_pure h a b c d p q e.symm (fun i hi => hw i (by rw [h.ln,← e];exact hi)) hb
 | _ :: _ :: _ :: _ :: _,e,_,_ => absurd h.l3 (by rw [← e];simp)
end
end Go.Abs.Seat
