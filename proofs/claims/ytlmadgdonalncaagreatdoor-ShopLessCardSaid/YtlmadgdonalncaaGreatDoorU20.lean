/-
  The law ShopBills.
-/
import Derived.Test.YtlmadgdonalncaaGreatDoorB9
import Derived.Test.YtlmadgdonalncaaGreatDoorU19
import Derived.Test.YtlmadgdonalncaaGreatDoorU17
import Derived.Test.YtlmadgdonalncaaGreatDoorU7
import Derived.Test.YtlmadgdonalncaaGreatDoorU6
import Derived.Test.YtlmadgdonalncaaGreatDoorB7
namespace Go.Abs.Seat
noncomputable section
open Go Go.Abs Go.Proofs.Tryz
set_option maxRecDepth 100000
set_option maxHeartbeats 40000000
attribute [local irreducible] IntKind.wrap pEq
theorem ofT {a:Int} (h:0 ≤ a):Int.ofNat a.toNat = a :=Int.toNat_of_nonneg h
theorem qpr:∀ {l:List Int},allT l → ∃ m:List Nat,l = zl m ∧ ∀ y,y ∈ m → y ≤ 60
 | [],_ => ⟨[],rfl,fun _ h => absurd h (List.not_mem_nil)⟩
 |x :: r,h => by
  have h2 :=qtz.1 h
  obtain ⟨m,e,hm⟩ :=qpr h2.2
  have hx :=h2.1
  unfold tth at hx
  refine ⟨x.toNat :: m,by rw [e];show x :: zl m = Int.ofNat x.toNat :: zl m;rw [ofT (by omega)],fun y hy => ?_⟩
  rcases List.mem_cons.1 hy with rfl | hy
  ·omega
  ·exact hm y hy
theorem qy4 {x y:AV} {T D:List Int} (hx:IL x T) (hy:IL y D) (hs:¬ (T.length ≤ 10 ∧ D.length ≤ 10)):Pure prog 37 [x,y] (.bool false) :=by
 have lx :=hx.no
 have ly :=hy.no
 rcases hx with ⟨rfl,rfl⟩ | rfl <;> rcases hy with ⟨rfl,rfl⟩ | rfl
 ·exact absurd ⟨by decide,by decide⟩ hs
 ·have c2:decide ((D.length:Int) ≤ 10) = false :=decide_eq_false fun k => hs ⟨by simp,by omega⟩
  refine qas hE rfl (by repeat' first|exact trivial|assumption|exact qag _|exact fun _ h => nomatch h|apply And.intro) (by repeat' first|exact trivial|assumption|exact qag _|exact fun _ h => nomatch h|apply And.intro) fun S q pc hS hq hC hE => ?_
  conv => whnf
  repeat ((first|refine qao c2 ?_|refine qap c2 ?_|refine pkF c2 ?_|refine qac c2 ?_|refine qad hS (by kernel_rfl) ?_);conv => whnf)
  exact ⟨_,rfl,wkb c2⟩
 ·have c2:decide ((T.length:Int) ≤ 10) = false :=decide_eq_false fun k => hs ⟨by omega,by simp⟩
  refine qas hE rfl (by repeat' first|exact trivial|assumption|exact qag _|exact fun _ h => nomatch h|apply And.intro) (by repeat' first|exact trivial|assumption|exact qag _|exact fun _ h => nomatch h|apply And.intro) fun S q pc hS hq hC hE => ?_
  conv => whnf
  repeat ((first|refine qao c2 ?_|refine qap c2 ?_|refine pkF c2 ?_|refine qac c2 ?_|refine qad hS (by kernel_rfl) ?_);conv => whnf)
  exact ⟨_,rfl,Wk.refl _⟩
 ·by_cases k:T.length ≤ 10
  ·have c1:decide ((T.length:Int) ≤ 10) = true :=decide_eq_true (by omega)
   have c2:decide ((D.length:Int) ≤ 10) = false :=decide_eq_false fun q => hs ⟨k,by omega⟩
   refine qas hE rfl (by repeat' first|exact trivial|assumption|exact qag _|exact fun _ h => nomatch h|apply And.intro) (by repeat' first|exact trivial|assumption|exact qag _|exact fun _ h => nomatch h|apply And.intro) fun S q pc hS hq hC hE => ?_
   conv => whnf
   repeat ((first|refine qai ‹_› ?_|refine qah ‹_› ?_|refine pkT ‹_› ?_|refine qaa ‹_› ?_|refine qao ‹_› ?_|refine qap ‹_› ?_|refine pkF ‹_› ?_|refine qac ‹_› ?_|refine qad hS (by kernel_rfl) ?_);conv => whnf)
   exact ⟨_,rfl,wkb c2⟩
  ·have c1:decide ((T.length:Int) ≤ 10) = false :=decide_eq_false (by omega)
   refine qas hE rfl (by repeat' first|exact trivial|assumption|exact qag _|exact fun _ h => nomatch h|apply And.intro) (by repeat' first|exact trivial|assumption|exact qag _|exact fun _ h => nomatch h|apply And.intro) fun S q pc hS hq hC hE => ?_
   conv => whnf
   repeat ((first|refine qao c1 ?_|refine qap c1 ?_|refine pkF c1 ?_|refine qac c1 ?_|refine qad hS (by kernel_rfl) ?_);conv => whnf)
   exact ⟨_,rfl,Wk.refl _⟩
theorem qq9 {x y:AV} {T D:List Int} (hx:IL x T) (hy:IL y D) (h1:T.length ≤ 10) (h2:D.length ≤ 10):Pure prog 37 [x,y] (.bool true) :=by
 have c1:decide ((T.length:Int) ≤ 10) = true :=decide_eq_true (by omega)
 have c2:decide ((D.length:Int) ≤ 10) = true :=decide_eq_true (by omega)
 have lx :=hx.no
 have ly :=hy.no
 rcases hx with ⟨rfl,rfl⟩ | rfl <;> rcases hy with ⟨rfl,rfl⟩ | rfl
 all_goals
  refine qas hE rfl (by repeat' first|exact trivial|assumption|exact qag _|exact fun _ h => nomatch h|apply And.intro) (by repeat' first|exact trivial|assumption|exact qag _|exact fun _ h => nomatch h|apply And.intro) fun S q pc hS hq hC hE => ?_
  conv => whnf
  repeat ((first|refine qai ‹_› ?_|refine qah ‹_› ?_|refine pkT ‹_› ?_|refine qaa ‹_› ?_|refine qad hS (by kernel_rfl) ?_);conv => whnf)
  first|exact ⟨_,rfl,Wk.refl _⟩|exact ⟨_,rfl,wkb c2⟩
theorem qyz (T:List Int):wlOk T ↔ whOk T ∧ T ≠ [] :=by
 constructor
 ·rintro ⟨h1,h2,h3⟩
  exact ⟨⟨h3,h1⟩,fun z => by rw [z] at h2;exact absurd h2 (by decide)⟩
 ·rintro ⟨⟨h1,h2⟩,h3⟩
  exact ⟨h2,Nat.pos_of_ne_zero fun z => h3 (List.eq_nil_of_length_eq_zero z),h1⟩
structure pqN (long saw:Int) (T:List Int) (n s:Nat) (t:List Nat):Prop where
 a:long = Int.ofNat n
 b:saw = Int.ofNat s
 c:T = zl t
 q1:swOk (Int.ofNat n) (Int.ofNat s)
 q2:whOk (zl t)
 l1:1 ≤ t.length
 l8:t.length ≤ 8
 n5:n ≤ 500
 s9:s ≤ 9
 ht:∀ x,x ∈ t → 1 ≤ x ∧ x ≤ 60
 wl:wlOk (zl t)
theorem q0h {long saw:Int} {T:List Int} (h1:swOk long saw) (h2:wlOk T):∃ n s t,pqN long saw T n s t :=by
 obtain ⟨n,rfl,hn⟩ :=qsv (m :=500) (a :=long) ⟨by have :=h1.1.1;omega,h1.1.2⟩
 obtain ⟨s,rfl,hs⟩ :=qsv (m :=9) (a :=saw) h1.2
 obtain ⟨t,rfl,ht⟩ :=qpr h2.1
 have hl :=h2.2
 rw [qct] at hl
 refine ⟨n,s,t,rfl,rfl,rfl,h1,((qyz _).1 h2).1,hl.1,hl.2,Int.ofNat_le.1 hn,Int.ofNat_le.1 hs,fun x hx => ⟨?_,ht x hx⟩,h2⟩
 obtain ⟨j,hj,e⟩ :=List.getElem_of_mem hx
 have :=h2.1 j (by rw [qct];exact hj)
 rw [qkk t hj,show gn t j = x by rw [← e];simp [gn,List.getD,hj]] at this
 have :=this.1
 simp only [Int.ofNat_eq_natCast] at this
 omega
theorem qz8 {x:AV} {L:List LkI} (h:LL x L) (hl:1 ≤ L.length):x = lkA L :=by
 rcases h with ⟨_,rfl⟩ | h
 ·exact absurd hl (by simp)
 ·exact h
end
end Go.Abs.Seat
namespace Go.Abs.Seat
open Go Go.Abs Go.Proofs.Tryz
set_option maxRecDepth 100000
theorem gRates:GoalM noMu [] 48 [aP] (.tup [rows .no [1,1,1,2,1,3,3,4] 4,.lst [.bool true,.bool false,.bool true,.bool true] 4 .no,i64 0]) :=of_eq_true (by kernel_rfl)
theorem pRates:Pure prog 48 [aP] (.tup [rows .no [1,1,1,2,1,3,3,4] 4,.lst [.bool true,.bool false,.bool true,.bool true] 4 .no,i64 0]) :=gRates.pure MOK.nil (by kernel_rfl)
theorem gSpoils:GoalM muLinks [] 50 [aP,.agg [i64 0,i64 10,i64 30]] (.tup [ints .no [0,1],i64 0]) :=of_eq_true (by kernel_rfl)
theorem pSpoils:Pure prog 50 [aP,.agg [i64 0,i64 10,i64 30]] (.tup [ints .no [0,1],i64 0]) :=gSpoils.pure MOK.nil (by kernel_rfl)
theorem gSheets:GoalM noMu [] 40 [i64 100,i64 2,ints .full [10,20,15,10]] (.tup [ints .no [0,0,0,1],i64 2,i64 0]) :=of_eq_true (by kernel_rfl)
theorem pSheets:Pure prog 40 [i64 100,i64 2,ints .full [10,20,15,10]] (.tup [ints .no [0,0,0,1],i64 2,i64 0]) :=gSheets.pure MOK.nil (by kernel_rfl)
theorem gBalances:GoalM noMu [] 14 [i64 3,aE] (.tup [ints .no [-9,6,3],i64 0]) :=of_eq_true (by kernel_rfl)
theorem pBalances:Pure prog 14 [i64 3,aE] (.tup [ints .no [-9,6,3],i64 0]) :=gBalances.pure MOK.nil (by kernel_rfl)
theorem gSettle:GoalM muSettle [] 15 [i64 3,aE] (.tup [rows .no [1,0,6,2,0,3] 2,i64 0]) :=of_eq_true (by kernel_rfl)
theorem pSettle:Pure prog 15 [i64 3,aE] (.tup [rows .no [1,0,6,2,0,3] 2,i64 0]) :=gSettle.pure MOK.nil (by kernel_rfl)
theorem gBill:GoalM noMu [] 57 [aB] (.tup [i64 43,i64 23,i64 0]) :=of_eq_true (by kernel_rfl)
theorem pBill:Pure prog 57 [aB] (.tup [i64 43,i64 23,i64 0]) :=gBill.pure MOK.nil (by kernel_rfl)
theorem gRead:GoalM noMu [] 44 [aText] (.tup [.agg [rows .no [0,4,4] 1,ints .no [1]],i64 0]) :=of_eq_true (by kernel_rfl)
theorem pRead:Pure prog 44 [aText] (.tup [.agg [rows .no [0,4,4] 1,ints .no [1]],i64 0]) :=gRead.pure MOK.nil (by kernel_rfl)
end Go.Abs.Seat
namespace Go.Abs.Seat
noncomputable section
open Go Go.Abs Go.Proofs.Tryz
set_option maxRecDepth 100000
def N0:List Lk :=[(0,10,20),(1,12,18),(1,15,10)]
def H0:List Nat :=[2,3]
theorem okN0:okN N0 :=by
 refine ⟨fun i hi => ?_,fun i hi => ?_,fun i hi => ?_,fun i hi => ?_⟩
 all_goals
  match i,hi with
  | 0,_ => decide
  | 1,_ => decide
  | 2,_ => decide
theorem pc0:Pure prog 89 [.agg [nkA N0,nl (zl H0)]] (.bool true) :=by
 have h :=isPiece_pure (L :=cL N0) (M :=zl H0) (.inr rfl) (.inr rfl)
 rwa [decide_eq_true (show pcOk (cL N0) (zl H0) from ⟨⟨⟨by decide,by decide⟩,by decide,by decide⟩,⟨N0,rfl,okN0⟩,fun j hj => by
  match j,hj with
  | 0,_ => exact ⟨by decide,by decide⟩
  | 1,_ => exact ⟨by decide,by decide⟩⟩)] at h
theorem hd0:hdN N0.length H0 :=⟨by decide,fun x hx => by
 rcases List.mem_cons.1 hx with rfl | hx
 ·decide
 ·rcases List.mem_cons.1 hx with rfl | hx
  ·decide
  ·cases hx⟩
theorem adds0:Pure prog 53 [.agg [nkA N0,nl (zl H0)],nv 10,nv 20,fv (Int.ofNat 43) (Int.ofNat 30)] (.tup [lkV (0,20,14),iv 0]) :=by
 have h :=adds_pure okN0 (by decide) (by decide) (zl H0) pc0 (lo :=10) (hi :=20) (n :=43) (d :=30) (by decide) (by decide) (by decide) (by decide) (by decide)
 rwa [show bsN N0 43 30 (cF N0 10 (20 + 1 - 10) (N0.length + 1)) (cF N0 10 (20 + 1 - 10) (N0.length + 1)).length = (0,20,14) by decide +kernel] at h
theorem changes0:Pure prog 52 [.agg [nkA N0,nl (zl H0)],nv 10,nv 20,nv 0,fv (Int.ofNat 2) (Int.ofNat 5)] (.tup [nkA [(1,12,15)],iv 0]) :=by
 have h :=changes_pure okN0 (by decide) (by decide) hd0 pc0 (lo :=10) (hi :=20) (hand :=0) (n :=2) (d :=5) (by decide) (by decide) (by decide) (by decide) (by decide) (by decide) (by decide)
 rwa [show chR N0 H0 10 20 0 (2,5) = some [(1,12,15)] by decide +kernel] at h
theorem WkV.agg2 {x y x' y':AV} (h1:WkV x x') (h2:WkV y y'):WkV (.agg [x,y]) (.agg [x',y']) :=by
 refine ⟨fun g w u hu => ?_,fun L hl => ⟨h1.lv L hl.1,h2.lv L hl.2.1,trivial⟩⟩
 simp only [VRel,VRels] at hu ⊢
 obtain ⟨vs,e,a,us,e1,r1,b,bs,e2,r2,r3⟩ :=hu
 exact ⟨vs,e,a,us,e1,h1.wk g w a r1,b,bs,e2,h2.wk g w b r2,r3⟩
theorem Pure.wkA {f:FuncId} {x x':AV} {r:List AV} {v:AV} (hw:WkV x x') (h:Pure prog f (x' :: r) v):Pure prog f (x :: r) v :=
 ⟨h.1,fun B H g vs cs w hr hv hl => h.2 B H g vs cs w hr (by
  simp only [VRels] at hv ⊢
  obtain ⟨u,us,e,h1,h2⟩ :=hv
  exact ⟨u,us,e,hw.wk g w u h1,h2⟩) ⟨hw.lv _ hl.1,hl.2⟩⟩
theorem wkP:WkV aP (.agg [nkA N0,nl (zl H0)]) :=WkV.agg2 (WkV.own _ _ _) (WkV.own _ _ _)
theorem pChanges:Pure prog 52 [aP,i64 10,i64 20,i64 0,fr 2 5] (.tup [rows .no [1,12,15] 1,i64 0]) :=Pure.wkA wkP changes0
theorem pAdds:Pure prog 53 [aP,i64 10,i64 20,fr 43 30] (.tup [.agg [i64 0,i64 20,i64 14],i64 0]) :=Pure.wkA wkP adds0
end
end Go.Abs.Seat
