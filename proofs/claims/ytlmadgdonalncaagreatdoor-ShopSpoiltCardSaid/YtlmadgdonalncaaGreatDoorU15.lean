/-
  The closed calls of Changes and Adds, of the general ones.
-/
import Derived.Test.YtlmadgdonalncaaGreatDoorU14
import Derived.Test.YtlmadgdonalncaaGreatDoorB7
namespace Go.Abs.Seat
noncomputable section
open Go Go.Abs Go.Proofs.Tryz
set_option maxRecDepth 100000
def N0:List Lk :=[(0,10,20),(1,12,18),(1,15,10)]
def H0:List Nat :=[2,3]
theorem okN0:okN N0 :=by
 refine ⟨fun i hi => ?_,fun i hi => ?_,fun i hi => ?_,fun i hi => ?_⟩
 all_goals
  match i,hi with
  | 0,_ => decide
  | 1,_ => decide
  | 2,_ => decide
theorem pc0:Pure prog 89 [.agg [nkA N0,nl (zl H0)]] (.bool true) :=by
 have h :=isPiece_pure (L :=cL N0) (M :=zl H0) (.inr rfl) (.inr rfl)
 rwa [decide_eq_true (show pcOk (cL N0) (zl H0) from ⟨⟨⟨by decide,by decide⟩,by decide,by decide⟩,⟨N0,rfl,okN0⟩,fun j hj => by
  match j,hj with
  | 0,_ => exact ⟨by decide,by decide⟩
  | 1,_ => exact ⟨by decide,by decide⟩⟩)] at h
theorem hd0:hdN N0.length H0 :=⟨by decide,fun x hx => by
 rcases List.mem_cons.1 hx with rfl | hx
 ·decide
 ·rcases List.mem_cons.1 hx with rfl | hx
  ·decide
  ·cases hx⟩
theorem adds0:Pure prog 53 [.agg [nkA N0,nl (zl H0)],nv 10,nv 20,fv (Int.ofNat 43) (Int.ofNat 30)] (.tup [lkV (0,20,14),iv 0]) :=by
 have h :=adds_pure okN0 (by decide) (by decide) (zl H0) pc0 (lo :=10) (hi :=20) (n :=43) (d :=30) (by decide) (by decide) (by decide) (by decide) (by decide)
 rwa [show bsN N0 43 30 (cF N0 10 (20 + 1 - 10) (N0.length + 1)) (cF N0 10 (20 + 1 - 10) (N0.length + 1)).length = (0,20,14) by decide +kernel] at h
theorem changes0:Pure prog 52 [.agg [nkA N0,nl (zl H0)],nv 10,nv 20,nv 0,fv (Int.ofNat 2) (Int.ofNat 5)] (.tup [nkA [(1,12,15)],iv 0]) :=by
 have h :=changes_pure okN0 (by decide) (by decide) hd0 pc0 (lo :=10) (hi :=20) (hand :=0) (n :=2) (d :=5) (by decide) (by decide) (by decide) (by decide) (by decide) (by decide) (by decide)
 rwa [show chR N0 H0 10 20 0 (2,5) = some [(1,12,15)] by decide +kernel] at h
theorem WkV.agg2 {x y x' y':AV} (h1:WkV x x') (h2:WkV y y'):WkV (.agg [x,y]) (.agg [x',y']) :=by
 refine ⟨fun g w u hu => ?_,fun L hl => ⟨h1.lv L hl.1,h2.lv L hl.2.1,trivial⟩⟩
 simp only [VRel,VRels] at hu ⊢
 obtain ⟨vs,e,a,us,e1,r1,b,bs,e2,r2,r3⟩ :=hu
 exact ⟨vs,e,a,us,e1,h1.wk g w a r1,b,bs,e2,h2.wk g w b r2,r3⟩
theorem Pure.wkA {f:FuncId} {x x':AV} {r:List AV} {v:AV} (hw:WkV x x') (h:Pure prog f (x' :: r) v):Pure prog f (x :: r) v :=
 ⟨h.1,fun B H g vs cs w hr hv hl => h.2 B H g vs cs w hr (by
  simp only [VRels] at hv ⊢
  obtain ⟨u,us,e,h1,h2⟩ :=hv
  exact ⟨u,us,e,hw.wk g w u h1,h2⟩) ⟨hw.lv _ hl.1,hl.2⟩⟩
theorem wkP:WkV aP (.agg [nkA N0,nl (zl H0)]) :=WkV.agg2 (WkV.own _ _ _) (WkV.own _ _ _)
theorem pChanges:Pure prog 52 [aP,i64 10,i64 20,i64 0,fr 2 5] (.tup [rows .no [1,12,15] 1,i64 0]) :=Pure.wkA wkP changes0
theorem pAdds:Pure prog 53 [aP,i64 10,i64 20,fr 43 30] (.tup [.agg [i64 0,i64 20,i64 14],i64 0]) :=Pure.wkA wkP adds0
end
end Go.Abs.Seat
