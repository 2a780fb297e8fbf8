/-
  The law ShopSpoils.
-/
import Derived.Test.YtlmadgdonalncaaGreatDoorU14
import Derived.Test.YtlmadgdonalncaaGreatDoorU7
import Derived.Test.YtlmadgdonalncaaGreatDoorU6
namespace Go.Abs.Seat
noncomputable section
open Go Go.Abs Go.Proofs.Tryz
set_option maxRecDepth 100000
set_option maxHeartbeats 40000000
attribute [local irreducible] IntKind.wrap pEq
theorem qvc (l:List Int) (hl:l.length < 4611686018427387904):Pure prog 18 [sv l,sv l] (.bool true) :=by
 cases l with
 |nil =>
  show Pure prog _ [.nils,.nils] _
  refine qas hE rfl (by repeat' first|exact trivial|assumption|exact qah _|exact fun _ h => nomatch h|apply And.intro) (by repeat' first|exact trivial|assumption|exact qah _|exact fun _ h => nomatch h|apply And.intro) fun S q pc hS hq hC hE => ?_
  conv => whnf
  repeat ((first|refine qac hC (hl) ?_|refine qad hS (by kernel_rfl) ?_|refine qei hq true (qmj _ _) ?_|rw [beq_self_eq_true]|rw [bne_self_eq_false]|refine qaa (decide_eq_true (by omega)) ?_|refine qab (decide_eq_false (by omega)) ?_);conv => whnf)
  refine qan hE hS ?_
  conv => whnf
  exact ⟨_,rfl,Wk.refl _⟩
 |cons x r => exact qkt (x :: r) (x :: r) hl (b :=true) ⟨fun _ => rfl,fun _ => rfl⟩
abbrev tvL (a b c:Int):AV :=.agg [iv a,iv b,iv c]
theorem eqLn (cst:Bool) (a b c x y z:Int):q0 94 cst (tvL a b c) (tvL x y z) = @Bool.rec (fun _ => Option Bool) (some false) (@Option.rec Bool (fun _ => Option Bool) none (fun e => @Bool.rec (fun _ => Option Bool) (some false) (some true) e) (@Bool.rec (fun _ => Option Bool) (some false) (@Bool.rec (fun _ => Option Bool) (some false) (some true) (c == z)) (b == y))) (a == x) :=by kernel_rfl
theorem qr4 (cst:Bool) (a b c:Int):q0 94 cst (tvL a b c) (tvL a b c) = some true :=by
 rw [eqLn,show (a == a) = true from beq_self_eq_true a,show (b == b) = true from beq_self_eq_true b,show (c == c) = true from beq_self_eq_true c]
theorem qft:Pure prog 46 [.agg [.nils,.nils],.agg [.nils,.nils]] (.bool true) :=by
 have p :=qvc [] (by decide)
 refine qas hE rfl (by repeat' first|exact trivial|assumption|exact qah _|exact fun _ h => nomatch h|apply And.intro) (by repeat' first|exact trivial|assumption|exact qah _|exact fun _ h => nomatch h|apply And.intro) fun S q pc hS hq hC hE => ?_
 conv => whnf
 refine qan hE hS ?_
 conv => whnf
 repeat ((first|refine qac hC (p) ?_|refine qad hS (by kernel_rfl) ?_);conv => whnf)
 exact ⟨_,rfl,Wk.refl _⟩
theorem qog {N:List Lk} {H:List Nat} (h:pcN N H):Pure prog 46 [.agg [nkA N,nl (zl H)],.agg [nkA N,nl (zl H)]] (.bool true) :=by
 have ll :=qa5 (cL N)
 have lh :=qav (zl H)
 have l5 :=h.l5
 have p:Pure prog 18 [nl (zl H),nl (zl H)] (.bool true) :=qkt (zl H) (zl H) (by rw [qbs];have :=h.h4;omega) (b :=true) ⟨fun _ => rfl,fun _ => rfl⟩
 have c0:((N.length:Int) != (N.length:Int)) = false :=bne_self_eq_false _
 refine qas hE rfl (by repeat' first|exact trivial|assumption|exact qah _|exact fun _ h => nomatch h|apply And.intro) (by repeat' first|exact trivial|assumption|exact qah _|exact fun _ h => nomatch h|apply And.intro) fun S q pc hS hq hC hE => ?_
 conv => whnf
 repeat ((first|refine qal c0 ?_|refine qam c0 ?_|refine pkF c0 ?_|refine qab c0 ?_|refine qad hS (by kernel_rfl) ?_);conv => whnf)
 refine qax hE hS (A :=Nat) [2,3] (fun i => [(5,nv i)]) (fun _ => []) (fun _ => []) (fun i => i ≤ N.length) (fun i => N.length - i) 0 (kle rfl) rfl (by refine ⟨rfl,rfl,rfl,rfl,rfl,rfl,2,rfl,?_,?_⟩ <;> repeat' (first|exact trivial|exact rfl|exact wkr rfl|exact wko rfl|exact Nat.zero_le _|exact qai ll|exact qai lh|exact kle rfl|exact bdq|exact mxI rfl|exact mxS rfl|apply And.intro)) (Nat.zero_le _) ?_
 intro i hi K hK
 obtain rfl:K = 2 :=hK
 have hi:i ≤ N.length :=hi
 conv => whnf
 by_cases h:i < N.length
 ·refine qaa (qae h) ?_
  conv => whnf
  repeat ((first|refine qak (takP (qfc N h)) ?_|refine qag (qaj h) ?_|refine qaf (qaj h) ?_|refine pkT (qaj h) ?_|refine qaa (qaj h) ?_|refine qad hS (by kernel_rfl) ?_);conv => whnf)
  refine qei hq true (qr4 _ _ _ _) ?_
  conv => whnf
  refine qad hS (by kernel_rfl) ?_
  conv => whnf
  exact ⟨i + 1,h,by omega,Nat.le_refl _,(by refine ⟨rfl,rfl,rfl,rfl,rfl,rfl,2,rfl,?_,?_⟩ <;> repeat' (first|exact trivial|exact rfl|exact wkr rfl|exact wko rfl|exact Nat.zero_le _|exact ⟨_,rfl,WkV.int (show IntKind.i64.wrap (Int.ofNat i + 1) = Int.ofNat (i + 1) from qaz (m :=i + 1) (by omega))⟩|exact qai ll|exact qai lh|exact kle rfl|exact bdq|exact mxI rfl|exact mxS rfl|apply And.intro))⟩
 ·refine qab (qbe h) ?_
  conv => whnf
  refine .inl ?_
  conv => whnf
  repeat ((first|refine qac hC (p) ?_|refine qad hS (by kernel_rfl) ?_);conv => whnf)
  exact ⟨_,rfl,Wk.refl _⟩
theorem quy:∀ {N N':List Lk},cL N = cL N' → N = N'
 | [],[],_ => rfl
 | [],_ :: _,h => nomatch h
 | _ :: _,[],h => nomatch h
 |x :: N,y :: N',h => by
  have h1:cK x = cK y :=(List.cons.inj h).1
  have h2:cL N = cL N' :=(List.cons.inj h).2
  rw [quy h2]
  have a :=congrArg Prod.fst h1
  have b :=congrArg (fun z => z.2.1) h1
  have c :=congrArg (fun z => z.2.2) h1
  have e:x = y :=Prod.ext (Int.ofNat.inj a) (Prod.ext (Int.ofNat.inj b) (Int.ofNat.inj c))
  rw [e]
theorem qt6:∀ {H H':List Nat},zl H = zl H' → H = H'
 | [],[],_ => rfl
 | [],_ :: _,h => nomatch h
 | _ :: _,[],h => nomatch h
 |x :: N,y :: N',h => by
  have h1:Int.ofNat x = Int.ofNat y :=(List.cons.inj h).1
  have h2:zl N = zl N' :=(List.cons.inj h).2
  rw [qt6 h2,Int.ofNat.inj h1]
end
end Go.Abs.Seat
namespace Go.Abs.Seat
open Go Go.Abs Go.Proofs.Tryz
set_option maxRecDepth 100000
theorem gRates:GoalM noMu [] 48 [aP] (.tup [rows .no [1,1,1,2,1,3,3,4] 4,.lst [.bool true,.bool false,.bool true,.bool true] 4 .no,i64 0]) :=of_eq_true (by kernel_rfl)
theorem pRates:Pure prog 48 [aP] (.tup [rows .no [1,1,1,2,1,3,3,4] 4,.lst [.bool true,.bool false,.bool true,.bool true] 4 .no,i64 0]) :=gRates.pure MOK.nil (by kernel_rfl)
theorem gSpoils:GoalM muLinks [] 50 [aP,.agg [i64 0,i64 10,i64 30]] (.tup [ints .no [0,1],i64 0]) :=of_eq_true (by kernel_rfl)
theorem pSpoils:Pure prog 50 [aP,.agg [i64 0,i64 10,i64 30]] (.tup [ints .no [0,1],i64 0]) :=gSpoils.pure MOK.nil (by kernel_rfl)
theorem gSheets:GoalM noMu [] 40 [i64 100,i64 2,ints .full [10,20,15,10]] (.tup [ints .no [0,0,0,1],i64 2,i64 0]) :=of_eq_true (by kernel_rfl)
theorem pSheets:Pure prog 40 [i64 100,i64 2,ints .full [10,20,15,10]] (.tup [ints .no [0,0,0,1],i64 2,i64 0]) :=gSheets.pure MOK.nil (by kernel_rfl)
theorem gBalances:GoalM noMu [] 14 [i64 3,aE] (.tup [ints .no [-9,6,3],i64 0]) :=of_eq_true (by kernel_rfl)
theorem pBalances:Pure prog 14 [i64 3,aE] (.tup [ints .no [-9,6,3],i64 0]) :=gBalances.pure MOK.nil (by kernel_rfl)
theorem gSettle:GoalM muSettle [] 15 [i64 3,aE] (.tup [rows .no [1,0,6,2,0,3] 2,i64 0]) :=of_eq_true (by kernel_rfl)
theorem pSettle:Pure prog 15 [i64 3,aE] (.tup [rows .no [1,0,6,2,0,3] 2,i64 0]) :=gSettle.pure MOK.nil (by kernel_rfl)
theorem gBill:GoalM noMu [] 57 [aB] (.tup [i64 43,i64 23,i64 0]) :=of_eq_true (by kernel_rfl)
theorem pBill:Pure prog 57 [aB] (.tup [i64 43,i64 23,i64 0]) :=gBill.pure MOK.nil (by kernel_rfl)
theorem gRead:GoalM noMu [] 44 [aText] (.tup [.agg [rows .no [0,4,4] 1,ints .no [1]],i64 0]) :=of_eq_true (by kernel_rfl)
theorem pRead:Pure prog 44 [aText] (.tup [.agg [rows .no [0,4,4] 1,ints .no [1]],i64 0]) :=gRead.pure MOK.nil (by kernel_rfl)
end Go.Abs.Seat
