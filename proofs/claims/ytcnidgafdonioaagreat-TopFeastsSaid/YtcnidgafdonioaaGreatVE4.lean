/-
  A dial that is opened: the first days of all years.
-/
import Derived.Test.YtcnidgafdonioaaGreatVE3
namespace Go.Abs.Seat
noncomputable section
open Go Go.Abs Go.Proofs.Tryz
set_option maxRecDepth 100000
set_option maxHeartbeats 40000000
attribute [local irreducible] IntKind.wrap pEq
theorem ivs_snoc:∀ (l:List Int) (x:Int),ivs (l ++ [x]) = ivs l ++ [iv x]
 | [],_ => rfl
 |y :: l,x => by rw [List.cons_append,ivs,ivs,ivs_snoc l x];rfl
theorem lenIs_fdL (E:Int) (C:List Int) (k:Nat):lenIs (ivs (fdL E C k)) (k * 1) = true :=by
 have :=lenIs_eq (ivs (fdL E C k))
 rw [ivs_len,fdL_len] at this
 rw [Nat.mul_one];exact this
abbrev opC (E:Int) (C:List Int) (n d a:Int) (F mp:AV):AObj :=.cells (.node (iv E) (.node (nl C) (.node (iv d) .nil .nil) (.node F .nil .nil)) (.node (iv n) (.node (iv a) .nil .nil) (.node mp .nil .nil))) 7 125
abbrev fdV (E:Int) (C:List Int) (k c:Nat):AV :=.lst (ivs (fdL E C k)) k (.ch c)
theorem fdV_app (E:Int) (C:List Int) (k c:Nat):AV.lst (ivs (fdL E C k) ++ [iv (fdY E C k)]) (k + (0 + 1)) (.ch c) = fdV E C (k + 1) c :=by
 unfold fdV
 rw [fdL,ivs_snoc]
theorem opC_app (E:Int) (C:List Int) (n d a:Int) (mp:AV) (k c:Nat):opC E C n d a (AV.lst (ivs (fdL E C k) ++ [iv (fdY E C k)]) (k + (0 + 1)) (.ch c)) mp = opC E C n d a (fdV E C (k + 1) c) mp :=by
 rw [fdV_app]
theorem fdY_wrap (E:Int) (C:List Int) (k:Nat) (hE:0 ≤ E ∧ E ≤ 1000) (hk:k ≤ 4002):IntKind.i64.wrap (fdY E C k + dlB (leapB C (Int.ofNat k))) = fdY E C (k + 1) :=by
 have :=fdY_le E C (k + 1)
 rw [fdY] at this ⊢
 exact wrapI (by omega) (by omega)
theorem fd_wk (E:Int) (C:List Int) (k:Nat):Wk (fdV E C k 7) (nl (fdL E C k)) :=wk_own (fdL_len E C k).symm
theorem fd_live {E:Int} {C:List Int} {k:Nat}:∀ L,Live L (fdV E C k 7) → Live L (nl (fdL E C k)) :=fun _ h => ⟨h.1,fun _ e => nomatch e⟩
theorem dayAt {E:Int} {C:List Int} (h:calOk E C) (y:Nat) (hy:y ≤ 4000) {m dd:Int} (hd:dateOk (leapB C (Int.ofNat y)) m dd) {n d a:AV} {mp:AV} {k:Nat} (hk:k = 4002):Pure prog 69 [.agg [iv E,nl C,n,d,a,fdV E C k 7,mp],dtV (Int.ofNat y) m dd] (iv (fdY E C y + intoD (leapB C (Int.ofNat y)) m.toNat dd)) :=by
 have hb :=fdY_le E C y
 have hE :=h.1
 have e :=fdL_get E C k y (by omega)
 have p :=day_pure E (C :=C) ⟨h.2.1.2,fun i hi => (h.2.2 i hi).1.1⟩ (fdL E C k) y m dd hy ((fdL_len E C k).trans hk) hd (by rw [e];omega)
 rw [e] at p
 exact op_args (fd_wk E C k) fd_live p
theorem isDateAt {E:Int} {C:List Int} (h:calOk E C) (y:Nat) (hy:y ≤ 4000) {m dd:Int} {n d a F mp:AV}:Pure prog 68 [.agg [iv E,nl C,n,d,a,F,mp],dtV (Int.ofNat y) m dd] (.bool (decide (dateOk (leapB C (Int.ofNat y)) m dd))) :=
 op_unk (isDate_pure E ⟨h.2.1.2,fun i hi => (h.2.2 i hi).1.1⟩ (Int.ofNat y) m dd ⟨by show (0:Int) ≤ (y:Int);omega,by show (y:Int) ≤ 4000;omega⟩)
theorem day1_pure {E:Int} {C:List Int} (h:calOk E C) (y:Nat) (hy:y ≤ 4000):Pure prog 27 [.agg [iv E,nl C],dtV (Int.ofNat y) 1 1] (.tup [iv (fdY E C y),iv 0]) :=by
 have lC :=ivs_no C
 have pC :=isCalendar_pure h
 have hc:cyc C :=⟨h.2.1.2,fun i hi => (h.2.2 i hi).1.1⟩
 have hEp :=h.1
 have hw1:IntKind.i64.wrap (E + dlB (leapB C 0)) = fdY E C 1 :=fdY_wrap E C 0 hEp (by decide)
 have hd1:∀ b,dateOk b 1 1 ∧ intoD b 1 1 = 0 :=by decide
 have pD:∀ F,Pure prog 68 [.agg [iv E,nl C,iv 0,iv 0,iv 0,F,.map 5],dtV (Int.ofNat y) 1 1] (.bool true) :=fun F => by
  have p :=isDateAt h y hy (m :=1) (dd :=1) (n :=iv 0) (d :=iv 0) (a :=iv 0) (F :=F) (mp :=.map 5)
  rwa [decide_eq_true (hd1 _).1] at p
 have pY:∀ k,k = 4002 → Pure prog 69 [.agg [iv E,nl C,iv 0,iv 0,iv 0,fdV E C k 7,.map 5],dtV (Int.ofNat y) 1 1] (iv (fdY E C y)) :=fun k hk => by
  have p :=dayAt h y hy (hd1 (leapB C (Int.ofNat y))).1 (n :=iv 0) (d :=iv 0) (a :=iv 0) (mp :=.map 5) hk
  rwa [show (1:Int).toNat = 1 from rfl,(hd1 _).2,Int.add_zero] at p
 refine pure_sym hE rfl (by repeat' (first | exact trivial | assumption | exact flat_no _ | exact (fun _ h => nomatch h) | apply And.intro)) (by repeat' (first | exact trivial | assumption | exact flat_no _ | exact (fun _ h => nomatch h) | apply And.intro)) fun S q pc hS hq hC hE => ?_
 conv => whnf
 refine sym_pure hC (pC) ?_
 conv => whnf
 refine sym_call hC ?_
 conv => whnf
 refine sym_inline hE hS ?_
 conv => whnf
 refine sym_unroll hE hS ?_
 conv => whnf
 refine sym_pure hC (op_unk (days_pure E hc 0)) ?_
 conv => whnf
 refine sym_loopG hE hS (A :=Nat × Int) [4,5] (fun (k,x) => [(6,iv (fdY E C k)),(14,iv x)]) (fun (k,x) => [(6,opC E C 0 0 0 (fdV E C k 7) (.map 5)),(7,.chain k 1 3)]) (fun _ => []) (fun (k,x) => x = Int.ofNat k ∧ k ≤ 4002) (fun (k,_) => 4002 - k) (1,1) (Nat.le_of_ble_eq_true rfl) rfl (by refine ⟨rfl,rfl,rfl,rfl,rfl,rfl,8,rfl,?_,?_⟩ <;> repeat' (first | exact trivial | exact rfl | exact ⟨_,rfl,WkV.refl _⟩ | exact ⟨_,rfl,WkV.own _ _ _⟩ | exact Nat.zero_le _ | exact ⟨_,rfl,WkV.int hw1⟩ | exact ⟨_,rfl,WkV.int (wrapI (by decide) (by decide))⟩ | exact Nat.le_of_ble_eq_true rfl | exact bdl_no (by assumption) | exact bdl_no (flat_no _) | exact bdl_no (ivs_no _) | exact bdl_no (svs_no _) | exact Nat.max_le.2 ⟨Nat.le_of_ble_eq_true rfl,bdl_no (ivs_no _)⟩ | exact Nat.max_le.2 ⟨Nat.le_of_ble_eq_true rfl,bdl_no (svs_no _)⟩ | apply And.intro)) ⟨rfl,by decide⟩ ?_
 rintro ⟨k,x⟩ ⟨hx,hk⟩ K hK
 obtain rfl:K = 8 :=hK
 conv => whnf
 by_cases hk2:k < 4002
 ·have h2 :=fdY_wrap E C k hEp hk
  rw [← hx] at h2
  have hx':x = (k:Int) :=hx
  have h3:IntKind.i64.wrap (x + 1) = x + 1 :=wrapI (by omega) (by omega)
  have h4:x + 1 = Int.ofNat (k + 1) :=by rw [hx];rfl
  refine bool_true (decide_eq_true (show x < 4002 by rw [hx];show (k:Int) < 4002;omega)) ?_
  conv => whnf
  refine bool_true (decide_eq_true (show (k + (0 + 1)) * 8 ≤ 140737488355328 by omega)) ?_
  conv => whnf
  refine bool_true (decide_eq_true (show k + (0 + 1) ≤ 9223372036854775807 by omega)) ?_
  conv => whnf
  refine bool_true (lenIs_fdL E C k) ?_
  conv => whnf
  refine bool_true (decide_eq_true rfl) ?_
  conv => whnf
  refine sym_pure hC (op_unk (days_pure E hc x)) ?_
  conv => whnf
  exact ⟨(k + 1,x + 1),⟨h4,hk2⟩,by show 4002 - (k + 1) < 4002 - k;omega,Nat.le_refl _,(by refine ⟨rfl,rfl,rfl,rfl,rfl,rfl,8,rfl,?_,?_⟩ <;> repeat' (first | exact trivial | exact rfl | exact ⟨_,rfl,WkV.refl _⟩ | exact ⟨_,rfl,WkV.own _ _ _⟩ | exact Nat.zero_le _ | exact ⟨_,rfl,WkV.int h2⟩ | exact ⟨_,rfl,WkV.int h3⟩ | exact opC_app E C 0 0 0 (.map 5) k 7 | exact Nat.le_of_ble_eq_true rfl | exact bdl_no (by assumption) | exact bdl_no (flat_no _) | exact bdl_no (ivs_no _) | exact bdl_no (svs_no _) | exact Nat.max_le.2 ⟨Nat.le_of_ble_eq_true rfl,bdl_no (ivs_no _)⟩ | exact Nat.max_le.2 ⟨Nat.le_of_ble_eq_true rfl,bdl_no (svs_no _)⟩ | apply And.intro))⟩
 refine bool_false (decide_eq_false (show ¬ x < 4002 by rw [hx];show ¬ (k:Int) < 4002;omega)) ?_
 conv => whnf
 have hk4:k = 4002 :=by omega
 refine .inl ?_
 conv => whnf
 refine sym_pure hC (pD _) ?_
 conv => whnf
 refine sym_pure hC (pY k hk4) ?_
 conv => whnf
 exact ⟨_,rfl,Wk.refl _⟩
end
end Go.Abs.Seat
