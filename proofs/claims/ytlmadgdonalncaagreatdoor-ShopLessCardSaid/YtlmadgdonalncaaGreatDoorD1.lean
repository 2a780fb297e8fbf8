/-
  The plans of the example, carried out: a map is walked, in whatever order.
-/
import Derived.Test.YtlmadgdonalncaaGreatDoorB8
import Derived.Test.YtlmadgdonalncaaGreatDoorU7
import Derived.Test.YtlmadgdonalncaaGreatDoorU5
namespace Go.Abs.Seat
noncomputable section
open Go Go.Abs Go.Proofs.Tryz
set_option maxRecDepth 100000
set_option maxHeartbeats 40000000
theorem gup1:GoalM noMu [] 115 [i64 16,i64 8] (i64 2) :=of_eq_true (by kernel_rfl)
theorem gup2:GoalM noMu [] 115 [i64 24,i64 8] (i64 3) :=of_eq_true (by kernel_rfl)
theorem gup3:GoalM noMu [] 115 [i64 8,i64 8] (i64 1) :=of_eq_true (by kernel_rfl)
theorem gup4:GoalM noMu [] 115 [i64 32,i64 8] (i64 4) :=of_eq_true (by kernel_rfl)
theorem up16:Pure prog 115 [iv 16,iv 8] (iv 2) :=gup1.pure MOK.nil (by kernel_rfl)
theorem up24:Pure prog 115 [iv 24,iv 8] (iv 3) :=gup2.pure MOK.nil (by kernel_rfl)
theorem up8:Pure prog 115 [iv 8,iv 8] (iv 1) :=gup3.pure MOK.nil (by kernel_rfl)
theorem up32:Pure prog 115 [iv 32,iv 8] (iv 4) :=gup4.pure MOK.nil (by kernel_rfl)
theorem gin0:GoalM noMu [] 101 [i64 0,i64 0,i64 1] (.bool true) :=of_eq_true (by kernel_rfl)
theorem gin1:GoalM noMu [] 101 [i64 1,i64 0,i64 1] (.bool true) :=of_eq_true (by kernel_rfl)
theorem in0:Pure prog 101 [iv 0,iv 0,iv 1] (.bool true) :=gin0.pure MOK.nil (by kernel_rfl)
theorem in1:Pure prog 101 [iv 1,iv 0,iv 1] (.bool true) :=gin1.pure MOK.nil (by kernel_rfl)
theorem s16:Pure prog 116 (wkl [.lst [iv 16] 1 (.ch 0)]) (iv 16) :=qe1 [16] (by decide) (by decide)
theorem s168:Pure prog 116 (wkl [.lst [iv 16,iv 8] 2 (.ch 0)]) (iv 24) :=qe1 [16,8] (by decide) (by decide)
theorem s8:Pure prog 116 (wkl [.lst [iv 8] 1 (.ch 0)]) (iv 8) :=qe1 [8] (by decide) (by decide)
theorem s88:Pure prog 116 (wkl [.lst [iv 8,iv 8] 2 (.ch 0)]) (iv 16) :=qe1 [8,8] (by decide) (by decide)
theorem qeo:Pure prog 116 (wkl [.lst [iv 16,iv 8,iv 8] 3 (.ch 0)]) (iv 32) :=qe1 [16,8,8] (by decide) (by decide)
abbrev dyT (f:List Nat → Int × Int × Int) (a:List Nat):Tr AV :=.node (iv (f a).1) (.node (iv (f a).2.1) .nil .nil) (.node (iv (f a).2.2) .nil .nil)
def if0 (k:Nat) (a:List Nat) (v:Int):Int :=if k ∈ a then v else 0
theorem done010n:Pure prog 73 [aW,aJ,ints .no [0,1,0]] (.tup [ints .no [2,1,3],i64 112]) :=by
 refine qb4 hE rfl (by repeat' (first | exact trivial | assumption | exact qag _ | exact (fun _ h => nomatch h) | apply And.intro)) (by repeat' (first | exact trivial | assumption | exact qag _ | exact (fun _ h => nomatch h) | apply And.intro)) fun S q pc hS hq hC hE => ?_
 conv => whnf
 refine qam hE hS ?_
 conv => whnf
 repeat ((first
  |refine qab hC in0 ?_
  |refine qab hC in1 ?_
  |refine qad hS (by kernel_rfl) ?_);conv => whnf)
 refine qam hE hS ?_
 conv => whnf
 repeat ((first
  |refine qab hC in0 ?_
  |refine qab hC in1 ?_
  |refine qad hS (by kernel_rfl) ?_);conv => whnf)
 refine qam hE hS ?_
 conv => whnf
 repeat ((first
  |refine qab hC in0 ?_
  |refine qab hC in1 ?_
  |refine qad hS (by kernel_rfl) ?_);conv => whnf)
 refine qam hE hS ?_
 conv => whnf
 refine qc3 hE hS (A :=List Nat) rfl rfl rfl 104 1 2 2 [(iv 0,.lst [iv 0,iv 2] 2 (.ch 21)),(iv 1,.lst [iv 1] 1 (.ch 55))] (by decide) [0,4,9,12,83] (fun _ => []) (fun a => [(103,.cells (dyT (fun a => (if0 0 a 2,if0 1 a 1,if0 0 a 3)) a) 3 3),(104,.miter 1 2 a 2)]) (fun a => a) (fun _ => 2) (fun a => a ∈ [[],[0],[1],[0,1],[1,0]]) (fun a => 2 - a.length) [] [] [(103,.cells (dyT (fun a => (if0 0 a 2,if0 1 a 1,if0 0 a 3)) [0,1]) 3 3),(104,.miter 1 2 [] 0)] (Nat.le_of_ble_eq_true rfl) ?_ (by refine ⟨rfl,rfl,rfl,rfl,rfl,rfl,105,rfl,?_,?_⟩ <;> repeat' (first | exact trivial | exact rfl | exact ⟨_,rfl,WkV.refl _⟩ | exact ⟨_,rfl,WkV.own _ _ _⟩ | exact Nat.zero_le _ | exact Nat.le_of_ble_eq_true rfl | exact qae (by assumption) | exact qae (qag _) | exact qae (qal _) | exact qae (qa0 _) | exact Nat.max_le.2 ⟨Nat.le_of_ble_eq_true rfl,qae (qal _)⟩ | exact Nat.max_le.2 ⟨Nat.le_of_ble_eq_true rfl,qae (qa0 _)⟩ | apply And.intro)) (by simp) ?_ ?_ ?_ ?_
 ·exact fun x _ => .inl (Nat.zero_le _)
 ·intro a ha
  simp only [List.mem_cons,List.not_mem_nil,or_false] at ha
  rcases ha with rfl | rfl | rfl | rfl | rfl <;> exact ⟨rfl,rfl,rfl,by decide⟩
 ·intro a ha j k v hj hn N hN
  have hj2:j = 0 ∧ k = iv 0 ∧ v = .lst [iv 0,iv 2] 2 (.ch 21) ∨ j = 1 ∧ k = iv 1 ∧ v = .lst [iv 1] 1 (.ch 55) :=by
   match j,hj with
   | 0,h => cases h;exact .inl ⟨rfl,rfl,rfl⟩
   | 1,h => cases h;exact .inr ⟨rfl,rfl,rfl⟩
   |(j+2),h => cases h
  simp only [List.mem_cons,List.not_mem_nil,or_false] at ha
  subst hN
  rcases hj2 with ⟨rfl,rfl,rfl⟩ | ⟨rfl,rfl,rfl⟩
  ·have ha2:a = [] ∨ a = [1] :=by
    rcases ha with rfl | rfl | rfl | rfl | rfl <;> first | exact .inl rfl | exact .inr rfl | exact absurd (by decide) hn
   rcases ha2 with rfl | rfl
   ·conv => whnf
    repeat ((first
     |refine qab hC in0 ?_
     |refine qab hC in1 ?_
     |refine qab hC (qbm _ _) ?_
     |refine qak hC s16 ?_
     |refine qak hC s168 ?_
     |refine qak hC s8 ?_
     |refine qak hC s88 ?_
     |refine qak hC qeo ?_
     |refine qab hC up16 ?_
     |refine qab hC up24 ?_
     |refine qab hC up8 ?_
     |refine qab hC up32 ?_
     |refine qad hS (by kernel_rfl) ?_
     |refine qam hE hS ?_
     |refine qan hE hS ?_
     |refine qar hC ?_);conv => whnf)
    exact ⟨[0],by simp,by decide,(by refine ⟨rfl,rfl,rfl,rfl,rfl,rfl,105,rfl,?_,?_⟩ <;> repeat' (first | exact trivial | exact rfl | exact ⟨_,rfl,WkV.refl _⟩ | exact ⟨_,rfl,WkV.own _ _ _⟩ | exact Nat.zero_le _ | exact Nat.le_of_ble_eq_true rfl | exact qae (by assumption) | exact qae (qag _) | exact qae (qal _) | exact qae (qa0 _) | exact Nat.max_le.2 ⟨Nat.le_of_ble_eq_true rfl,qae (qal _)⟩ | exact Nat.max_le.2 ⟨Nat.le_of_ble_eq_true rfl,qae (qa0 _)⟩ | apply And.intro))⟩
   ·conv => whnf
    repeat ((first
     |refine qab hC in0 ?_
     |refine qab hC in1 ?_
     |refine qab hC (qbm _ _) ?_
     |refine qak hC s16 ?_
     |refine qak hC s168 ?_
     |refine qak hC s8 ?_
     |refine qak hC s88 ?_
     |refine qak hC qeo ?_
     |refine qab hC up16 ?_
     |refine qab hC up24 ?_
     |refine qab hC up8 ?_
     |refine qab hC up32 ?_
     |refine qad hS (by kernel_rfl) ?_
     |refine qam hE hS ?_
     |refine qan hE hS ?_
     |refine qar hC ?_);conv => whnf)
    exact ⟨[0,1],by simp,by decide,(by refine ⟨rfl,rfl,rfl,rfl,rfl,rfl,105,rfl,?_,?_⟩ <;> repeat' (first | exact trivial | exact rfl | exact ⟨_,rfl,WkV.refl _⟩ | exact ⟨_,rfl,WkV.own _ _ _⟩ | exact Nat.zero_le _ | exact Nat.le_of_ble_eq_true rfl | exact qae (by assumption) | exact qae (qag _) | exact qae (qal _) | exact qae (qa0 _) | exact Nat.max_le.2 ⟨Nat.le_of_ble_eq_true rfl,qae (qal _)⟩ | exact Nat.max_le.2 ⟨Nat.le_of_ble_eq_true rfl,qae (qa0 _)⟩ | apply And.intro))⟩
  ·have ha2:a = [] ∨ a = [0] :=by
    rcases ha with rfl | rfl | rfl | rfl | rfl <;> first | exact .inl rfl | exact .inr rfl | exact absurd (by decide) hn
   rcases ha2 with rfl | rfl
   ·conv => whnf
    repeat ((first
     |refine qab hC in0 ?_
     |refine qab hC in1 ?_
     |refine qab hC (qbm _ _) ?_
     |refine qak hC s16 ?_
     |refine qak hC s168 ?_
     |refine qak hC s8 ?_
     |refine qak hC s88 ?_
     |refine qak hC qeo ?_
     |refine qab hC up16 ?_
     |refine qab hC up24 ?_
     |refine qab hC up8 ?_
     |refine qab hC up32 ?_
     |refine qad hS (by kernel_rfl) ?_
     |refine qam hE hS ?_
     |refine qan hE hS ?_
     |refine qar hC ?_);conv => whnf)
    exact ⟨[1],by simp,by decide,(by refine ⟨rfl,rfl,rfl,rfl,rfl,rfl,105,rfl,?_,?_⟩ <;> repeat' (first | exact trivial | exact rfl | exact ⟨_,rfl,WkV.refl _⟩ | exact ⟨_,rfl,WkV.own _ _ _⟩ | exact Nat.zero_le _ | exact Nat.le_of_ble_eq_true rfl | exact qae (by assumption) | exact qae (qag _) | exact qae (qal _) | exact qae (qa0 _) | exact Nat.max_le.2 ⟨Nat.le_of_ble_eq_true rfl,qae (qal _)⟩ | exact Nat.max_le.2 ⟨Nat.le_of_ble_eq_true rfl,qae (qa0 _)⟩ | apply And.intro))⟩
   ·conv => whnf
    repeat ((first
     |refine qab hC in0 ?_
     |refine qab hC in1 ?_
     |refine qab hC (qbm _ _) ?_
     |refine qak hC s16 ?_
     |refine qak hC s168 ?_
     |refine qak hC s8 ?_
     |refine qak hC s88 ?_
     |refine qak hC qeo ?_
     |refine qab hC up16 ?_
     |refine qab hC up24 ?_
     |refine qab hC up8 ?_
     |refine qab hC up32 ?_
     |refine qad hS (by kernel_rfl) ?_
     |refine qam hE hS ?_
     |refine qan hE hS ?_
     |refine qar hC ?_);conv => whnf)
    exact ⟨[1,0],by simp,by decide,(by refine ⟨rfl,rfl,rfl,rfl,rfl,rfl,105,rfl,?_,?_⟩ <;> repeat' (first | exact trivial | exact rfl | exact ⟨_,rfl,WkV.refl _⟩ | exact ⟨_,rfl,WkV.own _ _ _⟩ | exact Nat.zero_le _ | exact Nat.le_of_ble_eq_true rfl | exact qae (by assumption) | exact qae (qag _) | exact qae (qal _) | exact qae (qa0 _) | exact Nat.max_le.2 ⟨Nat.le_of_ble_eq_true rfl,qae (qal _)⟩ | exact Nat.max_le.2 ⟨Nat.le_of_ble_eq_true rfl,qae (qa0 _)⟩ | apply And.intro))⟩
 ·intro a ha hall N hN
  subst hN
  simp only [List.mem_cons,List.not_mem_nil,or_false] at ha
  have ha2:a = [0,1] ∨ a = [1,0] :=by
   have h0 :=hall 0 (by decide)
   have h1 :=hall 1 (by decide)
   rcases ha with rfl | rfl | rfl | rfl | rfl <;> first | exact .inl rfl | exact .inr rfl | exact absurd h0 (by decide) | exact absurd h1 (by decide)
  rcases ha2 with rfl | rfl
  all_goals
   conv => whnf
   exact ⟨rfl,(by refine ⟨rfl,rfl,rfl,rfl,rfl,rfl,105,rfl,?_,?_,?_⟩ <;> repeat' (first | exact trivial | exact rfl | exact ⟨_,rfl,WkV.refl _⟩ | exact ⟨_,rfl,WkV.own _ _ _⟩ | exact OWk.same _ | exact OWk.loop _ _ _ _ _ _ _ (by repeat' (first | exact trivial | exact WkV.refl _ | exact WkV.unk _ | apply And.intro)) | exact Nat.zero_le _ | exact OWk.iter _ _ _ _ | exact Nat.le_of_ble_eq_true rfl | exact qae (by assumption) | exact qae (qag _) | exact qae (qal _) | exact qae (qa0 _) | exact Nat.max_le.2 ⟨Nat.le_of_ble_eq_true rfl,qae (qal _)⟩ | exact Nat.max_le.2 ⟨Nat.le_of_ble_eq_true rfl,qae (qa0 _)⟩ | apply And.intro))⟩
 ·intro N hN
  subst hN
  conv => whnf
  exact ⟨_,rfl,FzV.tup ⟨FzV.slc (xs :=[iv 2,iv 1,iv 3]) rfl rfl (fun j hj => by match j,hj with | 0,_ => rfl | 1,_ => rfl | 2,_ => rfl) ⟨trivial,trivial,trivial,trivial⟩,FzV.no trivial,trivial⟩⟩
theorem done010f:Pure prog 73 [aW,aJ,ints .full [0,1,0]] (.tup [ints .no [2,1,3],i64 112]) :=by
 refine qb4 hE rfl (by repeat' (first | exact trivial | assumption | exact qag _ | exact (fun _ h => nomatch h) | apply And.intro)) (by repeat' (first | exact trivial | assumption | exact qag _ | exact (fun _ h => nomatch h) | apply And.intro)) fun S q pc hS hq hC hE => ?_
 conv => whnf
 refine qam hE hS ?_
 conv => whnf
 repeat ((first
  |refine qab hC in0 ?_
  |refine qab hC in1 ?_
  |refine qad hS (by kernel_rfl) ?_);conv => whnf)
 refine qam hE hS ?_
 conv => whnf
 repeat ((first
  |refine qab hC in0 ?_
  |refine qab hC in1 ?_
  |refine qad hS (by kernel_rfl) ?_);conv => whnf)
 refine qam hE hS ?_
 conv => whnf
 repeat ((first
  |refine qab hC in0 ?_
  |refine qab hC in1 ?_
  |refine qad hS (by kernel_rfl) ?_);conv => whnf)
 refine qam hE hS ?_
 conv => whnf
 refine qc3 hE hS (A :=List Nat) rfl rfl rfl 104 1 2 2 [(iv 0,.lst [iv 0,iv 2] 2 (.ch 21)),(iv 1,.lst [iv 1] 1 (.ch 55))] (by decide) [0,4,9,12,83] (fun _ => []) (fun a => [(103,.cells (dyT (fun a => (if0 0 a 2,if0 1 a 1,if0 0 a 3)) a) 3 3),(104,.miter 1 2 a 2)]) (fun a => a) (fun _ => 2) (fun a => a ∈ [[],[0],[1],[0,1],[1,0]]) (fun a => 2 - a.length) [] [] [(103,.cells (dyT (fun a => (if0 0 a 2,if0 1 a 1,if0 0 a 3)) [0,1]) 3 3),(104,.miter 1 2 [] 0)] (Nat.le_of_ble_eq_true rfl) ?_ (by refine ⟨rfl,rfl,rfl,rfl,rfl,rfl,105,rfl,?_,?_⟩ <;> repeat' (first | exact trivial | exact rfl | exact ⟨_,rfl,WkV.refl _⟩ | exact ⟨_,rfl,WkV.own _ _ _⟩ | exact Nat.zero_le _ | exact Nat.le_of_ble_eq_true rfl | exact qae (by assumption) | exact qae (qag _) | exact qae (qal _) | exact qae (qa0 _) | exact Nat.max_le.2 ⟨Nat.le_of_ble_eq_true rfl,qae (qal _)⟩ | exact Nat.max_le.2 ⟨Nat.le_of_ble_eq_true rfl,qae (qa0 _)⟩ | apply And.intro)) (by simp) ?_ ?_ ?_ ?_
 ·exact fun x _ => .inl (Nat.zero_le _)
 ·intro a ha
  simp only [List.mem_cons,List.not_mem_nil,or_false] at ha
  rcases ha with rfl | rfl | rfl | rfl | rfl <;> exact ⟨rfl,rfl,rfl,by decide⟩
 ·intro a ha j k v hj hn N hN
  have hj2:j = 0 ∧ k = iv 0 ∧ v = .lst [iv 0,iv 2] 2 (.ch 21) ∨ j = 1 ∧ k = iv 1 ∧ v = .lst [iv 1] 1 (.ch 55) :=by
   match j,hj with
   | 0,h => cases h;exact .inl ⟨rfl,rfl,rfl⟩
   | 1,h => cases h;exact .inr ⟨rfl,rfl,rfl⟩
   |(j+2),h => cases h
  simp only [List.mem_cons,List.not_mem_nil,or_false] at ha
  subst hN
  rcases hj2 with ⟨rfl,rfl,rfl⟩ | ⟨rfl,rfl,rfl⟩
  ·have ha2:a = [] ∨ a = [1] :=by
    rcases ha with rfl | rfl | rfl | rfl | rfl <;> first | exact .inl rfl | exact .inr rfl | exact absurd (by decide) hn
   rcases ha2 with rfl | rfl
   ·conv => whnf
    repeat ((first
     |refine qab hC in0 ?_
     |refine qab hC in1 ?_
     |refine qab hC (qbm _ _) ?_
     |refine qak hC s16 ?_
     |refine qak hC s168 ?_
     |refine qak hC s8 ?_
     |refine qak hC s88 ?_
     |refine qak hC qeo ?_
     |refine qab hC up16 ?_
     |refine qab hC up24 ?_
     |refine qab hC up8 ?_
     |refine qab hC up32 ?_
     |refine qad hS (by kernel_rfl) ?_
     |refine qam hE hS ?_
     |refine qan hE hS ?_
     |refine qar hC ?_);conv => whnf)
    exact ⟨[0],by simp,by decide,(by refine ⟨rfl,rfl,rfl,rfl,rfl,rfl,105,rfl,?_,?_⟩ <;> repeat' (first | exact trivial | exact rfl | exact ⟨_,rfl,WkV.refl _⟩ | exact ⟨_,rfl,WkV.own _ _ _⟩ | exact Nat.zero_le _ | exact Nat.le_of_ble_eq_true rfl | exact qae (by assumption) | exact qae (qag _) | exact qae (qal _) | exact qae (qa0 _) | exact Nat.max_le.2 ⟨Nat.le_of_ble_eq_true rfl,qae (qal _)⟩ | exact Nat.max_le.2 ⟨Nat.le_of_ble_eq_true rfl,qae (qa0 _)⟩ | apply And.intro))⟩
   ·conv => whnf
    repeat ((first
     |refine qab hC in0 ?_
     |refine qab hC in1 ?_
     |refine qab hC (qbm _ _) ?_
     |refine qak hC s16 ?_
     |refine qak hC s168 ?_
     |refine qak hC s8 ?_
     |refine qak hC s88 ?_
     |refine qak hC qeo ?_
     |refine qab hC up16 ?_
     |refine qab hC up24 ?_
     |refine qab hC up8 ?_
     |refine qab hC up32 ?_
     |refine qad hS (by kernel_rfl) ?_
     |refine qam hE hS ?_
     |refine qan hE hS ?_
     |refine qar hC ?_);conv => whnf)
    exact ⟨[0,1],by simp,by decide,(by refine ⟨rfl,rfl,rfl,rfl,rfl,rfl,105,rfl,?_,?_⟩ <;> repeat' (first | exact trivial | exact rfl | exact ⟨_,rfl,WkV.refl _⟩ | exact ⟨_,rfl,WkV.own _ _ _⟩ | exact Nat.zero_le _ | exact Nat.le_of_ble_eq_true rfl | exact qae (by assumption) | exact qae (qag _) | exact qae (qal _) | exact qae (qa0 _) | exact Nat.max_le.2 ⟨Nat.le_of_ble_eq_true rfl,qae (qal _)⟩ | exact Nat.max_le.2 ⟨Nat.le_of_ble_eq_true rfl,qae (qa0 _)⟩ | apply And.intro))⟩
  ·have ha2:a = [] ∨ a = [0] :=by
    rcases ha with rfl | rfl | rfl | rfl | rfl <;> first | exact .inl rfl | exact .inr rfl | exact absurd (by decide) hn
   rcases ha2 with rfl | rfl
   ·conv => whnf
    repeat ((first
     |refine qab hC in0 ?_
     |refine qab hC in1 ?_
     |refine qab hC (qbm _ _) ?_
     |refine qak hC s16 ?_
     |refine qak hC s168 ?_
     |refine qak hC s8 ?_
     |refine qak hC s88 ?_
     |refine qak hC qeo ?_
     |refine qab hC up16 ?_
     |refine qab hC up24 ?_
     |refine qab hC up8 ?_
     |refine qab hC up32 ?_
     |refine qad hS (by kernel_rfl) ?_
     |refine qam hE hS ?_
     |refine qan hE hS ?_
     |refine qar hC ?_);conv => whnf)
    exact ⟨[1],by simp,by decide,(by refine ⟨rfl,rfl,rfl,rfl,rfl,rfl,105,rfl,?_,?_⟩ <;> repeat' (first | exact trivial | exact rfl | exact ⟨_,rfl,WkV.refl _⟩ | exact ⟨_,rfl,WkV.own _ _ _⟩ | exact Nat.zero_le _ | exact Nat.le_of_ble_eq_true rfl | exact qae (by assumption) | exact qae (qag _) | exact qae (qal _) | exact qae (qa0 _) | exact Nat.max_le.2 ⟨Nat.le_of_ble_eq_true rfl,qae (qal _)⟩ | exact Nat.max_le.2 ⟨Nat.le_of_ble_eq_true rfl,qae (qa0 _)⟩ | apply And.intro))⟩
   ·conv => whnf
    repeat ((first
     |refine qab hC in0 ?_
     |refine qab hC in1 ?_
     |refine qab hC (qbm _ _) ?_
     |refine qak hC s16 ?_
     |refine qak hC s168 ?_
     |refine qak hC s8 ?_
     |refine qak hC s88 ?_
     |refine qak hC qeo ?_
     |refine qab hC up16 ?_
     |refine qab hC up24 ?_
     |refine qab hC up8 ?_
     |refine qab hC up32 ?_
     |refine qad hS (by kernel_rfl) ?_
     |refine qam hE hS ?_
     |refine qan hE hS ?_
     |refine qar hC ?_);conv => whnf)
    exact ⟨[1,0],by simp,by decide,(by refine ⟨rfl,rfl,rfl,rfl,rfl,rfl,105,rfl,?_,?_⟩ <;> repeat' (first | exact trivial | exact rfl | exact ⟨_,rfl,WkV.refl _⟩ | exact ⟨_,rfl,WkV.own _ _ _⟩ | exact Nat.zero_le _ | exact Nat.le_of_ble_eq_true rfl | exact qae (by assumption) | exact qae (qag _) | exact qae (qal _) | exact qae (qa0 _) | exact Nat.max_le.2 ⟨Nat.le_of_ble_eq_true rfl,qae (qal _)⟩ | exact Nat.max_le.2 ⟨Nat.le_of_ble_eq_true rfl,qae (qa0 _)⟩ | apply And.intro))⟩
 ·intro a ha hall N hN
  subst hN
  simp only [List.mem_cons,List.not_mem_nil,or_false] at ha
  have ha2:a = [0,1] ∨ a = [1,0] :=by
   have h0 :=hall 0 (by decide)
   have h1 :=hall 1 (by decide)
   rcases ha with rfl | rfl | rfl | rfl | rfl <;> first | exact .inl rfl | exact .inr rfl | exact absurd h0 (by decide) | exact absurd h1 (by decide)
  rcases ha2 with rfl | rfl
  all_goals
   conv => whnf
   exact ⟨rfl,(by refine ⟨rfl,rfl,rfl,rfl,rfl,rfl,105,rfl,?_,?_,?_⟩ <;> repeat' (first | exact trivial | exact rfl | exact ⟨_,rfl,WkV.refl _⟩ | exact ⟨_,rfl,WkV.own _ _ _⟩ | exact OWk.same _ | exact OWk.loop _ _ _ _ _ _ _ (by repeat' (first | exact trivial | exact WkV.refl _ | exact WkV.unk _ | apply And.intro)) | exact Nat.zero_le _ | exact OWk.iter _ _ _ _ | exact Nat.le_of_ble_eq_true rfl | exact qae (by assumption) | exact qae (qag _) | exact qae (qal _) | exact qae (qa0 _) | exact Nat.max_le.2 ⟨Nat.le_of_ble_eq_true rfl,qae (qal _)⟩ | exact Nat.max_le.2 ⟨Nat.le_of_ble_eq_true rfl,qae (qa0 _)⟩ | apply And.intro))⟩
 ·intro N hN
  subst hN
  conv => whnf
  exact ⟨_,rfl,FzV.tup ⟨FzV.slc (xs :=[iv 2,iv 1,iv 3]) rfl rfl (fun j hj => by match j,hj with | 0,_ => rfl | 1,_ => rfl | 2,_ => rfl) ⟨trivial,trivial,trivial,trivial⟩,FzV.no trivial,trivial⟩⟩
theorem done011n:Pure prog 73 [aW,aJ,ints .no [0,1,1]] (.tup [ints .no [2,1,2],i64 128]) :=by
 refine qb4 hE rfl (by repeat' (first | exact trivial | assumption | exact qag _ | exact (fun _ h => nomatch h) | apply And.intro)) (by repeat' (first | exact trivial | assumption | exact qag _ | exact (fun _ h => nomatch h) | apply And.intro)) fun S q pc hS hq hC hE => ?_
 conv => whnf
 refine qam hE hS ?_
 conv => whnf
 repeat ((first
  |refine qab hC in0 ?_
  |refine qab hC in1 ?_
  |refine qad hS (by kernel_rfl) ?_);conv => whnf)
 refine qam hE hS ?_
 conv => whnf
 repeat ((first
  |refine qab hC in0 ?_
  |refine qab hC in1 ?_
  |refine qad hS (by kernel_rfl) ?_);conv => whnf)
 refine qam hE hS ?_
 conv => whnf
 repeat ((first
  |refine qab hC in0 ?_
  |refine qab hC in1 ?_
  |refine qad hS (by kernel_rfl) ?_);conv => whnf)
 refine qam hE hS ?_
 conv => whnf
 refine qc3 hE hS (A :=List Nat) rfl rfl rfl 104 1 2 2 [(iv 0,.lst [iv 0] 1 (.ch 21)),(iv 1,.lst [iv 1,iv 2] 2 (.ch 55))] (by decide) [0,4,9,12,83] (fun _ => []) (fun a => [(103,.cells (dyT (fun a => (if0 0 a 2,if0 1 a 1,if0 1 a 2)) a) 3 3),(104,.miter 1 2 a 2)]) (fun a => a) (fun _ => 2) (fun a => a ∈ [[],[0],[1],[0,1],[1,0]]) (fun a => 2 - a.length) [] [] [(103,.cells (dyT (fun a => (if0 0 a 2,if0 1 a 1,if0 1 a 2)) [0,1]) 3 3),(104,.miter 1 2 [] 0)] (Nat.le_of_ble_eq_true rfl) ?_ (by refine ⟨rfl,rfl,rfl,rfl,rfl,rfl,105,rfl,?_,?_⟩ <;> repeat' (first | exact trivial | exact rfl | exact ⟨_,rfl,WkV.refl _⟩ | exact ⟨_,rfl,WkV.own _ _ _⟩ | exact Nat.zero_le _ | exact Nat.le_of_ble_eq_true rfl | exact qae (by assumption) | exact qae (qag _) | exact qae (qal _) | exact qae (qa0 _) | exact Nat.max_le.2 ⟨Nat.le_of_ble_eq_true rfl,qae (qal _)⟩ | exact Nat.max_le.2 ⟨Nat.le_of_ble_eq_true rfl,qae (qa0 _)⟩ | apply And.intro)) (by simp) ?_ ?_ ?_ ?_
 ·exact fun x _ => .inl (Nat.zero_le _)
 ·intro a ha
  simp only [List.mem_cons,List.not_mem_nil,or_false] at ha
  rcases ha with rfl | rfl | rfl | rfl | rfl <;> exact ⟨rfl,rfl,rfl,by decide⟩
 ·intro a ha j k v hj hn N hN
  have hj2:j = 0 ∧ k = iv 0 ∧ v = .lst [iv 0] 1 (.ch 21) ∨ j = 1 ∧ k = iv 1 ∧ v = .lst [iv 1,iv 2] 2 (.ch 55) :=by
   match j,hj with
   | 0,h => cases h;exact .inl ⟨rfl,rfl,rfl⟩
   | 1,h => cases h;exact .inr ⟨rfl,rfl,rfl⟩
   |(j+2),h => cases h
  simp only [List.mem_cons,List.not_mem_nil,or_false] at ha
  subst hN
  rcases hj2 with ⟨rfl,rfl,rfl⟩ | ⟨rfl,rfl,rfl⟩
  ·have ha2:a = [] ∨ a = [1] :=by
    rcases ha with rfl | rfl | rfl | rfl | rfl <;> first | exact .inl rfl | exact .inr rfl | exact absurd (by decide) hn
   rcases ha2 with rfl | rfl
   ·conv => whnf
    repeat ((first
     |refine qab hC in0 ?_
     |refine qab hC in1 ?_
     |refine qab hC (qbm _ _) ?_
     |refine qak hC s16 ?_
     |refine qak hC s168 ?_
     |refine qak hC s8 ?_
     |refine qak hC s88 ?_
     |refine qak hC qeo ?_
     |refine qab hC up16 ?_
     |refine qab hC up24 ?_
     |refine qab hC up8 ?_
     |refine qab hC up32 ?_
     |refine qad hS (by kernel_rfl) ?_
     |refine qam hE hS ?_
     |refine qan hE hS ?_
     |refine qar hC ?_);conv => whnf)
    exact ⟨[0],by simp,by decide,(by refine ⟨rfl,rfl,rfl,rfl,rfl,rfl,105,rfl,?_,?_⟩ <;> repeat' (first | exact trivial | exact rfl | exact ⟨_,rfl,WkV.refl _⟩ | exact ⟨_,rfl,WkV.own _ _ _⟩ | exact Nat.zero_le _ | exact Nat.le_of_ble_eq_true rfl | exact qae (by assumption) | exact qae (qag _) | exact qae (qal _) | exact qae (qa0 _) | exact Nat.max_le.2 ⟨Nat.le_of_ble_eq_true rfl,qae (qal _)⟩ | exact Nat.max_le.2 ⟨Nat.le_of_ble_eq_true rfl,qae (qa0 _)⟩ | apply And.intro))⟩
   ·conv => whnf
    repeat ((first
     |refine qab hC in0 ?_
     |refine qab hC in1 ?_
     |refine qab hC (qbm _ _) ?_
     |refine qak hC s16 ?_
     |refine qak hC s168 ?_
     |refine qak hC s8 ?_
     |refine qak hC s88 ?_
     |refine qak hC qeo ?_
     |refine qab hC up16 ?_
     |refine qab hC up24 ?_
     |refine qab hC up8 ?_
     |refine qab hC up32 ?_
     |refine qad hS (by kernel_rfl) ?_
     |refine qam hE hS ?_
     |refine qan hE hS ?_
     |refine qar hC ?_);conv => whnf)
    exact ⟨[0,1],by simp,by decide,(by refine ⟨rfl,rfl,rfl,rfl,rfl,rfl,105,rfl,?_,?_⟩ <;> repeat' (first | exact trivial | exact rfl | exact ⟨_,rfl,WkV.refl _⟩ | exact ⟨_,rfl,WkV.own _ _ _⟩ | exact Nat.zero_le _ | exact Nat.le_of_ble_eq_true rfl | exact qae (by assumption) | exact qae (qag _) | exact qae (qal _) | exact qae (qa0 _) | exact Nat.max_le.2 ⟨Nat.le_of_ble_eq_true rfl,qae (qal _)⟩ | exact Nat.max_le.2 ⟨Nat.le_of_ble_eq_true rfl,qae (qa0 _)⟩ | apply And.intro))⟩
  ·have ha2:a = [] ∨ a = [0] :=by
    rcases ha with rfl | rfl | rfl | rfl | rfl <;> first | exact .inl rfl | exact .inr rfl | exact absurd (by decide) hn
   rcases ha2 with rfl | rfl
   ·conv => whnf
    repeat ((first
     |refine qab hC in0 ?_
     |refine qab hC in1 ?_
     |refine qab hC (qbm _ _) ?_
     |refine qak hC s16 ?_
     |refine qak hC s168 ?_
     |refine qak hC s8 ?_
     |refine qak hC s88 ?_
     |refine qak hC qeo ?_
     |refine qab hC up16 ?_
     |refine qab hC up24 ?_
     |refine qab hC up8 ?_
     |refine qab hC up32 ?_
     |refine qad hS (by kernel_rfl) ?_
     |refine qam hE hS ?_
     |refine qan hE hS ?_
     |refine qar hC ?_);conv => whnf)
    exact ⟨[1],by simp,by decide,(by refine ⟨rfl,rfl,rfl,rfl,rfl,rfl,105,rfl,?_,?_⟩ <;> repeat' (first | exact trivial | exact rfl | exact ⟨_,rfl,WkV.refl _⟩ | exact ⟨_,rfl,WkV.own _ _ _⟩ | exact Nat.zero_le _ | exact Nat.le_of_ble_eq_true rfl | exact qae (by assumption) | exact qae (qag _) | exact qae (qal _) | exact qae (qa0 _) | exact Nat.max_le.2 ⟨Nat.le_of_ble_eq_true rfl,qae (qal _)⟩ | exact Nat.max_le.2 ⟨Nat.le_of_ble_eq_true rfl,qae (qa0 _)⟩ | apply And.intro))⟩
   ·conv => whnf
    repeat ((first
     |refine qab hC in0 ?_
     |refine qab hC in1 ?_
     |refine qab hC (qbm _ _) ?_
     |refine qak hC s16 ?_
     |refine qak hC s168 ?_
     |refine qak hC s8 ?_
     |refine qak hC s88 ?_
     |refine qak hC qeo ?_
     |refine qab hC up16 ?_
     |refine qab hC up24 ?_
     |refine qab hC up8 ?_
     |refine qab hC up32 ?_
     |refine qad hS (by kernel_rfl) ?_
     |refine qam hE hS ?_
     |refine qan hE hS ?_
     |refine qar hC ?_);conv => whnf)
    exact ⟨[1,0],by simp,by decide,(by refine ⟨rfl,rfl,rfl,rfl,rfl,rfl,105,rfl,?_,?_⟩ <;> repeat' (first | exact trivial | exact rfl | exact ⟨_,rfl,WkV.refl _⟩ | exact ⟨_,rfl,WkV.own _ _ _⟩ | exact Nat.zero_le _ | exact Nat.le_of_ble_eq_true rfl | exact qae (by assumption) | exact qae (qag _) | exact qae (qal _) | exact qae (qa0 _) | exact Nat.max_le.2 ⟨Nat.le_of_ble_eq_true rfl,qae (qal _)⟩ | exact Nat.max_le.2 ⟨Nat.le_of_ble_eq_true rfl,qae (qa0 _)⟩ | apply And.intro))⟩
 ·intro a ha hall N hN
  subst hN
  simp only [List.mem_cons,List.not_mem_nil,or_false] at ha
  have ha2:a = [0,1] ∨ a = [1,0] :=by
   have h0 :=hall 0 (by decide)
   have h1 :=hall 1 (by decide)
   rcases ha with rfl | rfl | rfl | rfl | rfl <;> first | exact .inl rfl | exact .inr rfl | exact absurd h0 (by decide) | exact absurd h1 (by decide)
  rcases ha2 with rfl | rfl
  all_goals
   conv => whnf
   exact ⟨rfl,(by refine ⟨rfl,rfl,rfl,rfl,rfl,rfl,105,rfl,?_,?_,?_⟩ <;> repeat' (first | exact trivial | exact rfl | exact ⟨_,rfl,WkV.refl _⟩ | exact ⟨_,rfl,WkV.own _ _ _⟩ | exact OWk.same _ | exact OWk.loop _ _ _ _ _ _ _ (by repeat' (first | exact trivial | exact WkV.refl _ | exact WkV.unk _ | apply And.intro)) | exact Nat.zero_le _ | exact OWk.iter _ _ _ _ | exact Nat.le_of_ble_eq_true rfl | exact qae (by assumption) | exact qae (qag _) | exact qae (qal _) | exact qae (qa0 _) | exact Nat.max_le.2 ⟨Nat.le_of_ble_eq_true rfl,qae (qal _)⟩ | exact Nat.max_le.2 ⟨Nat.le_of_ble_eq_true rfl,qae (qa0 _)⟩ | apply And.intro))⟩
 ·intro N hN
  subst hN
  conv => whnf
  exact ⟨_,rfl,FzV.tup ⟨FzV.slc (xs :=[iv 2,iv 1,iv 2]) rfl rfl (fun j hj => by match j,hj with | 0,_ => rfl | 1,_ => rfl | 2,_ => rfl) ⟨trivial,trivial,trivial,trivial⟩,FzV.no trivial,trivial⟩⟩
theorem done110n:Pure prog 73 [aW,aJ,ints .no [1,1,0]] (.tup [ints .no [2,3,1],i64 144]) :=by
 refine qb4 hE rfl (by repeat' (first | exact trivial | assumption | exact qag _ | exact (fun _ h => nomatch h) | apply And.intro)) (by repeat' (first | exact trivial | assumption | exact qag _ | exact (fun _ h => nomatch h) | apply And.intro)) fun S q pc hS hq hC hE => ?_
 conv => whnf
 refine qam hE hS ?_
 conv => whnf
 repeat ((first
  |refine qab hC in0 ?_
  |refine qab hC in1 ?_
  |refine qad hS (by kernel_rfl) ?_);conv => whnf)
 refine qam hE hS ?_
 conv => whnf
 repeat ((first
  |refine qab hC in0 ?_
  |refine qab hC in1 ?_
  |refine qad hS (by kernel_rfl) ?_);conv => whnf)
 refine qam hE hS ?_
 conv => whnf
 repeat ((first
  |refine qab hC in0 ?_
  |refine qab hC in1 ?_
  |refine qad hS (by kernel_rfl) ?_);conv => whnf)
 refine qam hE hS ?_
 conv => whnf
 refine qc3 hE hS (A :=List Nat) rfl rfl rfl 104 1 2 2 [(iv 1,.lst [iv 0,iv 1] 2 (.ch 21)),(iv 0,.lst [iv 2] 1 (.ch 88))] (by decide) [0,4,9,12,83] (fun _ => []) (fun a => [(103,.cells (dyT (fun a => (if0 0 a 2,if0 0 a 3,if0 1 a 1)) a) 3 3),(104,.miter 1 2 a 2)]) (fun a => a) (fun _ => 2) (fun a => a ∈ [[],[0],[1],[0,1],[1,0]]) (fun a => 2 - a.length) [] [] [(103,.cells (dyT (fun a => (if0 0 a 2,if0 0 a 3,if0 1 a 1)) [0,1]) 3 3),(104,.miter 1 2 [] 0)] (Nat.le_of_ble_eq_true rfl) ?_ (by refine ⟨rfl,rfl,rfl,rfl,rfl,rfl,105,rfl,?_,?_⟩ <;> repeat' (first | exact trivial | exact rfl | exact ⟨_,rfl,WkV.refl _⟩ | exact ⟨_,rfl,WkV.own _ _ _⟩ | exact Nat.zero_le _ | exact Nat.le_of_ble_eq_true rfl | exact qae (by assumption) | exact qae (qag _) | exact qae (qal _) | exact qae (qa0 _) | exact Nat.max_le.2 ⟨Nat.le_of_ble_eq_true rfl,qae (qal _)⟩ | exact Nat.max_le.2 ⟨Nat.le_of_ble_eq_true rfl,qae (qa0 _)⟩ | apply And.intro)) (by simp) ?_ ?_ ?_ ?_
 ·exact fun x _ => .inl (Nat.zero_le _)
 ·intro a ha
  simp only [List.mem_cons,List.not_mem_nil,or_false] at ha
  rcases ha with rfl | rfl | rfl | rfl | rfl <;> exact ⟨rfl,rfl,rfl,by decide⟩
 ·intro a ha j k v hj hn N hN
  have hj2:j = 0 ∧ k = iv 1 ∧ v = .lst [iv 0,iv 1] 2 (.ch 21) ∨ j = 1 ∧ k = iv 0 ∧ v = .lst [iv 2] 1 (.ch 88) :=by
   match j,hj with
   | 0,h => cases h;exact .inl ⟨rfl,rfl,rfl⟩
   | 1,h => cases h;exact .inr ⟨rfl,rfl,rfl⟩
   |(j+2),h => cases h
  simp only [List.mem_cons,List.not_mem_nil,or_false] at ha
  subst hN
  rcases hj2 with ⟨rfl,rfl,rfl⟩ | ⟨rfl,rfl,rfl⟩
  ·have ha2:a = [] ∨ a = [1] :=by
    rcases ha with rfl | rfl | rfl | rfl | rfl <;> first | exact .inl rfl | exact .inr rfl | exact absurd (by decide) hn
   rcases ha2 with rfl | rfl
   ·conv => whnf
    repeat ((first
     |refine qab hC in0 ?_
     |refine qab hC in1 ?_
     |refine qab hC (qbm _ _) ?_
     |refine qak hC s16 ?_
     |refine qak hC s168 ?_
     |refine qak hC s8 ?_
     |refine qak hC s88 ?_
     |refine qak hC qeo ?_
     |refine qab hC up16 ?_
     |refine qab hC up24 ?_
     |refine qab hC up8 ?_
     |refine qab hC up32 ?_
     |refine qad hS (by kernel_rfl) ?_
     |refine qam hE hS ?_
     |refine qan hE hS ?_
     |refine qar hC ?_);conv => whnf)
    exact ⟨[0],by simp,by decide,(by refine ⟨rfl,rfl,rfl,rfl,rfl,rfl,105,rfl,?_,?_⟩ <;> repeat' (first | exact trivial | exact rfl | exact ⟨_,rfl,WkV.refl _⟩ | exact ⟨_,rfl,WkV.own _ _ _⟩ | exact Nat.zero_le _ | exact Nat.le_of_ble_eq_true rfl | exact qae (by assumption) | exact qae (qag _) | exact qae (qal _) | exact qae (qa0 _) | exact Nat.max_le.2 ⟨Nat.le_of_ble_eq_true rfl,qae (qal _)⟩ | exact Nat.max_le.2 ⟨Nat.le_of_ble_eq_true rfl,qae (qa0 _)⟩ | apply And.intro))⟩
   ·conv => whnf
    repeat ((first
     |refine qab hC in0 ?_
     |refine qab hC in1 ?_
     |refine qab hC (qbm _ _) ?_
     |refine qak hC s16 ?_
     |refine qak hC s168 ?_
     |refine qak hC s8 ?_
     |refine qak hC s88 ?_
     |refine qak hC qeo ?_
     |refine qab hC up16 ?_
     |refine qab hC up24 ?_
     |refine qab hC up8 ?_
     |refine qab hC up32 ?_
     |refine qad hS (by kernel_rfl) ?_
     |refine qam hE hS ?_
     |refine qan hE hS ?_
     |refine qar hC ?_);conv => whnf)
    exact ⟨[0,1],by simp,by decide,(by refine ⟨rfl,rfl,rfl,rfl,rfl,rfl,105,rfl,?_,?_⟩ <;> repeat' (first | exact trivial | exact rfl | exact ⟨_,rfl,WkV.refl _⟩ | exact ⟨_,rfl,WkV.own _ _ _⟩ | exact Nat.zero_le _ | exact Nat.le_of_ble_eq_true rfl | exact qae (by assumption) | exact qae (qag _) | exact qae (qal _) | exact qae (qa0 _) | exact Nat.max_le.2 ⟨Nat.le_of_ble_eq_true rfl,qae (qal _)⟩ | exact Nat.max_le.2 ⟨Nat.le_of_ble_eq_true rfl,qae (qa0 _)⟩ | apply And.intro))⟩
  ·have ha2:a = [] ∨ a = [0] :=by
    rcases ha with rfl | rfl | rfl | rfl | rfl <;> first | exact .inl rfl | exact .inr rfl | exact absurd (by decide) hn
   rcases ha2 with rfl | rfl
   ·conv => whnf
    repeat ((first
     |refine qab hC in0 ?_
     |refine qab hC in1 ?_
     |refine qab hC (qbm _ _) ?_
     |refine qak hC s16 ?_
     |refine qak hC s168 ?_
     |refine qak hC s8 ?_
     |refine qak hC s88 ?_
     |refine qak hC qeo ?_
     |refine qab hC up16 ?_
     |refine qab hC up24 ?_
     |refine qab hC up8 ?_
     |refine qab hC up32 ?_
     |refine qad hS (by kernel_rfl) ?_
     |refine qam hE hS ?_
     |refine qan hE hS ?_
     |refine qar hC ?_);conv => whnf)
    exact ⟨[1],by simp,by decide,(by refine ⟨rfl,rfl,rfl,rfl,rfl,rfl,105,rfl,?_,?_⟩ <;> repeat' (first | exact trivial | exact rfl | exact ⟨_,rfl,WkV.refl _⟩ | exact ⟨_,rfl,WkV.own _ _ _⟩ | exact Nat.zero_le _ | exact Nat.le_of_ble_eq_true rfl | exact qae (by assumption) | exact qae (qag _) | exact qae (qal _) | exact qae (qa0 _) | exact Nat.max_le.2 ⟨Nat.le_of_ble_eq_true rfl,qae (qal _)⟩ | exact Nat.max_le.2 ⟨Nat.le_of_ble_eq_true rfl,qae (qa0 _)⟩ | apply And.intro))⟩
   ·conv => whnf
    repeat ((first
     |refine qab hC in0 ?_
     |refine qab hC in1 ?_
     |refine qab hC (qbm _ _) ?_
     |refine qak hC s16 ?_
     |refine qak hC s168 ?_
     |refine qak hC s8 ?_
     |refine qak hC s88 ?_
     |refine qak hC qeo ?_
     |refine qab hC up16 ?_
     |refine qab hC up24 ?_
     |refine qab hC up8 ?_
     |refine qab hC up32 ?_
     |refine qad hS (by kernel_rfl) ?_
     |refine qam hE hS ?_
     |refine qan hE hS ?_
     |refine qar hC ?_);conv => whnf)
    exact ⟨[1,0],by simp,by decide,(by refine ⟨rfl,rfl,rfl,rfl,rfl,rfl,105,rfl,?_,?_⟩ <;> repeat' (first | exact trivial | exact rfl | exact ⟨_,rfl,WkV.refl _⟩ | exact ⟨_,rfl,WkV.own _ _ _⟩ | exact Nat.zero_le _ | exact Nat.le_of_ble_eq_true rfl | exact qae (by assumption) | exact qae (qag _) | exact qae (qal _) | exact qae (qa0 _) | exact Nat.max_le.2 ⟨Nat.le_of_ble_eq_true rfl,qae (qal _)⟩ | exact Nat.max_le.2 ⟨Nat.le_of_ble_eq_true rfl,qae (qa0 _)⟩ | apply And.intro))⟩
 ·intro a ha hall N hN
  subst hN
  simp only [List.mem_cons,List.not_mem_nil,or_false] at ha
  have ha2:a = [0,1] ∨ a = [1,0] :=by
   have h0 :=hall 0 (by decide)
   have h1 :=hall 1 (by decide)
   rcases ha with rfl | rfl | rfl | rfl | rfl <;> first | exact .inl rfl | exact .inr rfl | exact absurd h0 (by decide) | exact absurd h1 (by decide)
  rcases ha2 with rfl | rfl
  all_goals
   conv => whnf
   exact ⟨rfl,(by refine ⟨rfl,rfl,rfl,rfl,rfl,rfl,105,rfl,?_,?_,?_⟩ <;> repeat' (first | exact trivial | exact rfl | exact ⟨_,rfl,WkV.refl _⟩ | exact ⟨_,rfl,WkV.own _ _ _⟩ | exact OWk.same _ | exact OWk.loop _ _ _ _ _ _ _ (by repeat' (first | exact trivial | exact WkV.refl _ | exact WkV.unk _ | apply And.intro)) | exact Nat.zero_le _ | exact OWk.iter _ _ _ _ | exact Nat.le_of_ble_eq_true rfl | exact qae (by assumption) | exact qae (qag _) | exact qae (qal _) | exact qae (qa0 _) | exact Nat.max_le.2 ⟨Nat.le_of_ble_eq_true rfl,qae (qal _)⟩ | exact Nat.max_le.2 ⟨Nat.le_of_ble_eq_true rfl,qae (qa0 _)⟩ | apply And.intro))⟩
 ·intro N hN
  subst hN
  conv => whnf
  exact ⟨_,rfl,FzV.tup ⟨FzV.slc (xs :=[iv 2,iv 3,iv 1]) rfl rfl (fun j hj => by match j,hj with | 0,_ => rfl | 1,_ => rfl | 2,_ => rfl) ⟨trivial,trivial,trivial,trivial⟩,FzV.no trivial,trivial⟩⟩
theorem done111n:Pure prog 73 [aW,aJ,ints .no [1,1,1]] (.tup [ints .no [2,3,4],i64 160]) :=by
 refine qb4 hE rfl (by repeat' (first | exact trivial | assumption | exact qag _ | exact (fun _ h => nomatch h) | apply And.intro)) (by repeat' (first | exact trivial | assumption | exact qag _ | exact (fun _ h => nomatch h) | apply And.intro)) fun S q pc hS hq hC hE => ?_
 conv => whnf
 refine qam hE hS ?_
 conv => whnf
 repeat ((first
  |refine qab hC in0 ?_
  |refine qab hC in1 ?_
  |refine qad hS (by kernel_rfl) ?_);conv => whnf)
 refine qam hE hS ?_
 conv => whnf
 repeat ((first
  |refine qab hC in0 ?_
  |refine qab hC in1 ?_
  |refine qad hS (by kernel_rfl) ?_);conv => whnf)
 refine qam hE hS ?_
 conv => whnf
 repeat ((first
  |refine qab hC in0 ?_
  |refine qab hC in1 ?_
  |refine qad hS (by kernel_rfl) ?_);conv => whnf)
 refine qam hE hS ?_
 conv => whnf
 refine qc3 hE hS (A :=List Nat) rfl rfl rfl 103 1 1 2 [(iv 1,.lst [iv 0,iv 1,iv 2] 3 (.ch 21))] (by decide) [0,4,9,12,83] (fun _ => []) (fun a => [(102,.cells (dyT (fun a => (if0 0 a 2,if0 0 a 3,if0 0 a 4)) a) 3 3),(103,.miter 1 1 a 1)]) (fun a => a) (fun _ => 1) (fun a => a ∈ [[],[0]]) (fun a => 2 - a.length) [] [] [(102,.cells (dyT (fun a => (if0 0 a 2,if0 0 a 3,if0 0 a 4)) [0]) 3 3),(103,.miter 1 1 [] 0)] (Nat.le_of_ble_eq_true rfl) ?_ (by refine ⟨rfl,rfl,rfl,rfl,rfl,rfl,104,rfl,?_,?_⟩ <;> repeat' (first | exact trivial | exact rfl | exact ⟨_,rfl,WkV.refl _⟩ | exact ⟨_,rfl,WkV.own _ _ _⟩ | exact Nat.zero_le _ | exact Nat.le_of_ble_eq_true rfl | exact qae (by assumption) | exact qae (qag _) | exact qae (qal _) | exact qae (qa0 _) | exact Nat.max_le.2 ⟨Nat.le_of_ble_eq_true rfl,qae (qal _)⟩ | exact Nat.max_le.2 ⟨Nat.le_of_ble_eq_true rfl,qae (qa0 _)⟩ | apply And.intro)) (by simp) ?_ ?_ ?_ ?_
 ·exact fun x _ => .inl (Nat.zero_le _)
 ·intro a ha
  simp only [List.mem_cons,List.not_mem_nil,or_false] at ha
  rcases ha with rfl | rfl <;> exact ⟨rfl,rfl,rfl,by decide⟩
 ·intro a ha j k v hj hn N hN
  obtain ⟨rfl,rfl,rfl⟩ : j = 0 ∧ k = iv 1 ∧ v = .lst [iv 0,iv 1,iv 2] 3 (.ch 21) :=by
   match j,hj with
   | 0,h => cases h;exact ⟨rfl,rfl,rfl⟩
   |(j+1),h => cases h
  simp only [List.mem_cons,List.not_mem_nil,or_false] at ha
  subst hN
  have ha2:a = [] :=by
   rcases ha with rfl | rfl <;> first | rfl | exact absurd (by decide) hn
  subst ha2
  conv => whnf
  repeat ((first
   |refine qab hC in0 ?_
   |refine qab hC in1 ?_
   |refine qab hC (qbm _ _) ?_
   |refine qak hC s16 ?_
   |refine qak hC s168 ?_
   |refine qak hC s8 ?_
   |refine qak hC s88 ?_
   |refine qak hC qeo ?_
   |refine qab hC up16 ?_
   |refine qab hC up24 ?_
   |refine qab hC up8 ?_
   |refine qab hC up32 ?_
   |refine qad hS (by kernel_rfl) ?_
   |refine qam hE hS ?_
   |refine qan hE hS ?_
   |refine qar hC ?_);conv => whnf)
  exact ⟨[0],by simp,by decide,(by refine ⟨rfl,rfl,rfl,rfl,rfl,rfl,104,rfl,?_,?_⟩ <;> repeat' (first | exact trivial | exact rfl | exact ⟨_,rfl,WkV.refl _⟩ | exact ⟨_,rfl,WkV.own _ _ _⟩ | exact Nat.zero_le _ | exact Nat.le_of_ble_eq_true rfl | exact qae (by assumption) | exact qae (qag _) | exact qae (qal _) | exact qae (qa0 _) | exact Nat.max_le.2 ⟨Nat.le_of_ble_eq_true rfl,qae (qal _)⟩ | exact Nat.max_le.2 ⟨Nat.le_of_ble_eq_true rfl,qae (qa0 _)⟩ | apply And.intro))⟩
 ·intro a ha hall N hN
  subst hN
  simp only [List.mem_cons,List.not_mem_nil,or_false] at ha
  have ha2:a = [0] :=by
   have h0 :=hall 0 (by decide)
   rcases ha with rfl | rfl <;> first | rfl | exact absurd h0 (by decide)
  subst ha2
  conv => whnf
  exact ⟨rfl,(by refine ⟨rfl,rfl,rfl,rfl,rfl,rfl,104,rfl,?_,?_,?_⟩ <;> repeat' (first | exact trivial | exact rfl | exact ⟨_,rfl,WkV.refl _⟩ | exact ⟨_,rfl,WkV.own _ _ _⟩ | exact OWk.same _ | exact OWk.loop _ _ _ _ _ _ _ (by repeat' (first | exact trivial | exact WkV.refl _ | exact WkV.unk _ | apply And.intro)) | exact Nat.zero_le _ | exact OWk.iter _ _ _ _ | exact Nat.le_of_ble_eq_true rfl | exact qae (by assumption) | exact qae (qag _) | exact qae (qal _) | exact qae (qa0 _) | exact Nat.max_le.2 ⟨Nat.le_of_ble_eq_true rfl,qae (qal _)⟩ | exact Nat.max_le.2 ⟨Nat.le_of_ble_eq_true rfl,qae (qa0 _)⟩ | apply And.intro))⟩
 ·intro N hN
  subst hN
  conv => whnf
  exact ⟨_,rfl,FzV.tup ⟨FzV.slc (xs :=[iv 2,iv 3,iv 4]) rfl rfl (fun j hj => by match j,hj with | 0,_ => rfl | 1,_ => rfl | 2,_ => rfl) ⟨trivial,trivial,trivial,trivial⟩,FzV.no trivial,trivial⟩⟩
end
end Go.Abs.Seat
