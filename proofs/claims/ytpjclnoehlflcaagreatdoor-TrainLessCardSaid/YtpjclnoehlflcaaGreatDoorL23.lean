/-
  The law TrainLess: the walk, lists.
-/
import Derived.Test.YtpjclnoehlflcaaGreatDoorL20
/-! The law TrainLess: the walk, lists. -/
namespace Go.Abs.Seat
noncomputable section
open Go Go.Abs Go.Proofs.Tryz
set_option maxRecDepth 100000
set_option maxHeartbeats 40000000
attribute [local irreducible] IntKind.wrap pEq pSlice
theorem less_run3 (hk : Pure prog 16 [] (.bool true)) {v w N T : AV} {k j i : Nat} (sV : ∃ xs, v = .lst xs k .no ∧ Lives noL xs) (k8 : k ≤ 8) {f : List Int} (hw : w = nl f)
    (sN:N = .nils ∧ j = 0 ∨ ∃ xs,N = .lst xs j .no ∧ Lives noL xs) (j8:j ≤ 8) (sT:T = .nils ∧ i = 0 ∨ ∃ xs,T = .lst xs i .no ∧ Lives noL xs)
    (n d m u z e a c p s q t:Int) {bT bF bL bE bN bR bG b1 b2 bM:Bool}
    (pB:Pure prog 15 [w,.nils] (.bool true)) (pw:Pure prog 43 [T] (.bool true))
    (rT:Pure prog 18 [v] (.bool bT)) (pF:Pure prog 19 [fv n d] (.bool bF)) (pL:Pure prog 20 [iv m] (.bool bL)) (re:Pure prog 21 [w] (.bool bE)) (pN:Pure prog 22 [iv u] (.bool bN))
    (rR:Pure prog 32 [rv a c p s N] (.bool bR)) (rG:Pure prog 45 [T] (.bool bG)) (r1:Pure prog 46 [iv q] (.bool b1)) (r2:Pure prog 46 [iv (IntKind.i64.wrap (q + 1))] (.bool b2)) (rM:Pure prog 22 [iv t] (.bool bM))
    (hm:bL = true → 0 ≤ m ∧ m ≤ 10800) (hfe:bE = true → feOk f) (hT0:bT = true → v ≠ .nils) (hG0:bG = true → T ≠ .nils)
    (hS1:bT = true → bF = true → bL = true → bE = true → bN = true → 0 ≤ e → m + e ≤ 10800 → ∀ (w2:AV) (g:List Int),IL w2 g → feOk g → f.Sublist g → ∃ B1 B2 e1 e2,Pure prog 17 [v,fv n d,iv m,w,iv u] (.tup [sv B1,iv e1]) ∧ Pure prog 17 [v,fv n d,iv (m + e),w2,iv u] (.tup [sv B2,iv e2]) ∧ StEnd B1 B2 e1 e2)
    (hS2:bR = true → bG = true → b1 = true → b2 = true → bM = true → ∃ v1 v2 n1 n2 e1 e2,Pure prog 44 [rv a c p s N,T,iv q,iv t] (.tup [v1,iv n1,iv e1]) ∧ Pure prog 44 [rv a c p s N,T,iv (IntKind.i64.wrap (q + 1)),iv t] (.tup [v2,iv n2,iv e2]) ∧ ShEnd v1 v2 n1 n2 e1 e2) :
    Pure prog 13 [v,fv n d,iv m,w,iv u,iv z,iv e,rv a c p s N,T,iv q,iv t] (.bool true) :=by
  obtain ⟨xs,rfl,lx⟩ :=sV
  subst hw
  rcases sN with ⟨rfl,rfl⟩ | ⟨ys,rfl,ly⟩ <;> rcases sT with ⟨rfl,rfl⟩ | ⟨zs,rfl,lz⟩
  all_goals
    have li :=ivs_no f
    refine pure_symX hE rfl zL zL fun S q pc hS hq hC hE => ?_
    conv=>whnf
    refine sym_seq hS (sym_code hE hS ?_)
    conv=>whnf
    refine sym_seq hS (sym_code hE hS ?_)
    conv=>whnf
    repeat ((first
      | refine sym_pure hC (slim_yes (by omega)) ?_
      | refine sym_pure hC (pB) ?_
      | refine sym_pure hC (pw) ?_
      | refine zd hS ?_
      | refine sym_eq hq true (eqBool_same _ _) ?_
      | rw [beq_self_eq_true]
      | rw [bne_self_eq_false]);conv=>whnf)
    refine sym_seqG hS (A :=Unit) [8,9,10,18] (fun _ => []) (fun _ => []) (fun _ => []) (fun _ => True) (Nat.le_of_ble_eq_true rfl) ?_ ?_
    · refine sym_seqG hS (A :=Bool) [0,2,3,4,5,6,8,9,10,12,18] (fun c => [(84,.bool c)]) (fun _ => []) (fun _ => []) (fun c => c = true → bT = true ∧ bF = true ∧ bL = true ∧ bE = true ∧ bN = true ∧ 0 ≤ e ∧ m + e ≤ 10800) (Nat.le_of_ble_eq_true rfl) (sym_code hE hS ?_) ?_
      · conv=>whnf
        cases bT
        · repeat ((first
            | refine sym_pure hC (rT) ?_
            | refine sym_pure hC (pF) ?_
            | refine sym_pure hC (pL) ?_
            | refine sym_pure hC (re) ?_
            | refine sym_pure hC (pN) ?_
            | refine zd hS ?_);conv=>whnf)
          exact ⟨false,(fun h => nomatch h),zG2⟩
        cases bF
        · repeat ((first
            | refine sym_pure hC (rT) ?_
            | refine sym_pure hC (pF) ?_
            | refine sym_pure hC (pL) ?_
            | refine sym_pure hC (re) ?_
            | refine sym_pure hC (pN) ?_
            | refine zd hS ?_);conv=>whnf)
          exact ⟨false,(fun h => nomatch h),zG2⟩
        cases bL
        · repeat ((first
            | refine sym_pure hC (rT) ?_
            | refine sym_pure hC (pF) ?_
            | refine sym_pure hC (pL) ?_
            | refine sym_pure hC (re) ?_
            | refine sym_pure hC (pN) ?_
            | refine zd hS ?_);conv=>whnf)
          exact ⟨false,(fun h => nomatch h),zG2⟩
        cases bE
        · repeat ((first
            | refine sym_pure hC (rT) ?_
            | refine sym_pure hC (pF) ?_
            | refine sym_pure hC (pL) ?_
            | refine sym_pure hC (re) ?_
            | refine sym_pure hC (pN) ?_
            | refine zd hS ?_);conv=>whnf)
          exact ⟨false,(fun h => nomatch h),zG2⟩
        cases bN
        · repeat ((first
            | refine sym_pure hC (rT) ?_
            | refine sym_pure hC (pF) ?_
            | refine sym_pure hC (pL) ?_
            | refine sym_pure hC (re) ?_
            | refine sym_pure hC (pN) ?_
            | refine zd hS ?_);conv=>whnf)
          exact ⟨false,(fun h => nomatch h),zG2⟩
        have hm :=hm rfl
        by_cases h0:0 ≤ e
        · have c1:decide (e ≥ 0) = true :=zT h0
          have hw:IntKind.i64.wrap (10800 - m) = 10800 - m :=wrapI (by omega) (by omega)
          by_cases h1:e ≤ 10800 - m
          · have c2:decide (e ≤ IntKind.i64.wrap (10800 - m)) = true :=zT (by omega)
            repeat ((first
              | refine ko_rT c1 ?_
              | refine ko_sF c1 ?_
              | refine plan_as (pick_t c1) ?_
              | refine bool_true c1 ?_
              | refine ko_rT c2 ?_
              | refine ko_sF c2 ?_
              | refine plan_as (pick_t c2) ?_
              | refine bool_true c2 ?_
              | refine sym_pure hC (rT) ?_
              | refine sym_pure hC (pF) ?_
              | refine sym_pure hC (pL) ?_
              | refine sym_pure hC (re) ?_
              | refine sym_pure hC (pN) ?_
              | refine zd hS ?_);conv=>whnf)
            exact ⟨true,(fun _ => ⟨rfl,rfl,rfl,rfl,rfl,h0,by omega⟩),(by refine ⟨rfl,rfl,rfl,rfl,rfl,rfl,2,rfl,?_,?_⟩ <;> repeat' (first | exact ⟨_,rfl,wvb c2⟩ | exact zZ | apply And.intro))⟩
          · have c2:decide (e ≤ IntKind.i64.wrap (10800 - m)) = false :=zF (by omega)
            repeat ((first
              | refine ko_rT c1 ?_
              | refine ko_sF c1 ?_
              | refine plan_as (pick_t c1) ?_
              | refine bool_true c1 ?_
              | refine ko_sT c2 ?_
              | refine ko_rF c2 ?_
              | refine plan_as (pick_f c2) ?_
              | refine bool_false c2 ?_
              | refine sym_pure hC (rT) ?_
              | refine sym_pure hC (pF) ?_
              | refine sym_pure hC (pL) ?_
              | refine sym_pure hC (re) ?_
              | refine sym_pure hC (pN) ?_
              | refine zd hS ?_);conv=>whnf)
            exact ⟨false,(fun h => nomatch h),(by refine ⟨rfl,rfl,rfl,rfl,rfl,rfl,2,rfl,?_,?_⟩ <;> repeat' (first | exact ⟨_,rfl,wvb c2⟩ | exact zZ | apply And.intro))⟩
        · have c1:decide (e ≥ 0) = false :=zF h0
          repeat ((first
            | refine ko_sT c1 ?_
            | refine ko_rF c1 ?_
            | refine plan_as (pick_f c1) ?_
            | refine bool_false c1 ?_
            | refine sym_pure hC (rT) ?_
            | refine sym_pure hC (pF) ?_
            | refine sym_pure hC (pL) ?_
            | refine sym_pure hC (re) ?_
            | refine sym_pure hC (pN) ?_
            | refine zd hS ?_);conv=>whnf)
          exact ⟨false,(fun h => nomatch h),(by refine ⟨rfl,rfl,rfl,rfl,rfl,rfl,2,rfl,?_,?_⟩ <;> repeat' (first | exact ⟨_,rfl,wvb c1⟩ | exact zZ | apply And.intro))⟩
      rintro c hc M rfl
      refine sym_cond hS ?_
      cases c
      · conv=>whnf
        refine sym_code hE hS ?_
        conv=>whnf
        exact ⟨(),trivial,zG2⟩
      · conv=>whnf
        obtain ⟨rfl,rfl,rfl,rfl,rfl,h0,h1⟩ :=hc rfl
        have of :=hfe rfl
        have f8:f.length ≤ 8 :=of.2
        have hm :=hm rfl
        have hS1 :=hS1 rfl rfl rfl rfl rfl h0 h1
        refine sym_seq hS (sym_code hE hS ?_)
        conv=>whnf
        refine sym_seqG hS (A :=Nat) [0,2,3,4,5,6,8,9,10,12,18] (fun j => match j with | 0 => [(23,.nils)] | j + 1 => [(23,.lst (ivs (f.take (j + 1))) (f.take (j + 1)).length (.ch 2))]) (fun _ => []) (fun j => match j with | 0 => [] | j + 1 => [.chain (f.take (j + 1)).length 1 3]) (fun j => j ≤ f.length) (Nat.le_of_ble_eq_true rfl) (sym_code hE hS ?_) ?_
        · conv=>whnf
          refine sym_loopG hE hS (A :=Nat × AV × List AObj) [0,2,3,4,5,6,8,9,10,12,18] (fun (j,v,_) => [(23,v),(24,nv j)]) (fun _ => []) (fun a => a.2.2) (fun (j,v,ux) => j ≤ f.length ∧ (j = 0 ∧ v = .nils ∧ ux = [] ∨ 0 < j ∧ v = .lst (ivs (f.take j)) (f.take j).length (.ch 2) ∧ ux = [.chain (f.take j).length 1 3])) (fun (j,_,_) => f.length - j) (0,.nils,[]) (Nat.le_of_ble_eq_true rfl) rfl zG2 ⟨Nat.zero_le _,.inl ⟨rfl,rfl,rfl⟩⟩ ?_
          rintro ⟨j,v,ux⟩ ⟨hj,⟨e1,rfl,rfl⟩ | ⟨hne,rfl,rfl⟩⟩ M hM
          · obtain rfl:M = 2 :=hM
            have hj1:IntKind.i64.wrap (Int.ofNat j + 1) = Int.ofNat (j + 1) :=wrapN (m :=j + 1) (by omega)
            conv=>whnf
            refine Or.elim (Classical.em (j < f.length)) (fun h => ?_) (fun h => ?_)
            refine Or.elim (Classical.em (gi f j < z)) (fun hz => ?_) (fun hz => ?_)
            · have c3:decide (Int.ofNat j < (f.length:Int)) = true :=ltN_t h
              have c4:decide (gi f j < z) = true :=zT hz
              have ht:f.take (j + 1) = [gi f j] :=by rw [e1] at h ⊢;cases f with
                | nil => exact absurd h (by decide)
                | cons w r => rfl
              repeat ((first
                | refine ko_rT c3 ?_
                | refine ko_sF c3 ?_
                | refine plan_as (pick_t c3) ?_
                | refine bool_true c3 ?_
                | refine ko_rT (inR_t h) ?_
                | refine ko_sF (inR_t h) ?_
                | refine plan_as (pick_t (inR_t h)) ?_
                | refine bool_true (inR_t h) ?_
                | refine zd hS ?_);conv=>whnf)
              refine plan_as (nthP (nth_ivs1 h)) ?_
              conv=>whnf
              repeat ((first
                | refine ko_rT c3 ?_
                | refine ko_sF c3 ?_
                | refine plan_as (pick_t c3) ?_
                | refine bool_true c3 ?_
                | refine ko_rT c4 ?_
                | refine ko_sF c4 ?_
                | refine plan_as (pick_t c4) ?_
                | refine bool_true c4 ?_
                | refine ko_rT (inR_t h) ?_
                | refine ko_sF (inR_t h) ?_
                | refine plan_as (pick_t (inR_t h)) ?_
                | refine bool_true (inR_t h) ?_
                | refine zd hS ?_);conv=>whnf)
              refine plan_as (nthP (nth_ivs1 h)) ?_
              conv=>whnf
              repeat ((first
                | refine ko_rT c3 ?_
                | refine ko_sF c3 ?_
                | refine plan_as (pick_t c3) ?_
                | refine bool_true c3 ?_
                | refine ko_rT c4 ?_
                | refine ko_sF c4 ?_
                | refine plan_as (pick_t c4) ?_
                | refine bool_true c4 ?_
                | refine ko_rT (inR_t h) ?_
                | refine ko_sF (inR_t h) ?_
                | refine plan_as (pick_t (inR_t h)) ?_
                | refine bool_true (inR_t h) ?_
                | refine zd hS ?_);conv=>whnf)
              exact ⟨(j + 1,.lst (ivs (f.take (j + 1))) (f.take (j + 1)).length (.ch 2),[.chain (f.take (j + 1)).length 1 3]),⟨h,.inr ⟨Nat.succ_pos _,rfl,rfl⟩⟩,by show f.length - (j + 1) < f.length - j;omega,Nat.zero_le _,by rw [ht];exact zG3⟩
            · have c3:decide (Int.ofNat j < (f.length:Int)) = true :=ltN_t h
              have c4:decide (gi f j < z) = false :=zF hz
              repeat ((first
                | refine ko_rT c3 ?_
                | refine ko_sF c3 ?_
                | refine plan_as (pick_t c3) ?_
                | refine bool_true c3 ?_
                | refine ko_rT (inR_t h) ?_
                | refine ko_sF (inR_t h) ?_
                | refine plan_as (pick_t (inR_t h)) ?_
                | refine bool_true (inR_t h) ?_
                | refine zd hS ?_);conv=>whnf)
              refine plan_as (nthP (nth_ivs1 h)) ?_
              conv=>whnf
              repeat ((first
                | refine ko_rT c3 ?_
                | refine ko_sF c3 ?_
                | refine plan_as (pick_t c3) ?_
                | refine bool_true c3 ?_
                | refine ko_sT c4 ?_
                | refine ko_rF c4 ?_
                | refine plan_as (pick_f c4) ?_
                | refine bool_false c4 ?_
                | refine zd hS ?_);conv=>whnf)
              refine .inl ?_
              conv=>whnf
              exact ⟨0,Nat.zero_le _,zG2⟩
            · have c3:decide (Int.ofNat j < (f.length:Int)) = false :=ltN_f h
              repeat ((first
                | refine ko_sT c3 ?_
                | refine ko_rF c3 ?_
                | refine plan_as (pick_f c3) ?_
                | refine bool_false c3 ?_
                | refine zd hS ?_);conv=>whnf)
              refine .inl ?_
              conv=>whnf
              exact ⟨0,Nat.zero_le _,zG2⟩
          · obtain rfl:M = 3 :=hM
            obtain ⟨i0,rfl⟩ : ∃ i0,j = i0 + 1 :=⟨j - 1,by omega⟩
            have hj1:IntKind.i64.wrap (Int.ofNat (i0 + 1) + 1) = Int.ofNat (i0 + 1 + 1) :=wrapN (m :=i0 + 1 + 1) (by omega)
            conv=>whnf
            refine Or.elim (Classical.em (i0 + 1 < f.length)) (fun h => ?_) (fun h => ?_)
            refine Or.elim (Classical.em (gi f (i0 + 1) < z)) (fun hz => ?_) (fun hz => ?_)
            · have c3:decide (Int.ofNat (i0 + 1) < (f.length:Int)) = true :=ltN_t h
              have c4:decide (gi f (i0 + 1) < z) = true :=zT hz
              repeat ((first
                | refine ko_rT c3 ?_
                | refine ko_sF c3 ?_
                | refine plan_as (pick_t c3) ?_
                | refine bool_true c3 ?_
                | refine ko_rT (inR_t h) ?_
                | refine ko_sF (inR_t h) ?_
                | refine plan_as (pick_t (inR_t h)) ?_
                | refine bool_true (inR_t h) ?_
                | refine zd hS ?_);conv=>whnf)
              refine plan_as (nthP (nth_ivs1 h)) ?_
              conv=>whnf
              repeat ((first
                | refine ko_rT c3 ?_
                | refine ko_sF c3 ?_
                | refine plan_as (pick_t c3) ?_
                | refine bool_true c3 ?_
                | refine ko_rT c4 ?_
                | refine ko_sF c4 ?_
                | refine plan_as (pick_t c4) ?_
                | refine bool_true c4 ?_
                | refine ko_rT (inR_t h) ?_
                | refine ko_sF (inR_t h) ?_
                | refine plan_as (pick_t (inR_t h)) ?_
                | refine bool_true (inR_t h) ?_
                | refine zd hS ?_);conv=>whnf)
              refine plan_as (nthP (nth_ivs1 h)) ?_
              conv=>whnf
              repeat ((first
                | refine ko_rT c3 ?_
                | refine ko_sF c3 ?_
                | refine plan_as (pick_t c3) ?_
                | refine bool_true c3 ?_
                | refine ko_rT c4 ?_
                | refine ko_sF c4 ?_
                | refine plan_as (pick_t c4) ?_
                | refine bool_true c4 ?_
                | refine ko_rT (inR_t h) ?_
                | refine ko_sF (inR_t h) ?_
                | refine plan_as (pick_t (inR_t h)) ?_
                | refine bool_true (inR_t h) ?_
                | refine zd hS ?_);conv=>whnf)
              have fl:(f.take (i0 + 1)).length ≤ 8 :=by rw [List.length_take];omega
              refine bool_true (zT (show ((f.take (i0 + 1)).length + (0 + 1)) * 8 ≤ 140737488355328 by omega)) ?_
              conv=>whnf
              refine bool_true (zT (show (f.take (i0 + 1)).length + (0 + 1) ≤ 9223372036854775807 by omega)) ?_
              conv=>whnf
              refine bool_true (lenIs_ivs (f.take (i0 + 1))) ?_
              conv=>whnf
              refine bool_true (zT rfl) ?_
              conv=>whnf
              have e2:f.take (i0 + 1 + 1) = f.take (i0 + 1) ++ [gi f (i0 + 1)] :=take_gi f h
              exact ⟨(i0 + 1 + 1,.lst (ivs (f.take (i0 + 1 + 1))) (f.take (i0 + 1 + 1)).length (.ch 2),[.chain (f.take (i0 + 1 + 1)).length 1 3]),⟨h,.inr ⟨Nat.succ_pos _,rfl,rfl⟩⟩,by show f.length - (i0 + 1 + 1) < f.length - (i0 + 1);omega,Nat.le_refl _,by show AtG _ _ _ _ _ _ _ [(23,.lst (ivs (f.take (i0 + 1 + 1))) (f.take (i0 + 1 + 1)).length (.ch 2)),(24,nv (i0 + 1 + 1))] _ [.chain (f.take (i0 + 1 + 1)).length 1 3] _;rw [e2];exact (by refine ⟨rfl,rfl,rfl,rfl,rfl,rfl,3,rfl,?_,?_⟩ <;> repeat' (first | exact ⟨_,rfl,WkV.eq (app_I _ _ _)⟩ | exact app_J _ _ | exact zZ | apply And.intro))⟩
            · have c3:decide (Int.ofNat (i0 + 1) < (f.length:Int)) = true :=ltN_t h
              have c4:decide (gi f (i0 + 1) < z) = false :=zF hz
              repeat ((first
                | refine ko_rT c3 ?_
                | refine ko_sF c3 ?_
                | refine plan_as (pick_t c3) ?_
                | refine bool_true c3 ?_
                | refine ko_rT (inR_t h) ?_
                | refine ko_sF (inR_t h) ?_
                | refine plan_as (pick_t (inR_t h)) ?_
                | refine bool_true (inR_t h) ?_
                | refine zd hS ?_);conv=>whnf)
              refine plan_as (nthP (nth_ivs1 h)) ?_
              conv=>whnf
              repeat ((first
                | refine ko_rT c3 ?_
                | refine ko_sF c3 ?_
                | refine plan_as (pick_t c3) ?_
                | refine bool_true c3 ?_
                | refine ko_sT c4 ?_
                | refine ko_rF c4 ?_
                | refine plan_as (pick_f c4) ?_
                | refine bool_false c4 ?_
                | refine zd hS ?_);conv=>whnf)
              refine .inl ?_
              conv=>whnf
              exact ⟨i0 + 1,by omega,zG3⟩
            · have c3:decide (Int.ofNat (i0 + 1) < (f.length:Int)) = false :=ltN_f h
              repeat ((first
                | refine ko_sT c3 ?_
                | refine ko_rF c3 ?_
                | refine plan_as (pick_f c3) ?_
                | refine bool_false c3 ?_
                | refine zd hS ?_);conv=>whnf)
              refine .inl ?_
              conv=>whnf
              exact ⟨i0 + 1,by omega,zG3⟩
        · rintro (_ | j) hj M hM
          · obtain rfl:M = 2 :=hM
            obtain ⟨G,hG⟩ : ∃ G,f.drop 0 = G :=⟨_,rfl⟩
            have tk :=tak_dr f 0
            have fG:f.length - 0 = G.length :=by rw [← hG,List.length_drop]
            rw [hG] at tk
            have G8:G.length ≤ 8 :=by rw [← fG];omega
            have pf:f.Sublist (z :: G) :=by rw [← hG];exact put_sub f 0 z
            conv=>whnf
            refine sym_seqG hS (A :=List Int) [0,2,3,4,6,8,9,10,12,18] (fun g => [(23,nl g)]) (fun _ => []) (fun _ => []) (fun g => f.Sublist g ∧ g.length ≤ 9) (Nat.le_of_ble_eq_true rfl) (sym_code hE hS ?_) ?_
            · rcases G with _ | ⟨y,G⟩
              · conv=>whnf
                refine plan_as (slice_fr (e :=3) (inf :=t3) (l :=0) (ys :=ivs _) (by kernel_rfl) (by kernel_rfl) rfl (Nat.zero_le _) fG tk) ?_
                conv=>whnf
                refine zd hS ?_
                conv=>whnf
                exact ⟨[z],⟨pf,by show 1 ≤ 9;omega⟩,(by refine ⟨rfl,rfl,rfl,rfl,rfl,rfl,2,rfl,?_,?_⟩ <;> repeat' (first | exact ⟨_,rfl,wown rfl rfl⟩ | exact zZ | apply And.intro))⟩
              · have G8:G.length + 1 ≤ 8 :=G8
                conv=>whnf
                refine plan_as (slice_fr (e :=3) (inf :=t3) (l :=0) (ys :=ivs _) (by kernel_rfl) (by kernel_rfl) rfl (Nat.zero_le _) fG tk) ?_
                conv=>whnf
                refine plan_as (pSrc_eq (e :=3) (ys :=ivs (y :: G)) (by kernel_rfl) rfl (takeN_ivs _)) ?_
                conv=>whnf
                refine bool_true (allCells_ivs (y :: G)) ?_
                conv=>whnf
                refine bool_true (zT (show (0 + 1 + (G.length + 1)) * 8 ≤ 140737488355328 by omega)) ?_
                conv=>whnf
                refine bool_true (zT (show 0 + 1 + (G.length + 1) ≤ 9223372036854775807 by omega)) ?_
                conv=>whnf
                refine zd hS ?_
                conv=>whnf
                exact ⟨z :: y :: G,⟨pf,by show G.length + 1 + 1 ≤ 9;omega⟩,(by refine ⟨rfl,rfl,rfl,rfl,rfl,rfl,2,rfl,?_,?_⟩ <;> repeat' (first | exact ⟨_,rfl,wown rfl (show 0 + 1 + (G.length + 1) = G.length + 1 + 1 by omega)⟩ | exact zZ | apply And.intro))⟩
            · rintro g ⟨hg,g9⟩ M hM
              obtain rfl:M = 2 :=hM
              conv=>whnf
              refine sym_seqG hS (A :=List Int) [0,2,3,4,6,8,9,10,12,18] (fun g => [(23,nl g)]) (fun _ => []) (fun _ => []) (fun g => f.Sublist g ∧ feOk g) (Nat.le_of_ble_eq_true rfl) (sym_code hE hS ?_) ?_
              · have g9:g.length ≤ 9 :=g9
                have lg :=ivs_no g
                conv=>whnf
                obtain ⟨bA,_,rA,iA⟩ :=feasts_b (v :=nl g) (.inr rfl) (by omega)
                cases bA
                · refine sym_pure hC (rA) ?_
                  conv=>whnf
                  exact ⟨f,⟨List.Sublist.refl _,of⟩,zG2⟩
                · refine sym_pure hC (rA) ?_
                  conv=>whnf
                  exact ⟨g,⟨hg,iA.1 rfl⟩,zG2⟩
              · rintro g ⟨hg,og⟩ M hM
                obtain rfl:M = 2 :=hM
                refine sym_code hE hS ?_
                conv=>whnf
                obtain ⟨B1,B2,e1,e2,p1,p2,h8,h9,hX⟩ :=hS1 (nl g) g (.inr rfl) og hg
                rw [← show IntKind.i64.wrap (m + e) = m + e from wrapI (by omega) (by omega)] at p2
                rcases hX with ⟨rfl,h5⟩ | ⟨rfl,rfl,hl⟩
                · have p1 :=p1.wkR (wk_fst _ _) ⟨trivial,trivial,trivial⟩
                  have p2 :=p2.wkR (wk_fst _ _) ⟨trivial,trivial,trivial⟩
                  rcases h5 with rfl | rfl
                  all_goals
                    repeat ((first
                      | refine sym_pure hC (p1) ?_
                      | refine sym_pure hC (p2) ?_
                      | refine zd hS ?_
                      | refine sym_eq hq true (eqBool_same _ _) ?_
                      | rw [beq_self_eq_true]
                      | rw [bne_self_eq_false]);conv=>whnf)
                    exact ⟨(),trivial,zG2⟩
                · have lb :=sv_no B1
                  have lc :=sv_no B2
                  rcases sv_cases B1 with ⟨k1,k2⟩ | k2 <;> rcases sv_cases B2 with ⟨k3,k4⟩ | k4 <;> rw [k2] at p1 lb <;> rw [k4] at p2 lc
                  all_goals
                    repeat ((first
                      | refine sym_pure hC (p1) ?_
                      | refine sym_pure hC (p2) ?_
                      | refine zd hS ?_
                      | refine sym_eq hq true (eqBool_same _ _) ?_
                      | rw [beq_self_eq_true]
                      | rw [bne_self_eq_false]);conv=>whnf)
                    first
                      | exact ⟨(),trivial,zG2⟩
                      | (refine bool_false (zF (by first | omega | (subst k1; simp only [List.length_nil] at hl; omega))) ?_
                         conv=>whnf
                         exact ⟨(),trivial,zG2⟩)
          · obtain rfl:M = 3 :=hM
            obtain ⟨G,hG⟩ : ∃ G,f.drop (j + 1) = G :=⟨_,rfl⟩
            have tk :=tak_dr f (j + 1)
            have fG:f.length - (j + 1) = G.length :=by rw [← hG,List.length_drop]
            rw [hG] at tk
            have G8:G.length ≤ 8 :=by rw [← fG];omega
            have pf:f.Sublist (f.take (j + 1) ++ [z] ++ G) :=by rw [← hG];exact put_sub f (j + 1) z
            have fl:(f.take (j + 1)).length ≤ 8 :=by rw [List.length_take];omega
            have fl3:(f.take (j + 1)).length = j + 1 :=by rw [List.length_take];omega
            conv=>whnf
            refine sym_seqG hS (A :=List Int × Nat) [0,2,3,4,6,8,9,10,12,18] (fun g => [(23,nl g.1)]) (fun g => [(2,.chain g.2 1 3)]) (fun _ => []) (fun g => f.Sublist g.1 ∧ g.1.length ≤ 9) (Nat.le_of_ble_eq_true rfl) (sym_code hE hS ?_) ?_
            · rcases G with _ | ⟨y,G⟩
              · conv=>whnf
                refine bool_true (zT (show ((f.take (j + 1)).length + (0 + 1)) * 8 ≤ 140737488355328 by omega)) ?_
                conv=>whnf
                refine bool_true (zT (show (f.take (j + 1)).length + (0 + 1) ≤ 9223372036854775807 by omega)) ?_
                conv=>whnf
                refine bool_true (lenIs_ivs (f.take (j + 1))) ?_
                conv=>whnf
                refine bool_true (zT rfl) ?_
                conv=>whnf
                refine plan_as (slice_fr (e :=3) (inf :=t3) (l :=j + 1) (ys :=ivs _) (by kernel_rfl) (by kernel_rfl) (by rw [fl3];rfl) hj fG tk) ?_
                conv=>whnf
                refine bool_true (zT (show (j + 1) * 1 ≤ (ivs f).length by rw [ivs_len];omega)) ?_
                conv=>whnf
                refine zd hS ?_
                conv=>whnf
                rw [List.append_nil] at pf
                exact ⟨(f.take (j + 1) ++ [z],(f.take (j + 1)).length + (0 + 1)),⟨pf,by rw [List.length_append];show _ + 1 ≤ 9;omega⟩,(by refine ⟨rfl,rfl,rfl,rfl,rfl,rfl,3,rfl,?_,?_⟩ <;> repeat' (first | exact ⟨_,rfl,wown (ivs_app _ _).symm (by rw [List.length_append];rfl)⟩ | exact zZ | apply And.intro))⟩
              · have G8:G.length + 1 ≤ 8 :=G8
                have fG2:f.length - (j + 1) = G.length + 1 :=fG
                conv=>whnf
                refine bool_true (zT (show ((f.take (j + 1)).length + (0 + 1)) * 8 ≤ 140737488355328 by omega)) ?_
                conv=>whnf
                refine bool_true (zT (show (f.take (j + 1)).length + (0 + 1) ≤ 9223372036854775807 by omega)) ?_
                conv=>whnf
                refine bool_true (lenIs_ivs (f.take (j + 1))) ?_
                conv=>whnf
                refine bool_true (zT rfl) ?_
                conv=>whnf
                refine plan_as (slice_fr (e :=3) (inf :=t3) (l :=j + 1) (ys :=ivs _) (by kernel_rfl) (by kernel_rfl) (by rw [fl3];rfl) hj fG tk) ?_
                conv=>whnf
                refine bool_true (zT (show (j + 1) * 1 ≤ (ivs f).length by rw [ivs_len];omega)) ?_
                conv=>whnf
                refine plan_as (pSrc_eq (e :=3) (ys :=ivs (y :: G)) (by kernel_rfl) rfl (takeN_ivs _)) ?_
                conv=>whnf
                refine bool_true (allCells_ivs (y :: G)) ?_
                conv=>whnf
                refine bool_true (zT (show ((f.take (j + 1)).length + (0 + 1) + (G.length + 1)) * 8 ≤ 140737488355328 by omega)) ?_
                conv=>whnf
                refine bool_true (zT (show (f.take (j + 1)).length + (0 + 1) + (G.length + 1) ≤ 9223372036854775807 by omega)) ?_
                conv=>whnf
                refine bool_true (lenIs_ivz (f.take (j + 1)) z) ?_
                conv=>whnf
                refine bool_true (zT rfl) ?_
                conv=>whnf
                refine zd hS ?_
                conv=>whnf
                exact ⟨(f.take (j + 1) ++ [z] ++ (y :: G),(f.take (j + 1)).length + (0 + 1) + (G.length + 1)),⟨pf,by rw [List.length_append,List.length_append];show _ + 1 + (G.length + 1) ≤ 9;omega⟩,(by refine ⟨rfl,rfl,rfl,rfl,rfl,rfl,3,rfl,?_,?_⟩ <;> repeat' (first | exact ⟨_,rfl,wown (by rw [ivs_app2,ivs_app];rfl) (by rw [List.length_append,List.length_append];rfl)⟩ | exact zZ | apply And.intro))⟩
            · rintro ⟨g,kc⟩ ⟨hg,g9⟩ M hM
              obtain rfl:M = 3 :=hM
              conv=>whnf
              refine sym_seqG hS (A :=List Int) [0,2,3,4,6,8,9,10,12,18] (fun g => [(23,nl g)]) (fun _ => []) (fun _ => []) (fun g => f.Sublist g ∧ feOk g) (Nat.le_of_ble_eq_true rfl) (sym_code hE hS ?_) ?_
              · have g9:g.length ≤ 9 :=g9
                have lg :=ivs_no g
                conv=>whnf
                obtain ⟨bA,_,rA,iA⟩ :=feasts_b (v :=nl g) (.inr rfl) (by omega)
                cases bA
                · refine sym_pure hC (rA) ?_
                  conv=>whnf
                  exact ⟨f,⟨List.Sublist.refl _,of⟩,zG3⟩
                · refine sym_pure hC (rA) ?_
                  conv=>whnf
                  exact ⟨g,⟨hg,iA.1 rfl⟩,zG3⟩
              · rintro g ⟨hg,og⟩ M hM
                obtain rfl:M = 3 :=hM
                refine sym_code hE hS ?_
                conv=>whnf
                obtain ⟨B1,B2,e1,e2,p1,p2,h8,h9,hX⟩ :=hS1 (nl g) g (.inr rfl) og hg
                rw [← show IntKind.i64.wrap (m + e) = m + e from wrapI (by omega) (by omega)] at p2
                rcases hX with ⟨rfl,h5⟩ | ⟨rfl,rfl,hl⟩
                · have p1 :=p1.wkR (wk_fst _ _) ⟨trivial,trivial,trivial⟩
                  have p2 :=p2.wkR (wk_fst _ _) ⟨trivial,trivial,trivial⟩
                  rcases h5 with rfl | rfl
                  all_goals
                    repeat ((first
                      | refine sym_pure hC (p1) ?_
                      | refine sym_pure hC (p2) ?_
                      | refine zd hS ?_
                      | refine sym_eq hq true (eqBool_same _ _) ?_
                      | rw [beq_self_eq_true]
                      | rw [bne_self_eq_false]);conv=>whnf)
                    exact ⟨(),trivial,zG2⟩
                · have lb :=sv_no B1
                  have lc :=sv_no B2
                  rcases sv_cases B1 with ⟨k1,k2⟩ | k2 <;> rcases sv_cases B2 with ⟨k3,k4⟩ | k4 <;> rw [k2] at p1 lb <;> rw [k4] at p2 lc
                  all_goals
                    repeat ((first
                      | refine sym_pure hC (p1) ?_
                      | refine sym_pure hC (p2) ?_
                      | refine zd hS ?_
                      | refine sym_eq hq true (eqBool_same _ _) ?_
                      | rw [beq_self_eq_true]
                      | rw [bne_self_eq_false]);conv=>whnf)
                    first
                      | exact ⟨(),trivial,zG2⟩
                      | (refine bool_false (zF (by first | omega | (subst k1; simp only [List.length_nil] at hl; omega))) ?_
                         conv=>whnf
                         exact ⟨(),trivial,zG2⟩)
    · rintro ⟨⟩ _ M rfl
      conv=>whnf
      refine sym_seq hS (sym_code hE hS ?_)
      conv=>whnf
      cases bR
      · repeat ((first
          | refine sym_pure hC (rR) ?_
          | refine sym_pure hC (rG) ?_
          | refine sym_pure hC (r1) ?_
          | refine sym_pure hC (r2) ?_
          | refine sym_pure hC (rM) ?_
          | refine sym_pure hC (hk) ?_
          | refine zd hS ?_
          | refine sym_eq hq true (eqBool_same _ _) ?_
          | rw [beq_self_eq_true]
          | rw [bne_self_eq_false]);conv=>whnf)
        exact ⟨_,rfl,Wk.refl _⟩
      cases bG
      · repeat ((first
          | refine sym_pure hC (rR) ?_
          | refine sym_pure hC (rG) ?_
          | refine sym_pure hC (r1) ?_
          | refine sym_pure hC (r2) ?_
          | refine sym_pure hC (rM) ?_
          | refine sym_pure hC (hk) ?_
          | refine zd hS ?_
          | refine sym_eq hq true (eqBool_same _ _) ?_
          | rw [beq_self_eq_true]
          | rw [bne_self_eq_false]);conv=>whnf)
        exact ⟨_,rfl,Wk.refl _⟩
      try exact (hG0 rfl rfl).elim
      all_goals
        cases b1
        · repeat ((first
            | refine sym_pure hC (rR) ?_
            | refine sym_pure hC (rG) ?_
            | refine sym_pure hC (r1) ?_
            | refine sym_pure hC (r2) ?_
            | refine sym_pure hC (rM) ?_
            | refine sym_pure hC (hk) ?_
            | refine zd hS ?_
            | refine sym_eq hq true (eqBool_same _ _) ?_
            | rw [beq_self_eq_true]
            | rw [bne_self_eq_false]);conv=>whnf)
          exact ⟨_,rfl,Wk.refl _⟩
        cases b2
        · repeat ((first
            | refine sym_pure hC (rR) ?_
            | refine sym_pure hC (rG) ?_
            | refine sym_pure hC (r1) ?_
            | refine sym_pure hC (r2) ?_
            | refine sym_pure hC (rM) ?_
            | refine sym_pure hC (hk) ?_
            | refine zd hS ?_
            | refine sym_eq hq true (eqBool_same _ _) ?_
            | rw [beq_self_eq_true]
            | rw [bne_self_eq_false]);conv=>whnf)
          exact ⟨_,rfl,Wk.refl _⟩
        cases bM
        · repeat ((first
            | refine sym_pure hC (rR) ?_
            | refine sym_pure hC (rG) ?_
            | refine sym_pure hC (r1) ?_
            | refine sym_pure hC (r2) ?_
            | refine sym_pure hC (rM) ?_
            | refine sym_pure hC (hk) ?_
            | refine zd hS ?_
            | refine sym_eq hq true (eqBool_same _ _) ?_
            | rw [beq_self_eq_true]
            | rw [bne_self_eq_false]);conv=>whnf)
          exact ⟨_,rfl,Wk.refl _⟩
        obtain ⟨v1,v2,n1,n2,e1,e2,q1,q2,hv1,hv2,hX⟩ :=hS2 rfl rfl rfl rfl rfl
        have q1 :=q1.wkR (wk_fst _ _) ⟨trivial,trivial,trivial,trivial⟩
        have q2 :=q2.wkR (wk_fst _ _) ⟨trivial,trivial,trivial,trivial⟩
        rcases hX with ⟨rfl,rfl | rfl⟩ | ⟨rfl,rfl,hl⟩
        all_goals
          repeat ((first
            | refine sym_pure hC (rR) ?_
            | refine sym_pure hC (rG) ?_
            | refine sym_pure hC (r1) ?_
            | refine sym_pure hC (r2) ?_
            | refine sym_pure hC (rM) ?_
            | refine zd hS ?_
            | refine sym_eq hq true (eqBool_same _ _) ?_
            | rw [beq_self_eq_true]
            | rw [bne_self_eq_false]);conv=>whnf)
          refine sym_seq hS (sym_code hE hS ?_)
          conv=>whnf
          repeat ((first
            | refine sym_pure hC (q1) ?_
            | refine zd hS ?_
            | refine sym_eq hq true (eqBool_same _ _) ?_
            | rw [beq_self_eq_true]
            | rw [bne_self_eq_false]);conv=>whnf)
          refine sym_seq hS (sym_code hE hS ?_)
          conv=>whnf
          repeat ((first
            | refine sym_pure hC (q2) ?_
            | refine zd hS ?_
            | refine sym_eq hq true (eqBool_same _ _) ?_
            | rw [beq_self_eq_true]
            | rw [bne_self_eq_false]);conv=>whnf)
          refine sym_seq hS (sym_code hE hS ?_)
          conv=>whnf
          refine sym_code hE hS ?_
          conv=>whnf
          first
            | (refine sym_pure hC hk ?_
               conv=>whnf
               exact ⟨_,rfl,Wk.refl _⟩)
            | have cn:decide (n2 ≤ n1) = true :=zT (by assumption)
              repeat ((first
                | refine ko_rT cn ?_
                | refine ko_sF cn ?_
                | refine plan_as (pick_t cn) ?_
                | refine bool_true cn ?_
                | refine ko_sT cn ?_
                | refine ko_rF cn ?_
                | refine plan_as (pick_f cn) ?_
                | refine bool_false cn ?_
                | refine sym_pure hC (hk) ?_
                | refine zd hS ?_);conv=>whnf)
              exact ⟨_,rfl,Wk.refl _⟩
end
end Go.Abs.Seat
