/-
  The law TrainLess: the walk, no train.
-/
import Derived.Test.YtpjclnoehlflcaaGreatDoorL20
/-! The law TrainLess: the walk, no train. -/
namespace Go.Abs.Seat
noncomputable section
open Go Go.Abs Go.Proofs.Tryz
set_option maxRecDepth 100000
set_option maxHeartbeats 40000000
attribute [local irreducible] IntKind.wrap pEq pSlice
theorem less_run1 (hk : Pure prog 16 [] (.bool true)) {v w N T : AV} {k j i : Nat} (sV : v = .nils ∧ k = 0) (k8 : k ≤ 8) {f : List Int} (hf : IL w f)
    (sN:N = .nils ∧ j = 0 ∨ ∃ xs,N = .lst xs j .no ∧ Lives noL xs) (j8:j ≤ 8) (sT:T = .nils ∧ i = 0 ∨ ∃ xs,T = .lst xs i .no ∧ Lives noL xs)
    (n d m u z e a c p s q t:Int) {bT bF bL bE bN bR bG b1 b2 bM:Bool}
    (pB:Pure prog 15 [w,.nils] (.bool true)) (pw:Pure prog 43 [T] (.bool true))
    (rT:Pure prog 18 [v] (.bool bT)) (_pF:Pure prog 19 [fv n d] (.bool bF)) (_pL:Pure prog 20 [iv m] (.bool bL)) (re:Pure prog 21 [w] (.bool bE)) (_pN:Pure prog 22 [iv u] (.bool bN))
    (rR:Pure prog 32 [rv a c p s N] (.bool bR)) (rG:Pure prog 45 [T] (.bool bG)) (r1:Pure prog 46 [iv q] (.bool b1)) (r2:Pure prog 46 [iv (IntKind.i64.wrap (q + 1))] (.bool b2)) (rM:Pure prog 22 [iv t] (.bool bM))
    (_hm:bL = true → 0 ≤ m ∧ m ≤ 10800) (_hfe:bE = true → feOk f) (hT0:bT = true → v ≠ .nils) (hG0:bG = true → T ≠ .nils)
    (hS1:bT = true → bF = true → bL = true → bE = true → bN = true → 0 ≤ e → m + e ≤ 10800 → ∀ (w2:AV) (g:List Int),IL w2 g → feOk g → f.Sublist g → ∃ B1 B2 e1 e2,Pure prog 17 [v,fv n d,iv m,w,iv u] (.tup [sv B1,iv e1]) ∧ Pure prog 17 [v,fv n d,iv (m + e),w2,iv u] (.tup [sv B2,iv e2]) ∧ StEnd B1 B2 e1 e2)
    (hS2:bR = true → bG = true → b1 = true → b2 = true → bM = true → ∃ v1 v2 n1 n2 e1 e2,Pure prog 44 [rv a c p s N,T,iv q,iv t] (.tup [v1,iv n1,iv e1]) ∧ Pure prog 44 [rv a c p s N,T,iv (IntKind.i64.wrap (q + 1)),iv t] (.tup [v2,iv n2,iv e2]) ∧ ShEnd v1 v2 n1 n2 e1 e2) :
    Pure prog 13 [v,fv n d,iv m,w,iv u,iv z,iv e,rv a c p s N,T,iv q,iv t] (.bool true) :=by
  obtain ⟨rfl,rfl⟩ :=sV
  obtain rfl:bT = false :=Bool.eq_false_iff.2 fun h => hT0 h rfl
  clear hS1 _hfe
  rcases hf.cs with rfl | rfl <;> rcases sN with ⟨rfl,rfl⟩ | ⟨ys,rfl,ly⟩ <;> rcases sT with ⟨rfl,rfl⟩ | ⟨zs,rfl,lz⟩
  all_goals
    have li :=ivs_no f
    refine pure_symX hE rfl zL zL fun S q pc hS hq hC hE => ?_
    conv=>whnf
    refine sym_seq hS (sym_code hE hS ?_)
    conv=>whnf
    refine sym_seq hS (sym_code hE hS ?_)
    conv=>whnf
    repeat ((first
      | refine sym_pure hC (slim_yes (by omega)) ?_
      | refine sym_pure hC (pB) ?_
      | refine sym_pure hC (pw) ?_
      | refine zd hS ?_
      | refine sym_eq hq true (eqBool_same _ _) ?_
      | rw [beq_self_eq_true]
      | rw [bne_self_eq_false]);conv=>whnf)
    refine sym_seqG hS (A :=Unit) [8,9,10,18] (fun _ => []) (fun _ => []) (fun _ => []) (fun _ => True) (Nat.le_of_ble_eq_true rfl) ?_ ?_
    · refine sym_seqG hS (A :=Unit) [8,9,10,18] (fun _ => [(84,.bool false)]) (fun _ => []) (fun _ => []) (fun _ => True) (Nat.le_of_ble_eq_true rfl) (sym_code hE hS ?_) ?_
      · conv=>whnf
        repeat ((first
          | refine sym_pure hC (rT) ?_
          | refine zd hS ?_);conv=>whnf)
        exact ⟨(),trivial,zG2⟩
      · rintro ⟨⟩ _ M rfl
        refine sym_cond hS ?_
        conv=>whnf
        refine sym_code hE hS ?_
        conv=>whnf
        exact ⟨(),trivial,zG2⟩
    · rintro ⟨⟩ _ M rfl
      conv=>whnf
      refine sym_seq hS (sym_code hE hS ?_)
      conv=>whnf
      cases bR
      · repeat ((first
          | refine sym_pure hC (rR) ?_
          | refine sym_pure hC (rG) ?_
          | refine sym_pure hC (r1) ?_
          | refine sym_pure hC (r2) ?_
          | refine sym_pure hC (rM) ?_
          | refine sym_pure hC (hk) ?_
          | refine zd hS ?_
          | refine sym_eq hq true (eqBool_same _ _) ?_
          | rw [beq_self_eq_true]
          | rw [bne_self_eq_false]);conv=>whnf)
        exact ⟨_,rfl,Wk.refl _⟩
      cases bG
      · repeat ((first
          | refine sym_pure hC (rR) ?_
          | refine sym_pure hC (rG) ?_
          | refine sym_pure hC (r1) ?_
          | refine sym_pure hC (r2) ?_
          | refine sym_pure hC (rM) ?_
          | refine sym_pure hC (hk) ?_
          | refine zd hS ?_
          | refine sym_eq hq true (eqBool_same _ _) ?_
          | rw [beq_self_eq_true]
          | rw [bne_self_eq_false]);conv=>whnf)
        exact ⟨_,rfl,Wk.refl _⟩
      try exact (hG0 rfl rfl).elim
      all_goals
        cases b1
        · repeat ((first
            | refine sym_pure hC (rR) ?_
            | refine sym_pure hC (rG) ?_
            | refine sym_pure hC (r1) ?_
            | refine sym_pure hC (r2) ?_
            | refine sym_pure hC (rM) ?_
            | refine sym_pure hC (hk) ?_
            | refine zd hS ?_
            | refine sym_eq hq true (eqBool_same _ _) ?_
            | rw [beq_self_eq_true]
            | rw [bne_self_eq_false]);conv=>whnf)
          exact ⟨_,rfl,Wk.refl _⟩
        cases b2
        · repeat ((first
            | refine sym_pure hC (rR) ?_
            | refine sym_pure hC (rG) ?_
            | refine sym_pure hC (r1) ?_
            | refine sym_pure hC (r2) ?_
            | refine sym_pure hC (rM) ?_
            | refine sym_pure hC (hk) ?_
            | refine zd hS ?_
            | refine sym_eq hq true (eqBool_same _ _) ?_
            | rw [beq_self_eq_true]
            | rw [bne_self_eq_false]);conv=>whnf)
          exact ⟨_,rfl,Wk.refl _⟩
        cases bM
        · repeat ((first
            | refine sym_pure hC (rR) ?_
            | refine sym_pure hC (rG) ?_
            | refine sym_pure hC (r1) ?_
            | refine sym_pure hC (r2) ?_
            | refine sym_pure hC (rM) ?_
            | refine sym_pure hC (hk) ?_
            | refine zd hS ?_
            | refine sym_eq hq true (eqBool_same _ _) ?_
            | rw [beq_self_eq_true]
            | rw [bne_self_eq_false]);conv=>whnf)
          exact ⟨_,rfl,Wk.refl _⟩
        obtain ⟨v1,v2,n1,n2,e1,e2,q1,q2,hv1,hv2,hX⟩ :=hS2 rfl rfl rfl rfl rfl
        have q1 :=q1.wkR (wk_fst _ _) ⟨trivial,trivial,trivial,trivial⟩
        have q2 :=q2.wkR (wk_fst _ _) ⟨trivial,trivial,trivial,trivial⟩
        rcases hX with ⟨rfl,rfl | rfl⟩ | ⟨rfl,rfl,hl⟩
        all_goals
          repeat ((first
            | refine sym_pure hC (rR) ?_
            | refine sym_pure hC (rG) ?_
            | refine sym_pure hC (r1) ?_
            | refine sym_pure hC (r2) ?_
            | refine sym_pure hC (rM) ?_
            | refine zd hS ?_
            | refine sym_eq hq true (eqBool_same _ _) ?_
            | rw [beq_self_eq_true]
            | rw [bne_self_eq_false]);conv=>whnf)
          refine sym_seq hS (sym_code hE hS ?_)
          conv=>whnf
          repeat ((first
            | refine sym_pure hC (q1) ?_
            | refine zd hS ?_
            | refine sym_eq hq true (eqBool_same _ _) ?_
            | rw [beq_self_eq_true]
            | rw [bne_self_eq_false]);conv=>whnf)
          refine sym_seq hS (sym_code hE hS ?_)
          conv=>whnf
          repeat ((first
            | refine sym_pure hC (q2) ?_
            | refine zd hS ?_
            | refine sym_eq hq true (eqBool_same _ _) ?_
            | rw [beq_self_eq_true]
            | rw [bne_self_eq_false]);conv=>whnf)
          refine sym_seq hS (sym_code hE hS ?_)
          conv=>whnf
          refine sym_code hE hS ?_
          conv=>whnf
          first
            | (refine sym_pure hC hk ?_
               conv=>whnf
               exact ⟨_,rfl,Wk.refl _⟩)
            | have cn:decide (n2 ≤ n1) = true :=zT (by assumption)
              repeat ((first
                | refine ko_rT cn ?_
                | refine ko_sF cn ?_
                | refine plan_as (pick_t cn) ?_
                | refine bool_true cn ?_
                | refine ko_sT cn ?_
                | refine ko_rF cn ?_
                | refine plan_as (pick_f cn) ?_
                | refine bool_false cn ?_
                | refine sym_pure hC (hk) ?_
                | refine zd hS ?_);conv=>whnf)
              exact ⟨_,rfl,Wk.refl _⟩
end
end Go.Abs.Seat
