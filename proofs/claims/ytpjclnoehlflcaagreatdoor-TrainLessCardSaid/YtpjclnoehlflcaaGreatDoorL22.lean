/-
  The law TrainLess: the walk, no feasts.
-/
import Derived.Test.YtpjclnoehlflcaaGreatDoorL20
/-! The law TrainLess: the walk, no feasts. -/
namespace Go.Abs.Seat
noncomputable section
open Go Go.Abs Go.Proofs.Tryz
set_option maxRecDepth 100000
set_option maxHeartbeats 40000000
attribute [local irreducible] IntKind.wrap pEq pSlice
theorem less_run2 (hk : Pure prog 16 [] (.bool true)) {v w N T : AV} {k j i : Nat} (sV : ∃ xs, v = .lst xs k .no ∧ Lives noL xs) (k8 : k ≤ 8) {f : List Int} (hw : w = .nils) (hf : f = [])
    (sN:N = .nils ∧ j = 0 ∨ ∃ xs,N = .lst xs j .no ∧ Lives noL xs) (j8:j ≤ 8) (sT:T = .nils ∧ i = 0 ∨ ∃ xs,T = .lst xs i .no ∧ Lives noL xs)
    (n d m u z e a c p s q t:Int) {bT bF bL bE bN bR bG b1 b2 bM:Bool}
    (pB:Pure prog 15 [w,.nils] (.bool true)) (pw:Pure prog 43 [T] (.bool true))
    (rT:Pure prog 18 [v] (.bool bT)) (pF:Pure prog 19 [fv n d] (.bool bF)) (pL:Pure prog 20 [iv m] (.bool bL)) (re:Pure prog 21 [w] (.bool bE)) (pN:Pure prog 22 [iv u] (.bool bN))
    (rR:Pure prog 32 [rv a c p s N] (.bool bR)) (rG:Pure prog 45 [T] (.bool bG)) (r1:Pure prog 46 [iv q] (.bool b1)) (r2:Pure prog 46 [iv (IntKind.i64.wrap (q + 1))] (.bool b2)) (rM:Pure prog 22 [iv t] (.bool bM))
    (hm:bL = true → 0 ≤ m ∧ m ≤ 10800) (hfe:bE = true → feOk f) (hT0:bT = true → v ≠ .nils) (hG0:bG = true → T ≠ .nils)
    (hS1:bT = true → bF = true → bL = true → bE = true → bN = true → 0 ≤ e → m + e ≤ 10800 → ∀ (w2:AV) (g:List Int),IL w2 g → feOk g → f.Sublist g → ∃ B1 B2 e1 e2,Pure prog 17 [v,fv n d,iv m,w,iv u] (.tup [sv B1,iv e1]) ∧ Pure prog 17 [v,fv n d,iv (m + e),w2,iv u] (.tup [sv B2,iv e2]) ∧ StEnd B1 B2 e1 e2)
    (hS2:bR = true → bG = true → b1 = true → b2 = true → bM = true → ∃ v1 v2 n1 n2 e1 e2,Pure prog 44 [rv a c p s N,T,iv q,iv t] (.tup [v1,iv n1,iv e1]) ∧ Pure prog 44 [rv a c p s N,T,iv (IntKind.i64.wrap (q + 1)),iv t] (.tup [v2,iv n2,iv e2]) ∧ ShEnd v1 v2 n1 n2 e1 e2) :
    Pure prog 13 [v,fv n d,iv m,w,iv u,iv z,iv e,rv a c p s N,T,iv q,iv t] (.bool true) :=by
  obtain ⟨xs,rfl,lx⟩ :=sV
  subst hw hf
  rcases sN with ⟨rfl,rfl⟩ | ⟨ys,rfl,ly⟩ <;> rcases sT with ⟨rfl,rfl⟩ | ⟨zs,rfl,lz⟩
  all_goals
    refine pure_symX hE rfl zL zL fun S q pc hS hq hC hE => ?_
    conv=>whnf
    refine sym_seq hS (sym_code hE hS ?_)
    conv=>whnf
    refine sym_seq hS (sym_code hE hS ?_)
    conv=>whnf
    repeat ((first
      | refine sym_pure hC (slim_yes (by omega)) ?_
      | refine sym_pure hC (pB) ?_
      | refine sym_pure hC (pw) ?_
      | refine zd hS ?_
      | refine sym_eq hq true (eqBool_same _ _) ?_
      | rw [beq_self_eq_true]
      | rw [bne_self_eq_false]);conv=>whnf)
    refine sym_seqG hS (A :=Unit) [8,9,10,18] (fun _ => []) (fun _ => []) (fun _ => []) (fun _ => True) (Nat.le_of_ble_eq_true rfl) ?_ ?_
    · refine sym_seqG hS (A :=Bool) [0,2,3,4,5,6,8,9,10,12,18] (fun c => [(84,.bool c)]) (fun _ => []) (fun _ => []) (fun c => c = true → bT = true ∧ bF = true ∧ bL = true ∧ bE = true ∧ bN = true ∧ 0 ≤ e ∧ m + e ≤ 10800) (Nat.le_of_ble_eq_true rfl) (sym_code hE hS ?_) ?_
      · conv=>whnf
        cases bT
        · repeat ((first
            | refine sym_pure hC (rT) ?_
            | refine sym_pure hC (pF) ?_
            | refine sym_pure hC (pL) ?_
            | refine sym_pure hC (re) ?_
            | refine sym_pure hC (pN) ?_
            | refine zd hS ?_);conv=>whnf)
          exact ⟨false,(fun h => nomatch h),zG2⟩
        cases bF
        · repeat ((first
            | refine sym_pure hC (rT) ?_
            | refine sym_pure hC (pF) ?_
            | refine sym_pure hC (pL) ?_
            | refine sym_pure hC (re) ?_
            | refine sym_pure hC (pN) ?_
            | refine zd hS ?_);conv=>whnf)
          exact ⟨false,(fun h => nomatch h),zG2⟩
        cases bL
        · repeat ((first
            | refine sym_pure hC (rT) ?_
            | refine sym_pure hC (pF) ?_
            | refine sym_pure hC (pL) ?_
            | refine sym_pure hC (re) ?_
            | refine sym_pure hC (pN) ?_
            | refine zd hS ?_);conv=>whnf)
          exact ⟨false,(fun h => nomatch h),zG2⟩
        cases bE
        · repeat ((first
            | refine sym_pure hC (rT) ?_
            | refine sym_pure hC (pF) ?_
            | refine sym_pure hC (pL) ?_
            | refine sym_pure hC (re) ?_
            | refine sym_pure hC (pN) ?_
            | refine zd hS ?_);conv=>whnf)
          exact ⟨false,(fun h => nomatch h),zG2⟩
        cases bN
        · repeat ((first
            | refine sym_pure hC (rT) ?_
            | refine sym_pure hC (pF) ?_
            | refine sym_pure hC (pL) ?_
            | refine sym_pure hC (re) ?_
            | refine sym_pure hC (pN) ?_
            | refine zd hS ?_);conv=>whnf)
          exact ⟨false,(fun h => nomatch h),zG2⟩
        have hm :=hm rfl
        by_cases h0:0 ≤ e
        · have c1:decide (e ≥ 0) = true :=zT h0
          have hw:IntKind.i64.wrap (10800 - m) = 10800 - m :=wrapI (by omega) (by omega)
          by_cases h1:e ≤ 10800 - m
          · have c2:decide (e ≤ IntKind.i64.wrap (10800 - m)) = true :=zT (by omega)
            repeat ((first
              | refine ko_rT c1 ?_
              | refine ko_sF c1 ?_
              | refine plan_as (pick_t c1) ?_
              | refine bool_true c1 ?_
              | refine ko_rT c2 ?_
              | refine ko_sF c2 ?_
              | refine plan_as (pick_t c2) ?_
              | refine bool_true c2 ?_
              | refine sym_pure hC (rT) ?_
              | refine sym_pure hC (pF) ?_
              | refine sym_pure hC (pL) ?_
              | refine sym_pure hC (re) ?_
              | refine sym_pure hC (pN) ?_
              | refine zd hS ?_);conv=>whnf)
            exact ⟨true,(fun _ => ⟨rfl,rfl,rfl,rfl,rfl,h0,by omega⟩),(by refine ⟨rfl,rfl,rfl,rfl,rfl,rfl,2,rfl,?_,?_⟩ <;> repeat' (first | exact ⟨_,rfl,wvb c2⟩ | exact zZ | apply And.intro))⟩
          · have c2:decide (e ≤ IntKind.i64.wrap (10800 - m)) = false :=zF (by omega)
            repeat ((first
              | refine ko_rT c1 ?_
              | refine ko_sF c1 ?_
              | refine plan_as (pick_t c1) ?_
              | refine bool_true c1 ?_
              | refine ko_sT c2 ?_
              | refine ko_rF c2 ?_
              | refine plan_as (pick_f c2) ?_
              | refine bool_false c2 ?_
              | refine sym_pure hC (rT) ?_
              | refine sym_pure hC (pF) ?_
              | refine sym_pure hC (pL) ?_
              | refine sym_pure hC (re) ?_
              | refine sym_pure hC (pN) ?_
              | refine zd hS ?_);conv=>whnf)
            exact ⟨false,(fun h => nomatch h),(by refine ⟨rfl,rfl,rfl,rfl,rfl,rfl,2,rfl,?_,?_⟩ <;> repeat' (first | exact ⟨_,rfl,wvb c2⟩ | exact zZ | apply And.intro))⟩
        · have c1:decide (e ≥ 0) = false :=zF h0
          repeat ((first
            | refine ko_sT c1 ?_
            | refine ko_rF c1 ?_
            | refine plan_as (pick_f c1) ?_
            | refine bool_false c1 ?_
            | refine sym_pure hC (rT) ?_
            | refine sym_pure hC (pF) ?_
            | refine sym_pure hC (pL) ?_
            | refine sym_pure hC (re) ?_
            | refine sym_pure hC (pN) ?_
            | refine zd hS ?_);conv=>whnf)
          exact ⟨false,(fun h => nomatch h),(by refine ⟨rfl,rfl,rfl,rfl,rfl,rfl,2,rfl,?_,?_⟩ <;> repeat' (first | exact ⟨_,rfl,wvb c1⟩ | exact zZ | apply And.intro))⟩
      rintro c hc M rfl
      refine sym_cond hS ?_
      cases c
      · conv=>whnf
        refine sym_code hE hS ?_
        conv=>whnf
        exact ⟨(),trivial,zG2⟩
      · conv=>whnf
        obtain ⟨rfl,rfl,rfl,rfl,rfl,h0,h1⟩ :=hc rfl
        have hm :=hm rfl
        have hS1 :=hS1 rfl rfl rfl rfl rfl h0 h1
        refine sym_seq hS (sym_code hE hS ?_)
        conv=>whnf
        refine sym_seqG hS (A :=Unit) [0,2,3,4,5,6,8,9,10,12,18] (fun _ => [(23,.nils)]) (fun _ => []) (fun _ => []) (fun _ => True) (Nat.le_of_ble_eq_true rfl) (sym_code hE hS ?_) ?_
        · conv=>whnf
          refine sym_unroll hE hS ?_
          conv=>whnf
          exact ⟨(),trivial,zG2⟩
        · rintro ⟨⟩ _ M rfl
          conv=>whnf
          refine sym_seqG hS (A :=Unit) [0,2,3,4,6,8,9,10,12,18] (fun _ => [(23,nl [z])]) (fun _ => []) (fun _ => []) (fun _ => True) (Nat.le_of_ble_eq_true rfl) (sym_code hE hS ?_) ?_
          · conv=>whnf
            with_unfolding_all (conv=>whnf)
            refine zd hS ?_
            conv=>whnf
            exact ⟨(),trivial,(by refine ⟨rfl,rfl,rfl,rfl,rfl,rfl,2,rfl,?_,?_⟩ <;> repeat' (first | exact ⟨_,rfl,wown rfl rfl⟩ | exact zZ | apply And.intro))⟩
          · rintro ⟨⟩ _ M rfl
            conv=>whnf
            refine sym_seqG hS (A :=Bool) [0,2,3,4,6,8,9,10,12,18] (fun c => [(23,match c with | true => nl [z] | false => .nils)]) (fun _ => []) (fun _ => []) (fun c => c = true → feOk [z]) (Nat.le_of_ble_eq_true rfl) (sym_code hE hS ?_) ?_
            · conv=>whnf
              obtain ⟨bA,_,rA,iA⟩ :=feasts_b (v :=nl [z]) (.inr rfl) (by show 1 < _;omega)
              cases bA
              · refine sym_pure hC (rA) ?_
                conv=>whnf
                exact ⟨false,(fun h => nomatch h),zG2⟩
              · refine sym_pure hC (rA) ?_
                conv=>whnf
                exact ⟨true,(fun _ => iA.1 rfl),zG2⟩
            · rintro (_ | _) og M hM
              · obtain rfl:M = 2 :=hM
                refine sym_code hE hS ?_
                conv=>whnf
                obtain ⟨B1,B2,e1,e2,p1,p2,h8,h9,hX⟩ :=hS1 .nils [] (.inl ⟨rfl,rfl⟩) feOk_nil (List.Sublist.refl _)
                rw [← show IntKind.i64.wrap (m + e) = m + e from wrapI (by omega) (by omega)] at p2
                rcases hX with ⟨rfl,h5⟩ | ⟨rfl,rfl,hl⟩
                · have p1 :=p1.wkR (wk_fst _ _) ⟨trivial,trivial,trivial⟩
                  have p2 :=p2.wkR (wk_fst _ _) ⟨trivial,trivial,trivial⟩
                  rcases h5 with rfl | rfl
                  all_goals
                    repeat ((first
                      | refine sym_pure hC (p1) ?_
                      | refine sym_pure hC (p2) ?_
                      | refine zd hS ?_
                      | refine sym_eq hq true (eqBool_same _ _) ?_
                      | rw [beq_self_eq_true]
                      | rw [bne_self_eq_false]);conv=>whnf)
                    exact ⟨(),trivial,zG2⟩
                · have lb :=sv_no B1
                  have lc :=sv_no B2
                  rcases sv_cases B1 with ⟨k1,k2⟩ | k2 <;> rcases sv_cases B2 with ⟨k3,k4⟩ | k4 <;> rw [k2] at p1 lb <;> rw [k4] at p2 lc
                  all_goals
                    repeat ((first
                      | refine sym_pure hC (p1) ?_
                      | refine sym_pure hC (p2) ?_
                      | refine zd hS ?_
                      | refine sym_eq hq true (eqBool_same _ _) ?_
                      | rw [beq_self_eq_true]
                      | rw [bne_self_eq_false]);conv=>whnf)
                    first
                      | exact ⟨(),trivial,zG2⟩
                      | (refine bool_false (zF (by first | omega | (subst k1; simp only [List.length_nil] at hl; omega))) ?_
                         conv=>whnf
                         exact ⟨(),trivial,zG2⟩)
              · obtain rfl:M = 2 :=hM
                refine sym_code hE hS ?_
                conv=>whnf
                obtain ⟨B1,B2,e1,e2,p1,p2,h8,h9,hX⟩ :=hS1 (nl [z]) [z] (.inr rfl) (og rfl) (List.nil_sublist _)
                rw [← show IntKind.i64.wrap (m + e) = m + e from wrapI (by omega) (by omega)] at p2
                rcases hX with ⟨rfl,h5⟩ | ⟨rfl,rfl,hl⟩
                · have p1 :=p1.wkR (wk_fst _ _) ⟨trivial,trivial,trivial⟩
                  have p2 :=p2.wkR (wk_fst _ _) ⟨trivial,trivial,trivial⟩
                  rcases h5 with rfl | rfl
                  all_goals
                    repeat ((first
                      | refine sym_pure hC (p1) ?_
                      | refine sym_pure hC (p2) ?_
                      | refine zd hS ?_
                      | refine sym_eq hq true (eqBool_same _ _) ?_
                      | rw [beq_self_eq_true]
                      | rw [bne_self_eq_false]);conv=>whnf)
                    exact ⟨(),trivial,zG2⟩
                · have lb :=sv_no B1
                  have lc :=sv_no B2
                  rcases sv_cases B1 with ⟨k1,k2⟩ | k2 <;> rcases sv_cases B2 with ⟨k3,k4⟩ | k4 <;> rw [k2] at p1 lb <;> rw [k4] at p2 lc
                  all_goals
                    repeat ((first
                      | refine sym_pure hC (p1) ?_
                      | refine sym_pure hC (p2) ?_
                      | refine zd hS ?_
                      | refine sym_eq hq true (eqBool_same _ _) ?_
                      | rw [beq_self_eq_true]
                      | rw [bne_self_eq_false]);conv=>whnf)
                    first
                      | exact ⟨(),trivial,zG2⟩
                      | (refine bool_false (zF (by first | omega | (subst k1; simp only [List.length_nil] at hl; omega))) ?_
                         conv=>whnf
                         exact ⟨(),trivial,zG2⟩)
    · rintro ⟨⟩ _ M rfl
      conv=>whnf
      refine sym_seq hS (sym_code hE hS ?_)
      conv=>whnf
      cases bR
      · repeat ((first
          | refine sym_pure hC (rR) ?_
          | refine sym_pure hC (rG) ?_
          | refine sym_pure hC (r1) ?_
          | refine sym_pure hC (r2) ?_
          | refine sym_pure hC (rM) ?_
          | refine sym_pure hC (hk) ?_
          | refine zd hS ?_
          | refine sym_eq hq true (eqBool_same _ _) ?_
          | rw [beq_self_eq_true]
          | rw [bne_self_eq_false]);conv=>whnf)
        exact ⟨_,rfl,Wk.refl _⟩
      cases bG
      · repeat ((first
          | refine sym_pure hC (rR) ?_
          | refine sym_pure hC (rG) ?_
          | refine sym_pure hC (r1) ?_
          | refine sym_pure hC (r2) ?_
          | refine sym_pure hC (rM) ?_
          | refine sym_pure hC (hk) ?_
          | refine zd hS ?_
          | refine sym_eq hq true (eqBool_same _ _) ?_
          | rw [beq_self_eq_true]
          | rw [bne_self_eq_false]);conv=>whnf)
        exact ⟨_,rfl,Wk.refl _⟩
      try exact (hG0 rfl rfl).elim
      all_goals
        cases b1
        · repeat ((first
            | refine sym_pure hC (rR) ?_
            | refine sym_pure hC (rG) ?_
            | refine sym_pure hC (r1) ?_
            | refine sym_pure hC (r2) ?_
            | refine sym_pure hC (rM) ?_
            | refine sym_pure hC (hk) ?_
            | refine zd hS ?_
            | refine sym_eq hq true (eqBool_same _ _) ?_
            | rw [beq_self_eq_true]
            | rw [bne_self_eq_false]);conv=>whnf)
          exact ⟨_,rfl,Wk.refl _⟩
        cases b2
        · repeat ((first
            | refine sym_pure hC (rR) ?_
            | refine sym_pure hC (rG) ?_
            | refine sym_pure hC (r1) ?_
            | refine sym_pure hC (r2) ?_
            | refine sym_pure hC (rM) ?_
            | refine sym_pure hC (hk) ?_
            | refine zd hS ?_
            | refine sym_eq hq true (eqBool_same _ _) ?_
            | rw [beq_self_eq_true]
            | rw [bne_self_eq_false]);conv=>whnf)
          exact ⟨_,rfl,Wk.refl _⟩
        cases bM
        · repeat ((first
            | refine sym_pure hC (rR) ?_
            | refine sym_pure hC (rG) ?_
            | refine sym_pure hC (r1) ?_
            | refine sym_pure hC (r2) ?_
            | refine sym_pure hC (rM) ?_
            | refine sym_pure hC (hk) ?_
            | refine zd hS ?_
            | refine sym_eq hq true (eqBool_same _ _) ?_
            | rw [beq_self_eq_true]
            | rw [bne_self_eq_false]);conv=>whnf)
          exact ⟨_,rfl,Wk.refl _⟩
        obtain ⟨v1,v2,n1,n2,e1,e2,q1,q2,hv1,hv2,hX⟩ :=hS2 rfl rfl rfl rfl rfl
        have q1 :=q1.wkR (wk_fst _ _) ⟨trivial,trivial,trivial,trivial⟩
        have q2 :=q2.wkR (wk_fst _ _) ⟨trivial,trivial,trivial,trivial⟩
        rcases hX with ⟨rfl,rfl | rfl⟩ | ⟨rfl,rfl,hl⟩
        all_goals
          repeat ((first
            | refine sym_pure hC (rR) ?_
            | refine sym_pure hC (rG) ?_
            | refine sym_pure hC (r1) ?_
            | refine sym_pure hC (r2) ?_
            | refine sym_pure hC (rM) ?_
            | refine zd hS ?_
            | refine sym_eq hq true (eqBool_same _ _) ?_
            | rw [beq_self_eq_true]
            | rw [bne_self_eq_false]);conv=>whnf)
          refine sym_seq hS (sym_code hE hS ?_)
          conv=>whnf
          repeat ((first
            | refine sym_pure hC (q1) ?_
            | refine zd hS ?_
            | refine sym_eq hq true (eqBool_same _ _) ?_
            | rw [beq_self_eq_true]
            | rw [bne_self_eq_false]);conv=>whnf)
          refine sym_seq hS (sym_code hE hS ?_)
          conv=>whnf
          repeat ((first
            | refine sym_pure hC (q2) ?_
            | refine zd hS ?_
            | refine sym_eq hq true (eqBool_same _ _) ?_
            | rw [beq_self_eq_true]
            | rw [bne_self_eq_false]);conv=>whnf)
          refine sym_seq hS (sym_code hE hS ?_)
          conv=>whnf
          refine sym_code hE hS ?_
          conv=>whnf
          first
            | (refine sym_pure hC hk ?_
               conv=>whnf
               exact ⟨_,rfl,Wk.refl _⟩)
            | have cn:decide (n2 ≤ n1) = true :=zT (by assumption)
              repeat ((first
                | refine ko_rT cn ?_
                | refine ko_sF cn ?_
                | refine plan_as (pick_t cn) ?_
                | refine bool_true cn ?_
                | refine ko_sT cn ?_
                | refine ko_rF cn ?_
                | refine plan_as (pick_f cn) ?_
                | refine bool_false cn ?_
                | refine sym_pure hC (hk) ?_
                | refine zd hS ?_);conv=>whnf)
              exact ⟨_,rfl,Wk.refl _⟩
end
end Go.Abs.Seat
