/-
  The law TrainSettings.
-/
import Derived.Test.YtpjclnoehlflcaaGreatDoorT28
import Derived.Test.YtpjclnoehlflcaaGreatDoorL6
/-! The law TrainSettings. -/
namespace Go.Abs.Seat
open Go Go.Abs Go.Proofs.Tryz
set_option maxRecDepth 100000
set_option maxHeartbeats 40000000
attribute [local irreducible] IntKind.wrap pEq

theorem bstS_short {f : List Int} {L u : Nat} (h : okS f L u (2 ^ f.length) ≠ []) : (bstS (okS f L u (2 ^ f.length))).length ≤ f.length := okS_mem f L u (bstS_mem h)

theorem trainSettings_yes (hk : Pure prog 16 [] (.bool true)) {v : AV} {k x y : Nat} (hv : TV v k x y) (k8 : k ≤ 8) (n d m : Nat) (hn : n ≤ 50000) (hnd : 1 ≤ d ∧ d ≤ 50000) (hm : m ≤ 10800) {w : AV} {f : List Int} (hf : IL w f) (of : feOk f)
    (pB : Pure prog 15 [w, .nils] (.bool true)) (re : Pure prog 21 [w] (.bool true)) (u : Nat) (hu : u ≤ 10000) :
    Pure prog 3 [v, fv (Int.ofNat n) (Int.ofNat d), nv m, w, nv u] (.bool true) := by
  have fl := of.2
  obtain ⟨p1, p2⟩ := settings_both hv n d m hn hnd hm hf of u hu
  have rT := hv.ts.rT k8
  have pF := rFraction_pure (Int.ofNat n) (Int.ofNat d)
  rw [decide_eq_true (isF_N hn hnd.1 hnd.2)] at pF
  have pN := rNumber_pure (Int.ofNat u)
  rw [decide_eq_true (rng (t := u) (m := 10000) (by omega))] at pN
  have pL := rLimit_pure (Int.ofNat m)
  rw [decide_eq_true (rng (t := m) (m := 10800) (by omega))] at pL
  have lw := hf.no
  by_cases h0 : okS f (lastV x y n d m) u (2 ^ f.length) = []
  · rw [setV, if_pos h0, if_pos h0] at p1
    rw [rsV, if_pos h0, if_pos h0] at p2
    obtain ⟨xs, rfl, lx⟩ := hv.sh
    rcases hf with ⟨rfl, rfl⟩ | rfl
    all_goals
      refine pure_sym hE rfl (by repeat' (first | exact trivial | assumption | exact flat_no _ | exact (fun _ h => nomatch h) | apply And.intro)) (by repeat' (first | exact trivial | assumption | exact flat_no _ | exact (fun _ h => nomatch h) | apply And.intro)) fun S q pc hS hq hC hE => ?_
      conv => whnf
      repeat ((first
        | refine sym_pure hC (slim_yes (by omega)) ?_
        | refine sym_pure hC (pB) ?_
        | refine sym_pure hC (p1) ?_
        | refine sym_pure hC (p2) ?_
        | refine sym_pure hC (rT) ?_
        | refine sym_pure hC (pF) ?_
        | refine sym_pure hC (pL) ?_
        | refine sym_pure hC (re) ?_
        | refine sym_pure hC (pN) ?_
        | refine sym_pure hC (hk) ?_
        | refine sym_drawn hS (by kernel_rfl) ?_
        | refine sym_eq hq true (eqBool_same _ _) ?_
        | rw [beq_self_eq_true]
        | rw [bne_self_eq_false]); conv => whnf)
      exact ⟨_, rfl, Wk.refl _⟩
  · have hb := bstS_short h0
    rw [setV, if_neg h0, if_neg h0] at p1
    rw [rsV, if_neg h0, if_neg h0] at p2
    have ps := same_sv (bstS (okS f (lastV x y n d m) u (2 ^ f.length))) (by omega)
    have lb := sv_no (bstS (okS f (lastV x y n d m) u (2 ^ f.length)))
    generalize bstS (okS f (lastV x y n d m) u (2 ^ f.length)) = B at p1 p2 ps lb
    obtain ⟨xs, rfl, lx⟩ := hv.sh
    rcases hf with ⟨rfl, rfl⟩ | rfl <;> rcases sv_cases B with ⟨_, e⟩ | e
    all_goals
      rw [e] at p1 p2 ps lb
      refine pure_sym hE rfl (by repeat' (first | exact trivial | assumption | exact flat_no _ | exact (fun _ h => nomatch h) | apply And.intro)) (by repeat' (first | exact trivial | assumption | exact flat_no _ | exact (fun _ h => nomatch h) | apply And.intro)) fun S q pc hS hq hC hE => ?_
      conv => whnf
      repeat ((first
        | refine sym_pure hC (slim_yes (by omega)) ?_
        | refine sym_pure hC (pB) ?_
        | refine sym_pure hC (p1) ?_
        | refine sym_pure hC (p2) ?_
        | refine sym_pure hC (rT) ?_
        | refine sym_pure hC (pF) ?_
        | refine sym_pure hC (pL) ?_
        | refine sym_pure hC (re) ?_
        | refine sym_pure hC (pN) ?_
        | refine sym_pure hC (ps) ?_
        | refine sym_pure hC (hk) ?_
        | refine sym_drawn hS (by kernel_rfl) ?_
        | refine sym_eq hq true (eqBool_same _ _) ?_
        | rw [beq_self_eq_true]
        | rw [bne_self_eq_false]); conv => whnf)
      exact ⟨_, rfl, Wk.refl _⟩

/-- TrainSettings, of whatever lists. -/
theorem trainSettings (hk : Pure prog 16 [] (.bool true)) {v : AV} {k : Nat} (hv : (∃ x y, TV v k x y) ∨ TN v k) (n d m : Int) {w : AV} {f : List Int} (hf : IL w f) (u : Int) :
    Pure prog 3 [v, fv n d, iv m, w, iv u] (.bool true) := by
  obtain ⟨b, sv, hx⟩ := ts_of hv
  have lv := sv.no
  have lw := hf.no
  obtain ⟨bB, pB, iB⟩ := brief_pure hf (z := .nils) (s := []) (.inl ⟨rfl, rfl⟩)
  by_cases h8 : k ≤ 8
  · cases bB with
    | true =>
      have hl := iB.1 rfl
      have rT := sv.rT h8
      obtain ⟨bF, pF, iF⟩ := dec_b (rFraction_pure n d)
      obtain ⟨bN, rN, iN⟩ := dec_b (rNumber_pure u)
      obtain ⟨bL, pL, iL⟩ := dec_b (rLimit_pure m)
      obtain ⟨bE, pe, re, ie⟩ := feasts_b hf (by omega)
      by_cases hall : (b && bF && bL && bE && bN) = true
      · simp only [Bool.and_eq_true] at hall
        obtain ⟨⟨⟨⟨rfl, rfl⟩, rfl⟩, rfl⟩, rfl⟩ := hall
        obtain ⟨x, y, tv⟩ := hx rfl
        obtain ⟨n, d, rfl, rfl, q1, q2, q3⟩ := isF_nat (iF.1 rfl)
        obtain ⟨u, rfl, q4⟩ := int_nat (iN.1 rfl)
        obtain ⟨m, rfl, q5⟩ := int_nat (iL.1 rfl)
        exact trainSettings_yes hk tv h8 n d m q1 ⟨q2, q3⟩ (by omega) hf (ie.1 rfl) pB re u (by omega)
      · have hno : (b && bF && bL && bE && bN) = false := Bool.eq_false_iff.2 hall
        have po := settings_no sv hf iF iL pe iN hno
        have sh := sv.sh
        clear iF iN iL hx sv hv ie pe hno
        rcases sh with ⟨rfl, rfl⟩ | ⟨xs, rfl, lx⟩ <;> rcases hf with ⟨rfl, rfl⟩ | rfl
        all_goals
          cases b
          · refine pure_sym hE rfl (by repeat' (first | exact trivial | assumption | exact flat_no _ | exact (fun _ h => nomatch h) | apply And.intro)) (by repeat' (first | exact trivial | assumption | exact flat_no _ | exact (fun _ h => nomatch h) | apply And.intro)) fun S q pc hS hq hC hE => ?_
            conv => whnf
            repeat ((first
              | refine sym_pure hC (slim_yes (by omega)) ?_
              | refine sym_pure hC (pB) ?_
              | refine sym_pure hC (po) ?_
              | refine sym_pure hC (rT) ?_
              | refine sym_pure hC (pF) ?_
              | refine sym_pure hC (pL) ?_
              | refine sym_pure hC (re) ?_
              | refine sym_pure hC (rN) ?_
              | refine sym_pure hC (hk) ?_
              | refine sym_drawn hS (by kernel_rfl) ?_
              | refine sym_eq hq true (eqBool_same _ _) ?_
              | rw [beq_self_eq_true]
              | rw [bne_self_eq_false]); conv => whnf)
            exact ⟨_, rfl, Wk.refl _⟩
          · cases bF
            · refine pure_sym hE rfl (by repeat' (first | exact trivial | assumption | exact flat_no _ | exact (fun _ h => nomatch h) | apply And.intro)) (by repeat' (first | exact trivial | assumption | exact flat_no _ | exact (fun _ h => nomatch h) | apply And.intro)) fun S q pc hS hq hC hE => ?_
              conv => whnf
              repeat ((first
                | refine sym_pure hC (slim_yes (by omega)) ?_
                | refine sym_pure hC (pB) ?_
                | refine sym_pure hC (po) ?_
                | refine sym_pure hC (rT) ?_
                | refine sym_pure hC (pF) ?_
                | refine sym_pure hC (pL) ?_
                | refine sym_pure hC (re) ?_
                | refine sym_pure hC (rN) ?_
                | refine sym_pure hC (hk) ?_
                | refine sym_drawn hS (by kernel_rfl) ?_
                | refine sym_eq hq true (eqBool_same _ _) ?_
                | rw [beq_self_eq_true]
                | rw [bne_self_eq_false]); conv => whnf)
              exact ⟨_, rfl, Wk.refl _⟩
            · cases bL
              · refine pure_sym hE rfl (by repeat' (first | exact trivial | assumption | exact flat_no _ | exact (fun _ h => nomatch h) | apply And.intro)) (by repeat' (first | exact trivial | assumption | exact flat_no _ | exact (fun _ h => nomatch h) | apply And.intro)) fun S q pc hS hq hC hE => ?_
                conv => whnf
                repeat ((first
                  | refine sym_pure hC (slim_yes (by omega)) ?_
                  | refine sym_pure hC (pB) ?_
                  | refine sym_pure hC (po) ?_
                  | refine sym_pure hC (rT) ?_
                  | refine sym_pure hC (pF) ?_
                  | refine sym_pure hC (pL) ?_
                  | refine sym_pure hC (re) ?_
                  | refine sym_pure hC (rN) ?_
                  | refine sym_pure hC (hk) ?_
                  | refine sym_drawn hS (by kernel_rfl) ?_
                  | refine sym_eq hq true (eqBool_same _ _) ?_
                  | rw [beq_self_eq_true]
                  | rw [bne_self_eq_false]); conv => whnf)
                exact ⟨_, rfl, Wk.refl _⟩
              · cases bE
                · refine pure_sym hE rfl (by repeat' (first | exact trivial | assumption | exact flat_no _ | exact (fun _ h => nomatch h) | apply And.intro)) (by repeat' (first | exact trivial | assumption | exact flat_no _ | exact (fun _ h => nomatch h) | apply And.intro)) fun S q pc hS hq hC hE => ?_
                  conv => whnf
                  repeat ((first
                    | refine sym_pure hC (slim_yes (by omega)) ?_
                    | refine sym_pure hC (pB) ?_
                    | refine sym_pure hC (po) ?_
                    | refine sym_pure hC (rT) ?_
                    | refine sym_pure hC (pF) ?_
                    | refine sym_pure hC (pL) ?_
                    | refine sym_pure hC (re) ?_
                    | refine sym_pure hC (rN) ?_
                    | refine sym_pure hC (hk) ?_
                    | refine sym_drawn hS (by kernel_rfl) ?_
                    | refine sym_eq hq true (eqBool_same _ _) ?_
                    | rw [beq_self_eq_true]
                    | rw [bne_self_eq_false]); conv => whnf)
                  exact ⟨_, rfl, Wk.refl _⟩
                · cases bN
                  · refine pure_sym hE rfl (by repeat' (first | exact trivial | assumption | exact flat_no _ | exact (fun _ h => nomatch h) | apply And.intro)) (by repeat' (first | exact trivial | assumption | exact flat_no _ | exact (fun _ h => nomatch h) | apply And.intro)) fun S q pc hS hq hC hE => ?_
                    conv => whnf
                    repeat ((first
                      | refine sym_pure hC (slim_yes (by omega)) ?_
                      | refine sym_pure hC (pB) ?_
                      | refine sym_pure hC (po) ?_
                      | refine sym_pure hC (rT) ?_
                      | refine sym_pure hC (pF) ?_
                      | refine sym_pure hC (pL) ?_
                      | refine sym_pure hC (re) ?_
                      | refine sym_pure hC (rN) ?_
                      | refine sym_pure hC (hk) ?_
                      | refine sym_drawn hS (by kernel_rfl) ?_
                      | refine sym_eq hq true (eqBool_same _ _) ?_
                      | rw [beq_self_eq_true]
                      | rw [bne_self_eq_false]); conv => whnf)
                    exact ⟨_, rfl, Wk.refl _⟩
                  · exact absurd rfl hall
    | false =>
      have sh := sv.sh
      rcases sh with ⟨rfl, rfl⟩ | ⟨xs, rfl, lx⟩ <;> rcases hf with ⟨rfl, rfl⟩ | rfl
      all_goals
        refine pure_sym hE rfl (by repeat' (first | exact trivial | assumption | exact flat_no _ | exact (fun _ h => nomatch h) | apply And.intro)) (by repeat' (first | exact trivial | assumption | exact flat_no _ | exact (fun _ h => nomatch h) | apply And.intro)) fun S q pc hS hq hC hE => ?_
        conv => whnf
        repeat ((first
          | refine sym_pure hC (slim_yes (by omega)) ?_
          | refine sym_pure hC (pB) ?_
          | refine sym_pure hC (hk) ?_
          | refine sym_drawn hS (by kernel_rfl) ?_
          | refine sym_eq hq true (eqBool_same _ _) ?_
          | rw [beq_self_eq_true]
          | rw [bne_self_eq_false]); conv => whnf)
        exact ⟨_, rfl, Wk.refl _⟩
  · rcases sv.sh with ⟨rfl, rfl⟩ | ⟨xs, rfl, lx⟩ <;> rcases hf with ⟨rfl, rfl⟩ | rfl
    all_goals
      refine pure_sym hE rfl (by repeat' (first | exact trivial | assumption | exact flat_no _ | exact (fun _ h => nomatch h) | apply And.intro)) (by repeat' (first | exact trivial | assumption | exact flat_no _ | exact (fun _ h => nomatch h) | apply And.intro)) fun S q pc hS hq hC hE => ?_
      conv => whnf
      repeat ((first
        | refine sym_pure hC (slim_not (by omega)) ?_
        | refine sym_pure hC (hk) ?_
        | refine sym_drawn hS (by kernel_rfl) ?_
        | refine sym_eq hq true (eqBool_same _ _) ?_
        | rw [beq_self_eq_true]
        | rw [bne_self_eq_false]); conv => whnf)
      exact ⟨_, rfl, Wk.refl _⟩
end Go.Abs.Seat
