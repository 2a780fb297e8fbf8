/-
  Rules: whether they are as defined, and their numbers of teeth.
-/
import Derived.Test.YtpjclnoehlflcaaGreatDoorT22
import Derived.Test.YtpjclnoehlflcaaGreatDoorT21
/-! Rules: whether they are as defined, and their numbers of teeth. -/
namespace Go.Abs.Seat
noncomputable section
open Go Go.Abs Go.Proofs.Tryz
set_option maxRecDepth 100000
set_option maxHeartbeats 40000000

theorem sense_wrap (s : Int) (hs : -9223372036854775808 ≤ s ∧ s < 9223372036854775808) : decide (0 ≤ IntKind.i64.wrap (s - 1) ∧ IntKind.i64.wrap (s - 1) ≤ 2) = decide (1 ≤ s ∧ s ≤ 3) := by
  by_cases k : s = -9223372036854775808
  · subst k; decide
  · rw [wrapI (by omega) (by omega)]
    exact decide_eq_decide.2 (by omega)
attribute [local irreducible] IntKind.wrap pEq

/-- The first number that is none of teeth, counted from i. -/
def fbad : List Int → Int → Int
  | [], _ => -1
  | x :: r, i => if tth x then fbad r (i + 1) else i
def allT (l : List Int) : Prop := ∀ i, i < l.length → tth (gi l i)
instance (l : List Int) : Decidable (allT l) := Classical.propDecidable _
theorem allT_cons {x : Int} {r : List Int} : allT (x :: r) ↔ tth x ∧ allT r :=
  ⟨fun h => ⟨h 0 (Nat.succ_pos _), fun i hi => h (i + 1) (by simpa using hi)⟩, fun h i hi => by
    cases i with
    | zero => exact h.1
    | succ i => exact h.2 i (by simpa using hi)⟩
theorem fbad_ge : ∀ (l : List Int) (i : Int), 0 ≤ i → decide (fbad l i ≥ 0) = !(decide (allT l))
  | [], i, _ => by
    rw [decide_eq_true (show allT [] from fun _ h => absurd h (Nat.not_lt_zero _))]
    rfl
  | x :: r, i, h => by
    rw [fbad]
    by_cases hx : tth x
    · rw [if_pos hx, fbad_ge r (i + 1) (by omega)]
      by_cases hr : allT r
      · rw [decide_eq_true hr, decide_eq_true (allT_cons.2 ⟨hx, hr⟩)]
      · rw [decide_eq_false hr, decide_eq_false fun k => hr (allT_cons.1 k).2]
    · rw [if_neg hx, decide_eq_true h, decide_eq_false fun k => hx (allT_cons.1 k).1]; rfl

theorem isBad_pure (a : Int) : Pure prog 129 [iv a] (.bool (!(decide (tth a)))) := by
  refine pure_sym hE rfl (by repeat' (first | exact trivial | assumption | exact flat_no _ | exact (fun _ h => nomatch h) | apply And.intro)) (by repeat' (first | exact trivial | assumption | exact flat_no _ | exact (fun _ h => nomatch h) | apply And.intro)) fun S q pc hS hq hC hE => ?_
  conv => whnf
  refine sym_pure hC (isTeeth_pure a) ?_
  conv => whnf
  exact ⟨_, rfl, Wk.refl _⟩

theorem idxBad_pure (l : List Int) (hl : l.length < 4611686018427387904) : Pure prog 154 [nl l, .func (.func 129) [] []] (iv (fbad l 0)) := by
  have ll := ivs_no l
  refine pure_sym hE rfl (by repeat' (first | exact trivial | assumption | exact flat_no _ | exact (fun _ h => nomatch h) | apply And.intro)) (by repeat' (first | exact trivial | assumption | exact flat_no _ | exact (fun _ h => nomatch h) | apply And.intro)) fun S q pc hS hq hC hE => ?_
  conv => whnf
  refine sym_loop hE hS (A := Nat) [0, 1, 7] (fun i => [(8, nv i)]) (fun _ => []) (fun i => i ≤ l.length ∧ fbad (l.drop i) i = fbad l 0) (fun i => l.length - i) 0 rfl rfl ⟨rfl, rfl, rfl, rfl, by repeat' (first | exact trivial | exact rfl | exact Nat.zero_le _ | exact Nat.le_of_ble_eq_true rfl | exact bdl_no (by assumption) | exact bdl_no (flat_no _) | exact bdl_no (ivs_no _) | exact Nat.max_le.2 ⟨Nat.le_of_ble_eq_true rfl, bdl_no (ivs_no _)⟩ | apply And.intro), by repeat' (first | exact trivial | exact rfl | exact Nat.zero_le _ | exact Nat.le_of_ble_eq_true rfl | exact bdl_no (by assumption) | exact bdl_no (flat_no _) | exact bdl_no (ivs_no _) | exact Nat.max_le.2 ⟨Nat.le_of_ble_eq_true rfl, bdl_no (ivs_no _)⟩ | apply And.intro)⟩ ⟨Nat.zero_le _, rfl⟩ ?_
  intro i ⟨hi, he⟩
  conv => whnf
  by_cases h : i < l.length
  · rw [show decide (Int.ofNat i < ↑l.length) = true from ltN_t h]
    conv => whnf
    refine bool_true (inR_t (i := i) (n := l.length) h) ?_
    conv => whnf
    refine plan_as (nthP (nth_ivs1 (l := l) (i := i) h)) ?_
    conv => whnf
    refine sym_pure hC (isBad_pure (gi l i)) ?_
    conv => whnf
    rw [drop_gi l h, fbad] at he
    by_cases h1 : tth (gi l i)
    · rw [decide_eq_true h1]
      rw [if_pos h1] at he
      conv => whnf
      rw [show IntKind.i64.wrap (Int.ofNat i + 1) = Int.ofNat (i + 1) from wrapN (m := i + 1) (by omega)]
      exact ⟨i + 1, ⟨h, he⟩, by omega, ⟨rfl, rfl, rfl, rfl, by repeat' (first | exact trivial | exact rfl | exact Nat.zero_le _ | exact Nat.le_of_ble_eq_true rfl | exact bdl_no (by assumption) | exact bdl_no (flat_no _) | exact bdl_no (ivs_no _) | exact Nat.max_le.2 ⟨Nat.le_of_ble_eq_true rfl, bdl_no (ivs_no _)⟩ | apply And.intro), by repeat' (first | exact trivial | exact rfl | exact Nat.zero_le _ | exact Nat.le_of_ble_eq_true rfl | exact bdl_no (by assumption) | exact bdl_no (flat_no _) | exact bdl_no (ivs_no _) | exact Nat.max_le.2 ⟨Nat.le_of_ble_eq_true rfl, bdl_no (ivs_no _)⟩ | apply And.intro)⟩⟩
    · rw [decide_eq_false h1]
      rw [if_neg h1] at he
      conv => whnf
      rw [← he]
      exact ⟨_, rfl, Wk.refl _⟩
  · rw [show decide (Int.ofNat i < ↑l.length) = false from ltN_f h]
    conv => whnf
    rw [List.drop_eq_nil_of_le (by omega), fbad] at he
    rw [← he]
    exact ⟨_, rfl, Wk.refl _⟩
theorem idxBad_nils : Pure prog 154 [.nils, .func (.func 129) [] []] (iv (-1)) := by
  refine pure_sym hE rfl (by repeat' (first | exact trivial | assumption | exact flat_no _ | exact (fun _ h => nomatch h) | apply And.intro)) (by repeat' (first | exact trivial | assumption | exact flat_no _ | exact (fun _ h => nomatch h) | apply And.intro)) fun S q pc hS hq hC hE => ?_
  conv => whnf
  refine sym_unroll hE hS ?_
  conv => whnf
  exact ⟨_, rfl, Wk.refl _⟩
theorem hasBad_pure {v : AV} {l : List Int} (h : IL v l) (hl : l.length < 4611686018427387904) : Pure prog 128 [v, .func (.func 129) [] []] (.bool (!(decide (allT l)))) := by
  have lv := h.no
  rcases h with ⟨rfl, rfl⟩ | rfl
  · rw [decide_eq_true (show allT [] from fun _ h => absurd h (Nat.not_lt_zero _))]
    refine pure_sym hE rfl (by repeat' (first | exact trivial | assumption | exact flat_no _ | exact (fun _ h => nomatch h) | apply And.intro)) (by repeat' (first | exact trivial | assumption | exact flat_no _ | exact (fun _ h => nomatch h) | apply And.intro)) fun S q pc hS hq hC hE => ?_
    conv => whnf
    refine sym_pure hC (idxBad_nils) ?_
    conv => whnf
    exact ⟨_, rfl, Wk.refl _⟩
  · refine pure_sym hE rfl (by repeat' (first | exact trivial | assumption | exact flat_no _ | exact (fun _ h => nomatch h) | apply And.intro)) (by repeat' (first | exact trivial | assumption | exact flat_no _ | exact (fun _ h => nomatch h) | apply And.intro)) fun S q pc hS hq hC hE => ?_
    conv => whnf
    refine sym_pure hC (idxBad_pure l hl) ?_
    conv => whnf
    rw [fbad_ge l 0 (Int.le_refl _)]
    exact ⟨_, rfl, Wk.refl _⟩

/-- Whether a list has a number: where. -/
def fidx : List Int → Int → Int → Int
  | [], _, _ => -1
  | y :: r, x, i => if x = y then i else fidx r x (i + 1)
theorem fidx_ge : ∀ (l : List Int) (x i : Int), 0 ≤ i → decide (fidx l x i ≥ 0) = decide (x ∈ l)
  | [], x, i, _ => by rw [decide_eq_false (show ¬ x ∈ [] from List.not_mem_nil)]; rfl
  | y :: r, x, i, h => by
    rw [fidx]
    by_cases hx : x = y
    · rw [if_pos hx, decide_eq_true h, decide_eq_true (by rw [hx]; exact List.mem_cons_self)]
    · rw [if_neg hx, fidx_ge r x (i + 1) (by omega)]
      exact decide_eq_decide.2 ⟨List.mem_cons_of_mem _, fun k => (List.mem_cons.1 k).resolve_left hx⟩

theorem index_pure (l : List Int) (x : Int) (hl : l.length < 4611686018427387904) : Pure prog 155 [nl l, iv x] (iv (fidx l x 0)) := by
  have ll := ivs_no l
  refine pure_sym hE rfl (by repeat' (first | exact trivial | assumption | exact flat_no _ | exact (fun _ h => nomatch h) | apply And.intro)) (by repeat' (first | exact trivial | assumption | exact flat_no _ | exact (fun _ h => nomatch h) | apply And.intro)) fun S q pc hS hq hC hE => ?_
  conv => whnf
  refine sym_loop hE hS (A := Nat) [0, 1, 7] (fun i => [(8, nv i)]) (fun _ => []) (fun i => i ≤ l.length ∧ fidx (l.drop i) x i = fidx l x 0) (fun i => l.length - i) 0 rfl rfl ⟨rfl, rfl, rfl, rfl, by repeat' (first | exact trivial | exact rfl | exact Nat.zero_le _ | exact Nat.le_of_ble_eq_true rfl | exact bdl_no (by assumption) | exact bdl_no (flat_no _) | exact bdl_no (ivs_no _) | exact Nat.max_le.2 ⟨Nat.le_of_ble_eq_true rfl, bdl_no (ivs_no _)⟩ | apply And.intro), by repeat' (first | exact trivial | exact rfl | exact Nat.zero_le _ | exact Nat.le_of_ble_eq_true rfl | exact bdl_no (by assumption) | exact bdl_no (flat_no _) | exact bdl_no (ivs_no _) | exact Nat.max_le.2 ⟨Nat.le_of_ble_eq_true rfl, bdl_no (ivs_no _)⟩ | apply And.intro)⟩ ⟨Nat.zero_le _, rfl⟩ ?_
  intro i ⟨hi, he⟩
  conv => whnf
  by_cases h : i < l.length
  · rw [show decide (Int.ofNat i < ↑l.length) = true from ltN_t h]
    conv => whnf
    refine bool_true (inR_t (i := i) (n := l.length) h) ?_
    conv => whnf
    refine plan_as (nthP (nth_ivs1 (l := l) (i := i) h)) ?_
    conv => whnf
    rw [drop_gi l h, fidx] at he
    by_cases h1 : x = gi l i
    · rw [show (x == gi l i) = true from beq_iff_eq.2 h1]
      conv => whnf
      rw [if_pos h1] at he
      rw [← he]
      exact ⟨_, rfl, Wk.refl _⟩
    · rw [show (x == gi l i) = false from beq_eq_false_iff_ne.2 h1]
      conv => whnf
      rw [if_neg h1] at he
      rw [show IntKind.i64.wrap (Int.ofNat i + 1) = Int.ofNat (i + 1) from wrapN (m := i + 1) (by omega)]
      exact ⟨i + 1, ⟨h, he⟩, by omega, ⟨rfl, rfl, rfl, rfl, by repeat' (first | exact trivial | exact rfl | exact Nat.zero_le _ | exact Nat.le_of_ble_eq_true rfl | exact bdl_no (by assumption) | exact bdl_no (flat_no _) | exact bdl_no (ivs_no _) | exact Nat.max_le.2 ⟨Nat.le_of_ble_eq_true rfl, bdl_no (ivs_no _)⟩ | apply And.intro), by repeat' (first | exact trivial | exact rfl | exact Nat.zero_le _ | exact Nat.le_of_ble_eq_true rfl | exact bdl_no (by assumption) | exact bdl_no (flat_no _) | exact bdl_no (ivs_no _) | exact Nat.max_le.2 ⟨Nat.le_of_ble_eq_true rfl, bdl_no (ivs_no _)⟩ | apply And.intro)⟩⟩
  · rw [show decide (Int.ofNat i < ↑l.length) = false from ltN_f h]
    conv => whnf
    rw [List.drop_eq_nil_of_le (by omega), fidx] at he
    rw [← he]
    exact ⟨_, rfl, Wk.refl _⟩
theorem index_nils (x : Int) : Pure prog 155 [.nils, iv x] (iv (-1)) := by
  refine pure_sym hE rfl (by repeat' (first | exact trivial | assumption | exact flat_no _ | exact (fun _ h => nomatch h) | apply And.intro)) (by repeat' (first | exact trivial | assumption | exact flat_no _ | exact (fun _ h => nomatch h) | apply And.intro)) fun S q pc hS hq hC hE => ?_
  conv => whnf
  refine sym_unroll hE hS ?_
  conv => whnf
  exact ⟨_, rfl, Wk.refl _⟩
theorem contains_pure {v : AV} {l : List Int} (h : IL v l) (hl : l.length < 4611686018427387904) (x : Int) : Pure prog 130 [v, iv x] (.bool (decide (x ∈ l))) := by
  have lv := h.no
  rcases h with ⟨rfl, rfl⟩ | rfl
  · rw [decide_eq_false (show ¬ x ∈ [] from List.not_mem_nil)]
    refine pure_sym hE rfl (by repeat' (first | exact trivial | assumption | exact flat_no _ | exact (fun _ h => nomatch h) | apply And.intro)) (by repeat' (first | exact trivial | assumption | exact flat_no _ | exact (fun _ h => nomatch h) | apply And.intro)) fun S q pc hS hq hC hE => ?_
    conv => whnf
    refine sym_pure hC (index_nils x) ?_
    conv => whnf
    exact ⟨_, rfl, Wk.refl _⟩
  · refine pure_sym hE rfl (by repeat' (first | exact trivial | assumption | exact flat_no _ | exact (fun _ h => nomatch h) | apply And.intro)) (by repeat' (first | exact trivial | assumption | exact flat_no _ | exact (fun _ h => nomatch h) | apply And.intro)) fun S q pc hS hq hC hE => ?_
    conv => whnf
    refine sym_pure hC (index_pure l x hl) ?_
    conv => whnf
    rw [fidx_ge l x 0 (Int.le_refl _)]
    exact ⟨_, rfl, Wk.refl _⟩

/-- A rule. -/
abbrev rv (a b p s : Int) (N : AV) : AV := .agg [iv a, iv b, iv p, iv s, N]
/-- Rules that are as defined. -/
def rOk (a b p s : Int) (l : List Int) : Prop := tth a ∧ tth b ∧ a ≤ b ∧ (1 ≤ p ∧ p ≤ 3) ∧ (1 ≤ s ∧ s ≤ 3) ∧ l.length ≤ 6 ∧ allT l

theorem isRule_pure {N : AV} {l : List Int} (h : IL N l) (hl : l.length < 4611686018427387904) (a b p s : Int) (hs : -9223372036854775808 ≤ s ∧ s < 9223372036854775808) {r : Bool} (hr : r = true ↔ rOk a b p s l) :
    Pure prog 82 [rv a b p s N] (.bool r) := by
  have lv := h.no
  have hb := hasBad_pure h hl
  have hw := sense_wrap s hs
  have nx : ¬ rOk a b p s l → r = false := fun k => bfalse hr k
  have h6 : ∀ (h1 : tth a) (h2 : tth b) (h3 : a ≤ b) (h4 : 1 ≤ p ∧ p ≤ 3) (h5 : 1 ≤ s ∧ s ≤ 3) (h6 : l.length ≤ 6), r = decide (allT l) := fun h1 h2 h3 h4 h5 h6 => by
    by_cases h7 : allT l
    · rw [hr.2 ⟨h1, h2, h3, h4, h5, h6, h7⟩, decide_eq_true h7]
    · rw [nx fun k => h7 k.2.2.2.2.2.2, decide_eq_false h7]
  rcases h with ⟨rfl, rfl⟩ | rfl
  · refine pure_sym hE rfl (by repeat' (first | exact trivial | assumption | exact flat_no _ | exact (fun _ h => nomatch h) | apply And.intro)) (by repeat' (first | exact trivial | assumption | exact flat_no _ | exact (fun _ h => nomatch h) | apply And.intro)) fun S q pc hS hq hC hE => ?_
    conv => whnf
    refine sym_pure hC (isTeeth_pure a) ?_
    conv => whnf
    by_cases h1 : tth a
    · rw [decide_eq_true h1]
      conv => whnf
      refine sym_pure hC (isTeeth_pure b) ?_
      conv => whnf
      by_cases h2 : tth b
      · rw [decide_eq_true h2]
        conv => whnf
        by_cases h3 : a ≤ b
        · rw [decide_eq_true h3]
          conv => whnf
          refine sym_pure hC (in_pure p 1 3) ?_
          conv => whnf
          by_cases h4 : 1 ≤ p ∧ p ≤ 3
          · rw [decide_eq_true h4]
            conv => whnf
            refine sym_pure hC (in_pure (IntKind.i64.wrap (s - 1)) 0 2) ?_
            conv => whnf
            rw [hw]
            by_cases h5 : 1 ≤ s ∧ s ≤ 3
            · rw [decide_eq_true h5]
              conv => whnf
              refine sym_pure hC (hb) ?_
              conv => whnf
              rw [h6 h1 h2 h3 h4 h5 (by decide)]
              cases decide (allT [])
              · conv => whnf
                exact ⟨_, rfl, Wk.refl _⟩
              · conv => whnf
                exact ⟨_, rfl, Wk.refl _⟩
            · rw [decide_eq_false h5]
              conv => whnf
              rw [nx fun k => h5 k.2.2.2.2.1]
              exact ⟨_, rfl, Wk.refl _⟩
          · rw [decide_eq_false h4]
            conv => whnf
            rw [nx fun k => h4 k.2.2.2.1]
            exact ⟨_, rfl, Wk.refl _⟩
        · rw [decide_eq_false h3]
          conv => whnf
          rw [nx fun k => h3 k.2.2.1]
          exact ⟨_, rfl, Wk.refl _⟩
      · rw [decide_eq_false h2]
        conv => whnf
        rw [nx fun k => h2 k.2.1]
        exact ⟨_, rfl, Wk.refl _⟩
    · rw [decide_eq_false h1]
      conv => whnf
      rw [nx fun k => h1 k.1]
      exact ⟨_, rfl, Wk.refl _⟩
  · refine pure_sym hE rfl (by repeat' (first | exact trivial | assumption | exact flat_no _ | exact (fun _ h => nomatch h) | apply And.intro)) (by repeat' (first | exact trivial | assumption | exact flat_no _ | exact (fun _ h => nomatch h) | apply And.intro)) fun S q pc hS hq hC hE => ?_
    conv => whnf
    refine sym_pure hC (isTeeth_pure a) ?_
    conv => whnf
    by_cases h1 : tth a
    · rw [decide_eq_true h1]
      conv => whnf
      refine sym_pure hC (isTeeth_pure b) ?_
      conv => whnf
      by_cases h2 : tth b
      · rw [decide_eq_true h2]
        conv => whnf
        by_cases h3 : a ≤ b
        · rw [decide_eq_true h3]
          conv => whnf
          refine sym_pure hC (in_pure p 1 3) ?_
          conv => whnf
          by_cases h4 : 1 ≤ p ∧ p ≤ 3
          · rw [decide_eq_true h4]
            conv => whnf
            refine sym_pure hC (in_pure (IntKind.i64.wrap (s - 1)) 0 2) ?_
            conv => whnf
            rw [hw]
            by_cases h5 : 1 ≤ s ∧ s ≤ 3
            · rw [decide_eq_true h5]
              conv => whnf
              by_cases h7 : l.length ≤ 6
              · rw [decide_eq_true (show (l.length : Int) ≤ 6 by omega)]
                conv => whnf
                refine sym_pure hC (hb) ?_
                conv => whnf
                rw [h6 h1 h2 h3 h4 h5 h7]
                cases decide (allT l)
                · conv => whnf
                  exact ⟨_, rfl, Wk.refl _⟩
                · conv => whnf
                  exact ⟨_, rfl, Wk.refl _⟩
              · rw [decide_eq_false (show ¬ (l.length : Int) ≤ 6 by omega)]
                conv => whnf
                rw [nx fun k => h7 k.2.2.2.2.2.1]
                exact ⟨_, rfl, Wk.refl _⟩
            · rw [decide_eq_false h5]
              conv => whnf
              rw [nx fun k => h5 k.2.2.2.2.1]
              exact ⟨_, rfl, Wk.refl _⟩
          · rw [decide_eq_false h4]
            conv => whnf
            rw [nx fun k => h4 k.2.2.2.1]
            exact ⟨_, rfl, Wk.refl _⟩
        · rw [decide_eq_false h3]
          conv => whnf
          rw [nx fun k => h3 k.2.2.1]
          exact ⟨_, rfl, Wk.refl _⟩
      · rw [decide_eq_false h2]
        conv => whnf
        rw [nx fun k => h2 k.2.1]
        exact ⟨_, rfl, Wk.refl _⟩
    · rw [decide_eq_false h1]
      conv => whnf
      rw [nx fun k => h1 k.1]
      exact ⟨_, rfl, Wk.refl _⟩
end
end Go.Abs.Seat
