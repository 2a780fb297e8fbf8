/-
  Trains of a rule: the document's parts.
-/
import Derived.Test.YtpjclnoehlflcaaGreatDoorT31
/-! Trains of a rule: the document's parts. -/
namespace Go.Abs.Seat
noncomputable section
open Go Go.Abs Go.Proofs.Tryz
set_option maxRecDepth 100000
set_option maxHeartbeats 40000000
attribute [local irreducible] IntKind.wrap pEq

/-- Whether a rule lets in a wheel. -/
def cutP (a b : Int) (l : List Int) (x : Int) : Prop := ¬ x ∈ l ∧ a ≤ x ∧ x ≤ b
instance (a b l x) : Decidable (cutP a b l x) := by unfold cutP; infer_instance

theorem mem_ix {l : List Int} {x : Int} : x ∈ l ↔ ∃ i, i < l.length ∧ gi l i = x := by
  constructor
  · intro h
    obtain ⟨i, hi, e⟩ := List.mem_iff_getElem.1 h
    exact ⟨i, hi, by simp [gi, List.getD, hi, e]⟩
  · rintro ⟨i, hi, e⟩
    exact List.mem_iff_getElem.2 ⟨i, hi, by rw [← e]; simp [gi, List.getD, hi]⟩

theorem cut_pure {N : AV} {l : List Int} (h : IL N l) (hl : l.length < 4611686018427387904) (a b p s x : Int) :
    Pure prog 90 [rv a b p s N, iv x] (.bool (decide (cutP a b l x))) := by
  have lv := h.no
  rcases h with ⟨rfl, rfl⟩ | rfl
  · rw [show decide (cutP a b [] x) = decide (a ≤ x ∧ x ≤ b) from decide_eq_decide.2 ⟨fun h => h.2, fun h => ⟨List.not_mem_nil, h⟩⟩]
    refine pure_sym hE rfl (by repeat' (first | exact trivial | assumption | exact flat_no _ | exact (fun _ h => nomatch h) | apply And.intro)) (by repeat' (first | exact trivial | assumption | exact flat_no _ | exact (fun _ h => nomatch h) | apply And.intro)) fun S q pc hS hq hC hE => ?_
    conv => whnf
    refine sym_unroll hE hS ?_
    conv => whnf
    refine sym_pure hC (rin_pure x a b) ?_
    conv => whnf
    exact ⟨_, rfl, Wk.refl _⟩
  · have ll := ivs_no l
    refine pure_sym hE rfl (by repeat' (first | exact trivial | assumption | exact flat_no _ | exact (fun _ h => nomatch h) | apply And.intro)) (by repeat' (first | exact trivial | assumption | exact flat_no _ | exact (fun _ h => nomatch h) | apply And.intro)) fun S q pc hS hq hC hE => ?_
    conv => whnf
    refine sym_loop hE hS (A := Nat) [1, 2] (fun i => [(5, nv i)]) (fun _ => []) (fun i => i ≤ l.length ∧ ∀ j, j < i → ¬ gi l j = x) (fun i => l.length - i) 0 rfl rfl ⟨rfl, rfl, rfl, rfl, by repeat' (first | exact trivial | exact rfl | exact Nat.zero_le _ | exact Nat.le_of_ble_eq_true rfl | exact bdl_no (by assumption) | exact bdl_no (flat_no _) | exact bdl_no (ivs_no _) | exact Nat.max_le.2 ⟨Nat.le_of_ble_eq_true rfl, bdl_no (ivs_no _)⟩ | apply And.intro), by repeat' (first | exact trivial | exact rfl | exact Nat.zero_le _ | exact Nat.le_of_ble_eq_true rfl | exact bdl_no (by assumption) | exact bdl_no (flat_no _) | exact bdl_no (ivs_no _) | exact Nat.max_le.2 ⟨Nat.le_of_ble_eq_true rfl, bdl_no (ivs_no _)⟩ | apply And.intro)⟩ ⟨Nat.zero_le _, fun _ h => absurd h (Nat.not_lt_zero _)⟩ ?_
    intro i ⟨hi, hT⟩
    conv => whnf
    by_cases h : i < l.length
    · rw [show decide (Int.ofNat i < ↑l.length) = true from ltN_t h]
      conv => whnf
      refine bool_true (inR_t (i := i) (n := l.length) h) ?_
      conv => whnf
      refine plan_as (nthP (nth_ivs1 (l := l) (i := i) h)) ?_
      conv => whnf
      by_cases h1 : gi l i = x
      · rw [show (gi l i == x) = true from beq_iff_eq.2 h1]
        conv => whnf
        rw [decide_eq_false fun k => k.1 (mem_ix.2 ⟨i, h, h1⟩)]
        exact ⟨_, rfl, Wk.refl _⟩
      · rw [show (gi l i == x) = false from beq_eq_false_iff_ne.2 h1]
        conv => whnf
        rw [show IntKind.i64.wrap (Int.ofNat i + 1) = Int.ofNat (i + 1) from wrapN (m := i + 1) (by omega)]
        exact ⟨i + 1, ⟨h, upto hT h1⟩, by omega, ⟨rfl, rfl, rfl, rfl, by repeat' (first | exact trivial | exact rfl | exact Nat.zero_le _ | exact Nat.le_of_ble_eq_true rfl | exact bdl_no (by assumption) | exact bdl_no (flat_no _) | exact bdl_no (ivs_no _) | exact Nat.max_le.2 ⟨Nat.le_of_ble_eq_true rfl, bdl_no (ivs_no _)⟩ | apply And.intro), by repeat' (first | exact trivial | exact rfl | exact Nat.zero_le _ | exact Nat.le_of_ble_eq_true rfl | exact bdl_no (by assumption) | exact bdl_no (flat_no _) | exact bdl_no (ivs_no _) | exact Nat.max_le.2 ⟨Nat.le_of_ble_eq_true rfl, bdl_no (ivs_no _)⟩ | apply And.intro)⟩⟩
    · rw [show decide (Int.ofNat i < ↑l.length) = false from ltN_f h]
      conv => whnf
      refine sym_pure hC (rin_pure x a b) ?_
      conv => whnf
      rw [show decide (cutP a b l x) = decide (a ≤ x ∧ x ≤ b) from decide_eq_decide.2 ⟨fun h => h.2, fun h => ⟨fun k => by
        obtain ⟨j, hj, e⟩ := mem_ix.1 k
        exact hT j (by omega) e, h⟩⟩]
      exact ⟨_, rfl, Wk.refl _⟩

/-- Whether a rule lets in some number of pairs. -/
def manyP (p s : Int) (k : Nat) : Prop := (1 ≤ (k : Int) ∧ (k : Int) ≤ p) ∧ letsP s k
instance (p s k) : Decidable (manyP p s k) := by unfold manyP; infer_instance
theorem many_pure {N : AV} {l : List Int} (h : IL N l) (a b p s : Int) (hs : 1 ≤ s ∧ s ≤ 3) (k : Nat) : Pure prog 92 [rv a b p s N, nv k] (.bool (decide (manyP p s k))) := by
  have lv := h.no
  rcases h.cs with rfl | rfl
  all_goals
    refine pure_sym hE rfl (by repeat' (first | exact trivial | assumption | exact flat_no _ | exact (fun _ h => nomatch h) | apply And.intro)) (by repeat' (first | exact trivial | assumption | exact flat_no _ | exact (fun _ h => nomatch h) | apply And.intro)) fun S q pc hS hq hC hE => ?_
    conv => whnf
    refine sym_pure hC (rin_pure (Int.ofNat k) 1 p) ?_
    conv => whnf
    by_cases h1 : 1 ≤ (k : Int) ∧ (k : Int) ≤ p
    · rw [show decide (1 ≤ Int.ofNat k ∧ Int.ofNat k ≤ p) = true from decide_eq_true h1]
      conv => whnf
      rw [show decide (manyP p s k) = decide (letsP s k) from decide_eq_decide.2 ⟨fun h => h.2, fun h => ⟨h1, h⟩⟩]
      rcases sense3 hs with rfl | rfl | rfl
      · conv => whnf
        exact ⟨_, rfl, Wk.refl _⟩
      · conv => whnf
        refine sym_eq hq _ (eqBool _ _ _) ?_
        conv => whnf
        refine ⟨_, rfl, wkb ?_⟩
        rw [show (Int.ofNat k).tmod 2 = Int.ofNat (k % 2) from rfl, show (Int.ofNat (k % 2) == 0) = decide (k % 2 = 0) from eqI_dec (k % 2) 0]
        show (true == decide (k % 2 = 0)) = _
        rw [Bool.true_beq]
        exact decide_eq_decide.2 ⟨fun h => .inr (.inl ⟨rfl, h⟩), fun h => by rcases h with h | ⟨_, h⟩ | ⟨h, _⟩ <;> first | exact h | cases h⟩
      · conv => whnf
        refine sym_eq hq _ (eqBool _ _ _) ?_
        conv => whnf
        refine ⟨_, rfl, wkb ?_⟩
        rw [show (Int.ofNat k).tmod 2 = Int.ofNat (k % 2) from rfl, show (Int.ofNat (k % 2) == 0) = decide (k % 2 = 0) from eqI_dec (k % 2) 0]
        show (false == decide (k % 2 = 0)) = _
        rw [Bool.false_beq]
        by_cases h : k % 2 = 0
        · rw [decide_eq_true h, decide_eq_false (fun h' => by rcases h' with h' | ⟨h', _⟩ | ⟨_, h'⟩ <;> first | cases h' | omega)]; rfl
        · rw [decide_eq_false h, decide_eq_true (show letsP 3 k from .inr (.inr ⟨rfl, by omega⟩))]; rfl
    · rw [show decide (1 ≤ Int.ofNat k ∧ Int.ofNat k ≤ p) = false from decide_eq_false h1]
      conv => whnf
      rw [decide_eq_false fun k => h1 k.1]
      exact ⟨_, rfl, Wk.refl _⟩
end
end Go.Abs.Seat
