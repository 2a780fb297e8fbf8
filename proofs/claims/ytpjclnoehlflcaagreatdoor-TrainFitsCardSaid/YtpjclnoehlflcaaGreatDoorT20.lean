/-
  Lists held against each other; a chain's fraction has that chain.
-/
import Derived.Test.YtpjclnoehlflcaaGreatDoorT19
/-! Lists held against each other; a chain's fraction has that chain. -/
namespace Go.Abs.Seat
open Go Go.Abs Go.Proofs.Tryz
set_option maxRecDepth 100000
set_option maxHeartbeats 4000000
attribute [local irreducible] IntKind.wrap pEq

theorem list_ext_gi {a b : List Int} (h : a.length = b.length) (hg : ∀ i, i < a.length → gi a i = gi b i) : a = b := by
  apply List.ext_getElem h
  intro i h1 h2
  have := hg i h1
  simp only [gi, List.getD, List.getElem?_eq_getElem h1, List.getElem?_eq_getElem h2, Option.getD_some] at this
  exact this

theorem same_pure (a c : List Int) (ha : a.length < 4611686018427387904) {b : Bool} (hb : b = true ↔ a = c) : Pure prog 24 [nl a, nl c] (.bool b) := by
  have la := ivs_no a
  have lc := ivs_no c
  refine pure_sym hE rfl (by repeat' (first | exact trivial | assumption | exact flat_no _ | exact (fun _ h => nomatch h) | apply And.intro)) (by repeat' (first | exact trivial | assumption | exact flat_no _ | exact (fun _ h => nomatch h) | apply And.intro)) fun S q pc hS hq hC hE => ?_
  conv => whnf
  by_cases h0 : a.length = c.length
  · rw [show ((a.length : Int) != (c.length : Int)) = false from by rw [h0]; exact bne_self_eq_false _]
    conv => whnf
    refine sym_loop hE hS (A := Nat) [0, 1] (fun i => [(5, nv i)]) (fun _ => []) (fun i => i ≤ a.length ∧ ∀ j, j < i → gi a j = gi c j) (fun i => a.length - i) 0 rfl rfl ⟨rfl, rfl, rfl, rfl, by repeat' (first | exact trivial | exact rfl | exact Nat.zero_le _ | exact Nat.le_of_ble_eq_true rfl | exact bdl_no (by assumption) | exact bdl_no (flat_no _) | exact bdl_no (ivs_no _) | exact Nat.max_le.2 ⟨Nat.le_of_ble_eq_true rfl, bdl_no (ivs_no _)⟩ | apply And.intro), by repeat' (first | exact trivial | exact rfl | exact Nat.zero_le _ | exact Nat.le_of_ble_eq_true rfl | exact bdl_no (by assumption) | exact bdl_no (flat_no _) | exact bdl_no (ivs_no _) | exact Nat.max_le.2 ⟨Nat.le_of_ble_eq_true rfl, bdl_no (ivs_no _)⟩ | apply And.intro)⟩ ⟨Nat.zero_le _, fun j h => absurd h (Nat.not_lt_zero _)⟩ ?_
    intro i ⟨hi, hf⟩
    conv => whnf
    by_cases h : i < a.length
    · rw [show decide (Int.ofNat i < ↑a.length) = true from ltN_t h]
      conv => whnf
      refine bool_true (inR_t (i := i) (n := a.length) h) ?_
      conv => whnf
      refine plan_as (nthP (nth_ivs1 (l := a) (i := i) h)) ?_
      conv => whnf
      refine bool_true (inR_t (i := i) (n := c.length) (by omega)) ?_
      conv => whnf
      refine plan_as (nthP (nth_ivs1 (l := c) (i := i) (by omega))) ?_
      conv => whnf
      refine sym_drawn hS (by kernel_rfl) ?_
      conv => whnf
      by_cases h1 : gi a i = gi c i
      · rw [show (gi a i != gi c i) = false from by rw [h1]; exact bne_self_eq_false _]
        conv => whnf
        rw [show IntKind.i64.wrap (Int.ofNat i + 1) = Int.ofNat (i + 1) from wrapN (m := i + 1) (by omega)]
        exact ⟨i + 1, ⟨h, upto hf h1⟩, by omega, ⟨rfl, rfl, rfl, rfl, by repeat' (first | exact trivial | exact rfl | exact Nat.zero_le _ | exact Nat.le_of_ble_eq_true rfl | exact bdl_no (by assumption) | exact bdl_no (flat_no _) | exact bdl_no (ivs_no _) | exact Nat.max_le.2 ⟨Nat.le_of_ble_eq_true rfl, bdl_no (ivs_no _)⟩ | apply And.intro), by repeat' (first | exact trivial | exact rfl | exact Nat.zero_le _ | exact Nat.le_of_ble_eq_true rfl | exact bdl_no (by assumption) | exact bdl_no (flat_no _) | exact bdl_no (ivs_no _) | exact Nat.max_le.2 ⟨Nat.le_of_ble_eq_true rfl, bdl_no (ivs_no _)⟩ | apply And.intro)⟩⟩
      · rw [show (gi a i != gi c i) = true from bne_iff_ne.2 h1]
        conv => whnf
        rw [bfalse hb fun k => h1 (by rw [k])]
        exact ⟨_, rfl, Wk.refl _⟩
    · rw [show decide (Int.ofNat i < ↑a.length) = false from ltN_f h]
      conv => whnf
      exact ⟨_, rfl, wkb (btrue hb (list_ext_gi h0 fun j hj => hf j (by omega))).symm⟩
  · rw [show ((a.length : Int) != (c.length : Int)) = true from bne_iff_ne.2 (by omega)]
    conv => whnf
    rw [bfalse hb fun k => h0 (by rw [k])]
    exact ⟨_, rfl, Wk.refl _⟩

/-- The last number is not 1. -/
def lastNe : List Nat → Prop
  | [] => True
  | [x] => x ≠ 1
  | _ :: y :: r => lastNe (y :: r)

theorem foS_pos2 : ∀ (r : List Nat), (∀ y, y ∈ r → 1 ≤ y) → 1 ≤ (foS r).1
  | [], _ => Nat.le_refl 1
  | x :: r, h => by
    have h1 := foS_pos2 r fun y hy => h y (by simp [hy])
    have h2 : 1 ≤ x * (foS r).1 := Nat.mul_pos (h x (by simp)) h1
    show 1 ≤ x * (foS r).1 + (foS r).2
    omega

theorem foS_lt : ∀ (x : Nat) (r : List Nat), (∀ y, y ∈ x :: r → 1 ≤ y) → lastNe (x :: r) → (foS (x :: r)).2 < (foS (x :: r)).1
  | x, [], h, hl => by
    have h1 := h x (by simp)
    have h2 : x ≠ 1 := hl
    show 1 < x * 1 + 0
    omega
  | x, y :: r, h, _ => by
    have h1 := h x (by simp)
    have h2 := foS_pos2 (y :: r) fun z hz => h z (by simp [hz])
    have h3 : 1 ≤ (foS (y :: r)).2 := foS_pos2 r fun z hz => h z (by simp [hz])
    have h4 : 1 * (foS (y :: r)).1 ≤ x * (foS (y :: r)).1 := Nat.mul_le_mul_right _ h1
    show (foS (y :: r)).1 < x * (foS (y :: r)).1 + (foS (y :: r)).2
    omega

theorem ech_fo : ∀ (r : List Nat) (x s : Nat), (∀ y, y ∈ r → 1 ≤ y) → (r ≠ [] → lastNe r) → (foS (x :: r)).2 < s → ech s (foS (x :: r)).1 (foS (x :: r)).2 = x :: r
  | [], x, s, _, _, hs => by
    have hs : 1 < s := hs
    show ech s (x * 1 + 0) 1 = [x]
    cases s with
    | zero => omega
    | succ s =>
      rw [ech, if_neg (by omega), Nat.mul_one, Nat.add_zero, Nat.div_one, Nat.mod_one]
      cases s with
      | zero => omega
      | succ s => rw [ech, if_pos rfl]
  | y :: r, x, s, h, hl, hs => by
    have h1 := foS_lt y r h (hl (by simp))
    have hs : (foS (y :: r)).1 < s := hs
    show ech s (x * (foS (y :: r)).1 + (foS (y :: r)).2) (foS (y :: r)).1 = x :: y :: r
    cases s with
    | zero => omega
    | succ s =>
      have ih := ech_fo r y s (fun z hz => h z (by simp [hz])) (fun hr => by
        cases r with
        | nil => exact absurd rfl hr
        | cons z r => exact hl (by simp)) (by omega)
      rw [ech, if_neg (by omega), Nat.add_comm, Nat.add_mul_div_right _ _ (by omega), Nat.div_eq_of_lt h1, Nat.zero_add, Nat.add_mul_mod_self_right, Nat.mod_eq_of_lt h1, ih]
end Go.Abs.Seat
