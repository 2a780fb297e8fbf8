/-
  Feasts and settings: lists of numbers.
-/
import Derived.Test.YtpjclnoehlflcaaGreatDoorL5
/-! Feasts and settings: lists of numbers. -/
namespace Go.Abs.Seat
open Go Go.Abs Go.Proofs.Tryz
set_option maxRecDepth 100000
set_option maxHeartbeats 4000000
attribute [local irreducible] IntKind.wrap pEq

def ivs : List Int → List AV
  | [] => []
  | x :: r => iv x :: ivs r
/-- A list of numbers, as it comes in. -/
abbrev nl (l : List Int) : AV := .lst (ivs l) l.length .no
abbrev gi (l : List Int) (i : Nat) : Int := l.getD i 0

theorem ivs_len : ∀ l, (ivs l).length = l.length
  | [] => rfl
  | _ :: r => by simp only [ivs, List.length_cons, ivs_len r]
theorem ivs_no : ∀ l, Lives noL (ivs l)
  | [] => trivial
  | _ :: r => ⟨trivial, ivs_no r⟩
theorem nl_no (l : List Int) : Live noL (nl l) := ⟨ivs_no l, fun _ h => nomatch h⟩
theorem nth_ivs : ∀ (l : List Int) (i : Nat), i < l.length → nth (ivs l) i = some (iv (gi l i))
  | x :: r, 0, _ => rfl
  | x :: r, i + 1, h => nth_ivs r i (by simpa using h)
  | [], i, h => absurd h (Nat.not_lt_zero _)
theorem nth_ivs1 {l : List Int} {i : Nat} (h : i < l.length) : nth (ivs l) (i * 1) = some (iv (gi l i)) := by rw [Nat.mul_one]; exact nth_ivs l i h
theorem inR_t {i n : Nat} (h : i < n) : inR (Int.ofNat i) n = true := by
  unfold inR
  rw [decide_eq_true (show (0 : Int) ≤ Int.ofNat i by show (0 : Int) ≤ (i : Int); omega), decide_eq_true (show Int.ofNat i < (n : Int) by show (i : Int) < (n : Int); omega)]
  rfl

/-- The number at i is one of a feast. -/
def feAt (l : List Int) (i : Nat) : Prop := (1 ≤ gi l i ∧ gi l i ≤ 10000) ∧ (0 < i → gi l (i - 1) < gi l i)
/-- Feasts. -/
def feOk (l : List Int) : Prop := (∀ i, i < l.length → feAt l i) ∧ l.length ≤ 8

theorem bfalse {b : Bool} {p : Prop} (h : b = true ↔ p) (hp : ¬ p) : b = false := Bool.eq_false_iff.2 fun e => hp (h.1 e)
theorem btrue {b : Bool} {p : Prop} (h : b = true ↔ p) (hp : p) : b = true := h.2 hp
theorem upto {p : Nat → Prop} {i : Nat} (h : ∀ j, j < i → p j) (hi : p i) : ∀ j, j < i + 1 → p j := fun j hj => by
  by_cases e : j = i
  · subst e; exact hi
  · exact h j (by omega)

theorem areFeasts_pure (l : List Int) (hl : l.length < 4611686018427387904) {b : Bool} (hb : b = true ↔ feOk l) : Pure prog 66 [nl l] (.bool b) := by
  have ln := ivs_no l
  refine pure_sym hE rfl (by repeat' (first | exact trivial | assumption | exact flat_no _ | exact (fun _ h => nomatch h) | apply And.intro)) (by repeat' (first | exact trivial | assumption | exact flat_no _ | exact (fun _ h => nomatch h) | apply And.intro)) fun S q pc hS hq hC hE => ?_
  conv => whnf
  refine sym_loop hE hS (A := Nat) [0, 5, 6] (fun i => [(7, nv i)]) (fun _ => []) (fun i => i ≤ l.length ∧ ∀ j, j < i → feAt l j) (fun i => l.length - i) 0 rfl rfl ⟨rfl, rfl, rfl, rfl, by repeat' (first | exact trivial | exact rfl | exact Nat.zero_le _ | exact Nat.le_of_ble_eq_true rfl | exact bdl_no (by assumption) | exact bdl_no (flat_no _) | exact bdl_no (ivs_no _) | exact Nat.max_le.2 ⟨Nat.le_of_ble_eq_true rfl, bdl_no (ivs_no _)⟩ | apply And.intro), by repeat' (first | exact trivial | exact rfl | exact Nat.zero_le _ | exact Nat.le_of_ble_eq_true rfl | exact bdl_no (by assumption) | exact bdl_no (flat_no _) | exact bdl_no (ivs_no _) | exact Nat.max_le.2 ⟨Nat.le_of_ble_eq_true rfl, bdl_no (ivs_no _)⟩ | apply And.intro)⟩ ⟨Nat.zero_le _, fun j h => absurd h (Nat.not_lt_zero _)⟩ ?_
  intro i ⟨hi, hf⟩
  conv => whnf
  by_cases h : i < l.length
  · rw [show decide (Int.ofNat i < ↑l.length) = true from ltN_t h]
    conv => whnf
    refine bool_true (inR_t (i := i) (n := l.length) h) ?_
    conv => whnf
    refine plan_as (nthP (nth_ivs1 (l := l) (i := i) h)) ?_
    conv => whnf
    refine sym_pure hC (in_pure (gi l i) 1 10000) ?_
    conv => whnf
    have nx : ∀ j, j < i + 1 → ¬ feAt l i → b = false := fun _ _ k => bfalse hb fun q => k (q.1 i h)
    by_cases h1 : 1 ≤ gi l i ∧ gi l i ≤ 10000
    · rw [decide_eq_true h1]
      conv => whnf
      cases i with
      | zero =>
        conv => whnf
        rw [show IntKind.i64.wrap (Int.ofNat 0 + 1) = 1 from wrapI (by decide) (by decide)]
        conv => whnf
        exact ⟨1, ⟨h, upto hf ⟨h1, fun k => absurd k (Nat.lt_irrefl _)⟩⟩, by omega, ⟨rfl, rfl, rfl, rfl, by repeat' (first | exact trivial | exact rfl | exact Nat.zero_le _ | exact Nat.le_of_ble_eq_true rfl | exact bdl_no (by assumption) | exact bdl_no (flat_no _) | exact bdl_no (ivs_no _) | exact Nat.max_le.2 ⟨Nat.le_of_ble_eq_true rfl, bdl_no (ivs_no _)⟩ | apply And.intro), by repeat' (first | exact trivial | exact rfl | exact Nat.zero_le _ | exact Nat.le_of_ble_eq_true rfl | exact bdl_no (by assumption) | exact bdl_no (flat_no _) | exact bdl_no (ivs_no _) | exact Nat.max_le.2 ⟨Nat.le_of_ble_eq_true rfl, bdl_no (ivs_no _)⟩ | apply And.intro)⟩⟩
      | succ i =>
        conv => whnf
        rw [show decide (Int.ofNat (i + 1) > 0) = true from (pos0 _).2 (by omega)]
        conv => whnf
        rw [show IntKind.i64.wrap (Int.ofNat (i + 1) - 1) = Int.ofNat i from wrapSub1 (m := i + 1) (by omega) (by omega)]
        conv => whnf
        have h' : i < l.length := by omega
        refine bool_true (inR_t (i := i) (n := l.length) h') ?_
        conv => whnf
        refine plan_as (nthP (nth_ivs1 (l := l) (i := i) h')) ?_
        conv => whnf
        by_cases h2 : gi l (i + 1) ≤ gi l i
        · rw [show decide (gi l (i + 1) ≤ gi l i) = true from decide_eq_true h2]
          conv => whnf
          rw [nx 0 (by omega) fun k => by have := k.2 (by omega); simp only [Nat.add_sub_cancel] at this; omega]
          exact ⟨_, rfl, Wk.refl _⟩
        · rw [show decide (gi l (i + 1) ≤ gi l i) = false from decide_eq_false h2]
          conv => whnf
          rw [show IntKind.i64.wrap (Int.ofNat (i + 1) + 1) = Int.ofNat (i + 2) from wrapN (m := i + 2) (by omega)]
          exact ⟨i + 2, ⟨h, upto hf ⟨h1, fun _ => by simp only [Nat.add_sub_cancel]; omega⟩⟩, by omega, ⟨rfl, rfl, rfl, rfl, by repeat' (first | exact trivial | exact rfl | exact Nat.zero_le _ | exact Nat.le_of_ble_eq_true rfl | exact bdl_no (by assumption) | exact bdl_no (flat_no _) | exact bdl_no (ivs_no _) | exact Nat.max_le.2 ⟨Nat.le_of_ble_eq_true rfl, bdl_no (ivs_no _)⟩ | apply And.intro), by repeat' (first | exact trivial | exact rfl | exact Nat.zero_le _ | exact Nat.le_of_ble_eq_true rfl | exact bdl_no (by assumption) | exact bdl_no (flat_no _) | exact bdl_no (ivs_no _) | exact Nat.max_le.2 ⟨Nat.le_of_ble_eq_true rfl, bdl_no (ivs_no _)⟩ | apply And.intro)⟩⟩
    · rw [decide_eq_false h1]
      conv => whnf
      rw [nx 0 (by omega) fun k => h1 k.1]
      exact ⟨_, rfl, Wk.refl _⟩
  · rw [show decide (Int.ofNat i < ↑l.length) = false from ltN_f h]
    conv => whnf
    have hi : i = l.length := by omega
    subst hi
    refine ⟨_, rfl, wkb ?_⟩
    by_cases h8 : l.length ≤ 8
    · rw [btrue hb ⟨hf, h8⟩]; exact decide_eq_true (by omega)
    · rw [bfalse hb fun k => h8 k.2]; exact decide_eq_false (by omega)

theorem rFeasts_pure (l : List Int) (hl : l.length < 4611686018427387904) {b : Bool} (hb : b = true ↔ feOk l) : Pure prog 21 [nl l] (.bool b) := by
  have ln := ivs_no l
  refine pure_sym hE rfl (by repeat' (first | exact trivial | assumption | exact flat_no _ | exact (fun _ h => nomatch h) | apply And.intro)) (by repeat' (first | exact trivial | assumption | exact flat_no _ | exact (fun _ h => nomatch h) | apply And.intro)) fun S q pc hS hq hC hE => ?_
  conv => whnf
  refine sym_loop hE hS (A := Nat) [0] (fun i => [(3, nv i)]) (fun _ => []) (fun i => i ≤ l.length ∧ ∀ j, j < i → feAt l j) (fun i => l.length - i) 0 rfl rfl ⟨rfl, rfl, rfl, rfl, by repeat' (first | exact trivial | exact rfl | exact Nat.zero_le _ | exact Nat.le_of_ble_eq_true rfl | exact bdl_no (by assumption) | exact bdl_no (flat_no _) | exact bdl_no (ivs_no _) | exact Nat.max_le.2 ⟨Nat.le_of_ble_eq_true rfl, bdl_no (ivs_no _)⟩ | apply And.intro), by repeat' (first | exact trivial | exact rfl | exact Nat.zero_le _ | exact Nat.le_of_ble_eq_true rfl | exact bdl_no (by assumption) | exact bdl_no (flat_no _) | exact bdl_no (ivs_no _) | exact Nat.max_le.2 ⟨Nat.le_of_ble_eq_true rfl, bdl_no (ivs_no _)⟩ | apply And.intro)⟩ ⟨Nat.zero_le _, fun j h => absurd h (Nat.not_lt_zero _)⟩ ?_
  intro i ⟨hi, hf⟩
  conv => whnf
  by_cases h : i < l.length
  · rw [show decide (Int.ofNat i < ↑l.length) = true from ltN_t h]
    conv => whnf
    refine bool_true (inR_t (i := i) (n := l.length) h) ?_
    conv => whnf
    refine plan_as (nthP (nth_ivs1 (l := l) (i := i) h)) ?_
    conv => whnf
    refine sym_pure hC (rin_pure (gi l i) 1 10000) ?_
    conv => whnf
    have nx : ∀ j, j < i + 1 → ¬ feAt l i → b = false := fun _ _ k => bfalse hb fun q => k (q.1 i h)
    by_cases h1 : 1 ≤ gi l i ∧ gi l i ≤ 10000
    · rw [decide_eq_true h1]
      conv => whnf
      cases i with
      | zero =>
        conv => whnf
        refine sym_drawn hS (by kernel_rfl) ?_
        conv => whnf
        rw [show IntKind.i64.wrap (Int.ofNat 0 + 1) = 1 from wrapI (by decide) (by decide)]
        conv => whnf
        exact ⟨1, ⟨h, upto hf ⟨h1, fun k => absurd k (Nat.lt_irrefl _)⟩⟩, by omega, ⟨rfl, rfl, rfl, rfl, by repeat' (first | exact trivial | exact rfl | exact Nat.zero_le _ | exact Nat.le_of_ble_eq_true rfl | exact bdl_no (by assumption) | exact bdl_no (flat_no _) | exact bdl_no (ivs_no _) | exact Nat.max_le.2 ⟨Nat.le_of_ble_eq_true rfl, bdl_no (ivs_no _)⟩ | apply And.intro), by repeat' (first | exact trivial | exact rfl | exact Nat.zero_le _ | exact Nat.le_of_ble_eq_true rfl | exact bdl_no (by assumption) | exact bdl_no (flat_no _) | exact bdl_no (ivs_no _) | exact Nat.max_le.2 ⟨Nat.le_of_ble_eq_true rfl, bdl_no (ivs_no _)⟩ | apply And.intro)⟩⟩
      | succ i =>
        conv => whnf
        rw [show decide (Int.ofNat (i + 1) > 0) = true from (pos0 _).2 (by omega)]
        conv => whnf
        refine bool_true (inR_t (i := (i+1)) (n := l.length) h) ?_
        conv => whnf
        refine plan_as (nthP (nth_ivs1 (l := l) (i := (i+1)) h)) ?_
        conv => whnf
        rw [show IntKind.i64.wrap (Int.ofNat (i + 1) - 1) = Int.ofNat i from wrapSub1 (m := i + 1) (by omega) (by omega)]
        conv => whnf
        have h' : i < l.length := by omega
        refine bool_true (inR_t (i := i) (n := l.length) h') ?_
        conv => whnf
        refine plan_as (nthP (nth_ivs1 (l := l) (i := i) h')) ?_
        conv => whnf
        refine sym_drawn hS (by kernel_rfl) ?_
        conv => whnf
        by_cases h2 : gi l (i + 1) ≤ gi l i
        · rw [show decide (gi l (i + 1) ≤ gi l i) = true from decide_eq_true h2]
          conv => whnf
          rw [nx 0 (by omega) fun k => by have := k.2 (by omega); simp only [Nat.add_sub_cancel] at this; omega]
          exact ⟨_, rfl, Wk.refl _⟩
        · rw [show decide (gi l (i + 1) ≤ gi l i) = false from decide_eq_false h2]
          conv => whnf
          rw [show IntKind.i64.wrap (Int.ofNat (i + 1) + 1) = Int.ofNat (i + 2) from wrapN (m := i + 2) (by omega)]
          exact ⟨i + 2, ⟨h, upto hf ⟨h1, fun _ => by simp only [Nat.add_sub_cancel]; omega⟩⟩, by omega, ⟨rfl, rfl, rfl, rfl, by repeat' (first | exact trivial | exact rfl | exact Nat.zero_le _ | exact Nat.le_of_ble_eq_true rfl | exact bdl_no (by assumption) | exact bdl_no (flat_no _) | exact bdl_no (ivs_no _) | exact Nat.max_le.2 ⟨Nat.le_of_ble_eq_true rfl, bdl_no (ivs_no _)⟩ | apply And.intro), by repeat' (first | exact trivial | exact rfl | exact Nat.zero_le _ | exact Nat.le_of_ble_eq_true rfl | exact bdl_no (by assumption) | exact bdl_no (flat_no _) | exact bdl_no (ivs_no _) | exact Nat.max_le.2 ⟨Nat.le_of_ble_eq_true rfl, bdl_no (ivs_no _)⟩ | apply And.intro)⟩⟩
    · rw [decide_eq_false h1]
      conv => whnf
      refine sym_drawn hS (by kernel_rfl) ?_
      conv => whnf
      rw [nx 0 (by omega) fun k => h1 k.1]
      exact ⟨_, rfl, Wk.refl _⟩
  · rw [show decide (Int.ofNat i < ↑l.length) = false from ltN_f h]
    conv => whnf
    have hi : i = l.length := by omega
    subst hi
    refine ⟨_, rfl, wkb ?_⟩
    by_cases h8 : l.length ≤ 8
    · rw [btrue hb ⟨hf, h8⟩]; exact decide_eq_true (by omega)
    · rw [bfalse hb fun k => h8 k.2]; exact decide_eq_false (by omega)

theorem areFeasts_nil : Pure prog 66 [.nils] (.bool true) := by
  refine pure_sym hE rfl (by repeat' (first | exact trivial | assumption | exact flat_no _ | exact (fun _ h => nomatch h) | apply And.intro)) (by repeat' (first | exact trivial | assumption | exact flat_no _ | exact (fun _ h => nomatch h) | apply And.intro)) fun S q pc hS hq hC hE => ?_
  conv => whnf
  refine sym_unroll hE hS ?_
  conv => whnf
  exact ⟨_, rfl, Wk.refl _⟩
theorem rFeasts_nil : Pure prog 21 [.nils] (.bool true) := by
  refine pure_sym hE rfl (by repeat' (first | exact trivial | assumption | exact flat_no _ | exact (fun _ h => nomatch h) | apply And.intro)) (by repeat' (first | exact trivial | assumption | exact flat_no _ | exact (fun _ h => nomatch h) | apply And.intro)) fun S q pc hS hq hC hE => ?_
  conv => whnf
  refine sym_unroll hE hS ?_
  conv => whnf
  exact ⟨_, rfl, Wk.refl _⟩

/-- A list of numbers that comes in: nil or not. -/
def IL (v : AV) (l : List Int) : Prop := v = .nils ∧ l = [] ∨ v = nl l
theorem IL.no {v : AV} {l : List Int} (h : IL v l) : Live noL v := by
  rcases h with ⟨rfl, _⟩ | rfl
  · trivial
  · exact nl_no l

theorem feOk_nil : feOk [] := ⟨fun _ h => absurd h (Nat.not_lt_zero _), Nat.zero_le _⟩
theorem feasts_b {v : AV} {l : List Int} (h : IL v l) (hl : l.length < 4611686018427387904) : ∃ b, Pure prog 66 [v] (.bool b) ∧ Pure prog 21 [v] (.bool b) ∧ (b = true ↔ feOk l) := by
  rcases h with ⟨rfl, rfl⟩ | rfl
  · exact ⟨true, areFeasts_nil, rFeasts_nil, fun _ => feOk_nil, fun _ => rfl⟩
  · have hb := Classical.propDecidable (feOk l)
    exact ⟨decide (feOk l), areFeasts_pure l hl decide_eq_true_iff, rFeasts_pure l hl decide_eq_true_iff, decide_eq_true_iff⟩

/-- The number at i is one of a setting, at n feasts. -/
def seAt (n : Nat) (l : List Int) (i : Nat) : Prop := (0 ≤ gi l i ∧ gi l i ≤ (n : Int) - 1) ∧ (0 < i → gi l (i - 1) < gi l i)
def seOk (n : Nat) (l : List Int) : Prop := ∀ i, i < l.length → seAt n l i

theorem wrapLen {n : Nat} (h : n < 4611686018427387904) : IntKind.i64.wrap ((n : Int) - 1) = (n : Int) - 1 := wrapI (by omega) (by omega)

theorem areSettings_pure (f l : List Int) (hf : f.length < 4611686018427387904) (hl : l.length < 4611686018427387904) {b : Bool} (hb : b = true ↔ seOk f.length l) : Pure prog 80 [nl f, nl l] (.bool b) := by
  have ln := ivs_no l
  have lf := ivs_no f
  refine pure_sym hE rfl (by repeat' (first | exact trivial | assumption | exact flat_no _ | exact (fun _ h => nomatch h) | apply And.intro)) (by repeat' (first | exact trivial | assumption | exact flat_no _ | exact (fun _ h => nomatch h) | apply And.intro)) fun S q pc hS hq hC hE => ?_
  conv => whnf
  refine sym_loop hE hS (A := Nat) [0, 1, 7, 8] (fun i => [(9, nv i)]) (fun _ => []) (fun i => i ≤ l.length ∧ ∀ j, j < i → seAt f.length l j) (fun i => l.length - i) 0 rfl rfl ⟨rfl, rfl, rfl, rfl, by repeat' (first | exact trivial | exact rfl | exact Nat.zero_le _ | exact Nat.le_of_ble_eq_true rfl | exact bdl_no (by assumption) | exact bdl_no (flat_no _) | exact bdl_no (ivs_no _) | exact Nat.max_le.2 ⟨Nat.le_of_ble_eq_true rfl, bdl_no (ivs_no _)⟩ | apply And.intro), by repeat' (first | exact trivial | exact rfl | exact Nat.zero_le _ | exact Nat.le_of_ble_eq_true rfl | exact bdl_no (by assumption) | exact bdl_no (flat_no _) | exact bdl_no (ivs_no _) | exact Nat.max_le.2 ⟨Nat.le_of_ble_eq_true rfl, bdl_no (ivs_no _)⟩ | apply And.intro)⟩ ⟨Nat.zero_le _, fun j h => absurd h (Nat.not_lt_zero _)⟩ ?_
  intro i ⟨hi, hp⟩
  conv => whnf
  by_cases h : i < l.length
  · rw [show decide (Int.ofNat i < ↑l.length) = true from ltN_t h]
    conv => whnf
    refine bool_true (inR_t (i := i) (n := l.length) h) ?_
    conv => whnf
    refine plan_as (nthP (nth_ivs1 (l := l) (i := i) h)) ?_
    conv => whnf
    rw [wrapLen hf]
    conv => whnf
    refine sym_pure hC (in_pure (gi l i) 0 ((f.length : Int) - 1)) ?_
    conv => whnf
    have nx : ¬ seAt f.length l i → b = false := fun k => bfalse hb fun q => k (q i h)
    by_cases h1 : 0 ≤ gi l i ∧ gi l i ≤ (f.length : Int) - 1
    · rw [decide_eq_true h1]
      conv => whnf
      cases i with
      | zero =>
        conv => whnf
        rw [show IntKind.i64.wrap (Int.ofNat 0 + 1) = 1 from wrapI (by decide) (by decide)]
        conv => whnf
        exact ⟨1, ⟨h, upto hp ⟨h1, fun k => absurd k (Nat.lt_irrefl _)⟩⟩, by omega, ⟨rfl, rfl, rfl, rfl, by repeat' (first | exact trivial | exact rfl | exact Nat.zero_le _ | exact Nat.le_of_ble_eq_true rfl | exact bdl_no (by assumption) | exact bdl_no (flat_no _) | exact bdl_no (ivs_no _) | exact Nat.max_le.2 ⟨Nat.le_of_ble_eq_true rfl, bdl_no (ivs_no _)⟩ | apply And.intro), by repeat' (first | exact trivial | exact rfl | exact Nat.zero_le _ | exact Nat.le_of_ble_eq_true rfl | exact bdl_no (by assumption) | exact bdl_no (flat_no _) | exact bdl_no (ivs_no _) | exact Nat.max_le.2 ⟨Nat.le_of_ble_eq_true rfl, bdl_no (ivs_no _)⟩ | apply And.intro)⟩⟩
      | succ i =>
        conv => whnf
        rw [show decide (Int.ofNat (i + 1) > 0) = true from (pos0 _).2 (by omega)]
        conv => whnf
        rw [show IntKind.i64.wrap (Int.ofNat (i + 1) - 1) = Int.ofNat i from wrapSub1 (m := i + 1) (by omega) (by omega)]
        conv => whnf
        have h' : i < l.length := by omega
        refine bool_true (inR_t (i := i) (n := l.length) h') ?_
        conv => whnf
        refine plan_as (nthP (nth_ivs1 (l := l) (i := i) h')) ?_
        conv => whnf
        by_cases h2 : gi l (i + 1) ≤ gi l i
        · rw [show decide (gi l (i + 1) ≤ gi l i) = true from decide_eq_true h2]
          conv => whnf
          rw [nx fun k => by have := k.2 (by omega); simp only [Nat.add_sub_cancel] at this; omega]
          exact ⟨_, rfl, Wk.refl _⟩
        · rw [show decide (gi l (i + 1) ≤ gi l i) = false from decide_eq_false h2]
          conv => whnf
          rw [show IntKind.i64.wrap (Int.ofNat (i + 1) + 1) = Int.ofNat (i + 2) from wrapN (m := i + 2) (by omega)]
          exact ⟨i + 2, ⟨h, upto hp ⟨h1, fun _ => by simp only [Nat.add_sub_cancel]; omega⟩⟩, by omega, ⟨rfl, rfl, rfl, rfl, by repeat' (first | exact trivial | exact rfl | exact Nat.zero_le _ | exact Nat.le_of_ble_eq_true rfl | exact bdl_no (by assumption) | exact bdl_no (flat_no _) | exact bdl_no (ivs_no _) | exact Nat.max_le.2 ⟨Nat.le_of_ble_eq_true rfl, bdl_no (ivs_no _)⟩ | apply And.intro), by repeat' (first | exact trivial | exact rfl | exact Nat.zero_le _ | exact Nat.le_of_ble_eq_true rfl | exact bdl_no (by assumption) | exact bdl_no (flat_no _) | exact bdl_no (ivs_no _) | exact Nat.max_le.2 ⟨Nat.le_of_ble_eq_true rfl, bdl_no (ivs_no _)⟩ | apply And.intro)⟩⟩
    · rw [decide_eq_false h1]
      conv => whnf
      rw [nx fun k => h1 k.1]
      exact ⟨_, rfl, Wk.refl _⟩
  · rw [show decide (Int.ofNat i < ↑l.length) = false from ltN_f h]
    conv => whnf
    have hi : i = l.length := by omega
    subst hi
    exact ⟨_, rfl, wkb (btrue hb hp).symm⟩

theorem rSet_pure (f l : List Int) (hf : f.length < 4611686018427387904) (hl : l.length < 4611686018427387904) {b : Bool} (hb : b = true ↔ seOk f.length l) : Pure prog 25 [nl f, nl l] (.bool b) := by
  have ln := ivs_no l
  have lf := ivs_no f
  refine pure_sym hE rfl (by repeat' (first | exact trivial | assumption | exact flat_no _ | exact (fun _ h => nomatch h) | apply And.intro)) (by repeat' (first | exact trivial | assumption | exact flat_no _ | exact (fun _ h => nomatch h) | apply And.intro)) fun S q pc hS hq hC hE => ?_
  conv => whnf
  refine sym_loop hE hS (A := Nat) [0, 1] (fun i => [(5, nv i)]) (fun _ => []) (fun i => i ≤ l.length ∧ ∀ j, j < i → seAt f.length l j) (fun i => l.length - i) 0 rfl rfl ⟨rfl, rfl, rfl, rfl, by repeat' (first | exact trivial | exact rfl | exact Nat.zero_le _ | exact Nat.le_of_ble_eq_true rfl | exact bdl_no (by assumption) | exact bdl_no (flat_no _) | exact bdl_no (ivs_no _) | exact Nat.max_le.2 ⟨Nat.le_of_ble_eq_true rfl, bdl_no (ivs_no _)⟩ | apply And.intro), by repeat' (first | exact trivial | exact rfl | exact Nat.zero_le _ | exact Nat.le_of_ble_eq_true rfl | exact bdl_no (by assumption) | exact bdl_no (flat_no _) | exact bdl_no (ivs_no _) | exact Nat.max_le.2 ⟨Nat.le_of_ble_eq_true rfl, bdl_no (ivs_no _)⟩ | apply And.intro)⟩ ⟨Nat.zero_le _, fun j h => absurd h (Nat.not_lt_zero _)⟩ ?_
  intro i ⟨hi, hp⟩
  conv => whnf
  by_cases h : i < l.length
  · rw [show decide (Int.ofNat i < ↑l.length) = true from ltN_t h]
    conv => whnf
    refine bool_true (inR_t (i := i) (n := l.length) h) ?_
    conv => whnf
    refine plan_as (nthP (nth_ivs1 (l := l) (i := i) h)) ?_
    conv => whnf
    rw [wrapLen hf]
    conv => whnf
    refine sym_pure hC (rin_pure (gi l i) 0 ((f.length : Int) - 1)) ?_
    conv => whnf
    have nx : ¬ seAt f.length l i → b = false := fun k => bfalse hb fun q => k (q i h)
    by_cases h1 : 0 ≤ gi l i ∧ gi l i ≤ (f.length : Int) - 1
    · rw [decide_eq_true h1]
      conv => whnf
      cases i with
      | zero =>
        conv => whnf
        refine sym_drawn hS (by kernel_rfl) ?_
        conv => whnf
        rw [show IntKind.i64.wrap (Int.ofNat 0 + 1) = 1 from wrapI (by decide) (by decide)]
        conv => whnf
        exact ⟨1, ⟨h, upto hp ⟨h1, fun k => absurd k (Nat.lt_irrefl _)⟩⟩, by omega, ⟨rfl, rfl, rfl, rfl, by repeat' (first | exact trivial | exact rfl | exact Nat.zero_le _ | exact Nat.le_of_ble_eq_true rfl | exact bdl_no (by assumption) | exact bdl_no (flat_no _) | exact bdl_no (ivs_no _) | exact Nat.max_le.2 ⟨Nat.le_of_ble_eq_true rfl, bdl_no (ivs_no _)⟩ | apply And.intro), by repeat' (first | exact trivial | exact rfl | exact Nat.zero_le _ | exact Nat.le_of_ble_eq_true rfl | exact bdl_no (by assumption) | exact bdl_no (flat_no _) | exact bdl_no (ivs_no _) | exact Nat.max_le.2 ⟨Nat.le_of_ble_eq_true rfl, bdl_no (ivs_no _)⟩ | apply And.intro)⟩⟩
      | succ i =>
        conv => whnf
        rw [show decide (Int.ofNat (i + 1) > 0) = true from (pos0 _).2 (by omega)]
        conv => whnf
        refine bool_true (inR_t (i := (i+1)) (n := l.length) h) ?_
        conv => whnf
        refine plan_as (nthP (nth_ivs1 (l := l) (i := (i+1)) h)) ?_
        conv => whnf
        rw [show IntKind.i64.wrap (Int.ofNat (i + 1) - 1) = Int.ofNat i from wrapSub1 (m := i + 1) (by omega) (by omega)]
        conv => whnf
        have h' : i < l.length := by omega
        refine bool_true (inR_t (i := i) (n := l.length) h') ?_
        conv => whnf
        refine plan_as (nthP (nth_ivs1 (l := l) (i := i) h')) ?_
        conv => whnf
        refine sym_drawn hS (by kernel_rfl) ?_
        conv => whnf
        by_cases h2 : gi l (i + 1) ≤ gi l i
        · rw [show decide (gi l (i + 1) ≤ gi l i) = true from decide_eq_true h2]
          conv => whnf
          rw [nx fun k => by have := k.2 (by omega); simp only [Nat.add_sub_cancel] at this; omega]
          exact ⟨_, rfl, Wk.refl _⟩
        · rw [show decide (gi l (i + 1) ≤ gi l i) = false from decide_eq_false h2]
          conv => whnf
          rw [show IntKind.i64.wrap (Int.ofNat (i + 1) + 1) = Int.ofNat (i + 2) from wrapN (m := i + 2) (by omega)]
          exact ⟨i + 2, ⟨h, upto hp ⟨h1, fun _ => by simp only [Nat.add_sub_cancel]; omega⟩⟩, by omega, ⟨rfl, rfl, rfl, rfl, by repeat' (first | exact trivial | exact rfl | exact Nat.zero_le _ | exact Nat.le_of_ble_eq_true rfl | exact bdl_no (by assumption) | exact bdl_no (flat_no _) | exact bdl_no (ivs_no _) | exact Nat.max_le.2 ⟨Nat.le_of_ble_eq_true rfl, bdl_no (ivs_no _)⟩ | apply And.intro), by repeat' (first | exact trivial | exact rfl | exact Nat.zero_le _ | exact Nat.le_of_ble_eq_true rfl | exact bdl_no (by assumption) | exact bdl_no (flat_no _) | exact bdl_no (ivs_no _) | exact Nat.max_le.2 ⟨Nat.le_of_ble_eq_true rfl, bdl_no (ivs_no _)⟩ | apply And.intro)⟩⟩
    · rw [decide_eq_false h1]
      conv => whnf
      refine sym_drawn hS (by kernel_rfl) ?_
      conv => whnf
      rw [nx fun k => h1 k.1]
      exact ⟨_, rfl, Wk.refl _⟩
  · rw [show decide (Int.ofNat i < ↑l.length) = false from ltN_f h]
    conv => whnf
    have hi : i = l.length := by omega
    subst hi
    exact ⟨_, rfl, wkb (btrue hb hp).symm⟩

theorem set_nil (v : AV) (f : List Int) (h : IL v f) : Pure prog 80 [v, .nils] (.bool true) ∧ Pure prog 25 [v, .nils] (.bool true) := by
  have lf := h.no
  rcases h with ⟨rfl, rfl⟩ | rfl
  all_goals
    constructor
    · refine pure_sym hE rfl (by repeat' (first | exact trivial | assumption | exact flat_no _ | exact (fun _ h => nomatch h) | apply And.intro)) (by repeat' (first | exact trivial | assumption | exact flat_no _ | exact (fun _ h => nomatch h) | apply And.intro)) fun S q pc hS hq hC hE => ?_
      conv => whnf
      refine sym_unroll hE hS ?_
      conv => whnf
      exact ⟨_, rfl, Wk.refl _⟩
    · refine pure_sym hE rfl (by repeat' (first | exact trivial | assumption | exact flat_no _ | exact (fun _ h => nomatch h) | apply And.intro)) (by repeat' (first | exact trivial | assumption | exact flat_no _ | exact (fun _ h => nomatch h) | apply And.intro)) fun S q pc hS hq hC hE => ?_
      conv => whnf
      refine sym_unroll hE hS ?_
      conv => whnf
      exact ⟨_, rfl, Wk.refl _⟩

theorem set_none (x : Int) (r : List Int) : Pure prog 80 [.nils, nl (x :: r)] (.bool false) ∧ Pure prog 25 [.nils, nl (x :: r)] (.bool false) := by
  have ln := ivs_no (x :: r)
  constructor
  · refine pure_sym hE rfl (by repeat' (first | exact trivial | assumption | exact flat_no _ | exact (fun _ h => nomatch h) | apply And.intro)) (by repeat' (first | exact trivial | assumption | exact flat_no _ | exact (fun _ h => nomatch h) | apply And.intro)) fun S q pc hS hq hC hE => ?_
    conv => whnf
    refine sym_unroll hE hS ?_
    conv => whnf
    rw [show decide ((0 : Int) < (((x :: r).length : Nat) : Int)) = true from decide_eq_true (by simp only [List.length_cons]; omega)]
    conv => whnf
    refine bool_true (inR_t (i := 0) (n := (x :: r).length) (by simp)) ?_
    conv => whnf
    rw [show IntKind.i64.wrap (0 - 1) = -1 from wrapI (by decide) (by decide)]
    conv => whnf
    refine sym_pure hC (in_pure x 0 (-1)) ?_
    conv => whnf
    rw [decide_eq_false (show ¬ (0 ≤ x ∧ x ≤ -1) by omega)]
    conv => whnf
    exact ⟨_, rfl, Wk.refl _⟩
  · refine pure_sym hE rfl (by repeat' (first | exact trivial | assumption | exact flat_no _ | exact (fun _ h => nomatch h) | apply And.intro)) (by repeat' (first | exact trivial | assumption | exact flat_no _ | exact (fun _ h => nomatch h) | apply And.intro)) fun S q pc hS hq hC hE => ?_
    conv => whnf
    refine sym_unroll hE hS ?_
    conv => whnf
    rw [show decide ((0 : Int) < (((x :: r).length : Nat) : Int)) = true from decide_eq_true (by simp only [List.length_cons]; omega)]
    conv => whnf
    refine bool_true (inR_t (i := 0) (n := (x :: r).length) (by simp)) ?_
    conv => whnf
    rw [show IntKind.i64.wrap (0 - 1) = -1 from wrapI (by decide) (by decide)]
    conv => whnf
    refine sym_pure hC (rin_pure x 0 (-1)) ?_
    conv => whnf
    rw [decide_eq_false (show ¬ (0 ≤ x ∧ x ≤ -1) by omega)]
    conv => whnf
    refine sym_drawn hS (by kernel_rfl) ?_
    conv => whnf
    exact ⟨_, rfl, Wk.refl _⟩

/-- Settings, as the program and the document tell them. -/
theorem set_b {v u : AV} {f l : List Int} (hv : IL v f) (hu : IL u l) (hf : f.length < 4611686018427387904) (hl : l.length < 4611686018427387904) :
    ∃ b, Pure prog 80 [v, u] (.bool b) ∧ Pure prog 25 [v, u] (.bool b) ∧ (b = true ↔ seOk f.length l) := by
  have e0 : ∀ n, seOk n [] := fun _ _ h => absurd h (Nat.not_lt_zero _)
  rcases hu with ⟨rfl, rfl⟩ | rfl
  · have := set_nil v f hv
    exact ⟨true, this.1, this.2, fun _ => e0 _, fun _ => rfl⟩
  · rcases hv with ⟨rfl, rfl⟩ | rfl
    · cases l with
      | nil =>
        refine ⟨true, ?_, ?_, fun _ => e0 _, fun _ => rfl⟩
        · refine pure_sym hE rfl (by repeat' (first | exact trivial | assumption | exact flat_no _ | exact (fun _ h => nomatch h) | apply And.intro)) (by repeat' (first | exact trivial | assumption | exact flat_no _ | exact (fun _ h => nomatch h) | apply And.intro)) fun S q pc hS hq hC hE => ?_
          conv => whnf
          refine sym_unroll hE hS ?_
          conv => whnf
          exact ⟨_, rfl, Wk.refl _⟩
        · refine pure_sym hE rfl (by repeat' (first | exact trivial | assumption | exact flat_no _ | exact (fun _ h => nomatch h) | apply And.intro)) (by repeat' (first | exact trivial | assumption | exact flat_no _ | exact (fun _ h => nomatch h) | apply And.intro)) fun S q pc hS hq hC hE => ?_
          conv => whnf
          refine sym_unroll hE hS ?_
          conv => whnf
          exact ⟨_, rfl, Wk.refl _⟩
      | cons x r =>
        have := set_none x r
        refine ⟨false, this.1, this.2, iff_of_false Bool.false_ne_true fun k => ?_⟩
        have h := (k 0 (by simp)).1
        have h1 : (0 : Int) ≤ x ∧ x ≤ ((0 : Nat) : Int) - 1 := h
        omega
    · have hb := Classical.propDecidable (seOk f.length l)
      exact ⟨decide (seOk f.length l), areSettings_pure f l hf hl decide_eq_true_iff, rSet_pure f l hf hl decide_eq_true_iff, decide_eq_true_iff⟩
end Go.Abs.Seat
