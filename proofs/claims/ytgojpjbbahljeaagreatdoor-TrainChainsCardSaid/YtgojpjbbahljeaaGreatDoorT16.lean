/-
  Chains as fractions.
-/
import Derived.Test.YtgojpjbbahljeaaGreatDoorT10
import Derived.Test.YtgojpjbbahljeaaGreatDoorMC
/-! Chains as fractions. -/
namespace Go.Abs.Seat
open Go Go.Abs Go.Proofs.Tryz
set_option maxRecDepth 100000
set_option maxHeartbeats 4000000
attribute [local irreducible] IntKind.wrap pEq

/-- A chain as a fraction, not reduced. -/
def foS : List Nat → Nat × Nat
  | [] => (1, 0)
  | x :: r => (x * (foS r).1 + (foS r).2, (foS r).1)

def zl (l : List Nat) : List Int := l.map Int.ofNat
theorem zl_len (l : List Nat) : (zl l).length = l.length := List.length_map _
theorem zl_gi (l : List Nat) {i : Nat} (h : i < l.length) : gi (zl l) i = Int.ofNat (l.getD i 0) := by
  simp [gi, zl, List.getD, h]

/-- The number of each ending is no greater than can be. -/
def foOk (l : List Nat) : Prop := ∀ i, i < l.length → (foS (l.drop i)).1 ≤ 50000

/-- A chain. -/
def chAt (l : List Int) (i : Nat) : Prop := (if i = 0 then 0 else 1) ≤ gi l i ∧ gi l i ≤ 50000
def chOk (l : List Int) : Prop := (∀ i, i < l.length → chAt l i) ∧ 1 ≤ l.length ∧ l.length ≤ 24

theorem minI_1 (i : Nat) : minI (Int.ofNat i) 1 = if i = 0 then 0 else 1 := by
  unfold minI
  show (if (1 : Int) < (i : Int) then (1 : Int) else (i : Int)) = _
  split <;> split <;> omega

theorem isChain_pure (l : List Int) (hl : l.length < 4611686018427387904) {b : Bool} (hb : b = true ↔ chOk l) : Pure prog 30 [nl l] (.bool b) := by
  have ln := ivs_no l
  refine pure_sym hE rfl (by repeat' (first | exact trivial | assumption | exact flat_no _ | exact (fun _ h => nomatch h) | apply And.intro)) (by repeat' (first | exact trivial | assumption | exact flat_no _ | exact (fun _ h => nomatch h) | apply And.intro)) fun S q pc hS hq hC hE => ?_
  conv => whnf
  refine sym_loop hE hS (A := Nat) [0] (fun i => [(3, nv i)]) (fun _ => []) (fun i => i ≤ l.length ∧ ∀ j, j < i → chAt l j) (fun i => l.length - i) 0 rfl rfl ⟨rfl, rfl, rfl, rfl, by repeat' (first | exact trivial | exact rfl | exact Nat.zero_le _ | exact Nat.le_of_ble_eq_true rfl | exact bdl_no (by assumption) | exact bdl_no (flat_no _) | apply And.intro), by repeat' (first | exact trivial | exact rfl | exact Nat.zero_le _ | exact Nat.le_of_ble_eq_true rfl | exact bdl_no (by assumption) | exact bdl_no (flat_no _) | apply And.intro)⟩ ⟨Nat.zero_le _, fun j h => absurd h (Nat.not_lt_zero _)⟩ ?_
  intro i ⟨hi, hf⟩
  conv => whnf
  by_cases h : i < l.length
  · rw [show decide (Int.ofNat i < ↑l.length) = true from ltN_t h]
    conv => whnf
    refine bool_true (inR_t (i := i) (n := l.length) h) ?_
    conv => whnf
    refine plan_as (nthP (nth_ivs1 (l := l) (i := i) h)) ?_
    conv => whnf
    rw [minI_1]
    refine sym_pure hC (rin_pure (gi l i) _ 50000) ?_
    conv => whnf
    by_cases h1 : (if i = 0 then 0 else 1) ≤ gi l i ∧ gi l i ≤ 50000
    · rw [decide_eq_true h1]
      conv => whnf
      rw [show IntKind.i64.wrap (Int.ofNat i + 1) = Int.ofNat (i + 1) from wrapN (m := i + 1) (by omega)]
      exact ⟨i + 1, ⟨h, upto hf h1⟩, by omega, ⟨rfl, rfl, rfl, rfl, by repeat' (first | exact trivial | exact rfl | exact Nat.zero_le _ | exact Nat.le_of_ble_eq_true rfl | exact bdl_no (by assumption) | exact bdl_no (flat_no _) | apply And.intro), by repeat' (first | exact trivial | exact rfl | exact Nat.zero_le _ | exact Nat.le_of_ble_eq_true rfl | exact bdl_no (by assumption) | exact bdl_no (flat_no _) | apply And.intro)⟩⟩
    · rw [decide_eq_false h1]
      conv => whnf
      rw [bfalse hb fun k => h1 (k.1 i h)]
      exact ⟨_, rfl, Wk.refl _⟩
  · rw [show decide (Int.ofNat i < ↑l.length) = false from ltN_f h]
    conv => whnf
    have hi : i = l.length := by omega
    subst hi
    refine sym_pure hC (rin_pure (l.length : Int) 1 24) ?_
    conv => whnf
    refine ⟨_, rfl, wkb ?_⟩
    by_cases h8 : 1 ≤ l.length ∧ l.length ≤ 24
    · rw [btrue hb ⟨hf, h8⟩]; exact decide_eq_true (by omega)
    · rw [bfalse hb fun k => h8 k.2]; exact decide_eq_false (by omega)
theorem isChain_nil : Pure prog 30 [.nils] (.bool false) := by
  refine pure_sym hE rfl (by repeat' (first | exact trivial | assumption | exact flat_no _ | exact (fun _ h => nomatch h) | apply And.intro)) (by repeat' (first | exact trivial | assumption | exact flat_no _ | exact (fun _ h => nomatch h) | apply And.intro)) fun S q pc hS hq hC hE => ?_
  conv => whnf
  refine sym_unroll hE hS ?_
  conv => whnf
  refine sym_pure hC (rin_pure 0 1 24) ?_
  conv => whnf
  exact ⟨_, rfl, Wk.refl _⟩

theorem foS_drop (l : List Nat) {i : Nat} (h : i < l.length) : foS (l.drop i) = (l.getD i 0 * (foS (l.drop (i + 1))).1 + (foS (l.drop (i + 1))).2, (foS (l.drop (i + 1))).1) := by
  rw [List.drop_eq_getElem_cons h, foS]
  simp [List.getD, h]

theorem foS_den (l : List Nat) (i : Nat) (ho : ∀ j, i ≤ j → j < l.length → (foS (l.drop j)).1 ≤ 50000) : (foS (l.drop i)).2 ≤ 50000 := by
  by_cases h : i < l.length
  · rw [foS_drop l h]
    by_cases h2 : i + 1 < l.length
    · exact ho (i + 1) (by omega) h2
    · rw [List.drop_eq_nil_of_le (by omega)]; show 1 ≤ 50000; omega
  · rw [List.drop_eq_nil_of_le (by omega)]; decide

/-- One number more, from the chain's end. -/
theorem fo_step (l : List Nat) (hx : ∀ i, i < l.length → l.getD i 0 ≤ 50000) {k n d : Nat} (hk : k + 1 ≤ l.length) (he : foS (l.drop (k + 1)) = (n, d)) (ho : ∀ j, k + 1 ≤ j → j < l.length → (foS (l.drop j)).1 ≤ 50000) :
    foS (l.drop k) = (l.getD k 0 * n + d, n) ∧ n ≤ 50000 ∧ d ≤ 50000 ∧ l.getD k 0 * n ≤ 2500000000 := by
  have h1 := foS_drop l (i := k) (by omega)
  rw [he] at h1
  have h2 := foS_den l (k + 1) ho
  rw [he] at h2
  have h3 : n ≤ 50000 := by
    by_cases h : k + 1 < l.length
    · have := ho (k + 1) (Nat.le_refl _) h
      rw [he] at this; exact this
    · rw [List.drop_eq_nil_of_le (by omega)] at he
      have : (1, 0) = (n, d) := he
      injection this
      omega
  exact ⟨h1, h3, h2, Nat.mul_le_mul (hx k (by omega)) h3⟩

theorem nth_zl {l : List Nat} {k : Nat} (h : k < l.length) : nth (ivs (zl l)) ((((k + 1 : Nat) : Int) - 1).toNat * 1) = some (nv (l.getD k 0)) := by
  rw [show (((k + 1 : Nat) : Int) - 1).toNat = k by omega, nth_ivs1 (by rw [zl_len]; exact h), zl_gi l h]

theorem maxN (a b : Nat) : maxI (Int.ofNat a) (Int.ofNat b) = Int.ofNat (max a b) := by
  unfold maxI
  show (if ((b : Nat) : Int) > (a : Int) then (b : Int) else (a : Int)) = ((max a b : Nat) : Int)
  split <;> omega

theorem folded_pure (l : List Nat) (hx : ∀ i, i < l.length → l.getD i 0 ≤ 50000) (hl : l.length ≤ 30) (ho : foOk l) : Pure prog 75 [nl (zl l)] (fv (Int.ofNat (foS l).1) (Int.ofNat (foS l).2)) := by
  have ln := ivs_no (zl l)
  have hz := zl_len l
  refine pure_sym hE rfl (by repeat' (first | exact trivial | assumption | exact flat_no _ | exact (fun _ h => nomatch h) | apply And.intro)) (by repeat' (first | exact trivial | assumption | exact flat_no _ | exact (fun _ h => nomatch h) | apply And.intro)) fun S q pc hS hq hC hE => ?_
  conv => whnf
  rw [wrapLen (n := (zl l).length) (by omega)]
  refine sym_loop hE hS (A := Nat × Nat × Nat) [0, 2] (fun (i, n, d) => [(3, nv n), (4, nv d), (5, iv ((i : Int) - 1))]) (fun _ => []) (fun (i, n, d) => i ≤ l.length ∧ foS (l.drop i) = (n, d)) (fun (i, _, _) => i) ((zl l).length, 1, 0) rfl rfl ⟨rfl, rfl, rfl, rfl, by repeat' (first | exact trivial | exact rfl | exact Nat.zero_le _ | exact Nat.le_of_ble_eq_true rfl | exact bdl_no (by assumption) | exact bdl_no (flat_no _) | apply And.intro), by repeat' (first | exact trivial | exact rfl | exact Nat.zero_le _ | exact Nat.le_of_ble_eq_true rfl | exact bdl_no (by assumption) | exact bdl_no (flat_no _) | apply And.intro)⟩ ⟨by omega, by rw [List.drop_eq_nil_of_le (by omega)]; rfl⟩ ?_
  rintro ⟨i, n, d⟩ ⟨hi, he⟩
  conv => whnf
  cases i with
  | zero =>
    rw [show decide (((0 : Nat) : Int) - 1 ≥ 0) = false from decide_eq_false (by omega)]
    conv => whnf
    have he : foS l = (n, d) := he
    exact ⟨_, rfl, by rw [he]; exact Wk.refl _⟩
  | succ k =>
    obtain ⟨h1, h2, h3, h4⟩ := fo_step l hx hi he fun j _ h => ho j h
    have h5 := ho k hi
    rw [h1] at h5
    simp only at h5
    rw [show decide (((k + 1 : Nat) : Int) - 1 ≥ 0) = true from decide_eq_true (by omega)]
    conv => whnf
    refine bool_true (inR_i (show (0 : Int) ≤ ((k + 1 : Nat) : Int) - 1 ∧ ((k + 1 : Nat) : Int) - 1 < ((zl l).length : Int) by omega)) ?_
    conv => whnf
    refine plan_as (nthP (nth_zl (l := l) (k := k) (by omega))) ?_
    conv => whnf
    rw [mulN (a := l.getD k 0) (b := n) (by omega), addN (a := l.getD k 0 * n) (b := d) (by omega), maxN]
    rw [show decide (Int.ofNat (max (l.getD k 0 * n + d) n) > 50000) = false from gtN_f (b := 50000) (by omega)]
    conv => whnf
    rw [show IntKind.i64.wrap (((k + 1 : Nat) : Int) - 1 - 1) = (k : Int) - 1 by rw [wrapI (by omega) (by omega)]; omega]
    exact ⟨(k, l.getD k 0 * n + d, n), ⟨by omega, h1⟩, by show k < k + 1; omega, ⟨rfl, rfl, rfl, rfl, by repeat' (first | exact trivial | exact rfl | exact Nat.zero_le _ | exact Nat.le_of_ble_eq_true rfl | exact bdl_no (by assumption) | exact bdl_no (flat_no _) | apply And.intro), by repeat' (first | exact trivial | exact rfl | exact Nat.zero_le _ | exact Nat.le_of_ble_eq_true rfl | exact bdl_no (by assumption) | exact bdl_no (flat_no _) | apply And.intro)⟩⟩

theorem folded_panic (l : List Nat) (hx : ∀ i, i < l.length → l.getD i 0 ≤ 50000) (hl : l.length ≤ 30) (ho : ¬ foOk l) : ∃ m : Int, PureP prog 75 [nl (zl l)] [(.iface 106 (.agg [iv m]), false)] := by
  -- the first number, from the end, that is too great
  have : ∃ k, k < l.length ∧ ¬ (foS (l.drop k)).1 ≤ 50000 ∧ ∀ j, k < j → j < l.length → (foS (l.drop j)).1 ≤ 50000 := by
    have key : ∀ s, s ≤ l.length → (∀ j, l.length - s ≤ j → j < l.length → (foS (l.drop j)).1 ≤ 50000) ∨ ∃ k, k < l.length ∧ ¬ (foS (l.drop k)).1 ≤ 50000 ∧ ∀ j, k < j → j < l.length → (foS (l.drop j)).1 ≤ 50000 := by
      intro s
      induction s with
      | zero => exact fun _ => .inl fun j h1 h2 => by omega
      | succ s ih =>
        intro hs
        rcases ih (by omega) with h | h
        · by_cases k : (foS (l.drop (l.length - (s + 1)))).1 ≤ 50000
          · left
            intro j h1 h2
            by_cases e : j = l.length - (s + 1)
            · subst e; exact k
            · exact h j (by omega) h2
          · right
            exact ⟨l.length - (s + 1), by omega, k, fun j h1 h2 => h j (by omega) h2⟩
        · exact .inr h
    rcases key l.length (Nat.le_refl _) with h | h
    · exact absurd (fun i hi => h i (by omega) hi) ho
    · exact h
  obtain ⟨m, hm, hb, hg⟩ := this
  refine ⟨Int.ofNat (foS (l.drop m)).1, ?_⟩
  have ln := ivs_no (zl l)
  have hz := zl_len l
  refine pureP_sym hE rfl (by repeat' (first | exact trivial | assumption | exact flat_no _ | exact (fun _ h => nomatch h) | apply And.intro)) (by simp [Live, Lives]) fun S q pc hS hq hC hE => ?_
  conv => whnf
  rw [wrapLen (n := (zl l).length) (by omega)]
  refine sym_loop hE hS (A := Nat × Nat × Nat) [0, 2] (fun (i, n, d) => [(3, nv n), (4, nv d), (5, iv ((i : Int) - 1))]) (fun _ => []) (fun (i, n, d) => (i ≤ l.length ∧ m < i) ∧ foS (l.drop i) = (n, d)) (fun (i, _, _) => i) ((zl l).length, 1, 0) rfl rfl ⟨rfl, rfl, rfl, rfl, by repeat' (first | exact trivial | exact rfl | exact Nat.zero_le _ | exact Nat.le_of_ble_eq_true rfl | exact bdl_no (by assumption) | exact bdl_no (flat_no _) | apply And.intro), by repeat' (first | exact trivial | exact rfl | exact Nat.zero_le _ | exact Nat.le_of_ble_eq_true rfl | exact bdl_no (by assumption) | exact bdl_no (flat_no _) | apply And.intro)⟩ ⟨by omega, by rw [List.drop_eq_nil_of_le (by omega)]; rfl⟩ ?_
  rintro ⟨i, n, d⟩ ⟨hi, he⟩
  conv => whnf
  cases i with
  | zero => omega
  | succ k =>
    obtain ⟨h1, h2, h3, h4⟩ := fo_step l hx hi.1 he fun j q h => hg j (by omega) h
    rw [show decide (((k + 1 : Nat) : Int) - 1 ≥ 0) = true from decide_eq_true (by omega)]
    conv => whnf
    refine bool_true (inR_i (show (0 : Int) ≤ ((k + 1 : Nat) : Int) - 1 ∧ ((k + 1 : Nat) : Int) - 1 < ((zl l).length : Int) by omega)) ?_
    conv => whnf
    refine plan_as (nthP (nth_zl (l := l) (k := k) (by omega))) ?_
    conv => whnf
    rw [mulN (a := l.getD k 0) (b := n) (by omega), addN (a := l.getD k 0 * n) (b := d) (by omega), maxN]
    by_cases e : k = m
    · subst e
      rw [h1] at hb
      simp only at hb
      rw [show decide (Int.ofNat (max (l.getD k 0 * n + d) n) > 50000) = true from gtN_t (b := 50000) (by omega)]
      conv => whnf
      rw [h1]
      rfl
    · have h5 := hg k (by omega) (by omega)
      rw [h1] at h5
      simp only at h5
      rw [show decide (Int.ofNat (max (l.getD k 0 * n + d) n) > 50000) = false from gtN_f (b := 50000) (by omega)]
      conv => whnf
      rw [show IntKind.i64.wrap (((k + 1 : Nat) : Int) - 1 - 1) = (k : Int) - 1 by rw [wrapI (by omega) (by omega)]; omega]
      exact ⟨(k, l.getD k 0 * n + d, n), ⟨by omega, h1⟩, by show k < k + 1; omega, ⟨rfl, rfl, rfl, rfl, by repeat' (first | exact trivial | exact rfl | exact Nat.zero_le _ | exact Nat.le_of_ble_eq_true rfl | exact bdl_no (by assumption) | exact bdl_no (flat_no _) | apply And.intro), by repeat' (first | exact trivial | exact rfl | exact Nat.zero_le _ | exact Nat.le_of_ble_eq_true rfl | exact bdl_no (by assumption) | exact bdl_no (flat_no _) | apply And.intro)⟩⟩
end Go.Abs.Seat
