/-
  The law TrainTrue.
-/
import Derived.Test.YtgojpjbbahljeaaGreatDoorT12
/-! The law TrainTrue. -/
namespace Go.Abs.Seat
open Go Go.Abs Go.Proofs.Tryz
set_option maxRecDepth 100000
set_option maxHeartbeats 4000000
attribute [local irreducible] IntKind.wrap pEq

structure TrueIs (o lo hi a z x0 y0 lim t : Int) (m : Nat) : Prop where
  h1 : lo ≤ o
  h2 : o ≤ hi
  h3 : lo = a ∨ lo = a - 1
  h4 : hi = z ∨ hi = z + 1
  h5 : -lim ≤ x0 ∧ x0 ≤ lim
  h6 : m = 10000 ∨ lim ≤ y0 ∨ y0 ≤ -lim
  h7 : (m : Int) < t ∨ (o ≤ lim ∧ -lim ≤ o)
  hm : m ≤ 10000
  hl : 0 ≤ lim ∧ lim ≤ 10800
  ha : -4611686018427387904 < a ∧ a < 4611686018427387904
  hz : -4611686018427387904 < z ∧ z < 4611686018427387904

theorem trainTrue_walk (hk : Pure prog 19 [] (.bool true)) {k : Nat} {xs : List AV} (lx : Lives noL xs) (h8 : (k : Int) ≤ 8) {n d e g p r t lim : Int} (rT : Pure prog 35 [.lst xs k .no] (.bool true))
    (f1 : Pure prog 17 [fv n d] (.bool true)) (f2 : Pure prog 17 [fv e g] (.bool true)) (f3 : Pure prog 17 [fv p r] (.bool true))
    (b1 : Pure prog 23 [fv e g, fv n d] (.bool false)) (b2 : Pure prog 23 [fv p r, fv n d] (.bool false)) (b3 : Pure prog 23 [fv e g, fv p r] (.bool false))
    (pN : Pure prog 43 [iv t] (.bool true)) (pL : Pure prog 45 [iv lim] (.bool true)) {lo hi o a z x0 y0 : Int} {m : Nat}
    (pb : Pure prog 47 [.lst xs k .no, fv n d, fv e g, iv t] (.tup [fv lo hi, iv 0])) (po : Pure prog 41 [.lst xs k .no, fv p r, iv t] (.tup [iv o, iv 0]))
    (pa : Pure prog 41 [.lst xs k .no, fv e g, iv t] (.tup [iv a, iv 0])) (pz : Pure prog 41 [.lst xs k .no, fv n d, iv t] (.tup [iv z, iv 0]))
    (pm : Pure prog 42 [.lst xs k .no, fv p r, iv lim] (.tup [nv m, iv 0])) (px : Pure prog 41 [.lst xs k .no, fv p r, nv m] (.tup [iv x0, iv 0]))
    (py : Pure prog 41 [.lst xs k .no, fv p r, nv (min 10000 (m + 1))] (.tup [iv y0, iv 0])) (T : TrueIs o lo hi a z x0 y0 lim t m) :
    Pure prog 13 [.lst xs k .no, fv n d, fv e g, fv p r, iv t, iv lim] (.bool true) := by
  obtain ⟨h1, h2, h3, h4, h5, h6, h7, hm, hl, ha, hz⟩ := T
  rcases h3 with rfl | rfl <;> rcases h4 with rfl | rfl
  all_goals
    refine pure_sym hE rfl (by repeat' (first | exact trivial | assumption | exact flat_no _ | exact (fun _ h => nomatch h) | apply And.intro)) (by repeat' (first | exact trivial | assumption | exact flat_no _ | exact (fun _ h => nomatch h) | apply And.intro)) fun S q pc hS hq hC hE => ?_
    conv => whnf
    repeat ((first
      | refine sym_pure hC (slim_yes h8) ?_
      | refine sym_pure hC (rT) ?_
      | refine sym_pure hC (f1) ?_
      | refine sym_pure hC (f2) ?_
      | refine sym_pure hC (f3) ?_
      | refine sym_pure hC (b1) ?_
      | refine sym_pure hC (b2) ?_
      | refine sym_pure hC (b3) ?_
      | refine sym_pure hC (pN) ?_
      | refine sym_pure hC (pL) ?_
      | refine sym_pure hC (pb) ?_
      | refine sym_pure hC (po) ?_
      | refine sym_pure hC (pa) ?_
      | refine sym_pure hC (pz) ?_
      | refine sym_drawn hS (by kernel_rfl) ?_
      | refine sym_eq hq true (eqBool_same _ _) ?_
      | rw [beq_self_eq_true]
      | rw [bne_self_eq_false]); conv => whnf)
    rw [show decide (o < _) = false from decide_eq_false (by omega)]
    conv => whnf
    rw [show decide (o > _) = false from decide_eq_false (by omega)]
    conv => whnf
    first
      | (rw [show (a - 1 != a) = true from bne_iff_ne.2 (by omega)]; conv => whnf)
      | skip
    first
      | (rw [show IntKind.i64.wrap (a - 1) = a - 1 from wrapI (by omega) (by omega)])
      | skip
    repeat ((first
      | refine sym_pure hC (hk) ?_
      | refine sym_drawn hS (by kernel_rfl) ?_
      | refine sym_eq hq true (eqBool_same _ _) ?_
      | rw [beq_self_eq_true]
      | rw [bne_self_eq_false]); conv => whnf)
    first
      | (rw [show (z + 1 != z) = true from bne_iff_ne.2 (by omega)]; conv => whnf)
      | skip
    first
      | (rw [show IntKind.i64.wrap (z + 1) = z + 1 from wrapI (by omega) (by omega)])
      | skip
    repeat ((first
      | refine sym_pure hC (hk) ?_
      | refine sym_drawn hS (by kernel_rfl) ?_
      | refine sym_eq hq true (eqBool_same _ _) ?_
      | rw [beq_self_eq_true]
      | rw [bne_self_eq_false]); conv => whnf)
    refine sym_pure hC (pm) ?_
    conv => whnf
    rw [show decide (Int.ofNat m > 10000) = false from gtN_f (b := 10000) (by omega)]
    conv => whnf
    refine sym_pure hC (px) ?_
    conv => whnf
    rw [show IntKind.i64.wrap (Int.ofNat m + 1) = Int.ofNat (m + 1) from wrapN (m := m + 1) (by omega), minI_T]
    refine sym_pure hC (py) ?_
    conv => whnf
    rw [show decide (x0 > lim) = false from decide_eq_false (by omega)]
    conv => whnf
    rw [show IntKind.i64.wrap (0 - lim) = 0 - lim from wrapI (by omega) (by omega)]
    rw [show decide (x0 < 0 - lim) = false from decide_eq_false (by omega)]
    conv => whnf
    by_cases m1 : m = 10000
    · rw [show (Int.ofNat m == 10000) = true from eqN_t (b := 10000) m1]
      conv => whnf
      by_cases m0 : m = 0
      · rw [show (Int.ofNat m == 0) = true from eqN_t (b := 0) m0]
        conv => whnf
        repeat ((first
          | refine sym_pure hC (hk) ?_
          | refine sym_drawn hS (by kernel_rfl) ?_
          | refine sym_eq hq true (eqBool_same _ _) ?_
          | rw [beq_self_eq_true]
          | rw [bne_self_eq_false]); conv => whnf)
        exact ⟨_, rfl, Wk.refl _⟩
      · rw [show (Int.ofNat m == 0) = false from eqN_f (b := 0) m0]
        conv => whnf
        by_cases tm : t > Int.ofNat m
        · rw [decide_eq_true tm]
          conv => whnf
          repeat ((first
            | refine sym_pure hC (hk) ?_
            | refine sym_drawn hS (by kernel_rfl) ?_
            | refine sym_eq hq true (eqBool_same _ _) ?_
            | rw [beq_self_eq_true]
            | rw [bne_self_eq_false]); conv => whnf)
          exact ⟨_, rfl, Wk.refl _⟩
        · rw [decide_eq_false tm]
          conv => whnf
          have tm : ¬ (m : Int) < t := tm
          rw [show decide (o ≤ lim) = true from decide_eq_true (by omega)]
          conv => whnf
          rw [show IntKind.i64.wrap (0 - lim) = 0 - lim from wrapI (by omega) (by omega)]
          rw [show decide (o ≥ 0 - lim) = true from decide_eq_true (by omega)]
          conv => whnf
          repeat ((first
            | refine sym_pure hC (hk) ?_
            | refine sym_drawn hS (by kernel_rfl) ?_
            | refine sym_eq hq true (eqBool_same _ _) ?_
            | rw [beq_self_eq_true]
            | rw [bne_self_eq_false]); conv => whnf)
          exact ⟨_, rfl, Wk.refl _⟩
    · rw [show (Int.ofNat m == 10000) = false from eqN_f (b := 10000) m1]
      conv => whnf
      by_cases y1 : y0 ≥ lim
      · rw [decide_eq_true y1]
        conv => whnf
        by_cases m0 : m = 0
        · rw [show (Int.ofNat m == 0) = true from eqN_t (b := 0) m0]
          conv => whnf
          repeat ((first
            | refine sym_pure hC (hk) ?_
            | refine sym_drawn hS (by kernel_rfl) ?_
            | refine sym_eq hq true (eqBool_same _ _) ?_
            | rw [beq_self_eq_true]
            | rw [bne_self_eq_false]); conv => whnf)
          exact ⟨_, rfl, Wk.refl _⟩
        · rw [show (Int.ofNat m == 0) = false from eqN_f (b := 0) m0]
          conv => whnf
          by_cases tm : t > Int.ofNat m
          · rw [decide_eq_true tm]
            conv => whnf
            repeat ((first
              | refine sym_pure hC (hk) ?_
              | refine sym_drawn hS (by kernel_rfl) ?_
              | refine sym_eq hq true (eqBool_same _ _) ?_
              | rw [beq_self_eq_true]
              | rw [bne_self_eq_false]); conv => whnf)
            exact ⟨_, rfl, Wk.refl _⟩
          · rw [decide_eq_false tm]
            conv => whnf
            have tm : ¬ (m : Int) < t := tm
            rw [show decide (o ≤ lim) = true from decide_eq_true (by omega)]
            conv => whnf
            rw [show IntKind.i64.wrap (0 - lim) = 0 - lim from wrapI (by omega) (by omega)]
            rw [show decide (o ≥ 0 - lim) = true from decide_eq_true (by omega)]
            conv => whnf
            repeat ((first
              | refine sym_pure hC (hk) ?_
              | refine sym_drawn hS (by kernel_rfl) ?_
              | refine sym_eq hq true (eqBool_same _ _) ?_
              | rw [beq_self_eq_true]
              | rw [bne_self_eq_false]); conv => whnf)
            exact ⟨_, rfl, Wk.refl _⟩
      · rw [decide_eq_false y1]
        conv => whnf
        rw [show IntKind.i64.wrap (0 - lim) = 0 - lim from wrapI (by omega) (by omega)]
        rw [show decide (y0 ≤ 0 - lim) = true from decide_eq_true (by omega)]
        conv => whnf
        by_cases m0 : m = 0
        · rw [show (Int.ofNat m == 0) = true from eqN_t (b := 0) m0]
          conv => whnf
          repeat ((first
            | refine sym_pure hC (hk) ?_
            | refine sym_drawn hS (by kernel_rfl) ?_
            | refine sym_eq hq true (eqBool_same _ _) ?_
            | rw [beq_self_eq_true]
            | rw [bne_self_eq_false]); conv => whnf)
          exact ⟨_, rfl, Wk.refl _⟩
        · rw [show (Int.ofNat m == 0) = false from eqN_f (b := 0) m0]
          conv => whnf
          by_cases tm : t > Int.ofNat m
          · rw [decide_eq_true tm]
            conv => whnf
            repeat ((first
              | refine sym_pure hC (hk) ?_
              | refine sym_drawn hS (by kernel_rfl) ?_
              | refine sym_eq hq true (eqBool_same _ _) ?_
              | rw [beq_self_eq_true]
              | rw [bne_self_eq_false]); conv => whnf)
            exact ⟨_, rfl, Wk.refl _⟩
          · rw [decide_eq_false tm]
            conv => whnf
            have tm : ¬ (m : Int) < t := tm
            rw [show decide (o ≤ lim) = true from decide_eq_true (by omega)]
            conv => whnf
            rw [show IntKind.i64.wrap (0 - lim) = 0 - lim from wrapI (by omega) (by omega)]
            rw [show decide (o ≥ 0 - lim) = true from decide_eq_true (by omega)]
            conv => whnf
            repeat ((first
              | refine sym_pure hC (hk) ?_
              | refine sym_drawn hS (by kernel_rfl) ?_
              | refine sym_eq hq true (eqBool_same _ _) ?_
              | rw [beq_self_eq_true]
              | rw [bne_self_eq_false]); conv => whnf)
            exact ⟨_, rfl, Wk.refl _⟩

/-! The numbers. -/

theorem nat_dm (a b : Nat) (hb : 1 ≤ b) : (a / b * b ≤ a ∧ a < (a / b + 1) * b) ∧ (a ≤ (a / b + if a % b = 0 then 0 else 1) * b ∧ (a % b ≠ 0 → a / b * b < a)) := by
  have h1 := Nat.div_add_mod a b
  have h2 := Nat.mod_lt a hb
  have e : a / b * b = b * (a / b) := Nat.mul_comm _ _
  refine ⟨⟨by omega, by rw [Nat.add_mul]; omega⟩, ?_, by omega⟩
  split
  · rw [Nat.add_zero]; omega
  · rw [Nat.add_mul]; omega

theorem dnV_fl (P Q b : Nat) (hb : 1 ≤ b) : dnV P Q b * b ≤ (P : Int) - Q ∧ (P : Int) - Q < (dnV P Q b + 1) * b := by
  have k1 := nat_dm (P - Q) b hb
  have k2 := nat_dm (Q - P) b hb
  unfold dnV
  generalize hc : (if (Q - P) % b = 0 then 0 else 1) = c at *
  generalize hA : (P - Q) / b = A at *
  generalize hB : (Q - P) / b = B at *
  show (((A : Nat) : Int) - ((B + c : Nat) : Int)) * b ≤ _ ∧ _ < (((A : Nat) : Int) - ((B + c : Nat) : Int) + 1) * b
  by_cases h : Q ≤ P
  · have e0 : Q - P = 0 := by omega
    rw [e0] at hB hc k2
    rw [Nat.zero_div] at hB
    rw [Nat.zero_mod, if_pos rfl] at hc
    subst hB; subst hc
    have e1 : (((A : Nat) : Int) - ((0 + 0 : Nat) : Int)) = A := by omega
    rw [e1]
    have q1 : ((A * b : Nat) : Int) ≤ ((P - Q : Nat) : Int) := Int.ofNat_le.2 k1.1.1
    have q2 : ((P - Q : Nat) : Int) < (((A + 1) * b : Nat) : Int) := Int.ofNat_lt.2 k1.1.2
    rw [Int.natCast_mul] at q1 q2
    rw [Int.natCast_add] at q2
    have e2 : ((P - Q : Nat) : Int) = (P : Int) - Q := by omega
    rw [e2] at q1 q2
    exact ⟨q1, q2⟩
  · have e0 : P - Q = 0 := by omega
    rw [e0, Nat.zero_div] at hA
    subst hA
    have e1 : (((0 : Nat) : Int) - ((B + c : Nat) : Int)) = -((B + c : Nat) : Int) := by omega
    rw [e1]
    have q1 : ((Q - P : Nat) : Int) ≤ (((B + c) * b : Nat) : Int) := Int.ofNat_le.2 k2.2.1
    rw [Int.natCast_mul] at q1
    have e2 : ((Q - P : Nat) : Int) = (Q : Int) - P := by omega
    rw [e2] at q1
    refine ⟨by rw [Int.neg_mul]; omega, ?_⟩
    have q2 : (((B + c - 1) * b : Nat) : Int) < ((Q - P : Nat) : Int) ∨ (B + c = 0 ∧ False) := by
      left
      refine Int.ofNat_lt.2 ?_
      by_cases hm : (Q - P) % b = 0
      · rw [if_pos hm] at hc
        subst hc
        have hB1 : 1 ≤ B := by
          cases B with
          | zero =>
            have := Nat.div_add_mod (Q - P) b
            rw [hB, hm] at this
            omega
          | succ B => omega
        have : (B + 0 - 1) * b < B * b := Nat.mul_lt_mul_of_pos_right (by omega) hb
        omega
      · rw [if_neg hm] at hc
        subst hc
        have := k2.2.2 hm
        rw [Nat.add_sub_cancel]
        exact this
    rcases q2 with q2 | ⟨_, h⟩
    · rw [Int.natCast_mul, e2] at q2
      have hBc : 1 ≤ B + c := by
        cases hBc : B + c with
        | zero =>
          rw [hBc] at q1
          simp at q1
          omega
        | succ _ => omega
      have e3 : ((B + c - 1 : Nat) : Int) = ((B + c : Nat) : Int) - 1 := by omega
      rw [e3] at q2
      have e4 : (-((B + c : Nat) : Int) + 1) * (b : Int) = -((((B + c : Nat) : Int) - 1) * b) := by rw [← Int.neg_mul]; congr 1; omega
      rw [e4]
      omega
    · exact h.elim

theorem upV_neg (P Q b : Nat) : upV P Q b = -dnV Q P b := by
  unfold upV dnV
  show ((_ : Nat) : Int) - ((_ : Nat) : Int) = -(((_ : Nat) : Int) - ((_ : Nat) : Int))
  omega
theorem trV_neg (P Q b : Nat) : trV P Q b = -trV Q P b := by
  unfold trV
  show ((_ : Nat) : Int) - ((_ : Nat) : Int) = -(((_ : Nat) : Int) - ((_ : Nat) : Int))
  omega
theorem dn_le_tr (P Q b : Nat) : dnV P Q b ≤ trV P Q b := by
  have h := @dn_of P Q b
  by_cases k : P < Q ∧ (Q - P) % b ≠ 0
  · have := h.1 k; omega
  · have := h.2 k; omega

theorem fl_le {D1 B1 r D B g lo dn : Int} (e : B1 * r = B * g) (hp : 0 < B1 * r) (hr : 0 ≤ r) (hg : 0 < g) (h1 : lo * B1 ≤ D1) (h2 : D1 * r ≤ D * g) (h3 : D < (dn + 1) * B) : lo ≤ dn := by
  have k1 : lo * B1 * r ≤ D1 * r := Int.mul_le_mul_of_nonneg_right h1 hr
  have k2 : D * g < (dn + 1) * B * g := Int.mul_lt_mul_of_pos_right h3 hg
  have k3 : lo * (B1 * r) < (dn + 1) * (B1 * r) := by
    rw [← Int.mul_assoc]
    refine Int.lt_of_le_of_lt (Int.le_trans k1 h2) ?_
    rw [e, ← Int.mul_assoc]
    exact k2
  have := Int.lt_of_mul_lt_mul_right k3 (Int.le_of_lt hp)
  omega

theorem tr_gap {P Q b lim : Nat} (h : gapN P Q ≤ lim * b) (_hb : 1 ≤ b) : -(lim : Int) ≤ trV P Q b ∧ trV P Q b ≤ lim := by
  unfold gapN at h
  have h1 : (P - Q) / b ≤ lim := Nat.div_le_of_le_mul (by rw [Nat.mul_comm]; omega)
  have h2 : (Q - P) / b ≤ lim := Nat.div_le_of_le_mul (by rw [Nat.mul_comm]; omega)
  unfold trV
  generalize (P - Q) / b = A at *
  generalize (Q - P) / b = Z at *
  show -(lim : Int) ≤ (A : Int) - (Z : Int) ∧ (A : Int) - (Z : Int) ≤ lim
  omega
theorem tr_gap' {P Q b lim : Nat} (h : ¬ gapN P Q ≤ lim * b) (hb : 1 ≤ b) : (lim : Int) ≤ trV P Q b ∨ trV P Q b ≤ -(lim : Int) := by
  unfold gapN at h
  by_cases k : Q ≤ P
  · left
    have h1 : lim ≤ (P - Q) / b := (Nat.le_div_iff_mul_le hb).2 (by omega)
    unfold trV
    rw [show Q - P = 0 by omega, Nat.zero_div]
    show (lim : Int) ≤ ((_ : Nat) : Int) - ((0 : Nat) : Int)
    omega
  · right
    have h1 : lim ≤ (Q - P) / b := (Nat.le_div_iff_mul_le hb).2 (by omega)
    unfold trV
    rw [show P - Q = 0 by omega, Nat.zero_div]
    show ((0 : Nat) : Int) - ((_ : Nat) : Int) ≤ -(lim : Int)
    omega

/-- The difference of two targets, made comparable. -/
theorem dif_le_of {x y e g p r t : Nat} (h : p * g ≤ e * r) : ((offP x g t : Int) - offQ y e t) * r ≤ ((offP x r t : Int) - offQ y p t) * g := by
  unfold offP offQ
  have h1 : p * g * (y * t * 21600) ≤ e * r * (y * t * 21600) := Nat.mul_le_mul_right _ h
  have h2 : ((p * g * (y * t * 21600) : Nat) : Int) ≤ ((e * r * (y * t * 21600) : Nat) : Int) := Int.ofNat_le.2 h1
  simp only [Int.natCast_mul] at h2 ⊢
  grind

theorem trueIs {x y n d e g p r t lim : Nat} (hx : 1 ≤ x ∧ x ≤ 216000) (hy : 1 ≤ y ∧ y ≤ 216000) (hn : n ≤ 50000) (hd : 1 ≤ d ∧ d ≤ 50000) (he : e ≤ 50000) (hg : 1 ≤ g ∧ g ≤ 50000) (_hp : p ≤ 50000) (hr : 1 ≤ r ∧ r ≤ 50000)
    (ht : t ≤ 10000) (hl : lim ≤ 10800) (h1 : ¬ p * d < n * r) (h2 : ¬ e * r < p * g) :
    TrueIs (offV x y p r t) (dnV (offP x g t) (offQ y e t) (y * g)) (upV (offP x d t) (offQ y n t) (y * d)) (offV x y e g t) (offV x y n d t) (offV x y p r (lastV x y p r lim)) (offV x y p r (min 10000 (lastV x y p r lim + 1))) lim t (lastV x y p r lim) where
  h1 := by
    have hyg : 1 ≤ y * g := Nat.mul_pos hy.1 hg.1
    have hyr : 1 ≤ y * r := Nat.mul_pos hy.1 hr.1
    refine Int.le_trans (fl_le (r := r) (g := g) ?_ ?_ (by omega) (by omega) (dnV_fl _ _ _ hyg).1 (dif_le_of (p := p) (r := r) (by omega)) (dnV_fl _ _ _ hyr).2) (dn_le_tr _ _ _)
    · simp only [Int.natCast_mul]; grind
    · have : 0 < y * g * r := Nat.mul_pos hyg hr.1
      exact Int.ofNat_lt.2 this
  h2 := by
    have hyd : 1 ≤ y * d := Nat.mul_pos hy.1 hd.1
    have hyr : 1 ≤ y * r := Nat.mul_pos hy.1 hr.1
    have k := dif_le_of (x := x) (y := y) (t := t) (e := p) (g := r) (p := n) (r := d) (by omega)
    rw [upV_neg, offV, trV_neg]
    have : dnV (offQ y n t) (offP x d t) (y * d) ≤ trV (offQ y p t) (offP x r t) (y * r) := by
      refine Int.le_trans (fl_le (r := r) (g := d) ?_ ?_ (by omega) (by omega) (dnV_fl _ _ _ hyd).1 ?_ (dnV_fl _ _ _ hyr).2) (dn_le_tr _ _ _)
      · simp only [Int.natCast_mul]; grind
      · have : 0 < y * d * r := Nat.mul_pos hyd hr.1
        exact Int.ofNat_lt.2 this
      · grind
    omega
  h3 := by
    have h := @dn_of (offP x g t) (offQ y e t) (y * g)
    unfold offV
    by_cases k : offP x g t < offQ y e t ∧ (offQ y e t - offP x g t) % (y * g) ≠ 0
    · right; have := h.1 k; omega
    · left; have := h.2 k; omega
  h4 := by
    have h := @up_of (offP x d t) (offQ y n t) (y * d)
    unfold offV
    by_cases k : offQ y n t < offP x d t ∧ (offP x d t - offQ y n t) % (y * d) ≠ 0
    · right; have := h.1 k; omega
    · left; have := h.2 k; omega
  h5 := tr_gap ((wi_iff x y p r lim _ (lastV_le ..)).2 (Nat.le_refl _)) (Nat.mul_pos hy.1 hr.1)
  h6 := by
    have hle := lastV_le x y p r lim
    by_cases k : lastV x y p r lim = 10000
    · exact .inl k
    · right
      rw [show min 10000 (lastV x y p r lim + 1) = lastV x y p r lim + 1 by omega]
      exact tr_gap' (fun q => by have := (wi_iff x y p r lim _ (by omega)).1 q; omega) (Nat.mul_pos hy.1 hr.1)
  h7 := by
    by_cases k : lastV x y p r lim < t
    · exact .inl (by omega)
    · right
      have := tr_gap ((wi_iff x y p r lim t ht).2 (by omega)) (Nat.mul_pos hy.1 hr.1)
      exact ⟨this.2, this.1⟩
  hm := lastV_le ..
  hl := by omega
  ha := by
    have b := off_le he hg.2 hx.2 hy.2 ht
    unfold offV
    have k1 := Nat.div_le_self (offP x g t - offQ y e t) (y * g)
    have k2 := Nat.div_le_self (offQ y e t - offP x g t) (y * g)
    have k3 : offP x g t < 4611686018427387904 := by unfold offP; omega
    have k4 : offQ y e t < 4611686018427387904 := by unfold offQ; omega
    unfold trV
    generalize (offP x g t - offQ y e t) / (y * g) = A at *
    generalize (offQ y e t - offP x g t) / (y * g) = Z at *
    show -_ < (A : Int) - (Z : Int) ∧ (A : Int) - (Z : Int) < _
    omega
  hz := by
    have b := off_le hn hd.2 hx.2 hy.2 ht
    unfold offV
    have k1 := Nat.div_le_self (offP x d t - offQ y n t) (y * d)
    have k2 := Nat.div_le_self (offQ y n t - offP x d t) (y * d)
    have k3 : offP x d t < 4611686018427387904 := by unfold offP; omega
    have k4 : offQ y n t < 4611686018427387904 := by unfold offQ; omega
    unfold trV
    generalize (offP x d t - offQ y n t) / (y * d) = A at *
    generalize (offQ y n t - offP x d t) / (y * d) = Z at *
    show -_ < (A : Int) - (Z : Int) ∧ (A : Int) - (Z : Int) < _
    omega

theorem trainTrue_yes (hk : Pure prog 19 [] (.bool true)) {v : AV} {k x y : Nat} (hv : TV v k x y) (n d e g p r t lim : Nat) (hn : n ≤ 50000) (hd : 1 ≤ d ∧ d ≤ 50000) (he : e ≤ 50000) (hg : 1 ≤ g ∧ g ≤ 50000) (hp : p ≤ 50000) (hr : 1 ≤ r ∧ r ≤ 50000)
    (ht : t ≤ 10000) (hl : lim ≤ 10800) (h0 : ¬ e * d < n * g) (h1 : ¬ p * d < n * r) (h2 : ¬ e * r < p * g) :
    Pure prog 13 [v, fv (Int.ofNat n) (Int.ofNat d), fv (Int.ofNat e) (Int.ofNat g), fv (Int.ofNat p) (Int.ofNat r), nv t, nv lim] (.bool true) := by
  have k3 := hv.k1
  have c1 : n * g ≤ 50000 * 50000 := Nat.mul_le_mul hn hg.2
  have c2 : e * d ≤ 50000 * 50000 := Nat.mul_le_mul he hd.2
  have c3 : p * d ≤ 50000 * 50000 := Nat.mul_le_mul hp hd.2
  have c4 : n * r ≤ 50000 * 50000 := Nat.mul_le_mul hn hr.2
  have c5 : e * r ≤ 50000 * 50000 := Nat.mul_le_mul he hr.2
  have c6 : p * g ≤ 50000 * 50000 := Nat.mul_le_mul hp hg.2
  have T := trueIs hv.bx hv.by_ hn hd he hg hp hr ht hl h1 h2
  have rT := hv.rT
  have pb := between_pure hv n d e g t hn hd he hg h0 ht
  have po := off_pure hv p r t hp hr ht
  have pa := off_pure hv e g t he hg ht
  have pz := off_pure hv n d t hn hd ht
  have pm := lasts_pure hv p r lim hp hr hl
  have px := off_pure hv p r (lastV x y p r lim) hp hr (lastV_le ..)
  have py := off_pure hv p r (min 10000 (lastV x y p r lim + 1)) hp hr (by omega)
  obtain ⟨xs, rfl, lx⟩ := hv.sh
  exact trainTrue_walk hk lx (by omega) rT (dec_t (rFraction_pure _ _) (isF_N hn hd.1 hd.2)) (dec_t (rFraction_pure _ _) (isF_N he hg.1 hg.2)) (dec_t (rFraction_pure _ _) (isF_N hp hr.1 hr.2))
    (dec_f (rBelow_pure e g n d (by omega) (by omega)) h0) (dec_f (rBelow_pure p r n d (by omega) (by omega)) h1) (dec_f (rBelow_pure e g p r (by omega) (by omega)) h2)
    (dec_t (rNumber_pure _) (rng (by omega))) (dec_t (rLimit_pure _) (rng (by omega))) pb po pa pz pm px py T

theorem trainTrue_below (hk : Pure prog 19 [] (.bool true)) {v : AV} {k x y : Nat} (hv : TV v k x y) (n d e g p r : Nat) (t lim : Int) (hn : n ≤ 50000) (hd : 1 ≤ d ∧ d ≤ 50000) (he : e ≤ 50000) (hg : 1 ≤ g ∧ g ≤ 50000) (hp : p ≤ 50000) (hr : 1 ≤ r ∧ r ≤ 50000)
    (h : ¬ ((0 ≤ t ∧ t ≤ 10000) ∧ (0 ≤ lim ∧ lim ≤ 10800) ∧ ¬ e * d < n * g ∧ ¬ p * d < n * r ∧ ¬ e * r < p * g)) :
    Pure prog 13 [v, fv (Int.ofNat n) (Int.ofNat d), fv (Int.ofNat e) (Int.ofNat g), fv (Int.ofNat p) (Int.ofNat r), iv t, iv lim] (.bool true) := by
  have k3 := hv.k1
  have c1 : n * g ≤ 50000 * 50000 := Nat.mul_le_mul hn hg.2
  have c2 : e * d ≤ 50000 * 50000 := Nat.mul_le_mul he hd.2
  have c3 : p * d ≤ 50000 * 50000 := Nat.mul_le_mul hp hd.2
  have c4 : n * r ≤ 50000 * 50000 := Nat.mul_le_mul hn hr.2
  have c5 : e * r ≤ 50000 * 50000 := Nat.mul_le_mul he hr.2
  have c6 : p * g ≤ 50000 * 50000 := Nat.mul_le_mul hp hg.2
  have rT := hv.rT
  have f1 := dec_t (rFraction_pure _ _) (isF_N hn hd.1 hd.2)
  have f2 := dec_t (rFraction_pure _ _) (isF_N he hg.1 hg.2)
  have f3 := dec_t (rFraction_pure _ _) (isF_N hp hr.1 hr.2)
  obtain ⟨b1, p1, i1⟩ := dec_b (rBelow_pure e g n d (by omega) (by omega))
  obtain ⟨b2, p2, i2⟩ := dec_b (rBelow_pure p r n d (by omega) (by omega))
  obtain ⟨b3, p3, i3⟩ := dec_b (rBelow_pure e g p r (by omega) (by omega))
  obtain ⟨bN, pN, iN⟩ := dec_b (rNumber_pure t)
  obtain ⟨bL, pL, iL⟩ := dec_b (rLimit_pure lim)
  obtain ⟨xs, rfl, lx⟩ := hv.sh
  refine pure_sym hE rfl (by repeat' (first | exact trivial | assumption | exact flat_no _ | exact (fun _ h => nomatch h) | apply And.intro)) (by repeat' (first | exact trivial | assumption | exact flat_no _ | exact (fun _ h => nomatch h) | apply And.intro)) fun S q pc hS hq hC hE => ?_
  conv => whnf
  repeat ((first
    | refine sym_pure hC (slim_yes (by omega)) ?_
    | refine sym_pure hC (rT) ?_
    | refine sym_pure hC (f1) ?_
    | refine sym_pure hC (f2) ?_
    | refine sym_drawn hS (by kernel_rfl) ?_
    | refine sym_eq hq true (eqBool_same _ _) ?_
    | rw [beq_self_eq_true]
    | rw [bne_self_eq_false]); conv => whnf)
  repeat ((first
    | refine sym_pure hC (p1) ?_
    | refine sym_drawn hS (by kernel_rfl) ?_
    | refine sym_eq hq true (eqBool_same _ _) ?_
    | rw [beq_self_eq_true]
    | rw [bne_self_eq_false]); conv => whnf)
  cases b1
  case true =>
    conv => whnf
    repeat ((first
      | refine sym_pure hC (hk) ?_
      | refine sym_drawn hS (by kernel_rfl) ?_
      | refine sym_eq hq true (eqBool_same _ _) ?_
      | rw [beq_self_eq_true]
      | rw [bne_self_eq_false]); conv => whnf)
    exact ⟨_, rfl, Wk.refl _⟩
  conv => whnf
  repeat ((first
    | refine sym_pure hC (f3) ?_
    | refine sym_pure hC (p2) ?_
    | refine sym_drawn hS (by kernel_rfl) ?_
    | refine sym_eq hq true (eqBool_same _ _) ?_
    | rw [beq_self_eq_true]
    | rw [bne_self_eq_false]); conv => whnf)
  cases b2
  case true =>
    conv => whnf
    repeat ((first
      | refine sym_pure hC (hk) ?_
      | refine sym_drawn hS (by kernel_rfl) ?_
      | refine sym_eq hq true (eqBool_same _ _) ?_
      | rw [beq_self_eq_true]
      | rw [bne_self_eq_false]); conv => whnf)
    exact ⟨_, rfl, Wk.refl _⟩
  conv => whnf
  repeat ((first
    | refine sym_pure hC (p3) ?_
    | refine sym_drawn hS (by kernel_rfl) ?_
    | refine sym_eq hq true (eqBool_same _ _) ?_
    | rw [beq_self_eq_true]
    | rw [bne_self_eq_false]); conv => whnf)
  cases b3
  case true =>
    conv => whnf
    repeat ((first
      | refine sym_pure hC (hk) ?_
      | refine sym_drawn hS (by kernel_rfl) ?_
      | refine sym_eq hq true (eqBool_same _ _) ?_
      | rw [beq_self_eq_true]
      | rw [bne_self_eq_false]); conv => whnf)
    exact ⟨_, rfl, Wk.refl _⟩
  conv => whnf
  repeat ((first
    | refine sym_pure hC (pN) ?_
    | refine sym_drawn hS (by kernel_rfl) ?_
    | refine sym_eq hq true (eqBool_same _ _) ?_
    | rw [beq_self_eq_true]
    | rw [bne_self_eq_false]); conv => whnf)
  cases bN
  case false =>
    conv => whnf
    repeat ((first
      | refine sym_pure hC (hk) ?_
      | refine sym_drawn hS (by kernel_rfl) ?_
      | refine sym_eq hq true (eqBool_same _ _) ?_
      | rw [beq_self_eq_true]
      | rw [bne_self_eq_false]); conv => whnf)
    exact ⟨_, rfl, Wk.refl _⟩
  conv => whnf
  repeat ((first
    | refine sym_pure hC (pL) ?_
    | refine sym_drawn hS (by kernel_rfl) ?_
    | refine sym_eq hq true (eqBool_same _ _) ?_
    | rw [beq_self_eq_true]
    | rw [bne_self_eq_false]); conv => whnf)
  cases bL
  case false =>
    conv => whnf
    repeat ((first
      | refine sym_pure hC (hk) ?_
      | refine sym_drawn hS (by kernel_rfl) ?_
      | refine sym_eq hq true (eqBool_same _ _) ?_
      | rw [beq_self_eq_true]
      | rw [bne_self_eq_false]); conv => whnf)
    exact ⟨_, rfl, Wk.refl _⟩
  exact absurd ⟨iN.1 rfl, iL.1 rfl, (fun q => nomatch i1.2 q), (fun q => nomatch i2.2 q), fun q => nomatch i3.2 q⟩ h

/-- TrainTrue, of whatever input. -/
theorem trainTrue (hk : Pure prog 19 [] (.bool true)) {v : AV} {k : Nat} (hv : (∃ x y, TV v k x y) ∨ TN v k) (n d e g p r t lim : Int) :
    Pure prog 13 [v, fv n d, fv e g, fv p r, iv t, iv lim] (.bool true) := by
  obtain ⟨b, sv, hx⟩ := ts_of hv
  have lv := sv.no
  by_cases h8 : k ≤ 8
  · have rT := sv.rT h8
    obtain ⟨bF, pF, iF⟩ := dec_b (rFraction_pure n d)
    obtain ⟨bG, pG, iG⟩ := dec_b (rFraction_pure e g)
    obtain ⟨bP, pP, iP⟩ := dec_b (rFraction_pure p r)
    cases h : (b && bF && bG && bP) with
    | true =>
      simp only [Bool.and_eq_true] at h
      obtain ⟨⟨⟨rfl, rfl⟩, rfl⟩, rfl⟩ := h
      obtain ⟨x, y, tv⟩ := hx rfl
      obtain ⟨n, d, rfl, rfl, q1, q2, q3⟩ := isF_nat (iF.1 rfl)
      obtain ⟨e, g, rfl, rfl, q4, q5, q6⟩ := isF_nat (iG.1 rfl)
      obtain ⟨p, r, rfl, rfl, q7, q8, q9⟩ := isF_nat (iP.1 rfl)
      by_cases hh : (0 ≤ t ∧ t ≤ 10000) ∧ (0 ≤ lim ∧ lim ≤ 10800) ∧ ¬ e * d < n * g ∧ ¬ p * d < n * r ∧ ¬ e * r < p * g
      · obtain ⟨t, rfl, w1⟩ := int_nat hh.1
        obtain ⟨lim, rfl, w2⟩ := int_nat hh.2.1
        exact trainTrue_yes hk tv n d e g p r t lim q1 ⟨q2, q3⟩ q4 ⟨q5, q6⟩ q7 ⟨q8, q9⟩ (by omega) (by omega) hh.2.2.1 hh.2.2.2.1 hh.2.2.2.2
      · exact trainTrue_below hk tv n d e g p r t lim q1 ⟨q2, q3⟩ q4 ⟨q5, q6⟩ q7 ⟨q8, q9⟩ hh
    | false =>
      by_cases hfg : (b && bF && bG) = true
      · simp only [Bool.and_eq_true] at hfg
        obtain ⟨⟨rfl, rfl⟩, rfl⟩ := hfg
        obtain rfl : bP = false := h
        obtain ⟨x, y, tv⟩ := hx rfl
        obtain ⟨n, d, rfl, rfl, q1, q2, q3⟩ := isF_nat (iF.1 rfl)
        obtain ⟨e, g, rfl, rfl, q4, q5, q6⟩ := isF_nat (iG.1 rfl)
        have c1 : n * g ≤ 50000 * 50000 := Nat.mul_le_mul q1 q6
        have c2 : e * d ≤ 50000 * 50000 := Nat.mul_le_mul q4 q3
        obtain ⟨b1, p1, i1⟩ := dec_b (rBelow_pure e g n d (by omega) (by omega))
        obtain ⟨xs, rfl, lx⟩ := tv.sh
        refine pure_sym hE rfl (by repeat' (first | exact trivial | assumption | exact flat_no _ | exact (fun _ h => nomatch h) | apply And.intro)) (by repeat' (first | exact trivial | assumption | exact flat_no _ | exact (fun _ h => nomatch h) | apply And.intro)) fun S q pc hS hq hC hE => ?_
        conv => whnf
        repeat ((first
          | refine sym_pure hC (slim_yes (by omega)) ?_
          | refine sym_pure hC (rT) ?_
          | refine sym_pure hC (pF) ?_
          | refine sym_pure hC (pG) ?_
          | refine sym_pure hC (p1) ?_
          | refine sym_drawn hS (by kernel_rfl) ?_
          | refine sym_eq hq true (eqBool_same _ _) ?_
          | rw [beq_self_eq_true]
          | rw [bne_self_eq_false]); conv => whnf)
        cases b1
        · conv => whnf
          repeat ((first
            | refine sym_pure hC (pP) ?_
            | refine sym_pure hC (hk) ?_
            | refine sym_drawn hS (by kernel_rfl) ?_
            | refine sym_eq hq true (eqBool_same _ _) ?_
            | rw [beq_self_eq_true]
            | rw [bne_self_eq_false]); conv => whnf)
          exact ⟨_, rfl, Wk.refl _⟩
        · conv => whnf
          repeat ((first
            | refine sym_pure hC (hk) ?_
            | refine sym_drawn hS (by kernel_rfl) ?_
            | refine sym_eq hq true (eqBool_same _ _) ?_
            | rw [beq_self_eq_true]
            | rw [bne_self_eq_false]); conv => whnf)
          exact ⟨_, rfl, Wk.refl _⟩
      · clear h
        rcases sv.sh with ⟨rfl, rfl⟩ | ⟨xs, rfl, lx⟩
        all_goals
          refine pure_sym hE rfl (by repeat' (first | exact trivial | assumption | exact flat_no _ | exact (fun _ h => nomatch h) | apply And.intro)) (by repeat' (first | exact trivial | assumption | exact flat_no _ | exact (fun _ h => nomatch h) | apply And.intro)) fun S q pc hS hq hC hE => ?_
          conv => whnf
          repeat ((first
            | refine sym_pure hC (slim_yes (by omega)) ?_
            | refine sym_pure hC (rT) ?_
            | refine sym_drawn hS (by kernel_rfl) ?_
            | refine sym_eq hq true (eqBool_same _ _) ?_
            | rw [beq_self_eq_true]
            | rw [bne_self_eq_false]); conv => whnf)
          cases b
          · conv => whnf
            repeat ((first
              | refine sym_pure hC (hk) ?_
              | refine sym_drawn hS (by kernel_rfl) ?_
              | refine sym_eq hq true (eqBool_same _ _) ?_
              | rw [beq_self_eq_true]
              | rw [bne_self_eq_false]); conv => whnf)
            exact ⟨_, rfl, Wk.refl _⟩
          · conv => whnf
            repeat ((first
              | refine sym_pure hC (pF) ?_
              | refine sym_drawn hS (by kernel_rfl) ?_
              | refine sym_eq hq true (eqBool_same _ _) ?_
              | rw [beq_self_eq_true]
              | rw [bne_self_eq_false]); conv => whnf)
            cases bF
            · conv => whnf
              repeat ((first
                | refine sym_pure hC (hk) ?_
                | refine sym_drawn hS (by kernel_rfl) ?_
                | refine sym_eq hq true (eqBool_same _ _) ?_
                | rw [beq_self_eq_true]
                | rw [bne_self_eq_false]); conv => whnf)
              exact ⟨_, rfl, Wk.refl _⟩
            · conv => whnf
              repeat ((first
                | refine sym_pure hC (pG) ?_
                | refine sym_drawn hS (by kernel_rfl) ?_
                | refine sym_eq hq true (eqBool_same _ _) ?_
                | rw [beq_self_eq_true]
                | rw [bne_self_eq_false]); conv => whnf)
              cases bG
              · conv => whnf
                repeat ((first
                  | refine sym_pure hC (hk) ?_
                  | refine sym_drawn hS (by kernel_rfl) ?_
                  | refine sym_eq hq true (eqBool_same _ _) ?_
                  | rw [beq_self_eq_true]
                  | rw [bne_self_eq_false]); conv => whnf)
                exact ⟨_, rfl, Wk.refl _⟩
              · exact absurd rfl hfg
  · rcases sv.sh with ⟨rfl, rfl⟩ | ⟨xs, rfl, lx⟩
    all_goals
      refine pure_sym hE rfl (by repeat' (first | exact trivial | assumption | exact flat_no _ | exact (fun _ h => nomatch h) | apply And.intro)) (by repeat' (first | exact trivial | assumption | exact flat_no _ | exact (fun _ h => nomatch h) | apply And.intro)) fun S q pc hS hq hC hE => ?_
      conv => whnf
      repeat ((first
        | refine sym_pure hC (slim_not (by omega)) ?_
        | refine sym_pure hC (hk) ?_
        | refine sym_drawn hS (by kernel_rfl) ?_
        | refine sym_eq hq true (eqBool_same _ _) ?_
        | rw [beq_self_eq_true]
        | rw [bne_self_eq_false]); conv => whnf)
      exact ⟨_, rfl, Wk.refl _⟩
end Go.Abs.Seat
