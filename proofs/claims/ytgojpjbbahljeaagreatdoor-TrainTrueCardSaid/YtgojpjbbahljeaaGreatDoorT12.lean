/-
  Between.
-/
import Derived.Test.YtgojpjbbahljeaaGreatDoorL5
/-! Between. -/
namespace Go.Abs.Seat
open Go Go.Abs Go.Proofs.Tryz
set_option maxRecDepth 100000
set_option maxHeartbeats 4000000
attribute [local irreducible] IntKind.wrap pEq

theorem ceil_le (a b : Nat) (hb : 1 ≤ b) : a / b + (if a % b = 0 then 0 else 1) ≤ a := by
  by_cases h : a < b
  · rw [Nat.div_eq_of_lt h, Nat.mod_eq_of_lt h]; split <;> omega
  · have h1 := Nat.div_add_mod a b
    split
    · have := Nat.div_le_self a b; omega
    · have h2 : 1 * (a / b) ≤ b * (a / b) := Nat.mul_le_mul_right _ hb
      omega

theorem wrap_ndn {p q b : Nat} (h1 : p < 9223372036854775808) (h2 : q < 9223372036854775808) (hb : 1 ≤ b) : IntKind.i64.wrap (0 - dnV q p b) = upV p q b := by
  have k1 := ceil_le (p - q) b hb
  have k2 := Nat.div_le_self (q - p) b
  unfold dnV upV
  exact wrap_ndN (by omega) (by omega)
theorem mulT' {p q t : Nat} (h0 : p * 21600 < 9223372036854775808) (h3 : q * 21600 < 9223372036854775808) (h1 : p * t * 21600 < 9223372036854775808) (h2 : q * t * 21600 < 9223372036854775808) : IntKind.i64.wrap (IntKind.i64.wrap (0 - dN (p * 21600) (q * 21600)) * Int.ofNat t) = dN (q * t * 21600) (p * t * 21600) := by
  rw [wrap_ndN h0 h3, mulT h2 h1]

theorem compare_le (a b c d : Nat) : decide (Int.ofNat (a * d) - Int.ofNat (c * b) > 0) = decide (c * b < a * d) := decide_eq_decide.2 (by show (0 : Int) < ((a * d : Nat) : Int) - ((c * b : Nat) : Int) ↔ _; omega)

theorem between_pure {v : AV} {k x y : Nat} (hv : TV v k x y) (n d e g t : Nat) (hn : n ≤ 50000) (hd : 1 ≤ d ∧ d ≤ 50000) (he : e ≤ 50000) (hg : 1 ≤ g ∧ g ≤ 50000) (hle : ¬ e * d < n * g) (ht : t ≤ 10000) :
    Pure prog 47 [v, fv (Int.ofNat n) (Int.ofNat d), fv (Int.ofNat e) (Int.ofNat g), nv t] (.tup [.agg [iv (dnV (offP x g t) (offQ y e t) (y * g)), iv (upV (offP x d t) (offQ y n t) (y * d))], iv 0]) := by
  have b := off_le hn hd.2 hv.bx.2 hv.by_.2 ht
  have b' := off_le he hg.2 hv.bx.2 hv.by_.2 ht
  have hyd : 1 ≤ y * d := Nat.mul_pos hv.by_.1 hd.1
  have hyg : 1 ≤ y * g := Nat.mul_pos hv.by_.1 hg.1
  have c1 : n * g ≤ 50000 * 50000 := Nat.mul_le_mul hn hg.2
  have c2 : e * d ≤ 50000 * 50000 := Nat.mul_le_mul he hd.2
  obtain ⟨xs, rfl, lx⟩ := hv.sh
  refine pure_sym hE rfl (by repeat' (first | exact trivial | assumption | exact flat_no _ | exact (fun _ h => nomatch h) | apply And.intro)) (by repeat' (first | exact trivial | assumption | exact flat_no _ | exact (fun _ h => nomatch h) | apply And.intro)) fun S q pc hS hq hC hE => ?_
  conv => whnf
  refine sym_pure hC (hv.isT) ?_
  conv => whnf
  refine sym_pure hC (isFraction_pure _ _) ?_
  conv => whnf
  rw [decide_eq_true (isF_N hn hd.1 hd.2)]
  conv => whnf
  refine sym_pure hC (isFraction_pure _ _) ?_
  conv => whnf
  rw [decide_eq_true (isF_N he hg.1 hg.2)]
  conv => whnf
  refine sym_pure hC (compare_pure n d e g (by omega) (by omega)) ?_
  conv => whnf
  rw [show decide (Int.ofNat (n * g) - Int.ofNat (e * d) > 0) = false from gt0_f hle]
  conv => whnf
  refine sym_pure hC (isTurn_pure _) ?_
  conv => whnf
  rw [decide_eq_true (rng (t := t) (m := 10000) (by omega))]
  conv => whnf
  refine sym_pure hC (wrongBy_pure hv e g he hg) ?_
  conv => whnf
  refine sym_pure hC (wrongBy_pure hv n d hn hd) ?_
  conv => whnf
  refine sym_drawn hS (by kernel_rfl) ?_
  conv => whnf
  rw [mulT (p := x * g) (q := e * y) (t := t) (by omega) (by omega)]
  refine sym_pure hC (floor_pure (offP x g t) (offQ y e t) (y * g) (by unfold offP; omega) (by unfold offQ; omega) hyg) ?_
  conv => whnf
  rw [mulT' (p := x * d) (q := n * y) (t := t) (by omega) (by omega) (by omega) (by omega)]
  refine sym_pure hC (floor_pure (offQ y n t) (offP x d t) (y * d) (by unfold offQ; omega) (by unfold offP; omega) hyd) ?_
  conv => whnf
  refine sym_drawn hS (by kernel_rfl) ?_
  conv => whnf
  rw [wrap_ndn (by unfold offP; omega) (by unfold offQ; omega) hyd]
  exact ⟨_, rfl, Wk.refl _⟩

theorem wrap_dn {p q b : Nat} (h1 : p < 4611686018427387904) (h2 : q < 4611686018427387904) : IntKind.i64.wrap (trV p q b - 1) = trV p q b - 1 := wrapI (trV_lo h2) (trV_hi h1)
theorem wrap_up {p q b : Nat} (h1 : p < 4611686018427387904) (h2 : q < 4611686018427387904) : IntKind.i64.wrap (trV p q b + 1) = trV p q b + 1 := by
  have k1 := Nat.div_le_self (p - q) b
  have k2 := Nat.div_le_self (q - p) b
  unfold trV
  generalize (p - q) / b = A at *
  generalize (q - p) / b = B at *
  exact wrapI (by show _ ≤ (A : Int) - (B : Int) + 1; omega) (by show (A : Int) - (B : Int) + 1 < _; omega)

theorem dn_of {p q b : Nat} : (p < q ∧ (q - p) % b ≠ 0 → trV p q b - 1 = dnV p q b) ∧ (¬ (p < q ∧ (q - p) % b ≠ 0) → trV p q b = dnV p q b) := by
  constructor
  · rintro ⟨_, h2⟩
    unfold trV dnV
    rw [if_neg h2]
    show (((p - q) / b : Nat) : Int) - (((q - p) / b : Nat) : Int) - 1 = (((p - q) / b : Nat) : Int) - (((q - p) / b + 1 : Nat) : Int)
    omega
  · intro h
    unfold trV dnV
    have : (q - p) % b = 0 := by
      by_cases k : p < q
      · exact Decidable.byContradiction fun e => h ⟨k, e⟩
      · rw [show q - p = 0 by omega, Nat.zero_mod]
    rw [if_pos this]
    rfl
theorem up_of {p q b : Nat} : (q < p ∧ (p - q) % b ≠ 0 → trV p q b + 1 = upV p q b) ∧ (¬ (q < p ∧ (p - q) % b ≠ 0) → trV p q b = upV p q b) := by
  constructor
  · rintro ⟨_, h2⟩
    unfold trV upV
    rw [if_neg h2]
    show (((p - q) / b : Nat) : Int) - (((q - p) / b : Nat) : Int) + 1 = (((p - q) / b + 1 : Nat) : Int) - (((q - p) / b : Nat) : Int)
    omega
  · intro h
    unfold trV upV
    have : (p - q) % b = 0 := by
      by_cases k : q < p
      · exact Decidable.byContradiction fun e => h ⟨k, e⟩
      · rw [show p - q = 0 by omega, Nat.zero_mod]
    rw [if_pos this]
    rfl
theorem gt_dN {p q : Nat} : dN p q > 0 ↔ q < p := by show (0 : Int) < (p : Int) - (q : Int) ↔ _; omega
theorem dN_ne {p q : Nat} : (dN p q != 0) = true ↔ p ≠ q := by rw [bne_iff_ne]; show (p : Int) - (q : Int) ≠ 0 ↔ _; omega

theorem rem_lt {p q b : Nat} (h : p < q) : ((dN p q).tmod (Int.ofNat b) != 0) = !(decide ((q - p) % b = 0)) := by
  rw [dN_tmod, show p - q = 0 by omega, Nat.zero_mod]
  by_cases k : (q - p) % b = 0
  · rw [k, decide_eq_true (show 0 = 0 from rfl)]; rfl
  · rw [decide_eq_false k]; exact dN_ne.2 (by omega)
theorem rem_gt {p q b : Nat} (h : q < p) : ((dN p q).tmod (Int.ofNat b) != 0) = !(decide ((p - q) % b = 0)) := by
  rw [dN_tmod, show q - p = 0 by omega, Nat.zero_mod]
  by_cases k : (p - q) % b = 0
  · rw [k, decide_eq_true (show 0 = 0 from rfl)]; rfl
  · rw [decide_eq_false k]; exact dN_ne.2 (by omega)

theorem rBetween_walk {k : Nat} {xs : List AV} (lx : Lives noL xs) {n d e g t : Int} {P Q B P' Q' B' : Nat} (p1 : Pure prog 86 [.lst xs k .no, fv e g, iv t] (.tup [iv (dN P Q), nv B])) (p2 : Pure prog 86 [.lst xs k .no, fv n d, iv t] (.tup [iv (dN P' Q'), nv B']))
    (hB : 1 ≤ B) (hB' : 1 ≤ B') (hP : P < 4611686018427387904) (hQ : Q < 4611686018427387904) (hP' : P' < 4611686018427387904) (hQ' : Q' < 4611686018427387904) :
    Pure prog 48 [.lst xs k .no, fv n d, fv e g, iv t] (.agg [iv (dnV P Q B), iv (upV P' Q' B')]) := by
  refine pure_sym hE rfl (by repeat' (first | exact trivial | assumption | exact flat_no _ | exact (fun _ h => nomatch h) | apply And.intro)) (by repeat' (first | exact trivial | assumption | exact flat_no _ | exact (fun _ h => nomatch h) | apply And.intro)) fun S q pc hS hq hC hE => ?_
  conv => whnf
  refine sym_pure hC (p1) ?_
  conv => whnf
  refine sym_pure hC (p2) ?_
  conv => whnf
  refine bool_true (ne0 hB) ?_
  conv => whnf
  refine bool_true (ne0 hB') ?_
  conv => whnf
  refine sym_drawn hS (by kernel_rfl) ?_
  conv => whnf
  rw [wrap_tr (p := P) (q := Q) (b := B) (by omega) (by omega), wrap_tr (p := P') (q := Q') (b := B') (by omega) (by omega)]
  by_cases h1 : P < Q
  · rw [show decide (dN P Q < 0) = true from decide_eq_true (lt_dN.2 h1)]
    conv => whnf
    refine bool_true (ne0 hB) ?_
    conv => whnf
    rw [rem_lt h1]
    by_cases h2 : (Q - P) % B = 0
    · rw [decide_eq_true h2]
      conv => whnf
      by_cases h3 : Q' < P'
      · rw [show decide (dN P' Q' > 0) = true from decide_eq_true (gt_dN.2 h3)]
        conv => whnf
        refine bool_true (ne0 hB') ?_
        conv => whnf
        rw [rem_gt h3]
        by_cases h4 : (P' - Q') % B' = 0
        · rw [decide_eq_true h4]
          conv => whnf
          exact ⟨_, rfl, by rw [dn_of.2 fun k => k.2 h2, up_of.2 fun k => k.2 h4]; exact Wk.refl _⟩
        · rw [decide_eq_false h4]
          conv => whnf
          rw [wrap_up hP' hQ']
          exact ⟨_, rfl, by rw [dn_of.2 fun k => k.2 h2, up_of.1 ⟨h3, h4⟩]; exact Wk.refl _⟩
      · rw [show decide (dN P' Q' > 0) = false from decide_eq_false fun k => h3 (gt_dN.1 k)]
        conv => whnf
        exact ⟨_, rfl, by rw [dn_of.2 fun k => k.2 h2, up_of.2 fun k => h3 k.1]; exact Wk.refl _⟩
    · rw [decide_eq_false h2]
      conv => whnf
      rw [wrap_dn hP hQ]
      by_cases h3 : Q' < P'
      · rw [show decide (dN P' Q' > 0) = true from decide_eq_true (gt_dN.2 h3)]
        conv => whnf
        refine bool_true (ne0 hB') ?_
        conv => whnf
        rw [rem_gt h3]
        by_cases h4 : (P' - Q') % B' = 0
        · rw [decide_eq_true h4]
          conv => whnf
          exact ⟨_, rfl, by rw [dn_of.1 ⟨h1, h2⟩, up_of.2 fun k => k.2 h4]; exact Wk.refl _⟩
        · rw [decide_eq_false h4]
          conv => whnf
          rw [wrap_up hP' hQ']
          exact ⟨_, rfl, by rw [dn_of.1 ⟨h1, h2⟩, up_of.1 ⟨h3, h4⟩]; exact Wk.refl _⟩
      · rw [show decide (dN P' Q' > 0) = false from decide_eq_false fun k => h3 (gt_dN.1 k)]
        conv => whnf
        exact ⟨_, rfl, by rw [dn_of.1 ⟨h1, h2⟩, up_of.2 fun k => h3 k.1]; exact Wk.refl _⟩
  · rw [show decide (dN P Q < 0) = false from decide_eq_false fun k => h1 (lt_dN.1 k)]
    conv => whnf
    by_cases h3 : Q' < P'
    · rw [show decide (dN P' Q' > 0) = true from decide_eq_true (gt_dN.2 h3)]
      conv => whnf
      refine bool_true (ne0 hB') ?_
      conv => whnf
      rw [rem_gt h3]
      by_cases h4 : (P' - Q') % B' = 0
      · rw [decide_eq_true h4]
        conv => whnf
        exact ⟨_, rfl, by rw [dn_of.2 fun k => h1 k.1, up_of.2 fun k => k.2 h4]; exact Wk.refl _⟩
      · rw [decide_eq_false h4]
        conv => whnf
        rw [wrap_up hP' hQ']
        exact ⟨_, rfl, by rw [dn_of.2 fun k => h1 k.1, up_of.1 ⟨h3, h4⟩]; exact Wk.refl _⟩
    · rw [show decide (dN P' Q' > 0) = false from decide_eq_false fun k => h3 (gt_dN.1 k)]
      conv => whnf
      exact ⟨_, rfl, by rw [dn_of.2 fun k => h1 k.1, up_of.2 fun k => h3 k.1]; exact Wk.refl _⟩

theorem rBetween_pure {v : AV} {k x y : Nat} (hv : TV v k x y) (n d e g t : Nat) (hn : n ≤ 50000) (hd : 1 ≤ d ∧ d ≤ 50000) (he : e ≤ 50000) (hg : 1 ≤ g ∧ g ≤ 50000) (ht : t ≤ 10000) :
    Pure prog 48 [v, fv (Int.ofNat n) (Int.ofNat d), fv (Int.ofNat e) (Int.ofNat g), nv t] (.agg [iv (dnV (offP x g t) (offQ y e t) (y * g)), iv (upV (offP x d t) (offQ y n t) (y * d))]) := by
  have b := off_le hn hd.2 hv.bx.2 hv.by_.2 ht
  have b' := off_le he hg.2 hv.bx.2 hv.by_.2 ht
  have p1 := roff_pure hv e g t he hg ht
  have p2 := roff_pure hv n d t hn hd ht
  have hyd : 1 ≤ y * d := Nat.mul_pos hv.by_.1 hd.1
  have hyg : 1 ≤ y * g := Nat.mul_pos hv.by_.1 hg.1
  obtain ⟨xs, rfl, lx⟩ := hv.sh
  exact rBetween_walk lx p1 p2 hyg hyd (by unfold offP; omega) (by unfold offQ; omega) (by unfold offP; omega) (by unfold offQ; omega)
end Go.Abs.Seat
