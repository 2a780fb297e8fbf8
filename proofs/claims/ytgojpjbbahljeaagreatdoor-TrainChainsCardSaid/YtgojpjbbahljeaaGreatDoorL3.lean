/-
  The law TrainProved: neighbors are a proof, nothing lies between both, and the best fraction is the nearest.
-/
import Derived.Test.YtgojpjbbahljeaaGreatDoorL2
import Derived.Test.YtgojpjbbahljeaaGreatDoorMN
/-! The law TrainProved: neighbors are a proof, nothing lies between both, and the best fraction is the nearest. -/
namespace Go.Abs.Seat
open Go Go.Abs Go.Proofs.Tryz
set_option maxRecDepth 100000
set_option maxHeartbeats 4000000
attribute [local irreducible] IntKind.wrap pEq

theorem Near.num {n d m a b c e : Nat} (N : Near n d m a b c e) : a ≤ n ∧ c ≤ n := by
  have hd := N.d1
  have he := N.e1
  have lo := N.lo
  have bd : b ≤ d ∧ e ≤ d := by
    by_cases h : d ≤ m
    · have k1 := N.lb d n hd h (Nat.le_refl _)
      have k2 := N.hb d n hd h (Nat.le_refl _)
      have hi := N.hi
      exact ⟨N.lm d n hd h (by omega), N.hm d n hd h (by omega)⟩
    · have := N.bm
      have := N.em
      omega
  constructor
  · have : n * b ≤ n * d := Nat.mul_le_mul_left n bd.1
    exact Nat.le_of_mul_le_mul_right (Nat.le_trans lo this) hd
  · have := N.hb e n he N.em (Nat.mul_le_mul_left n bd.2)
    exact Nat.le_of_mul_le_mul_right this he

theorem trainProved_no (hk : Pure prog 19 [] (.bool true)) (n d m o p : Int) (h : ¬ (isF n d ∧ (1 ≤ m ∧ m ≤ 50000) ∧ isF o p ∧ p ≤ m)) :
    Pure prog 4 [fv n d, iv m, fv o p] (.bool true) := by
  refine pure_sym hE rfl ⟨⟨trivial, trivial, trivial⟩, trivial, ⟨trivial, trivial, trivial⟩, trivial⟩ trivial fun S q pc hS hq hC hE => ?_
  conv => whnf
  refine sym_pure hC (rFraction_pure _ _) ?_
  by_cases h1 : isF n d
  · rw [decide_eq_true h1]
    conv => whnf
    refine sym_pure hC (rBound_pure _) ?_
    by_cases h2 : 1 ≤ m ∧ m ≤ 50000
    · rw [decide_eq_true h2]
      conv => whnf
      refine sym_pure hC (rFraction_pure _ _) ?_
      by_cases h3 : isF o p
      · rw [decide_eq_true h3]
        conv => whnf
        rw [show decide (p > m) = true from decide_eq_true (Int.not_le.1 fun h4 => h ⟨h1, h2, h3, h4⟩)]
        conv => whnf
        refine sym_pure hC hk ?_
        conv => whnf
        exact ⟨_, rfl, Wk.refl _⟩
      · rw [decide_eq_false h3]
        conv => whnf
        refine sym_pure hC hk ?_
        conv => whnf
        exact ⟨_, rfl, Wk.refl _⟩
    · rw [decide_eq_false h2]
      conv => whnf
      refine sym_pure hC hk ?_
      conv => whnf
      exact ⟨_, rfl, Wk.refl _⟩
  · rw [decide_eq_false h1]
    conv => whnf
    refine sym_pure hC hk ?_
    conv => whnf
    exact ⟨_, rfl, Wk.refl _⟩

theorem trainProved_walk (hk : Pure prog 19 [] (.bool true)) (n d m o p x1 x2 a b c e : Nat) (hn : n ≤ 50000) (hd : 1 ≤ d ∧ d ≤ 50000) (hm : 1 ≤ m ∧ m ≤ 50000) (ho : o ≤ 50000) (hp : 1 ≤ p ∧ p ≤ 50000) (hpm : p ≤ m)
    (best : Pure prog 15 [fv (Int.ofNat n) (Int.ofNat d), nv m] (.tup [.agg [nv x1, nv x2], iv 0]))
    (around : Pure prog 16 [fv (Int.ofNat n) (Int.ofNat d), nv m] (.tup [.agg [nv a, nv b], .agg [nv c, nv e], iv 0]))
    (ha : a ≤ 50000) (hb : 1 ≤ b ∧ b ≤ 50000) (hc : c ≤ 50000) (he : 1 ≤ e ∧ e ≤ 50000) (hx : (x1 = a ∧ x2 = b) ∨ (x1 = c ∧ x2 = e)) (hprv : prv n d m a b c e) (hbet : ¬ (a * p < o * b ∧ o * e < c * p))
    (r1 : gapN (x1 * d) (n * x2) * p ≤ gapN (o * d) (n * p) * x2) (r2 : gapN (x1 * d) (n * x2) * p < gapN (o * d) (n * p) * x2 ∨ x2 ≤ p) :
    Pure prog 4 [fv (Int.ofNat n) (Int.ofNat d), nv m, fv (Int.ofNat o) (Int.ofNat p)] (.bool true) := by
  refine pure_sym hE rfl ⟨⟨trivial, trivial, trivial⟩, trivial, ⟨trivial, trivial, trivial⟩, trivial⟩ trivial fun S q pc hS hq hC hE => ?_
  have hx1 : x1 ≤ 50000 := by rcases hx with h | h <;> omega
  have hx2 : 1 ≤ x2 ∧ x2 ≤ 50000 := by rcases hx with h | h <;> omega
  have h2 : (1 : Int) ≤ Int.ofNat m ∧ Int.ofNat m ≤ 50000 := by simp only [Int.ofNat_eq_natCast]; omega
  have b1 : x1 * d ≤ 50000 * 50000 := Nat.mul_le_mul hx1 hd.2
  have b2 : n * x2 ≤ 50000 * 50000 := Nat.mul_le_mul hn hx2.2
  have b3 : o * d ≤ 50000 * 50000 := Nat.mul_le_mul ho hd.2
  have b4 : n * p ≤ 50000 * 50000 := Nat.mul_le_mul hn hp.2
  have b5 : a * p ≤ 50000 * 50000 := Nat.mul_le_mul ha hp.2
  have b6 : o * b ≤ 50000 * 50000 := Nat.mul_le_mul ho hb.2
  have b7 : o * e ≤ 50000 * 50000 := Nat.mul_le_mul ho he.2
  have b8 : c * p ≤ 50000 * 50000 := Nat.mul_le_mul hc hp.2
  have b9 : gapN (x1 * d) (n * x2) * p ≤ 5000000000 * 50000 := Nat.mul_le_mul (by unfold gapN; omega) hp.2
  have b10 : gapN (o * d) (n * p) * x2 ≤ 5000000000 * 50000 := Nat.mul_le_mul (by unfold gapN; omega) hx2.2
  conv => whnf
  refine sym_pure hC (rFraction_pure _ _) ?_
  rw [decide_eq_true (isF_N hn hd.1 hd.2)]
  conv => whnf
  refine sym_pure hC (rBound_pure _) ?_
  rw [decide_eq_true h2]
  conv => whnf
  refine sym_pure hC (rFraction_pure _ _) ?_
  rw [decide_eq_true (isF_N ho hp.1 hp.2)]
  conv => whnf
  rw [gtN_f (Nat.not_lt.2 hpm)]
  conv => whnf
  refine sym_pure hC best ?_
  conv => whnf
  refine sym_pure hC around ?_
  conv => whnf
  refine sym_pure hC (rFraction_pure _ _) ?_
  rw [decide_eq_true (isF_N hx1 hx2.1 hx2.2)]
  conv => whnf
  refine sym_pure hC (rFraction_pure _ _) ?_
  rw [decide_eq_true (isF_N ha hb.1 hb.2)]
  conv => whnf
  refine sym_pure hC (rFraction_pure _ _) ?_
  rw [decide_eq_true (isF_N hc he.1 he.2)]
  conv => whnf
  by_cases e1 : x1 = a ∧ x2 = b
  · refine sym_eq hq true (by rw [e1.1, e1.2]; exact eqFr_same _ _ _) ?_
    conv => whnf
    refine sym_pure hC (proves_pure n d m a b c e hn hd hm ha hb hc he) ?_
    rw [decide_eq_true hprv]
    conv => whnf
    refine sym_pure hC (rBelow_pure a b o p (by omega) (by omega)) ?_
    by_cases k1 : a * p < o * b
    · rw [decide_eq_true k1]
      conv => whnf
      refine sym_pure hC (rBelow_pure o p c e (by omega) (by omega)) ?_
      rw [decide_eq_false fun k2 => hbet ⟨k1, k2⟩]
      conv => whnf
      rw [mulN (a := x1) (b := d) (by omega), mulN (a := n) (b := x2) (by omega), maxI_gap (by omega) (by omega), mulN (a := o) (b := d) (by omega), mulN (a := n) (b := p) (by omega), maxI_gap (by omega) (by omega),
        mulN (a := gapN (x1 * d) (n * x2)) (b := p) (by omega), mulN (a := gapN (o * d) (n * p)) (b := x2) (by omega), leN_t r1]
      conv => whnf
      by_cases k3 : gapN (x1 * d) (n * x2) * p < gapN (o * d) (n * p) * x2
      · rw [ltN_t k3]
        conv => whnf
        refine sym_pure hC hk ?_
        conv => whnf
        exact ⟨_, rfl, Wk.refl _⟩
      · rw [ltN_f k3]
        conv => whnf
        rw [leN_t (r2.resolve_left k3)]
        conv => whnf
        refine sym_pure hC hk ?_
        conv => whnf
        exact ⟨_, rfl, Wk.refl _⟩
    · rw [decide_eq_false k1]
      conv => whnf
      rw [mulN (a := x1) (b := d) (by omega), mulN (a := n) (b := x2) (by omega), maxI_gap (by omega) (by omega), mulN (a := o) (b := d) (by omega), mulN (a := n) (b := p) (by omega), maxI_gap (by omega) (by omega),
        mulN (a := gapN (x1 * d) (n * x2)) (b := p) (by omega), mulN (a := gapN (o * d) (n * p)) (b := x2) (by omega), leN_t r1]
      conv => whnf
      by_cases k3 : gapN (x1 * d) (n * x2) * p < gapN (o * d) (n * p) * x2
      · rw [ltN_t k3]
        conv => whnf
        refine sym_pure hC hk ?_
        conv => whnf
        exact ⟨_, rfl, Wk.refl _⟩
      · rw [ltN_f k3]
        conv => whnf
        rw [leN_t (r2.resolve_left k3)]
        conv => whnf
        refine sym_pure hC hk ?_
        conv => whnf
        exact ⟨_, rfl, Wk.refl _⟩
  · refine sym_eq hq false (eqFr_ne _ _ _ _ _ fun k => e1 ⟨Int.ofNat.inj k.1, Int.ofNat.inj k.2⟩) ?_
    have e2 := hx.resolve_left e1
    conv => whnf
    refine sym_eq hq true (by rw [e2.1, e2.2]; exact eqFr_same _ _ _) ?_
    conv => whnf
    refine sym_pure hC (proves_pure n d m a b c e hn hd hm ha hb hc he) ?_
    rw [decide_eq_true hprv]
    conv => whnf
    refine sym_pure hC (rBelow_pure a b o p (by omega) (by omega)) ?_
    by_cases k1 : a * p < o * b
    · rw [decide_eq_true k1]
      conv => whnf
      refine sym_pure hC (rBelow_pure o p c e (by omega) (by omega)) ?_
      rw [decide_eq_false fun k2 => hbet ⟨k1, k2⟩]
      conv => whnf
      rw [mulN (a := x1) (b := d) (by omega), mulN (a := n) (b := x2) (by omega), maxI_gap (by omega) (by omega), mulN (a := o) (b := d) (by omega), mulN (a := n) (b := p) (by omega), maxI_gap (by omega) (by omega),
        mulN (a := gapN (x1 * d) (n * x2)) (b := p) (by omega), mulN (a := gapN (o * d) (n * p)) (b := x2) (by omega), leN_t r1]
      conv => whnf
      by_cases k3 : gapN (x1 * d) (n * x2) * p < gapN (o * d) (n * p) * x2
      · rw [ltN_t k3]
        conv => whnf
        refine sym_pure hC hk ?_
        conv => whnf
        exact ⟨_, rfl, Wk.refl _⟩
      · rw [ltN_f k3]
        conv => whnf
        rw [leN_t (r2.resolve_left k3)]
        conv => whnf
        refine sym_pure hC hk ?_
        conv => whnf
        exact ⟨_, rfl, Wk.refl _⟩
    · rw [decide_eq_false k1]
      conv => whnf
      rw [mulN (a := x1) (b := d) (by omega), mulN (a := n) (b := x2) (by omega), maxI_gap (by omega) (by omega), mulN (a := o) (b := d) (by omega), mulN (a := n) (b := p) (by omega), maxI_gap (by omega) (by omega),
        mulN (a := gapN (x1 * d) (n * x2)) (b := p) (by omega), mulN (a := gapN (o * d) (n * p)) (b := x2) (by omega), leN_t r1]
      conv => whnf
      by_cases k3 : gapN (x1 * d) (n * x2) * p < gapN (o * d) (n * p) * x2
      · rw [ltN_t k3]
        conv => whnf
        refine sym_pure hC hk ?_
        conv => whnf
        exact ⟨_, rfl, Wk.refl _⟩
      · rw [ltN_f k3]
        conv => whnf
        rw [leN_t (r2.resolve_left k3)]
        conv => whnf
        refine sym_pure hC hk ?_
        conv => whnf
        exact ⟨_, rfl, Wk.refl _⟩

theorem trainProved_yes (hk : Pure prog 19 [] (.bool true)) (n d m o p : Nat) (hn : n ≤ 50000) (hd : 1 ≤ d ∧ d ≤ 50000) (hm : 1 ≤ m ∧ m ≤ 50000) (ho : o ≤ 50000) (hp : 1 ≤ p ∧ p ≤ 50000) (hpm : p ≤ m) :
    Pure prog 4 [fv (Int.ofNat n) (Int.ofNat d), nv m, fv (Int.ofNat o) (Int.ofNat p)] (.bool true) := by
  have N := near_of n d m hd.1 hm.1
  have best := best_pure n d m hn hd.1 hd.2 hm.1 hm.2
  have around := around_pure n d m hn hd.1 hd.2 hm.1 hm.2
  have eb : bestS n d (m - 1) = if nearS n d (lowS n d (m - 1)) (highS n d (m - 1)) then lowS n d (m - 1) else highS n d (m - 1) := rfl
  generalize bestS n d (m - 1) = X at *
  generalize lowS n d (m - 1) = L at *
  generalize highS n d (m - 1) = H at *
  obtain ⟨x1, x2⟩ := X
  obtain ⟨a, b⟩ := L
  obtain ⟨c, e⟩ := H
  dsimp only at best around N
  have nu := N.num
  have hbb := N.b1
  have hee := N.e1
  have hbm := N.bm
  have hem := N.em
  by_cases hn2 : nearS n d (a, b) (c, e)
  · rw [if_pos hn2] at eb
    obtain ⟨rfl, rfl⟩ : x1 = a ∧ x2 = b := by simpa using eb
    have r := N.best_lo (q := o) hp.1 hpm hn2
    exact trainProved_walk hk n d m o p x1 x2 x1 x2 c e hn hd hm ho hp hpm best around (by omega) ⟨hbb, by omega⟩ (by omega) ⟨hee, by omega⟩ (.inl ⟨rfl, rfl⟩) N.prv (N.between hp.1 hpm) r.1 r.2
  · rw [if_neg hn2] at eb
    obtain ⟨rfl, rfl⟩ : x1 = c ∧ x2 = e := by simpa using eb
    have r := N.best_hi (q := o) hp.1 hpm hn2
    exact trainProved_walk hk n d m o p x1 x2 a b x1 x2 hn hd hm ho hp hpm best around (by omega) ⟨hbb, by omega⟩ (by omega) ⟨hee, by omega⟩ (.inr ⟨rfl, rfl⟩) N.prv (N.between hp.1 hpm) r.1 r.2

theorem trainProved (hk : Pure prog 19 [] (.bool true)) (n d m o p : Int) : Pure prog 4 [fv n d, iv m, fv o p] (.bool true) := by
  by_cases h : isF n d ∧ (1 ≤ m ∧ m ≤ 50000) ∧ isF o p ∧ p ≤ m
  · obtain ⟨h1, h2, h3, h4⟩ := h
    obtain ⟨n, d, rfl, rfl, q1, q2, q3⟩ := isF_nat h1
    obtain ⟨o, p, rfl, rfl, q4, q5, q6⟩ := isF_nat h3
    have e3 : m = Int.ofNat m.toNat := by show m = ((m.toNat : Nat) : Int); omega
    have h5 : p ≤ m.toNat := by
      have : (p : Int) ≤ m := h4
      omega
    rw [e3]
    exact trainProved_yes hk _ _ _ _ _ q1 ⟨q2, q3⟩ ⟨by omega, by omega⟩ q4 ⟨q5, q6⟩ h5
  · exact trainProved_no hk n d m o p h
end Go.Abs.Seat
