/-
  The best fraction, the program's and the document's.
-/
import Derived.Test.YtgojpjbbahljeaaGreatDoorC4
/-! The best fraction, the program's and the document's. -/
namespace Go.Abs.Seat
open Go Go.Abs Go.Proofs.Tryz
set_option maxRecDepth 100000
set_option maxHeartbeats 4000000
attribute [local irreducible] IntKind.wrap pEq

theorem ltN_t {a b : Nat} (h : a < b) : decide (Int.ofNat a < Int.ofNat b) = true := (ltN _ _).2 h
theorem ltN_f {a b : Nat} (h : ¬ a < b) : decide (Int.ofNat a < Int.ofNat b) = false := Bool.eq_false_iff.2 fun e => h ((ltN _ _).1 e)
theorem leN_t {a b : Nat} (h : a ≤ b) : decide (Int.ofNat a ≤ Int.ofNat b) = true := (leN _ _).2 h
theorem leN_f {a b : Nat} (h : ¬ a ≤ b) : decide (Int.ofNat a ≤ Int.ofNat b) = false := Bool.eq_false_iff.2 fun e => h ((leN _ _).1 e)
theorem eqN_t {a b : Nat} (h : a = b) : (Int.ofNat a == Int.ofNat b) = true := (eqN _ _).2 h
theorem eqN_f {a b : Nat} (h : ¬ a = b) : (Int.ofNat a == Int.ofNat b) = false := Bool.eq_false_iff.2 fun e => h ((eqN _ _).1 e)
theorem subN {a b : Nat} (h : b ≤ a) : Int.ofNat a - Int.ofNat b = Int.ofNat (a - b) := by show (a : Int) - (b : Int) = ((a - b : Nat) : Int); omega
theorem negN {a b : Nat} (h : a ≤ b) (h2 : b < 9223372036854775808) : IntKind.i64.wrap (0 - (Int.ofNat a - Int.ofNat b)) = Int.ofNat (b - a) := by
  rw [show 0 - (Int.ofNat a - Int.ofNat b) = Int.ofNat (b - a) by show 0 - ((a : Int) - (b : Int)) = ((b - a : Nat) : Int); omega]
  exact wrapN (by omega)

theorem lowS_ok (n d : Nat) : ∀ k, (lowS n d k).1 * d ≤ n * (lowS n d k).2
  | 0 => by simp only [lowS, Nat.mul_one]; exact Nat.div_mul_le_self _ _
  | k + 1 => by
    have ih := lowS_ok n d k
    unfold lowS
    split
    · exact Nat.div_mul_le_self _ _
    · exact ih

theorem up_ok {a d : Nat} (hd : 1 ≤ d) : a ≤ (a + d - 1) / d * d := by
  have h1 := Nat.div_add_mod (a + d - 1) d
  have h2 := Nat.mod_lt (a + d - 1) (show d > 0 by omega)
  have h3 : (a + d - 1) / d * d = d * ((a + d - 1) / d) := Nat.mul_comm _ _
  omega

theorem highS_ok (n d : Nat) (hd : 1 ≤ d) : ∀ k, n * (highS n d k).2 ≤ (highS n d k).1 * d
  | 0 => by simp only [highS, Nat.mul_one]; exact up_ok hd
  | k + 1 => by
    have ih := highS_ok n d hd k
    unfold highS
    split
    · exact up_ok hd
    · exact ih

def nearS (n d : Nat) (L H : Nat × Nat) : Prop := (n * L.2 - L.1 * d) * H.2 < (H.1 * d - n * H.2) * L.2 ∨ (n * L.2 - L.1 * d) * H.2 = (H.1 * d - n * H.2) * L.2 ∧ L.2 ≤ H.2
instance (n d : Nat) (L H : Nat × Nat) : Decidable (nearS n d L H) := by unfold nearS; exact inferInstance

def bestS (n d k : Nat) : Nat × Nat := if nearS n d (lowS n d k) (highS n d k) then lowS n d k else highS n d k

structure Bds (n d : Nat) (L H : Nat × Nat) : Prop where
  l : L.1 * d ≤ n * L.2
  h : n * H.2 ≤ H.1 * d
  b1 : n * L.2 ≤ 2500000000
  b2 : H.1 * d ≤ 125000000050000
  b3 : (n * L.2 - L.1 * d) * H.2 ≤ 125000000000000
  b4 : (H.1 * d - n * H.2) * L.2 ≤ 6250000002500000000

theorem bds (n d k : Nat) (hn : n ≤ 50000) (hd : 1 ≤ d) (hd' : d ≤ 50000) (hk : k < 50000) : Bds n d (lowS n d k) (highS n d k) := by
  have hl := lowS_le n d hd k
  have hh := highS_le n d hd k
  have e1 : n * (lowS n d k).2 ≤ 50000 * 50000 := Nat.mul_le_mul hn (by omega)
  have e2 : n * (k + 1) ≤ 50000 * 50000 := Nat.mul_le_mul hn (by omega)
  have e3 : (highS n d k).1 * d ≤ 2500000001 * 50000 := Nat.mul_le_mul (by omega) hd'
  have e4 : (n * (lowS n d k).2 - (lowS n d k).1 * d) * (highS n d k).2 ≤ 2500000000 * 50000 := Nat.mul_le_mul (by omega) (by omega)
  have e5 : ((highS n d k).1 * d - n * (highS n d k).2) * (lowS n d k).2 ≤ 125000000050000 * 50000 := Nat.mul_le_mul (by omega) (by omega)
  exact ⟨lowS_ok n d k, highS_ok n d hd k, by omega, by omega, by omega, by omega⟩

theorem best_no (n d m : Int) (h : ¬ (isF n d ∧ 1 ≤ m ∧ m ≤ 50000)) : Pure prog 15 [fv n d, iv m] (.tup [fv 0 0, iv 2]) := by
  refine pure_sym hE rfl ⟨⟨trivial, trivial, trivial⟩, trivial, trivial⟩ ⟨⟨trivial, trivial, trivial⟩, trivial, trivial⟩ fun S q hS hq hE => ?_
  conv => whnf
  refine sym_pure hS (around_no n d m h) ?_
  conv => whnf
  exact ⟨_, rfl, Wk.refl _⟩

theorem best_pure (n d m : Nat) (hn : n ≤ 50000) (hd : 1 ≤ d) (hd' : d ≤ 50000) (hm : 1 ≤ m) (hm' : m ≤ 50000) :
    Pure prog 15 [fv (Int.ofNat n) (Int.ofNat d), nv m] (.tup [.agg [nv (bestS n d (m - 1)).1, nv (bestS n d (m - 1)).2], iv 0]) := by
  refine pure_sym hE rfl ⟨⟨trivial, trivial, trivial⟩, trivial, trivial⟩ ⟨⟨trivial, trivial, trivial⟩, trivial, trivial⟩ fun S q hS hq hE => ?_
  have hb := bds n d (m - 1) hn hd hd' (by omega)
  have around := around_pure n d m hn hd hd' hm hm'
  have eb : bestS n d (m - 1) = if nearS n d (lowS n d (m - 1)) (highS n d (m - 1)) then lowS n d (m - 1) else highS n d (m - 1) := rfl
  generalize lowS n d (m - 1) = L at *
  generalize highS n d (m - 1) = H at *
  obtain ⟨l1, l2⟩ := L
  obtain ⟨h1, h2⟩ := H
  have q1 := hb.l
  have q2 := hb.h
  have q3 := hb.b1
  have q4 := hb.b2
  have q5 := hb.b3
  have q6 := hb.b4
  simp only at q1 q2 q3 q4 q5 q6
  dsimp only at around
  conv => whnf
  refine sym_pure hS around ?_
  conv => whnf
  refine sym_pure hS (compare_pure l1 l2 n d (by omega) (by omega)) ?_
  conv => whnf
  refine sym_drawn hS (by kernel_rfl) ?_
  rw [negN q1 (by omega), mulN (a := n * l2 - l1 * d) (b := h2) (by omega)]
  conv => whnf
  refine sym_pure hS (compare_pure h1 h2 n d (by omega) (by omega)) ?_
  rw [subN q2]
  conv => whnf
  refine sym_drawn hS (by kernel_rfl) ?_
  rw [mulN (a := h1 * d - n * h2) (b := l2) (by omega)]
  conv => whnf
  by_cases p1 : (n * l2 - l1 * d) * h2 < (h1 * d - n * h2) * l2
  · rw [ltN_t p1]
    conv => whnf
    rw [if_pos (.inl p1)] at eb
    rw [eb]
    exact ⟨_, rfl, Wk.refl _⟩
  · rw [ltN_f p1]
    conv => whnf
    by_cases p2 : (n * l2 - l1 * d) * h2 = (h1 * d - n * h2) * l2
    · rw [eqN_t p2]
      conv => whnf
      by_cases p3 : l2 ≤ h2
      · rw [leN_t p3]
        conv => whnf
        rw [if_pos (.inr ⟨p2, p3⟩)] at eb
        rw [eb]
        exact ⟨_, rfl, Wk.refl _⟩
      · rw [leN_f p3]
        conv => whnf
        rw [if_neg (fun e => e.elim p1 fun e => p3 e.2)] at eb
        rw [eb]
        exact ⟨_, rfl, Wk.refl _⟩
    · rw [eqN_f p2]
      conv => whnf
      rw [if_neg (fun e => e.elim p1 fun e => p2 e.1)] at eb
      rw [eb]
      exact ⟨_, rfl, Wk.refl _⟩
end Go.Abs.Seat
