/-
  By how much a hand is off, and for how long it lasts: parts.
  By how much a hand is off: rounded towards 0, down and up.
-/
import Derived.Test.YtpjclnoehlflcaaGreatDoorMT
/-! By how much a hand is off, and for how long it lasts: parts. -/
namespace Go.Abs.Seat
open Go Go.Abs Go.Proofs.Tryz
set_option maxRecDepth 100000
set_option maxHeartbeats 4000000
attribute [local irreducible] IntKind.wrap pEq

/-- A difference of two numbers. -/
abbrev dN (p q : Nat) : Int := Int.ofNat p - Int.ofNat q

theorem dN_mul (p q t : Nat) : dN p q * Int.ofNat t = dN (p * t) (q * t) := by
  show ((p : Int) - (q : Int)) * (t : Int) = ((p * t : Nat) : Int) - ((q * t : Nat) : Int)
  rw [Int.sub_mul, Int.natCast_mul, Int.natCast_mul]

theorem wrap_dN {p q : Nat} (h1 : p < 9223372036854775808) (h2 : q < 9223372036854775808) : IntKind.i64.wrap (dN p q) = dN p q := by
  apply wrapI
  · show _ ≤ (p : Int) - (q : Int); omega
  · show (p : Int) - (q : Int) < _; omega

theorem wrap_ndN {p q : Nat} (h1 : p < 9223372036854775808) (h2 : q < 9223372036854775808) : IntKind.i64.wrap (0 - dN p q) = dN q p := by
  rw [show (0 : Int) - dN p q = dN q p by show (0 : Int) - ((p : Int) - (q : Int)) = (q : Int) - (p : Int); omega]
  exact wrap_dN h2 h1

theorem tdiv_ofNat (p b : Nat) : (Int.ofNat p).tdiv (Int.ofNat b) = Int.ofNat (p / b) := rfl

theorem dN_tdiv {p q b : Nat} : (dN p q).tdiv (Int.ofNat b) = dN ((p - q) / b) ((q - p) / b) := by
  by_cases h : q ≤ p
  · rw [show dN p q = Int.ofNat (p - q) by show (p : Int) - (q : Int) = ((p - q : Nat) : Int); omega, tdiv_ofNat, show q - p = 0 by omega, Nat.zero_div]
    show (((p - q) / b : Nat) : Int) = (((p - q) / b : Nat) : Int) - ((0 : Nat) : Int)
    omega
  · rw [show dN p q = -Int.ofNat (q - p) by show (p : Int) - (q : Int) = -((q - p : Nat) : Int); omega, Int.neg_tdiv, tdiv_ofNat, show p - q = 0 by omega, Nat.zero_div]
    show -(((q - p) / b : Nat) : Int) = ((0 : Nat) : Int) - (((q - p) / b : Nat) : Int)
    omega

theorem lt_dN {p q : Nat} : dN p q < 0 ↔ p < q := by show (p : Int) - (q : Int) < 0 ↔ _; omega

theorem isTurn_pure (n : Int) : Pure prog 67 [iv n] (.bool (decide (0 ≤ n ∧ n ≤ 10000))) := by
  refine pure_sym hE rfl ⟨trivial, trivial⟩ trivial fun S q pc hS hq hC hE => ?_
  conv => whnf
  refine sym_pure hC (in_pure n 0 10000) ?_
  conv => whnf
  exact ⟨_, rfl, Wk.refl _⟩
theorem rNumber_pure (n : Int) : Pure prog 22 [iv n] (.bool (decide (0 ≤ n ∧ n ≤ 10000))) := by
  refine pure_sym hE rfl ⟨trivial, trivial⟩ trivial fun S q pc hS hq hC hE => ?_
  conv => whnf
  refine sym_pure hC (rin_pure n 0 10000) ?_
  conv => whnf
  exact ⟨_, rfl, Wk.refl _⟩
theorem isLimit_pure (n : Int) : Pure prog 65 [iv n] (.bool (decide (0 ≤ n ∧ n ≤ 10800))) := by
  refine pure_sym hE rfl ⟨trivial, trivial⟩ trivial fun S q pc hS hq hC hE => ?_
  conv => whnf
  refine sym_pure hC (in_pure n 0 10800) ?_
  conv => whnf
  exact ⟨_, rfl, Wk.refl _⟩
theorem rLimit_pure (n : Int) : Pure prog 20 [iv n] (.bool (decide (0 ≤ n ∧ n ≤ 10800))) := by
  refine pure_sym hE rfl ⟨trivial, trivial⟩ trivial fun S q pc hS hq hC hE => ?_
  conv => whnf
  refine sym_pure hC (rin_pure n 0 10800) ?_
  conv => whnf
  exact ⟨_, rfl, Wk.refl _⟩

theorem dif_le {n d x y : Nat} (hn : n ≤ 50000) (hd : d ≤ 50000) (hx : x ≤ 216000) (hy : y ≤ 216000) : x * d ≤ 10800000000 ∧ n * y ≤ 10800000000 ∧ y * d ≤ 10800000000 := by
  have b1 : x * d ≤ 216000 * 50000 := Nat.mul_le_mul hx hd
  have b2 : n * y ≤ 50000 * 216000 := Nat.mul_le_mul hn hy
  have b3 : y * d ≤ 216000 * 50000 := Nat.mul_le_mul hy hd
  omega

theorem wrongBy_pure {v : AV} {k x y : Nat} (hv : TV v k x y) (n d : Nat) (hn : n ≤ 50000) (hd : 1 ≤ d ∧ d ≤ 50000) :
    Pure prog 68 [v, fv (Int.ofNat n) (Int.ofNat d)] (.agg [iv (dN (x * d * 21600) (n * y * 21600)), nv (y * d)]) := by
  obtain ⟨xs, rfl, lx⟩ := hv.sh
  have b := dif_le hn hd.2 hv.bx.2 hv.by_.2
  refine pure_sym hE rfl ⟨⟨lx, fun _ h => nomatch h⟩, ⟨trivial, trivial, trivial⟩, trivial⟩ ⟨trivial, trivial, trivial⟩ fun S q pc hS hq hC hE => ?_
  conv => whnf
  refine sym_pure hC hv.tu ?_
  conv => whnf
  refine sym_pure hC (compare_pure x y n d (by omega) (by omega)) ?_
  conv => whnf
  refine sym_drawn hS (by kernel_rfl) ?_
  conv => whnf
  rw [show (Int.ofNat (x * d) - Int.ofNat (n * y)) * 21600 = dN (x * d * 21600) (n * y * 21600) from dN_mul _ _ 21600, wrap_dN (by omega) (by omega), mulN (a := y) (b := d) (by omega)]
  exact ⟨_, rfl, Wk.refl _⟩

theorem roff_pure {v : AV} {k x y : Nat} (hv : TV v k x y) (n d t : Nat) (hn : n ≤ 50000) (hd : 1 ≤ d ∧ d ≤ 50000) (ht : t ≤ 10000) :
    Pure prog 141 [v, fv (Int.ofNat n) (Int.ofNat d), nv t] (.tup [iv (dN (x * d * t * 21600) (n * y * t * 21600)), nv (y * d)]) := by
  obtain ⟨xs, rfl, lx⟩ := hv.sh
  have b := dif_le hn hd.2 hv.bx.2 hv.by_.2
  have b1 : x * d * t ≤ 10800000000 * 10000 := Nat.mul_le_mul b.1 ht
  have b2 : n * y * t ≤ 10800000000 * 10000 := Nat.mul_le_mul b.2.1 ht
  refine pure_sym hE rfl ⟨⟨lx, fun _ h => nomatch h⟩, ⟨trivial, trivial, trivial⟩, trivial, trivial⟩ ⟨trivial, trivial, trivial⟩ fun S q pc hS hq hC hE => ?_
  conv => whnf
  refine sym_pure hC hv.rtu ?_
  conv => whnf
  refine sym_drawn hS (by kernel_rfl) ?_
  conv => whnf
  rw [mulN (a := x) (b := d) (by omega), mulN (a := n) (b := y) (by omega), wrap_dN (by omega) (by omega), dN_mul, wrap_dN (by omega) (by omega),
    show dN (x * d * t) (n * y * t) * 21600 = dN (x * d * t * 21600) (n * y * t * 21600) from dN_mul _ _ 21600, wrap_dN (by omega) (by omega), mulN (a := y) (b := d) (by omega)]
  exact ⟨_, rfl, Wk.refl _⟩
end Go.Abs.Seat

/-! By how much a hand is off: rounded towards 0, down and up. -/
namespace Go.Abs.Seat
open Go Go.Abs Go.Proofs.Tryz
set_option maxRecDepth 100000
set_option maxHeartbeats 4000000
attribute [local irreducible] IntKind.wrap pEq

theorem dN_tmod {p q b : Nat} : (dN p q).tmod (Int.ofNat b) = dN ((p - q) % b) ((q - p) % b) := by
  by_cases h : q ≤ p
  · rw [show dN p q = Int.ofNat (p - q) by show (p : Int) - (q : Int) = ((p - q : Nat) : Int); omega, show q - p = 0 by omega, Nat.zero_mod]
    show (((p - q) % b : Nat) : Int) = (((p - q) % b : Nat) : Int) - ((0 : Nat) : Int)
    omega
  · rw [show dN p q = -Int.ofNat (q - p) by show (p : Int) - (q : Int) = -((q - p : Nat) : Int); omega, Int.neg_tmod, show p - q = 0 by omega, Nat.zero_mod]
    show -(((q - p) % b : Nat) : Int) = ((0 : Nat) : Int) - (((q - p) % b : Nat) : Int)
    omega

/-- A difference, divided and rounded towards 0, down, up. -/
def trV (p q b : Nat) : Int := dN ((p - q) / b) ((q - p) / b)
def dnV (p q b : Nat) : Int := dN ((p - q) / b) ((q - p) / b + if (q - p) % b = 0 then 0 else 1)
def upV (p q b : Nat) : Int := dN ((p - q) / b + if (p - q) % b = 0 then 0 else 1) ((q - p) / b)

/-- What a hand that turns by x / y, and should by n / d, is off after t turns. -/
abbrev offP (x d t : Nat) : Nat := x * d * t * 21600
abbrev offQ (y n t : Nat) : Nat := n * y * t * 21600
def offV (x y n d t : Nat) : Int := trV (offP x d t) (offQ y n t) (y * d)

theorem off_le {n d x y t : Nat} (hn : n ≤ 50000) (hd : d ≤ 50000) (hx : x ≤ 216000) (hy : y ≤ 216000) (ht : t ≤ 10000) :
    x * d * t ≤ 108000000000000 ∧ n * y * t ≤ 108000000000000 ∧ x * d ≤ 10800000000 ∧ n * y ≤ 10800000000 ∧ y * d ≤ 10800000000 := by
  have b := dif_le hn hd hx hy
  have b1 : x * d * t ≤ 10800000000 * 10000 := Nat.mul_le_mul b.1 ht
  have b2 : n * y * t ≤ 10800000000 * 10000 := Nat.mul_le_mul b.2.1 ht
  omega

theorem wrap_tr {p q b : Nat} (h1 : p < 9223372036854775808) (h2 : q < 9223372036854775808) : IntKind.i64.wrap ((dN p q).tdiv (Int.ofNat b)) = trV p q b := by
  rw [dN_tdiv]
  have := Nat.div_le_self (p - q) b
  have := Nat.div_le_self (q - p) b
  exact wrap_dN (by omega) (by omega)
theorem wrap_ntr {p q b : Nat} (h1 : p < 9223372036854775808) (h2 : q < 9223372036854775808) : IntKind.i64.wrap (0 - trV p q b) = trV q p b := by
  have := Nat.div_le_self (p - q) b
  have := Nat.div_le_self (q - p) b
  exact wrap_ndN (by omega) (by omega)

theorem mulT {p q t : Nat} (h1 : p * t * 21600 < 9223372036854775808) (h2 : q * t * 21600 < 9223372036854775808) : IntKind.i64.wrap (dN (p * 21600) (q * 21600) * Int.ofNat t) = dN (p * t * 21600) (q * t * 21600) := by
  rw [dN_mul, Nat.mul_right_comm p, Nat.mul_right_comm q, wrap_dN h1 h2]

theorem off_pure {v : AV} {k x y : Nat} (hv : TV v k x y) (n d t : Nat) (hn : n ≤ 50000) (hd : 1 ≤ d ∧ d ≤ 50000) (ht : t ≤ 10000) :
    Pure prog 27 [v, fv (Int.ofNat n) (Int.ofNat d), nv t] (.tup [iv (offV x y n d t), iv 0]) := by
  obtain ⟨xs, rfl, lx⟩ := hv.sh
  have b := off_le hn hd.2 hv.bx.2 hv.by_.2 ht
  have hyd : 1 ≤ y * d := Nat.mul_pos hv.by_.1 hd.1
  refine pure_sym hE rfl ⟨⟨lx, fun _ h => nomatch h⟩, ⟨trivial, trivial, trivial⟩, trivial, trivial⟩ ⟨trivial, trivial, trivial⟩ fun S q pc hS hq hC hE => ?_
  conv => whnf
  refine sym_pure hC hv.isT ?_
  conv => whnf
  refine sym_pure hC (isFraction_pure _ _) ?_
  rw [decide_eq_true (isF_N hn hd.1 hd.2)]
  conv => whnf
  refine sym_pure hC (isTurn_pure _) ?_
  rw [decide_eq_true (show (0 : Int) ≤ Int.ofNat t ∧ Int.ofNat t ≤ 10000 by simp only [Int.ofNat_eq_natCast]; omega)]
  conv => whnf
  refine sym_pure hC (wrongBy_pure hv n d hn hd) ?_
  conv => whnf
  refine bool_true (ne0 hyd) ?_
  conv => whnf
  rw [mulT (by omega) (by omega), wrap_tr (by omega) (by omega)]
  exact ⟨_, rfl, Wk.refl _⟩

theorem roff2_pure {v : AV} {k x y : Nat} (hv : TV v k x y) (n d t : Nat) (hn : n ≤ 50000) (hd : 1 ≤ d ∧ d ≤ 50000) (ht : t ≤ 10000) :
    Pure prog 115 [v, fv (Int.ofNat n) (Int.ofNat d), nv t] (iv (offV x y n d t)) := by
  have p1 := roff_pure hv n d t hn hd ht
  have b := off_le hn hd.2 hv.bx.2 hv.by_.2 ht
  have hyd : 1 ≤ y * d := Nat.mul_pos hv.by_.1 hd.1
  obtain ⟨xs, rfl, lx⟩ := hv.sh
  refine pure_sym hE rfl ⟨⟨lx, fun _ h => nomatch h⟩, ⟨trivial, trivial, trivial⟩, trivial, trivial⟩ trivial fun S q pc hS hq hC hE => ?_
  conv => whnf
  refine sym_pure hC p1 ?_
  conv => whnf
  by_cases h : offP x d t < offQ y n t
  · rw [show decide (dN (offP x d t) (offQ y n t) < 0) = true from decide_eq_true (lt_dN.2 h)]
    conv => whnf
    refine bool_true (ne0 hyd) ?_
    conv => whnf
    rw [wrap_ndN (by omega) (by omega), wrap_tr (by omega) (by omega), wrap_ntr (by omega) (by omega)]
    exact ⟨_, rfl, Wk.refl _⟩
  · rw [show decide (dN (offP x d t) (offQ y n t) < 0) = false from decide_eq_false fun k => h (lt_dN.1 k)]
    conv => whnf
    refine bool_true (ne0 hyd) ?_
    conv => whnf
    rw [wrap_tr (by omega) (by omega)]
    exact ⟨_, rfl, Wk.refl _⟩

theorem dn_tr {p q b : Nat} (h : dN ((p - q) % b) ((q - p) % b) < 0) : trV p q b - 1 = dnV p q b := by
  have h := lt_dN.1 h
  unfold trV dnV
  rw [if_neg (by omega)]
  show (((p - q) / b : Nat) : Int) - (((q - p) / b : Nat) : Int) - 1 = (((p - q) / b : Nat) : Int) - (((q - p) / b + 1 : Nat) : Int)
  omega
theorem dn_tr' {p q b : Nat} (h : ¬ dN ((p - q) % b) ((q - p) % b) < 0) : trV p q b = dnV p q b := by
  have h : ¬ (p - q) % b < (q - p) % b := fun k => h (lt_dN.2 k)
  unfold trV dnV
  have : (q - p) % b = 0 := by
    by_cases k : q ≤ p
    · rw [show q - p = 0 by omega, Nat.zero_mod]
    · rw [show p - q = 0 by omega, Nat.zero_mod] at h
      omega
  rw [if_pos this]
  rfl

theorem trV_lo {u w b : Nat} (h : w < 4611686018427387904) : -9223372036854775808 ≤ trV u w b - 1 := by
  have k2 := Nat.div_le_self (w - u) b
  unfold trV
  generalize (u - w) / b = A at *
  generalize (w - u) / b = B at *
  show _ ≤ (A : Int) - (B : Int) - 1
  omega
theorem trV_hi {u w b : Nat} (h : u < 4611686018427387904) : trV u w b - 1 < 9223372036854775808 := by
  have k2 := Nat.div_le_self (u - w) b
  unfold trV
  generalize (u - w) / b = A at *
  generalize (w - u) / b = B at *
  show (A : Int) - (B : Int) - 1 < _
  omega

theorem floor_pure (u w b : Nat) (h1 : u < 4611686018427387904) (h2 : w < 4611686018427387904) (hb : 1 ≤ b) : Pure prog 118 [iv (dN u w), nv b] (iv (dnV u w b)) := by
  refine pure_sym hE rfl ⟨trivial, trivial, trivial⟩ trivial fun S q pc hS hq hC hE => ?_
  have k1 := Nat.div_le_self (u - w) b
  have k2 := Nat.div_le_self (w - u) b
  conv => whnf
  refine bool_true (ne0 hb) ?_
  conv => whnf
  refine bool_true (ne0 hb) ?_
  conv => whnf
  rw [wrap_tr (by omega) (by omega), dN_tmod]
  by_cases h : dN ((u - w) % b) ((w - u) % b) < 0
  · rw [decide_eq_true h]
    conv => whnf
    rw [show IntKind.i64.wrap (trV u w b - 1) = dnV u w b by rw [wrapI (trV_lo (by omega)) (trV_hi (by omega))]; exact dn_tr h]
    exact ⟨_, rfl, Wk.refl _⟩
  · rw [decide_eq_false h]
    conv => whnf
    rw [dn_tr' h]
    exact ⟨_, rfl, Wk.refl _⟩
end Go.Abs.Seat
