/-
  Where a hand that is set is.
-/
import Derived.Test.YtpjclnoehlflcaaGreatDoorT10
/-! Where a hand that is set is. -/
namespace Go.Abs.Seat
open Go Go.Abs Go.Proofs.Tryz
set_option maxRecDepth 100000
set_option maxHeartbeats 4000000
attribute [local irreducible] IntKind.wrap pEq

theorem tmodN {a b : Nat} : (Int.ofNat a).tmod (Int.ofNat b) = Int.ofNat (a % b) := rfl

theorem circN {a : Nat} (h : a * 21600 < 9223372036854775808) : IntKind.i64.wrap (Int.ofNat a * 21600) = Int.ofNat (a * 21600) := mulN (a := a) (b := 21600) h

/-- The last day up to a turn on which a hand is set. -/
def lastD (u : Int) : Int → List Int → Int
  | t, [] => t
  | t, x :: r => if x ≤ u then lastD u x r else t

/-- Where a hand is at turn u that was set last at turn t. -/
def shV (x y n d t u : Nat) : Nat := (n * t * y + x * (u - t) * d) % (y * d) * 21600 / (y * d)

theorem sh_le {n d x y t u : Nat} (hn : n ≤ 50000) (hd : d ≤ 50000) (hx : x ≤ 216000) (hy : y ≤ 216000) (ht : t ≤ u) (hu : u ≤ 10000) :
    n * t ≤ 500000000 ∧ n * t * y ≤ 108000000000000 ∧ x * (u - t) ≤ 2160000000 ∧ x * (u - t) * d ≤ 108000000000000 ∧ y * d ≤ 10800000000 := by
  have b1 : n * t ≤ 50000 * 10000 := Nat.mul_le_mul hn (by omega)
  have b2 : n * t * y ≤ 500000000 * 216000 := Nat.mul_le_mul (by omega) hy
  have b3 : x * (u - t) ≤ 216000 * 10000 := Nat.mul_le_mul hx (by omega)
  have b4 : x * (u - t) * d ≤ 2160000000 * 50000 := Nat.mul_le_mul (by omega) hd
  have b5 : y * d ≤ 216000 * 50000 := Nat.mul_le_mul hy hd
  omega

theorem shown_pure {v : AV} {k x y : Nat} (hv : TV v k x y) (n d : Nat) (hn : n ≤ 50000) (hnd : 1 ≤ d ∧ d ≤ 50000) (f s : List Int) (hd : Days f s) (pf : Pure prog 66 [nl f] (.bool true)) (ps : Pure prog 80 [nl f, nl s] (.bool true)) (u T : Nat) (hu : u ≤ 10000)
    (hT : lastD u 0 (days f s) = T) :
    Pure prog 26 [v, fv (Int.ofNat n) (Int.ofNat d), nl f, nl s, nv u] (.tup [nv (shV x y n d T u), iv 0]) := by
  have ls := ivs_no s
  have lf := ivs_no f
  have sl := hd.sl
  have fl := hd.fl
  have hyd : 1 ≤ y * d := Nat.mul_pos hv.by_.1 hnd.1
  obtain ⟨xs, rfl, lx⟩ := hv.sh
  refine pure_sym hE rfl (by repeat' (first | exact trivial | assumption | exact flat_no _ | exact (fun _ h => nomatch h) | apply And.intro)) (by repeat' (first | exact trivial | assumption | exact flat_no _ | exact (fun _ h => nomatch h) | apply And.intro)) fun S q pc hS hq hC hE => ?_
  conv => whnf
  refine sym_pure hC (hv.isT) ?_
  conv => whnf
  refine sym_pure hC (isFraction_pure _ _) ?_
  conv => whnf
  rw [decide_eq_true (isF_N hn hnd.1 hnd.2)]
  conv => whnf
  refine sym_pure hC (pf) ?_
  conv => whnf
  refine sym_pure hC (ps) ?_
  conv => whnf
  refine sym_pure hC (isTurn_pure _) ?_
  conv => whnf
  rw [decide_eq_true (rng (t := u) (m := 10000) (by omega))]
  conv => whnf
  refine sym_loop hE hS (A := Nat × Nat) [0, 2, 3, 4, 6, 42, 43] (fun (i, t) => [(12, nv t), (44, nv i)]) (fun _ => [])
    (fun (i, t) => i ≤ s.length ∧ lastD u t ((days f s).drop i) = T ∧ t ≤ u) (fun (i, _) => s.length - i) (0, 0) rfl rfl ⟨rfl, rfl, rfl, rfl, by repeat' (first | exact trivial | exact rfl | exact Nat.zero_le _ | exact Nat.le_of_ble_eq_true rfl | exact bdl_no (by assumption) | exact bdl_no (flat_no _) | exact bdl_no (ivs_no _) | exact Nat.max_le.2 ⟨Nat.le_of_ble_eq_true rfl, bdl_no (ivs_no _)⟩ | apply And.intro), by repeat' (first | exact trivial | exact rfl | exact Nat.zero_le _ | exact Nat.le_of_ble_eq_true rfl | exact bdl_no (by assumption) | exact bdl_no (flat_no _) | exact bdl_no (ivs_no _) | exact Nat.max_le.2 ⟨Nat.le_of_ble_eq_true rfl, bdl_no (ivs_no _)⟩ | apply And.intro)⟩
    ⟨Nat.zero_le _, hT, Nat.zero_le _⟩ ?_
  rintro ⟨i, t⟩ ⟨hi, hk, ht⟩
  conv => whnf
  by_cases h : i < s.length
  · have hix := hd.ix i h
    have hrg := hd.rg i h
    rw [drop_gi _ (by rw [days_len]; exact h), days_gi _ _ h] at hk
    rw [show decide (Int.ofNat i < ↑s.length) = true from ltN_t h]
    conv => whnf
    refine bool_true (inR_t (i := i) (n := s.length) h) ?_
    conv => whnf
    refine plan_as (nthP (nth_ivs1 (l := s) (i := i) h)) ?_
    conv => whnf
    obtain ⟨z, hx⟩ : ∃ z, gi f (gi s i).toNat = z := ⟨_, rfl⟩
    have nx : nth (ivs f) ((gi s i).toNat * 1) = some (iv z) := by rw [nth_ivs1 (by omega), hx]
    have hup := fun k => hd.up i k
    rw [hx] at hk hrg hup
    refine bool_true (inR_i hix) ?_
    conv => whnf
    refine plan_as (nthP (nx)) ?_
    conv => whnf
    rw [lastD] at hk
    by_cases h1 : z ≤ Int.ofNat u
    · rw [decide_eq_true h1]
      conv => whnf
      have h1 : z ≤ (u : Int) := h1
      refine bool_true (inR_i hix) ?_
      conv => whnf
      refine plan_as (nthP (nx)) ?_
      conv => whnf
      obtain ⟨w, rfl, hw1⟩ : ∃ w : Nat, z = Int.ofNat w ∧ w ≤ u := ⟨z.toNat, by show z = ((z.toNat : Nat) : Int); omega, by omega⟩
      rw [show IntKind.i64.wrap (Int.ofNat i + 1) = Int.ofNat (i + 1) from wrapN (m := i + 1) (by omega)]
      rw [if_pos h1] at hk
      exact ⟨(i + 1, w), ⟨h, hk, hw1⟩, by show s.length - (i + 1) < s.length - i; omega, ⟨rfl, rfl, rfl, rfl, by repeat' (first | exact trivial | exact rfl | exact Nat.zero_le _ | exact Nat.le_of_ble_eq_true rfl | exact bdl_no (by assumption) | exact bdl_no (flat_no _) | exact bdl_no (ivs_no _) | exact Nat.max_le.2 ⟨Nat.le_of_ble_eq_true rfl, bdl_no (ivs_no _)⟩ | apply And.intro), by repeat' (first | exact trivial | exact rfl | exact Nat.zero_le _ | exact Nat.le_of_ble_eq_true rfl | exact bdl_no (by assumption) | exact bdl_no (flat_no _) | exact bdl_no (ivs_no _) | exact Nat.max_le.2 ⟨Nat.le_of_ble_eq_true rfl, bdl_no (ivs_no _)⟩ | apply And.intro)⟩⟩
    · rw [decide_eq_false h1]
      conv => whnf
      have h1 : ¬ z ≤ (u : Int) := h1
      rw [show IntKind.i64.wrap (Int.ofNat i + 1) = Int.ofNat (i + 1) from wrapN (m := i + 1) (by omega)]
      rw [if_neg h1] at hk
      refine ⟨(i + 1, t), ⟨h, ?_, ht⟩, by show s.length - (i + 1) < s.length - i; omega, ⟨rfl, rfl, rfl, rfl, by repeat' (first | exact trivial | exact rfl | exact Nat.zero_le _ | exact Nat.le_of_ble_eq_true rfl | exact bdl_no (by assumption) | exact bdl_no (flat_no _) | exact bdl_no (ivs_no _) | exact Nat.max_le.2 ⟨Nat.le_of_ble_eq_true rfl, bdl_no (ivs_no _)⟩ | apply And.intro), by repeat' (first | exact trivial | exact rfl | exact Nat.zero_le _ | exact Nat.le_of_ble_eq_true rfl | exact bdl_no (by assumption) | exact bdl_no (flat_no _) | exact bdl_no (ivs_no _) | exact Nat.max_le.2 ⟨Nat.le_of_ble_eq_true rfl, bdl_no (ivs_no _)⟩ | apply And.intro)⟩⟩
      by_cases h4 : i + 1 < s.length
      · rw [drop_gi _ (by rw [days_len]; exact h4), days_gi _ _ h4, lastD, if_neg (by have := hup h4; omega)]
        exact hk
      · rw [List.drop_eq_nil_of_le (by rw [days_len]; omega), lastD]
        exact hk
  · rw [show decide (Int.ofNat i < ↑s.length) = false from ltN_f h]
    conv => whnf
    rw [List.drop_eq_nil_of_le (by rw [days_len]; omega), lastD] at hk
    have hk : t = T := by omega
    subst hk
    have b := sh_le hn hnd.2 hv.bx.2 hv.by_.2 ht hu
    refine sym_pure hC (hv.tu) ?_
    conv => whnf
    rw [mulN (a := y) (b := d) (by omega), mulN (a := n) (b := t) (by omega), mulN (a := n * t) (b := y) (by omega), subN (a := u) (b := t) (by omega), wrapN (m := u - t) (by omega), mulN (a := x) (b := u - t) (by omega), mulN (a := x * (u - t)) (b := d) (by omega), addN (a := n * t * y) (b := x * (u - t) * d) (by omega)]
    conv => whnf
    refine bool_true (ne0 hyd) ?_
    conv => whnf
    refine bool_true (ne0 hyd) ?_
    conv => whnf
    have hm : (n * t * y + x * (u - t) * d) % (y * d) < y * d := Nat.mod_lt _ hyd
    rw [tmodN, circN (by omega), quoN (by omega)]
    exact ⟨_, rfl, Wk.refl _⟩

theorem sh_split (n t y x u d : Nat) (_hy : 1 ≤ y) (_hd : 1 ≤ d) : ((n * t) % d * y + (x * (u - t)) % y * d) % (y * d) = (n * t * y + x * (u - t) * d) % (y * d) := by
  have e1 : (n * t) % d * y = (n * t * y) % (y * d) := by rw [Nat.mul_comm y d, Nat.mul_mod_mul_right]
  have e2 : (x * (u - t)) % y * d = (x * (u - t) * d) % (y * d) := by rw [Nat.mul_mod_mul_right]
  rw [e1, e2, ← Nat.add_mod]

/-- No setting: the list of settings is empty. -/
theorem shown_nil {v : AV} {k x y : Nat} (hv : TV v k x y) (n d : Nat) (hn : n ≤ 50000) (hnd : 1 ≤ d ∧ d ≤ 50000) {w z : AV} {f : List Int} (hf : IL w f) (hz : z = .nils ∨ z = nl []) (pf : Pure prog 66 [w] (.bool true)) (ps : Pure prog 80 [w, z] (.bool true)) (u : Nat) (hu : u ≤ 10000) :
    Pure prog 26 [v, fv (Int.ofNat n) (Int.ofNat d), w, z, nv u] (.tup [nv (shV x y n d 0 u), iv 0]) := by
  have hyd : 1 ≤ y * d := Nat.mul_pos hv.by_.1 hnd.1
  have b := sh_le hn hnd.2 hv.bx.2 hv.by_.2 (Nat.zero_le u) hu
  have hm : (n * 0 * y + x * (u - 0) * d) % (y * d) < y * d := Nat.mod_lt _ hyd
  have lw := hf.no
  obtain ⟨xs, rfl, lx⟩ := hv.sh
  rcases hf with ⟨rfl, rfl⟩ | rfl <;> rcases hz with rfl | rfl
  all_goals
    refine pure_sym hE rfl (by repeat' (first | exact trivial | assumption | exact flat_no _ | exact (fun _ h => nomatch h) | apply And.intro)) (by repeat' (first | exact trivial | assumption | exact flat_no _ | exact (fun _ h => nomatch h) | apply And.intro)) fun S q pc hS hq hC hE => ?_
    conv => whnf
    refine sym_pure hC (hv.isT) ?_
    conv => whnf
    refine sym_pure hC (isFraction_pure _ _) ?_
    conv => whnf
    rw [decide_eq_true (isF_N hn hnd.1 hnd.2)]
    conv => whnf
    refine sym_pure hC (pf) ?_
    conv => whnf
    refine sym_pure hC (ps) ?_
    conv => whnf
    refine sym_pure hC (isTurn_pure _) ?_
    conv => whnf
    rw [decide_eq_true (rng (t := u) (m := 10000) (by omega))]
    conv => whnf
    refine sym_unroll hE hS ?_
    conv => whnf
    refine sym_pure hC (hv.tu) ?_
    conv => whnf
    rw [mulN (a := y) (b := d) (by omega), show IntKind.i64.wrap (Int.ofNat n * 0) = Int.ofNat (n * 0) from mulN (a := n) (b := 0) (by omega), mulN (a := n * 0) (b := y) (by omega), show IntKind.i64.wrap (Int.ofNat u - 0) = Int.ofNat (u - 0) from wrapN (m := u) (by omega), mulN (a := x) (b := u - 0) (by omega), mulN (a := x * (u - 0)) (b := d) (by omega), addN (a := n * 0 * y) (b := x * (u - 0) * d) (by omega)]
    conv => whnf
    refine bool_true (ne0 hyd) ?_
    conv => whnf
    refine bool_true (ne0 hyd) ?_
    conv => whnf
    rw [tmodN, circN (by omega), quoN (by omega)]
    exact ⟨_, rfl, Wk.refl _⟩

theorem lastD_le {u : Int} : ∀ (l : List Int) (t : Int), 0 ≤ t → t ≤ u → (∀ x, x ∈ l → 0 ≤ x) → 0 ≤ lastD u t l ∧ lastD u t l ≤ u
  | [], t, h0, h1, _ => ⟨h0, h1⟩
  | x :: r, t, h0, h1, h2 => by
    rw [lastD]
    split
    · exact lastD_le r x (h2 x (by simp)) (by assumption) fun y hy => h2 y (by simp [hy])
    · exact ⟨h0, h1⟩

theorem days_mem {f s : List Int} (h : Days f s) : ∀ x, x ∈ days f s → 0 ≤ x := by
  intro x hx
  obtain ⟨i, hi, e⟩ := List.mem_iff_getElem.1 hx
  rw [days_len] at hi
  have := h.rg i hi
  have e2 := days_gi f s hi
  rw [gi, List.getD, List.getElem?_eq_getElem (by rw [days_len]; exact hi)] at e2
  simp only [Option.getD_some] at e2
  omega

end Go.Abs.Seat
