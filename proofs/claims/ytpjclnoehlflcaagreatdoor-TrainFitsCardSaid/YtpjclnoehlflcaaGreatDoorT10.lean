/-
  Hands that are set: whether they are kept, and where they are.
-/
import Derived.Test.YtpjclnoehlflcaaGreatDoorT9
/-! Hands that are set: whether they are kept, and where they are. -/
namespace Go.Abs.Seat
open Go Go.Abs Go.Proofs.Tryz
set_option maxRecDepth 100000
set_option maxHeartbeats 4000000
attribute [local irreducible] IntKind.wrap pEq

/-- The days on which a hand is set. -/
def days (f s : List Int) : List Int := s.map fun x => gi f x.toNat
theorem days_len (f s : List Int) : (days f s).length = s.length := List.length_map _
theorem days_gi (f s : List Int) {i : Nat} (h : i < s.length) : gi (days f s) i = gi f (gi s i).toNat := by
  simp [gi, days, List.getD, h]
theorem drop_gi (l : List Int) {i : Nat} (h : i < l.length) : l.drop i = gi l i :: l.drop (i + 1) := by
  rw [List.drop_eq_getElem_cons h]
  simp [gi, List.getD, h]

/-- Days in order, of the turns that there can be. -/
structure Days (f s : List Int) : Prop where
  fl : f.length ≤ 8
  ix : ∀ i, i < s.length → (0 ≤ gi s i ∧ gi s i < f.length)
  rg : ∀ i, i < s.length → (1 ≤ gi f (gi s i).toNat ∧ gi f (gi s i).toNat ≤ 10000)
  up : ∀ i, i + 1 < s.length → gi f (gi s i).toNat < gi f (gi s (i + 1)).toNat
  sl : s.length ≤ f.length

theorem fe_up {f : List Int} (h : feOk f) : ∀ (k i : Nat), i + k < f.length → 0 < k → gi f i < gi f (i + k)
  | 0, _, _, hk => absurd hk (Nat.lt_irrefl _)
  | k + 1, i, hi, _ => by
    have h1 := (h.1 (i + (k + 1)) hi).2 (by omega)
    have e : i + (k + 1) - 1 = i + k := by omega
    rw [e] at h1
    by_cases k0 : k = 0
    · subst k0; exact h1
    · have := fe_up h k i (by omega) (by omega)
      omega

theorem se_ge {n : Nat} {s : List Int} (h : seOk n s) : ∀ i, i < s.length → (i : Int) ≤ gi s i
  | 0, hi => (h 0 hi).1.1
  | i + 1, hi => by
    have h1 := (h (i + 1) hi).2 (by omega)
    have h2 := se_ge h i (by omega)
    simp only [Nat.add_sub_cancel] at h1
    omega

theorem Days.of {f s : List Int} (hf : feOk f) (hs : seOk f.length s) : Days f s where
  fl := hf.2
  ix := fun i hi => by have := (hs i hi).1; omega
  rg := fun i hi => by
    have := (hs i hi).1
    exact (hf.1 _ (by omega)).1
  up := fun i hi => by
    have h1 := (hs i (by omega)).1
    have h2 := (hs (i + 1) hi).1
    have h3 := (hs (i + 1) hi).2 (by omega)
    simp only [Nat.add_sub_cancel] at h3
    have e : (gi s (i + 1)).toNat = (gi s i).toNat + ((gi s (i + 1)).toNat - (gi s i).toNat) := by omega
    rw [e]
    exact fe_up hf _ _ (by omega) (by omega)
  sl := by
    by_cases h : s.length = 0
    · omega
    · have h1 := se_ge hs (s.length - 1) (by omega)
      have h2 := (hs (s.length - 1) (by omega)).1
      omega

/-- A hand that lasts for L turns is kept up to a turn, set last at a day, with the days that follow. -/
def kp (L u : Int) : Int → List Int → Prop
  | last, [] => u - last ≤ L
  | last, x :: r => if x < u then x - last ≤ L ∧ kp L u x r else u - last ≤ L

theorem inR_i {i : Int} {n : Nat} (h : 0 ≤ i ∧ i < n) : inR i n = true := by
  unfold inR
  rw [decide_eq_true h.1, decide_eq_true h.2]; rfl

theorem keeps_pure (f s : List Int) (hd : Days f s) (L u : Nat) (_hL : L ≤ 10000) (hu : u ≤ 10000) {b : Bool} (hb : b = true ↔ kp L u 0 (days f s)) :
    Pure prog 70 [nv L, nl f, nl s, nv u] (.bool b) := by
  have ls := ivs_no s
  have lf := ivs_no f
  have sl := hd.sl
  have fl := hd.fl
  refine pure_sym hE rfl (by repeat' (first | exact trivial | assumption | exact flat_no _ | exact (fun _ h => nomatch h) | apply And.intro)) (by repeat' (first | exact trivial | assumption | exact flat_no _ | exact (fun _ h => nomatch h) | apply And.intro)) fun S q pc hS hq hC hE => ?_
  conv => whnf
  refine sym_loop hE hS (A := Nat × Int) [0, 1, 3, 12, 13] (fun (i, t) => [(9, iv t), (14, nv i)]) (fun _ => [])
    (fun (i, t) => i ≤ s.length ∧ (b = true ↔ kp L u t ((days f s).drop i)) ∧ (0 ≤ t ∧ t ≤ u) ∧ (i < s.length → t < gi f (gi s i).toNat)) (fun (i, _) => s.length - i) (0, 0) rfl rfl ⟨rfl, rfl, rfl, rfl, by repeat' (first | exact trivial | exact rfl | exact Nat.zero_le _ | exact Nat.le_of_ble_eq_true rfl | exact bdl_no (by assumption) | exact bdl_no (flat_no _) | exact bdl_no (ivs_no _) | exact Nat.max_le.2 ⟨Nat.le_of_ble_eq_true rfl, bdl_no (ivs_no _)⟩ | apply And.intro), by repeat' (first | exact trivial | exact rfl | exact Nat.zero_le _ | exact Nat.le_of_ble_eq_true rfl | exact bdl_no (by assumption) | exact bdl_no (flat_no _) | exact bdl_no (ivs_no _) | exact Nat.max_le.2 ⟨Nat.le_of_ble_eq_true rfl, bdl_no (ivs_no _)⟩ | apply And.intro)⟩
    ⟨Nat.zero_le _, hb, ⟨Int.le_refl _, by omega⟩, fun h => by have := (hd.rg 0 h).1; omega⟩ ?_
  rintro ⟨i, t⟩ ⟨hi, hk, ht, hn⟩
  conv => whnf
  by_cases h : i < s.length
  · have hix := hd.ix i h
    have hrg := hd.rg i h
    rw [drop_gi _ (by rw [days_len]; exact h), days_gi _ _ h] at hk
    rw [show decide (Int.ofNat i < ↑s.length) = true from ltN_t h]
    conv => whnf
    refine bool_true (inR_t (i := i) (n := s.length) h) ?_
    conv => whnf
    refine plan_as (nthP (nth_ivs1 (l := s) (i := i) h)) ?_
    conv => whnf
    obtain ⟨x, hx⟩ : ∃ x, gi f (gi s i).toNat = x := ⟨_, rfl⟩
    have nx : nth (ivs f) ((gi s i).toNat * 1) = some (iv x) := by rw [nth_ivs1 (by omega), hx]
    have hup := fun k => hd.up i k
    rw [hx] at hk hn hrg hup
    have hn := hn h
    refine bool_true (inR_i hix) ?_
    conv => whnf
    refine plan_as (nthP (nx)) ?_
    conv => whnf
    rw [kp] at hk
    by_cases h1 : x > Int.ofNat u
    · rw [decide_eq_true h1]
      conv => whnf
      rw [show IntKind.i64.wrap (Int.ofNat u - t) = Int.ofNat u - t from wrapI (by simp only [Int.ofNat_eq_natCast]; omega) (by simp only [Int.ofNat_eq_natCast]; omega)]
      refine ⟨_, rfl, wkb ?_⟩
      have h1 : (u : Int) < x := h1
      rw [if_neg (by omega)] at hk
      exact (decT hk).symm
    · rw [decide_eq_false h1]
      conv => whnf
      have h1 : ¬ (u : Int) < x := h1
      refine bool_true (inR_i hix) ?_
      conv => whnf
      refine plan_as (nthP (nx)) ?_
      conv => whnf
      rw [show IntKind.i64.wrap (x - t) = x - t from wrapI (by omega) (by omega)]
      by_cases h2 : x - t > Int.ofNat L
      · rw [decide_eq_true h2]
        conv => whnf
        refine ⟨_, rfl, wkb (bfalse hk ?_).symm⟩
        have h2 : (L : Int) < x - t := h2
        split
        · omega
        · omega
      · rw [decide_eq_false h2]
        conv => whnf
        have h2 : ¬ (L : Int) < x - t := h2
        refine bool_true (inR_i hix) ?_
        conv => whnf
        refine plan_as (nthP (nx)) ?_
        conv => whnf
        rw [show IntKind.i64.wrap (Int.ofNat i + 1) = Int.ofNat (i + 1) from wrapN (m := i + 1) (by omega)]
        refine ⟨(i + 1, x), ⟨h, ?_, by omega, fun k => hup k⟩, by show s.length - (i + 1) < s.length - i; omega, ⟨rfl, rfl, rfl, rfl, by repeat' (first | exact trivial | exact rfl | exact Nat.zero_le _ | exact Nat.le_of_ble_eq_true rfl | exact bdl_no (by assumption) | exact bdl_no (flat_no _) | exact bdl_no (ivs_no _) | exact Nat.max_le.2 ⟨Nat.le_of_ble_eq_true rfl, bdl_no (ivs_no _)⟩ | apply And.intro), by repeat' (first | exact trivial | exact rfl | exact Nat.zero_le _ | exact Nat.le_of_ble_eq_true rfl | exact bdl_no (by assumption) | exact bdl_no (flat_no _) | exact bdl_no (ivs_no _) | exact Nat.max_le.2 ⟨Nat.le_of_ble_eq_true rfl, bdl_no (ivs_no _)⟩ | apply And.intro)⟩⟩
        rw [hk]
        by_cases h3 : x < u
        · rw [if_pos h3]
          exact ⟨fun k => k.2, fun k => ⟨by omega, k⟩⟩
        · rw [if_neg h3]
          have hxu : x = u := by omega
          refine ⟨fun _ => ?_, fun _ => by omega⟩
          by_cases h4 : i + 1 < s.length
          · rw [drop_gi _ (by rw [days_len]; exact h4), days_gi _ _ h4, kp, if_neg (by have := hup h4; omega)]
            omega
          · rw [List.drop_eq_nil_of_le (by rw [days_len]; omega), kp]
            omega
  · rw [show decide (Int.ofNat i < ↑s.length) = false from ltN_f h]
    conv => whnf
    rw [show IntKind.i64.wrap (Int.ofNat u - t) = Int.ofNat u - t from wrapI (by simp only [Int.ofNat_eq_natCast]; omega) (by simp only [Int.ofNat_eq_natCast]; omega)]
    rw [List.drop_eq_nil_of_le (by rw [days_len]; omega), kp] at hk
    exact ⟨_, rfl, wkb (decT hk).symm⟩

theorem wi_sub {x y n d m t : Nat} (ht : t ≤ 10000) : decide (wi x y n d m t) = decide (t ≤ lastV x y n d m) := by
  by_cases h : wi x y n d m t
  · rw [decide_eq_true h, decide_eq_true ((wi_iff x y n d m t ht).1 h)]
  · rw [decide_eq_false h, decide_eq_false fun k => h ((wi_iff x y n d m t ht).2 k)]

theorem rKeeps_pure {v : AV} {k x y : Nat} (hv : TV v k x y) (n d m : Nat) (hn : n ≤ 50000) (hnd : 1 ≤ d ∧ d ≤ 50000) (hm : m ≤ 10800) (f s : List Int) (hd : Days f s) (u : Nat) (hu : u ≤ 10000) {b : Bool} (hb : b = true ↔ kp (lastV x y n d m) u 0 (days f s)) :
    Pure prog 79 [v, fv (Int.ofNat n) (Int.ofNat d), nv m, nl f, nl s, nv u] (.bool b) := by
  have hw : ∀ t : Nat, t ≤ 10000 → Pure prog 125 [v, fv (Int.ofNat n) (Int.ofNat d), nv m, nv t] (.bool (decide (t ≤ lastV x y n d m))) := fun t ht => by
    rw [← wi_sub ht]; exact within_pure hv n d m t hn hnd hm ht
  have ls := ivs_no s
  have lf := ivs_no f
  have sl := hd.sl
  have fl := hd.fl
  generalize lastV x y n d m = L at *
  obtain ⟨xs, rfl, lx⟩ := hv.sh
  refine pure_sym hE rfl (by repeat' (first | exact trivial | assumption | exact flat_no _ | exact (fun _ h => nomatch h) | apply And.intro)) (by repeat' (first | exact trivial | assumption | exact flat_no _ | exact (fun _ h => nomatch h) | apply And.intro)) fun S q pc hS hq hC hE => ?_
  conv => whnf
  refine sym_loop hE hS (A := Nat × Nat) [0, 2, 3, 4, 5, 7] (fun (i, t) => [(13, nv t), (14, nv i)]) (fun _ => [])
    (fun (i, t) => i ≤ s.length ∧ (b = true ↔ kp L u t ((days f s).drop i)) ∧ t ≤ u ∧ (i < s.length → (t : Int) < gi f (gi s i).toNat)) (fun (i, _) => s.length - i) (0, 0) rfl rfl ⟨rfl, rfl, rfl, rfl, by repeat' (first | exact trivial | exact rfl | exact Nat.zero_le _ | exact Nat.le_of_ble_eq_true rfl | exact bdl_no (by assumption) | exact bdl_no (flat_no _) | exact bdl_no (ivs_no _) | exact Nat.max_le.2 ⟨Nat.le_of_ble_eq_true rfl, bdl_no (ivs_no _)⟩ | apply And.intro), by repeat' (first | exact trivial | exact rfl | exact Nat.zero_le _ | exact Nat.le_of_ble_eq_true rfl | exact bdl_no (by assumption) | exact bdl_no (flat_no _) | exact bdl_no (ivs_no _) | exact Nat.max_le.2 ⟨Nat.le_of_ble_eq_true rfl, bdl_no (ivs_no _)⟩ | apply And.intro)⟩
    ⟨Nat.zero_le _, hb, by omega, fun h => by have := (hd.rg 0 h).1; omega⟩ ?_
  rintro ⟨i, t⟩ ⟨hi, hk, ht, hn⟩
  conv => whnf
  by_cases h : i < s.length
  · have hix := hd.ix i h
    have hrg := hd.rg i h
    rw [drop_gi _ (by rw [days_len]; exact h), days_gi _ _ h] at hk
    rw [show decide (Int.ofNat i < ↑s.length) = true from ltN_t h]
    conv => whnf
    refine bool_true (inR_t (i := i) (n := s.length) h) ?_
    conv => whnf
    refine plan_as (nthP (nth_ivs1 (l := s) (i := i) h)) ?_
    conv => whnf
    obtain ⟨z, hx⟩ : ∃ z, gi f (gi s i).toNat = z := ⟨_, rfl⟩
    have nx : nth (ivs f) ((gi s i).toNat * 1) = some (iv z) := by rw [nth_ivs1 (by omega), hx]
    have hup := fun k => hd.up i k
    rw [hx] at hk hn hrg hup
    have hn := hn h
    refine bool_true (inR_i hix) ?_
    conv => whnf
    refine plan_as (nthP (nx)) ?_
    conv => whnf
    rw [kp] at hk
    by_cases h1 : z < Int.ofNat u
    · rw [decide_eq_true h1]
      conv => whnf
      have h1 : z < (u : Int) := h1
      refine bool_true (inR_t (i := i) (n := s.length) h) ?_
      conv => whnf
      refine plan_as (nthP (nth_ivs1 (l := s) (i := i) h)) ?_
      conv => whnf
      refine bool_true (inR_i hix) ?_
      conv => whnf
      refine plan_as (nthP (nx)) ?_
      conv => whnf
      obtain ⟨w, rfl, hw1⟩ : ∃ w : Nat, z = Int.ofNat w ∧ w ≤ 10000 := ⟨z.toNat, by show z = ((z.toNat : Nat) : Int); omega, by omega⟩
      have hn : (t : Int) < (w : Int) := hn
      have h1 : (w : Int) < (u : Int) := h1
      rw [subN (a := w) (b := t) (by omega), wrapN (m := w - t) (by omega)]
      refine sym_pure hC (hw (w - t) (by omega)) ?_
      conv => whnf
      rw [if_pos (show Int.ofNat w < (u : Int) from h1)] at hk
      by_cases h2 : w - t ≤ L
      · rw [decide_eq_true h2]
        conv => whnf
        refine sym_drawn hS (by kernel_rfl) ?_
        conv => whnf
        refine bool_true (inR_t (i := i) (n := s.length) h) ?_
        conv => whnf
        refine plan_as (nthP (nth_ivs1 (l := s) (i := i) h)) ?_
        conv => whnf
        refine bool_true (inR_i hix) ?_
        conv => whnf
        refine plan_as (nthP (nx)) ?_
        conv => whnf
        rw [show IntKind.i64.wrap (Int.ofNat i + 1) = Int.ofNat (i + 1) from wrapN (m := i + 1) (by omega)]
        refine ⟨(i + 1, w), ⟨h, ?_, by show w ≤ u; omega, fun k => hup k⟩, by show s.length - (i + 1) < s.length - i; omega, ⟨rfl, rfl, rfl, rfl, by repeat' (first | exact trivial | exact rfl | exact Nat.zero_le _ | exact Nat.le_of_ble_eq_true rfl | exact bdl_no (by assumption) | exact bdl_no (flat_no _) | exact bdl_no (ivs_no _) | exact Nat.max_le.2 ⟨Nat.le_of_ble_eq_true rfl, bdl_no (ivs_no _)⟩ | apply And.intro), by repeat' (first | exact trivial | exact rfl | exact Nat.zero_le _ | exact Nat.le_of_ble_eq_true rfl | exact bdl_no (by assumption) | exact bdl_no (flat_no _) | exact bdl_no (ivs_no _) | exact Nat.max_le.2 ⟨Nat.le_of_ble_eq_true rfl, bdl_no (ivs_no _)⟩ | apply And.intro)⟩⟩
        rw [hk]
        exact ⟨fun k => k.2, fun k => ⟨by show (w : Int) - t ≤ L; omega, k⟩⟩
      · rw [decide_eq_false h2]
        conv => whnf
        refine sym_drawn hS (by kernel_rfl) ?_
        conv => whnf
        exact ⟨_, rfl, wkb (bfalse hk fun k => h2 (by have : (w : Int) - t ≤ L := k.1; omega)).symm⟩
    · rw [decide_eq_false h1]
      conv => whnf
      rw [subN (a := u) (b := t) (by omega), wrapN (m := u - t) (by omega)]
      refine sym_pure hC (hw (u - t) (by omega)) ?_
      conv => whnf
      rw [if_neg (show ¬ z < (u : Int) from h1)] at hk
      exact ⟨_, rfl, wkb (by rw [decT hk]; exact decide_eq_decide.2 (by omega))⟩
  · rw [show decide (Int.ofNat i < ↑s.length) = false from ltN_f h]
    conv => whnf
    rw [subN (a := u) (b := t) (by omega), wrapN (m := u - t) (by omega)]
    refine sym_pure hC (hw (u - t) (by omega)) ?_
    conv => whnf
    rw [List.drop_eq_nil_of_le (by rw [days_len]; omega), kp] at hk
    exact ⟨_, rfl, wkb (by rw [decT hk]; exact decide_eq_decide.2 (by omega))⟩

/-- With no setting. -/
theorem keeps_nil {w : AV} {f : List Int} (hw : IL w f) (L u : Nat) (hu : u ≤ 10000) {b : Bool} (hb : b = true ↔ kp L u 0 []) :
    Pure prog 70 [nv L, w, .nils, nv u] (.bool b) := by
  have lw := hw.no
  rcases hw with ⟨rfl, rfl⟩ | rfl
  all_goals
    refine pure_sym hE rfl (by repeat' (first | exact trivial | assumption | exact flat_no _ | exact (fun _ h => nomatch h) | apply And.intro)) (by repeat' (first | exact trivial | assumption | exact flat_no _ | exact (fun _ h => nomatch h) | apply And.intro)) fun S q pc hS hq hC hE => ?_
    conv => whnf
    refine sym_unroll hE hS ?_
    conv => whnf
    rw [show IntKind.i64.wrap (Int.ofNat u - 0) = Int.ofNat u - 0 from wrapI (by simp only [Int.ofNat_eq_natCast]; omega) (by simp only [Int.ofNat_eq_natCast]; omega)]
    rw [kp] at hb
    exact ⟨_, rfl, wkb (decT hb).symm⟩
theorem keeps_nil' (L u : Nat) (hu : u ≤ 10000) {b : Bool} (hb : b = true ↔ kp L u 0 []) : Pure prog 70 [nv L, .nils, nl [], nv u] (.bool b) := by
  refine pure_sym hE rfl (by repeat' (first | exact trivial | assumption | exact flat_no _ | exact (fun _ h => nomatch h) | apply And.intro)) (by repeat' (first | exact trivial | assumption | exact flat_no _ | exact (fun _ h => nomatch h) | apply And.intro)) fun S q pc hS hq hC hE => ?_
  conv => whnf
  refine sym_unroll hE hS ?_
  conv => whnf
  rw [show IntKind.i64.wrap (Int.ofNat u - 0) = Int.ofNat u - 0 from wrapI (by simp only [Int.ofNat_eq_natCast]; omega) (by simp only [Int.ofNat_eq_natCast]; omega)]
  rw [kp] at hb
  exact ⟨_, rfl, wkb (decT hb).symm⟩

theorem rKeeps_nil {v : AV} {k x y : Nat} (hv : TV v k x y) (n d m : Nat) (hn : n ≤ 50000) (hnd : 1 ≤ d ∧ d ≤ 50000) (hm : m ≤ 10800) {w : AV} {f : List Int} (hf : IL w f) (u : Nat) (hu : u ≤ 10000) {b : Bool} (hb : b = true ↔ kp (lastV x y n d m) u 0 []) :
    Pure prog 79 [v, fv (Int.ofNat n) (Int.ofNat d), nv m, w, .nils, nv u] (.bool b) := by
  have hw : ∀ t : Nat, t ≤ 10000 → Pure prog 125 [v, fv (Int.ofNat n) (Int.ofNat d), nv m, nv t] (.bool (decide (t ≤ lastV x y n d m))) := fun t ht => by
    rw [← wi_sub ht]; exact within_pure hv n d m t hn hnd hm ht
  generalize lastV x y n d m = L at *
  have lw := hf.no
  obtain ⟨xs, rfl, lx⟩ := hv.sh
  rcases hf with ⟨rfl, rfl⟩ | rfl
  all_goals
    refine pure_sym hE rfl (by repeat' (first | exact trivial | assumption | exact flat_no _ | exact (fun _ h => nomatch h) | apply And.intro)) (by repeat' (first | exact trivial | assumption | exact flat_no _ | exact (fun _ h => nomatch h) | apply And.intro)) fun S q pc hS hq hC hE => ?_
    conv => whnf
    refine sym_unroll hE hS ?_
    conv => whnf
    rw [show IntKind.i64.wrap (Int.ofNat u - 0) = Int.ofNat u from wrapN (m := u) (by omega)]
    refine sym_pure hC (hw u hu) ?_
    conv => whnf
    rw [kp] at hb
    exact ⟨_, rfl, wkb (by rw [decT hb]; exact decide_eq_decide.2 (by omega))⟩
theorem rKeeps_nil' {v : AV} {k x y : Nat} (hv : TV v k x y) (n d m : Nat) (hn : n ≤ 50000) (hnd : 1 ≤ d ∧ d ≤ 50000) (hm : m ≤ 10800) (u : Nat) (hu : u ≤ 10000) {b : Bool} (hb : b = true ↔ kp (lastV x y n d m) u 0 []) :
    Pure prog 79 [v, fv (Int.ofNat n) (Int.ofNat d), nv m, .nils, nl [], nv u] (.bool b) := by
  have hw : ∀ t : Nat, t ≤ 10000 → Pure prog 125 [v, fv (Int.ofNat n) (Int.ofNat d), nv m, nv t] (.bool (decide (t ≤ lastV x y n d m))) := fun t ht => by
    rw [← wi_sub ht]; exact within_pure hv n d m t hn hnd hm ht
  generalize lastV x y n d m = L at *
  obtain ⟨xs, rfl, lx⟩ := hv.sh
  refine pure_sym hE rfl (by repeat' (first | exact trivial | assumption | exact flat_no _ | exact (fun _ h => nomatch h) | apply And.intro)) (by repeat' (first | exact trivial | assumption | exact flat_no _ | exact (fun _ h => nomatch h) | apply And.intro)) fun S q pc hS hq hC hE => ?_
  conv => whnf
  refine sym_unroll hE hS ?_
  conv => whnf
  rw [show IntKind.i64.wrap (Int.ofNat u - 0) = Int.ofNat u from wrapN (m := u) (by omega)]
  refine sym_pure hC (hw u hu) ?_
  conv => whnf
  rw [kp] at hb
  exact ⟨_, rfl, wkb (by rw [decT hb]; exact decide_eq_decide.2 (by omega))⟩

/-- Whether a hand is kept: the program's and the document's, of whatever feasts and settings. -/
theorem keeps_both {v : AV} {k x y : Nat} (hv : TV v k x y) (n d m : Nat) (hn : n ≤ 50000) (hnd : 1 ≤ d ∧ d ≤ 50000) (hm : m ≤ 10800) {w z : AV} {f s : List Int} (hf : IL w f) (hs : IL z s) (of : feOk f) (os : seOk f.length s) (u : Nat) (hu : u ≤ 10000) {b : Bool} (hb : b = true ↔ kp (lastV x y n d m) u 0 (days f s)) :
    Pure prog 70 [nv (lastV x y n d m), w, z, nv u] (.bool b) ∧ Pure prog 79 [v, fv (Int.ofNat n) (Int.ofNat d), nv m, w, z, nv u] (.bool b) := by
  rcases hs with ⟨rfl, rfl⟩ | rfl
  · exact ⟨keeps_nil hf _ u hu hb, rKeeps_nil hv n d m hn hnd hm hf u hu hb⟩
  · have hd := Days.of of os
    rcases hf with ⟨rfl, rfl⟩ | rfl
    · have : s = [] := List.eq_nil_of_length_eq_zero (by have := hd.sl; simpa using this)
      subst this
      exact ⟨keeps_nil' _ u hu hb, rKeeps_nil' hv n d m hn hnd hm u hu hb⟩
    · exact ⟨keeps_pure f s hd _ u (lastV_le ..) hu hb, rKeeps_pure hv n d m hn hnd hm f s hd u hu hb⟩
end Go.Abs.Seat
