/-
  The law TrainRight.
-/
import Derived.Test.YtpjclnoehlflcaaGreatDoorT25
import Derived.Test.YtpjclnoehlflcaaGreatDoorL6
/-! The law TrainRight. -/
namespace Go.Abs.Seat
open Go Go.Abs Go.Proofs.Tryz
set_option maxRecDepth 100000
set_option maxHeartbeats 4000000
attribute [local irreducible] IntKind.wrap pEq

theorem shown_any {v : AV} {k x y : Nat} (hv : TV v k x y) (n d : Nat) (hn : n ≤ 50000) (hnd : 1 ≤ d ∧ d ≤ 50000) {w z : AV} {f s : List Int} (hf : IL w f) (hs : IL z s) (of : feOk f) (os : seOk f.length s)
    (pf : Pure prog 66 [w] (.bool true)) (ps : Pure prog 80 [w, z] (.bool true)) (u T : Nat) (hu : u ≤ 10000) (hT : lastD u 0 (days f s) = T) :
    Pure prog 26 [v, fv (Int.ofNat n) (Int.ofNat d), w, z, nv u] (.tup [nv (shV x y n d T u), iv 0]) := by
  have hd := Days.of of os
  rcases hs with ⟨rfl, rfl⟩ | rfl
  · have : T = 0 := by have : (0 : Int) = T := hT; omega
    subst this
    exact shown_nil hv n d hn hnd hf (.inl rfl) pf ps u hu
  · rcases hf with ⟨rfl, rfl⟩ | rfl
    · have : s = [] := List.eq_nil_of_length_eq_zero (by have := hd.sl; simpa using this)
      subst this
      have : T = 0 := by have : (0 : Int) = T := hT; omega
      subst this
      exact shown_nil hv n d hn hnd (.inl ⟨rfl, rfl⟩) (.inr rfl) pf ps u hu
    · exact shown_pure hv n d hn hnd f s hd pf ps u T hu hT

theorem days_up {f s : List Int} (h : Days f s) : ∀ i, i + 1 < (days f s).length → gi (days f s) i < gi (days f s) (i + 1) := by
  intro i hi
  rw [days_len] at hi
  rw [days_gi _ _ hi, days_gi _ _ (show i < s.length by omega)]
  exact h.up i hi
theorem days_first {f s : List Int} (h : Days f s) : 0 < (days f s).length → 0 < gi (days f s) 0 := by
  intro hi
  rw [days_len] at hi
  rw [days_gi _ _ hi]
  have := (h.rg 0 hi).1
  omega

/-- All that is as defined. -/
theorem trainRight_yes (hk : Pure prog 16 [] (.bool true)) {v : AV} {k x y : Nat} (hv : TV v k x y) (k8 : k ≤ 8) (n d : Nat) (hn : n ≤ 50000) (hnd : 1 ≤ d ∧ d ≤ 50000) {w z : AV} {f s : List Int} (hf : IL w f) (hs : IL z s) (of : feOk f) (os : seOk f.length s)
    (pB : Pure prog 15 [w, z] (.bool true)) (pe : Pure prog 66 [w] (.bool true)) (re : Pure prog 21 [w] (.bool true)) (ps : Pure prog 80 [w, z] (.bool true)) (rs : Pure prog 25 [w, z] (.bool true)) (u : Nat) (hu : u ≤ 10000) :
    Pure prog 4 [v, fv (Int.ofNat n) (Int.ofNat d), w, z, nv u] (.bool true) := by
  have hd := Days.of of os
  have hT := lastD_le (u := u) (days f s) 0 (Int.le_refl _) (by omega) (days_mem hd)
  obtain ⟨T, eT, hTu⟩ : ∃ T : Nat, lastD u 0 (days f s) = T ∧ T ≤ u := ⟨(lastD u 0 (days f s)).toNat, by omega, by omega⟩
  have eT2 : lastD T 0 (days f s) = T := by
    have := lastD_last u (days f s) 0 (by omega) (days_up hd) (days_first hd)
    rwa [eT] at this
  have p1 := shown_any hv n d hn hnd hf hs of os pe ps u T hu eT
  have p2 := shown_any hv n d hn hnd hf hs of os pe ps T T (by omega) eT2
  rw [right_set x y n d T hv.by_.1] at p2
  have pO := off_pure hv n d (u - T) hn hnd (by omega)
  have pr1 := rRight_pure n d T hn hnd (by omega)
  have pr2 := rRight_pure n d u hn hnd hu
  obtain ⟨o, ho⟩ : ∃ o, (offV x y n d (u - T)).tmod 21600 = o := ⟨_, rfl⟩
  obtain ⟨hb, hfar⟩ := right_far x y n d T u hv.by_.1 hnd.1 hTu ho
  generalize shV x y n d T u = sh at *
  generalize riV n d T = rt at *
  generalize riV n d u = ri at *
  generalize offV x y n d (u - T) = o0 at *
  have rT := hv.ts.rT k8
  have pF := rFraction_pure (Int.ofNat n) (Int.ofNat d)
  rw [decide_eq_true (isF_N hn hnd.1 hnd.2)] at pF
  have pN := rNumber_pure (Int.ofNat u)
  rw [decide_eq_true (rng (t := u) (m := 10000) (by omega))] at pN
  obtain ⟨xs, rfl, lx⟩ := hv.sh
  have lw := hf.no
  have lz := hs.no
  rcases hs with ⟨rfl, rfl⟩ | rfl
  · have : T = 0 := by have : (0 : Int) = T := eT; omega
    subst this
    rcases hf with ⟨rfl, rfl⟩ | rfl
    all_goals
      refine pure_sym hE rfl (by repeat' (first | exact trivial | assumption | exact flat_no _ | exact (fun _ h => nomatch h) | apply And.intro)) (by repeat' (first | exact trivial | assumption | exact flat_no _ | exact (fun _ h => nomatch h) | apply And.intro)) fun S q pc hS hq hC hE => ?_
      conv => whnf
      repeat ((first
        | refine sym_pure hC (slim_yes (by omega)) ?_
        | refine sym_pure hC (pB) ?_
        | refine sym_pure hC (rT) ?_
        | refine sym_pure hC (pF) ?_
        | refine sym_pure hC (re) ?_
        | refine sym_pure hC (rs) ?_
        | refine sym_pure hC (pN) ?_
        | refine sym_drawn hS (by kernel_rfl) ?_
        | refine sym_eq hq true (eqBool_same _ _) ?_
        | rw [beq_self_eq_true]
        | rw [bne_self_eq_false]); conv => whnf)
      refine sym_unroll hE hS ?_
      conv => whnf
      refine sym_pure hC (p1) ?_
      conv => whnf
      refine sym_pure hC (p2) ?_
      conv => whnf
      rw [show IntKind.i64.wrap (Int.ofNat u - 0) = Int.ofNat (u - 0) from wrapN (m := u) (by omega)]
      conv => whnf
      refine sym_pure hC (pO) ?_
      conv => whnf
      rw [decide_eq_false (show ¬ Int.ofNat sh < 0 by show ¬ (sh : Int) < 0; omega)]
      conv => whnf
      rw [decide_eq_false (show ¬ Int.ofNat sh ≥ 21600 by show ¬ (21600 : Int) ≤ (sh : Int); omega)]
      conv => whnf
      refine sym_pure hC (pr1) ?_
      conv => whnf
      rw [bne_self_eq_false (Int.ofNat rt)]
      conv => whnf
      refine sym_pure hC (pr2) ?_
      conv => whnf
      rw [show IntKind.i64.wrap (Int.ofNat sh - Int.ofNat ri) = Int.ofNat sh - Int.ofNat ri from wrapI (by show _ ≤ (sh : Int) - (ri : Int); omega) (by show (sh : Int) - (ri : Int) < _; omega), ho,
        show IntKind.i64.wrap (Int.ofNat sh - Int.ofNat ri - o) = Int.ofNat sh - Int.ofNat ri - o from wrapI (by show _ ≤ (sh : Int) - (ri : Int) - o; omega) (by show (sh : Int) - (ri : Int) - o < _; omega),
        show IntKind.i64.wrap (Int.ofNat sh - Int.ofNat ri - o + 43200) = Int.ofNat sh - Int.ofNat ri - o + 43200 from wrapI (by show _ ≤ (sh : Int) - (ri : Int) - o + 43200; omega) (by show (sh : Int) - (ri : Int) - o + 43200 < _; omega)]
      rcases hfar with e | e | e
      · rw [show (Int.ofNat sh - Int.ofNat ri - o + 43200).tmod 21600 = 0 from e]
        conv => whnf
        refine sym_pure hC (hk) ?_
        conv => whnf
        exact ⟨_, rfl, Wk.refl _⟩
      · rw [show (Int.ofNat sh - Int.ofNat ri - o + 43200).tmod 21600 = 1 from e]
        conv => whnf
        refine sym_pure hC (hk) ?_
        conv => whnf
        exact ⟨_, rfl, Wk.refl _⟩
      · rw [show (Int.ofNat sh - Int.ofNat ri - o + 43200).tmod 21600 = 21599 from e]
        conv => whnf
        refine sym_pure hC (hk) ?_
        conv => whnf
        exact ⟨_, rfl, Wk.refl _⟩
  · rcases hf with ⟨rfl, rfl⟩ | rfl
    · have : s = [] := List.eq_nil_of_length_eq_zero (by have := hd.sl; simpa using this)
      subst this
      have : T = 0 := by have : (0 : Int) = T := eT; omega
      subst this
      refine pure_sym hE rfl (by repeat' (first | exact trivial | assumption | exact flat_no _ | exact (fun _ h => nomatch h) | apply And.intro)) (by repeat' (first | exact trivial | assumption | exact flat_no _ | exact (fun _ h => nomatch h) | apply And.intro)) fun S q pc hS hq hC hE => ?_
      conv => whnf
      repeat ((first
        | refine sym_pure hC (slim_yes (by omega)) ?_
        | refine sym_pure hC (pB) ?_
        | refine sym_pure hC (rT) ?_
        | refine sym_pure hC (pF) ?_
        | refine sym_pure hC (re) ?_
        | refine sym_pure hC (rs) ?_
        | refine sym_pure hC (pN) ?_
        | refine sym_drawn hS (by kernel_rfl) ?_
        | refine sym_eq hq true (eqBool_same _ _) ?_
        | rw [beq_self_eq_true]
        | rw [bne_self_eq_false]); conv => whnf)
      refine sym_unroll hE hS ?_
      conv => whnf
      refine sym_pure hC (p1) ?_
      conv => whnf
      refine sym_pure hC (p2) ?_
      conv => whnf
      rw [show IntKind.i64.wrap (Int.ofNat u - 0) = Int.ofNat (u - 0) from wrapN (m := u) (by omega)]
      conv => whnf
      refine sym_pure hC (pO) ?_
      conv => whnf
      rw [decide_eq_false (show ¬ Int.ofNat sh < 0 by show ¬ (sh : Int) < 0; omega)]
      conv => whnf
      rw [decide_eq_false (show ¬ Int.ofNat sh ≥ 21600 by show ¬ (21600 : Int) ≤ (sh : Int); omega)]
      conv => whnf
      refine sym_pure hC (pr1) ?_
      conv => whnf
      rw [bne_self_eq_false (Int.ofNat rt)]
      conv => whnf
      refine sym_pure hC (pr2) ?_
      conv => whnf
      rw [show IntKind.i64.wrap (Int.ofNat sh - Int.ofNat ri) = Int.ofNat sh - Int.ofNat ri from wrapI (by show _ ≤ (sh : Int) - (ri : Int); omega) (by show (sh : Int) - (ri : Int) < _; omega), ho,
        show IntKind.i64.wrap (Int.ofNat sh - Int.ofNat ri - o) = Int.ofNat sh - Int.ofNat ri - o from wrapI (by show _ ≤ (sh : Int) - (ri : Int) - o; omega) (by show (sh : Int) - (ri : Int) - o < _; omega),
        show IntKind.i64.wrap (Int.ofNat sh - Int.ofNat ri - o + 43200) = Int.ofNat sh - Int.ofNat ri - o + 43200 from wrapI (by show _ ≤ (sh : Int) - (ri : Int) - o + 43200; omega) (by show (sh : Int) - (ri : Int) - o + 43200 < _; omega)]
      rcases hfar with e | e | e
      · rw [show (Int.ofNat sh - Int.ofNat ri - o + 43200).tmod 21600 = 0 from e]
        conv => whnf
        refine sym_pure hC (hk) ?_
        conv => whnf
        exact ⟨_, rfl, Wk.refl _⟩
      · rw [show (Int.ofNat sh - Int.ofNat ri - o + 43200).tmod 21600 = 1 from e]
        conv => whnf
        refine sym_pure hC (hk) ?_
        conv => whnf
        exact ⟨_, rfl, Wk.refl _⟩
      · rw [show (Int.ofNat sh - Int.ofNat ri - o + 43200).tmod 21600 = 21599 from e]
        conv => whnf
        refine sym_pure hC (hk) ?_
        conv => whnf
        exact ⟨_, rfl, Wk.refl _⟩
    · have ls := ivs_no s
      have lf := ivs_no f
      have sl := hd.sl
      have fl := hd.fl
      refine pure_sym hE rfl (by repeat' (first | exact trivial | assumption | exact flat_no _ | exact (fun _ h => nomatch h) | apply And.intro)) (by repeat' (first | exact trivial | assumption | exact flat_no _ | exact (fun _ h => nomatch h) | apply And.intro)) fun S q pc hS hq hC hE => ?_
      conv => whnf
      repeat ((first
        | refine sym_pure hC (slim_yes (by omega)) ?_
        | refine sym_pure hC (pB) ?_
        | refine sym_pure hC (rT) ?_
        | refine sym_pure hC (pF) ?_
        | refine sym_pure hC (re) ?_
        | refine sym_pure hC (rs) ?_
        | refine sym_pure hC (pN) ?_
        | refine sym_drawn hS (by kernel_rfl) ?_
        | refine sym_eq hq true (eqBool_same _ _) ?_
        | rw [beq_self_eq_true]
        | rw [bne_self_eq_false]); conv => whnf)
      refine sym_loop hE hS (A := Nat × Nat) [0, 2, 3, 4, 6] (fun (i, t) => [(11, nv t), (12, nv i)]) (fun _ => [])
        (fun (i, t) => i ≤ s.length ∧ lastD u t ((days f s).drop i) = T ∧ t ≤ u) (fun (i, _) => s.length - i) (0, 0) rfl rfl ⟨rfl, rfl, rfl, rfl, by repeat' (first | exact trivial | exact rfl | exact Nat.zero_le _ | exact Nat.le_of_ble_eq_true rfl | exact bdl_no (by assumption) | exact bdl_no (flat_no _) | exact bdl_no (ivs_no _) | exact Nat.max_le.2 ⟨Nat.le_of_ble_eq_true rfl, bdl_no (ivs_no _)⟩ | apply And.intro), by repeat' (first | exact trivial | exact rfl | exact Nat.zero_le _ | exact Nat.le_of_ble_eq_true rfl | exact bdl_no (by assumption) | exact bdl_no (flat_no _) | exact bdl_no (ivs_no _) | exact Nat.max_le.2 ⟨Nat.le_of_ble_eq_true rfl, bdl_no (ivs_no _)⟩ | apply And.intro)⟩
        ⟨Nat.zero_le _, eT, Nat.zero_le _⟩ ?_
      rintro ⟨i, t⟩ ⟨hi, hk', ht⟩
      conv => whnf
      by_cases h : i < s.length
      · have hix := hd.ix i h
        have hrg := hd.rg i h
        rw [drop_gi _ (by rw [days_len]; exact h), days_gi _ _ h] at hk'
        rw [show decide (Int.ofNat i < ↑s.length) = true from ltN_t h]
        conv => whnf
        refine bool_true (inR_t (i := i) (n := s.length) h) ?_
        conv => whnf
        refine plan_as (nthP (nth_ivs1 (l := s) (i := i) h)) ?_
        conv => whnf
        obtain ⟨z, hx⟩ : ∃ z, gi f (gi s i).toNat = z := ⟨_, rfl⟩
        have nx : nth (ivs f) ((gi s i).toNat * 1) = some (iv z) := by rw [nth_ivs1 (by omega), hx]
        have hup := fun k => hd.up i k
        rw [hx] at hk' hrg hup
        refine bool_true (inR_i hix) ?_
        conv => whnf
        refine plan_as (nthP (nx)) ?_
        conv => whnf
        rw [lastD] at hk'
        by_cases h1 : z ≤ Int.ofNat u
        · rw [decide_eq_true h1]
          conv => whnf
          have h1 : z ≤ (u : Int) := h1
          refine bool_true (inR_t (i := i) (n := s.length) h) ?_
          conv => whnf
          refine plan_as (nthP (nth_ivs1 (l := s) (i := i) h)) ?_
          conv => whnf
          refine bool_true (inR_i hix) ?_
          conv => whnf
          refine plan_as (nthP (nx)) ?_
          conv => whnf
          obtain ⟨w, rfl, hw1⟩ : ∃ w : Nat, z = Int.ofNat w ∧ w ≤ u := ⟨z.toNat, by show z = ((z.toNat : Nat) : Int); omega, by omega⟩
          rw [show IntKind.i64.wrap (Int.ofNat i + 1) = Int.ofNat (i + 1) from wrapN (m := i + 1) (by omega)]
          rw [if_pos h1] at hk'
          exact ⟨(i + 1, w), ⟨h, hk', hw1⟩, by show s.length - (i + 1) < s.length - i; omega, ⟨rfl, rfl, rfl, rfl, by repeat' (first | exact trivial | exact rfl | exact Nat.zero_le _ | exact Nat.le_of_ble_eq_true rfl | exact bdl_no (by assumption) | exact bdl_no (flat_no _) | exact bdl_no (ivs_no _) | exact Nat.max_le.2 ⟨Nat.le_of_ble_eq_true rfl, bdl_no (ivs_no _)⟩ | apply And.intro), by repeat' (first | exact trivial | exact rfl | exact Nat.zero_le _ | exact Nat.le_of_ble_eq_true rfl | exact bdl_no (by assumption) | exact bdl_no (flat_no _) | exact bdl_no (ivs_no _) | exact Nat.max_le.2 ⟨Nat.le_of_ble_eq_true rfl, bdl_no (ivs_no _)⟩ | apply And.intro)⟩⟩
        · rw [decide_eq_false h1]
          conv => whnf
          have h1 : ¬ z ≤ (u : Int) := h1
          rw [show IntKind.i64.wrap (Int.ofNat i + 1) = Int.ofNat (i + 1) from wrapN (m := i + 1) (by omega)]
          rw [if_neg h1] at hk'
          refine ⟨(i + 1, t), ⟨h, ?_, ht⟩, by show s.length - (i + 1) < s.length - i; omega, ⟨rfl, rfl, rfl, rfl, by repeat' (first | exact trivial | exact rfl | exact Nat.zero_le _ | exact Nat.le_of_ble_eq_true rfl | exact bdl_no (by assumption) | exact bdl_no (flat_no _) | exact bdl_no (ivs_no _) | exact Nat.max_le.2 ⟨Nat.le_of_ble_eq_true rfl, bdl_no (ivs_no _)⟩ | apply And.intro), by repeat' (first | exact trivial | exact rfl | exact Nat.zero_le _ | exact Nat.le_of_ble_eq_true rfl | exact bdl_no (by assumption) | exact bdl_no (flat_no _) | exact bdl_no (ivs_no _) | exact Nat.max_le.2 ⟨Nat.le_of_ble_eq_true rfl, bdl_no (ivs_no _)⟩ | apply And.intro)⟩⟩
          by_cases h4 : i + 1 < s.length
          · rw [drop_gi _ (by rw [days_len]; exact h4), days_gi _ _ h4, lastD, if_neg (by have := hup h4; omega)]
            exact hk'
          · rw [List.drop_eq_nil_of_le (by rw [days_len]; omega), lastD]
            exact hk'
      · rw [show decide (Int.ofNat i < ↑s.length) = false from ltN_f h]
        conv => whnf
        rw [List.drop_eq_nil_of_le (by rw [days_len]; omega), lastD] at hk'
        have hk' : T = t := by omega
        subst hk'
        refine sym_pure hC (p1) ?_
        conv => whnf
        refine sym_pure hC (p2) ?_
        conv => whnf
        rw [subN (a := u) (b := T) (by omega), wrapN (m := u - T) (by omega)]
        conv => whnf
        refine sym_pure hC (pO) ?_
        conv => whnf
        rw [decide_eq_false (show ¬ Int.ofNat sh < 0 by show ¬ (sh : Int) < 0; omega)]
        conv => whnf
        rw [decide_eq_false (show ¬ Int.ofNat sh ≥ 21600 by show ¬ (21600 : Int) ≤ (sh : Int); omega)]
        conv => whnf
        refine sym_pure hC (pr1) ?_
        conv => whnf
        rw [bne_self_eq_false (Int.ofNat rt)]
        conv => whnf
        refine sym_pure hC (pr2) ?_
        conv => whnf
        rw [show IntKind.i64.wrap (Int.ofNat sh - Int.ofNat ri) = Int.ofNat sh - Int.ofNat ri from wrapI (by show _ ≤ (sh : Int) - (ri : Int); omega) (by show (sh : Int) - (ri : Int) < _; omega), ho,
          show IntKind.i64.wrap (Int.ofNat sh - Int.ofNat ri - o) = Int.ofNat sh - Int.ofNat ri - o from wrapI (by show _ ≤ (sh : Int) - (ri : Int) - o; omega) (by show (sh : Int) - (ri : Int) - o < _; omega),
          show IntKind.i64.wrap (Int.ofNat sh - Int.ofNat ri - o + 43200) = Int.ofNat sh - Int.ofNat ri - o + 43200 from wrapI (by show _ ≤ (sh : Int) - (ri : Int) - o + 43200; omega) (by show (sh : Int) - (ri : Int) - o + 43200 < _; omega)]
        rcases hfar with e | e | e
        · rw [show (Int.ofNat sh - Int.ofNat ri - o + 43200).tmod 21600 = 0 from e]
          conv => whnf
          refine sym_pure hC (hk) ?_
          conv => whnf
          exact ⟨_, rfl, Wk.refl _⟩
        · rw [show (Int.ofNat sh - Int.ofNat ri - o + 43200).tmod 21600 = 1 from e]
          conv => whnf
          refine sym_pure hC (hk) ?_
          conv => whnf
          exact ⟨_, rfl, Wk.refl _⟩
        · rw [show (Int.ofNat sh - Int.ofNat ri - o + 43200).tmod 21600 = 21599 from e]
          conv => whnf
          refine sym_pure hC (hk) ?_
          conv => whnf
          exact ⟨_, rfl, Wk.refl _⟩

/-- TrainRight, of whatever lists. -/
theorem trainRight (hk : Pure prog 16 [] (.bool true)) {v : AV} {k : Nat} (hv : (∃ x y, TV v k x y) ∨ TN v k) (n d : Int) {w : AV} {f : List Int} (hf : IL w f) {z : AV} {s : List Int} (hs : IL z s) (u : Int) :
    Pure prog 4 [v, fv n d, w, z, iv u] (.bool true) := by
  obtain ⟨b, sv, hx⟩ := ts_of hv
  have lv := sv.no
  have lw := hf.no
  have lz := hs.no
  obtain ⟨bB, pB, iB⟩ := brief_pure hf hs
  by_cases h8 : k ≤ 8
  · cases bB with
    | true =>
      have hl := iB.1 rfl
      have rT := sv.rT h8
      obtain ⟨bF, pF, iF⟩ := dec_b (rFraction_pure n d)
      obtain ⟨bN, pN, iN⟩ := dec_b (rNumber_pure u)
      obtain ⟨bE, pe, re, ie⟩ := feasts_b hf (by omega)
      obtain ⟨bS, ps, rs, is⟩ := set_b hf hs (by omega) (by omega)
      by_cases hall : b = true ∧ bF = true ∧ bE = true ∧ bS = true ∧ bN = true
      · obtain ⟨rfl, rfl, rfl, rfl, rfl⟩ := hall
        obtain ⟨x, y, tv⟩ := hx rfl
        obtain ⟨n, d, rfl, rfl, q1, q2, q3⟩ := isF_nat (iF.1 rfl)
        obtain ⟨u, rfl, q4⟩ := int_nat (iN.1 rfl)
        exact trainRight_yes hk tv h8 n d q1 ⟨q2, q3⟩ hf hs (ie.1 rfl) (is.1 rfl) pB pe re ps rs u (by omega)
      · have sh := sv.sh
        clear iF iN hx sv hv ie is pe ps
        rcases sh with ⟨rfl, rfl⟩ | ⟨xs, rfl, lx⟩ <;> rcases hf with ⟨rfl, rfl⟩ | rfl <;> rcases hs with ⟨rfl, rfl⟩ | rfl
        all_goals
          cases b
          · refine pure_sym hE rfl (by repeat' (first | exact trivial | assumption | exact flat_no _ | exact (fun _ h => nomatch h) | apply And.intro)) (by repeat' (first | exact trivial | assumption | exact flat_no _ | exact (fun _ h => nomatch h) | apply And.intro)) fun S q pc hS hq hC hE => ?_
            conv => whnf
            repeat ((first
              | refine sym_pure hC (slim_yes (by omega)) ?_
              | refine sym_pure hC (pB) ?_
              | refine sym_pure hC (rT) ?_
              | refine sym_pure hC (pF) ?_
              | refine sym_pure hC (re) ?_
              | refine sym_pure hC (rs) ?_
              | refine sym_pure hC (pN) ?_
              | refine sym_pure hC (hk) ?_
              | refine sym_drawn hS (by kernel_rfl) ?_
              | refine sym_eq hq true (eqBool_same _ _) ?_
              | rw [beq_self_eq_true]
              | rw [bne_self_eq_false]); conv => whnf)
            exact ⟨_, rfl, Wk.refl _⟩
          · cases bF
            · refine pure_sym hE rfl (by repeat' (first | exact trivial | assumption | exact flat_no _ | exact (fun _ h => nomatch h) | apply And.intro)) (by repeat' (first | exact trivial | assumption | exact flat_no _ | exact (fun _ h => nomatch h) | apply And.intro)) fun S q pc hS hq hC hE => ?_
              conv => whnf
              repeat ((first
                | refine sym_pure hC (slim_yes (by omega)) ?_
                | refine sym_pure hC (pB) ?_
                | refine sym_pure hC (rT) ?_
                | refine sym_pure hC (pF) ?_
                | refine sym_pure hC (re) ?_
                | refine sym_pure hC (rs) ?_
                | refine sym_pure hC (pN) ?_
                | refine sym_pure hC (hk) ?_
                | refine sym_drawn hS (by kernel_rfl) ?_
                | refine sym_eq hq true (eqBool_same _ _) ?_
                | rw [beq_self_eq_true]
                | rw [bne_self_eq_false]); conv => whnf)
              exact ⟨_, rfl, Wk.refl _⟩
            · cases bE
              · refine pure_sym hE rfl (by repeat' (first | exact trivial | assumption | exact flat_no _ | exact (fun _ h => nomatch h) | apply And.intro)) (by repeat' (first | exact trivial | assumption | exact flat_no _ | exact (fun _ h => nomatch h) | apply And.intro)) fun S q pc hS hq hC hE => ?_
                conv => whnf
                repeat ((first
                  | refine sym_pure hC (slim_yes (by omega)) ?_
                  | refine sym_pure hC (pB) ?_
                  | refine sym_pure hC (rT) ?_
                  | refine sym_pure hC (pF) ?_
                  | refine sym_pure hC (re) ?_
                  | refine sym_pure hC (rs) ?_
                  | refine sym_pure hC (pN) ?_
                  | refine sym_pure hC (hk) ?_
                  | refine sym_drawn hS (by kernel_rfl) ?_
                  | refine sym_eq hq true (eqBool_same _ _) ?_
                  | rw [beq_self_eq_true]
                  | rw [bne_self_eq_false]); conv => whnf)
                exact ⟨_, rfl, Wk.refl _⟩
              · cases bS
                · refine pure_sym hE rfl (by repeat' (first | exact trivial | assumption | exact flat_no _ | exact (fun _ h => nomatch h) | apply And.intro)) (by repeat' (first | exact trivial | assumption | exact flat_no _ | exact (fun _ h => nomatch h) | apply And.intro)) fun S q pc hS hq hC hE => ?_
                  conv => whnf
                  repeat ((first
                    | refine sym_pure hC (slim_yes (by omega)) ?_
                    | refine sym_pure hC (pB) ?_
                    | refine sym_pure hC (rT) ?_
                    | refine sym_pure hC (pF) ?_
                    | refine sym_pure hC (re) ?_
                    | refine sym_pure hC (rs) ?_
                    | refine sym_pure hC (pN) ?_
                    | refine sym_pure hC (hk) ?_
                    | refine sym_drawn hS (by kernel_rfl) ?_
                    | refine sym_eq hq true (eqBool_same _ _) ?_
                    | rw [beq_self_eq_true]
                    | rw [bne_self_eq_false]); conv => whnf)
                  exact ⟨_, rfl, Wk.refl _⟩
                · cases bN
                  · refine pure_sym hE rfl (by repeat' (first | exact trivial | assumption | exact flat_no _ | exact (fun _ h => nomatch h) | apply And.intro)) (by repeat' (first | exact trivial | assumption | exact flat_no _ | exact (fun _ h => nomatch h) | apply And.intro)) fun S q pc hS hq hC hE => ?_
                    conv => whnf
                    repeat ((first
                      | refine sym_pure hC (slim_yes (by omega)) ?_
                      | refine sym_pure hC (pB) ?_
                      | refine sym_pure hC (rT) ?_
                      | refine sym_pure hC (pF) ?_
                      | refine sym_pure hC (re) ?_
                      | refine sym_pure hC (rs) ?_
                      | refine sym_pure hC (pN) ?_
                      | refine sym_pure hC (hk) ?_
                      | refine sym_drawn hS (by kernel_rfl) ?_
                      | refine sym_eq hq true (eqBool_same _ _) ?_
                      | rw [beq_self_eq_true]
                      | rw [bne_self_eq_false]); conv => whnf)
                    exact ⟨_, rfl, Wk.refl _⟩
                  · exact absurd ⟨rfl, rfl, rfl, rfl, rfl⟩ hall
    | false =>
      rcases sv.sh with ⟨rfl, rfl⟩ | ⟨xs, rfl, lx⟩ <;> rcases hf with ⟨rfl, rfl⟩ | rfl <;> rcases hs with ⟨rfl, rfl⟩ | rfl
      all_goals
        refine pure_sym hE rfl (by repeat' (first | exact trivial | assumption | exact flat_no _ | exact (fun _ h => nomatch h) | apply And.intro)) (by repeat' (first | exact trivial | assumption | exact flat_no _ | exact (fun _ h => nomatch h) | apply And.intro)) fun S q pc hS hq hC hE => ?_
        conv => whnf
        repeat ((first
          | refine sym_pure hC (slim_yes (by omega)) ?_
          | refine sym_pure hC (pB) ?_
          | refine sym_pure hC (hk) ?_
          | refine sym_drawn hS (by kernel_rfl) ?_
          | refine sym_eq hq true (eqBool_same _ _) ?_
          | rw [beq_self_eq_true]
          | rw [bne_self_eq_false]); conv => whnf)
        exact ⟨_, rfl, Wk.refl _⟩
  · rcases sv.sh with ⟨rfl, rfl⟩ | ⟨xs, rfl, lx⟩ <;> rcases hf with ⟨rfl, rfl⟩ | rfl <;> rcases hs with ⟨rfl, rfl⟩ | rfl
    all_goals
      refine pure_sym hE rfl (by repeat' (first | exact trivial | assumption | exact flat_no _ | exact (fun _ h => nomatch h) | apply And.intro)) (by repeat' (first | exact trivial | assumption | exact flat_no _ | exact (fun _ h => nomatch h) | apply And.intro)) fun S q pc hS hq hC hE => ?_
      conv => whnf
      repeat ((first
        | refine sym_pure hC (slim_not (by omega)) ?_
        | refine sym_pure hC (hk) ?_
        | refine sym_drawn hS (by kernel_rfl) ?_
        | refine sym_eq hq true (eqBool_same _ _) ?_
        | rw [beq_self_eq_true]
        | rw [bne_self_eq_false]); conv => whnf)
      exact ⟨_, rfl, Wk.refl _⟩
end Go.Abs.Seat
