/-
  The law TrainFewest.
-/
import Derived.Test.YtpjclnoehlflcaaGreatDoorL13
/-! The law TrainFewest. -/
namespace Go.Abs.Seat
open Go Go.Abs Go.Proofs.Tryz
set_option maxRecDepth 100000
set_option maxHeartbeats 40000000
attribute [local irreducible] IntKind.wrap pEq

theorem IL.sv (l : List Int) : IL (sv l) l := by
  rcases sv_cases l with ⟨e, e'⟩ | e'
  · exact .inl ⟨e', e⟩
  · exact .inr e'

theorem sv_ne {l : List Int} {w : AV} (h : Seat.sv l = w) (hw : w = nl l) : l ≠ [] := by
  rintro rfl
  rw [hw] at h
  cases h

theorem trainFewest_yes (hk : Pure prog 16 [] (.bool true)) {v : AV} {k x y : Nat} (hv : TV v k x y) (k8 : k ≤ 8) (n d m : Nat) (hn : n ≤ 50000) (hnd : 1 ≤ d ∧ d ≤ 50000) (hm : m ≤ 10800) {w z : AV} {f s : List Int} (hf : IL w f) (hs : IL z s) (of : feOk f) (os : seOk f.length s)
    (pB : Pure prog 15 [w, z] (.bool true)) (pe : Pure prog 66 [w] (.bool true)) (re : Pure prog 21 [w] (.bool true)) (ps : Pure prog 80 [w, z] (.bool true)) (rs : Pure prog 25 [w, z] (.bool true)) (u : Nat) (hu : u ≤ 10000) :
    Pure prog 5 [v, fv (Int.ofNat n) (Int.ofNat d), nv m, w, z, nv u] (.bool true) := by
  have fl := of.2
  have sl := (Days.of of os).sl
  obtain ⟨p1, _⟩ := settings_both hv n d m hn hnd hm hf of u hu
  have rT := hv.ts.rT k8
  have pF := rFraction_pure (Int.ofNat n) (Int.ofNat d)
  rw [decide_eq_true (isF_N hn hnd.1 hnd.2)] at pF
  have pN := rNumber_pure (Int.ofNat u)
  rw [decide_eq_true (rng (t := u) (m := 10000) (by omega))] at pN
  have pL := rLimit_pure (Int.ofNat m)
  rw [decide_eq_true (rng (t := m) (m := 10800) (by omega))] at pL
  have lw := hf.no
  have lz := hs.no
  have pk := keepsE_pure hv n d m hn hnd hm hf hs pe ps u hu (b := decide (kp (lastV x y n d m) u 0 (days f s))) (keeps_both hv n d m hn hnd hm hf hs of os u hu decide_eq_true_iff).1
  by_cases h0 : okS f (lastV x y n d m) u (2 ^ f.length) = []
  · rw [setV, if_pos h0, if_pos h0] at p1
    rw [decide_eq_false fun h => by have := okS_all.2 ⟨os, h⟩; rw [h0] at this; cases this] at pk
    obtain ⟨xs, rfl, lx⟩ := hv.sh
    rcases hf with ⟨rfl, rfl⟩ | rfl <;> rcases hs with ⟨rfl, rfl⟩ | rfl
    all_goals
      refine pure_sym hE rfl (by repeat' (first | exact trivial | assumption | exact flat_no _ | exact (fun _ h => nomatch h) | apply And.intro)) (by repeat' (first | exact trivial | assumption | exact flat_no _ | exact (fun _ h => nomatch h) | apply And.intro)) fun S q pc hS hq hC hE => ?_
      conv => whnf
      repeat ((first
        | refine sym_pure hC (slim_yes (by omega)) ?_
        | refine sym_pure hC (pB) ?_
        | refine sym_pure hC (pk) ?_
        | refine sym_pure hC (p1) ?_
        | refine sym_pure hC (rT) ?_
        | refine sym_pure hC (pF) ?_
        | refine sym_pure hC (pL) ?_
        | refine sym_pure hC (re) ?_
        | refine sym_pure hC (rs) ?_
        | refine sym_pure hC (pN) ?_
        | refine sym_pure hC (hk) ?_
        | refine sym_drawn hS (by kernel_rfl) ?_
        | refine sym_eq hq true (eqBool_same _ _) ?_
        | rw [beq_self_eq_true]
        | rw [bne_self_eq_false]
        | refine bool_true (decide_eq_true (by omega)) ?_
        | refine bool_false (decide_eq_false (by omega)) ?_); conv => whnf)
      exact ⟨_, rfl, Wk.refl _⟩
  · have hB := okS_all.1 (bstS_mem h0)
    have hbl := bstS_short h0
    have hmin : kp (lastV x y n d m) u 0 (days f s) → ¬ seI s (bstS (okS f (lastV x y n d m) u (2 ^ f.length))) < 0 := fun h => bstS_min (okS_all.2 ⟨os, h⟩)
    rw [setV, if_neg h0, if_neg h0] at p1
    generalize bstS (okS f (lastV x y n d m) u (2 ^ f.length)) = B at p1 hB hbl hmin
    obtain ⟨bS, psB, rsB, isB⟩ := set_b hf (IL.sv B) (by omega) (by omega)
    rw [isB.2 hB.1] at psB rsB
    have pkB := keepsE_pure hv n d m hn hnd hm hf (IL.sv B) pe psB u hu (keeps_both hv n d m hn hnd hm hf (IL.sv B) of hB.1 u hu (b := true) ⟨fun _ => hB.2, fun _ => rfl⟩).1
    have lb := sv_no B
    have hbf : decide ((B.length : Int) > (f.length : Int)) = false := decide_eq_false (by omega)
    have h0f : decide ((0 : Int) > (f.length : Int)) = false := decide_eq_false (by omega)
    by_cases hks : kp (lastV x y n d m) u 0 (days f s)
    · have hmin := hmin hks
      rw [decide_eq_true hks] at pk
      rw [seI_lt] at hmin
      by_cases hlt : B.length < s.length
      · have hsB : decide ((s.length : Int) > (B.length : Int)) = true := decide_eq_true (by omega)
        have hs0 : decide ((s.length : Int) > 0) = true := decide_eq_true (by omega)
        obtain ⟨xs, rfl, lx⟩ := hv.sh
        rcases sv_cases B with ⟨eB, e⟩ | e
        · rw [eB] at hlt hbl
          rw [e] at p1 rsB pkB lb
          rcases hs with ⟨rfl, rfl⟩ | rfl
          · cases hlt
          · have hlt : 0 < s.length := hlt
            rcases hf with ⟨rfl, rfl⟩ | rfl
            all_goals
              refine pure_sym hE rfl (by repeat' (first | exact trivial | assumption | exact flat_no _ | exact (fun _ h => nomatch h) | apply And.intro)) (by repeat' (first | exact trivial | assumption | exact flat_no _ | exact (fun _ h => nomatch h) | apply And.intro)) fun S q pc hS hq hC hE => ?_
              conv => whnf
              repeat ((first
                | refine sym_pure hC (slim_yes (by omega)) ?_
                | refine sym_pure hC (pB) ?_
                | refine sym_pure hC (pk) ?_
                | refine sym_pure hC (p1) ?_
                | refine sym_pure hC (rT) ?_
                | refine sym_pure hC (pF) ?_
                | refine sym_pure hC (pL) ?_
                | refine sym_pure hC (re) ?_
                | refine sym_pure hC (rs) ?_
                | refine sym_pure hC (pN) ?_
                | refine sym_pure hC (rsB) ?_
                | refine sym_pure hC (pkB) ?_
                | refine sym_pure hC (hk) ?_
                | rw [hbf]
                | rw [h0f]
                | rw [hsB]
                | rw [hs0]
                | rw [hsl']
                | refine sym_drawn hS (by kernel_rfl) ?_
                | refine sym_eq hq true (eqBool_same _ _) ?_
                | rw [beq_self_eq_true]
                | rw [bne_self_eq_false]
                | refine bool_true (decide_eq_true (by omega)) ?_
                | refine bool_false (decide_eq_false (by omega)) ?_); conv => whnf)
              exact ⟨_, rfl, Wk.refl _⟩
        · rw [e] at p1 rsB pkB lb
          rcases hs with ⟨rfl, rfl⟩ | rfl
          · cases hlt
          · rcases hf with ⟨rfl, rfl⟩ | rfl
            · have hbl : B.length ≤ 0 := hbl
              have : B = [] := List.eq_nil_of_length_eq_zero (by omega)
              subst this
              cases e
            · refine pure_sym hE rfl (by repeat' (first | exact trivial | assumption | exact flat_no _ | exact (fun _ h => nomatch h) | apply And.intro)) (by repeat' (first | exact trivial | assumption | exact flat_no _ | exact (fun _ h => nomatch h) | apply And.intro)) fun S q pc hS hq hC hE => ?_
              conv => whnf
              repeat ((first
                | refine sym_pure hC (slim_yes (by omega)) ?_
                | refine sym_pure hC (pB) ?_
                | refine sym_pure hC (pk) ?_
                | refine sym_pure hC (p1) ?_
                | refine sym_pure hC (rT) ?_
                | refine sym_pure hC (pF) ?_
                | refine sym_pure hC (pL) ?_
                | refine sym_pure hC (re) ?_
                | refine sym_pure hC (rs) ?_
                | refine sym_pure hC (pN) ?_
                | refine sym_pure hC (rsB) ?_
                | refine sym_pure hC (pkB) ?_
                | refine sym_pure hC (hk) ?_
                | rw [hbf]
                | rw [h0f]
                | rw [hsB]
                | rw [hs0]
                | rw [hsl']
                | refine sym_drawn hS (by kernel_rfl) ?_
                | refine sym_eq hq true (eqBool_same _ _) ?_
                | rw [beq_self_eq_true]
                | rw [bne_self_eq_false]
                | refine bool_true (decide_eq_true (by omega)) ?_
                | refine bool_false (decide_eq_false (by omega)) ?_); conv => whnf)
              exact ⟨_, rfl, Wk.refl _⟩
      · have hsl : s.length = B.length := by omega
        have hsB : decide ((s.length : Int) > (B.length : Int)) = false := decide_eq_false (by omega)
        have hsl' : decide ((s.length : Int) < (B.length : Int)) = false := decide_eq_false (by omega)
        have hlx : ¬ lexI s B < 0 := fun h => hmin (.inr ⟨hsl, h⟩)
        obtain ⟨xs, rfl, lx⟩ := hv.sh
        rcases sv_cases B with ⟨rfl, e⟩ | e
        · have : s = [] := List.eq_nil_of_length_eq_zero hsl
          subst this
          rw [e] at p1 rsB pkB lb
          rcases hs with ⟨rfl, _⟩ | rfl <;> rcases hf with ⟨rfl, rfl⟩ | rfl
          all_goals
            refine pure_sym hE rfl (by repeat' (first | exact trivial | assumption | exact flat_no _ | exact (fun _ h => nomatch h) | apply And.intro)) (by repeat' (first | exact trivial | assumption | exact flat_no _ | exact (fun _ h => nomatch h) | apply And.intro)) fun S q pc hS hq hC hE => ?_
            conv => whnf
            repeat ((first
              | refine sym_pure hC (slim_yes (by omega)) ?_
              | refine sym_pure hC (pB) ?_
              | refine sym_pure hC (pk) ?_
              | refine sym_pure hC (p1) ?_
              | refine sym_pure hC (rT) ?_
              | refine sym_pure hC (pF) ?_
              | refine sym_pure hC (pL) ?_
              | refine sym_pure hC (re) ?_
              | refine sym_pure hC (rs) ?_
              | refine sym_pure hC (pN) ?_
              | refine sym_pure hC (rsB) ?_
              | refine sym_pure hC (pkB) ?_
              | refine sym_pure hC (hk) ?_
              | rw [hbf]
              | rw [h0f]
              | rw [hsB]
              | rw [hs0]
              | rw [hsl']
              | refine sym_drawn hS (by kernel_rfl) ?_
              | refine sym_eq hq true (eqBool_same _ _) ?_
              | rw [beq_self_eq_true]
              | rw [bne_self_eq_false]
              | refine bool_true (decide_eq_true (by omega)) ?_
              | refine bool_false (decide_eq_false (by omega)) ?_); conv => whnf)
            refine sym_unroll hE hS ?_
            conv => whnf
            refine sym_pure hC (hk) ?_
            conv => whnf
            exact ⟨_, rfl, Wk.refl _⟩
        · rw [e] at p1 rsB pkB lb
          have lB := ivs_no B
          rcases hs with ⟨rfl, rfl⟩ | rfl
          · have : B = [] := List.eq_nil_of_length_eq_zero hsl.symm
            subst this
            cases e
          · have ls := ivs_no s
            rcases hf with ⟨rfl, rfl⟩ | rfl
            · have hbl : B.length ≤ 0 := hbl
              have : B = [] := List.eq_nil_of_length_eq_zero (by omega)
              subst this
              cases e
            · have lf := ivs_no f
              refine pure_sym hE rfl (by repeat' (first | exact trivial | assumption | exact flat_no _ | exact (fun _ h => nomatch h) | apply And.intro)) (by repeat' (first | exact trivial | assumption | exact flat_no _ | exact (fun _ h => nomatch h) | apply And.intro)) fun S q pc hS hq hC hE => ?_
              conv => whnf
              repeat ((first
                | refine sym_pure hC (slim_yes (by omega)) ?_
                | refine sym_pure hC (pB) ?_
                | refine sym_pure hC (pk) ?_
                | refine sym_pure hC (p1) ?_
                | refine sym_pure hC (rT) ?_
                | refine sym_pure hC (pF) ?_
                | refine sym_pure hC (pL) ?_
                | refine sym_pure hC (re) ?_
                | refine sym_pure hC (rs) ?_
                | refine sym_pure hC (pN) ?_
                | refine sym_pure hC (rsB) ?_
                | refine sym_pure hC (pkB) ?_
                | refine sym_pure hC (hk) ?_
                | rw [hbf]
                | rw [h0f]
                | rw [hsB]
                | rw [hs0]
                | rw [hsl']
                | refine sym_drawn hS (by kernel_rfl) ?_
                | refine sym_eq hq true (eqBool_same _ _) ?_
                | rw [beq_self_eq_true]
                | rw [bne_self_eq_false]
                | refine bool_true (decide_eq_true (by omega)) ?_
                | refine bool_false (decide_eq_false (by omega)) ?_); conv => whnf)
              refine sym_loop hE hS (A := Nat) [4, 15] (fun i => [(19, nv i)]) (fun _ => []) (fun i => i ≤ B.length ∧ ¬ lexI (s.drop i) (B.drop i) < 0) (fun i => B.length - i) 0 rfl rfl ⟨rfl, rfl, rfl, rfl, by repeat' (first | exact trivial | exact rfl | exact Nat.zero_le _ | exact Nat.le_of_ble_eq_true rfl | exact bdl_no (by assumption) | exact bdl_no (flat_no _) | exact bdl_no (ivs_no _) | exact Nat.max_le.2 ⟨Nat.le_of_ble_eq_true rfl, bdl_no (ivs_no _)⟩ | apply And.intro), by repeat' (first | exact trivial | exact rfl | exact Nat.zero_le _ | exact Nat.le_of_ble_eq_true rfl | exact bdl_no (by assumption) | exact bdl_no (flat_no _) | exact bdl_no (ivs_no _) | exact Nat.max_le.2 ⟨Nat.le_of_ble_eq_true rfl, bdl_no (ivs_no _)⟩ | apply And.intro)⟩ ⟨Nat.zero_le _, hlx⟩ ?_
              intro i ⟨hi, hq⟩
              conv => whnf
              by_cases h2 : i < B.length
              · refine bool_true (ltN_t h2) ?_
                conv => whnf
                have h3 : i < s.length := by omega
                rw [drop_gi s h3, drop_gi B h2, lexI_cons] at hq
                refine bool_true (inR_t (i := i) (n := s.length) h3) ?_
                conv => whnf
                refine plan_as (nthP (nth_ivs1 (l := s) (i := i) h3)) ?_
                conv => whnf
                refine bool_true (inR_t (i := i) (n := B.length) h2) ?_
                conv => whnf
                refine plan_as (nthP (nth_ivs1 (l := B) (i := i) h2)) ?_
                conv => whnf
                refine sym_drawn hS (by kernel_rfl) ?_
                conv => whnf
                by_cases h4 : gi s i = gi B i
                · refine bool_false (show (gi s i != gi B i) = false by rw [h4]; exact bne_self_eq_false _) ?_
                  conv => whnf
                  rw [if_pos h4] at hq
                  have hi1 : IntKind.i64.wrap (Int.ofNat i + 1) = Int.ofNat (i + 1) := wrapN (m := i + 1) (by omega)
                  rw [hi1]
                  exact ⟨i + 1, ⟨h2, hq⟩, by show B.length - (i + 1) < B.length - i; omega, ⟨rfl, rfl, rfl, rfl, by repeat' (first | exact trivial | exact rfl | exact Nat.zero_le _ | exact Nat.le_of_ble_eq_true rfl | exact bdl_no (by assumption) | exact bdl_no (flat_no _) | exact bdl_no (ivs_no _) | exact Nat.max_le.2 ⟨Nat.le_of_ble_eq_true rfl, bdl_no (ivs_no _)⟩ | apply And.intro), by repeat' (first | exact trivial | exact rfl | exact Nat.zero_le _ | exact Nat.le_of_ble_eq_true rfl | exact bdl_no (by assumption) | exact bdl_no (flat_no _) | exact bdl_no (ivs_no _) | exact Nat.max_le.2 ⟨Nat.le_of_ble_eq_true rfl, bdl_no (ivs_no _)⟩ | apply And.intro)⟩⟩
                · refine bool_true (bne_iff_ne.2 h4) ?_
                  conv => whnf
                  rw [if_neg h4] at hq
                  have h5 := ordI_gt (fun h => h4 (ordI_zero.1 h)) hq
                  refine bool_true (inR_t (i := i) (n := s.length) h3) ?_
                  conv => whnf
                  refine plan_as (nthP (nth_ivs1 (l := s) (i := i) h3)) ?_
                  conv => whnf
                  refine bool_true (inR_t (i := i) (n := B.length) h2) ?_
                  conv => whnf
                  refine plan_as (nthP (nth_ivs1 (l := B) (i := i) h2)) ?_
                  conv => whnf
                  rw [show decide (gi s i > gi B i) = true from decide_eq_true h5]
                  conv => whnf
                  refine sym_pure hC (hk) ?_
                  conv => whnf
                  refine sym_drawn hS (by kernel_rfl) ?_
                  conv => whnf
                  exact ⟨_, rfl, Wk.refl _⟩
              · refine bool_false (ltN_f h2) ?_
                conv => whnf
                refine sym_pure hC (hk) ?_
                conv => whnf
                exact ⟨_, rfl, Wk.refl _⟩
    · rw [decide_eq_false hks] at pk
      obtain ⟨xs, rfl, lx⟩ := hv.sh
      rcases sv_cases B with ⟨eB, e⟩ | e
      · rw [e] at p1 rsB pkB lb
        rcases hs with ⟨rfl, rfl⟩ | rfl
        · rw [eB] at hB
          exact absurd hB.2 hks
        · rcases hf with ⟨rfl, rfl⟩ | rfl
          all_goals
            refine pure_sym hE rfl (by repeat' (first | exact trivial | assumption | exact flat_no _ | exact (fun _ h => nomatch h) | apply And.intro)) (by repeat' (first | exact trivial | assumption | exact flat_no _ | exact (fun _ h => nomatch h) | apply And.intro)) fun S q pc hS hq hC hE => ?_
            conv => whnf
            repeat ((first
              | refine sym_pure hC (slim_yes (by omega)) ?_
              | refine sym_pure hC (pB) ?_
              | refine sym_pure hC (pk) ?_
              | refine sym_pure hC (p1) ?_
              | refine sym_pure hC (rT) ?_
              | refine sym_pure hC (pF) ?_
              | refine sym_pure hC (pL) ?_
              | refine sym_pure hC (re) ?_
              | refine sym_pure hC (rs) ?_
              | refine sym_pure hC (pN) ?_
              | refine sym_pure hC (rsB) ?_
              | refine sym_pure hC (pkB) ?_
              | refine sym_pure hC (hk) ?_
              | rw [hbf]
              | rw [h0f]
              | rw [hsB]
              | rw [hs0]
              | rw [hsl']
              | refine sym_drawn hS (by kernel_rfl) ?_
              | refine sym_eq hq true (eqBool_same _ _) ?_
              | rw [beq_self_eq_true]
              | rw [bne_self_eq_false]
              | refine bool_true (decide_eq_true (by omega)) ?_
              | refine bool_false (decide_eq_false (by omega)) ?_); conv => whnf)
            exact ⟨_, rfl, Wk.refl _⟩
      · rw [e] at p1 rsB pkB lb
        rcases hf with ⟨rfl, rfl⟩ | rfl
        · have hbl : B.length ≤ 0 := hbl
          have : B = [] := List.eq_nil_of_length_eq_zero (by omega)
          subst this
          cases e
        · rcases hs with ⟨rfl, rfl⟩ | rfl
          all_goals
            refine pure_sym hE rfl (by repeat' (first | exact trivial | assumption | exact flat_no _ | exact (fun _ h => nomatch h) | apply And.intro)) (by repeat' (first | exact trivial | assumption | exact flat_no _ | exact (fun _ h => nomatch h) | apply And.intro)) fun S q pc hS hq hC hE => ?_
            conv => whnf
            repeat ((first
              | refine sym_pure hC (slim_yes (by omega)) ?_
              | refine sym_pure hC (pB) ?_
              | refine sym_pure hC (pk) ?_
              | refine sym_pure hC (p1) ?_
              | refine sym_pure hC (rT) ?_
              | refine sym_pure hC (pF) ?_
              | refine sym_pure hC (pL) ?_
              | refine sym_pure hC (re) ?_
              | refine sym_pure hC (rs) ?_
              | refine sym_pure hC (pN) ?_
              | refine sym_pure hC (rsB) ?_
              | refine sym_pure hC (pkB) ?_
              | refine sym_pure hC (hk) ?_
              | rw [hbf]
              | rw [h0f]
              | rw [hsB]
              | rw [hs0]
              | rw [hsl']
              | refine sym_drawn hS (by kernel_rfl) ?_
              | refine sym_eq hq true (eqBool_same _ _) ?_
              | rw [beq_self_eq_true]
              | rw [bne_self_eq_false]
              | refine bool_true (decide_eq_true (by omega)) ?_
              | refine bool_false (decide_eq_false (by omega)) ?_); conv => whnf)
            exact ⟨_, rfl, Wk.refl _⟩

/-- TrainFewest, of whatever lists. -/
theorem trainFewest (hk : Pure prog 16 [] (.bool true)) {v : AV} {k : Nat} (hv : (∃ x y, TV v k x y) ∨ TN v k) (n d m : Int) {w : AV} {f : List Int} (hf : IL w f) {z : AV} {s : List Int} (hs : IL z s) (u : Int) :
    Pure prog 5 [v, fv n d, iv m, w, z, iv u] (.bool true) := by
  obtain ⟨b, sv, hx⟩ := ts_of hv
  have lv := sv.no
  have lw := hf.no
  have lz := hs.no
  obtain ⟨bB, pB, iB⟩ := brief_pure hf hs
  by_cases h8 : k ≤ 8
  · cases bB with
    | true =>
      have hl := iB.1 rfl
      have rT := sv.rT h8
      obtain ⟨bF, pF, iF⟩ := dec_b (rFraction_pure n d)
      obtain ⟨bN, rN, iN⟩ := dec_b (rNumber_pure u)
      obtain ⟨bL, pL, iL⟩ := dec_b (rLimit_pure m)
      obtain ⟨bE, pe, re, ie⟩ := feasts_b hf (by omega)
      obtain ⟨bS, ps, rs, is⟩ := set_b hf hs (by omega) (by omega)
      by_cases hall : (b && bF && bL && bE && bS && bN) = true
      · simp only [Bool.and_eq_true] at hall
        obtain ⟨⟨⟨⟨⟨rfl, rfl⟩, rfl⟩, rfl⟩, rfl⟩, rfl⟩ := hall
        obtain ⟨x, y, tv⟩ := hx rfl
        obtain ⟨n, d, rfl, rfl, q1, q2, q3⟩ := isF_nat (iF.1 rfl)
        obtain ⟨u, rfl, q4⟩ := int_nat (iN.1 rfl)
        obtain ⟨m, rfl, q5⟩ := int_nat (iL.1 rfl)
        exact trainFewest_yes hk tv h8 n d m q1 ⟨q2, q3⟩ (by omega) hf hs (ie.1 rfl) (is.1 rfl) pB pe re ps rs u (by omega)
      · have sh := sv.sh
        clear iF iN iL hx sv hv ie pe is ps
        rcases sh with ⟨rfl, rfl⟩ | ⟨xs, rfl, lx⟩ <;> rcases hf with ⟨rfl, rfl⟩ | rfl <;> rcases hs with ⟨rfl, rfl⟩ | rfl
        all_goals
          cases b
          · refine pure_sym hE rfl (by repeat' (first | exact trivial | assumption | exact flat_no _ | exact (fun _ h => nomatch h) | apply And.intro)) (by repeat' (first | exact trivial | assumption | exact flat_no _ | exact (fun _ h => nomatch h) | apply And.intro)) fun S q pc hS hq hC hE => ?_
            conv => whnf
            repeat ((first
              | refine sym_pure hC (slim_yes (by omega)) ?_
              | refine sym_pure hC (pB) ?_
              | refine sym_pure hC (rT) ?_
              | refine sym_pure hC (pF) ?_
              | refine sym_pure hC (pL) ?_
              | refine sym_pure hC (re) ?_
              | refine sym_pure hC (rs) ?_
              | refine sym_pure hC (rN) ?_
              | refine sym_pure hC (hk) ?_
              | refine sym_drawn hS (by kernel_rfl) ?_
              | refine sym_eq hq true (eqBool_same _ _) ?_
              | rw [beq_self_eq_true]
              | rw [bne_self_eq_false]); conv => whnf)
            exact ⟨_, rfl, Wk.refl _⟩
          · cases bF
            · refine pure_sym hE rfl (by repeat' (first | exact trivial | assumption | exact flat_no _ | exact (fun _ h => nomatch h) | apply And.intro)) (by repeat' (first | exact trivial | assumption | exact flat_no _ | exact (fun _ h => nomatch h) | apply And.intro)) fun S q pc hS hq hC hE => ?_
              conv => whnf
              repeat ((first
                | refine sym_pure hC (slim_yes (by omega)) ?_
                | refine sym_pure hC (pB) ?_
                | refine sym_pure hC (rT) ?_
                | refine sym_pure hC (pF) ?_
                | refine sym_pure hC (pL) ?_
                | refine sym_pure hC (re) ?_
                | refine sym_pure hC (rs) ?_
                | refine sym_pure hC (rN) ?_
                | refine sym_pure hC (hk) ?_
                | refine sym_drawn hS (by kernel_rfl) ?_
                | refine sym_eq hq true (eqBool_same _ _) ?_
                | rw [beq_self_eq_true]
                | rw [bne_self_eq_false]); conv => whnf)
              exact ⟨_, rfl, Wk.refl _⟩
            · cases bL
              · refine pure_sym hE rfl (by repeat' (first | exact trivial | assumption | exact flat_no _ | exact (fun _ h => nomatch h) | apply And.intro)) (by repeat' (first | exact trivial | assumption | exact flat_no _ | exact (fun _ h => nomatch h) | apply And.intro)) fun S q pc hS hq hC hE => ?_
                conv => whnf
                repeat ((first
                  | refine sym_pure hC (slim_yes (by omega)) ?_
                  | refine sym_pure hC (pB) ?_
                  | refine sym_pure hC (rT) ?_
                  | refine sym_pure hC (pF) ?_
                  | refine sym_pure hC (pL) ?_
                  | refine sym_pure hC (re) ?_
                  | refine sym_pure hC (rs) ?_
                  | refine sym_pure hC (rN) ?_
                  | refine sym_pure hC (hk) ?_
                  | refine sym_drawn hS (by kernel_rfl) ?_
                  | refine sym_eq hq true (eqBool_same _ _) ?_
                  | rw [beq_self_eq_true]
                  | rw [bne_self_eq_false]); conv => whnf)
                exact ⟨_, rfl, Wk.refl _⟩
              · cases bE
                · refine pure_sym hE rfl (by repeat' (first | exact trivial | assumption | exact flat_no _ | exact (fun _ h => nomatch h) | apply And.intro)) (by repeat' (first | exact trivial | assumption | exact flat_no _ | exact (fun _ h => nomatch h) | apply And.intro)) fun S q pc hS hq hC hE => ?_
                  conv => whnf
                  repeat ((first
                    | refine sym_pure hC (slim_yes (by omega)) ?_
                    | refine sym_pure hC (pB) ?_
                    | refine sym_pure hC (rT) ?_
                    | refine sym_pure hC (pF) ?_
                    | refine sym_pure hC (pL) ?_
                    | refine sym_pure hC (re) ?_
                    | refine sym_pure hC (rs) ?_
                    | refine sym_pure hC (rN) ?_
                    | refine sym_pure hC (hk) ?_
                    | refine sym_drawn hS (by kernel_rfl) ?_
                    | refine sym_eq hq true (eqBool_same _ _) ?_
                    | rw [beq_self_eq_true]
                    | rw [bne_self_eq_false]); conv => whnf)
                  exact ⟨_, rfl, Wk.refl _⟩
                · cases bS
                  · refine pure_sym hE rfl (by repeat' (first | exact trivial | assumption | exact flat_no _ | exact (fun _ h => nomatch h) | apply And.intro)) (by repeat' (first | exact trivial | assumption | exact flat_no _ | exact (fun _ h => nomatch h) | apply And.intro)) fun S q pc hS hq hC hE => ?_
                    conv => whnf
                    repeat ((first
                      | refine sym_pure hC (slim_yes (by omega)) ?_
                      | refine sym_pure hC (pB) ?_
                      | refine sym_pure hC (rT) ?_
                      | refine sym_pure hC (pF) ?_
                      | refine sym_pure hC (pL) ?_
                      | refine sym_pure hC (re) ?_
                      | refine sym_pure hC (rs) ?_
                      | refine sym_pure hC (rN) ?_
                      | refine sym_pure hC (hk) ?_
                      | refine sym_drawn hS (by kernel_rfl) ?_
                      | refine sym_eq hq true (eqBool_same _ _) ?_
                      | rw [beq_self_eq_true]
                      | rw [bne_self_eq_false]); conv => whnf)
                    exact ⟨_, rfl, Wk.refl _⟩
                  · cases bN
                    · refine pure_sym hE rfl (by repeat' (first | exact trivial | assumption | exact flat_no _ | exact (fun _ h => nomatch h) | apply And.intro)) (by repeat' (first | exact trivial | assumption | exact flat_no _ | exact (fun _ h => nomatch h) | apply And.intro)) fun S q pc hS hq hC hE => ?_
                      conv => whnf
                      repeat ((first
                        | refine sym_pure hC (slim_yes (by omega)) ?_
                        | refine sym_pure hC (pB) ?_
                        | refine sym_pure hC (rT) ?_
                        | refine sym_pure hC (pF) ?_
                        | refine sym_pure hC (pL) ?_
                        | refine sym_pure hC (re) ?_
                        | refine sym_pure hC (rs) ?_
                        | refine sym_pure hC (rN) ?_
                        | refine sym_pure hC (hk) ?_
                        | refine sym_drawn hS (by kernel_rfl) ?_
                        | refine sym_eq hq true (eqBool_same _ _) ?_
                        | rw [beq_self_eq_true]
                        | rw [bne_self_eq_false]); conv => whnf)
                      exact ⟨_, rfl, Wk.refl _⟩
                    · exact absurd rfl hall
    | false =>
      have sh := sv.sh
      rcases sh with ⟨rfl, rfl⟩ | ⟨xs, rfl, lx⟩ <;> rcases hf with ⟨rfl, rfl⟩ | rfl <;> rcases hs with ⟨rfl, rfl⟩ | rfl
      all_goals
        refine pure_sym hE rfl (by repeat' (first | exact trivial | assumption | exact flat_no _ | exact (fun _ h => nomatch h) | apply And.intro)) (by repeat' (first | exact trivial | assumption | exact flat_no _ | exact (fun _ h => nomatch h) | apply And.intro)) fun S q pc hS hq hC hE => ?_
        conv => whnf
        repeat ((first
          | refine sym_pure hC (slim_yes (by omega)) ?_
          | refine sym_pure hC (pB) ?_
          | refine sym_pure hC (hk) ?_
          | refine sym_drawn hS (by kernel_rfl) ?_
          | refine sym_eq hq true (eqBool_same _ _) ?_
          | rw [beq_self_eq_true]
          | rw [bne_self_eq_false]); conv => whnf)
        exact ⟨_, rfl, Wk.refl _⟩
  · rcases sv.sh with ⟨rfl, rfl⟩ | ⟨xs, rfl, lx⟩ <;> rcases hf with ⟨rfl, rfl⟩ | rfl <;> rcases hs with ⟨rfl, rfl⟩ | rfl
    all_goals
      refine pure_sym hE rfl (by repeat' (first | exact trivial | assumption | exact flat_no _ | exact (fun _ h => nomatch h) | apply And.intro)) (by repeat' (first | exact trivial | assumption | exact flat_no _ | exact (fun _ h => nomatch h) | apply And.intro)) fun S q pc hS hq hC hE => ?_
      conv => whnf
      repeat ((first
        | refine sym_pure hC (slim_not (by omega)) ?_
        | refine sym_pure hC (hk) ?_
        | refine sym_drawn hS (by kernel_rfl) ?_
        | refine sym_eq hq true (eqBool_same _ _) ?_
        | rw [beq_self_eq_true]
        | rw [bne_self_eq_false]); conv => whnf)
      exact ⟨_, rfl, Wk.refl _⟩
end Go.Abs.Seat
