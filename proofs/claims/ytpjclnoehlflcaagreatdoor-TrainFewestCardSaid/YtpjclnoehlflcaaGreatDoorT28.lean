/-
  The best settings: of no feasts, and what is refused.
-/
import Derived.Test.YtpjclnoehlflcaaGreatDoorT27
/-! The best settings: of no feasts, and what is refused. -/
namespace Go.Abs.Seat
noncomputable section
open Go Go.Abs Go.Proofs.Tryz
set_option maxRecDepth 100000
set_option maxHeartbeats 40000000
attribute [local irreducible] IntKind.wrap pEq

theorem okS_none (L u : Nat) : okS [] L u (2 ^ ([] : List Int).length) = if kp L u 0 [] then [[]] else [] := by
  show okS [] L u 1 = _
  rw [okS, okS]
  rfl

theorem settings_nils {v : AV} {k x y : Nat} (hv : TV v k x y) (n d m : Nat) (hn : n ≤ 50000) (hnd : 1 ≤ d ∧ d ≤ 50000) (hm : m ≤ 10800) (u : Nat) (hu : u ≤ 10000) :
    Pure prog 17 [v, fv (Int.ofNat n) (Int.ofNat d), nv m, .nils, nv u] (setV (okS [] (lastV x y n d m) u (2 ^ ([] : List Int).length))) := by
  have hw := wrongBy_pure hv n d hn hnd
  have iT := hv.isT
  obtain ⟨q1, q2, q3⟩ := dif_le (n := n) (d := d) (x := x) (y := y) hn hnd.2 hv.bx.2 hv.by_.2
  have hl := wlasts_pure x y n d m q1 q2 q3 hm
  have lv := setV_no (okS [] (lastV x y n d m) u (2 ^ ([] : List Int).length))
  have pk := keeps_nil (w := .nils) (f := []) (.inl ⟨rfl, rfl⟩) (lastV x y n d m) u hu (b := decide (kp (lastV x y n d m) u 0 [])) decide_eq_true_iff
  rw [okS_none] at lv ⊢
  generalize lastV x y n d m = L at *
  obtain ⟨xs, rfl, lx⟩ := hv.sh
  refine pure_sym hE rfl (by repeat' (first | exact trivial | assumption | exact flat_no _ | exact (fun _ h => nomatch h) | apply And.intro)) (by repeat' (first | exact trivial | assumption | exact flat_no _ | exact (fun _ h => nomatch h) | apply And.intro)) fun S q pc hS hq hC hE => ?_
  conv => whnf
  refine sym_pure hC (iT) ?_
  conv => whnf
  refine sym_pure hC (isFraction_pure _ _) ?_
  conv => whnf
  rw [decide_eq_true (isF_N hn hnd.1 hnd.2)]
  conv => whnf
  refine sym_pure hC (isLimit_pure _) ?_
  conv => whnf
  rw [decide_eq_true (show (0 : Int) ≤ Int.ofNat m ∧ Int.ofNat m ≤ 10800 by simp only [Int.ofNat_eq_natCast]; omega)]
  conv => whnf
  refine sym_pure hC (areFeasts_nil) ?_
  conv => whnf
  refine sym_pure hC (isTurn_pure _) ?_
  conv => whnf
  rw [decide_eq_true (show (0 : Int) ≤ Int.ofNat u ∧ Int.ofNat u ≤ 10000 by simp only [Int.ofNat_eq_natCast]; omega)]
  conv => whnf
  refine sym_pure hC (hw) ?_
  conv => whnf
  refine sym_pure hC (hl) ?_
  conv => whnf
  rw [show IntKind.i64.wrap (1 * 2 ^ min (0 : Int).toNat IntKind.i64.bits) = 1 from wrapI (by decide) (by decide)]
  refine sym_unroll hE hS ?_
  conv => whnf
  refine sym_unroll hE hS ?_
  conv => whnf
  refine sym_pure hC (pk) ?_
  conv => whnf
  by_cases h : kp L u 0 []
  · rw [if_pos h] at lv ⊢
    refine bool_true (decide_eq_true h) ?_
    conv => whnf
    rw [show IntKind.i64.wrap (0 + 1) = 1 from wrapI (by decide) (by decide)]
    conv => whnf
    refine sym_unroll hE hS ?_
    conv => whnf
    have hb := bestW [[]] 1 (by decide) (fun z hz => by rw [List.mem_singleton.1 hz]; decide)
    have hb : Pure prog _ [.lst [.nils] 1 (.ch 1), _] (.tup [.nils, .bool true]) := hb
    refine sym_pure hC (hb) ?_
    conv => whnf
    exact ⟨_, rfl, Wk.refl _⟩
  · rw [if_neg h] at lv ⊢
    refine bool_false (decide_eq_false h) ?_
    conv => whnf
    rw [show IntKind.i64.wrap (0 + 1) = 1 from wrapI (by decide) (by decide)]
    conv => whnf
    refine sym_unroll hE hS ?_
    conv => whnf
    refine sym_pure hC (bestN) ?_
    conv => whnf
    exact ⟨_, rfl, Wk.refl _⟩

theorem rSettings_nils {v : AV} {k x y : Nat} (hv : TV v k x y) (n d m : Nat) (hn : n ≤ 50000) (hnd : 1 ≤ d ∧ d ≤ 50000) (hm : m ≤ 10800) (u : Nat) (hu : u ≤ 10000) :
    Pure prog 23 [v, fv (Int.ofNat n) (Int.ofNat d), nv m, .nils, nv u] (rsV (okS [] (lastV x y n d m) u (2 ^ ([] : List Int).length))) := by
  have lv := rsV_no (okS [] (lastV x y n d m) u (2 ^ ([] : List Int).length))
  have pk := rKeeps_nil hv n d m hn hnd hm (w := .nils) (f := []) (.inl ⟨rfl, rfl⟩) u hu (b := decide (kp (lastV x y n d m) u 0 [])) decide_eq_true_iff
  have p : Pure prog 78 [nv 0, nv 0, nv 0] (.lst [.nils] 1 .no) := by
    have := lists_pure 0 (by decide) 0 0 (by decide)
    rw [lsts_zero] at this
    exact this
  rw [okS_none] at lv ⊢
  generalize lastV x y n d m = L at *
  obtain ⟨xs, rfl, lx⟩ := hv.sh
  refine pure_sym hE rfl (by repeat' (first | exact trivial | assumption | exact flat_no _ | exact (fun _ h => nomatch h) | apply And.intro)) (by repeat' (first | exact trivial | assumption | exact flat_no _ | exact (fun _ h => nomatch h) | apply And.intro)) fun S q pc hS hq hC hE => ?_
  conv => whnf
  refine sym_unroll hE hS ?_
  conv => whnf
  refine sym_pure hC (p) ?_
  conv => whnf
  refine sym_unroll hE hS ?_
  conv => whnf
  refine sym_pure hC (pk) ?_
  conv => whnf
  refine sym_drawn hS (by kernel_rfl) ?_
  conv => whnf
  by_cases h : kp L u 0 []
  · rw [if_pos h] at lv ⊢
    refine bool_true (decide_eq_true h) ?_
    conv => whnf
    exact ⟨_, rfl, Wk.refl _⟩
  · rw [if_neg h] at lv ⊢
    refine bool_false (decide_eq_false h) ?_
    conv => whnf
    rw [show IntKind.i64.wrap (0 + 1) = 1 from wrapI (by decide) (by decide)]
    conv => whnf
    refine sym_unroll hE hS ?_
    conv => whnf
    rw [show IntKind.i64.wrap (0 + 1) = 1 from wrapI (by decide) (by decide)]
    conv => whnf
    refine sym_unroll hE hS ?_
    conv => whnf
    exact ⟨_, rfl, Wk.refl _⟩

section
variable {v : AV} {k : Nat} {b bF bE bN bL : Bool} {n d u m : Int} {w : AV} {f : List Int}
theorem settings_no (hv : TS v k b) (hf : IL w f) (iF : bF = true ↔ isF n d) (iL : bL = true ↔ (0 ≤ m ∧ m ≤ 10800)) (pe : Pure prog 66 [w] (.bool bE)) (iN : bN = true ↔ (0 ≤ u ∧ u ≤ 10000))
    (h : (b && bF && bL && bE && bN) = false) : Pure prog 17 [v, fv n d, iv m, w, iv u] (.tup [.nils, iv 2]) := by
  have lv := hv.no
  have lw := hf.no
  have iv := hv.isT
  have pF := isFraction_pure n d
  have pL := isLimit_pure m
  have pN := isTurn_pure u
  rw [show decide (isF n d) = bF by cases bF with | true => exact decide_eq_true (iF.1 rfl) | false => exact decide_eq_false fun e => nomatch iF.2 e] at pF
  rw [show decide (0 ≤ u ∧ u ≤ 10000) = bN by cases bN with | true => exact decide_eq_true (iN.1 rfl) | false => exact decide_eq_false fun e => nomatch iN.2 e] at pN
  rw [show decide (0 ≤ m ∧ m ≤ 10800) = bL by cases bL with | true => exact decide_eq_true (iL.1 rfl) | false => exact decide_eq_false fun e => nomatch iL.2 e] at pL
  rcases hv.sh with ⟨rfl, _⟩ | ⟨xs, rfl, _⟩ <;> rcases hf with ⟨rfl, rfl⟩ | rfl
  all_goals
    refine pure_sym hE rfl (by repeat' (first | exact trivial | assumption | exact flat_no _ | exact (fun _ h => nomatch h) | apply And.intro)) (by repeat' (first | exact trivial | assumption | exact flat_no _ | exact (fun _ h => nomatch h) | apply And.intro)) fun S q pc hS hq hC hE => ?_
    conv => whnf
    refine sym_pure hC (iv) ?_
    conv => whnf
    cases b
    · conv => whnf
      exact ⟨_, rfl, Wk.refl _⟩
    · conv => whnf
      refine sym_pure hC (pF) ?_
      conv => whnf
      cases bF
      · conv => whnf
        exact ⟨_, rfl, Wk.refl _⟩
      · conv => whnf
        refine sym_pure hC (pL) ?_
        conv => whnf
        cases bL
        · conv => whnf
          exact ⟨_, rfl, Wk.refl _⟩
        · conv => whnf
          refine sym_pure hC (pe) ?_
          conv => whnf
          cases bE
          · conv => whnf
            exact ⟨_, rfl, Wk.refl _⟩
          · conv => whnf
            refine sym_pure hC (pN) ?_
            conv => whnf
            cases bN
            · conv => whnf
              exact ⟨_, rfl, Wk.refl _⟩
            · cases h
end

/-- The best settings: the program's and the document's. -/
theorem settings_both {v : AV} {k x y : Nat} (hv : TV v k x y) (n d m : Nat) (hn : n ≤ 50000) (hnd : 1 ≤ d ∧ d ≤ 50000) (hm : m ≤ 10800) {w : AV} {f : List Int} (hf : IL w f) (of : feOk f) (u : Nat) (hu : u ≤ 10000) :
    Pure prog 17 [v, fv (Int.ofNat n) (Int.ofNat d), nv m, w, nv u] (setV (okS f (lastV x y n d m) u (2 ^ f.length))) ∧ Pure prog 23 [v, fv (Int.ofNat n) (Int.ofNat d), nv m, w, nv u] (rsV (okS f (lastV x y n d m) u (2 ^ f.length))) := by
  rcases hf with ⟨rfl, rfl⟩ | rfl
  · exact ⟨settings_nils hv n d m hn hnd hm u hu, rSettings_nils hv n d m hn hnd hm u hu⟩
  · exact ⟨settings_pure hv n d m hn hnd hm f of u hu, rSettings_pure hv n d m hn hnd hm f of u hu⟩

theorem same_nils : Pure prog 24 [.nils, .nils] (.bool true) := by
  refine pure_sym hE rfl (by repeat' (first | exact trivial | assumption | exact flat_no _ | exact (fun _ h => nomatch h) | apply And.intro)) (by repeat' (first | exact trivial | assumption | exact flat_no _ | exact (fun _ h => nomatch h) | apply And.intro)) fun S q pc hS hq hC hE => ?_
  conv => whnf
  refine sym_unroll hE hS ?_
  conv => whnf
  exact ⟨_, rfl, Wk.refl _⟩
theorem same_sv (l : List Int) (hl : l.length < 4611686018427387904) : Pure prog 24 [sv l, sv l] (.bool true) := by
  rcases sv_cases l with ⟨_, e⟩ | e
  · rw [e]; exact same_nils
  · rw [e]; exact same_pure l l hl ⟨fun _ => rfl, fun _ => rfl⟩
end
end Go.Abs.Seat
