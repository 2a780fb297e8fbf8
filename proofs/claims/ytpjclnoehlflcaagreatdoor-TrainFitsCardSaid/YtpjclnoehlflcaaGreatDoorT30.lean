/-
  The document's rules; numbers of teeth; the sense.
-/
import Derived.Test.YtpjclnoehlflcaaGreatDoorT29
import Derived.Test.YtpjclnoehlflcaaGreatDoorMC
import Derived.Test.YtpjclnoehlflcaaGreatDoorT24
/-! The document's rules; numbers of teeth; the sense. -/
namespace Go.Abs.Seat
noncomputable section
open Go Go.Abs Go.Proofs.Tryz
set_option maxRecDepth 100000
set_option maxHeartbeats 40000000
attribute [local irreducible] IntKind.wrap pEq

theorem rRule_pure {N : AV} {l : List Int} (h : IL N l) (hl : l.length < 4611686018427387904) (a b p s : Int) {r : Bool} (hr : r = true ↔ rOk a b p s l) :
    Pure prog 32 [rv a b p s N] (.bool r) := by
  have lv := h.no
  have nx : ¬ rOk a b p s l → r = false := fun k => bfalse hr k
  rcases h with ⟨rfl, rfl⟩ | rfl
  · refine pure_sym hE rfl (by repeat' (first | exact trivial | assumption | exact flat_no _ | exact (fun _ h => nomatch h) | apply And.intro)) (by repeat' (first | exact trivial | assumption | exact flat_no _ | exact (fun _ h => nomatch h) | apply And.intro)) fun S q pc hS hq hC hE => ?_
    conv => whnf
    refine sym_unroll hE hS ?_
    conv => whnf
    refine sym_pure hC (rTeeth_pure a) ?_
    conv => whnf
    by_cases h1 : tth a
    · rw [decide_eq_true h1]
      conv => whnf
      refine sym_pure hC (rTeeth_pure b) ?_
      conv => whnf
      by_cases h2 : tth b
      · rw [decide_eq_true h2]
        conv => whnf
        by_cases h3 : a ≤ b
        · rw [decide_eq_true h3]
          conv => whnf
          refine sym_pure hC (rin_pure p 1 3) ?_
          conv => whnf
          by_cases h4 : 1 ≤ p ∧ p ≤ 3
          · rw [decide_eq_true h4]
            conv => whnf
            by_cases h5 : 1 ≤ s
            · rw [show decide (s ≥ 1) = true from decide_eq_true h5]
              conv => whnf
              by_cases h6 : s ≤ 3
              · rw [decide_eq_true h6]
                conv => whnf
                rw [hr.2 ⟨h1, h2, h3, h4, ⟨h5, h6⟩, by decide, fun _ h => absurd h (Nat.not_lt_zero _)⟩]
                exact ⟨_, rfl, Wk.refl _⟩
              · rw [decide_eq_false h6]
                conv => whnf
                rw [nx fun k => h6 k.2.2.2.2.1.2]
                exact ⟨_, rfl, Wk.refl _⟩
            · rw [show decide (s ≥ 1) = false from decide_eq_false h5]
              conv => whnf
              rw [nx fun k => h5 k.2.2.2.2.1.1]
              exact ⟨_, rfl, Wk.refl _⟩
          · rw [decide_eq_false h4]
            conv => whnf
            rw [nx fun k => h4 k.2.2.2.1]
            exact ⟨_, rfl, Wk.refl _⟩
        · rw [decide_eq_false h3]
          conv => whnf
          rw [nx fun k => h3 k.2.2.1]
          exact ⟨_, rfl, Wk.refl _⟩
      · rw [decide_eq_false h2]
        conv => whnf
        rw [nx fun k => h2 k.2.1]
        exact ⟨_, rfl, Wk.refl _⟩
    · rw [decide_eq_false h1]
      conv => whnf
      rw [nx fun k => h1 k.1]
      exact ⟨_, rfl, Wk.refl _⟩
  · have ll := ivs_no l
    refine pure_sym hE rfl (by repeat' (first | exact trivial | assumption | exact flat_no _ | exact (fun _ h => nomatch h) | apply And.intro)) (by repeat' (first | exact trivial | assumption | exact flat_no _ | exact (fun _ h => nomatch h) | apply And.intro)) fun S q pc hS hq hC hE => ?_
    conv => whnf
    refine sym_loop hE hS (A := Nat) [1] (fun i => [(3, nv i)]) (fun _ => []) (fun i => i ≤ l.length ∧ ∀ j, j < i → tth (gi l j)) (fun i => l.length - i) 0 rfl rfl ⟨rfl, rfl, rfl, rfl, by repeat' (first | exact trivial | exact rfl | exact Nat.zero_le _ | exact Nat.le_of_ble_eq_true rfl | exact bdl_no (by assumption) | exact bdl_no (flat_no _) | exact bdl_no (ivs_no _) | exact Nat.max_le.2 ⟨Nat.le_of_ble_eq_true rfl, bdl_no (ivs_no _)⟩ | apply And.intro), by repeat' (first | exact trivial | exact rfl | exact Nat.zero_le _ | exact Nat.le_of_ble_eq_true rfl | exact bdl_no (by assumption) | exact bdl_no (flat_no _) | exact bdl_no (ivs_no _) | exact Nat.max_le.2 ⟨Nat.le_of_ble_eq_true rfl, bdl_no (ivs_no _)⟩ | apply And.intro)⟩ ⟨Nat.zero_le _, fun _ h => absurd h (Nat.not_lt_zero _)⟩ ?_
    intro i ⟨hi, hT⟩
    conv => whnf
    by_cases h : i < l.length
    · rw [show decide (Int.ofNat i < ↑l.length) = true from ltN_t h]
      conv => whnf
      refine bool_true (inR_t (i := i) (n := l.length) h) ?_
      conv => whnf
      refine plan_as (nthP (nth_ivs1 (l := l) (i := i) h)) ?_
      conv => whnf
      refine sym_pure hC (rTeeth_pure (gi l i)) ?_
      conv => whnf
      by_cases h1 : tth (gi l i)
      · rw [decide_eq_true h1]
        conv => whnf
        rw [show IntKind.i64.wrap (Int.ofNat i + 1) = Int.ofNat (i + 1) from wrapN (m := i + 1) (by omega)]
        exact ⟨i + 1, ⟨h, upto hT h1⟩, by omega, ⟨rfl, rfl, rfl, rfl, by repeat' (first | exact trivial | exact rfl | exact Nat.zero_le _ | exact Nat.le_of_ble_eq_true rfl | exact bdl_no (by assumption) | exact bdl_no (flat_no _) | exact bdl_no (ivs_no _) | exact Nat.max_le.2 ⟨Nat.le_of_ble_eq_true rfl, bdl_no (ivs_no _)⟩ | apply And.intro), by repeat' (first | exact trivial | exact rfl | exact Nat.zero_le _ | exact Nat.le_of_ble_eq_true rfl | exact bdl_no (by assumption) | exact bdl_no (flat_no _) | exact bdl_no (ivs_no _) | exact Nat.max_le.2 ⟨Nat.le_of_ble_eq_true rfl, bdl_no (ivs_no _)⟩ | apply And.intro)⟩⟩
      · rw [decide_eq_false h1]
        conv => whnf
        rw [nx fun k => h1 (k.2.2.2.2.2.2 i h)]
        exact ⟨_, rfl, Wk.refl _⟩
    · rw [show decide (Int.ofNat i < ↑l.length) = false from ltN_f h]
      conv => whnf
      have hi0 : i = l.length := by omega
      refine sym_pure hC (rTeeth_pure a) ?_
      conv => whnf
      by_cases h1 : tth a
      · rw [decide_eq_true h1]
        conv => whnf
        refine sym_pure hC (rTeeth_pure b) ?_
        conv => whnf
        by_cases h2 : tth b
        · rw [decide_eq_true h2]
          conv => whnf
          by_cases h3 : a ≤ b
          · rw [decide_eq_true h3]
            conv => whnf
            refine sym_pure hC (rin_pure p 1 3) ?_
            conv => whnf
            by_cases h4 : 1 ≤ p ∧ p ≤ 3
            · rw [decide_eq_true h4]
              conv => whnf
              by_cases h5 : 1 ≤ s
              · rw [show decide (s ≥ 1) = true from decide_eq_true h5]
                conv => whnf
                by_cases h6 : s ≤ 3
                · rw [decide_eq_true h6]
                  conv => whnf
                  refine ⟨_, rfl, wkb ?_⟩
                  by_cases h7 : l.length ≤ 6
                  · rw [hr.2 ⟨h1, h2, h3, h4, ⟨h5, h6⟩, h7, fun j hj => hT j (by omega)⟩]
                    exact decide_eq_true (show (l.length : Int) ≤ 6 by omega)
                  · rw [nx fun k => h7 k.2.2.2.2.2.1]
                    exact decide_eq_false (show ¬ (l.length : Int) ≤ 6 by omega)
                · rw [decide_eq_false h6]
                  conv => whnf
                  rw [nx fun k => h6 k.2.2.2.2.1.2]
                  exact ⟨_, rfl, Wk.refl _⟩
              · rw [show decide (s ≥ 1) = false from decide_eq_false h5]
                conv => whnf
                rw [nx fun k => h5 k.2.2.2.2.1.1]
                exact ⟨_, rfl, Wk.refl _⟩
            · rw [decide_eq_false h4]
              conv => whnf
              rw [nx fun k => h4 k.2.2.2.1]
              exact ⟨_, rfl, Wk.refl _⟩
          · rw [decide_eq_false h3]
            conv => whnf
            rw [nx fun k => h3 k.2.2.1]
            exact ⟨_, rfl, Wk.refl _⟩
        · rw [decide_eq_false h2]
          conv => whnf
          rw [nx fun k => h2 k.2.1]
          exact ⟨_, rfl, Wk.refl _⟩
      · rw [decide_eq_false h1]
        conv => whnf
        rw [nx fun k => h1 k.1]
        exact ⟨_, rfl, Wk.refl _⟩

/-- The numbers of teeth of a rule: from a on, k of them, but for those of l. -/
def tth_l (l : List Int) (a : Nat) : Nat → List Int
  | 0 => []
  | k + 1 => if Int.ofNat (a + k) ∈ l then tth_l l a k else tth_l l a k ++ [Int.ofNat (a + k)]
theorem tth_len (l : List Int) (a : Nat) : ∀ k, (tth_l l a k).length ≤ k
  | 0 => Nat.le_refl 0
  | k + 1 => by
    have := tth_len l a k
    rw [tth_l]
    split
    · omega
    · rw [List.length_append, List.length_singleton]; omega
theorem tth_mem (l : List Int) (a : Nat) (x : Int) : ∀ k, x ∈ tth_l l a k ↔ (a : Int) ≤ x ∧ x < (a + k : Nat) ∧ ¬ x ∈ l
  | 0 => ⟨fun h => (nomatch h), fun h => by omega⟩
  | k + 1 => by
    have ih := tth_mem l a x k
    rw [tth_l]
    have e : Int.ofNat (a + k) = ((a + k : Nat) : Int) := rfl
    split
    · rename_i hm
      rw [ih]
      constructor
      · rintro ⟨h1, h2, h3⟩; exact ⟨h1, by omega, h3⟩
      · rintro ⟨h1, h2, h3⟩
        refine ⟨h1, ?_, h3⟩
        by_cases k0 : x = (a + k : Nat)
        · rw [e, ← k0] at hm; exact absurd hm h3
        · omega
    · rename_i hm
      rw [List.mem_append, ih, List.mem_singleton]
      constructor
      · rintro (⟨h1, h2, h3⟩ | rfl)
        · exact ⟨h1, by omega, h3⟩
        · exact ⟨by rw [e]; omega, by rw [e]; omega, hm⟩
      · rintro ⟨h1, h2, h3⟩
        by_cases k0 : x = (a + k : Nat)
        · exact .inr (by rw [e]; exact k0)
        · exact .inl ⟨h1, by omega, h3⟩

/-- A rule with its numbers of teeth. -/
abbrev ruv (a b p s : Int) (N T : AV) : AV := .agg [iv a, iv b, iv p, iv s, N, T]

theorem wk_agg6 {a b c d e x y : AV} (h : Wk x y) : Wk (.agg [a, b, c, d, e, x]) (.agg [a, b, c, d, e, y]) := by
  intro g w u hu
  obtain ⟨vs, e0, u0, us0, e1, h0, u1, us1, e2, h1, u2, us2, e3, h2, u3, us3, e4, h3, u4, us4, e5, h4, u5, us5, e6, h5, h6⟩ := hu
  exact ⟨vs, e0, u0, us0, e1, h0, u1, us1, e2, h1, u2, us2, e3, h2, u3, us3, e4, h3, u4, us4, e5, h4, u5, us5, e6, h g w u5 h5, h6⟩
theorem cells_eq {a b p s N v v' : AV} {t : TypeId} (e : v = v') : AObj.cells (.node a (.node b (.node s .nil .nil) (.node v .nil .nil)) (.node p (.node N .nil .nil) .nil)) 6 t = AObj.cells (.node a (.node b (.node s .nil .nil) (.node v' .nil .nil)) (.node p (.node N .nil .nil) .nil)) 6 t := by rw [e]
theorem ruled_pure {N : AV} {l : List Int} (h : IL N l) (hl : l.length < 4611686018427387904) (a b : Nat) (hab : a ≤ b) (hb : b ≤ 60) (p s : Int) :
    Pure prog 83 [rv (Int.ofNat a) (Int.ofNat b) p s N] (ruv (Int.ofNat a) (Int.ofNat b) p s N (sv (tth_l l a (b + 1 - a)))) := by
  have lN := h.no
  have lT := sv_no (tth_l l a (b + 1 - a))
  have pc1 := contains_pure h hl
  have hs : N = .nils ∨ N = nl l := by
    rcases h with ⟨e, _⟩ | e
    · exact .inl e
    · exact .inr e
  clear h
  rcases hs with rfl | rfl
  all_goals
    refine pure_sym hE rfl (by repeat' (first | exact trivial | assumption | exact flat_no _ | exact (fun _ h => nomatch h) | apply And.intro)) (by repeat' (first | exact trivial | assumption | exact flat_no _ | exact (fun _ h => nomatch h) | apply And.intro)) fun S q pc hS hq hC hE => ?_
    conv => whnf
    refine sym_loopG hE hS (A := Nat × AV × List AObj) [1, 2, 3] (fun (x, _, _) => [(4, nv x)]) (fun (_, v, _) => [(2, .cells (.node (nv a) (.node (nv b) (.node (iv s) .nil .nil) (.node v .nil .nil)) (.node (iv p) (.node _ .nil .nil) .nil)) 6 112)]) (fun a => a.2.2) (fun (x, v, ux) => a ≤ x ∧ x ≤ b + 1 ∧ (tth_l l a (x - a) = [] ∧ v = .nils ∧ ux = [] ∨ tth_l l a (x - a) ≠ [] ∧ v = .lst (ivs (tth_l l a (x - a))) (tth_l l a (x - a)).length (.ch 3) ∧ ux = [.chain (tth_l l a (x - a)).length 1 3])) (fun (x, _, _) => b + 1 - x) (a, .nils, []) (Nat.le_of_ble_eq_true rfl) rfl ⟨rfl, rfl, rfl, rfl, rfl, rfl, 3, rfl, by repeat' (first | exact trivial | exact ⟨_, rfl, WkV.refl _⟩ | exact ⟨_, rfl, WkV.own _ _ _⟩ | exact Nat.zero_le _ | exact Nat.le_of_ble_eq_true rfl | exact bdl_no (by assumption) | exact bdl_no (flat_no _) | exact bdl_no (ivs_no _) | exact bdl_no (svs_no _) | exact Nat.max_le.2 ⟨Nat.le_of_ble_eq_true rfl, bdl_no (ivs_no _)⟩ | exact Nat.max_le.2 ⟨Nat.le_of_ble_eq_true rfl, bdl_no (svs_no _)⟩ | apply And.intro), by repeat' (first | exact trivial | exact rfl | exact Nat.zero_le _ | exact Nat.le_of_ble_eq_true rfl | exact bdl_no (by assumption) | exact bdl_no (flat_no _) | exact bdl_no (ivs_no _) | exact bdl_no (svs_no _) | exact Nat.max_le.2 ⟨Nat.le_of_ble_eq_true rfl, bdl_no (ivs_no _)⟩ | exact Nat.max_le.2 ⟨Nat.le_of_ble_eq_true rfl, bdl_no (svs_no _)⟩ | apply And.intro)⟩ ⟨Nat.le_refl _, by omega, .inl ⟨by rw [Nat.sub_self]; rfl, rfl, rfl⟩⟩ ?_
    rintro ⟨x, v, ux⟩ ⟨hx, hx2, ⟨e0, rfl, rfl⟩ | ⟨hne, rfl, rfl⟩⟩ M hM
    · obtain rfl : M = 3 := hM
      conv => whnf
      by_cases h : x ≤ b
      · refine bool_true (decide_eq_true (show Int.ofNat x ≤ Int.ofNat b by show (x : Int) ≤ (b : Int); omega)) ?_
        conv => whnf
        refine sym_pure hC (pc1 (Int.ofNat x)) ?_
        conv => whnf
        have e2 : tth_l l a (x + 1 - a) = if Int.ofNat x ∈ l then tth_l l a (x - a) else tth_l l a (x - a) ++ [Int.ofNat x] := by
          rw [show x + 1 - a = (x - a) + 1 by omega, tth_l, show a + (x - a) = x by omega]
        have hx1 : IntKind.i64.wrap (Int.ofNat x + 1) = Int.ofNat (x + 1) := wrapN (m := x + 1) (by omega)
        by_cases hm : Int.ofNat x ∈ l
        · rw [if_pos hm, e0] at e2
          rw [decide_eq_true hm]
          conv => whnf
          exact ⟨(x + 1, .nils, []), ⟨by omega, by omega, .inl ⟨e2, rfl, rfl⟩⟩, by show b + 1 - (x + 1) < b + 1 - x; omega, Nat.le_refl _, ⟨rfl, rfl, rfl, rfl, rfl, rfl, 3, rfl, by repeat' (first | exact trivial | exact ⟨_, rfl, WkV.refl _⟩ | exact ⟨_, rfl, WkV.own _ _ _⟩ | exact Nat.zero_le _ | exact ⟨_, rfl, WkV.int hx1⟩ | exact Nat.le_of_ble_eq_true rfl | exact bdl_no (by assumption) | exact bdl_no (flat_no _) | exact bdl_no (ivs_no _) | exact bdl_no (svs_no _) | exact Nat.max_le.2 ⟨Nat.le_of_ble_eq_true rfl, bdl_no (ivs_no _)⟩ | exact Nat.max_le.2 ⟨Nat.le_of_ble_eq_true rfl, bdl_no (svs_no _)⟩ | apply And.intro), by repeat' (first | exact trivial | exact rfl | exact Nat.zero_le _ | exact ⟨_, rfl, WkV.int hx1⟩ | exact Nat.le_of_ble_eq_true rfl | exact bdl_no (by assumption) | exact bdl_no (flat_no _) | exact bdl_no (ivs_no _) | exact bdl_no (svs_no _) | exact Nat.max_le.2 ⟨Nat.le_of_ble_eq_true rfl, bdl_no (ivs_no _)⟩ | exact Nat.max_le.2 ⟨Nat.le_of_ble_eq_true rfl, bdl_no (svs_no _)⟩ | apply And.intro)⟩⟩
        · rw [if_neg hm, e0] at e2
          rw [decide_eq_false hm]
          conv => whnf
          exact ⟨(x + 1, .lst (ivs [Int.ofNat x]) 1 (.ch 3), [.chain 1 1 3]), ⟨by omega, by omega, .inr ⟨by rw [e2]; simp, by rw [e2]; rfl, by rw [e2]; rfl⟩⟩, by show b + 1 - (x + 1) < b + 1 - x; omega, Nat.zero_le _, ⟨rfl, rfl, rfl, rfl, rfl, rfl, 4, rfl, by repeat' (first | exact trivial | exact ⟨_, rfl, WkV.refl _⟩ | exact ⟨_, rfl, WkV.own _ _ _⟩ | exact Nat.zero_le _ | exact ⟨_, rfl, WkV.int hx1⟩ | exact Nat.le_of_ble_eq_true rfl | exact bdl_no (by assumption) | exact bdl_no (flat_no _) | exact bdl_no (ivs_no _) | exact bdl_no (svs_no _) | exact Nat.max_le.2 ⟨Nat.le_of_ble_eq_true rfl, bdl_no (ivs_no _)⟩ | exact Nat.max_le.2 ⟨Nat.le_of_ble_eq_true rfl, bdl_no (svs_no _)⟩ | apply And.intro), by repeat' (first | exact trivial | exact rfl | exact Nat.zero_le _ | exact ⟨_, rfl, WkV.int hx1⟩ | exact Nat.le_of_ble_eq_true rfl | exact bdl_no (by assumption) | exact bdl_no (flat_no _) | exact bdl_no (ivs_no _) | exact bdl_no (svs_no _) | exact Nat.max_le.2 ⟨Nat.le_of_ble_eq_true rfl, bdl_no (ivs_no _)⟩ | exact Nat.max_le.2 ⟨Nat.le_of_ble_eq_true rfl, bdl_no (svs_no _)⟩ | apply And.intro)⟩⟩
      · refine bool_false (decide_eq_false (show ¬ Int.ofNat x ≤ Int.ofNat b by show ¬ (x : Int) ≤ (b : Int); omega)) ?_
        conv => whnf
        refine .inl ?_
        conv => whnf
        rw [show b + 1 - a = x - a by omega, e0]
        exact ⟨_, rfl, Wk.refl _⟩
    · obtain rfl : M = 4 := hM
      have tl := tth_len l a (x - a)
      conv => whnf
      by_cases h : x ≤ b
      · refine bool_true (decide_eq_true (show Int.ofNat x ≤ Int.ofNat b by show (x : Int) ≤ (b : Int); omega)) ?_
        conv => whnf
        refine sym_pure hC (pc1 (Int.ofNat x)) ?_
        conv => whnf
        have e2 : tth_l l a (x + 1 - a) = if Int.ofNat x ∈ l then tth_l l a (x - a) else tth_l l a (x - a) ++ [Int.ofNat x] := by
          rw [show x + 1 - a = (x - a) + 1 by omega, tth_l, show a + (x - a) = x by omega]
        have hx1 : IntKind.i64.wrap (Int.ofNat x + 1) = Int.ofNat (x + 1) := wrapN (m := x + 1) (by omega)
        by_cases hm : Int.ofNat x ∈ l
        · rw [if_pos hm] at e2
          rw [decide_eq_true hm]
          conv => whnf
          exact ⟨(x + 1, .lst (ivs (tth_l l a (x - a))) (tth_l l a (x - a)).length (.ch 3), [.chain (tth_l l a (x - a)).length 1 3]), ⟨by omega, by omega, .inr ⟨by rw [e2]; exact hne, by rw [e2], by rw [e2]⟩⟩, by show b + 1 - (x + 1) < b + 1 - x; omega, Nat.le_refl _, ⟨rfl, rfl, rfl, rfl, rfl, rfl, 4, rfl, by repeat' (first | exact trivial | exact ⟨_, rfl, WkV.refl _⟩ | exact ⟨_, rfl, WkV.own _ _ _⟩ | exact Nat.zero_le _ | exact ⟨_, rfl, WkV.int hx1⟩ | exact Nat.le_of_ble_eq_true rfl | exact bdl_no (by assumption) | exact bdl_no (flat_no _) | exact bdl_no (ivs_no _) | exact bdl_no (svs_no _) | exact Nat.max_le.2 ⟨Nat.le_of_ble_eq_true rfl, bdl_no (ivs_no _)⟩ | exact Nat.max_le.2 ⟨Nat.le_of_ble_eq_true rfl, bdl_no (svs_no _)⟩ | apply And.intro), by repeat' (first | exact trivial | exact rfl | exact Nat.zero_le _ | exact ⟨_, rfl, WkV.int hx1⟩ | exact Nat.le_of_ble_eq_true rfl | exact bdl_no (by assumption) | exact bdl_no (flat_no _) | exact bdl_no (ivs_no _) | exact bdl_no (svs_no _) | exact Nat.max_le.2 ⟨Nat.le_of_ble_eq_true rfl, bdl_no (ivs_no _)⟩ | exact Nat.max_le.2 ⟨Nat.le_of_ble_eq_true rfl, bdl_no (svs_no _)⟩ | apply And.intro)⟩⟩
        · rw [if_neg hm] at e2
          rw [decide_eq_false hm]
          conv => whnf
          refine bool_true (decide_eq_true (show ((tth_l l a (x - a)).length + (0 + 1)) * 8 ≤ 140737488355328 by omega)) ?_
          conv => whnf
          refine bool_true (decide_eq_true (show (tth_l l a (x - a)).length + (0 + 1) ≤ 9223372036854775807 by omega)) ?_
          conv => whnf
          refine bool_true (lenIs_ivs (tth_l l a (x - a))) ?_
          conv => whnf
          refine bool_true (decide_eq_true rfl) ?_
          conv => whnf
          exact ⟨(x + 1, .lst (ivs (tth_l l a (x - a) ++ [Int.ofNat x])) (tth_l l a (x - a) ++ [Int.ofNat x]).length (.ch 3), [.chain (tth_l l a (x - a) ++ [Int.ofNat x]).length 1 3]), ⟨by omega, by omega, .inr ⟨by rw [e2]; simp, by rw [e2], by rw [e2]⟩⟩, by show b + 1 - (x + 1) < b + 1 - x; omega, Nat.le_refl _, ⟨rfl, rfl, rfl, rfl, rfl, rfl, 4, rfl, by repeat' (first | exact trivial | exact ⟨_, rfl, WkV.refl _⟩ | exact ⟨_, rfl, WkV.own _ _ _⟩ | exact Nat.zero_le _ | exact ⟨_, rfl, WkV.int hx1⟩ | exact cells_eq (app_I _ _ _) | exact app_J _ _ | exact Nat.le_of_ble_eq_true rfl | exact bdl_no (by assumption) | exact bdl_no (flat_no _) | exact bdl_no (ivs_no _) | exact bdl_no (svs_no _) | exact Nat.max_le.2 ⟨Nat.le_of_ble_eq_true rfl, bdl_no (ivs_no _)⟩ | exact Nat.max_le.2 ⟨Nat.le_of_ble_eq_true rfl, bdl_no (svs_no _)⟩ | apply And.intro), by repeat' (first | exact trivial | exact rfl | exact Nat.zero_le _ | exact ⟨_, rfl, WkV.int hx1⟩ | exact cells_eq (app_I _ _ _) | exact app_J _ _ | exact Nat.le_of_ble_eq_true rfl | exact bdl_no (by assumption) | exact bdl_no (flat_no _) | exact bdl_no (ivs_no _) | exact bdl_no (svs_no _) | exact Nat.max_le.2 ⟨Nat.le_of_ble_eq_true rfl, bdl_no (ivs_no _)⟩ | exact Nat.max_le.2 ⟨Nat.le_of_ble_eq_true rfl, bdl_no (svs_no _)⟩ | apply And.intro)⟩⟩
      · refine bool_false (decide_eq_false (show ¬ Int.ofNat x ≤ Int.ofNat b by show ¬ (x : Int) ≤ (b : Int); omega)) ?_
        conv => whnf
        refine .inl ?_
        conv => whnf
        have e5 : sv (tth_l l a (x - a)) = nl (tth_l l a (x - a)) := by
          rcases sv_cases (tth_l l a (x - a)) with ⟨k, _⟩ | k
          · exact absurd k hne
          · exact k
        rw [show b + 1 - a = x - a by omega, e5]
        exact ⟨_, rfl, wk_agg6 (wk_own rfl)⟩
end
end Go.Abs.Seat
