/-
  The document's rules; numbers of teeth; the sense.
  Which settings are the best: the first ones, by how many they are, then in order.
  Trains of a rule: the parts.
  Trains of a rule: the document's parts.
  Trains of a rule.
  Trains of a rule: the program's.
  Trains of a rule, of whatever lists.
  The first train of some pairs: plain.
  Products of teeth; which fractions of such products are nearest: plain.
  The document's products of teeth.
  Whether a fraction can be one of some pairs.
  The document's first train.
  How great the products get: repeated numbers, and their products.
-/
import Derived.Test.YtpjclnoehlflcaaGreatDoorU7
import Derived.Test.YtpjclnoehlflcaaGreatDoorU4
import Derived.Test.YtpjclnoehlflcaaGreatDoorT24
import Derived.Laws.CopyRow
/-! The document's rules; numbers of teeth; the sense. -/
namespace Go.Abs.Seat
noncomputable section
open Go Go.Abs Go.Proofs.Tryz
set_option maxRecDepth 100000
set_option maxHeartbeats 40000000
attribute [local irreducible] IntKind.wrap pEq

theorem rRule_pure {N : AV} {l : List Int} (h : IL N l) (hl : l.length < 4611686018427387904) (a b p s : Int) {r : Bool} (hr : r = true ↔ rOk a b p s l) :
  Pure prog 32 [rv a b p s N] (.bool r) := by
 have lv := h.no
 have nx : ¬ rOk a b p s l → r = false := fun k => bfalse hr k
 rcases h with ⟨rfl, rfl⟩ | rfl
 ·refine pure_sym hE rfl (by repeat' (first | exact trivial | assumption | exact flat_no _ | exact (fun _ h => nomatch h) | apply And.intro)) (by repeat' (first | exact trivial | assumption | exact flat_no _ | exact (fun _ h => nomatch h) | apply And.intro)) fun S q pc hS hq hC hE => ?_
  conv => whnf
  refine sym_unroll hE hS ?_
  conv => whnf
  refine sym_pure hC (rTeeth_pure a) ?_
  conv => whnf
  by_cases h1 : tth a
  ·rw [decide_eq_true h1]
   conv => whnf
   refine sym_pure hC (rTeeth_pure b) ?_
   conv => whnf
   by_cases h2 : tth b
   ·rw [decide_eq_true h2]
    conv => whnf
    by_cases h3 : a ≤ b
    ·rw [decide_eq_true h3]
     conv => whnf
     refine sym_pure hC (rin_pure p 1 3) ?_
     conv => whnf
     by_cases h4 : 1 ≤ p ∧ p ≤ 3
     ·rw [decide_eq_true h4]
      conv => whnf
      by_cases h5 : 1 ≤ s
      ·rw [show decide (s ≥ 1) = true from decide_eq_true h5]
       conv => whnf
       by_cases h6 : s ≤ 3
       ·rw [decide_eq_true h6]
        conv => whnf
        rw [hr.2 ⟨h1, h2, h3, h4, ⟨h5, h6⟩, by decide, fun _ h => absurd h (Nat.not_lt_zero _)⟩]
        exact ⟨_, rfl, Wk.refl _⟩
       ·rw [decide_eq_false h6]
        conv => whnf
        rw [nx fun k => h6 k.2.2.2.2.1.2]
        exact ⟨_, rfl, Wk.refl _⟩
      ·rw [show decide (s ≥ 1) = false from decide_eq_false h5]
       conv => whnf
       rw [nx fun k => h5 k.2.2.2.2.1.1]
       exact ⟨_, rfl, Wk.refl _⟩
     ·rw [decide_eq_false h4]
      conv => whnf
      rw [nx fun k => h4 k.2.2.2.1]
      exact ⟨_, rfl, Wk.refl _⟩
    ·rw [decide_eq_false h3]
     conv => whnf
     rw [nx fun k => h3 k.2.2.1]
     exact ⟨_, rfl, Wk.refl _⟩
   ·rw [decide_eq_false h2]
    conv => whnf
    rw [nx fun k => h2 k.2.1]
    exact ⟨_, rfl, Wk.refl _⟩
  ·rw [decide_eq_false h1]
   conv => whnf
   rw [nx fun k => h1 k.1]
   exact ⟨_, rfl, Wk.refl _⟩
 ·have ll := ivs_no l
  refine pure_sym hE rfl (by repeat' (first | exact trivial | assumption | exact flat_no _ | exact (fun _ h => nomatch h) | apply And.intro)) (by repeat' (first | exact trivial | assumption | exact flat_no _ | exact (fun _ h => nomatch h) | apply And.intro)) fun S q pc hS hq hC hE => ?_
  conv => whnf
  refine sym_loop hE hS (A := Nat) [1] (fun i => [(3, nv i)]) (fun _ => []) (fun i => i ≤ l.length ∧ ∀ j, j < i → tth (gi l j)) (fun i => l.length - i) 0 rfl rfl (by refine ⟨rfl, rfl, rfl, rfl, ?_, ?_⟩ <;> repeat' (first | exact trivial | exact rfl | exact Nat.zero_le _ | exact Nat.le_of_ble_eq_true rfl | exact bdl_no (by assumption) | exact bdl_no (flat_no _) | exact bdl_no (ivs_no _) | exact Nat.max_le.2 ⟨Nat.le_of_ble_eq_true rfl, bdl_no (ivs_no _)⟩ | apply And.intro)) ⟨Nat.zero_le _, fun _ h => absurd h (Nat.not_lt_zero _)⟩ ?_
  intro i ⟨hi, hT⟩
  conv => whnf
  by_cases h : i < l.length
  ·rw [show decide (Int.ofNat i < ↑l.length) = true from ltN_t h]
   conv => whnf
   refine bool_true (inR_t (i := i) (n := l.length) h) ?_
   conv => whnf
   refine plan_as (nthP (nth_ivs1 (l := l) (i := i) h)) ?_
   conv => whnf
   refine sym_pure hC (rTeeth_pure (gi l i)) ?_
   conv => whnf
   by_cases h1 : tth (gi l i)
   ·rw [decide_eq_true h1]
    conv => whnf
    rw [show IntKind.i64.wrap (Int.ofNat i + 1) = Int.ofNat (i + 1) from wrapN (m := i + 1) (by omega)]
    exact ⟨i + 1, ⟨h, upto hT h1⟩, by omega, (by refine ⟨rfl, rfl, rfl, rfl, ?_, ?_⟩ <;> repeat' (first | exact trivial | exact rfl | exact Nat.zero_le _ | exact Nat.le_of_ble_eq_true rfl | exact bdl_no (by assumption) | exact bdl_no (flat_no _) | exact bdl_no (ivs_no _) | exact Nat.max_le.2 ⟨Nat.le_of_ble_eq_true rfl, bdl_no (ivs_no _)⟩ | apply And.intro))⟩
   ·rw [decide_eq_false h1]
    conv => whnf
    rw [nx fun k => h1 (k.2.2.2.2.2.2 i h)]
    exact ⟨_, rfl, Wk.refl _⟩
  ·rw [show decide (Int.ofNat i < ↑l.length) = false from ltN_f h]
   conv => whnf
   have hi0 : i = l.length := by omega
   refine sym_pure hC (rTeeth_pure a) ?_
   conv => whnf
   by_cases h1 : tth a
   ·rw [decide_eq_true h1]
    conv => whnf
    refine sym_pure hC (rTeeth_pure b) ?_
    conv => whnf
    by_cases h2 : tth b
    ·rw [decide_eq_true h2]
     conv => whnf
     by_cases h3 : a ≤ b
     ·rw [decide_eq_true h3]
      conv => whnf
      refine sym_pure hC (rin_pure p 1 3) ?_
      conv => whnf
      by_cases h4 : 1 ≤ p ∧ p ≤ 3
      ·rw [decide_eq_true h4]
       conv => whnf
       by_cases h5 : 1 ≤ s
       ·rw [show decide (s ≥ 1) = true from decide_eq_true h5]
        conv => whnf
        by_cases h6 : s ≤ 3
        ·rw [decide_eq_true h6]
         conv => whnf
         refine ⟨_, rfl, wkb ?_⟩
         by_cases h7 : l.length ≤ 6
         ·rw [hr.2 ⟨h1, h2, h3, h4, ⟨h5, h6⟩, h7, fun j hj => hT j (by omega)⟩]
          exact decide_eq_true (show (l.length : Int) ≤ 6 by omega)
         ·rw [nx fun k => h7 k.2.2.2.2.2.1]
          exact decide_eq_false (show ¬ (l.length : Int) ≤ 6 by omega)
        ·rw [decide_eq_false h6]
         conv => whnf
         rw [nx fun k => h6 k.2.2.2.2.1.2]
         exact ⟨_, rfl, Wk.refl _⟩
       ·rw [show decide (s ≥ 1) = false from decide_eq_false h5]
        conv => whnf
        rw [nx fun k => h5 k.2.2.2.2.1.1]
        exact ⟨_, rfl, Wk.refl _⟩
      ·rw [decide_eq_false h4]
       conv => whnf
       rw [nx fun k => h4 k.2.2.2.1]
       exact ⟨_, rfl, Wk.refl _⟩
     ·rw [decide_eq_false h3]
      conv => whnf
      rw [nx fun k => h3 k.2.2.1]
      exact ⟨_, rfl, Wk.refl _⟩
    ·rw [decide_eq_false h2]
     conv => whnf
     rw [nx fun k => h2 k.2.1]
     exact ⟨_, rfl, Wk.refl _⟩
   ·rw [decide_eq_false h1]
    conv => whnf
    rw [nx fun k => h1 k.1]
    exact ⟨_, rfl, Wk.refl _⟩

def tth_l (l : List Int) (a : Nat) : Nat → List Int
 | 0 => []
 |k + 1 => if Int.ofNat (a + k) ∈ l then tth_l l a k else tth_l l a k ++ [Int.ofNat (a + k)]
theorem tth_len (l : List Int) (a : Nat) : ∀ k, (tth_l l a k).length ≤ k
 | 0 => Nat.le_refl 0
 |k + 1 => by
  have := tth_len l a k
  rw [tth_l]
  split
  ·omega
  ·rw [List.length_append, List.length_singleton]; omega
theorem tth_mem (l : List Int) (a : Nat) (x : Int) : ∀ k, x ∈ tth_l l a k ↔ (a : Int) ≤ x ∧ x < (a + k : Nat) ∧ ¬ x ∈ l
 | 0 => ⟨fun h => (nomatch h), fun h => by omega⟩
 |k + 1 => by
  have ih := tth_mem l a x k
  rw [tth_l]
  have e : Int.ofNat (a + k) = ((a + k : Nat) : Int) := rfl
  split
  ·rename_i hm
   rw [ih]
   constructor
   ·rintro ⟨h1, h2, h3⟩; exact ⟨h1, by omega, h3⟩
   ·rintro ⟨h1, h2, h3⟩
    refine ⟨h1, ?_, h3⟩
    by_cases k0 : x = (a + k : Nat)
    ·rw [e, ← k0] at hm; exact absurd hm h3
    ·omega
  ·rename_i hm
   rw [List.mem_append, ih, List.mem_singleton]
   constructor
   ·rintro (⟨h1, h2, h3⟩ | rfl)
    ·exact ⟨h1, by omega, h3⟩
    ·exact ⟨by rw [e]; omega, by rw [e]; omega, hm⟩
   ·rintro ⟨h1, h2, h3⟩
    by_cases k0 : x = (a + k : Nat)
    ·exact .inr (by rw [e]; exact k0)
    ·exact .inl ⟨h1, by omega, h3⟩

abbrev ruv (a b p s : Int) (N T : AV) : AV := .agg [iv a, iv b, iv p, iv s, N, T]

theorem wk_agg6 {a b c d e x y : AV} (h : Wk x y) : Wk (.agg [a, b, c, d, e, x]) (.agg [a, b, c, d, e, y]) := by
 intro g w u hu
 obtain ⟨vs, e0, u0, us0, e1, h0, u1, us1, e2, h1, u2, us2, e3, h2, u3, us3, e4, h3, u4, us4, e5, h4, u5, us5, e6, h5, h6⟩ := hu
 exact ⟨vs, e0, u0, us0, e1, h0, u1, us1, e2, h1, u2, us2, e3, h2, u3, us3, e4, h3, u4, us4, e5, h4, u5, us5, e6, h g w u5 h5, h6⟩
theorem cells_eq {a b p s N v v' : AV} {t : TypeId} (e : v = v') : AObj.cells (.node a (.node b (.node s .nil .nil) (.node v .nil .nil)) (.node p (.node N .nil .nil) .nil)) 6 t = AObj.cells (.node a (.node b (.node s .nil .nil) (.node v' .nil .nil)) (.node p (.node N .nil .nil) .nil)) 6 t := by rw [e]
theorem ruled_pure {N : AV} {l : List Int} (h : IL N l) (hl : l.length < 4611686018427387904) (a b : Nat) (hab : a ≤ b) (hb : b ≤ 60) (p s : Int) :
  Pure prog 83 [rv (Int.ofNat a) (Int.ofNat b) p s N] (ruv (Int.ofNat a) (Int.ofNat b) p s N (sv (tth_l l a (b + 1 - a)))) := by
 have lN := h.no
 have lT := sv_no (tth_l l a (b + 1 - a))
 have pc1 := contains_pure h hl
 have hs : N = .nils ∨ N = nl l := by
  rcases h with ⟨e, _⟩ | e
  ·exact .inl e
  ·exact .inr e
 clear h
 rcases hs with rfl | rfl
 all_goals
  refine pure_sym hE rfl (by repeat' (first | exact trivial | assumption | exact flat_no _ | exact (fun _ h => nomatch h) | apply And.intro)) (by repeat' (first | exact trivial | assumption | exact flat_no _ | exact (fun _ h => nomatch h) | apply And.intro)) fun S q pc hS hq hC hE => ?_
  conv => whnf
  refine sym_loopG hE hS (A := Nat × AV × List AObj) [1, 2, 3] (fun (x, _, _) => [(4, nv x)]) (fun (_, v, _) => [(2, .cells (.node (nv a) (.node (nv b) (.node (iv s) .nil .nil) (.node v .nil .nil)) (.node (iv p) (.node _ .nil .nil) .nil)) 6 112)]) (fun a => a.2.2) (fun (x, v, ux) => a ≤ x ∧ x ≤ b + 1 ∧ (tth_l l a (x - a) = [] ∧ v = .nils ∧ ux = [] ∨ tth_l l a (x - a) ≠ [] ∧ v = .lst (ivs (tth_l l a (x - a))) (tth_l l a (x - a)).length (.ch 3) ∧ ux = [.chain (tth_l l a (x - a)).length 1 3])) (fun (x, _, _) => b + 1 - x) (a, .nils, []) (Nat.le_of_ble_eq_true rfl) rfl (by refine ⟨rfl, rfl, rfl, rfl, rfl, rfl, 3, rfl, ?_, ?_⟩ <;> repeat' (first | exact trivial | exact rfl | exact ⟨_, rfl, WkV.refl _⟩ | exact ⟨_, rfl, WkV.own _ _ _⟩ | exact Nat.zero_le _ | exact Nat.le_of_ble_eq_true rfl | exact bdl_no (by assumption) | exact bdl_no (flat_no _) | exact bdl_no (ivs_no _) | exact bdl_no (svs_no _) | exact Nat.max_le.2 ⟨Nat.le_of_ble_eq_true rfl, bdl_no (ivs_no _)⟩ | exact Nat.max_le.2 ⟨Nat.le_of_ble_eq_true rfl, bdl_no (svs_no _)⟩ | apply And.intro)) ⟨Nat.le_refl _, by omega, .inl ⟨by rw [Nat.sub_self]; rfl, rfl, rfl⟩⟩ ?_
  rintro ⟨x, v, ux⟩ ⟨hx, hx2, ⟨e0, rfl, rfl⟩ | ⟨hne, rfl, rfl⟩⟩ M hM
  ·obtain rfl : M = 3 := hM
   conv => whnf
   by_cases h : x ≤ b
   ·refine bool_true (decide_eq_true (show Int.ofNat x ≤ Int.ofNat b by show (x : Int) ≤ (b : Int); omega)) ?_
    conv => whnf
    refine sym_pure hC (pc1 (Int.ofNat x)) ?_
    conv => whnf
    have e2 : tth_l l a (x + 1 - a) = if Int.ofNat x ∈ l then tth_l l a (x - a) else tth_l l a (x - a) ++ [Int.ofNat x] := by
     rw [show x + 1 - a = (x - a) + 1 by omega, tth_l, show a + (x - a) = x by omega]
    have hx1 : IntKind.i64.wrap (Int.ofNat x + 1) = Int.ofNat (x + 1) := wrapN (m := x + 1) (by omega)
    by_cases hm : Int.ofNat x ∈ l
    ·rw [if_pos hm, e0] at e2
     rw [decide_eq_true hm]
     conv => whnf
     exact ⟨(x + 1, .nils, []), ⟨by omega, by omega, .inl ⟨e2, rfl, rfl⟩⟩, by show b + 1 - (x + 1) < b + 1 - x; omega, Nat.le_refl _, (by refine ⟨rfl, rfl, rfl, rfl, rfl, rfl, 3, rfl, ?_, ?_⟩ <;> repeat' (first | exact trivial | exact rfl | exact ⟨_, rfl, WkV.refl _⟩ | exact ⟨_, rfl, WkV.own _ _ _⟩ | exact Nat.zero_le _ | exact ⟨_, rfl, WkV.int hx1⟩ | exact Nat.le_of_ble_eq_true rfl | exact bdl_no (by assumption) | exact bdl_no (flat_no _) | exact bdl_no (ivs_no _) | exact bdl_no (svs_no _) | exact Nat.max_le.2 ⟨Nat.le_of_ble_eq_true rfl, bdl_no (ivs_no _)⟩ | exact Nat.max_le.2 ⟨Nat.le_of_ble_eq_true rfl, bdl_no (svs_no _)⟩ | apply And.intro))⟩
    ·rw [if_neg hm, e0] at e2
     rw [decide_eq_false hm]
     conv => whnf
     exact ⟨(x + 1, .lst (ivs [Int.ofNat x]) 1 (.ch 3), [.chain 1 1 3]), ⟨by omega, by omega, .inr ⟨by rw [e2]; simp, by rw [e2]; rfl, by rw [e2]; rfl⟩⟩, by show b + 1 - (x + 1) < b + 1 - x; omega, Nat.zero_le _, (by refine ⟨rfl, rfl, rfl, rfl, rfl, rfl, 4, rfl, ?_, ?_⟩ <;> repeat' (first | exact trivial | exact rfl | exact ⟨_, rfl, WkV.refl _⟩ | exact ⟨_, rfl, WkV.own _ _ _⟩ | exact Nat.zero_le _ | exact ⟨_, rfl, WkV.int hx1⟩ | exact Nat.le_of_ble_eq_true rfl | exact bdl_no (by assumption) | exact bdl_no (flat_no _) | exact bdl_no (ivs_no _) | exact bdl_no (svs_no _) | exact Nat.max_le.2 ⟨Nat.le_of_ble_eq_true rfl, bdl_no (ivs_no _)⟩ | exact Nat.max_le.2 ⟨Nat.le_of_ble_eq_true rfl, bdl_no (svs_no _)⟩ | apply And.intro))⟩
   ·refine bool_false (decide_eq_false (show ¬ Int.ofNat x ≤ Int.ofNat b by show ¬ (x : Int) ≤ (b : Int); omega)) ?_
    conv => whnf
    refine .inl ?_
    conv => whnf
    rw [show b + 1 - a = x - a by omega, e0]
    exact ⟨_, rfl, Wk.refl _⟩
  ·obtain rfl : M = 4 := hM
   have tl := tth_len l a (x - a)
   conv => whnf
   by_cases h : x ≤ b
   ·refine bool_true (decide_eq_true (show Int.ofNat x ≤ Int.ofNat b by show (x : Int) ≤ (b : Int); omega)) ?_
    conv => whnf
    refine sym_pure hC (pc1 (Int.ofNat x)) ?_
    conv => whnf
    have e2 : tth_l l a (x + 1 - a) = if Int.ofNat x ∈ l then tth_l l a (x - a) else tth_l l a (x - a) ++ [Int.ofNat x] := by
     rw [show x + 1 - a = (x - a) + 1 by omega, tth_l, show a + (x - a) = x by omega]
    have hx1 : IntKind.i64.wrap (Int.ofNat x + 1) = Int.ofNat (x + 1) := wrapN (m := x + 1) (by omega)
    by_cases hm : Int.ofNat x ∈ l
    ·rw [if_pos hm] at e2
     rw [decide_eq_true hm]
     conv => whnf
     exact ⟨(x + 1, .lst (ivs (tth_l l a (x - a))) (tth_l l a (x - a)).length (.ch 3), [.chain (tth_l l a (x - a)).length 1 3]), ⟨by omega, by omega, .inr ⟨by rw [e2]; exact hne, by rw [e2], by rw [e2]⟩⟩, by show b + 1 - (x + 1) < b + 1 - x; omega, Nat.le_refl _, (by refine ⟨rfl, rfl, rfl, rfl, rfl, rfl, 4, rfl, ?_, ?_⟩ <;> repeat' (first | exact trivial | exact rfl | exact ⟨_, rfl, WkV.refl _⟩ | exact ⟨_, rfl, WkV.own _ _ _⟩ | exact Nat.zero_le _ | exact ⟨_, rfl, WkV.int hx1⟩ | exact Nat.le_of_ble_eq_true rfl | exact bdl_no (by assumption) | exact bdl_no (flat_no _) | exact bdl_no (ivs_no _) | exact bdl_no (svs_no _) | exact Nat.max_le.2 ⟨Nat.le_of_ble_eq_true rfl, bdl_no (ivs_no _)⟩ | exact Nat.max_le.2 ⟨Nat.le_of_ble_eq_true rfl, bdl_no (svs_no _)⟩ | apply And.intro))⟩
    ·rw [if_neg hm] at e2
     rw [decide_eq_false hm]
     conv => whnf
     refine bool_true (decide_eq_true (show ((tth_l l a (x - a)).length + (0 + 1)) * 8 ≤ 140737488355328 by omega)) ?_
     conv => whnf
     refine bool_true (decide_eq_true (show (tth_l l a (x - a)).length + (0 + 1) ≤ 9223372036854775807 by omega)) ?_
     conv => whnf
     refine bool_true (lenIs_ivs (tth_l l a (x - a))) ?_
     conv => whnf
     refine bool_true (decide_eq_true rfl) ?_
     conv => whnf
     exact ⟨(x + 1, .lst (ivs (tth_l l a (x - a) ++ [Int.ofNat x])) (tth_l l a (x - a) ++ [Int.ofNat x]).length (.ch 3), [.chain (tth_l l a (x - a) ++ [Int.ofNat x]).length 1 3]), ⟨by omega, by omega, .inr ⟨by rw [e2]; simp, by rw [e2], by rw [e2]⟩⟩, by show b + 1 - (x + 1) < b + 1 - x; omega, Nat.le_refl _, (by refine ⟨rfl, rfl, rfl, rfl, rfl, rfl, 4, rfl, ?_, ?_⟩ <;> repeat' (first | exact trivial | exact rfl | exact ⟨_, rfl, WkV.refl _⟩ | exact ⟨_, rfl, WkV.own _ _ _⟩ | exact Nat.zero_le _ | exact ⟨_, rfl, WkV.int hx1⟩ | exact cells_eq (app_I _ _ _) | exact app_J _ _ | exact Nat.le_of_ble_eq_true rfl | exact bdl_no (by assumption) | exact bdl_no (flat_no _) | exact bdl_no (ivs_no _) | exact bdl_no (svs_no _) | exact Nat.max_le.2 ⟨Nat.le_of_ble_eq_true rfl, bdl_no (ivs_no _)⟩ | exact Nat.max_le.2 ⟨Nat.le_of_ble_eq_true rfl, bdl_no (svs_no _)⟩ | apply And.intro))⟩
   ·refine bool_false (decide_eq_false (show ¬ Int.ofNat x ≤ Int.ofNat b by show ¬ (x : Int) ≤ (b : Int); omega)) ?_
    conv => whnf
    refine .inl ?_
    conv => whnf
    have e5 : sv (tth_l l a (x - a)) = nl (tth_l l a (x - a)) := by
     rcases sv_cases (tth_l l a (x - a)) with ⟨k, _⟩ | k
     ·exact absurd k hne
     ·exact k
    rw [show b + 1 - a = x - a by omega, e5]
    exact ⟨_, rfl, wk_agg6 (wk_own rfl)⟩
end
end Go.Abs.Seat

/-! Which settings are the best: the first ones, by how many they are, then in order. -/
namespace Go.Abs.Seat
open Go Go.Abs
set_option maxRecDepth 100000

theorem ordI_lt {a b : Int} : ordI a b < 0 ↔ a < b := by
 unfold ordI; split
 ·exact ⟨fun _ => by assumption, fun _ => by omega⟩
 ·split <;> exact ⟨fun _ => by omega, fun _ => by omega⟩
theorem ordI_zero {a b : Int} : ordI a b = 0 ↔ a = b := by
 unfold ordI; split
 ·exact ⟨fun _ => by omega, fun _ => by omega⟩
 ·split
  ·exact ⟨fun _ => by omega, fun _ => by omega⟩
  ·exact ⟨fun _ => by omega, fun _ => rfl⟩
/-! Increasing lists. -/
def Asc (lo hi : Int) : List Int → Prop
 | [] => True
 |x :: r => lo ≤ x ∧ x < hi ∧ Asc (x + 1) hi r
theorem Asc.snoc {hi : Int} : ∀ {l : List Int} {lo : Int}, Asc lo (hi + 1) l → Asc lo hi l ∨ ∃ r, l = r ++ [hi] ∧ Asc lo hi r
 | [], _, _ => .inl trivial
 |x :: r, lo, h => by
  rcases Asc.snoc h.2.2 with k | ⟨q, rfl, k⟩
  ·by_cases e : x = hi
   ·subst e
    cases r with
    |nil => exact .inr ⟨[], rfl, trivial⟩
    |cons y r => have := k.1; have := k.2.1; omega
   ·exact .inl ⟨h.1, by have := h.2.1; omega, k⟩
  ·refine .inr ⟨x :: q, rfl, h.1, ?_, k⟩
   cases q with
   |nil => have := h.2.2.1; omega
   |cons y q => have := k.1; have := k.2.1; omega

/-! The document's lists. -/
end Go.Abs.Seat

/-! Trains of a rule: the parts. -/
namespace Go.Abs.Seat
noncomputable section
open Go Go.Abs Go.Proofs.Tryz
set_option maxRecDepth 100000
set_option maxHeartbeats 40000000

def letsP (s : Int) (k : Nat) : Prop := s = 1 ∨ s = 2 ∧ k % 2 = 0 ∨ s = 3 ∧ k % 2 = 1
instance (s k) : Decidable (letsP s k) := by unfold letsP; infer_instance
theorem sense3 {s : Int} (h : 1 ≤ s ∧ s ≤ 3) : s = 1 ∨ s = 2 ∨ s = 3 := by omega
theorem eqI_dec (k c : Nat) : (Int.ofNat k == Int.ofNat c) = decide (k = c) := by
 by_cases h : k = c
 ·rw [decide_eq_true h, h]; exact beq_self_eq_true _
 ·rw [decide_eq_false h]; exact beq_eq_false_iff_ne.2 fun e => h (by exact_mod_cast Int.ofNat.inj e)
section
attribute [local irreducible] IntKind.wrap pEq

theorem IL.cs {N : AV} {l : List Int} (h : IL N l) : N = .nils ∨ N = nl l := by
 rcases h with ⟨e, _⟩ | e
 ·exact .inl e
 ·exact .inr e
theorem lets_pure {N : AV} {l : List Int} (hN : IL N l) (T : List Int) (a b p s : Int) (hs : 1 ≤ s ∧ s ≤ 3) (k : Nat) : Pure prog 84 [ruv a b p s N (sv T), nv k] (.bool (decide (letsP s k))) := by
 have lN := hN.no
 have lT := sv_no T
 rcases sense3 hs with rfl | rfl | rfl <;> rcases hN.cs with rfl | rfl <;> rcases sv_cases T with ⟨_, e⟩ | e <;> rw [e] at lT ⊢
 ·rw [decide_eq_true (.inl rfl)]
  refine pure_sym hE rfl (by repeat' (first | exact trivial | assumption | exact flat_no _ | exact (fun _ h => nomatch h) | apply And.intro)) (by repeat' (first | exact trivial | assumption | exact flat_no _ | exact (fun _ h => nomatch h) | apply And.intro)) fun S q pc hS hq hC hE => ?_
  conv => whnf
  rw [show IntKind.i64.wrap (1 - 1) = 0 from wrapI (by decide) (by decide)]
  conv => whnf
  exact ⟨_, rfl, Wk.refl _⟩
 ·rw [decide_eq_true (.inl rfl)]
  refine pure_sym hE rfl (by repeat' (first | exact trivial | assumption | exact flat_no _ | exact (fun _ h => nomatch h) | apply And.intro)) (by repeat' (first | exact trivial | assumption | exact flat_no _ | exact (fun _ h => nomatch h) | apply And.intro)) fun S q pc hS hq hC hE => ?_
  conv => whnf
  rw [show IntKind.i64.wrap (1 - 1) = 0 from wrapI (by decide) (by decide)]
  conv => whnf
  exact ⟨_, rfl, Wk.refl _⟩
 ·rw [decide_eq_true (.inl rfl)]
  refine pure_sym hE rfl (by repeat' (first | exact trivial | assumption | exact flat_no _ | exact (fun _ h => nomatch h) | apply And.intro)) (by repeat' (first | exact trivial | assumption | exact flat_no _ | exact (fun _ h => nomatch h) | apply And.intro)) fun S q pc hS hq hC hE => ?_
  conv => whnf
  rw [show IntKind.i64.wrap (1 - 1) = 0 from wrapI (by decide) (by decide)]
  conv => whnf
  exact ⟨_, rfl, Wk.refl _⟩
 ·rw [decide_eq_true (.inl rfl)]
  refine pure_sym hE rfl (by repeat' (first | exact trivial | assumption | exact flat_no _ | exact (fun _ h => nomatch h) | apply And.intro)) (by repeat' (first | exact trivial | assumption | exact flat_no _ | exact (fun _ h => nomatch h) | apply And.intro)) fun S q pc hS hq hC hE => ?_
  conv => whnf
  rw [show IntKind.i64.wrap (1 - 1) = 0 from wrapI (by decide) (by decide)]
  conv => whnf
  exact ⟨_, rfl, Wk.refl _⟩
 ·refine pure_sym hE rfl (by repeat' (first | exact trivial | assumption | exact flat_no _ | exact (fun _ h => nomatch h) | apply And.intro)) (by repeat' (first | exact trivial | assumption | exact flat_no _ | exact (fun _ h => nomatch h) | apply And.intro)) fun S q pc hS hq hC hE => ?_
  conv => whnf
  rw [show IntKind.i64.wrap (2 - 1) = 1 from wrapI (by decide) (by decide)]
  conv => whnf
  refine ⟨_, rfl, wkb ?_⟩
  rw [show (Int.ofNat k).tmod 2 = Int.ofNat (k % 2) from rfl]
  exact (eqI_dec (k % 2) 0).trans (decide_eq_decide.2 ⟨fun h => .inr (.inl ⟨rfl, h⟩), fun h => by rcases h with h | ⟨_, h⟩ | ⟨h, _⟩ <;> first | exact h | cases h⟩)
 ·refine pure_sym hE rfl (by repeat' (first | exact trivial | assumption | exact flat_no _ | exact (fun _ h => nomatch h) | apply And.intro)) (by repeat' (first | exact trivial | assumption | exact flat_no _ | exact (fun _ h => nomatch h) | apply And.intro)) fun S q pc hS hq hC hE => ?_
  conv => whnf
  rw [show IntKind.i64.wrap (2 - 1) = 1 from wrapI (by decide) (by decide)]
  conv => whnf
  refine ⟨_, rfl, wkb ?_⟩
  rw [show (Int.ofNat k).tmod 2 = Int.ofNat (k % 2) from rfl]
  exact (eqI_dec (k % 2) 0).trans (decide_eq_decide.2 ⟨fun h => .inr (.inl ⟨rfl, h⟩), fun h => by rcases h with h | ⟨_, h⟩ | ⟨h, _⟩ <;> first | exact h | cases h⟩)
 ·refine pure_sym hE rfl (by repeat' (first | exact trivial | assumption | exact flat_no _ | exact (fun _ h => nomatch h) | apply And.intro)) (by repeat' (first | exact trivial | assumption | exact flat_no _ | exact (fun _ h => nomatch h) | apply And.intro)) fun S q pc hS hq hC hE => ?_
  conv => whnf
  rw [show IntKind.i64.wrap (2 - 1) = 1 from wrapI (by decide) (by decide)]
  conv => whnf
  refine ⟨_, rfl, wkb ?_⟩
  rw [show (Int.ofNat k).tmod 2 = Int.ofNat (k % 2) from rfl]
  exact (eqI_dec (k % 2) 0).trans (decide_eq_decide.2 ⟨fun h => .inr (.inl ⟨rfl, h⟩), fun h => by rcases h with h | ⟨_, h⟩ | ⟨h, _⟩ <;> first | exact h | cases h⟩)
 ·refine pure_sym hE rfl (by repeat' (first | exact trivial | assumption | exact flat_no _ | exact (fun _ h => nomatch h) | apply And.intro)) (by repeat' (first | exact trivial | assumption | exact flat_no _ | exact (fun _ h => nomatch h) | apply And.intro)) fun S q pc hS hq hC hE => ?_
  conv => whnf
  rw [show IntKind.i64.wrap (2 - 1) = 1 from wrapI (by decide) (by decide)]
  conv => whnf
  refine ⟨_, rfl, wkb ?_⟩
  rw [show (Int.ofNat k).tmod 2 = Int.ofNat (k % 2) from rfl]
  exact (eqI_dec (k % 2) 0).trans (decide_eq_decide.2 ⟨fun h => .inr (.inl ⟨rfl, h⟩), fun h => by rcases h with h | ⟨_, h⟩ | ⟨h, _⟩ <;> first | exact h | cases h⟩)
 ·refine pure_sym hE rfl (by repeat' (first | exact trivial | assumption | exact flat_no _ | exact (fun _ h => nomatch h) | apply And.intro)) (by repeat' (first | exact trivial | assumption | exact flat_no _ | exact (fun _ h => nomatch h) | apply And.intro)) fun S q pc hS hq hC hE => ?_
  conv => whnf
  rw [show IntKind.i64.wrap (3 - 1) = 2 from wrapI (by decide) (by decide)]
  conv => whnf
  refine ⟨_, rfl, wkb ?_⟩
  rw [show (Int.ofNat k).tmod 2 = Int.ofNat (k % 2) from rfl]
  exact (eqI_dec (k % 2) 1).trans (decide_eq_decide.2 ⟨fun h => .inr (.inr ⟨rfl, h⟩), fun h => by rcases h with h | ⟨h, _⟩ | ⟨_, h⟩ <;> first | exact h | cases h⟩)
 ·refine pure_sym hE rfl (by repeat' (first | exact trivial | assumption | exact flat_no _ | exact (fun _ h => nomatch h) | apply And.intro)) (by repeat' (first | exact trivial | assumption | exact flat_no _ | exact (fun _ h => nomatch h) | apply And.intro)) fun S q pc hS hq hC hE => ?_
  conv => whnf
  rw [show IntKind.i64.wrap (3 - 1) = 2 from wrapI (by decide) (by decide)]
  conv => whnf
  refine ⟨_, rfl, wkb ?_⟩
  rw [show (Int.ofNat k).tmod 2 = Int.ofNat (k % 2) from rfl]
  exact (eqI_dec (k % 2) 1).trans (decide_eq_decide.2 ⟨fun h => .inr (.inr ⟨rfl, h⟩), fun h => by rcases h with h | ⟨h, _⟩ | ⟨_, h⟩ <;> first | exact h | cases h⟩)
 ·refine pure_sym hE rfl (by repeat' (first | exact trivial | assumption | exact flat_no _ | exact (fun _ h => nomatch h) | apply And.intro)) (by repeat' (first | exact trivial | assumption | exact flat_no _ | exact (fun _ h => nomatch h) | apply And.intro)) fun S q pc hS hq hC hE => ?_
  conv => whnf
  rw [show IntKind.i64.wrap (3 - 1) = 2 from wrapI (by decide) (by decide)]
  conv => whnf
  refine ⟨_, rfl, wkb ?_⟩
  rw [show (Int.ofNat k).tmod 2 = Int.ofNat (k % 2) from rfl]
  exact (eqI_dec (k % 2) 1).trans (decide_eq_decide.2 ⟨fun h => .inr (.inr ⟨rfl, h⟩), fun h => by rcases h with h | ⟨h, _⟩ | ⟨_, h⟩ <;> first | exact h | cases h⟩)
 ·refine pure_sym hE rfl (by repeat' (first | exact trivial | assumption | exact flat_no _ | exact (fun _ h => nomatch h) | apply And.intro)) (by repeat' (first | exact trivial | assumption | exact flat_no _ | exact (fun _ h => nomatch h) | apply And.intro)) fun S q pc hS hq hC hE => ?_
  conv => whnf
  rw [show IntKind.i64.wrap (3 - 1) = 2 from wrapI (by decide) (by decide)]
  conv => whnf
  refine ⟨_, rfl, wkb ?_⟩
  rw [show (Int.ofNat k).tmod 2 = Int.ofNat (k % 2) from rfl]
  exact (eqI_dec (k % 2) 1).trans (decide_eq_decide.2 ⟨fun h => .inr (.inr ⟨rfl, h⟩), fun h => by rcases h with h | ⟨h, _⟩ | ⟨_, h⟩ <;> first | exact h | cases h⟩)

theorem ilsv (l : List Int) : IL (sv l) l := by
 rcases sv_cases l with ⟨e, e'⟩ | e'
 ·exact .inl ⟨e', e⟩
 ·exact .inr e'
theorem has_pure {N : AV} {l : List Int} (hN : IL N l) (a b p s : Int) (T : List Int) (hT : T.length < 4611686018427387904) (x : Int) : Pure prog 89 [ruv a b p s N (sv T), iv x] (.bool (decide (x ∈ T))) := by
 have lN := hN.no
 have lT := sv_no T
 have pc1 := contains_pure (ilsv T) hT x
 rcases hN.cs with rfl | rfl <;> rcases sv_cases T with ⟨_, e⟩ | e
 all_goals
  rw [e] at pc1 lT ⊢
  refine pure_sym hE rfl (by repeat' (first | exact trivial | assumption | exact flat_no _ | exact (fun _ h => nomatch h) | apply And.intro)) (by repeat' (first | exact trivial | assumption | exact flat_no _ | exact (fun _ h => nomatch h) | apply And.intro)) fun S q pc hS hq hC hE => ?_
  conv => whnf
  refine sym_pure hC (pc1) ?_
  conv => whnf
  exact ⟨_, rfl, Wk.refl _⟩

def ordP (a b c d : Int) : Int := if ordI a c = 0 then ordI b d else ordI a c
theorem ordP_lt {a b c d : Int} : ordP a b c d < 0 ↔ a < c ∨ a = c ∧ b < d := by
 unfold ordP
 split
 ·rename_i h
  have := ordI_zero.1 h
  rw [ordI_lt]; omega
 ·rename_i h
  have h1 : ¬ a = c := fun k => h (ordI_zero.2 k)
  rw [ordI_lt]; omega
theorem inOrder_pure (a b c d : Int) : Pure prog 86 [fv a b, fv c d] (iv (ordP a b c d)) := by
 refine pure_sym hE rfl (by repeat' (first | exact trivial | assumption | exact flat_no _ | exact (fun _ h => nomatch h) | apply And.intro)) (by repeat' (first | exact trivial | assumption | exact flat_no _ | exact (fun _ h => nomatch h) | apply And.intro)) fun S q pc hS hq hC hE => ?_
 conv => whnf
 refine sym_pure hC (cmp_pure a c) ?_
 conv => whnf
 refine sym_pure hC (cmp_pure b d) ?_
 conv => whnf
 refine sym_pure hC (or_pure (ordI a c) (ordI b d)) ?_
 conv => whnf
 refine sym_drawn hS (by kernel_rfl) ?_
 conv => whnf
 exact ⟨_, rfl, Wk.refl _⟩
theorem before_pure (a b c d : Int) : Pure prog 91 [fv a b, fv c d] (.bool (decide (ordP a b c d < 0))) := by
 rw [show decide (ordP a b c d < 0) = decide (a < c ∨ a = c ∧ b < d) from decide_eq_decide.2 ordP_lt]
 refine pure_sym hE rfl (by repeat' (first | exact trivial | assumption | exact flat_no _ | exact (fun _ h => nomatch h) | apply And.intro)) (by repeat' (first | exact trivial | assumption | exact flat_no _ | exact (fun _ h => nomatch h) | apply And.intro)) fun S q pc hS hq hC hE => ?_
 conv => whnf
 by_cases h : a < c
 ·rw [decide_eq_true h]
  conv => whnf
  rw [decide_eq_true (.inl h)]
  exact ⟨_, rfl, Wk.refl _⟩
 ·rw [decide_eq_false h]
  conv => whnf
  by_cases h2 : a = c
  ·rw [show (a == c) = true from beq_iff_eq.2 h2]
   conv => whnf
   exact ⟨_, rfl, wkb (decide_eq_decide.2 (by omega))⟩
  ·rw [show (a == c) = false from beq_eq_false_iff_ne.2 h2]
   conv => whnf
   rw [decide_eq_false (by omega)]
   exact ⟨_, rfl, Wk.refl _⟩

def sortedP : List (Int × Int) → Prop
 | [] => True
 | [_] => True
 |(a, b) :: (c, d) :: r => ¬ ordP c d a b < 0 ∧ sortedP ((c, d) :: r)
instance decSorted : ∀ l, Decidable (sortedP l)
 | [] => isTrue trivial
 | [_] => isTrue trivial
 |(_, _) :: (c, d) :: r => have := decSorted ((c, d) :: r); inferInstanceAs (Decidable (_ ∧ _))

end
section
attribute [local irreducible] pEq
theorem sorted1 (a b : Int) : Pure prog 85 [pv [(a, b)], .func (.func 86) [] []] (.bool (decide (sortedP [(a, b)]))) := by
 rw [decide_eq_true (show sortedP [(a, b)] from trivial)]
 refine pure_sym hE rfl (by repeat' (first | exact trivial | assumption | exact flat_no _ | exact (fun _ h => nomatch h) | apply And.intro)) (by repeat' (first | exact trivial | assumption | exact flat_no _ | exact (fun _ h => nomatch h) | apply And.intro)) fun S q pc hS hq hC hE => ?_
 conv => whnf
 refine sym_unroll hE hS ?_
 conv => whnf
 exact ⟨_, rfl, Wk.refl _⟩
theorem sorted2 (a b c d : Int) : Pure prog 85 [pv [(a, b), (c, d)], .func (.func 86) [] []] (.bool (decide (sortedP [(a, b), (c, d)]))) := by
 refine pure_sym hE rfl (by repeat' (first | exact trivial | assumption | exact flat_no _ | exact (fun _ h => nomatch h) | apply And.intro)) (by repeat' (first | exact trivial | assumption | exact flat_no _ | exact (fun _ h => nomatch h) | apply And.intro)) fun S q pc hS hq hC hE => ?_
 conv => whnf
 refine sym_unroll hE hS ?_
 conv => whnf
 refine sym_pure hC (inOrder_pure c d a b) ?_
 conv => whnf
 refine sym_drawn hS (by kernel_rfl) ?_
 conv => whnf
 by_cases h : ordP c d a b < 0
 ·rw [decide_eq_true h]
  conv => whnf
  rw [decide_eq_false (show ¬ sortedP [(a, b), (c, d)] from fun k => k.1 h)]
  exact ⟨_, rfl, Wk.refl _⟩
 ·rw [decide_eq_false h]
  conv => whnf
  refine sym_unroll hE hS ?_
  conv => whnf
  rw [decide_eq_true (show sortedP [(a, b), (c, d)] from ⟨h, trivial⟩)]
  exact ⟨_, rfl, Wk.refl _⟩
theorem sorted3 (a b c d e f : Int) : Pure prog 85 [pv [(a, b), (c, d), (e, f)], .func (.func 86) [] []] (.bool (decide (sortedP [(a, b), (c, d), (e, f)]))) := by
 refine pure_sym hE rfl (by repeat' (first | exact trivial | assumption | exact flat_no _ | exact (fun _ h => nomatch h) | apply And.intro)) (by repeat' (first | exact trivial | assumption | exact flat_no _ | exact (fun _ h => nomatch h) | apply And.intro)) fun S q pc hS hq hC hE => ?_
 conv => whnf
 refine sym_unroll hE hS ?_
 conv => whnf
 refine sym_pure hC (inOrder_pure e f c d) ?_
 conv => whnf
 refine sym_drawn hS (by kernel_rfl) ?_
 conv => whnf
 by_cases h : ordP e f c d < 0
 ·rw [decide_eq_true h]
  conv => whnf
  rw [decide_eq_false (show ¬ sortedP [(a, b), (c, d), (e, f)] from fun k => k.2.1 h)]
  exact ⟨_, rfl, Wk.refl _⟩
 ·rw [decide_eq_false h]
  conv => whnf
  refine sym_unroll hE hS ?_
  conv => whnf
  refine sym_pure hC (inOrder_pure c d a b) ?_
  conv => whnf
  refine sym_drawn hS (by kernel_rfl) ?_
  conv => whnf
  by_cases h2 : ordP c d a b < 0
  ·rw [decide_eq_true h2]
   conv => whnf
   rw [decide_eq_false (show ¬ sortedP [(a, b), (c, d), (e, f)] from fun k => k.1 h2)]
   exact ⟨_, rfl, Wk.refl _⟩
  ·rw [decide_eq_false h2]
   conv => whnf
   refine sym_unroll hE hS ?_
   conv => whnf
   rw [decide_eq_true (show sortedP [(a, b), (c, d), (e, f)] from ⟨h2, h, trivial⟩)]
   exact ⟨_, rfl, Wk.refl _⟩
end
end
end Go.Abs.Seat

/-! Trains of a rule: the document's parts. -/
namespace Go.Abs.Seat
noncomputable section
open Go Go.Abs Go.Proofs.Tryz
set_option maxRecDepth 100000
set_option maxHeartbeats 40000000
attribute [local irreducible] IntKind.wrap pEq

def cutP (a b : Int) (l : List Int) (x : Int) : Prop := ¬ x ∈ l ∧ a ≤ x ∧ x ≤ b
instance (a b l x) : Decidable (cutP a b l x) := by unfold cutP; infer_instance

theorem mem_ix {l : List Int} {x : Int} : x ∈ l ↔ ∃ i, i < l.length ∧ gi l i = x := by
 constructor
 ·intro h
  obtain ⟨i, hi, e⟩ := List.mem_iff_getElem.1 h
  exact ⟨i, hi, by simp [gi, List.getD, hi, e]⟩
 ·rintro ⟨i, hi, e⟩
  exact List.mem_iff_getElem.2 ⟨i, hi, by rw [← e]; simp [gi, List.getD, hi]⟩

theorem cut_pure {N : AV} {l : List Int} (h : IL N l) (hl : l.length < 4611686018427387904) (a b p s x : Int) :
  Pure prog 90 [rv a b p s N, iv x] (.bool (decide (cutP a b l x))) := by
 have lv := h.no
 rcases h with ⟨rfl, rfl⟩ | rfl
 ·rw [show decide (cutP a b [] x) = decide (a ≤ x ∧ x ≤ b) from decide_eq_decide.2 ⟨fun h => h.2, fun h => ⟨List.not_mem_nil, h⟩⟩]
  refine pure_sym hE rfl (by repeat' (first | exact trivial | assumption | exact flat_no _ | exact (fun _ h => nomatch h) | apply And.intro)) (by repeat' (first | exact trivial | assumption | exact flat_no _ | exact (fun _ h => nomatch h) | apply And.intro)) fun S q pc hS hq hC hE => ?_
  conv => whnf
  refine sym_unroll hE hS ?_
  conv => whnf
  refine sym_pure hC (rin_pure x a b) ?_
  conv => whnf
  exact ⟨_, rfl, Wk.refl _⟩
 ·have ll := ivs_no l
  refine pure_sym hE rfl (by repeat' (first | exact trivial | assumption | exact flat_no _ | exact (fun _ h => nomatch h) | apply And.intro)) (by repeat' (first | exact trivial | assumption | exact flat_no _ | exact (fun _ h => nomatch h) | apply And.intro)) fun S q pc hS hq hC hE => ?_
  conv => whnf
  refine sym_loop hE hS (A := Nat) [1, 2] (fun i => [(5, nv i)]) (fun _ => []) (fun i => i ≤ l.length ∧ ∀ j, j < i → ¬ gi l j = x) (fun i => l.length - i) 0 rfl rfl (by refine ⟨rfl, rfl, rfl, rfl, ?_, ?_⟩ <;> repeat' (first | exact trivial | exact rfl | exact Nat.zero_le _ | exact Nat.le_of_ble_eq_true rfl | exact bdl_no (by assumption) | exact bdl_no (flat_no _) | exact bdl_no (ivs_no _) | exact Nat.max_le.2 ⟨Nat.le_of_ble_eq_true rfl, bdl_no (ivs_no _)⟩ | apply And.intro)) ⟨Nat.zero_le _, fun _ h => absurd h (Nat.not_lt_zero _)⟩ ?_
  intro i ⟨hi, hT⟩
  conv => whnf
  by_cases h : i < l.length
  ·rw [show decide (Int.ofNat i < ↑l.length) = true from ltN_t h]
   conv => whnf
   refine bool_true (inR_t (i := i) (n := l.length) h) ?_
   conv => whnf
   refine plan_as (nthP (nth_ivs1 (l := l) (i := i) h)) ?_
   conv => whnf
   by_cases h1 : gi l i = x
   ·rw [show (gi l i == x) = true from beq_iff_eq.2 h1]
    conv => whnf
    rw [decide_eq_false fun k => k.1 (mem_ix.2 ⟨i, h, h1⟩)]
    exact ⟨_, rfl, Wk.refl _⟩
   ·rw [show (gi l i == x) = false from beq_eq_false_iff_ne.2 h1]
    conv => whnf
    rw [show IntKind.i64.wrap (Int.ofNat i + 1) = Int.ofNat (i + 1) from wrapN (m := i + 1) (by omega)]
    exact ⟨i + 1, ⟨h, upto hT h1⟩, by omega, (by refine ⟨rfl, rfl, rfl, rfl, ?_, ?_⟩ <;> repeat' (first | exact trivial | exact rfl | exact Nat.zero_le _ | exact Nat.le_of_ble_eq_true rfl | exact bdl_no (by assumption) | exact bdl_no (flat_no _) | exact bdl_no (ivs_no _) | exact Nat.max_le.2 ⟨Nat.le_of_ble_eq_true rfl, bdl_no (ivs_no _)⟩ | apply And.intro))⟩
  ·rw [show decide (Int.ofNat i < ↑l.length) = false from ltN_f h]
   conv => whnf
   refine sym_pure hC (rin_pure x a b) ?_
   conv => whnf
   rw [show decide (cutP a b l x) = decide (a ≤ x ∧ x ≤ b) from decide_eq_decide.2 ⟨fun h => h.2, fun h => ⟨fun k => by
    obtain ⟨j, hj, e⟩ := mem_ix.1 k
    exact hT j (by omega) e, h⟩⟩]
   exact ⟨_, rfl, Wk.refl _⟩

def manyP (p s : Int) (k : Nat) : Prop := (1 ≤ (k : Int) ∧ (k : Int) ≤ p) ∧ letsP s k
instance (p s k) : Decidable (manyP p s k) := by unfold manyP; infer_instance
theorem many_pure {N : AV} {l : List Int} (h : IL N l) (a b p s : Int) (hs : 1 ≤ s ∧ s ≤ 3) (k : Nat) : Pure prog 92 [rv a b p s N, nv k] (.bool (decide (manyP p s k))) := by
 have lv := h.no
 rcases h.cs with rfl | rfl
 all_goals
  refine pure_sym hE rfl (by repeat' (first | exact trivial | assumption | exact flat_no _ | exact (fun _ h => nomatch h) | apply And.intro)) (by repeat' (first | exact trivial | assumption | exact flat_no _ | exact (fun _ h => nomatch h) | apply And.intro)) fun S q pc hS hq hC hE => ?_
  conv => whnf
  refine sym_pure hC (rin_pure (Int.ofNat k) 1 p) ?_
  conv => whnf
  by_cases h1 : 1 ≤ (k : Int) ∧ (k : Int) ≤ p
  ·rw [show decide (1 ≤ Int.ofNat k ∧ Int.ofNat k ≤ p) = true from decide_eq_true h1]
   conv => whnf
   rw [show decide (manyP p s k) = decide (letsP s k) from decide_eq_decide.2 ⟨fun h => h.2, fun h => ⟨h1, h⟩⟩]
   rcases sense3 hs with rfl | rfl | rfl
   ·conv => whnf
    exact ⟨_, rfl, Wk.refl _⟩
   ·conv => whnf
    refine sym_eq hq _ (eqBool _ _ _) ?_
    conv => whnf
    refine ⟨_, rfl, wkb ?_⟩
    rw [show (Int.ofNat k).tmod 2 = Int.ofNat (k % 2) from rfl, show (Int.ofNat (k % 2) == 0) = decide (k % 2 = 0) from eqI_dec (k % 2) 0]
    show (true == decide (k % 2 = 0)) = _
    rw [Bool.true_beq]
    exact decide_eq_decide.2 ⟨fun h => .inr (.inl ⟨rfl, h⟩), fun h => by rcases h with h | ⟨_, h⟩ | ⟨h, _⟩ <;> first | exact h | cases h⟩
   ·conv => whnf
    refine sym_eq hq _ (eqBool _ _ _) ?_
    conv => whnf
    refine ⟨_, rfl, wkb ?_⟩
    rw [show (Int.ofNat k).tmod 2 = Int.ofNat (k % 2) from rfl, show (Int.ofNat (k % 2) == 0) = decide (k % 2 = 0) from eqI_dec (k % 2) 0]
    show (false == decide (k % 2 = 0)) = _
    rw [Bool.false_beq]
    by_cases h : k % 2 = 0
    ·rw [decide_eq_true h, decide_eq_false (fun h' => by rcases h' with h' | ⟨h', _⟩ | ⟨_, h'⟩ <;> first | cases h' | omega)]; rfl
    ·rw [decide_eq_false h, decide_eq_true (show letsP 3 k from .inr (.inr ⟨rfl, by omega⟩))]; rfl
  ·rw [show decide (1 ≤ Int.ofNat k ∧ Int.ofNat k ≤ p) = false from decide_eq_false h1]
   conv => whnf
   rw [decide_eq_false fun k => h1 k.1]
   exact ⟨_, rfl, Wk.refl _⟩
end
end Go.Abs.Seat

/-! Trains of a rule. -/
namespace Go.Abs.Seat
noncomputable section
open Go Go.Abs Go.Proofs.Tryz
set_option maxRecDepth 100000
set_option maxHeartbeats 40000000
attribute [local irreducible] pEq

def okL (a b : Int) (l : List Int) : List (Int × Int) → Prop
 | [] => True
 |(x, y) :: r => cutP a b l x ∧ cutP a b l y ∧ okL a b l r
def fitsP (a b p s : Int) (l : List Int) (L : List (Int × Int)) : Prop := manyP p s L.length ∧ okL a b l L ∧ sortedP L

end
end Go.Abs.Seat

/-! Trains of a rule: the program's. -/
namespace Go.Abs.Seat
noncomputable section
open Go Go.Abs Go.Proofs.Tryz
set_option maxRecDepth 100000
set_option maxHeartbeats 40000000
attribute [local irreducible] pEq

theorem fits1 {N : AV} {l : List Int} (h : IL N l) (hl : l.length < 4611686018427387904) (a b : Nat) (p s : Int) (ho : rOk (Int.ofNat a) (Int.ofNat b) p s l) (hs0 : -9223372036854775808 ≤ s ∧ s < 9223372036854775808) (a0 b0 : Int) (iT : Pure prog 63 [pv [(a0, b0)]] (.bool true)) {r : Bool} (hr : r = true ↔ fitsP (Int.ofNat a) (Int.ofNat b) p s l [(a0, b0)]) : Pure prog 31 [rv (Int.ofNat a) (Int.ofNat b) p s N, pv [(a0, b0)]] (.tup [.bool r, iv 0]) := by
 have lN := h.no
 have nx : ¬ fitsP (Int.ofNat a) (Int.ofNat b) p s l [(a0, b0)] → r = false := fun k => bfalse hr k
 have iR := isRule_pure h hl (Int.ofNat a) (Int.ofNat b) p s hs0 (r := true) ⟨fun _ => ho, fun _ => rfl⟩
 have hab : a ≤ b := by have := ho.2.2.1; simp only [Int.ofNat_eq_natCast] at this; omega
 have hb60 : b ≤ 60 := by have := ho.2.1.2; simp only [Int.ofNat_eq_natCast] at this; omega
 have pr := ruled_pure h hl a b hab hb60 p s
 have hs := ho.2.2.2.2.1
 have tl := tth_len l a (b + 1 - a)
 have hc : ∀ x, x ∈ tth_l l a (b + 1 - a) ↔ cutP (Int.ofNat a) (Int.ofNat b) l x := fun x => by
  rw [tth_mem]; unfold cutP; simp only [Int.ofNat_eq_natCast]; constructor
  ·rintro ⟨h1, h2, h3⟩; exact ⟨h3, h1, by omega⟩
  ·rintro ⟨h1, h2, h3⟩; exact ⟨h2, by omega, h1⟩
 generalize tth_l l a (b + 1 - a) = T at pr tl hc
 obtain ⟨bL, lp, iL⟩ := dec_b (lets_pure h T (Int.ofNat a) (Int.ofNat b) p s hs 1)
 have hp : ∀ x, Pure prog 89 [ruv (Int.ofNat a) (Int.ofNat b) p s N (sv T), iv x] (.bool (decide (cutP (Int.ofNat a) (Int.ofNat b) l x))) := fun x => by
  have := has_pure h (Int.ofNat a) (Int.ofNat b) p s T (by omega) x
  rwa [show decide (x ∈ T) = decide (cutP (Int.ofNat a) (Int.ofNat b) l x) from decide_eq_decide.2 (hc x)] at this
 obtain ⟨bS, sp, iS⟩ := dec_b (sorted1 a0 b0)
 obtain ⟨ca0, ha0, ia0⟩ := dec_b (hp a0)
 obtain ⟨cb0, hb0, ib0⟩ := dec_b (hp b0)
 clear hp hc
 have lT := sv_no T
 rcases h.cs with rfl | rfl <;> rcases sv_cases T with ⟨_, eT⟩ | eT
 all_goals
  rw [eT] at pr lp lT ha0 hb0
  refine pure_sym hE rfl (by repeat' (first | exact trivial | assumption | exact flat_no _ | exact (fun _ h => nomatch h) | apply And.intro)) (by repeat' (first | exact trivial | assumption | exact flat_no _ | exact (fun _ h => nomatch h) | apply And.intro)) fun S q pc hS hq hC hE => ?_
  conv => whnf
  refine sym_pure hC (iR) ?_
  conv => whnf
  refine sym_pure hC (iT) ?_
  conv => whnf
  refine sym_pure hC (pr) ?_
  conv => whnf
  by_cases hk : ((1 : Nat) : Int) ≤ p
  case neg =>
   rw [show decide ((([(a0, b0)].length : Nat) : Int) ≤ p) = false from decide_eq_false hk]
   conv => whnf
   rw [nx fun k => hk k.1.1.2]
   exact ⟨_, rfl, Wk.refl _⟩
  rw [show decide ((([(a0, b0)].length : Nat) : Int) ≤ p) = true from decide_eq_true hk]
  conv => whnf
  refine sym_pure hC (lp) ?_
  conv => whnf
  cases bL
  case false =>
   conv => whnf
   rw [nx fun k => nomatch iL.2 k.1.2]
   exact ⟨_, rfl, Wk.refl _⟩
  conv => whnf
  refine sym_pure hC (sp) ?_
  conv => whnf
  cases bS
  case false =>
   conv => whnf
   rw [nx fun k => nomatch iS.2 k.2.2]
   exact ⟨_, rfl, Wk.refl _⟩
  conv => whnf
  refine sym_call hC ?_
  conv => whnf
  refine sym_inline hE hS ?_
  conv => whnf
  refine sym_call hC ?_
  conv => whnf
  refine sym_inline hE hS ?_
  conv => whnf
  refine sym_unroll hE hS ?_
  conv => whnf
  refine sym_call hC ?_
  conv => whnf
  refine sym_inline hE hS ?_
  conv => whnf
  refine sym_pure hC (ha0) ?_
  conv => whnf
  cases ca0
  case false =>
   conv => whnf
   rw [nx fun k => nomatch ia0.2 k.2.1.1]
   exact ⟨_, rfl, Wk.refl _⟩
  conv => whnf
  refine sym_pure hC (hb0) ?_
  conv => whnf
  cases cb0
  case false =>
   conv => whnf
   rw [nx fun k => nomatch ib0.2 k.2.1.2.1]
   exact ⟨_, rfl, Wk.refl _⟩
  conv => whnf
  refine sym_unroll hE hS ?_
  conv => whnf
  rw [hr.2 ⟨⟨⟨(show (1 : Int) ≤ ((1 : Nat) : Int) by decide), hk⟩, iL.1 rfl⟩, ⟨ia0.1 rfl, ib0.1 rfl, trivial⟩, iS.1 rfl⟩]
  exact ⟨_, rfl, Wk.refl _⟩

theorem fits2 {N : AV} {l : List Int} (h : IL N l) (hl : l.length < 4611686018427387904) (a b : Nat) (p s : Int) (ho : rOk (Int.ofNat a) (Int.ofNat b) p s l) (hs0 : -9223372036854775808 ≤ s ∧ s < 9223372036854775808) (a0 b0 a1 b1 : Int) (iT : Pure prog 63 [pv [(a0, b0), (a1, b1)]] (.bool true)) {r : Bool} (hr : r = true ↔ fitsP (Int.ofNat a) (Int.ofNat b) p s l [(a0, b0), (a1, b1)]) : Pure prog 31 [rv (Int.ofNat a) (Int.ofNat b) p s N, pv [(a0, b0), (a1, b1)]] (.tup [.bool r, iv 0]) := by
 have lN := h.no
 have nx : ¬ fitsP (Int.ofNat a) (Int.ofNat b) p s l [(a0, b0), (a1, b1)] → r = false := fun k => bfalse hr k
 have iR := isRule_pure h hl (Int.ofNat a) (Int.ofNat b) p s hs0 (r := true) ⟨fun _ => ho, fun _ => rfl⟩
 have hab : a ≤ b := by have := ho.2.2.1; simp only [Int.ofNat_eq_natCast] at this; omega
 have hb60 : b ≤ 60 := by have := ho.2.1.2; simp only [Int.ofNat_eq_natCast] at this; omega
 have pr := ruled_pure h hl a b hab hb60 p s
 have hs := ho.2.2.2.2.1
 have tl := tth_len l a (b + 1 - a)
 have hc : ∀ x, x ∈ tth_l l a (b + 1 - a) ↔ cutP (Int.ofNat a) (Int.ofNat b) l x := fun x => by
  rw [tth_mem]; unfold cutP; simp only [Int.ofNat_eq_natCast]; constructor
  ·rintro ⟨h1, h2, h3⟩; exact ⟨h3, h1, by omega⟩
  ·rintro ⟨h1, h2, h3⟩; exact ⟨h2, by omega, h1⟩
 generalize tth_l l a (b + 1 - a) = T at pr tl hc
 obtain ⟨bL, lp, iL⟩ := dec_b (lets_pure h T (Int.ofNat a) (Int.ofNat b) p s hs 2)
 have hp : ∀ x, Pure prog 89 [ruv (Int.ofNat a) (Int.ofNat b) p s N (sv T), iv x] (.bool (decide (cutP (Int.ofNat a) (Int.ofNat b) l x))) := fun x => by
  have := has_pure h (Int.ofNat a) (Int.ofNat b) p s T (by omega) x
  rwa [show decide (x ∈ T) = decide (cutP (Int.ofNat a) (Int.ofNat b) l x) from decide_eq_decide.2 (hc x)] at this
 obtain ⟨bS, sp, iS⟩ := dec_b (sorted2 a0 b0 a1 b1)
 obtain ⟨ca0, ha0, ia0⟩ := dec_b (hp a0)
 obtain ⟨cb0, hb0, ib0⟩ := dec_b (hp b0)
 obtain ⟨ca1, ha1, ia1⟩ := dec_b (hp a1)
 obtain ⟨cb1, hb1, ib1⟩ := dec_b (hp b1)
 clear hp hc
 have lT := sv_no T
 rcases h.cs with rfl | rfl <;> rcases sv_cases T with ⟨_, eT⟩ | eT
 all_goals
  rw [eT] at pr lp lT ha0 hb0 ha1 hb1
  refine pure_sym hE rfl (by repeat' (first | exact trivial | assumption | exact flat_no _ | exact (fun _ h => nomatch h) | apply And.intro)) (by repeat' (first | exact trivial | assumption | exact flat_no _ | exact (fun _ h => nomatch h) | apply And.intro)) fun S q pc hS hq hC hE => ?_
  conv => whnf
  refine sym_pure hC (iR) ?_
  conv => whnf
  refine sym_pure hC (iT) ?_
  conv => whnf
  refine sym_pure hC (pr) ?_
  conv => whnf
  by_cases hk : ((2 : Nat) : Int) ≤ p
  case neg =>
   rw [show decide ((([(a0, b0), (a1, b1)].length : Nat) : Int) ≤ p) = false from decide_eq_false hk]
   conv => whnf
   rw [nx fun k => hk k.1.1.2]
   exact ⟨_, rfl, Wk.refl _⟩
  rw [show decide ((([(a0, b0), (a1, b1)].length : Nat) : Int) ≤ p) = true from decide_eq_true hk]
  conv => whnf
  refine sym_pure hC (lp) ?_
  conv => whnf
  cases bL
  case false =>
   conv => whnf
   rw [nx fun k => nomatch iL.2 k.1.2]
   exact ⟨_, rfl, Wk.refl _⟩
  conv => whnf
  refine sym_pure hC (sp) ?_
  conv => whnf
  cases bS
  case false =>
   conv => whnf
   rw [nx fun k => nomatch iS.2 k.2.2]
   exact ⟨_, rfl, Wk.refl _⟩
  conv => whnf
  refine sym_call hC ?_
  conv => whnf
  refine sym_inline hE hS ?_
  conv => whnf
  refine sym_call hC ?_
  conv => whnf
  refine sym_inline hE hS ?_
  conv => whnf
  refine sym_unroll hE hS ?_
  conv => whnf
  refine sym_call hC ?_
  conv => whnf
  refine sym_inline hE hS ?_
  conv => whnf
  refine sym_pure hC (ha0) ?_
  conv => whnf
  cases ca0
  case false =>
   conv => whnf
   rw [nx fun k => nomatch ia0.2 k.2.1.1]
   exact ⟨_, rfl, Wk.refl _⟩
  conv => whnf
  refine sym_pure hC (hb0) ?_
  conv => whnf
  cases cb0
  case false =>
   conv => whnf
   rw [nx fun k => nomatch ib0.2 k.2.1.2.1]
   exact ⟨_, rfl, Wk.refl _⟩
  conv => whnf
  refine sym_unroll hE hS ?_
  conv => whnf
  refine sym_call hC ?_
  conv => whnf
  refine sym_inline hE hS ?_
  conv => whnf
  refine sym_pure hC (ha1) ?_
  conv => whnf
  cases ca1
  case false =>
   conv => whnf
   rw [nx fun k => nomatch ia1.2 k.2.1.2.2.1]
   exact ⟨_, rfl, Wk.refl _⟩
  conv => whnf
  refine sym_pure hC (hb1) ?_
  conv => whnf
  cases cb1
  case false =>
   conv => whnf
   rw [nx fun k => nomatch ib1.2 k.2.1.2.2.2.1]
   exact ⟨_, rfl, Wk.refl _⟩
  conv => whnf
  refine sym_unroll hE hS ?_
  conv => whnf
  rw [hr.2 ⟨⟨⟨(show (1 : Int) ≤ ((2 : Nat) : Int) by decide), hk⟩, iL.1 rfl⟩, ⟨ia0.1 rfl, ib0.1 rfl, ⟨ia1.1 rfl, ib1.1 rfl, trivial⟩⟩, iS.1 rfl⟩]
  exact ⟨_, rfl, Wk.refl _⟩

theorem fits3 {N : AV} {l : List Int} (h : IL N l) (hl : l.length < 4611686018427387904) (a b : Nat) (p s : Int) (ho : rOk (Int.ofNat a) (Int.ofNat b) p s l) (hs0 : -9223372036854775808 ≤ s ∧ s < 9223372036854775808) (a0 b0 a1 b1 a2 b2 : Int) (iT : Pure prog 63 [pv [(a0, b0), (a1, b1), (a2, b2)]] (.bool true)) {r : Bool} (hr : r = true ↔ fitsP (Int.ofNat a) (Int.ofNat b) p s l [(a0, b0), (a1, b1), (a2, b2)]) : Pure prog 31 [rv (Int.ofNat a) (Int.ofNat b) p s N, pv [(a0, b0), (a1, b1), (a2, b2)]] (.tup [.bool r, iv 0]) := by
 have lN := h.no
 have nx : ¬ fitsP (Int.ofNat a) (Int.ofNat b) p s l [(a0, b0), (a1, b1), (a2, b2)] → r = false := fun k => bfalse hr k
 have iR := isRule_pure h hl (Int.ofNat a) (Int.ofNat b) p s hs0 (r := true) ⟨fun _ => ho, fun _ => rfl⟩
 have hab : a ≤ b := by have := ho.2.2.1; simp only [Int.ofNat_eq_natCast] at this; omega
 have hb60 : b ≤ 60 := by have := ho.2.1.2; simp only [Int.ofNat_eq_natCast] at this; omega
 have pr := ruled_pure h hl a b hab hb60 p s
 have hs := ho.2.2.2.2.1
 have tl := tth_len l a (b + 1 - a)
 have hc : ∀ x, x ∈ tth_l l a (b + 1 - a) ↔ cutP (Int.ofNat a) (Int.ofNat b) l x := fun x => by
  rw [tth_mem]; unfold cutP; simp only [Int.ofNat_eq_natCast]; constructor
  ·rintro ⟨h1, h2, h3⟩; exact ⟨h3, h1, by omega⟩
  ·rintro ⟨h1, h2, h3⟩; exact ⟨h2, by omega, h1⟩
 generalize tth_l l a (b + 1 - a) = T at pr tl hc
 obtain ⟨bL, lp, iL⟩ := dec_b (lets_pure h T (Int.ofNat a) (Int.ofNat b) p s hs 3)
 have hp : ∀ x, Pure prog 89 [ruv (Int.ofNat a) (Int.ofNat b) p s N (sv T), iv x] (.bool (decide (cutP (Int.ofNat a) (Int.ofNat b) l x))) := fun x => by
  have := has_pure h (Int.ofNat a) (Int.ofNat b) p s T (by omega) x
  rwa [show decide (x ∈ T) = decide (cutP (Int.ofNat a) (Int.ofNat b) l x) from decide_eq_decide.2 (hc x)] at this
 obtain ⟨bS, sp, iS⟩ := dec_b (sorted3 a0 b0 a1 b1 a2 b2)
 obtain ⟨ca0, ha0, ia0⟩ := dec_b (hp a0)
 obtain ⟨cb0, hb0, ib0⟩ := dec_b (hp b0)
 obtain ⟨ca1, ha1, ia1⟩ := dec_b (hp a1)
 obtain ⟨cb1, hb1, ib1⟩ := dec_b (hp b1)
 obtain ⟨ca2, ha2, ia2⟩ := dec_b (hp a2)
 obtain ⟨cb2, hb2, ib2⟩ := dec_b (hp b2)
 clear hp hc
 have lT := sv_no T
 rcases h.cs with rfl | rfl <;> rcases sv_cases T with ⟨_, eT⟩ | eT
 all_goals
  rw [eT] at pr lp lT ha0 hb0 ha1 hb1 ha2 hb2
  refine pure_sym hE rfl (by repeat' (first | exact trivial | assumption | exact flat_no _ | exact (fun _ h => nomatch h) | apply And.intro)) (by repeat' (first | exact trivial | assumption | exact flat_no _ | exact (fun _ h => nomatch h) | apply And.intro)) fun S q pc hS hq hC hE => ?_
  conv => whnf
  refine sym_pure hC (iR) ?_
  conv => whnf
  refine sym_pure hC (iT) ?_
  conv => whnf
  refine sym_pure hC (pr) ?_
  conv => whnf
  by_cases hk : ((3 : Nat) : Int) ≤ p
  case neg =>
   rw [show decide ((([(a0, b0), (a1, b1), (a2, b2)].length : Nat) : Int) ≤ p) = false from decide_eq_false hk]
   conv => whnf
   rw [nx fun k => hk k.1.1.2]
   exact ⟨_, rfl, Wk.refl _⟩
  rw [show decide ((([(a0, b0), (a1, b1), (a2, b2)].length : Nat) : Int) ≤ p) = true from decide_eq_true hk]
  conv => whnf
  refine sym_pure hC (lp) ?_
  conv => whnf
  cases bL
  case false =>
   conv => whnf
   rw [nx fun k => nomatch iL.2 k.1.2]
   exact ⟨_, rfl, Wk.refl _⟩
  conv => whnf
  refine sym_pure hC (sp) ?_
  conv => whnf
  cases bS
  case false =>
   conv => whnf
   rw [nx fun k => nomatch iS.2 k.2.2]
   exact ⟨_, rfl, Wk.refl _⟩
  conv => whnf
  refine sym_call hC ?_
  conv => whnf
  refine sym_inline hE hS ?_
  conv => whnf
  refine sym_call hC ?_
  conv => whnf
  refine sym_inline hE hS ?_
  conv => whnf
  refine sym_unroll hE hS ?_
  conv => whnf
  refine sym_call hC ?_
  conv => whnf
  refine sym_inline hE hS ?_
  conv => whnf
  refine sym_pure hC (ha0) ?_
  conv => whnf
  cases ca0
  case false =>
   conv => whnf
   rw [nx fun k => nomatch ia0.2 k.2.1.1]
   exact ⟨_, rfl, Wk.refl _⟩
  conv => whnf
  refine sym_pure hC (hb0) ?_
  conv => whnf
  cases cb0
  case false =>
   conv => whnf
   rw [nx fun k => nomatch ib0.2 k.2.1.2.1]
   exact ⟨_, rfl, Wk.refl _⟩
  conv => whnf
  refine sym_unroll hE hS ?_
  conv => whnf
  refine sym_call hC ?_
  conv => whnf
  refine sym_inline hE hS ?_
  conv => whnf
  refine sym_pure hC (ha1) ?_
  conv => whnf
  cases ca1
  case false =>
   conv => whnf
   rw [nx fun k => nomatch ia1.2 k.2.1.2.2.1]
   exact ⟨_, rfl, Wk.refl _⟩
  conv => whnf
  refine sym_pure hC (hb1) ?_
  conv => whnf
  cases cb1
  case false =>
   conv => whnf
   rw [nx fun k => nomatch ib1.2 k.2.1.2.2.2.1]
   exact ⟨_, rfl, Wk.refl _⟩
  conv => whnf
  refine sym_unroll hE hS ?_
  conv => whnf
  refine sym_call hC ?_
  conv => whnf
  refine sym_inline hE hS ?_
  conv => whnf
  refine sym_pure hC (ha2) ?_
  conv => whnf
  cases ca2
  case false =>
   conv => whnf
   rw [nx fun k => nomatch ia2.2 k.2.1.2.2.2.2.1]
   exact ⟨_, rfl, Wk.refl _⟩
  conv => whnf
  refine sym_pure hC (hb2) ?_
  conv => whnf
  cases cb2
  case false =>
   conv => whnf
   rw [nx fun k => nomatch ib2.2 k.2.1.2.2.2.2.2.1]
   exact ⟨_, rfl, Wk.refl _⟩
  conv => whnf
  refine sym_unroll hE hS ?_
  conv => whnf
  rw [hr.2 ⟨⟨⟨(show (1 : Int) ≤ ((3 : Nat) : Int) by decide), hk⟩, iL.1 rfl⟩, ⟨ia0.1 rfl, ib0.1 rfl, ⟨ia1.1 rfl, ib1.1 rfl, ⟨ia2.1 rfl, ib2.1 rfl, trivial⟩⟩⟩, iS.1 rfl⟩]
  exact ⟨_, rfl, Wk.refl _⟩

end
end Go.Abs.Seat

/-! Trains of a rule, of whatever lists. -/
namespace Go.Abs.Seat
open Go Go.Abs Go.Proofs.Tryz
set_option maxRecDepth 100000
set_option maxHeartbeats 40000000
attribute [local irreducible] IntKind.wrap pEq

def PQ (v : AV) (l : List (Int × Int)) : Prop := v = .nils ∧ l = [] ∨ v = pv l
theorem PQ.no {v : AV} {l : List (Int × Int)} (h : PQ v l) : Live noL v := by
 rcases h with ⟨rfl, _⟩ | rfl
 ·trivial
 ·exact pv_no l
theorem PQ.tr {v : AV} {l : List (Int × Int)} (h : PQ v l) : (∃ x y, TV v l.length x y) ∨ TN v l.length := by
 rcases h with ⟨rfl, rfl⟩ | rfl
 ·exact .inr tn_nils
 ·exact train_or l

theorem rOk_nat {a b p s : Int} {l : List Int} (h : rOk a b p s l) : ∃ a' b' : Nat, a = Int.ofNat a' ∧ b = Int.ofNat b' ∧ 4 ≤ a' ∧ a' ≤ b' ∧ b' ≤ 60 := by
 obtain ⟨⟨h1, h2⟩, ⟨h3, h4⟩, h5, _⟩ := h
 refine ⟨a.toNat, b.toNat, ?_, ?_, ?_, ?_, ?_⟩
 ·show a = ((a.toNat : Nat) : Int); omega
 ·show b = ((b.toNat : Nat) : Int); omega
 ·omega
 ·omega
 ·omega

theorem rule_b {N : AV} {l : List Int} (h : IL N l) (hl : l.length < 4611686018427387904) (a b p s : Int) (hs : -9223372036854775808 ≤ s ∧ s < 9223372036854775808) :
  ∃ r, Pure prog 82 [rv a b p s N] (.bool r) ∧ Pure prog 32 [rv a b p s N] (.bool r) ∧ (r = true ↔ rOk a b p s l) := by
 have hd := Classical.propDecidable (rOk a b p s l)
 exact ⟨decide (rOk a b p s l), isRule_pure h hl a b p s hs decide_eq_true_iff, rRule_pure h hl a b p s decide_eq_true_iff, decide_eq_true_iff⟩

end Go.Abs.Seat

/-! The first train of some pairs: plain. -/
namespace Go.Abs.Seat

def ltQ (p q : Nat × Nat) : Prop := p.1 < q.1 ∨ p.1 = q.1 ∧ p.2 < q.2
instance (p q) : Decidable (ltQ p q) := by unfold ltQ; infer_instance
theorem ltQ_irr (p) : ¬ ltQ p p := by unfold ltQ; omega
theorem ltQ_trans {p q r} (h : ltQ p q) (k : ltQ q r) : ltQ p r := by unfold ltQ at *; omega
theorem ltQ_tri (p q : Nat × Nat) : ltQ p q ∨ p = q ∨ ltQ q p := by
 obtain ⟨a, b⟩ := p
 obtain ⟨c, d⟩ := q
 unfold ltQ
 simp only [Prod.mk.injEq]
 omega

def ltL : List (Nat × Nat) → List (Nat × Nat) → Prop
 |p :: r, q :: s => ltQ p q ∨ p = q ∧ ltL r s
 | _, _ => False
theorem ltL_trans : ∀ {a b c : List (Nat × Nat)}, ltL a b → ltL b c → ltL a c
 |p :: r, q :: s, o :: t, h, k => by
  rcases h with h | ⟨rfl, h⟩
  ·rcases k with k | ⟨rfl, _⟩
   ·exact .inl (ltQ_trans h k)
   ·exact .inl h
  ·rcases k with k | ⟨rfl, k⟩
   ·exact .inl k
   ·exact .inr ⟨rfl, ltL_trans h k⟩
 | [], _, _, h, _ => by simp [ltL] at h
 | _ :: _, [], _, h, _ => by simp [ltL] at h
 | _ :: _, _ :: _, [], _, k => by simp [ltL] at k
theorem ltL_tri : ∀ {a b : List (Nat × Nat)}, a.length = b.length → ltL a b ∨ a = b ∨ ltL b a
 | [], [], _ => .inr (.inl rfl)
 |p :: r, q :: s, h => by
  rcases ltQ_tri p q with k | rfl | k
  ·exact .inl (.inl k)
  ·rcases ltL_tri (a := r) (b := s) (by simpa using h) with k | rfl | k
   ·exact .inl (.inr ⟨rfl, k⟩)
   ·exact .inr (.inl rfl)
   ·exact .inr (.inr (.inr ⟨rfl, k⟩))
  ·exact .inr (.inr (.inl k))
 | [], _ :: _, h => by cases h
 | _ :: _, [], h => by cases h
theorem ltL_irr : ∀ a, ¬ ltL a a
 | [], h => h
 |p :: r, h => by
  rcases h with h | ⟨_, h⟩
  ·exact ltQ_irr p h
  ·exact ltL_irr r h

def Vt (tp : Nat → Prop) : Nat → Nat → Nat → Nat × Nat → List (Nat × Nat) → Prop
 | 0, X, Y, _, [] => X = 1 ∧ Y = 1
 | 0, _, _, _, _ :: _ => False
 | _ + 1, _, _, _, [] => False
 |k + 1, X, Y, f, p :: t => (tp p.1 ∧ tp p.2 ∧ ¬ ltQ p f) ∧ (X % p.1 = 0 ∧ Y % p.2 = 0) ∧ Vt tp k (X / p.1) (Y / p.2) p t
theorem Vt_len {tp : Nat → Prop} : ∀ {k X Y : Nat} {f : Nat × Nat} {t : List (Nat × Nat)}, Vt tp k X Y f t → t.length = k
 | 0, _, _, _, [], _ => rfl
 | 0, _, _, _, _ :: _, h => by simp [Vt] at h
 | _ + 1, _, _, _, [], h => by simp [Vt] at h
 |k + 1, _, _, _, p :: t, h => by
  rw [Vt] at h
  rw [List.length_cons, Vt_len h.2.2]

def Vmin (tp : Nat → Prop) (k X Y : Nat) (f : Nat × Nat) (t : List (Nat × Nat)) : Prop := Vt tp k X Y f t ∧ ∀ u, Vt tp k X Y f u → ¬ ltL u t
theorem Vmin_uniq {tp : Nat → Prop} {k X Y : Nat} {f : Nat × Nat} {t u : List (Nat × Nat)} (h : Vmin tp k X Y f t) (g : Vmin tp k X Y f u) : t = u := by
 rcases ltL_tri (a := t) (b := u) ((Vt_len h.1).trans (Vt_len g.1).symm) with e | e | e
 ·exact absurd e (g.2 t h.1)
 ·exact e
 ·exact absurd e (h.2 u g.1)

theorem least_pair {q : Nat × Nat → Prop} (hq : ∀ p, q p → p.2 ≤ 60) : ∀ (n : Nat) (p : Nat × Nat), q p → p.1 * 61 + p.2 ≤ n → ∃ m, q m ∧ ∀ u, q u → ¬ ltQ u m := by
 intro n
 induction n using Nat.strongRecOn with
 |ind n ih =>
  intro p hp hn
  by_cases h : ∃ u, q u ∧ ltQ u p
  ·obtain ⟨u, h1, h2⟩ := h
   have h3 := hq u h1
   have : u.1 * 61 + u.2 < p.1 * 61 + p.2 := by unfold ltQ at h2; omega
   exact ih (u.1 * 61 + u.2) (by omega) u h1 (Nat.le_refl _)
  ·exact ⟨p, hp, fun u h1 h2 => h ⟨u, h1, h2⟩⟩
theorem Vmin_ex {tp : Nat → Prop} (ht : ∀ n, tp n → n ≤ 60) : ∀ {k X Y : Nat} {f : Nat × Nat} {t : List (Nat × Nat)}, Vt tp k X Y f t → ∃ m, Vmin tp k X Y f m
 | 0, _, _, _, [], h => ⟨[], h, fun u _ k => by cases u <;> simp [ltL] at k⟩
 | 0, _, _, _, _ :: _, h => by simp [Vt] at h
 | _ + 1, _, _, _, [], h => by simp [Vt] at h
 |k + 1, X, Y, f, p :: t, h => by
  obtain ⟨m, ⟨s, hm⟩, hmin⟩ := least_pair (q := fun p => ∃ s, Vt tp (k + 1) X Y f (p :: s)) (fun p ⟨s, h⟩ => by rw [Vt] at h; exact ht _ h.1.2.1) _ p ⟨t, h⟩ (Nat.le_refl _)
  have hm2 := hm
  rw [Vt] at hm2
  obtain ⟨r, hr1, hr2⟩ := Vmin_ex ht hm2.2.2
  refine ⟨m :: r, by rw [Vt]; exact ⟨hm2.1, hm2.2.1, hr1⟩, fun u hu hlt => ?_⟩
  cases u with
  |nil => simp [Vt] at hu
  |cons q u =>
   rcases hlt with h1 | ⟨rfl, h1⟩
   ·exact hmin q ⟨u, hu⟩ h1
   ·rw [Vt] at hu
    exact hr2 u hu.2.2 h1

noncomputable def fstT (tp : Nat → Prop) (k X Y : Nat) (f : Nat × Nat) : Option (List (Nat × Nat)) :=
 @dite _ (∃ t, Vmin tp k X Y f t) (Classical.propDecidable _) (fun h => some h.choose) (fun _ => none)
theorem fstT_some {tp : Nat → Prop} {k X Y : Nat} {f : Nat × Nat} {t : List (Nat × Nat)} (h : Vmin tp k X Y f t) : fstT tp k X Y f = some t := by
 unfold fstT
 rw [dif_pos ⟨t, h⟩, Vmin_uniq (Exists.choose_spec (⟨t, h⟩ : ∃ t, Vmin tp k X Y f t)) h]
theorem fstT_none {tp : Nat → Prop} {k X Y : Nat} {f : Nat × Nat} (h : ∀ t, ¬ Vt tp k X Y f t) : fstT tp k X Y f = none := by
 unfold fstT
 rw [dif_neg fun ⟨t, ht⟩ => h t ht.1]
theorem fstT_of_some {tp : Nat → Prop} {k X Y : Nat} {f : Nat × Nat} {t : List (Nat × Nat)} (h : fstT tp k X Y f = some t) : Vmin tp k X Y f t := by
 unfold fstT at h
 by_cases e : ∃ t, Vmin tp k X Y f t
 ·rw [dif_pos e] at h
  cases h
  exact e.choose_spec
 ·rw [dif_neg e] at h; cases h
theorem fstT_of_none {tp : Nat → Prop} (ht : ∀ n, tp n → n ≤ 60) {k X Y : Nat} {f : Nat × Nat} (h : fstT tp k X Y f = none) (t : List (Nat × Nat)) : ¬ Vt tp k X Y f t := fun hv => by
 obtain ⟨m, hm⟩ := Vmin_ex ht hv
 rw [fstT_some hm] at h
 cases h

theorem fst_found {tp : Nat → Prop} {k X Y : Nat} {f p : Nat × Nat} {t : List (Nat × Nat)} (h1 : (tp p.1 ∧ tp p.2 ∧ ¬ ltQ p f) ∧ (X % p.1 = 0 ∧ Y % p.2 = 0)) (h2 : fstT tp k (X / p.1) (Y / p.2) p = some t)
  (hno : ∀ q u, ltQ q p → ¬ Vt tp (k + 1) X Y f (q :: u)) : fstT tp (k + 1) X Y f = some (p :: t) := by
 have hm := fstT_of_some h2
 apply fstT_some
 refine ⟨by rw [Vt]; exact ⟨h1.1, h1.2, hm.1⟩, fun u hu hlt => ?_⟩
 cases u with
 |nil => simp [Vt] at hu
 |cons q u =>
  rcases hlt with h | ⟨rfl, h⟩
  ·exact hno q u h hu
  ·rw [Vt] at hu
   exact hm.2 u hu.2.2 h
theorem fst_not {tp : Nat → Prop} (ht : ∀ n, tp n → n ≤ 60) {k X Y : Nat} {f p : Nat × Nat} (h2 : fstT tp k (X / p.1) (Y / p.2) p = none) (u : List (Nat × Nat)) : ¬ Vt tp (k + 1) X Y f (p :: u) := fun h => by
 rw [Vt] at h
 exact fstT_of_none ht h2 u h.2.2
end Go.Abs.Seat

/-! Products of teeth; which fractions of such products are nearest: plain. -/
namespace Go.Abs.Seat

def prodP (p : Nat → Prop) : Nat → Nat → Prop
 | 0, x => x = 1
 |k + 1, x => ∃ y n, prodP p k y ∧ p n ∧ x = y * n
noncomputable def lstP (p : Nat → Prop) : Nat → List Nat
 | 0 => []
 |n + 1 => @ite _ (p n) (Classical.propDecidable _) (lstP p n ++ [n]) (lstP p n)
theorem lstP_mem (p : Nat → Prop) (x : Nat) : ∀ n, x ∈ lstP p n ↔ x < n ∧ p x
 | 0 => ⟨fun h => (nomatch h), fun h => absurd h.1 (Nat.not_lt_zero _)⟩
 |n + 1 => by
  have ih := lstP_mem p x n
  rw [lstP]
  split
  ·rename_i hp
   rw [List.mem_append, ih, List.mem_singleton]
   constructor
   ·rintro (⟨h1, h2⟩ | rfl)
    ·exact ⟨by omega, h2⟩
    ·exact ⟨by omega, hp⟩
   ·rintro ⟨h1, h2⟩
    by_cases e : x = n
    ·exact .inr e
    ·exact .inl ⟨by omega, h2⟩
  ·rename_i hp
   rw [ih]
   constructor
   ·rintro ⟨h1, h2⟩; exact ⟨by omega, h2⟩
   ·rintro ⟨h1, h2⟩
    exact ⟨by have : x ≠ n := fun e => hp (e ▸ h2); omega, h2⟩
theorem lstP_len (p : Nat → Prop) : ∀ n, (lstP p n).length ≤ n
 | 0 => Nat.le_refl 0
 |n + 1 => by
  have := lstP_len p n
  rw [lstP]
  split
  ·rw [List.length_append, List.length_singleton]; omega
  ·omega
theorem lstP_one : ∀ n, lstP (fun x => x = 1) (n + 2) = [1]
 | 0 => by rw [lstP, lstP, lstP, if_pos rfl, if_neg (by decide)]; rfl
 |n + 1 => by rw [lstP, lstP_one n, if_neg (by omega)]
theorem prod_zero (p : Nat → Prop) : prodP p 0 = fun x => x = 1 := by funext x; rw [prodP]
theorem prod_le {p : Nat → Prop} (hp : ∀ n, p n → 1 ≤ n ∧ n ≤ 60) : ∀ (k x : Nat), prodP p k x → 1 ≤ x ∧ x ≤ 60 ^ k
 | 0, x, h => by rw [prodP] at h; subst h; exact ⟨Nat.le_refl _, Nat.le_refl _⟩
 |k + 1, x, h => by
  rw [prodP] at h
  obtain ⟨y, n, h1, h2, rfl⟩ := h
  have h3 := prod_le hp k y h1
  have h4 := hp n h2
  refine ⟨Nat.mul_pos h3.1 h4.1, ?_⟩
  rw [Nat.pow_succ]
  exact Nat.mul_le_mul h3.2 h4.2

def gn (l : List Nat) (i : Nat) : Nat := l.getD i 0
theorem take_gn (l : List Nat) {i : Nat} (h : i < l.length) : l.take (i + 1) = l.take i ++ [gn l i] := by
 rw [List.take_succ_eq_append_getElem h]
 simp [gn, List.getD, h]
theorem gn_mem (l : List Nat) {i : Nat} (h : i < l.length) : gn l i ∈ l := by
 have e : gn l i = l[i] := by simp [gn, List.getD, h]
 rw [e]; exact List.getElem_mem h
theorem mem_gn {l : List Nat} {x : Nat} (h : x ∈ l) : ∃ i, i < l.length ∧ gn l i = x := by
 obtain ⟨i, hi, e⟩ := List.getElem_of_mem h
 exact ⟨i, hi, by simp [gn, List.getD, hi, e]⟩
theorem gn_app1 (l m : List Nat) {i : Nat} (h : i < l.length) : gn (l ++ m) i = gn l i := by
 simp [gn, List.getD, List.getElem?_append_left h]
theorem gn_app2 (l : List Nat) (x : Nat) : gn (l ++ [x]) l.length = x := by
 simp [gn, List.getD]

def Srt (l : List Nat) : Prop := ∀ i j, i < j → j < l.length → gn l i < gn l j
theorem lstP_srt (p : Nat → Prop) : ∀ n, Srt (lstP p n)
 | 0 => fun i j _ h => absurd h (Nat.not_lt_zero _)
 |n + 1 => by
  have ih := lstP_srt p n
  rw [lstP]
  split
  ·intro i j hij hj
   rw [List.length_append, List.length_singleton] at hj
   rw [gn_app1 _ _ (by omega)]
   by_cases e : j = (lstP p n).length
   ·subst e
    rw [gn_app2]
    have := gn_mem (lstP p n) (i := i) hij
    exact ((lstP_mem p _ n).1 this).1
   ·rw [gn_app1 _ _ (by omega)]
    exact ih i j hij (by omega)
  ·exact ih
theorem Srt.le {l : List Nat} (h : Srt l) {i j : Nat} (hij : i ≤ j) (hj : j < l.length) : gn l i ≤ gn l j := by
 by_cases e : i = j
 ·subst e; exact Nat.le_refl _
 ·exact Nat.le_of_lt (h i j (by omega) hj)

def cntB (n w : Nat) : List Nat → Nat
 | [] => 0
 |y :: r => if y * n < w then cntB n w r + 1 else 0
theorem cnt_le (n w : Nat) : ∀ l, cntB n w l ≤ l.length
 | [] => Nat.le_refl 0
 |y :: r => by
  have := cnt_le n w r
  rw [cntB, List.length_cons]
  split <;> omega
theorem cnt_lt (n w : Nat) : ∀ (l : List Nat) (i : Nat), i < cntB n w l → gn l i * n < w
 | [], _, h => absurd h (Nat.not_lt_zero _)
 |y :: r, i, h => by
  rw [cntB] at h
  split at h
  ·rename_i k
   cases i with
   |zero => exact k
   |succ i => exact cnt_lt n w r i (by omega)
  ·omega
theorem cnt_at (n w : Nat) : ∀ (l : List Nat), cntB n w l < l.length → ¬ gn l (cntB n w l) * n < w
 | [], h => absurd h (Nat.not_lt_zero _)
 |y :: r, h => by
  rw [cntB] at h ⊢
  split
  ·rename_i k
   rw [if_pos k, List.length_cons] at h
   exact cnt_at n w r (by omega)
  ·rename_i k
   exact k
theorem cnt_ge {n w : Nat} {l : List Nat} (hs : Srt l) {i : Nat} (h1 : cntB n w l ≤ i) (h2 : i < l.length) : ¬ gn l i * n < w := by
 have h3 := cnt_at n w l (by omega)
 have h4 := Nat.mul_le_mul_right n (hs.le h1 h2)
 omega

def gp (a b : Nat) : Nat := (a - b) + (b - a)
theorem gp_mul (g a b : Nat) : gp (g * a) (g * b) = g * gp a b := by
 unfold gp
 rw [Nat.mul_add, Nat.mul_sub, Nat.mul_sub]
def dQ (N D : Nat) (q : Nat × Nat) : Nat × Nat := (gp (q.1 * D) (N * q.2), q.2)
def fle (e e' : Nat × Nat) : Prop := e.1 * e'.2 ≤ e'.1 * e.2
instance (e e') : Decidable (fle e e') := by unfold fle; infer_instance
theorem fle_rfl (e : Nat × Nat) : fle e e := Nat.le_refl _
theorem fle_tot (e f : Nat × Nat) : fle e f ∨ fle f e := Nat.le_total _ _
theorem fle_tr {a b c : Nat × Nat} (hb : 1 ≤ b.2) (h : fle a b) (k : fle b c) : fle a c := by
 unfold fle at *
 have h1 := Nat.mul_le_mul_right c.2 h
 have h2 := Nat.mul_le_mul_right a.2 k
 have e1 : a.1 * b.2 * c.2 = b.2 * (a.1 * c.2) := by ac_rfl
 have e2 : b.1 * a.2 * c.2 = b.1 * c.2 * a.2 := by ac_rfl
 have e3 : c.1 * b.2 * a.2 = b.2 * (c.1 * a.2) := by ac_rfl
 rw [e1, e2] at h1
 rw [e3] at h2
 exact Nat.le_of_mul_le_mul_left (Nat.le_trans h1 h2) hb

def redF (x y : Nat) : Nat × Nat := (x / Nat.gcd x y, y / Nat.gcd x y)
theorem redF_g {x y : Nat} (hy : 1 ≤ y) : 1 ≤ Nat.gcd x y ∧ x = Nat.gcd x y * (redF x y).1 ∧ y = Nat.gcd x y * (redF x y).2 := by
 refine ⟨Nat.gcd_pos_of_pos_right _ hy, ?_, ?_⟩
 ·exact (Nat.mul_div_cancel' (Nat.gcd_dvd_left x y)).symm
 ·exact (Nat.mul_div_cancel' (Nat.gcd_dvd_right x y)).symm
theorem redF_pos {x y : Nat} (hy : 1 ≤ y) : 1 ≤ (redF x y).2 := by
 obtain ⟨_, _, h⟩ := redF_g (x := x) hy
 apply Nat.pos_of_ne_zero
 intro e
 rw [e, Nat.mul_zero] at h
 omega
theorem redF_d {N D x y : Nat} (hy : 1 ≤ y) : fle (dQ N D (redF x y)) (dQ N D (x, y)) ∧ fle (dQ N D (x, y)) (dQ N D (redF x y)) := by
 obtain ⟨_, h1, h2⟩ := redF_g (x := x) hy
 have e : gp (x * D) (N * y) = Nat.gcd x y * gp ((redF x y).1 * D) (N * (redF x y).2) := by
  rw [← gp_mul]
  congr 1
  ·rw [← Nat.mul_assoc, ← h1]
  ·rw [Nat.mul_left_comm, ← h2]
 have e2 : gp ((redF x y).1 * D) (N * (redF x y).2) * y = gp (x * D) (N * y) * (redF x y).2 := by
  rw [e, Nat.mul_comm (Nat.gcd x y), Nat.mul_assoc, ← h2]
 exact ⟨Nat.le_of_eq e2, Nat.le_of_eq e2.symm⟩

abbrev NS := List (Nat × Nat) × (Nat × Nat)
def cand (N D : Nat) (s : NS) (q : Nat × Nat) : NS :=
 if s.1 = [] ∨ (dQ N D q).1 * s.2.2 < s.2.1 * (dQ N D q).2 then ([q], dQ N D q)
 else if (dQ N D q).1 * s.2.2 = s.2.1 * (dQ N D q).2 ∧ q ∉ s.1 then (s.1 ++ [q], s.2) else s
def candL (N D : Nat) (l : List (Nat × Nat)) : NS := l.foldl (cand N D) ([], (0, 0))

structure CInv (N D : Nat) (L : List (Nat × Nat)) (s : NS) : Prop where
 lp : ∀ q, q ∈ L → 1 ≤ q.2
 nil : s.1 = [] ↔ L = []
 mem : ∀ q, q ∈ s.1 → q ∈ L ∧ fle (dQ N D q) s.2 ∧ fle s.2 (dQ N D q)
 all : ∀ q, q ∈ L → fle s.2 (dQ N D q) ∧ (fle (dQ N D q) s.2 → q ∈ s.1)
 pos : s.1 ≠ [] → 1 ≤ s.2.2

theorem CInv.step {N D : Nat} {L : List (Nat × Nat)} {s : NS} (h : CInv N D L s) {q : Nat × Nat} (hq : 1 ≤ q.2) : CInv N D (L ++ [q]) (cand N D s q) := by
 have hlp : ∀ p, p ∈ L ++ [q] → 1 ≤ p.2 := fun p hp => by
  rw [List.mem_append, List.mem_singleton] at hp
  rcases hp with hp | rfl
  ·exact h.lp p hp
  ·exact hq
 unfold cand
 split
 ·rename_i hc
  refine ⟨hlp, ⟨fun e => (by cases e), fun e => (by simp at e)⟩, fun p hp => ?_, fun p hp => ?_, fun _ => hq⟩
  ·rw [List.mem_singleton] at hp
   subst hp
   exact ⟨by simp, fle_rfl _, fle_rfl _⟩
  ·rw [List.mem_append, List.mem_singleton] at hp
   rcases hp with hp | rfl
   ·have hs : s.1 ≠ [] := fun e => by rw [h.nil.1 e] at hp; cases hp
    have hlt := hc.resolve_left hs
    have h1 := h.all p hp
    have h2 : fle (dQ N D q) s.2 := Nat.le_of_lt hlt
    exact ⟨fle_tr (h.pos hs) h2 h1.1, fun k => absurd (fle_tr (b := dQ N D p) (h.lp p hp) h1.1 k) (Nat.not_le.2 hlt)⟩
   ·exact ⟨fle_rfl _, fun _ => (by simp)⟩
 ·rename_i hc
  have hs : s.1 ≠ [] := fun e => hc (.inl e)
  have hle : fle s.2 (dQ N D q) := Nat.not_lt.1 fun e => hc (.inr e)
  have hL : L ≠ [] := fun e => hs (h.nil.2 e)
  split
  ·rename_i he
   have he1 : fle (dQ N D q) s.2 := Nat.le_of_eq he.1
   refine ⟨hlp, ⟨fun e => (by simp at e), fun e => (by simp at e)⟩, fun p hp => ?_, fun p hp => ?_, fun _ => h.pos hs⟩
   ·rw [List.mem_append, List.mem_singleton] at hp
    rcases hp with hp | rfl
    ·exact ⟨List.mem_append_left _ (h.mem p hp).1, (h.mem p hp).2⟩
    ·exact ⟨by simp, he1, hle⟩
   ·rw [List.mem_append, List.mem_singleton] at hp
    rcases hp with hp | rfl
    ·exact ⟨(h.all p hp).1, fun k => List.mem_append_left _ ((h.all p hp).2 k)⟩
    ·exact ⟨hle, fun _ => (by simp)⟩
  ·rename_i he
   refine ⟨hlp, ⟨fun e => absurd e hs, fun e => (by simp at e)⟩, fun p hp => ⟨List.mem_append_left _ (h.mem p hp).1, (h.mem p hp).2⟩, fun p hp => ?_, h.pos⟩
   rw [List.mem_append, List.mem_singleton] at hp
   rcases hp with hp | rfl
   ·exact h.all p hp
   ·refine ⟨hle, fun k => ?_⟩
    apply Classical.byContradiction
    intro hn
    exact he ⟨Nat.le_antisymm k hle, hn⟩

theorem candL_app (N D : Nat) (L M : List (Nat × Nat)) : candL N D (L ++ M) = M.foldl (cand N D) (candL N D L) := by
 unfold candL; rw [List.foldl_append]
theorem candL_inv {N D : Nat} {L : List (Nat × Nat)} : (∀ q, q ∈ L → 1 ≤ q.2) → CInv N D L (candL N D L) := by
 suffices ∀ (M L : List (Nat × Nat)) (s : NS), CInv N D L s → (∀ q, q ∈ M → 1 ≤ q.2) → CInv N D (L ++ M) (M.foldl (cand N D) s) by
  intro h
  exact this L [] ([], (0, 0)) ⟨fun _ h => (by cases h), Iff.rfl.trans ⟨fun _ => rfl, fun _ => rfl⟩, fun _ h => (by cases h), fun _ h => (by cases h), fun h => absurd rfl h⟩ h
 intro M
 induction M with
 |nil => intro L s h _; rw [List.append_nil]; exact h
 |cons q M ih =>
  intro L s h hM
  have := ih (L ++ [q]) (cand N D s q) (h.step (hM q (by simp))) fun p hp => hM p (by simp [hp])
  rwa [List.append_assoc] at this

def candsOf (all : List Nat) (N D x : Nat) : List (Nat × Nat) :=
 (if 1 ≤ cntB N (x * D) all then [redF x (gn all (cntB N (x * D) all - 1))] else []) ++ (if cntB N (x * D) all < all.length then [redF x (gn all (cntB N (x * D) all))] else [])
def nearF (all : List Nat) (N D : Nat) : NS := candL N D (all.flatMap (candsOf all N D))

theorem gp_lt {a b : Nat} (h : a ≤ b) : gp a b = b - a := by unfold gp; omega
theorem gp_gt {a b : Nat} (h : a ≤ b) : gp b a = b - a := by unfold gp; omega
theorem far_lo {N D x y z : Nat} (hx : 1 ≤ x * D) (h1 : z * N ≤ x * D) (h2 : y < z) : ¬ fle (dQ N D (x, y)) (dQ N D (x, z)) := by
 unfold fle dQ
 simp only
 rw [Nat.mul_comm z N] at h1
 have h3 : N * y ≤ N * z := Nat.mul_le_mul_left _ (by omega)
 rw [gp_gt h1, gp_gt (Nat.le_trans h3 h1), Nat.sub_mul, Nat.sub_mul]
 have e : N * y * z = N * z * y := by ac_rfl
 rw [e]
 have h4 : x * D * y < x * D * z := (Nat.mul_lt_mul_left (by omega)).2 h2
 have h5 : N * z * y ≤ x * D * y := Nat.mul_le_mul_right _ h1
 omega
theorem far_hi {N D x y z : Nat} (hx : 1 ≤ x * D) (h1 : x * D ≤ y * N) (h2 : y < z) : ¬ fle (dQ N D (x, z)) (dQ N D (x, y)) := by
 unfold fle dQ
 simp only
 rw [Nat.mul_comm y N] at h1
 have h3 : N * y ≤ N * z := Nat.mul_le_mul_left _ (by omega)
 rw [gp_lt h1, gp_lt (Nat.le_trans h1 h3), Nat.sub_mul, Nat.sub_mul]
 have e : N * y * z = N * z * y := by ac_rfl
 rw [e]
 have h4 : x * D * y < x * D * z := (Nat.mul_lt_mul_left (by omega)).2 h2
 have h5 : x * D * z ≤ N * y * z := Nat.mul_le_mul_right _ h1
 rw [e] at h5
 omega

theorem candsOf_ok {all : List Nat} (hs : Srt all) (hp : ∀ x, x ∈ all → 1 ≤ x) {N D x : Nat} (hD : 1 ≤ D) (hx : x ∈ all) :
  (∀ q, q ∈ candsOf all N D x → ∃ y, y ∈ all ∧ q = redF x y) ∧
  ∀ y, y ∈ all → redF x y ∈ candsOf all N D x ∨ ∃ z, z ∈ all ∧ redF x z ∈ candsOf all N D x ∧ ¬ fle (dQ N D (x, y)) (dQ N D (x, z)) := by
 have hc := cnt_le N (x * D) all
 have hlt := cnt_lt N (x * D) all
 have hge := fun i => cnt_ge (n := N) (w := x * D) hs (i := i)
 have hxD : 1 ≤ x * D := Nat.mul_pos (hp x hx) hD
 unfold candsOf
 generalize cntB N (x * D) all = c at *
 refine ⟨fun q hq => ?_, fun y hy => ?_⟩
 ·rw [List.mem_append] at hq
  rcases hq with hq | hq
  ·split at hq
   ·rw [List.mem_singleton] at hq
    exact ⟨_, gn_mem _ (by omega), hq⟩
   ·cases hq
  ·split at hq
   ·rw [List.mem_singleton] at hq
    exact ⟨_, gn_mem _ (by omega), hq⟩
   ·cases hq
 ·obtain ⟨j, hj, rfl⟩ := mem_gn hy
  by_cases h : j < c
  ·rw [if_pos (by omega)]
   by_cases e : j = c - 1
   ·left; rw [← e]; simp
   ·right
    refine ⟨gn all (c - 1), gn_mem _ (by omega), by simp, far_lo hxD ?_ (hs _ _ (by omega) (by omega))⟩
    have := hlt (c - 1) (by omega)
    omega
  ·rw [if_pos (show c < all.length by omega)]
   by_cases e : j = c
   ·left; rw [← e]; simp
   ·right
    refine ⟨gn all c, gn_mem _ (by omega), by simp, far_hi hxD ?_ (hs _ _ (by omega) (by omega))⟩
    have := hge c (Nat.le_refl _) (by omega)
    omega

structure NearOk (all : List Nat) (N D : Nat) (s : NS) : Prop where
 nil : s.1 = [] ↔ all = []
 pos : s.1 ≠ [] → 1 ≤ s.2.2
 mem : ∀ q, q ∈ s.1 → 1 ≤ q.2 ∧ ∃ x y, x ∈ all ∧ y ∈ all ∧ q = redF x y
 eq : ∀ q, q ∈ s.1 → fle (dQ N D q) s.2 ∧ fle s.2 (dQ N D q)
 least : ∀ x y, x ∈ all → y ∈ all → fle s.2 (dQ N D (x, y))
 all : ∀ x y, x ∈ all → y ∈ all → fle (dQ N D (x, y)) s.2 → redF x y ∈ s.1

theorem nearF_ok {all : List Nat} (hs : Srt all) (hp : ∀ x, x ∈ all → 1 ≤ x) {N D : Nat} (hD : 1 ≤ D) : NearOk all N D (nearF all N D) := by
 have hL : ∀ q, q ∈ all.flatMap (candsOf all N D) → ∃ x y, x ∈ all ∧ y ∈ all ∧ q = redF x y := fun q hq => by
  obtain ⟨x, hx, hq⟩ := List.mem_flatMap.1 hq
  obtain ⟨y, hy, e⟩ := (candsOf_ok hs hp hD hx).1 q hq
  exact ⟨x, y, hx, hy, e⟩
 have hinv := candL_inv (N := N) (D := D) (L := all.flatMap (candsOf all N D)) fun q hq => by
  obtain ⟨x, y, hx, hy, rfl⟩ := hL q hq
  exact redF_pos (hp y hy)
 have hcan : ∀ x y, x ∈ all → y ∈ all → redF x y ∈ all.flatMap (candsOf all N D) ∨ ∃ z, z ∈ all ∧ redF x z ∈ all.flatMap (candsOf all N D) ∧ ¬ fle (dQ N D (x, y)) (dQ N D (x, z)) := fun x y hx hy => by
  rcases (candsOf_ok hs hp hD hx).2 y hy with h | ⟨z, hz, h, k⟩
  ·exact .inl (List.mem_flatMap.2 ⟨x, hx, h⟩)
  ·exact .inr ⟨z, hz, List.mem_flatMap.2 ⟨x, hx, h⟩, k⟩
 unfold nearF
 generalize all.flatMap (candsOf all N D) = L at *
 have hle : ∀ x y, x ∈ all → y ∈ all → redF x y ∈ L → fle (candL N D L).2 (dQ N D (x, y)) ∧ (fle (dQ N D (x, y)) (candL N D L).2 → redF x y ∈ (candL N D L).1) := fun x y hx hy h => by
  have h1 := hinv.all _ h
  have h2 := redF_d (N := N) (D := D) (x := x) (hp y hy)
  exact ⟨fle_tr (b := dQ N D (redF x y)) (redF_pos (hp y hy)) h1.1 h2.1, fun k => h1.2 (fle_tr (b := dQ N D (x, y)) (hp y hy) h2.1 k)⟩
 refine ⟨?_, hinv.pos, fun q hq => ⟨hinv.lp q (hinv.mem q hq).1, hL q (hinv.mem q hq).1⟩, fun q hq => (hinv.mem q hq).2, fun x y hx hy => ?_, fun x y hx hy k => ?_⟩
 ·rw [hinv.nil]
  constructor
  ·intro e
   cases all with
   |nil => rfl
   |cons x r =>
    rcases hcan x x (by simp) (by simp) with h | ⟨z, _, h, _⟩
    ·rw [e] at h; cases h
    ·rw [e] at h; cases h
  ·intro e
   cases L with
   |nil => rfl
   |cons q r =>
    obtain ⟨x, _, hx, _⟩ := hL q (by simp)
    rw [e] at hx; cases hx
 ·rcases hcan x y hx hy with h | ⟨z, hz, h, k⟩
  ·exact (hle x y hx hy h).1
  ·exact fle_tr (b := dQ N D (x, z)) (hp z hz) (hle x z hx hz h).1 ((fle_tot _ _).resolve_left k)
 ·rcases hcan x y hx hy with h | ⟨z, hz, h, k2⟩
  ·exact (hle x y hx hy h).2 k
  ·have h1 := (hle x z hx hz h).1
   have hpos : 1 ≤ (candL N D L).2.2 := hinv.pos fun e => by rw [hinv.nil.1 e] at h; cases h
   exact absurd (fle_tr hpos k h1) k2
end Go.Abs.Seat

/-! The document's products of teeth. -/
namespace Go.Abs.Seat
noncomputable section
open Go Go.Abs Go.Proofs.Tryz
set_option maxRecDepth 100000
set_option maxHeartbeats 40000000
attribute [local irreducible] IntKind.wrap pEq

def bq (p : Prop) : Bool := @decide p (Classical.propDecidable p)
theorem bq_t {p : Prop} (h : p) : bq p = true := @decide_eq_true p (Classical.propDecidable p) h
theorem bq_f {p : Prop} (h : ¬ p) : bq p = false := @decide_eq_false p (Classical.propDecidable p) h
theorem bq_eq {p q : Prop} (h : p ↔ q) : bq p = bq q := by
 by_cases k : p
 ·rw [bq_t k, bq_t (h.1 k)]
 ·rw [bq_f k, bq_f fun e => k (h.2 e)]

def Mk (t : Tr AV) (m : Nat) (q : Nat → Prop) : Prop := ∀ j, t.get j = if j < m then some (.bool (bq (q j))) else none
theorem Mk.at {t : Tr AV} {m : Nat} {q : Nat → Prop} (h : Mk t m q) {x : Nat} (hx : x < m) : t.get x = some (.bool (bq (q x))) := by rw [h x, if_pos hx]
theorem Mk.ext {t : Tr AV} {m : Nat} {q r : Nat → Prop} (h : Mk t m q) (e : ∀ x, x < m → (q x ↔ r x)) : Mk t m r := fun x => by
 rw [h x]
 by_cases hx : x < m
 ·rw [if_pos hx, if_pos hx, bq_eq (e x hx)]
 ·rw [if_neg hx, if_neg hx]
theorem Mk.none {t : Tr AV} {m : Nat} (h : ∀ j, t.get j = if j < m then some (.bool false) else none) : Mk t m (fun _ => False) := fun x => by rw [h x, bq_f id]
theorem Mk.set {t : Tr AV} {m i : Nat} {q : Nat → Prop} (h : Mk t m q) (hi : i < m) : Mk (tset (pathOf i) t (.bool true)) m (fun x => q x ∨ x = i) := fun x => by
 rw [tset_at (h.at hi)]
 by_cases e : x = i
 ·rw [if_pos e, if_pos (by omega), bq_t (.inr e)]
 ·rw [if_neg e, h x, bq_eq (show q x ↔ q x ∨ x = i from ⟨.inl, fun k => k.resolve_right e⟩)]
theorem Mk.bd {t : Tr AV} {m n : Nat} {q : Nat → Prop} (h : Mk t m q) : BdT n t := bdT_get fun j a e => by
 rw [h j] at e
 split at e
 ·cases e; exact Nat.zero_le _
 ·cases e

def tp (a b : Nat) (l : List Int) (n : Nat) : Prop := cutP (Int.ofNat a) (Int.ofNat b) l (Int.ofNat n)

theorem tp_le {a b : Nat} {l : List Int} (ha : 1 ≤ a) (hb : b ≤ 60) {n : Nat} (h : tp a b l n) : 1 ≤ n ∧ n ≤ 60 := by
 have h1 : (a : Int) ≤ (n : Int) := h.2.1
 have h2 : (n : Int) ≤ (b : Int) := h.2.2
 omega
theorem tp_ge {a b : Nat} {l : List Int} {n : Nat} (h : tp a b l n) : a ≤ n ∧ n ≤ b := by
 have h1 : (a : Int) ≤ (n : Int) := h.2.1
 have h2 : (n : Int) ≤ (b : Int) := h.2.2
 omega

theorem gi_zl (l : List Nat) {i : Nat} (h : i < l.length) : gi (zl l) i = Int.ofNat (gn l i) := by
 simp [gi, gn, zl, List.getD, h]
theorem cells_at {o i : Nat} {t : Tr AV} {v : AV} {m : Nat} {ty : TypeId} (e : o = i) : AObj.cells (tset (pathOf o) t v) m ty = AObj.cells (tset (pathOf i) t v) m ty := by rw [e]
theorem wkv_zl (l : List Nat) (c : Nat) : WkV (.lst (ivs (zl l)) l.length (.ch c)) (nl (zl l)) := by
 have e : nl (zl l) = .lst (ivs (zl l)) l.length .no := by rw [nl, zl_len]
 rw [e]
 exact WkV.own _ _ _

theorem rProducts_pure {N : AV} {l : List Int} (h : IL N l) (hl : l.length < 4611686018427387904) (a b : Nat) (ha : 1 ≤ a) (hab : a ≤ b) (hb : b ≤ 60) (p s : Int) (k : Nat) (hk : k ≤ 3) :
  Pure prog 96 [rv (Int.ofNat a) (Int.ofNat b) p s N, nv k] (sv (zl (lstP (prodP (tp a b l) k) 216001))) := by
 have lN := h.no
 have lT := sv_no (zl (lstP (prodP (tp a b l) k) 216001))
 have cp : ∀ n : Nat, Pure prog 90 [rv (Int.ofNat a) (Int.ofNat b) p s N, nv n] (.bool (bq (tp a b l n))) := fun n => by
  have := cut_pure h hl (Int.ofNat a) (Int.ofNat b) p s (Int.ofNat n)
  rwa [show decide (cutP (Int.ofNat a) (Int.ofNat b) l (Int.ofNat n)) = bq (tp a b l n) by
   by_cases k : tp a b l n
   ·rw [bq_t k]; exact decide_eq_true k
   ·rw [bq_f k]; exact decide_eq_false k] at this
 have h1 : sv (zl (lstP (prodP (tp a b l) 0) 216001)) = nl [1] := by rw [prod_zero, lstP_one]; rfl
 rcases h.cs with rfl | rfl
 all_goals
  refine pure_sym hE rfl (by repeat' (first | exact trivial | assumption | exact flat_no _ | exact (fun _ h => nomatch h) | apply And.intro)) (by repeat' (first | exact trivial | assumption | exact flat_no _ | exact (fun _ h => nomatch h) | apply And.intro)) fun S q pc hS hq hC hE => ?_
  conv => whnf
  refine sym_loopG hE hS (A := Nat) [1, 2] (fun i => [(5, sv (zl (lstP (prodP (tp a b l) i) 216001))), (6, nv i)]) (fun _ => []) (fun _ => []) (fun i => i ≤ k) (fun i => k - i) 0 (Nat.le_of_ble_eq_true rfl) rfl (by
   show AtG _ _ _ _ _ _ _ [(5, sv (zl (lstP (prodP (tp a b l) 0) 216001))), (6, nv 0)] _ _ _
   rw [h1]
   exact (by refine ⟨rfl, rfl, rfl, rfl, rfl, rfl, 1, rfl, ?_, ?_⟩ <;> repeat' (first | exact trivial | exact rfl | exact ⟨_, rfl, WkV.refl _⟩ | exact ⟨_, rfl, WkV.own _ _ _⟩ | exact Nat.zero_le _ | exact Nat.le_of_ble_eq_true rfl | exact bdl_no (by assumption) | exact bdl_no (flat_no _) | exact bdl_no (ivs_no _) | exact bdl_no (svs_no _) | exact Nat.max_le.2 ⟨Nat.le_of_ble_eq_true rfl, bdl_no (ivs_no _)⟩ | exact Nat.max_le.2 ⟨Nat.le_of_ble_eq_true rfl, bdl_no (svs_no _)⟩ | apply And.intro))) (Nat.zero_le _) ?_
  intro i hi M hM
  obtain rfl : M = 1 := hM
  have lL := sv_no (zl (lstP (prodP (tp a b l) i) 216001))
  have hLm := fun y => lstP_mem (prodP (tp a b l) i) y 216001
  have hLl := lstP_len (prodP (tp a b l) i) 216001
  have hstep : ∀ x, x < 216001 → (prodP (tp a b l) (i + 1) x ↔ ∃ y, y ∈ lstP (prodP (tp a b l) i) 216001 ∧ ∃ n, tp a b l n ∧ x = y * n) := fun x hx => by
   rw [prodP]
   constructor
   ·rintro ⟨y, n, h1, h2, rfl⟩
    refine ⟨y, (hLm y).2 ⟨?_, h1⟩, n, h2, rfl⟩
    have h3 := (prod_le (fun n => tp_le ha hb) i y h1).2
    have h4 : 60 ^ i ≤ 60 ^ 3 := Nat.pow_le_pow_right (by omega) (by omega)
    omega
   ·rintro ⟨y, h1, n, h2, rfl⟩
    exact ⟨y, n, ((hLm y).1 h1).2, h2, rfl⟩
  have e0k : i = k → sv (zl (lstP (prodP (tp a b l) k) 216001)) = sv (zl (lstP (prodP (tp a b l) i) 216001)) := fun e => by rw [e]
  generalize lstP (prodP (tp a b l) i) 216001 = L at lL hLm hLl hstep e0k ⊢
  rcases sv_cases (zl L) with ⟨eL, e⟩ | e
  ·rw [e]
   have eL : L = [] := by
    cases L with
    |nil => rfl
    |cons x r => cases eL
   subst eL
   conv => whnf
   by_cases h : i < k
   ·refine bool_true (ltN_t h) ?_
    conv => whnf
    intro t ht
    have ht : ∀ j, t.get j = if j < 216001 then some (.bool false) else none := ht
    conv => whnf
    refine sym_unroll hE hS ?_
    conv => whnf
    have hm := (Mk.none ht).ext (fun x hx => ⟨fun h => h.elim, fun h => by obtain ⟨y, h, _⟩ := (hstep x hx).1 h; cases h⟩ : ∀ x, x < 216001 → (False ↔ prodP (tp a b l) (i + 1) x))
    refine sym_loopG hE hS (A := Nat × AV × List AObj × Nat) [1, 2, 6] (fun (x, v, _, m) => [(5, v), (7, .slc 1 0 m m), (10, nv x)]) (fun (_, _, _, m) => [(1, .cells t m 4)]) (fun a => a.2.2.1) (fun (x, v, ux, m) => m = 216001 ∧ x ≤ m ∧ (lstP (prodP (tp a b l) (i + 1)) x = [] ∧ v = .nils ∧ ux = [] ∨ lstP (prodP (tp a b l) (i + 1)) x ≠ [] ∧ v = .lst (ivs (zl (lstP (prodP (tp a b l) (i + 1)) x))) (lstP (prodP (tp a b l) (i + 1)) x).length (.ch 2) ∧ ux = [.chain (lstP (prodP (tp a b l) (i + 1)) x).length 1 3])) (fun (x, _, _, _) => 216001 - x) (0, .nils, [], 216001) (Nat.le_of_ble_eq_true rfl) rfl (by refine ⟨rfl, rfl, rfl, rfl, rfl, rfl, 2, rfl, ?_, ?_⟩ <;> repeat' (first | exact trivial | exact rfl | exact ⟨_, rfl, WkV.refl _⟩ | exact ⟨_, rfl, WkV.own _ _ _⟩ | exact Nat.zero_le _ | exact Mk.bd hm | exact Nat.le_of_ble_eq_true rfl | exact bdl_no (by assumption) | exact bdl_no (flat_no _) | exact bdl_no (ivs_no _) | exact bdl_no (svs_no _) | exact Nat.max_le.2 ⟨Nat.le_of_ble_eq_true rfl, bdl_no (ivs_no _)⟩ | exact Nat.max_le.2 ⟨Nat.le_of_ble_eq_true rfl, bdl_no (svs_no _)⟩ | apply And.intro)) ⟨rfl, Nat.zero_le _, .inl ⟨rfl, rfl, rfl⟩⟩ ?_
    rintro ⟨x, v, ux, m⟩ ⟨em, hx, hR⟩ M hM
    have hx1 : x ≤ 216001 → IntKind.i64.wrap (Int.ofNat x + 1) = Int.ofNat (x + 1) := fun h => wrapN (m := x + 1) (by omega)
    have hg : x < m → t.get (0 + x * 1) = some (.bool (bq (prodP (tp a b l) (i + 1) x))) := fun h => by
     rw [show 0 + x * 1 = x by omega]; exact hm.at (by omega)
    have hq := fun y => lstP_mem (prodP (tp a b l) (i + 1)) y x
    have hRl := lstP_len (prodP (tp a b l) (i + 1)) x
    have hst : lstP (prodP (tp a b l) (i + 1)) (x + 1) = @ite _ (prodP (tp a b l) (i + 1) x) (Classical.propDecidable _) (lstP (prodP (tp a b l) (i + 1)) x ++ [x]) (lstP (prodP (tp a b l) (i + 1)) x) := rfl
    rcases hR with ⟨e0, rfl, rfl⟩ | ⟨hne, rfl, rfl⟩
    ·obtain rfl : M = 2 := hM
     conv => whnf
     by_cases hx2 : x < m
     ·refine bool_true (ltN_t hx2) ?_
      conv => whnf
      refine bool_true (inR_t hx2) ?_
      conv => whnf
      refine bool_true (decide_eq_true (show 0 + x * 1 < m by omega)) ?_
      conv => whnf
      have hg := hg hx2
      by_cases hb : prodP (tp a b l) (i + 1) x
      ·rw [bq_t hb] at hg
       rw [if_pos hb, e0] at hst
       refine plan_as (getP_as hg) ?_
       conv => whnf
       exact ⟨(x + 1, .lst (ivs (zl [x])) 1 (.ch 2), [.chain 1 1 3], m), ⟨em, hx2, .inr ⟨by rw [hst]; simp, by rw [hst]; rfl, by rw [hst]; rfl⟩⟩, by show 216001 - (x + 1) < 216001 - x; omega, Nat.zero_le _, (by refine ⟨rfl, rfl, rfl, rfl, rfl, rfl, 3, rfl, ?_, ?_⟩ <;> repeat' (first | exact trivial | exact rfl | exact ⟨_, rfl, WkV.refl _⟩ | exact ⟨_, rfl, WkV.own _ _ _⟩ | exact Nat.zero_le _ | exact Mk.bd hm | exact ⟨_, rfl, WkV.int (hx1 (by omega))⟩ | exact Nat.le_of_ble_eq_true rfl | exact bdl_no (by assumption) | exact bdl_no (flat_no _) | exact bdl_no (ivs_no _) | exact bdl_no (svs_no _) | exact Nat.max_le.2 ⟨Nat.le_of_ble_eq_true rfl, bdl_no (ivs_no _)⟩ | exact Nat.max_le.2 ⟨Nat.le_of_ble_eq_true rfl, bdl_no (svs_no _)⟩ | apply And.intro))⟩
      ·rw [bq_f hb] at hg
       rw [if_neg hb, e0] at hst
       refine plan_as (getP_as hg) ?_
       conv => whnf
       exact ⟨(x + 1, .nils, [], m), ⟨em, hx2, .inl ⟨hst, rfl, rfl⟩⟩, by show 216001 - (x + 1) < 216001 - x; omega, Nat.le_refl _, (by refine ⟨rfl, rfl, rfl, rfl, rfl, rfl, 2, rfl, ?_, ?_⟩ <;> repeat' (first | exact trivial | exact rfl | exact ⟨_, rfl, WkV.refl _⟩ | exact ⟨_, rfl, WkV.own _ _ _⟩ | exact Nat.zero_le _ | exact Mk.bd hm | exact ⟨_, rfl, WkV.int (hx1 (by omega))⟩ | exact Nat.le_of_ble_eq_true rfl | exact bdl_no (by assumption) | exact bdl_no (flat_no _) | exact bdl_no (ivs_no _) | exact bdl_no (svs_no _) | exact Nat.max_le.2 ⟨Nat.le_of_ble_eq_true rfl, bdl_no (ivs_no _)⟩ | exact Nat.max_le.2 ⟨Nat.le_of_ble_eq_true rfl, bdl_no (svs_no _)⟩ | apply And.intro))⟩
     ·refine bool_false (ltN_f hx2) ?_
      conv => whnf
      have ex : x = 216001 := by omega
      subst ex
      refine .inl ?_
      conv => whnf
      have hi1 : IntKind.i64.wrap (Int.ofNat i + 1) = Int.ofNat (i + 1) := wrapN (m := i + 1) (by omega)
      exact ⟨i + 1, by omega, by show k - (i + 1) < k - i; omega, Nat.le_refl _, by show AtG _ _ _ _ _ _ _ [(5, sv (zl (lstP (prodP (tp a b l) (i + 1)) 216001))), (6, nv (i + 1))] _ _ _; rw [e0]; exact (by refine ⟨rfl, rfl, rfl, rfl, rfl, rfl, 1, rfl, ?_, ?_⟩ <;> repeat' (first | exact trivial | exact rfl | exact ⟨_, rfl, WkV.refl _⟩ | exact ⟨_, rfl, WkV.own _ _ _⟩ | exact Nat.zero_le _ | exact ⟨_, rfl, WkV.int hi1⟩ | exact Nat.le_of_ble_eq_true rfl | exact bdl_no (by assumption) | exact bdl_no (flat_no _) | exact bdl_no (ivs_no _) | exact bdl_no (svs_no _) | exact Nat.max_le.2 ⟨Nat.le_of_ble_eq_true rfl, bdl_no (ivs_no _)⟩ | exact Nat.max_le.2 ⟨Nat.le_of_ble_eq_true rfl, bdl_no (svs_no _)⟩ | apply And.intro))⟩
    ·obtain rfl : M = 3 := hM
     conv => whnf
     by_cases hx2 : x < m
     ·refine bool_true (ltN_t hx2) ?_
      conv => whnf
      refine bool_true (inR_t hx2) ?_
      conv => whnf
      refine bool_true (decide_eq_true (show 0 + x * 1 < m by omega)) ?_
      conv => whnf
      have hg := hg hx2
      by_cases hb : prodP (tp a b l) (i + 1) x
      ·rw [bq_t hb] at hg
       rw [if_pos hb] at hst
       refine plan_as (getP_as hg) ?_
       conv => whnf
       refine bool_true (decide_eq_true (show ((lstP (prodP (tp a b l) (i + 1)) x).length + (0 + 1)) * 8 ≤ 140737488355328 by omega)) ?_
       conv => whnf
       refine bool_true (decide_eq_true (show (lstP (prodP (tp a b l) (i + 1)) x).length + (0 + 1) ≤ 9223372036854775807 by omega)) ?_
       conv => whnf
       refine bool_true (lenIs_zl (lstP (prodP (tp a b l) (i + 1)) x)) ?_
       conv => whnf
       refine bool_true (decide_eq_true rfl) ?_
       conv => whnf
       exact ⟨(x + 1, .lst (ivs (zl (lstP (prodP (tp a b l) (i + 1)) x ++ [x]))) (lstP (prodP (tp a b l) (i + 1)) x ++ [x]).length (.ch 2), [.chain (lstP (prodP (tp a b l) (i + 1)) x ++ [x]).length 1 3], m), ⟨em, hx2, .inr ⟨by rw [hst]; simp, by rw [hst], by rw [hst]⟩⟩, by show 216001 - (x + 1) < 216001 - x; omega, Nat.le_refl _, (by refine ⟨rfl, rfl, rfl, rfl, rfl, rfl, 3, rfl, ?_, ?_⟩ <;> repeat' (first | exact trivial | exact rfl | exact ⟨_, rfl, WkV.refl _⟩ | exact ⟨_, rfl, WkV.own _ _ _⟩ | exact Nat.zero_le _ | exact Mk.bd hm | exact ⟨_, rfl, WkV.int (hx1 (by omega))⟩ | exact ⟨_, rfl, WkV.eq (app_ok _ _ _)⟩ | exact app_ch _ _ | exact Nat.le_of_ble_eq_true rfl | exact bdl_no (by assumption) | exact bdl_no (flat_no _) | exact bdl_no (ivs_no _) | exact bdl_no (svs_no _) | exact Nat.max_le.2 ⟨Nat.le_of_ble_eq_true rfl, bdl_no (ivs_no _)⟩ | exact Nat.max_le.2 ⟨Nat.le_of_ble_eq_true rfl, bdl_no (svs_no _)⟩ | apply And.intro))⟩
      ·rw [bq_f hb] at hg
       rw [if_neg hb] at hst
       refine plan_as (getP_as hg) ?_
       conv => whnf
       exact ⟨(x + 1, .lst (ivs (zl (lstP (prodP (tp a b l) (i + 1)) x))) (lstP (prodP (tp a b l) (i + 1)) x).length (.ch 2), [.chain (lstP (prodP (tp a b l) (i + 1)) x).length 1 3], m), ⟨em, hx2, .inr ⟨by rw [hst]; exact hne, by rw [hst], by rw [hst]⟩⟩, by show 216001 - (x + 1) < 216001 - x; omega, Nat.le_refl _, (by refine ⟨rfl, rfl, rfl, rfl, rfl, rfl, 3, rfl, ?_, ?_⟩ <;> repeat' (first | exact trivial | exact rfl | exact ⟨_, rfl, WkV.refl _⟩ | exact ⟨_, rfl, WkV.own _ _ _⟩ | exact Nat.zero_le _ | exact Mk.bd hm | exact ⟨_, rfl, WkV.int (hx1 (by omega))⟩ | exact Nat.le_of_ble_eq_true rfl | exact bdl_no (by assumption) | exact bdl_no (flat_no _) | exact bdl_no (ivs_no _) | exact bdl_no (svs_no _) | exact Nat.max_le.2 ⟨Nat.le_of_ble_eq_true rfl, bdl_no (ivs_no _)⟩ | exact Nat.max_le.2 ⟨Nat.le_of_ble_eq_true rfl, bdl_no (svs_no _)⟩ | apply And.intro))⟩
     ·refine bool_false (ltN_f hx2) ?_
      conv => whnf
      have ex : x = 216001 := by omega
      subst ex
      refine .inl ?_
      conv => whnf
      have hi1 : IntKind.i64.wrap (Int.ofNat i + 1) = Int.ofNat (i + 1) := wrapN (m := i + 1) (by omega)
      have e5 : sv (zl (lstP (prodP (tp a b l) (i + 1)) 216001)) = nl (zl (lstP (prodP (tp a b l) (i + 1)) 216001)) := by
       rcases sv_cases (zl (lstP (prodP (tp a b l) (i + 1)) 216001)) with ⟨k, _⟩ | k
       ·exact absurd (List.map_eq_nil_iff.1 k) hne
       ·exact k
      have lq := ivs_no (zl (lstP (prodP (tp a b l) (i + 1)) 216001))
      exact ⟨i + 1, by omega, by show k - (i + 1) < k - i; omega, Nat.le_refl _, by show AtG _ _ _ _ _ _ _ [(5, sv (zl (lstP (prodP (tp a b l) (i + 1)) 216001))), (6, nv (i + 1))] _ _ _; rw [e5]; exact (by refine ⟨rfl, rfl, rfl, rfl, rfl, rfl, 1, rfl, ?_, ?_⟩ <;> repeat' (first | exact trivial | exact rfl | exact ⟨_, rfl, WkV.refl _⟩ | exact ⟨_, rfl, WkV.own _ _ _⟩ | exact Nat.zero_le _ | exact ⟨_, rfl, WkV.int hi1⟩ | exact ⟨_, rfl, wkv_zl _ _⟩ | exact Nat.le_of_ble_eq_true rfl | exact bdl_no (by assumption) | exact bdl_no (flat_no _) | exact bdl_no (ivs_no _) | exact bdl_no (svs_no _) | exact Nat.max_le.2 ⟨Nat.le_of_ble_eq_true rfl, bdl_no (ivs_no _)⟩ | exact Nat.max_le.2 ⟨Nat.le_of_ble_eq_true rfl, bdl_no (svs_no _)⟩ | apply And.intro))⟩
   ·refine bool_false (ltN_f h) ?_
    conv => whnf
    refine .inl ?_
    conv => whnf
    rw [e0k (by omega), e]
    exact ⟨_, rfl, Wk.refl _⟩
  ·rw [e]
   conv => whnf
   by_cases h : i < k
   ·refine bool_true (ltN_t h) ?_
    conv => whnf
    intro t ht
    have ht : ∀ j, t.get j = if j < 216001 then some (.bool false) else none := ht
    conv => whnf
    refine sym_loopG hE hS (A := Nat × Tr AV × Nat) [1, 2, 5, 6] (fun (j, _, m) => [(7, .slc 1 0 m m), (8, nv j)]) (fun (_, t, m) => [(1, .cells t m 4)]) (fun _ => []) (fun (j, t, m) => m = 216001 ∧ j ≤ L.length ∧ Mk t 216001 (fun x => ∃ y, y ∈ L.take j ∧ ∃ n, tp a b l n ∧ x = y * n)) (fun (j, _, _) => L.length - j) (0, t, 216001) (Nat.le_of_ble_eq_true rfl) rfl (by refine ⟨rfl, rfl, rfl, rfl, rfl, rfl, 2, rfl, ?_, ?_⟩ <;> repeat' (first | exact trivial | exact rfl | exact ⟨_, rfl, WkV.refl _⟩ | exact ⟨_, rfl, WkV.own _ _ _⟩ | exact Nat.zero_le _ | exact Mk.bd (Mk.none ht) | exact Nat.le_of_ble_eq_true rfl | exact bdl_no (by assumption) | exact bdl_no (flat_no _) | exact bdl_no (ivs_no _) | exact bdl_no (svs_no _) | exact Nat.max_le.2 ⟨Nat.le_of_ble_eq_true rfl, bdl_no (ivs_no _)⟩ | exact Nat.max_le.2 ⟨Nat.le_of_ble_eq_true rfl, bdl_no (svs_no _)⟩ | apply And.intro)) ⟨rfl, Nat.zero_le _, (Mk.none ht).ext fun x _ => ⟨fun h => h.elim, fun h => by obtain ⟨y, h, _⟩ := h; cases h⟩⟩ ?_
    rintro ⟨j, t, m⟩ ⟨em, hj, hm⟩ M hM
    obtain rfl : M = 2 := hM
    have hzl := zl_len L
    conv => whnf
    by_cases h2 : j < L.length
    ·refine bool_true ((show decide (Int.ofNat j < ((zl L).length : Int)) = true from decide_eq_true (by rw [hzl]; show (j : Int) < _; omega))) ?_
     conv => whnf
     have hy := (hLm (gn L j)).1 (gn_mem L h2)
     have hy60 := (prod_le (fun n => tp_le ha hb) i _ hy.2).2
     have h60 : 60 ^ i ≤ 60 ^ 2 := Nat.pow_le_pow_right (by omega) (by omega)
     have hn3 : nth (ivs (zl L)) (j * 1) = some (nv (gn L j)) := by rw [nth_ivs1 (by rw [hzl]; exact h2), gi_zl L h2]
     have htk := take_gn L h2
     refine sym_loopG hE hS (A := Nat × Tr AV × Nat) [1, 2, 5, 6, 8] (fun (n, _, m) => [(7, .slc 1 0 m m), (9, nv n)]) (fun (_, t, m) => [(1, .cells t m 4)]) (fun _ => []) (fun (n, t, m) => m = 216001 ∧ a ≤ n ∧ n ≤ b + 1 ∧ Mk t 216001 (fun x => (∃ y, y ∈ L.take j ∧ ∃ n, tp a b l n ∧ x = y * n) ∨ ∃ n', n' < n ∧ tp a b l n' ∧ x = gn L j * n')) (fun (n, _, _) => b + 1 - n) (a, t, m) (Nat.le_of_ble_eq_true rfl) rfl (by refine ⟨rfl, rfl, rfl, rfl, rfl, rfl, 2, rfl, ?_, ?_⟩ <;> repeat' (first | exact trivial | exact rfl | exact ⟨_, rfl, WkV.refl _⟩ | exact ⟨_, rfl, WkV.own _ _ _⟩ | exact Nat.zero_le _ | exact Mk.bd hm | exact Nat.le_of_ble_eq_true rfl | exact bdl_no (by assumption) | exact bdl_no (flat_no _) | exact bdl_no (ivs_no _) | exact bdl_no (svs_no _) | exact Nat.max_le.2 ⟨Nat.le_of_ble_eq_true rfl, bdl_no (ivs_no _)⟩ | exact Nat.max_le.2 ⟨Nat.le_of_ble_eq_true rfl, bdl_no (svs_no _)⟩ | apply And.intro)) ⟨em, Nat.le_refl _, by omega, hm.ext fun x _ => ⟨.inl, fun h => h.resolve_right fun ⟨n', h1, h2, _⟩ => by have := tp_ge h2; omega⟩⟩ ?_
     rintro ⟨n, t, m⟩ ⟨em, hn1, hn2, hm⟩ M hM
     obtain rfl : M = 2 := hM
     have hnw : n ≤ b → IntKind.i64.wrap (Int.ofNat n + 1) = Int.ofNat (n + 1) := fun h => wrapN (m := n + 1) (by omega)
     conv => whnf
     by_cases h3 : n ≤ b
     ·refine bool_true (decide_eq_true (show Int.ofNat n ≤ Int.ofNat b by show (n : Int) ≤ (b : Int); omega)) ?_
      conv => whnf
      refine sym_pure hC (cp n) ?_
      conv => whnf
      by_cases h4 : tp a b l n
      ·refine bool_true (bq_t h4) ?_
       conv => whnf
       have hle : gn L j * n ≤ 60 ^ 2 * 60 := Nat.mul_le_mul (by omega) (by omega)
       refine bool_true (inR_t (show j < (zl L).length by omega)) ?_
       conv => whnf
       refine plan_as (nthP (hn3)) ?_
       conv => whnf
       have em1 : IntKind.i64.wrap (Int.ofNat (gn L j) * Int.ofNat n) = Int.ofNat (gn L j * n) := mulN (a := gn L j) (b := n) (by omega)
       have eo : 0 + (IntKind.i64.wrap (Int.ofNat (gn L j) * Int.ofNat n)).toNat * 1 = gn L j * n := by rw [em1]; show 0 + gn L j * n * 1 = _; omega
       refine bool_true ((show inR (IntKind.i64.wrap (Int.ofNat (gn L j) * Int.ofNat n)) m = true by rw [em1]; exact inR_t (by omega))) ?_
       conv => whnf
       have hbl : Nat.ble (0 + (IntKind.i64.wrap (Int.ofNat (gn L j) * Int.ofNat n)).toNat * 1 + 1) m = true := by rw [eo]; exact Nat.ble_eq_true_of_le (by omega)
       refine bool_true (hbl) ?_
       conv => whnf
       have hget := hm.at (x := gn L j * n) (by omega)
       have hset := hm.set (i := gn L j * n) (by omega)
       rw [← eo] at hget
       refine set_sym hget ?_
       conv => whnf
       exact ⟨(n + 1, tset (pathOf (gn L j * n)) t (.bool true), m), ⟨em, by omega, by omega, hset.ext fun x _ => ⟨fun h => by
        rcases h with h | h
        ·exact h.imp id fun ⟨n', k1, k2⟩ => ⟨n', by omega, k2⟩
        ·exact .inr ⟨n, by omega, h4, h⟩, fun h => by
        rcases h with h | ⟨n', k1, k2, k3⟩
        ·exact .inl (.inl h)
        ·by_cases e : n' = n
         ·subst e; exact .inr k3
         ·exact .inl (.inr ⟨n', by omega, k2, k3⟩)⟩⟩, by show b + 1 - (n + 1) < b + 1 - n; omega, Nat.le_refl _, (by refine ⟨rfl, rfl, rfl, rfl, rfl, rfl, 2, rfl, ?_, ?_⟩ <;> repeat' (first | exact trivial | exact rfl | exact ⟨_, rfl, WkV.refl _⟩ | exact ⟨_, rfl, WkV.own _ _ _⟩ | exact Nat.zero_le _ | exact Mk.bd hset | exact ⟨_, rfl, WkV.int (hnw h3)⟩ | exact cells_at eo | exact Nat.le_of_ble_eq_true rfl | exact bdl_no (by assumption) | exact bdl_no (flat_no _) | exact bdl_no (ivs_no _) | exact bdl_no (svs_no _) | exact Nat.max_le.2 ⟨Nat.le_of_ble_eq_true rfl, bdl_no (ivs_no _)⟩ | exact Nat.max_le.2 ⟨Nat.le_of_ble_eq_true rfl, bdl_no (svs_no _)⟩ | apply And.intro))⟩
      ·refine bool_false (bq_f h4) ?_
       conv => whnf
       exact ⟨(n + 1, t, m), ⟨em, by omega, by omega, hm.ext fun x _ => ⟨fun h => h.imp id fun ⟨n', k1, k2⟩ => ⟨n', by omega, k2⟩, fun h => h.imp id fun ⟨n', k1, k2, k3⟩ => ⟨n', by have : n' ≠ n := fun e => h4 (e ▸ k2); omega, k2, k3⟩⟩⟩, by show b + 1 - (n + 1) < b + 1 - n; omega, Nat.le_refl _, (by refine ⟨rfl, rfl, rfl, rfl, rfl, rfl, 2, rfl, ?_, ?_⟩ <;> repeat' (first | exact trivial | exact rfl | exact ⟨_, rfl, WkV.refl _⟩ | exact ⟨_, rfl, WkV.own _ _ _⟩ | exact Nat.zero_le _ | exact Mk.bd hm | exact ⟨_, rfl, WkV.int (hnw h3)⟩ | exact Nat.le_of_ble_eq_true rfl | exact bdl_no (by assumption) | exact bdl_no (flat_no _) | exact bdl_no (ivs_no _) | exact bdl_no (svs_no _) | exact Nat.max_le.2 ⟨Nat.le_of_ble_eq_true rfl, bdl_no (ivs_no _)⟩ | exact Nat.max_le.2 ⟨Nat.le_of_ble_eq_true rfl, bdl_no (svs_no _)⟩ | apply And.intro))⟩
     ·refine bool_false (decide_eq_false (show ¬ Int.ofNat n ≤ Int.ofNat b by show ¬ (n : Int) ≤ (b : Int); omega)) ?_
      conv => whnf
      refine .inl ?_
      conv => whnf
      have hj1 : IntKind.i64.wrap (Int.ofNat j + 1) = Int.ofNat (j + 1) := wrapN (m := j + 1) (by omega)
      exact ⟨(j + 1, t, m), ⟨em, h2, hm.ext fun x _ => ⟨fun h => by
       rw [htk]
       rcases h with ⟨z, k1, k2⟩ | ⟨n', _, k2, k3⟩
       ·exact ⟨z, List.mem_append_left _ k1, k2⟩
       ·exact ⟨gn L j, List.mem_append_right _ (List.mem_singleton.2 rfl), n', k2, k3⟩, fun ⟨z, k1, n', k2, k3⟩ => by
       rw [htk] at k1
       rcases List.mem_append.1 k1 with k1 | k1
       ·exact .inl ⟨z, k1, n', k2, k3⟩
       ·rw [List.mem_singleton.1 k1] at k3
        exact .inr ⟨n', by have := tp_ge k2; omega, k2, k3⟩⟩⟩, by show L.length - (j + 1) < L.length - j; omega, Nat.le_refl _, (by refine ⟨rfl, rfl, rfl, rfl, rfl, rfl, 2, rfl, ?_, ?_⟩ <;> repeat' (first | exact trivial | exact rfl | exact ⟨_, rfl, WkV.refl _⟩ | exact ⟨_, rfl, WkV.own _ _ _⟩ | exact Nat.zero_le _ | exact Mk.bd hm | exact ⟨_, rfl, WkV.int hj1⟩ | exact Nat.le_of_ble_eq_true rfl | exact bdl_no (by assumption) | exact bdl_no (flat_no _) | exact bdl_no (ivs_no _) | exact bdl_no (svs_no _) | exact Nat.max_le.2 ⟨Nat.le_of_ble_eq_true rfl, bdl_no (ivs_no _)⟩ | exact Nat.max_le.2 ⟨Nat.le_of_ble_eq_true rfl, bdl_no (svs_no _)⟩ | apply And.intro))⟩
    ·refine bool_false ((show decide (Int.ofNat j < ((zl L).length : Int)) = false from decide_eq_false (by rw [hzl]; show ¬ (j : Int) < _; omega))) ?_
     conv => whnf
     have ej : j = L.length := by omega
     have hm := hm.ext (r := prodP (tp a b l) (i + 1)) fun x hx => by rw [hstep x hx, ej, List.take_length]
     refine .inl ?_
     conv => whnf
     refine sym_loopG hE hS (A := Nat × AV × List AObj × Nat) [1, 2, 6] (fun (x, v, _, m) => [(5, v), (7, .slc 1 0 m m), (10, nv x)]) (fun (_, _, _, m) => [(1, .cells t m 4)]) (fun a => a.2.2.1) (fun (x, v, ux, m) => m = 216001 ∧ x ≤ m ∧ (lstP (prodP (tp a b l) (i + 1)) x = [] ∧ v = .nils ∧ ux = [] ∨ lstP (prodP (tp a b l) (i + 1)) x ≠ [] ∧ v = .lst (ivs (zl (lstP (prodP (tp a b l) (i + 1)) x))) (lstP (prodP (tp a b l) (i + 1)) x).length (.ch 2) ∧ ux = [.chain (lstP (prodP (tp a b l) (i + 1)) x).length 1 3])) (fun (x, _, _, _) => 216001 - x) (0, .nils, [], m) (Nat.le_of_ble_eq_true rfl) rfl (by refine ⟨rfl, rfl, rfl, rfl, rfl, rfl, 2, rfl, ?_, ?_⟩ <;> repeat' (first | exact trivial | exact rfl | exact ⟨_, rfl, WkV.refl _⟩ | exact ⟨_, rfl, WkV.own _ _ _⟩ | exact Nat.zero_le _ | exact Mk.bd hm | exact Nat.le_of_ble_eq_true rfl | exact bdl_no (by assumption) | exact bdl_no (flat_no _) | exact bdl_no (ivs_no _) | exact bdl_no (svs_no _) | exact Nat.max_le.2 ⟨Nat.le_of_ble_eq_true rfl, bdl_no (ivs_no _)⟩ | exact Nat.max_le.2 ⟨Nat.le_of_ble_eq_true rfl, bdl_no (svs_no _)⟩ | apply And.intro)) ⟨em, Nat.zero_le _, .inl ⟨rfl, rfl, rfl⟩⟩ ?_
     rintro ⟨x, v, ux, m⟩ ⟨em, hx, hR⟩ M hM
     have hx1 : x ≤ 216001 → IntKind.i64.wrap (Int.ofNat x + 1) = Int.ofNat (x + 1) := fun h => wrapN (m := x + 1) (by omega)
     have hg : x < m → t.get (0 + x * 1) = some (.bool (bq (prodP (tp a b l) (i + 1) x))) := fun h => by
      rw [show 0 + x * 1 = x by omega]; exact hm.at (by omega)
     have hq := fun y => lstP_mem (prodP (tp a b l) (i + 1)) y x
     have hRl := lstP_len (prodP (tp a b l) (i + 1)) x
     have hst : lstP (prodP (tp a b l) (i + 1)) (x + 1) = @ite _ (prodP (tp a b l) (i + 1) x) (Classical.propDecidable _) (lstP (prodP (tp a b l) (i + 1)) x ++ [x]) (lstP (prodP (tp a b l) (i + 1)) x) := rfl
     rcases hR with ⟨e0, rfl, rfl⟩ | ⟨hne, rfl, rfl⟩
     ·obtain rfl : M = 2 := hM
      conv => whnf
      by_cases hx2 : x < m
      ·refine bool_true (ltN_t hx2) ?_
       conv => whnf
       refine bool_true (inR_t hx2) ?_
       conv => whnf
       refine bool_true (decide_eq_true (show 0 + x * 1 < m by omega)) ?_
       conv => whnf
       have hg := hg hx2
       by_cases hb : prodP (tp a b l) (i + 1) x
       ·rw [bq_t hb] at hg
        rw [if_pos hb, e0] at hst
        refine plan_as (getP_as hg) ?_
        conv => whnf
        exact ⟨(x + 1, .lst (ivs (zl [x])) 1 (.ch 2), [.chain 1 1 3], m), ⟨em, hx2, .inr ⟨by rw [hst]; simp, by rw [hst]; rfl, by rw [hst]; rfl⟩⟩, by show 216001 - (x + 1) < 216001 - x; omega, Nat.zero_le _, (by refine ⟨rfl, rfl, rfl, rfl, rfl, rfl, 3, rfl, ?_, ?_⟩ <;> repeat' (first | exact trivial | exact rfl | exact ⟨_, rfl, WkV.refl _⟩ | exact ⟨_, rfl, WkV.own _ _ _⟩ | exact Nat.zero_le _ | exact Mk.bd hm | exact ⟨_, rfl, WkV.int (hx1 (by omega))⟩ | exact Nat.le_of_ble_eq_true rfl | exact bdl_no (by assumption) | exact bdl_no (flat_no _) | exact bdl_no (ivs_no _) | exact bdl_no (svs_no _) | exact Nat.max_le.2 ⟨Nat.le_of_ble_eq_true rfl, bdl_no (ivs_no _)⟩ | exact Nat.max_le.2 ⟨Nat.le_of_ble_eq_true rfl, bdl_no (svs_no _)⟩ | apply And.intro))⟩
       ·rw [bq_f hb] at hg
        rw [if_neg hb, e0] at hst
        refine plan_as (getP_as hg) ?_
        conv => whnf
        exact ⟨(x + 1, .nils, [], m), ⟨em, hx2, .inl ⟨hst, rfl, rfl⟩⟩, by show 216001 - (x + 1) < 216001 - x; omega, Nat.le_refl _, (by refine ⟨rfl, rfl, rfl, rfl, rfl, rfl, 2, rfl, ?_, ?_⟩ <;> repeat' (first | exact trivial | exact rfl | exact ⟨_, rfl, WkV.refl _⟩ | exact ⟨_, rfl, WkV.own _ _ _⟩ | exact Nat.zero_le _ | exact Mk.bd hm | exact ⟨_, rfl, WkV.int (hx1 (by omega))⟩ | exact Nat.le_of_ble_eq_true rfl | exact bdl_no (by assumption) | exact bdl_no (flat_no _) | exact bdl_no (ivs_no _) | exact bdl_no (svs_no _) | exact Nat.max_le.2 ⟨Nat.le_of_ble_eq_true rfl, bdl_no (ivs_no _)⟩ | exact Nat.max_le.2 ⟨Nat.le_of_ble_eq_true rfl, bdl_no (svs_no _)⟩ | apply And.intro))⟩
      ·refine bool_false (ltN_f hx2) ?_
       conv => whnf
       have ex : x = 216001 := by omega
       subst ex
       refine .inl ?_
       conv => whnf
       have hi1 : IntKind.i64.wrap (Int.ofNat i + 1) = Int.ofNat (i + 1) := wrapN (m := i + 1) (by omega)
       exact ⟨i + 1, by omega, by show k - (i + 1) < k - i; omega, Nat.le_refl _, by show AtG _ _ _ _ _ _ _ [(5, sv (zl (lstP (prodP (tp a b l) (i + 1)) 216001))), (6, nv (i + 1))] _ _ _; rw [e0]; exact (by refine ⟨rfl, rfl, rfl, rfl, rfl, rfl, 1, rfl, ?_, ?_⟩ <;> repeat' (first | exact trivial | exact rfl | exact ⟨_, rfl, WkV.refl _⟩ | exact ⟨_, rfl, WkV.own _ _ _⟩ | exact Nat.zero_le _ | exact ⟨_, rfl, WkV.int hi1⟩ | exact Nat.le_of_ble_eq_true rfl | exact bdl_no (by assumption) | exact bdl_no (flat_no _) | exact bdl_no (ivs_no _) | exact bdl_no (svs_no _) | exact Nat.max_le.2 ⟨Nat.le_of_ble_eq_true rfl, bdl_no (ivs_no _)⟩ | exact Nat.max_le.2 ⟨Nat.le_of_ble_eq_true rfl, bdl_no (svs_no _)⟩ | apply And.intro))⟩
     ·obtain rfl : M = 3 := hM
      conv => whnf
      by_cases hx2 : x < m
      ·refine bool_true (ltN_t hx2) ?_
       conv => whnf
       refine bool_true (inR_t hx2) ?_
       conv => whnf
       refine bool_true (decide_eq_true (show 0 + x * 1 < m by omega)) ?_
       conv => whnf
       have hg := hg hx2
       by_cases hb : prodP (tp a b l) (i + 1) x
       ·rw [bq_t hb] at hg
        rw [if_pos hb] at hst
        refine plan_as (getP_as hg) ?_
        conv => whnf
        refine bool_true (decide_eq_true (show ((lstP (prodP (tp a b l) (i + 1)) x).length + (0 + 1)) * 8 ≤ 140737488355328 by omega)) ?_
        conv => whnf
        refine bool_true (decide_eq_true (show (lstP (prodP (tp a b l) (i + 1)) x).length + (0 + 1) ≤ 9223372036854775807 by omega)) ?_
        conv => whnf
        refine bool_true (lenIs_zl (lstP (prodP (tp a b l) (i + 1)) x)) ?_
        conv => whnf
        refine bool_true (decide_eq_true rfl) ?_
        conv => whnf
        exact ⟨(x + 1, .lst (ivs (zl (lstP (prodP (tp a b l) (i + 1)) x ++ [x]))) (lstP (prodP (tp a b l) (i + 1)) x ++ [x]).length (.ch 2), [.chain (lstP (prodP (tp a b l) (i + 1)) x ++ [x]).length 1 3], m), ⟨em, hx2, .inr ⟨by rw [hst]; simp, by rw [hst], by rw [hst]⟩⟩, by show 216001 - (x + 1) < 216001 - x; omega, Nat.le_refl _, (by refine ⟨rfl, rfl, rfl, rfl, rfl, rfl, 3, rfl, ?_, ?_⟩ <;> repeat' (first | exact trivial | exact rfl | exact ⟨_, rfl, WkV.refl _⟩ | exact ⟨_, rfl, WkV.own _ _ _⟩ | exact Nat.zero_le _ | exact Mk.bd hm | exact ⟨_, rfl, WkV.int (hx1 (by omega))⟩ | exact ⟨_, rfl, WkV.eq (app_ok _ _ _)⟩ | exact app_ch _ _ | exact Nat.le_of_ble_eq_true rfl | exact bdl_no (by assumption) | exact bdl_no (flat_no _) | exact bdl_no (ivs_no _) | exact bdl_no (svs_no _) | exact Nat.max_le.2 ⟨Nat.le_of_ble_eq_true rfl, bdl_no (ivs_no _)⟩ | exact Nat.max_le.2 ⟨Nat.le_of_ble_eq_true rfl, bdl_no (svs_no _)⟩ | apply And.intro))⟩
       ·rw [bq_f hb] at hg
        rw [if_neg hb] at hst
        refine plan_as (getP_as hg) ?_
        conv => whnf
        exact ⟨(x + 1, .lst (ivs (zl (lstP (prodP (tp a b l) (i + 1)) x))) (lstP (prodP (tp a b l) (i + 1)) x).length (.ch 2), [.chain (lstP (prodP (tp a b l) (i + 1)) x).length 1 3], m), ⟨em, hx2, .inr ⟨by rw [hst]; exact hne, by rw [hst], by rw [hst]⟩⟩, by show 216001 - (x + 1) < 216001 - x; omega, Nat.le_refl _, (by refine ⟨rfl, rfl, rfl, rfl, rfl, rfl, 3, rfl, ?_, ?_⟩ <;> repeat' (first | exact trivial | exact rfl | exact ⟨_, rfl, WkV.refl _⟩ | exact ⟨_, rfl, WkV.own _ _ _⟩ | exact Nat.zero_le _ | exact Mk.bd hm | exact ⟨_, rfl, WkV.int (hx1 (by omega))⟩ | exact Nat.le_of_ble_eq_true rfl | exact bdl_no (by assumption) | exact bdl_no (flat_no _) | exact bdl_no (ivs_no _) | exact bdl_no (svs_no _) | exact Nat.max_le.2 ⟨Nat.le_of_ble_eq_true rfl, bdl_no (ivs_no _)⟩ | exact Nat.max_le.2 ⟨Nat.le_of_ble_eq_true rfl, bdl_no (svs_no _)⟩ | apply And.intro))⟩
      ·refine bool_false (ltN_f hx2) ?_
       conv => whnf
       have ex : x = 216001 := by omega
       subst ex
       refine .inl ?_
       conv => whnf
       have hi1 : IntKind.i64.wrap (Int.ofNat i + 1) = Int.ofNat (i + 1) := wrapN (m := i + 1) (by omega)
       have e5 : sv (zl (lstP (prodP (tp a b l) (i + 1)) 216001)) = nl (zl (lstP (prodP (tp a b l) (i + 1)) 216001)) := by
        rcases sv_cases (zl (lstP (prodP (tp a b l) (i + 1)) 216001)) with ⟨k, _⟩ | k
        ·exact absurd (List.map_eq_nil_iff.1 k) hne
        ·exact k
       have lq := ivs_no (zl (lstP (prodP (tp a b l) (i + 1)) 216001))
       exact ⟨i + 1, by omega, by show k - (i + 1) < k - i; omega, Nat.le_refl _, by show AtG _ _ _ _ _ _ _ [(5, sv (zl (lstP (prodP (tp a b l) (i + 1)) 216001))), (6, nv (i + 1))] _ _ _; rw [e5]; exact (by refine ⟨rfl, rfl, rfl, rfl, rfl, rfl, 1, rfl, ?_, ?_⟩ <;> repeat' (first | exact trivial | exact rfl | exact ⟨_, rfl, WkV.refl _⟩ | exact ⟨_, rfl, WkV.own _ _ _⟩ | exact Nat.zero_le _ | exact ⟨_, rfl, WkV.int hi1⟩ | exact ⟨_, rfl, wkv_zl _ _⟩ | exact Nat.le_of_ble_eq_true rfl | exact bdl_no (by assumption) | exact bdl_no (flat_no _) | exact bdl_no (ivs_no _) | exact bdl_no (svs_no _) | exact Nat.max_le.2 ⟨Nat.le_of_ble_eq_true rfl, bdl_no (ivs_no _)⟩ | exact Nat.max_le.2 ⟨Nat.le_of_ble_eq_true rfl, bdl_no (svs_no _)⟩ | apply And.intro))⟩
   ·refine bool_false (ltN_f h) ?_
    conv => whnf
    refine .inl ?_
    conv => whnf
    rw [e0k (by omega), e]
    exact ⟨_, rfl, Wk.refl _⟩
end
end Go.Abs.Seat

/-! Whether a fraction can be one of some pairs. -/
namespace Go.Abs.Seat
noncomputable section
open Go Go.Abs Go.Proofs.Tryz
set_option maxRecDepth 100000
set_option maxHeartbeats 40000000
attribute [local irreducible] IntKind.wrap pEq

structure MB (v : AV) (m : Nat) (q : Nat → Prop) : Prop where
 sh : ∃ B, v = .lst B m .no ∧ Lives noL B ∧ ∀ x, x < m → nth B x = some (.bool (bq (q x)))

abbrev whv (a b p s : Int) (N T : AV) (S M : List AV) : AV := .agg [iv a, iv b, iv p, iv s, N, T, .lst S S.length .no, .lst M M.length .no]

theorem maxI_N (x y : Nat) : maxI (Int.ofNat x) (Int.ofNat y) = Int.ofNat (Nat.max x y) := by
 unfold maxI
 show (if ((y : Nat) : Int) > ((x : Nat) : Int) then ((y : Nat) : Int) else ((x : Nat) : Int)) = ((max x y : Nat) : Int)
 split <;> omega

theorem can_pure {N T : AV} {l : List Int} (hN : IL N l) {tl : List Int} (hT : T = sv tl) (a b p s : Int) {S M : List AV} (lS : Lives noL S) (lM : Lives noL M) {k m : Nat} {v : AV} {mk : Nat → Prop} (hk : nth M k = some v) (hkl : k < M.length) (hv : MB v m mk) (hm : m ≤ 216001)
  (x y : Nat) (hx : 1 ≤ x) (hx2 : x ≤ 100000000) (_hy : 1 ≤ y) (hy2 : y ≤ 100000000) :
  Pure prog 163 [whv a b p s N T S M, nv k, fv (Int.ofNat x) (Int.ofNat y)] (.bool (bq (∃ n, 1 ≤ n ∧ n * Nat.max x y < m ∧ mk (n * x) ∧ mk (n * y)))) := by
 have lN := hN.no
 subst hT
 have lT := sv_no tl
 obtain ⟨B, rfl, lB, hB⟩ := hv.sh
 have hmx : Nat.max x y ≤ 100000000 := Nat.max_le.2 ⟨hx2, hy2⟩
 have hmx1 : x ≤ Nat.max x y := Nat.le_max_left _ _
 have hmx2 : y ≤ Nat.max x y := Nat.le_max_right _ _
 have hmx0 : 1 ≤ Nat.max x y := Nat.le_trans hx hmx1
 have em := maxI_N x y
 generalize Nat.max x y = z at *
 rcases hN.cs with rfl | rfl <;> rcases sv_cases tl with ⟨_, e⟩ | e
 all_goals
  rw [e] at lT ⊢
  refine pure_sym hE rfl (by repeat' (first | exact trivial | assumption | exact flat_no _ | exact (fun _ h => nomatch h) | apply And.intro)) (by repeat' (first | exact trivial | assumption | exact flat_no _ | exact (fun _ h => nomatch h) | apply And.intro)) fun S q pc hS hq hC hE => ?_
  conv => whnf
  refine bool_true (inR_t hkl) ?_
  conv => whnf
  refine plan_as (nthP (show nth M (k * 1) = some (.lst B m .no) by rw [Nat.mul_one]; exact hk)) ?_
  conv => whnf
  refine sym_loop hE hS (A := Nat) [5, 7] (fun n => [(8, nv n)]) (fun _ => []) (fun n => 1 ≤ n ∧ n ≤ m + 1 ∧ ∀ j, 1 ≤ j → j < n → ¬ (j * z < m ∧ mk (j * x) ∧ mk (j * y))) (fun n => m + 1 - n) 1 rfl rfl (by refine ⟨rfl, rfl, rfl, rfl, ?_, ?_⟩ <;> repeat' (first | exact trivial | exact rfl | exact Nat.zero_le _ | exact Nat.le_of_ble_eq_true rfl | exact bdl_no (by assumption) | exact bdl_no (flat_no _) | exact bdl_no (ivs_no _) | exact Nat.max_le.2 ⟨Nat.le_of_ble_eq_true rfl, bdl_no (ivs_no _)⟩ | apply And.intro)) ⟨Nat.le_refl _, by omega, fun j h1 h2 => by omega⟩ ?_
  intro n ⟨hn1, hn2, hno⟩
  have q1 : n * z ≤ 216002 * 100000000 := Nat.mul_le_mul (by omega) hmx
  have q2 : n * x ≤ n * z := Nat.mul_le_mul_left _ hmx1
  have q3 : n * y ≤ n * z := Nat.mul_le_mul_left _ hmx2
  have q4 : n * 1 ≤ n * z := Nat.mul_le_mul_left _ hmx0
  have hn1w : IntKind.i64.wrap (Int.ofNat n + 1) = Int.ofNat (n + 1) := wrapN (m := n + 1) (by omega)
  conv => whnf
  by_cases h : n * z < m
  ·refine bool_true ((show decide (IntKind.i64.wrap (Int.ofNat n * maxI (Int.ofNat x) (Int.ofNat y)) < (m : Int)) = true by rw [em, mulN (a := n) (b := z) (by omega)]; exact decide_eq_true (by show ((n * z : Nat) : Int) < (m : Int); omega))) ?_
   conv => whnf
   refine bool_true ((show inR (IntKind.i64.wrap (Int.ofNat n * Int.ofNat x)) m = true by rw [mulN (a := n) (b := x) (by omega)]; exact inR_t (by omega))) ?_
   conv => whnf
   refine plan_as (nthP (show nth B ((IntKind.i64.wrap (Int.ofNat n * Int.ofNat x)).toNat * 1) = some (.bool (bq (mk (n * x)))) by rw [mulN (a := n) (b := x) (by omega)]; show nth B (n * x * 1) = _; rw [Nat.mul_one]; exact hB _ (by omega))) ?_
   conv => whnf
   by_cases h1 : mk (n * x)
   ·rw [bq_t h1]
    conv => whnf
    refine bool_true ((show inR (IntKind.i64.wrap (Int.ofNat n * Int.ofNat y)) m = true by rw [mulN (a := n) (b := y) (by omega)]; exact inR_t (by omega))) ?_
    conv => whnf
    refine plan_as (nthP (show nth B ((IntKind.i64.wrap (Int.ofNat n * Int.ofNat y)).toNat * 1) = some (.bool (bq (mk (n * y)))) by rw [mulN (a := n) (b := y) (by omega)]; show nth B (n * y * 1) = _; rw [Nat.mul_one]; exact hB _ (by omega))) ?_
    conv => whnf
    by_cases h2 : mk (n * y)
    ·rw [bq_t h2]
     conv => whnf
     rw [bq_t ⟨n, hn1, h, h1, h2⟩]
     exact ⟨_, rfl, Wk.refl _⟩
    ·rw [bq_f h2]
     conv => whnf
     exact ⟨n + 1, ⟨by omega, by omega, fun j k1 k2 k3 => by
      by_cases e : j = n
      ·subst e; exact h2 k3.2.2
      ·exact hno j k1 (by omega) k3⟩, by show m + 1 - (n + 1) < m + 1 - n; omega, (by refine ⟨rfl, rfl, rfl, rfl, ?_, ?_⟩ <;> repeat' (first | exact trivial | exact rfl | exact Nat.zero_le _ | exact congrArg (fun z => some (AV.int .i64 z)) hn1w | exact Nat.le_of_ble_eq_true rfl | exact bdl_no (by assumption) | exact bdl_no (flat_no _) | exact bdl_no (ivs_no _) | exact Nat.max_le.2 ⟨Nat.le_of_ble_eq_true rfl, bdl_no (ivs_no _)⟩ | apply And.intro))⟩
   ·rw [bq_f h1]
    conv => whnf
    exact ⟨n + 1, ⟨by omega, by omega, fun j k1 k2 k3 => by
     by_cases e : j = n
     ·subst e; exact h1 k3.2.1
     ·exact hno j k1 (by omega) k3⟩, by show m + 1 - (n + 1) < m + 1 - n; omega, (by refine ⟨rfl, rfl, rfl, rfl, ?_, ?_⟩ <;> repeat' (first | exact trivial | exact rfl | exact Nat.zero_le _ | exact congrArg (fun z => some (AV.int .i64 z)) hn1w | exact Nat.le_of_ble_eq_true rfl | exact bdl_no (by assumption) | exact bdl_no (flat_no _) | exact bdl_no (ivs_no _) | exact Nat.max_le.2 ⟨Nat.le_of_ble_eq_true rfl, bdl_no (ivs_no _)⟩ | apply And.intro))⟩
  ·refine bool_false ((show decide (IntKind.i64.wrap (Int.ofNat n * maxI (Int.ofNat x) (Int.ofNat y)) < (m : Int)) = false by rw [em, mulN (a := n) (b := z) (by omega)]; exact decide_eq_false (by show ¬ ((n * z : Nat) : Int) < (m : Int); omega))) ?_
   conv => whnf
   rw [bq_f fun ⟨j, k1, k2, k3⟩ => by
    by_cases e : j < n
    ·exact hno j k1 e ⟨k2, k3⟩
    ·have : n * z ≤ j * z := Nat.mul_le_mul_right _ (by omega)
     omega]
   exact ⟨_, rfl, Wk.refl _⟩
end
end Go.Abs.Seat

/-! The document's first train. -/
namespace Go.Abs.Seat
noncomputable section
open Go Go.Abs Go.Proofs.Tryz
set_option maxRecDepth 100000
set_option maxHeartbeats 40000000
attribute [local irreducible] IntKind.wrap pEq

def zp (t : List (Nat × Nat)) : List (Int × Int) := t.map fun p => (Int.ofNat p.1, Int.ofNat p.2)
theorem zp_len (t : List (Nat × Nat)) : (zp t).length = t.length := List.length_map _
def trA : List (Nat × Nat) → AV
 | [] => .nils
 |p :: r => pv (zp (p :: r))
theorem trA_no (t : List (Nat × Nat)) : Live noL (trA t) := by
 cases t with
 |nil => trivial
 |cons p r => exact pv_no _
def fV : Option (List (Nat × Nat)) → AV
 |none => .tup [.nils, .bool false]
 |some t => .tup [trA t, .bool true]
theorem fV_no (r : Option (List (Nat × Nat))) : Live noL (fV r) := by
 cases r with
 |none => exact ⟨trivial, trivial, trivial⟩
 |some t => exact ⟨trA_no t, trivial, trivial⟩
theorem takeN_flat (l : List (Int × Int)) : takeN (l.length * 2) (flat l) = some (flat l) := by
 have := takeN_all (flat l)
 rwa [flat_len] at this
theorem allCells_flat : ∀ l : List (Int × Int), allCells (flat l) = true
 | [] => rfl
 | _ :: r => allCells_flat r

theorem ko_rT {x : Nat} {c : Bool} {E : Env} {S : Sub} {o : Oper} {K : KE} {tm : Tr AV} {df : List ADf} {pm : APm} {rd : Bool} {h : Tr AObj} {n b : Nat} {wr : List Nat} (hc : c = true) (hk : opRun E S o K tm df pm rd h n b wr) : @Bool.rec (fun _ => KO) opSkip opRun (@Bool.rec (fun _ => Bool) (@Bool.rec (fun _ => Bool) true false (x, true).snd) (x, true).snd c) E S o K tm df pm rd h n b wr := by subst hc; exact hk
theorem ko_sT {x : Nat} {c : Bool} {E : Env} {S : Sub} {o : Oper} {K : KE} {tm : Tr AV} {df : List ADf} {pm : APm} {rd : Bool} {h : Tr AObj} {n b : Nat} {wr : List Nat} (hc : c = false) (hk : opSkip E S o K tm df pm rd h n b wr) : @Bool.rec (fun _ => KO) opSkip opRun (@Bool.rec (fun _ => Bool) (@Bool.rec (fun _ => Bool) true false (x, true).snd) (x, true).snd c) E S o K tm df pm rd h n b wr := by subst hc; exact hk
theorem ko_rF {x : Nat} {c : Bool} {E : Env} {S : Sub} {o : Oper} {K : KE} {tm : Tr AV} {df : List ADf} {pm : APm} {rd : Bool} {h : Tr AObj} {n b : Nat} {wr : List Nat} (hc : c = false) (hk : opRun E S o K tm df pm rd h n b wr) : @Bool.rec (fun _ => KO) opSkip opRun (@Bool.rec (fun _ => Bool) (@Bool.rec (fun _ => Bool) true false (x, false).snd) (x, false).snd c) E S o K tm df pm rd h n b wr := by subst hc; exact hk
theorem ko_sF {x : Nat} {c : Bool} {E : Env} {S : Sub} {o : Oper} {K : KE} {tm : Tr AV} {df : List ADf} {pm : APm} {rd : Bool} {h : Tr AObj} {n b : Nat} {wr : List Nat} (hc : c = true) (hk : opSkip E S o K tm df pm rd h n b wr) : @Bool.rec (fun _ => KO) opSkip opRun (@Bool.rec (fun _ => Bool) (@Bool.rec (fun _ => Bool) true false (x, false).snd) (x, false).snd c) E S o K tm df pm rd h n b wr := by subst hc; exact hk
theorem pick_t {t : Bool} {a b : AV} (h : t = true) : pPick (.bool t) a b = Plan.ret a := by subst h; rfl
theorem pick_f {t : Bool} {a b : AV} (h : t = false) : pPick (.bool t) a b = Plan.ret b := by subst h; rfl

theorem split3 {P : Prop} (o : Option (List (Nat × Nat))) (hn : o = none → P) (h0 : o = some [] → P) (h1 : ∀ q r, o = some (q :: r) → P) : P := by
 rcases o with _ | _ | ⟨q, r⟩
 ·exact hn rfl
 ·exact h0 rfl
 ·exact h1 q r rfl

theorem rFirst_pure {N : AV} {l : List Int} (h : IL N l) (hl : l.length < 4611686018427387904) (a b : Nat) (ha : 1 ≤ a) (hab : a ≤ b) (hb : b ≤ 60) (p s : Int) : ∀ (k : Nat), k ≤ 3 → ∀ (X Y : Nat) (f : Nat × Nat), X ≤ 216000 → Y ≤ 216000 → 1 ≤ f.1 → f.1 ≤ 60 → f.2 ≤ 60 →
  Pure prog 98 [rv (Int.ofNat a) (Int.ofNat b) p s N, nv X, nv Y, nv k, fv (Int.ofNat f.1) (Int.ofNat f.2)] (fV (fstT (tp a b l) k X Y f)) := by
 have lN := h.no
 have cp : ∀ n : Nat, Pure prog 90 [rv (Int.ofNat a) (Int.ofNat b) p s N, nv n] (.bool (bq (tp a b l n))) := fun n => by
  have := cut_pure h hl (Int.ofNat a) (Int.ofNat b) p s (Int.ofNat n)
  rwa [show decide (cutP (Int.ofNat a) (Int.ofNat b) l (Int.ofNat n)) = bq (tp a b l n) by
   by_cases k : tp a b l n
   ·rw [bq_t k]; exact decide_eq_true k
   ·rw [bq_f k]; exact decide_eq_false k] at this
 have hN := h.cs
 clear h
 intro k
 induction k with
 |zero =>
  intro _ X Y f hX hY _ _ _
  have lv := fV_no (fstT (tp a b l) 0 X Y f)
  have e : fV (fstT (tp a b l) 0 X Y f) = .tup [.nils, .bool (decide (X = 1 ∧ Y = 1))] := by
   by_cases h : X = 1 ∧ Y = 1
   ·rw [fstT_some (t := []) ⟨by rw [Vt]; exact h, fun u _ k => (by cases u <;> simp [ltL] at k)⟩, decide_eq_true h]; rfl
   ·rw [fstT_none fun t ht => by
     cases t with
     |nil => rw [Vt] at ht; exact h ht
     |cons p r => simp [Vt] at ht, decide_eq_false h]; rfl
  rw [e] at lv ⊢
  rcases hN with rfl | rfl
  all_goals
   refine pure_sym hE rfl (by repeat' (first | exact trivial | assumption | exact flat_no _ | exact (fun _ h => nomatch h) | apply And.intro)) (by repeat' (first | exact trivial | assumption | exact flat_no _ | exact (fun _ h => nomatch h) | apply And.intro)) fun S q pc hS hq hC hE => ?_
   conv => whnf
   by_cases h1 : X = 1
   ·rw [show (Int.ofNat X == 1) = true from (eqI_dec X 1).trans (decide_eq_true h1)]
    conv => whnf
    refine ⟨_, rfl, ?_⟩
    rw [show decide (X = 1 ∧ Y = 1) = decide (Y = 1) from decide_eq_decide.2 ⟨fun h => h.2, fun h => ⟨h1, h⟩⟩, ← eqI_dec Y 1]
    exact Wk.refl _
   ·rw [show (Int.ofNat X == 1) = false from (eqI_dec X 1).trans (decide_eq_false h1)]
    conv => whnf
    rw [decide_eq_false fun h => h1 h.1]
    exact ⟨_, rfl, Wk.refl _⟩
 |succ k ih =>
  intro hk X Y f hX hY hf1 hf2 hf3
  have lv := fV_no (fstT (tp a b l) (k + 1) X Y f)
  have recA : ∀ x y X Y : Nat, X ≤ 216000 → Y ≤ 216000 → 1 ≤ x → 1 ≤ y → x ≤ 60 → y ≤ 60 → IntKind.i64.wrap ((Int.ofNat X).tdiv (Int.ofNat x)) = Int.ofNat (X / x) → IntKind.i64.wrap ((Int.ofNat Y).tdiv (Int.ofNat y)) = Int.ofNat (Y / y) → IntKind.i64.wrap (Int.ofNat (k + 1) - 1) = Int.ofNat k → ∀ o, fstT (tp a b l) k (X / x) (Y / y) (x, y) = o →
    Pure prog 98 [rv (Int.ofNat a) (Int.ofNat b) p s N, .int .i64 (IntKind.i64.wrap ((Int.ofNat X).tdiv (Int.ofNat x))), .int .i64 (IntKind.i64.wrap ((Int.ofNat Y).tdiv (Int.ofNat y))), .int .i64 (IntKind.i64.wrap (Int.ofNat (k + 1) - 1)), fv (Int.ofNat x) (Int.ofNat y)] (fV o) := fun x y X Y hX hY hx hy hx2 hy2 e1 e3 e4 o hr => by
   have d1 := Nat.div_le_self X x
   have d2 := Nat.div_le_self Y y
   have pf := ih (by omega) (X / x) (Y / y) (x, y) (by omega) (by omega) hx hx2 hy2
   rw [hr] at pf
   rw [e1, e3, e4]
   exact pf
  have recN := fun x y X Y hX hY hx hy hx2 hy2 e1 e3 e4 hr => recA x y X Y hX hY hx hy hx2 hy2 e1 e3 e4 none hr
  have rec0 := fun x y X Y hX hY hx hy hx2 hy2 e1 e3 e4 hr => recA x y X Y hX hY hx hy hx2 hy2 e1 e3 e4 (some []) hr
  have rec1 := fun x y X Y hX hY hx hy hx2 hy2 e1 e3 e4 q r hr => recA x y X Y hX hY hx hy hx2 hy2 e1 e3 e4 (some (q :: r)) hr
  have ht60 : ∀ n, tp a b l n → n ≤ 60 := fun n h => (tp_le ha hb h).2
  rcases hN with rfl | rfl
  all_goals
   refine pure_sym hE rfl (by repeat' (first | exact trivial | assumption | exact flat_no _ | exact (fun _ h => nomatch h) | apply And.intro)) (by repeat' (first | exact trivial | assumption | exact flat_no _ | exact (fun _ h => nomatch h) | apply And.intro)) fun S q pc hS hq hC hE => ?_
   conv => whnf
   rw [show (Int.ofNat (k + 1) == 0) = false from rfl]
   conv => whnf
   refine sym_loopG hE hS (A := Nat) [1, 2, 3, 5, 9] (fun x => [(12, nv x)]) (fun _ => []) (fun _ => []) (fun x => 1 ≤ x ∧ x ≤ 61 ∧ ∀ q u, q.1 < x → ¬ Vt (tp a b l) (k + 1) X Y f (q :: u)) (fun x => 61 - x) f.1 (Nat.le_of_ble_eq_true rfl) rfl (by refine ⟨rfl, rfl, rfl, rfl, rfl, rfl, 2, rfl, ?_, ?_⟩ <;> repeat' (first | exact trivial | exact rfl | exact ⟨_, rfl, WkV.refl _⟩ | exact ⟨_, rfl, WkV.own _ _ _⟩ | exact Nat.zero_le _ | exact Nat.le_of_ble_eq_true rfl | exact bdl_no (by assumption) | exact bdl_no (flat_no _) | exact bdl_no (ivs_no _) | exact bdl_no (svs_no _) | exact Nat.max_le.2 ⟨Nat.le_of_ble_eq_true rfl, bdl_no (ivs_no _)⟩ | exact Nat.max_le.2 ⟨Nat.le_of_ble_eq_true rfl, bdl_no (svs_no _)⟩ | apply And.intro)) ⟨hf1, by omega, fun q u hq hv => by rw [Vt] at hv; exact hv.1.2.2 (.inl hq)⟩ ?_
   intro x ⟨hx1, hx2, hnoA⟩ M hM
   obtain rfl : M = 2 := hM
   have hx1w : x ≤ 60 → IntKind.i64.wrap (Int.ofNat x + 1) = Int.ofNat (x + 1) := fun h => wrapN (m := x + 1) (by omega)
   conv => whnf
   by_cases hxb : x ≤ b
   ·refine bool_true (decide_eq_true (show Int.ofNat x ≤ Int.ofNat b by show (x : Int) ≤ (b : Int); omega)) ?_
    conv => whnf
    refine sym_loopG hE hS (A := Nat) [1, 2, 3, 5, 9, 12] (fun y => [(13, nv y)]) (fun _ => []) (fun _ => []) (fun y => 1 ≤ y ∧ y ≤ 61 ∧ ∀ q u, (q.1 < x ∨ q.1 = x ∧ q.2 < y) → ¬ Vt (tp a b l) (k + 1) X Y f (q :: u)) (fun y => 61 - y) a (Nat.le_of_ble_eq_true rfl) rfl (by refine ⟨rfl, rfl, rfl, rfl, rfl, rfl, 2, rfl, ?_, ?_⟩ <;> repeat' (first | exact trivial | exact rfl | exact ⟨_, rfl, WkV.refl _⟩ | exact ⟨_, rfl, WkV.own _ _ _⟩ | exact Nat.zero_le _ | exact Nat.le_of_ble_eq_true rfl | exact bdl_no (by assumption) | exact bdl_no (flat_no _) | exact bdl_no (ivs_no _) | exact bdl_no (svs_no _) | exact Nat.max_le.2 ⟨Nat.le_of_ble_eq_true rfl, bdl_no (ivs_no _)⟩ | exact Nat.max_le.2 ⟨Nat.le_of_ble_eq_true rfl, bdl_no (svs_no _)⟩ | apply And.intro)) ⟨ha, by omega, fun q u hq hv => by
     rcases hq with hq | ⟨_, hq⟩
     ·exact hnoA q u hq hv
     ·rw [Vt] at hv
      have := tp_ge hv.1.2.1
      omega⟩ ?_
    intro y ⟨hy1, hy2, hno⟩ M hM
    obtain rfl : M = 2 := hM
    have hy1w : y ≤ 60 → IntKind.i64.wrap (Int.ofNat y + 1) = Int.ofNat (y + 1) := fun h => wrapN (m := y + 1) (by omega)
    conv => whnf
    by_cases hyb : y ≤ b
    ·have hyd : decide (Int.ofNat y ≤ Int.ofNat b) = true := decide_eq_true (by show (y : Int) ≤ (b : Int); omega)
     repeat (refine ko_true (by rw [hyd]) ?_; conv => whnf)
     refine bool_true (ne0 hx1) ?_
     conv => whnf
     repeat (refine ko_true (by rw [hyd]) ?_; conv => whnf)
     refine plan_as (pick_t (hyd)) ?_
     conv => whnf
     by_cases hd1 : X % x = 0
     ·refine bool_true (eqN_t (b := 0) hd1) ?_
      conv => whnf
      refine bool_true (ne0 hy1) ?_
      conv => whnf
      have cx := cp x
      have cy := cp y
      by_cases hd2 : Y % y = 0
      ·have e2 : ((Int.ofNat Y).tmod (Int.ofNat y) != 0) = false := by show ((Int.ofNat (Y % y)) != 0) = false; rw [hd2]; rfl
       by_cases tx : tp a b l x
       ·rw [bq_t tx] at cx
        by_cases ty : tp a b l y
        ·rw [bq_t ty] at cy
         by_cases hbf : ltQ (x, y) f
         ·have pb := before_pure (Int.ofNat x) (Int.ofNat y) (Int.ofNat f.1) (Int.ofNat f.2)
          rw [decide_eq_true (ordP_lt.2 (by unfold ltQ at hbf; simp only [Int.ofNat_eq_natCast]; omega))] at pb
          have bad : ∀ u, ¬ Vt (tp a b l) (k + 1) X Y f ((x, y) :: u) := fun u hv => by rw [Vt] at hv; exact hv.1.2.2 hbf
          repeat ((first
           |refine ko_sT e2 ?_
           |refine ko_rF e2 ?_
           |refine plan_as (pick_f e2) ?_
           |refine bool_false e2 ?_
           |refine sym_pure hC (cx) ?_
           |refine sym_pure hC (cy) ?_
           |refine sym_pure hC (pb) ?_
           |refine sym_drawn hS (by kernel_rfl) ?_); conv => whnf)
          exact ⟨y + 1, ⟨by omega, by omega, fun q u hq hv => by
           rcases hq with hq | ⟨hq1, hq2⟩
           ·exact hno q u (.inl hq) hv
           ·by_cases e : q.2 = y
            ·obtain ⟨q1, q2⟩ := q
             have e : q2 = y := e
             have hq1 : q1 = x := hq1
             subst e hq1
             exact bad u hv
            ·exact hno q u (.inr ⟨hq1, by omega⟩) hv⟩, by show 61 - (y + 1) < 61 - y; omega, Nat.le_refl _, (by refine ⟨rfl, rfl, rfl, rfl, rfl, rfl, 2, rfl, ?_, ?_⟩ <;> repeat' (first | exact trivial | exact rfl | exact ⟨_, rfl, WkV.refl _⟩ | exact ⟨_, rfl, WkV.own _ _ _⟩ | exact Nat.zero_le _ | exact ⟨_, rfl, WkV.int (hy1w (by omega))⟩ | exact Nat.le_of_ble_eq_true rfl | exact bdl_no (by assumption) | exact bdl_no (flat_no _) | exact bdl_no (ivs_no _) | exact bdl_no (svs_no _) | exact Nat.max_le.2 ⟨Nat.le_of_ble_eq_true rfl, bdl_no (ivs_no _)⟩ | exact Nat.max_le.2 ⟨Nat.le_of_ble_eq_true rfl, bdl_no (svs_no _)⟩ | apply And.intro))⟩
         ·have pb := before_pure (Int.ofNat x) (Int.ofNat y) (Int.ofNat f.1) (Int.ofNat f.2)
          rw [decide_eq_false (fun k => hbf (by have := ordP_lt.1 k; unfold ltQ; simp only [Int.ofNat_eq_natCast] at this; omega))] at pb
          have e1 : IntKind.i64.wrap ((Int.ofNat X).tdiv (Int.ofNat x)) = Int.ofNat (X / x) := quoN (by omega)
          have e3 : IntKind.i64.wrap ((Int.ofNat Y).tdiv (Int.ofNat y)) = Int.ofNat (Y / y) := quoN (by omega)
          have e4 : IntKind.i64.wrap (Int.ofNat (k + 1) - 1) = Int.ofNat k := wrapSub1 (m := k + 1) (by omega) (by omega)
          have d1 := Nat.div_le_self X x
          have d2 := Nat.div_le_self Y y
          refine split3 (fstT (tp a b l) k (X / x) (Y / y) (x, y)) (fun hr => ?_) (fun hr => ?_) (fun q r hr => ?_)
          ·have pf := recN x y X Y hX hY hx1 hy1 (by omega) (by omega) e1 e3 e4 hr
           have bad := fst_not ht60 (p := (x, y)) (X := X) (Y := Y) (f := f) hr
           repeat ((first
            |refine ko_sT e2 ?_
            |refine ko_rF e2 ?_
            |refine plan_as (pick_f e2) ?_
            |refine bool_false e2 ?_
            |refine sym_pure hC (cx) ?_
            |refine sym_pure hC (cy) ?_
            |refine sym_pure hC (pb) ?_
            |refine sym_drawn hS (by kernel_rfl) ?_); conv => whnf)
           refine bool_true (ne0 hx1) ?_
           conv => whnf
           refine bool_true (ne0 hy1) ?_
           conv => whnf
           refine sym_pure hC (pf) ?_
           conv => whnf
           refine sym_drawn hS (by kernel_rfl) ?_
           conv => whnf
           exact ⟨y + 1, ⟨by omega, by omega, fun q u hq hv => by
            rcases hq with hq | ⟨hq1, hq2⟩
            ·exact hno q u (.inl hq) hv
            ·by_cases e : q.2 = y
             ·obtain ⟨q1, q2⟩ := q
              have e : q2 = y := e
              have hq1 : q1 = x := hq1
              subst e hq1
              exact bad u hv
             ·exact hno q u (.inr ⟨hq1, by omega⟩) hv⟩, by show 61 - (y + 1) < 61 - y; omega, Nat.le_refl _, (by refine ⟨rfl, rfl, rfl, rfl, rfl, rfl, 2, rfl, ?_, ?_⟩ <;> repeat' (first | exact trivial | exact rfl | exact ⟨_, rfl, WkV.refl _⟩ | exact ⟨_, rfl, WkV.own _ _ _⟩ | exact Nat.zero_le _ | exact ⟨_, rfl, WkV.int (hy1w (by omega))⟩ | exact Nat.le_of_ble_eq_true rfl | exact bdl_no (by assumption) | exact bdl_no (flat_no _) | exact bdl_no (ivs_no _) | exact bdl_no (svs_no _) | exact Nat.max_le.2 ⟨Nat.le_of_ble_eq_true rfl, bdl_no (ivs_no _)⟩ | exact Nat.max_le.2 ⟨Nat.le_of_ble_eq_true rfl, bdl_no (svs_no _)⟩ | apply And.intro))⟩
          ·have pf := rec0 x y X Y hX hY hx1 hy1 (by omega) (by omega) e1 e3 e4 hr
           have hres := fst_found (p := (x, y)) (X := X) (Y := Y) (f := f) ⟨⟨tx, ty, hbf⟩, hd1, hd2⟩ hr (fun q u hq => hno q u (by unfold ltQ at hq; exact hq))
           repeat ((first
            |refine ko_sT e2 ?_
            |refine ko_rF e2 ?_
            |refine plan_as (pick_f e2) ?_
            |refine bool_false e2 ?_
            |refine sym_pure hC (cx) ?_
            |refine sym_pure hC (cy) ?_
            |refine sym_pure hC (pb) ?_
            |refine sym_drawn hS (by kernel_rfl) ?_); conv => whnf)
           refine bool_true (ne0 hx1) ?_
           conv => whnf
           refine bool_true (ne0 hy1) ?_
           conv => whnf
           refine sym_pure hC (pf) ?_
           conv => whnf
           refine sym_drawn hS (by kernel_rfl) ?_
           conv => whnf
           rw [hres]
           exact ⟨_, rfl, wk_tup (wk_own rfl)⟩
          ·have pf := rec1 x y X Y hX hY hx1 hy1 (by omega) (by omega) e1 e3 e4 q r hr
           have hres := fst_found (p := (x, y)) (X := X) (Y := Y) (f := f) ⟨⟨tx, ty, hbf⟩, hd1, hd2⟩ hr (fun q u hq => hno q u (by unfold ltQ at hq; exact hq))
           repeat ((first
            |refine ko_sT e2 ?_
            |refine ko_rF e2 ?_
            |refine plan_as (pick_f e2) ?_
            |refine bool_false e2 ?_
            |refine sym_pure hC (cx) ?_
            |refine sym_pure hC (cy) ?_
            |refine sym_pure hC (pb) ?_
            |refine sym_drawn hS (by kernel_rfl) ?_); conv => whnf)
           refine bool_true (ne0 hx1) ?_
           conv => whnf
           refine bool_true (ne0 hy1) ?_
           conv => whnf
           refine sym_pure hC (pf) ?_
           conv => whnf
           refine sym_drawn hS (by kernel_rfl) ?_
           conv => whnf
           refine plan_as (pSrc_eq (e := 97) (ys := flat (zp (q :: r))) (m := (zp (q :: r)).length) (l := flat (zp (q :: r))) (by kernel_rfl) rfl (takeN_flat (zp (q :: r)))) ?_
           conv => whnf
           have hz := zp_len r
           have hlen : (q :: r).length ≤ k := Nat.le_of_eq (Vt_len (fstT_of_some hr).1)
           rw [List.length_cons] at hlen
           refine bool_true (allCells_flat (zp (q :: r))) ?_
           conv => whnf
           refine bool_true (decide_eq_true (show (0 + 1 + ((zp r).length + 1)) * 16 ≤ 140737488355328 by omega)) ?_
           conv => whnf
           refine bool_true (decide_eq_true (show 0 + 1 + ((zp r).length + 1) ≤ 9223372036854775807 by omega)) ?_
           conv => whnf
           rw [hres]
           exact ⟨_, rfl, wk_tup (wk_own (xs := flat (zp ((x, y) :: q :: r))) (by show 0 + 1 + ((zp r).length + 1) = (zp r).length + 1 + 1; omega))⟩
        ·rw [bq_f ty] at cy
         have bad : ∀ u, ¬ Vt (tp a b l) (k + 1) X Y f ((x, y) :: u) := fun u hv => by rw [Vt] at hv; exact ty hv.1.2.1
         repeat ((first
          |refine ko_sT e2 ?_
          |refine ko_rF e2 ?_
          |refine plan_as (pick_f e2) ?_
          |refine bool_false e2 ?_
          |refine sym_pure hC (cx) ?_
          |refine sym_pure hC (cy) ?_
          |refine sym_drawn hS (by kernel_rfl) ?_); conv => whnf)
         exact ⟨y + 1, ⟨by omega, by omega, fun q u hq hv => by
          rcases hq with hq | ⟨hq1, hq2⟩
          ·exact hno q u (.inl hq) hv
          ·by_cases e : q.2 = y
           ·obtain ⟨q1, q2⟩ := q
            have e : q2 = y := e
            have hq1 : q1 = x := hq1
            subst e hq1
            exact bad u hv
           ·exact hno q u (.inr ⟨hq1, by omega⟩) hv⟩, by show 61 - (y + 1) < 61 - y; omega, Nat.le_refl _, (by refine ⟨rfl, rfl, rfl, rfl, rfl, rfl, 2, rfl, ?_, ?_⟩ <;> repeat' (first | exact trivial | exact rfl | exact ⟨_, rfl, WkV.refl _⟩ | exact ⟨_, rfl, WkV.own _ _ _⟩ | exact Nat.zero_le _ | exact ⟨_, rfl, WkV.int (hy1w (by omega))⟩ | exact Nat.le_of_ble_eq_true rfl | exact bdl_no (by assumption) | exact bdl_no (flat_no _) | exact bdl_no (ivs_no _) | exact bdl_no (svs_no _) | exact Nat.max_le.2 ⟨Nat.le_of_ble_eq_true rfl, bdl_no (ivs_no _)⟩ | exact Nat.max_le.2 ⟨Nat.le_of_ble_eq_true rfl, bdl_no (svs_no _)⟩ | apply And.intro))⟩
       ·rw [bq_f tx] at cx
        have bad : ∀ u, ¬ Vt (tp a b l) (k + 1) X Y f ((x, y) :: u) := fun u hv => by rw [Vt] at hv; exact tx hv.1.1
        repeat ((first
         |refine ko_sT e2 ?_
         |refine ko_rF e2 ?_
         |refine plan_as (pick_f e2) ?_
         |refine bool_false e2 ?_
         |refine sym_pure hC (cx) ?_
         |refine sym_pure hC (cy) ?_
         |refine sym_drawn hS (by kernel_rfl) ?_); conv => whnf)
        exact ⟨y + 1, ⟨by omega, by omega, fun q u hq hv => by
         rcases hq with hq | ⟨hq1, hq2⟩
         ·exact hno q u (.inl hq) hv
         ·by_cases e : q.2 = y
          ·obtain ⟨q1, q2⟩ := q
           have e : q2 = y := e
           have hq1 : q1 = x := hq1
           subst e hq1
           exact bad u hv
          ·exact hno q u (.inr ⟨hq1, by omega⟩) hv⟩, by show 61 - (y + 1) < 61 - y; omega, Nat.le_refl _, (by refine ⟨rfl, rfl, rfl, rfl, rfl, rfl, 2, rfl, ?_, ?_⟩ <;> repeat' (first | exact trivial | exact rfl | exact ⟨_, rfl, WkV.refl _⟩ | exact ⟨_, rfl, WkV.own _ _ _⟩ | exact Nat.zero_le _ | exact ⟨_, rfl, WkV.int (hy1w (by omega))⟩ | exact Nat.le_of_ble_eq_true rfl | exact bdl_no (by assumption) | exact bdl_no (flat_no _) | exact bdl_no (ivs_no _) | exact bdl_no (svs_no _) | exact Nat.max_le.2 ⟨Nat.le_of_ble_eq_true rfl, bdl_no (ivs_no _)⟩ | exact Nat.max_le.2 ⟨Nat.le_of_ble_eq_true rfl, bdl_no (svs_no _)⟩ | apply And.intro))⟩
      ·have e2 : ((Int.ofNat Y).tmod (Int.ofNat y) != 0) = true := bne_iff_ne.2 (show Int.ofNat (Y % y) ≠ 0 by intro k; exact hd2 (by exact_mod_cast Int.ofNat.inj k))
       have bad : ∀ u, ¬ Vt (tp a b l) (k + 1) X Y f ((x, y) :: u) := fun u hv => by rw [Vt] at hv; exact hd2 hv.2.1.2
       repeat ((first
        |refine ko_rT e2 ?_
        |refine ko_sF e2 ?_
        |refine plan_as (pick_t e2) ?_
        |refine bool_true e2 ?_
        |refine sym_pure hC (cx) ?_
        |refine sym_pure hC (cy) ?_
        |refine sym_drawn hS (by kernel_rfl) ?_); conv => whnf)
       exact ⟨y + 1, ⟨by omega, by omega, fun q u hq hv => by
        rcases hq with hq | ⟨hq1, hq2⟩
        ·exact hno q u (.inl hq) hv
        ·by_cases e : q.2 = y
         ·obtain ⟨q1, q2⟩ := q
          have e : q2 = y := e
          have hq1 : q1 = x := hq1
          subst e hq1
          exact bad u hv
         ·exact hno q u (.inr ⟨hq1, by omega⟩) hv⟩, by show 61 - (y + 1) < 61 - y; omega, Nat.le_refl _, (by refine ⟨rfl, rfl, rfl, rfl, rfl, rfl, 2, rfl, ?_, ?_⟩ <;> repeat' (first | exact trivial | exact rfl | exact ⟨_, rfl, WkV.refl _⟩ | exact ⟨_, rfl, WkV.own _ _ _⟩ | exact Nat.zero_le _ | exact ⟨_, rfl, WkV.int (hy1w (by omega))⟩ | exact Nat.le_of_ble_eq_true rfl | exact bdl_no (by assumption) | exact bdl_no (flat_no _) | exact bdl_no (ivs_no _) | exact bdl_no (svs_no _) | exact Nat.max_le.2 ⟨Nat.le_of_ble_eq_true rfl, bdl_no (ivs_no _)⟩ | exact Nat.max_le.2 ⟨Nat.le_of_ble_eq_true rfl, bdl_no (svs_no _)⟩ | apply And.intro))⟩
     ·refine bool_false (eqN_f (b := 0) hd1) ?_
      conv => whnf
      refine .inl ?_
      conv => whnf
      exact ⟨x + 1, ⟨by omega, by omega, fun q u hq hv => by
       by_cases e : q.1 = x
       ·have hv2 := hv
        rw [Vt, e] at hv2
        exact hd1 hv2.2.1.1
       ·exact hnoA q u (by omega) hv⟩, by show 61 - (x + 1) < 61 - x; omega, Nat.le_refl _, (by refine ⟨rfl, rfl, rfl, rfl, rfl, rfl, 2, rfl, ?_, ?_⟩ <;> repeat' (first | exact trivial | exact rfl | exact ⟨_, rfl, WkV.refl _⟩ | exact ⟨_, rfl, WkV.own _ _ _⟩ | exact Nat.zero_le _ | exact ⟨_, rfl, WkV.int (hx1w (by omega))⟩ | exact Nat.le_of_ble_eq_true rfl | exact bdl_no (by assumption) | exact bdl_no (flat_no _) | exact bdl_no (ivs_no _) | exact bdl_no (svs_no _) | exact Nat.max_le.2 ⟨Nat.le_of_ble_eq_true rfl, bdl_no (ivs_no _)⟩ | exact Nat.max_le.2 ⟨Nat.le_of_ble_eq_true rfl, bdl_no (svs_no _)⟩ | apply And.intro))⟩
    ·have hyd : decide (Int.ofNat y ≤ Int.ofNat b) = false := decide_eq_false (by show ¬ (y : Int) ≤ (b : Int); omega)
     repeat ((first
      |refine ko_sT hyd ?_
      |refine ko_rF hyd ?_
      |refine plan_as (pick_f hyd) ?_
      |refine bool_false hyd ?_
      |refine sym_drawn hS (by kernel_rfl) ?_); conv => whnf)
     refine .inl ?_
     conv => whnf
     exact ⟨x + 1, ⟨by omega, by omega, fun q u hq hv => by
      by_cases e : q.1 = x
      ·have hv2 := hv
       rw [Vt] at hv2
       have := tp_ge hv2.1.2.1
       exact hno q u (.inr ⟨e, by omega⟩) hv
      ·exact hnoA q u (by omega) hv⟩, by show 61 - (x + 1) < 61 - x; omega, Nat.le_refl _, (by refine ⟨rfl, rfl, rfl, rfl, rfl, rfl, 2, rfl, ?_, ?_⟩ <;> repeat' (first | exact trivial | exact rfl | exact ⟨_, rfl, WkV.refl _⟩ | exact ⟨_, rfl, WkV.own _ _ _⟩ | exact Nat.zero_le _ | exact ⟨_, rfl, WkV.int (hx1w (by omega))⟩ | exact Nat.le_of_ble_eq_true rfl | exact bdl_no (by assumption) | exact bdl_no (flat_no _) | exact bdl_no (ivs_no _) | exact bdl_no (svs_no _) | exact Nat.max_le.2 ⟨Nat.le_of_ble_eq_true rfl, bdl_no (ivs_no _)⟩ | exact Nat.max_le.2 ⟨Nat.le_of_ble_eq_true rfl, bdl_no (svs_no _)⟩ | apply And.intro))⟩
   ·refine bool_false (decide_eq_false (show ¬ Int.ofNat x ≤ Int.ofNat b by show ¬ (x : Int) ≤ (b : Int); omega)) ?_
    conv => whnf
    refine .inl ?_
    conv => whnf
    rw [fstT_none fun t ht => by
     cases t with
     |nil => simp [Vt] at ht
     |cons q u =>
      have h0 := ht
      rw [Vt] at ht
      have := tp_ge ht.1.1
      exact hnoA q u (by omega) h0]
    exact ⟨_, rfl, Wk.refl _⟩
end
end Go.Abs.Seat

/-! How great the products get: repeated numbers, and their products. -/
namespace Go.Abs.Seat
noncomputable section
open Go Go.Abs Go.Proofs.Tryz
set_option maxRecDepth 100000

theorem rep0 : Pure prog 132 [.lst [iv 60] 1 .full, nv 0] (.lst [] 0 .no) := by
 refine pure_symF hE rfl (by repeat' (first | exact trivial | assumption | exact flat_no _ | exact (fun _ h => nomatch h) | apply And.intro)) (by repeat' (first | exact trivial | assumption | exact flat_no _ | exact (fun _ h => nomatch h) | apply And.intro)) fun S q pc hS hq hC hE => ?_
 conv => whnf
 refine sym_call hC ?_
 conv => whnf
 refine sym_inline hE hS ?_
 conv => whnf
 refine sym_call hC ?_
 conv => whnf
 refine sym_inline hE hS ?_
 conv => whnf
 refine sym_unroll hE hS ?_
 conv => whnf
 exact ⟨_, rfl, FzV.slc (xs := []) rfl rfl (fun j hj => absurd hj (Nat.not_lt_zero j)) trivial⟩
theorem rep1 : Pure prog 132 [.lst [iv 60] 1 .full, nv 1] (.lst [iv 60] 1 .no) := by
 refine pure_symF hE rfl (by repeat' (first | exact trivial | assumption | exact flat_no _ | exact (fun _ h => nomatch h) | apply And.intro)) (by repeat' (first | exact trivial | assumption | exact flat_no _ | exact (fun _ h => nomatch h) | apply And.intro)) fun S q pc hS hq hC hE => ?_
 conv => whnf
 refine sym_call hC ?_
 conv => whnf
 refine sym_inline hE hS ?_
 conv => whnf
 refine sym_call hC ?_
 conv => whnf
 refine sym_inline hE hS ?_
 conv => whnf
 refine sym_unroll hE hS ?_
 conv => whnf
 exact ⟨_, rfl, FzV.slc (xs := [iv 60]) rfl rfl (fun j hj => by match j, hj with | 0, _ => rfl) (by repeat' (first | exact trivial | apply And.intro))⟩
theorem rep2 : Pure prog 132 [.lst [iv 60] 1 .full, nv 2] (.lst [iv 60, iv 60] 2 .no) := by
 refine pure_symF hE rfl (by repeat' (first | exact trivial | assumption | exact flat_no _ | exact (fun _ h => nomatch h) | apply And.intro)) (by repeat' (first | exact trivial | assumption | exact flat_no _ | exact (fun _ h => nomatch h) | apply And.intro)) fun S q pc hS hq hC hE => ?_
 conv => whnf
 refine sym_call hC ?_
 conv => whnf
 refine sym_inline hE hS ?_
 conv => whnf
 refine sym_call hC ?_
 conv => whnf
 refine sym_inline hE hS ?_
 conv => whnf
 refine sym_unroll hE hS ?_
 conv => whnf
 refine sym_drawn hS (by kernel_rfl) ?_
 conv => whnf
 refine sym_unroll hE hS ?_
 conv => whnf
 exact ⟨_, rfl, FzV.slc (xs := [iv 60, iv 60]) rfl rfl (fun j hj => by match j, hj with | 0, _ => rfl | 1, _ => rfl) (by repeat' (first | exact trivial | apply And.intro))⟩
theorem rep3 : Pure prog 132 [.lst [iv 60] 1 .full, nv 3] (.lst [iv 60, iv 60, iv 60] 3 .no) := by
 refine pure_symF hE rfl (by repeat' (first | exact trivial | assumption | exact flat_no _ | exact (fun _ h => nomatch h) | apply And.intro)) (by repeat' (first | exact trivial | assumption | exact flat_no _ | exact (fun _ h => nomatch h) | apply And.intro)) fun S q pc hS hq hC hE => ?_
 conv => whnf
 refine sym_call hC ?_
 conv => whnf
 refine sym_inline hE hS ?_
 conv => whnf
 refine sym_call hC ?_
 conv => whnf
 refine sym_inline hE hS ?_
 conv => whnf
 refine sym_unroll hE hS ?_
 conv => whnf
 refine sym_drawn hS (by kernel_rfl) ?_
 conv => whnf
 refine sym_unroll hE hS ?_
 conv => whnf
 refine sym_drawn hS (by kernel_rfl) ?_
 conv => whnf
 refine sym_unroll hE hS ?_
 conv => whnf
 exact ⟨_, rfl, FzV.slc (xs := [iv 60, iv 60, iv 60]) rfl rfl (fun j hj => by match j, hj with | 0, _ => rfl | 1, _ => rfl | 2, _ => rfl) (by repeat' (first | exact trivial | apply And.intro))⟩
theorem gPro0 : Goal [] 127 [ints .no []] (i64 1) := of_eq_true (by kernel_rfl)
theorem gPro1 : Goal [] 127 [ints .no [60]] (i64 60) := of_eq_true (by kernel_rfl)
theorem gPro2 : Goal [] 127 [ints .no [60, 60]] (i64 3600) := of_eq_true (by kernel_rfl)
theorem gPro3 : Goal [] 127 [ints .no [60, 60, 60]] (i64 216000) := of_eq_true (by kernel_rfl)
theorem pro0 : Pure prog 127 [.lst [] 0 .no] (iv 1) := gPro0.pure MOK.nil (by kernel_rfl) (by kernel_rfl)
theorem pro1 : Pure prog 127 [.lst [iv 60] 1 .no] (iv 60) := gPro1.pure MOK.nil (by kernel_rfl) (by kernel_rfl)
theorem pro2 : Pure prog 127 [.lst [iv 60, iv 60] 2 .no] (iv 3600) := gPro2.pure MOK.nil (by kernel_rfl) (by kernel_rfl)
theorem pro3 : Pure prog 127 [.lst [iv 60, iv 60, iv 60] 3 .no] (iv 216000) := gPro3.pure MOK.nil (by kernel_rfl) (by kernel_rfl)
end
end Go.Abs.Seat
