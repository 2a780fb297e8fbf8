/-
  The best of some settings.
-/
import Derived.Test.YtpjclnoehlflcaaGreatDoorT22
/-! The best of some settings. -/
namespace Go.Abs.Seat
open Go Go.Abs Go.Proofs.Tryz
set_option maxRecDepth 100000
set_option maxHeartbeats 4000000
attribute [local irreducible] IntKind.wrap pEq

/-- Settings that are listed. -/
abbrev sl (l : List (List Int)) : AV := .lst (svs l) l.length .no
theorem nth_svs1 {l : List (List Int)} {i : Nat} (h : i < l.length) : nth (svs l) (i * 1) = some (sv (gs l i)) := by rw [Nat.mul_one]; exact nth_svs l i h
theorem take_gs (l : List (List Int)) {i : Nat} (h : i < l.length) : l.take (i + 1) = l.take i ++ [gs l i] := by
  rw [List.take_succ_eq_append_getElem h]
  simp [gs, List.getD, h]
theorem take_ne {l : List (List Int)} {i : Nat} (h : i < l.length) : ¬ l.take (i + 1) = [] := fun e => by
  have := congrArg List.length e
  rw [List.length_take, List.length_nil] at this; omega
theorem gs_mem (l : List (List Int)) {i : Nat} (h : i < l.length) : gs l i ∈ l := by
  have e : gs l i = l[i] := by simp [gs, List.getD, h]
  rw [e]; exact List.getElem_mem h

theorem sv_cases (x : List Int) : x = [] ∧ sv x = .nils ∨ sv x = nl x := by
  cases x with
  | nil => exact .inl ⟨rfl, rfl⟩
  | cons _ _ => exact .inr rfl

theorem bestL_pure (l : List (List Int)) (hl : l.length < 4611686018427387904) (hx : ∀ x, x ∈ l → x.length < 4611686018427387904) :
    Pure prog 71 [sl l, .func (.func 72) [] []] (.tup [sv (bstS l), .bool (decide ((l.length : Int) > 0))]) := by
  have ls := svs_no l
  have lo := sv_no (bstS l)
  refine pure_sym hE rfl (by repeat' (first | exact trivial | assumption | exact flat_no _ | exact (fun _ h => nomatch h) | apply And.intro)) (by repeat' (first | exact trivial | assumption | exact flat_no _ | exact (fun _ h => nomatch h) | apply And.intro)) fun S q pc hS hq hC hE => ?_
  conv => whnf
  refine sym_loop hE hS (A := Nat × AV) [0, 1, 9, 10] (fun (i, v) => [(6, v), (11, nv i)]) (fun _ => []) (fun (i, v) => i ≤ l.length ∧ v = sv (bstS (l.take i))) (fun (i, _) => l.length - i) (0, .nils) rfl rfl ⟨rfl, rfl, rfl, rfl, by repeat' (first | exact trivial | exact rfl | exact Nat.zero_le _ | exact Nat.le_of_ble_eq_true rfl | exact bdl_no (by assumption) | exact bdl_no (flat_no _) | exact bdl_no (ivs_no _) | exact Nat.max_le.2 ⟨Nat.le_of_ble_eq_true rfl, bdl_no (ivs_no _)⟩ | apply And.intro), by repeat' (first | exact trivial | exact rfl | exact Nat.zero_le _ | exact Nat.le_of_ble_eq_true rfl | exact bdl_no (by assumption) | exact bdl_no (flat_no _) | exact bdl_no (ivs_no _) | exact Nat.max_le.2 ⟨Nat.le_of_ble_eq_true rfl, bdl_no (ivs_no _)⟩ | apply And.intro)⟩ ⟨Nat.zero_le _, rfl⟩ ?_
  rintro ⟨i, v⟩ ⟨hi, rfl⟩
  rcases sv_cases (bstS (l.take i)) with ⟨_, eo⟩ | eo
  · rw [eo]
    conv => whnf
    by_cases h : i < l.length
    · have hn := nth_svs1 h
      have hv := congrArg sv (congrArg bstS (take_gs l h))
      rw [show decide (Int.ofNat i < ↑l.length) = true from ltN_t h]
      conv => whnf
      refine bool_true (inR_t (i := i) (n := l.length) h) ?_
      conv => whnf
      have lg := ivs_no (gs l i)
      rcases sv_cases (gs l i) with ⟨_, eg⟩ | eg
      · rw [eg] at hn
        refine plan_as (nthP hn) ?_
        conv => whnf
        cases i with
        | zero =>
          conv => whnf
          rw [show IntKind.i64.wrap (Int.ofNat 0 + 1) = 1 from wrapI (by decide) (by decide)]
          conv => whnf
          exact ⟨(1, _), ⟨h, by rw [hv, bstS_snoc, if_pos (.inl rfl), eg]⟩, by show l.length - 1 < l.length - 0; omega, ⟨rfl, rfl, rfl, rfl, by repeat' (first | exact trivial | exact rfl | exact Nat.zero_le _ | exact Nat.le_of_ble_eq_true rfl | exact bdl_no (by assumption) | exact bdl_no (flat_no _) | exact bdl_no (ivs_no _) | exact Nat.max_le.2 ⟨Nat.le_of_ble_eq_true rfl, bdl_no (ivs_no _)⟩ | apply And.intro), by repeat' (first | exact trivial | exact rfl | exact Nat.zero_le _ | exact Nat.le_of_ble_eq_true rfl | exact bdl_no (by assumption) | exact bdl_no (flat_no _) | exact bdl_no (ivs_no _) | exact Nat.max_le.2 ⟨Nat.le_of_ble_eq_true rfl, bdl_no (ivs_no _)⟩ | apply And.intro)⟩⟩
        | succ i =>
          conv => whnf
          rw [show (Int.ofNat (i + 1) == 0) = false from rfl]
          conv => whnf
          have hc := less_pure (gs l (i + 1)) (bstS (l.take (i + 1))) (hx _ (gs_mem l h)) (bstS_len (by omega) _ fun x k => hx x (List.mem_of_mem_take k))
          rw [eg, eo] at hc
          refine sym_pure hC (hc) ?_
          conv => whnf
          rw [bstS_snoc] at hv
          have hi1 : IntKind.i64.wrap (Int.ofNat (i + 1) + 1) = Int.ofNat (i + 2) := wrapN (m := i + 2) (by omega)
          by_cases h3 : seI (gs l (i + 1)) (bstS (l.take (i + 1))) < 0
          · rw [decide_eq_true h3]
            conv => whnf
            rw [hi1]
            exact ⟨(i + 2, _), ⟨h, by rw [hv, if_pos (.inr h3), eg]⟩, by show l.length - (i + 2) < l.length - (i + 1); omega, ⟨rfl, rfl, rfl, rfl, by repeat' (first | exact trivial | exact rfl | exact Nat.zero_le _ | exact Nat.le_of_ble_eq_true rfl | exact bdl_no (by assumption) | exact bdl_no (flat_no _) | exact bdl_no (ivs_no _) | exact Nat.max_le.2 ⟨Nat.le_of_ble_eq_true rfl, bdl_no (ivs_no _)⟩ | apply And.intro), by repeat' (first | exact trivial | exact rfl | exact Nat.zero_le _ | exact Nat.le_of_ble_eq_true rfl | exact bdl_no (by assumption) | exact bdl_no (flat_no _) | exact bdl_no (ivs_no _) | exact Nat.max_le.2 ⟨Nat.le_of_ble_eq_true rfl, bdl_no (ivs_no _)⟩ | apply And.intro)⟩⟩
          · rw [decide_eq_false h3]
            conv => whnf
            rw [hi1]
            exact ⟨(i + 2, _), ⟨h, by rw [hv, if_neg (by rintro (k | k); exact take_ne (by omega) k; exact h3 k), eo]⟩, by show l.length - (i + 2) < l.length - (i + 1); omega, ⟨rfl, rfl, rfl, rfl, by repeat' (first | exact trivial | exact rfl | exact Nat.zero_le _ | exact Nat.le_of_ble_eq_true rfl | exact bdl_no (by assumption) | exact bdl_no (flat_no _) | exact bdl_no (ivs_no _) | exact Nat.max_le.2 ⟨Nat.le_of_ble_eq_true rfl, bdl_no (ivs_no _)⟩ | apply And.intro), by repeat' (first | exact trivial | exact rfl | exact Nat.zero_le _ | exact Nat.le_of_ble_eq_true rfl | exact bdl_no (by assumption) | exact bdl_no (flat_no _) | exact bdl_no (ivs_no _) | exact Nat.max_le.2 ⟨Nat.le_of_ble_eq_true rfl, bdl_no (ivs_no _)⟩ | apply And.intro)⟩⟩
      · rw [eg] at hn
        refine plan_as (nthP hn) ?_
        conv => whnf
        cases i with
        | zero =>
          conv => whnf
          rw [show IntKind.i64.wrap (Int.ofNat 0 + 1) = 1 from wrapI (by decide) (by decide)]
          conv => whnf
          exact ⟨(1, _), ⟨h, by rw [hv, bstS_snoc, if_pos (.inl rfl), eg]⟩, by show l.length - 1 < l.length - 0; omega, ⟨rfl, rfl, rfl, rfl, by repeat' (first | exact trivial | exact rfl | exact Nat.zero_le _ | exact Nat.le_of_ble_eq_true rfl | exact bdl_no (by assumption) | exact bdl_no (flat_no _) | exact bdl_no (ivs_no _) | exact Nat.max_le.2 ⟨Nat.le_of_ble_eq_true rfl, bdl_no (ivs_no _)⟩ | apply And.intro), by repeat' (first | exact trivial | exact rfl | exact Nat.zero_le _ | exact Nat.le_of_ble_eq_true rfl | exact bdl_no (by assumption) | exact bdl_no (flat_no _) | exact bdl_no (ivs_no _) | exact Nat.max_le.2 ⟨Nat.le_of_ble_eq_true rfl, bdl_no (ivs_no _)⟩ | apply And.intro)⟩⟩
        | succ i =>
          conv => whnf
          rw [show (Int.ofNat (i + 1) == 0) = false from rfl]
          conv => whnf
          have hc := less_pure (gs l (i + 1)) (bstS (l.take (i + 1))) (hx _ (gs_mem l h)) (bstS_len (by omega) _ fun x k => hx x (List.mem_of_mem_take k))
          rw [eg, eo] at hc
          refine sym_pure hC (hc) ?_
          conv => whnf
          rw [bstS_snoc] at hv
          have hi1 : IntKind.i64.wrap (Int.ofNat (i + 1) + 1) = Int.ofNat (i + 2) := wrapN (m := i + 2) (by omega)
          by_cases h3 : seI (gs l (i + 1)) (bstS (l.take (i + 1))) < 0
          · rw [decide_eq_true h3]
            conv => whnf
            rw [hi1]
            exact ⟨(i + 2, _), ⟨h, by rw [hv, if_pos (.inr h3), eg]⟩, by show l.length - (i + 2) < l.length - (i + 1); omega, ⟨rfl, rfl, rfl, rfl, by repeat' (first | exact trivial | exact rfl | exact Nat.zero_le _ | exact Nat.le_of_ble_eq_true rfl | exact bdl_no (by assumption) | exact bdl_no (flat_no _) | exact bdl_no (ivs_no _) | exact Nat.max_le.2 ⟨Nat.le_of_ble_eq_true rfl, bdl_no (ivs_no _)⟩ | apply And.intro), by repeat' (first | exact trivial | exact rfl | exact Nat.zero_le _ | exact Nat.le_of_ble_eq_true rfl | exact bdl_no (by assumption) | exact bdl_no (flat_no _) | exact bdl_no (ivs_no _) | exact Nat.max_le.2 ⟨Nat.le_of_ble_eq_true rfl, bdl_no (ivs_no _)⟩ | apply And.intro)⟩⟩
          · rw [decide_eq_false h3]
            conv => whnf
            rw [hi1]
            exact ⟨(i + 2, _), ⟨h, by rw [hv, if_neg (by rintro (k | k); exact take_ne (by omega) k; exact h3 k), eo]⟩, by show l.length - (i + 2) < l.length - (i + 1); omega, ⟨rfl, rfl, rfl, rfl, by repeat' (first | exact trivial | exact rfl | exact Nat.zero_le _ | exact Nat.le_of_ble_eq_true rfl | exact bdl_no (by assumption) | exact bdl_no (flat_no _) | exact bdl_no (ivs_no _) | exact Nat.max_le.2 ⟨Nat.le_of_ble_eq_true rfl, bdl_no (ivs_no _)⟩ | apply And.intro), by repeat' (first | exact trivial | exact rfl | exact Nat.zero_le _ | exact Nat.le_of_ble_eq_true rfl | exact bdl_no (by assumption) | exact bdl_no (flat_no _) | exact bdl_no (ivs_no _) | exact Nat.max_le.2 ⟨Nat.le_of_ble_eq_true rfl, bdl_no (ivs_no _)⟩ | apply And.intro)⟩⟩
    · rw [show decide (Int.ofNat i < ↑l.length) = false from ltN_f h]
      conv => whnf
      have et : l.take i = l := List.take_of_length_le (by omega)
      try rw [et]
      rw [et] at eo
      rw [eo]
      exact ⟨_, rfl, Wk.refl _⟩
  · have lq := ivs_no (bstS (l.take i))
    rw [eo]
    conv => whnf
    by_cases h : i < l.length
    · have hn := nth_svs1 h
      have hv := congrArg sv (congrArg bstS (take_gs l h))
      rw [show decide (Int.ofNat i < ↑l.length) = true from ltN_t h]
      conv => whnf
      refine bool_true (inR_t (i := i) (n := l.length) h) ?_
      conv => whnf
      have lg := ivs_no (gs l i)
      rcases sv_cases (gs l i) with ⟨_, eg⟩ | eg
      · rw [eg] at hn
        refine plan_as (nthP hn) ?_
        conv => whnf
        cases i with
        | zero =>
          conv => whnf
          rw [show IntKind.i64.wrap (Int.ofNat 0 + 1) = 1 from wrapI (by decide) (by decide)]
          conv => whnf
          exact ⟨(1, _), ⟨h, by rw [hv, bstS_snoc, if_pos (.inl rfl), eg]⟩, by show l.length - 1 < l.length - 0; omega, ⟨rfl, rfl, rfl, rfl, by repeat' (first | exact trivial | exact rfl | exact Nat.zero_le _ | exact Nat.le_of_ble_eq_true rfl | exact bdl_no (by assumption) | exact bdl_no (flat_no _) | exact bdl_no (ivs_no _) | exact Nat.max_le.2 ⟨Nat.le_of_ble_eq_true rfl, bdl_no (ivs_no _)⟩ | apply And.intro), by repeat' (first | exact trivial | exact rfl | exact Nat.zero_le _ | exact Nat.le_of_ble_eq_true rfl | exact bdl_no (by assumption) | exact bdl_no (flat_no _) | exact bdl_no (ivs_no _) | exact Nat.max_le.2 ⟨Nat.le_of_ble_eq_true rfl, bdl_no (ivs_no _)⟩ | apply And.intro)⟩⟩
        | succ i =>
          conv => whnf
          rw [show (Int.ofNat (i + 1) == 0) = false from rfl]
          conv => whnf
          have hc := less_pure (gs l (i + 1)) (bstS (l.take (i + 1))) (hx _ (gs_mem l h)) (bstS_len (by omega) _ fun x k => hx x (List.mem_of_mem_take k))
          rw [eg, eo] at hc
          refine sym_pure hC (hc) ?_
          conv => whnf
          rw [bstS_snoc] at hv
          have hi1 : IntKind.i64.wrap (Int.ofNat (i + 1) + 1) = Int.ofNat (i + 2) := wrapN (m := i + 2) (by omega)
          by_cases h3 : seI (gs l (i + 1)) (bstS (l.take (i + 1))) < 0
          · rw [decide_eq_true h3]
            conv => whnf
            rw [hi1]
            exact ⟨(i + 2, _), ⟨h, by rw [hv, if_pos (.inr h3), eg]⟩, by show l.length - (i + 2) < l.length - (i + 1); omega, ⟨rfl, rfl, rfl, rfl, by repeat' (first | exact trivial | exact rfl | exact Nat.zero_le _ | exact Nat.le_of_ble_eq_true rfl | exact bdl_no (by assumption) | exact bdl_no (flat_no _) | exact bdl_no (ivs_no _) | exact Nat.max_le.2 ⟨Nat.le_of_ble_eq_true rfl, bdl_no (ivs_no _)⟩ | apply And.intro), by repeat' (first | exact trivial | exact rfl | exact Nat.zero_le _ | exact Nat.le_of_ble_eq_true rfl | exact bdl_no (by assumption) | exact bdl_no (flat_no _) | exact bdl_no (ivs_no _) | exact Nat.max_le.2 ⟨Nat.le_of_ble_eq_true rfl, bdl_no (ivs_no _)⟩ | apply And.intro)⟩⟩
          · rw [decide_eq_false h3]
            conv => whnf
            rw [hi1]
            exact ⟨(i + 2, _), ⟨h, by rw [hv, if_neg (by rintro (k | k); exact take_ne (by omega) k; exact h3 k), eo]⟩, by show l.length - (i + 2) < l.length - (i + 1); omega, ⟨rfl, rfl, rfl, rfl, by repeat' (first | exact trivial | exact rfl | exact Nat.zero_le _ | exact Nat.le_of_ble_eq_true rfl | exact bdl_no (by assumption) | exact bdl_no (flat_no _) | exact bdl_no (ivs_no _) | exact Nat.max_le.2 ⟨Nat.le_of_ble_eq_true rfl, bdl_no (ivs_no _)⟩ | apply And.intro), by repeat' (first | exact trivial | exact rfl | exact Nat.zero_le _ | exact Nat.le_of_ble_eq_true rfl | exact bdl_no (by assumption) | exact bdl_no (flat_no _) | exact bdl_no (ivs_no _) | exact Nat.max_le.2 ⟨Nat.le_of_ble_eq_true rfl, bdl_no (ivs_no _)⟩ | apply And.intro)⟩⟩
      · rw [eg] at hn
        refine plan_as (nthP hn) ?_
        conv => whnf
        cases i with
        | zero =>
          conv => whnf
          rw [show IntKind.i64.wrap (Int.ofNat 0 + 1) = 1 from wrapI (by decide) (by decide)]
          conv => whnf
          exact ⟨(1, _), ⟨h, by rw [hv, bstS_snoc, if_pos (.inl rfl), eg]⟩, by show l.length - 1 < l.length - 0; omega, ⟨rfl, rfl, rfl, rfl, by repeat' (first | exact trivial | exact rfl | exact Nat.zero_le _ | exact Nat.le_of_ble_eq_true rfl | exact bdl_no (by assumption) | exact bdl_no (flat_no _) | exact bdl_no (ivs_no _) | exact Nat.max_le.2 ⟨Nat.le_of_ble_eq_true rfl, bdl_no (ivs_no _)⟩ | apply And.intro), by repeat' (first | exact trivial | exact rfl | exact Nat.zero_le _ | exact Nat.le_of_ble_eq_true rfl | exact bdl_no (by assumption) | exact bdl_no (flat_no _) | exact bdl_no (ivs_no _) | exact Nat.max_le.2 ⟨Nat.le_of_ble_eq_true rfl, bdl_no (ivs_no _)⟩ | apply And.intro)⟩⟩
        | succ i =>
          conv => whnf
          rw [show (Int.ofNat (i + 1) == 0) = false from rfl]
          conv => whnf
          have hc := less_pure (gs l (i + 1)) (bstS (l.take (i + 1))) (hx _ (gs_mem l h)) (bstS_len (by omega) _ fun x k => hx x (List.mem_of_mem_take k))
          rw [eg, eo] at hc
          refine sym_pure hC (hc) ?_
          conv => whnf
          rw [bstS_snoc] at hv
          have hi1 : IntKind.i64.wrap (Int.ofNat (i + 1) + 1) = Int.ofNat (i + 2) := wrapN (m := i + 2) (by omega)
          by_cases h3 : seI (gs l (i + 1)) (bstS (l.take (i + 1))) < 0
          · rw [decide_eq_true h3]
            conv => whnf
            rw [hi1]
            exact ⟨(i + 2, _), ⟨h, by rw [hv, if_pos (.inr h3), eg]⟩, by show l.length - (i + 2) < l.length - (i + 1); omega, ⟨rfl, rfl, rfl, rfl, by repeat' (first | exact trivial | exact rfl | exact Nat.zero_le _ | exact Nat.le_of_ble_eq_true rfl | exact bdl_no (by assumption) | exact bdl_no (flat_no _) | exact bdl_no (ivs_no _) | exact Nat.max_le.2 ⟨Nat.le_of_ble_eq_true rfl, bdl_no (ivs_no _)⟩ | apply And.intro), by repeat' (first | exact trivial | exact rfl | exact Nat.zero_le _ | exact Nat.le_of_ble_eq_true rfl | exact bdl_no (by assumption) | exact bdl_no (flat_no _) | exact bdl_no (ivs_no _) | exact Nat.max_le.2 ⟨Nat.le_of_ble_eq_true rfl, bdl_no (ivs_no _)⟩ | apply And.intro)⟩⟩
          · rw [decide_eq_false h3]
            conv => whnf
            rw [hi1]
            exact ⟨(i + 2, _), ⟨h, by rw [hv, if_neg (by rintro (k | k); exact take_ne (by omega) k; exact h3 k), eo]⟩, by show l.length - (i + 2) < l.length - (i + 1); omega, ⟨rfl, rfl, rfl, rfl, by repeat' (first | exact trivial | exact rfl | exact Nat.zero_le _ | exact Nat.le_of_ble_eq_true rfl | exact bdl_no (by assumption) | exact bdl_no (flat_no _) | exact bdl_no (ivs_no _) | exact Nat.max_le.2 ⟨Nat.le_of_ble_eq_true rfl, bdl_no (ivs_no _)⟩ | apply And.intro), by repeat' (first | exact trivial | exact rfl | exact Nat.zero_le _ | exact Nat.le_of_ble_eq_true rfl | exact bdl_no (by assumption) | exact bdl_no (flat_no _) | exact bdl_no (ivs_no _) | exact Nat.max_le.2 ⟨Nat.le_of_ble_eq_true rfl, bdl_no (ivs_no _)⟩ | apply And.intro)⟩⟩
    · rw [show decide (Int.ofNat i < ↑l.length) = false from ltN_f h]
      conv => whnf
      have et : l.take i = l := List.take_of_length_le (by omega)
      try rw [et]
      rw [et] at eo
      rw [eo]
      exact ⟨_, rfl, Wk.refl _⟩
end Go.Abs.Seat
