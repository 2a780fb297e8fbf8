/-
  Bills: what is as defined.
-/
import Derived.Test.YtikikanopganaaaGreatDoorU7
import Derived.Test.YtikikanopganaaaGreatDoorT51
/-! Bills: what is as defined. -/
namespace Go.Abs.Seat
noncomputable section
open Go Go.Abs Go.Proofs.Tryz
set_option maxRecDepth 100000
set_option maxHeartbeats 40000000
attribute [local irreducible] IntKind.wrap pEq

abbrev bv (x : AV) (a b c s e : Int) : AV := .agg [x, iv a, iv b, iv c, iv s, iv e]

theorem sin_pure (x a b : Int) : Pure prog 79 [iv x, iv a, iv b] (.bool (decide (a ≤ x ∧ x ≤ b))) := by
 refine pure_sym hE rfl (by repeat' (first | exact trivial | assumption | exact flat_no _ | exact (fun _ h => nomatch h) | apply And.intro)) (by repeat' (first | exact trivial | assumption | exact flat_no _ | exact (fun _ h => nomatch h) | apply And.intro)) fun S q pc hS hq hC hE => ?_
 conv => whnf
 by_cases h : a ≤ x
 ·rw [show decide (x ≥ a) = true from decide_eq_true h]
  conv => whnf
  exact ⟨_, rfl, wkb (by simp [h])⟩
 ·rw [show decide (x ≥ a) = false from decide_eq_false h]
  conv => whnf
  exact ⟨_, rfl, wkb (by simp [h])⟩
theorem in9_pure (x a b : Int) : Pure prog 83 [iv x, iv a, iv b] (.bool (decide (a ≤ x ∧ x ≤ b))) := by
 refine pure_sym hE rfl (by repeat' (first | exact trivial | assumption | exact flat_no _ | exact (fun _ h => nomatch h) | apply And.intro)) (by repeat' (first | exact trivial | assumption | exact flat_no _ | exact (fun _ h => nomatch h) | apply And.intro)) fun S q pc hS hq hC hE => ?_
 conv => whnf
 by_cases h : a ≤ x
 ·rw [show decide (x ≥ a) = true from decide_eq_true h]
  conv => whnf
  exact ⟨_, rfl, wkb (by simp [h])⟩
 ·rw [show decide (x ≥ a) = false from decide_eq_false h]
  conv => whnf
  exact ⟨_, rfl, wkb (by simp [h])⟩
theorem sTeeth_pure (a : Int) : Pure prog 142 [iv a] (.bool (decide (tth a))) := by
 refine pure_sym hE rfl (by repeat' (first | exact trivial | assumption | exact flat_no _ | exact (fun _ h => nomatch h) | apply And.intro)) (by repeat' (first | exact trivial | assumption | exact flat_no _ | exact (fun _ h => nomatch h) | apply And.intro)) fun S q pc hS hq hC hE => ?_
 conv => whnf
 refine sym_pure hC (sin_pure a 4 60) ?_
 conv => whnf
 exact ⟨_, rfl, Wk.refl _⟩

def fixP (p : Int → Bool) : List Int → Int → Int
 | [], _ => -1
 |x :: r, i => if p x = true then i else fixP p r (i + 1)
theorem fixP_ge (p : Int → Bool) : ∀ (l : List Int) (i : Int), 0 ≤ i → decide (fixP p l i ≥ 0) = l.any p
 | [], i, _ => rfl
 |x :: r, i, h => by
  rw [fixP, List.any_cons]
  by_cases hx : p x = true
  ·rw [if_pos hx, decide_eq_true h, hx]; rfl
  ·rw [if_neg hx, fixP_ge p r (i + 1) (by omega), Bool.eq_false_iff.2 hx]; rfl
theorem gi_mem (l : List Int) {i : Nat} (h : i < l.length) : gi l i ∈ l := by
 have e : gi l i = l[i] := by simp [gi, List.getD, h]
 rw [e]; exact List.getElem_mem h
/- The walk through a list for the first member that is so (IndexFunc, ContainsFunc): hp is what the closure tells. -/
theorem any_bad (l : List Int) : (l.any fun a => !(decide (tth a))) = !(decide (allT l)) := by
 by_cases h : allT l
 ·rw [decide_eq_true h]
  apply Bool.eq_false_iff.2
  intro k
  obtain ⟨x, hx, hb⟩ := List.any_eq_true.1 k
  obtain ⟨j, hj, e⟩ := List.getElem_of_mem hx
  have := h j hj
  rw [show gi l j = x by rw [← e]; simp [gi, List.getD, hj]] at this
  rw [decide_eq_true this] at hb
  cases hb
 ·rw [decide_eq_false h]
  apply Classical.byContradiction
  intro k
  apply h
  intro j hj
  apply Classical.byContradiction
  intro hb
  apply k
  refine List.any_eq_true.2 ⟨gi l j, gi_mem l hj, ?_⟩
  rw [decide_eq_false hb]; rfl
theorem teethBad_pure (a : Int) : Pure prog 141 [iv a] (.bool (!(decide (tth a)))) := by
 refine pure_sym hE rfl (by repeat' (first | exact trivial | assumption | exact flat_no _ | exact (fun _ h => nomatch h) | apply And.intro)) (by repeat' (first | exact trivial | assumption | exact flat_no _ | exact (fun _ h => nomatch h) | apply And.intro)) fun S q pc hS hq hC hE => ?_
 conv => whnf
 refine sym_pure hC (sTeeth_pure a) ?_
 conv => whnf
 exact ⟨_, rfl, Wk.refl _⟩
theorem teethIdx_pure (l : List Int) (hl : l.length < 4611686018427387904) : Pure prog 157 [nl l, .func (.func 141) [] []] (iv (fixP (fun a => !(decide (tth a))) l 0)) := by
 have hp := teethBad_pure
 generalize hq : (fun a => !(decide (tth a))) = p at *
 have hp : ∀ a, Pure prog 141 [iv a] (.bool (p a)) := fun a => by rw [← hq]; exact hp a
 have ll := ivs_no l
 refine pure_sym hE rfl (by repeat' (first | exact trivial | assumption | exact flat_no _ | exact (fun _ h => nomatch h) | apply And.intro)) (by repeat' (first | exact trivial | assumption | exact flat_no _ | exact (fun _ h => nomatch h) | apply And.intro)) fun S q pc hS hq hC hE => ?_
 conv => whnf
 refine sym_loop hE hS (A := Nat) [0, 1, 7] (fun i => [(8, nv i)]) (fun _ => []) (fun i => i ≤ l.length ∧ fixP p (l.drop i) i = fixP p l 0) (fun i => l.length - i) 0 rfl rfl (by refine ⟨rfl, rfl, rfl, rfl, ?_, ?_⟩ <;> repeat' (first | exact trivial | exact rfl | exact Nat.zero_le _ | exact Nat.le_of_ble_eq_true rfl | exact bdl_no (by assumption) | exact bdl_no (flat_no _) | exact bdl_no (ivs_no _) | exact Nat.max_le.2 ⟨Nat.le_of_ble_eq_true rfl, bdl_no (ivs_no _)⟩ | apply And.intro)) ⟨Nat.zero_le _, rfl⟩ ?_
 intro i ⟨hi, he⟩
 conv => whnf
 by_cases h : i < l.length
 ·rw [show decide (Int.ofNat i < ↑l.length) = true from ltN_t h]
  conv => whnf
  refine bool_true (inR_t (i := i) (n := l.length) h) ?_
  conv => whnf
  refine plan_as (nthP (nth_ivs1 (l := l) (i := i) h)) ?_
  conv => whnf
  refine sym_pure hC (hp (gi l i)) ?_
  conv => whnf
  rw [drop_gi l h, fixP] at he
  by_cases h1 : p (gi l i) = true
  ·rw [if_pos h1] at he
   refine bool_true (h1) ?_
   conv => whnf
   rw [← he]
   exact ⟨_, rfl, Wk.refl _⟩
  ·rw [if_neg h1] at he
   refine bool_false ((Bool.eq_false_iff.2 h1)) ?_
   conv => whnf
   rw [show IntKind.i64.wrap (Int.ofNat i + 1) = Int.ofNat (i + 1) from wrapN (m := i + 1) (by omega)]
   exact ⟨i + 1, ⟨h, he⟩, by omega, (by refine ⟨rfl, rfl, rfl, rfl, ?_, ?_⟩ <;> repeat' (first | exact trivial | exact rfl | exact Nat.zero_le _ | exact Nat.le_of_ble_eq_true rfl | exact bdl_no (by assumption) | exact bdl_no (flat_no _) | exact bdl_no (ivs_no _) | exact Nat.max_le.2 ⟨Nat.le_of_ble_eq_true rfl, bdl_no (ivs_no _)⟩ | apply And.intro))⟩
 ·rw [show decide (Int.ofNat i < ↑l.length) = false from ltN_f h]
  conv => whnf
  rw [List.drop_eq_nil_of_le (by omega), fixP] at he
  rw [← he]
  exact ⟨_, rfl, Wk.refl _⟩
theorem teethIdx_nils : Pure prog 157 [.nils, .func (.func 141) [] []] (iv (-1)) := by
 refine pure_sym hE rfl (by repeat' (first | exact trivial | assumption | exact flat_no _ | exact (fun _ h => nomatch h) | apply And.intro)) (by repeat' (first | exact trivial | assumption | exact flat_no _ | exact (fun _ h => nomatch h) | apply And.intro)) fun S q pc hS hq hC hE => ?_
 conv => whnf
 refine sym_unroll hE hS ?_
 conv => whnf
 exact ⟨_, rfl, Wk.refl _⟩
theorem teethHas_pure {v : AV} {l : List Int} (h : IL v l) (hl : l.length < 4611686018427387904) : Pure prog 119 [v, .func (.func 141) [] []] (.bool (!(decide (allT l)))) := by
 have lv := h.no
 rw [← any_bad l, ← fixP_ge _ l 0 (Int.le_refl _)]
 rcases h with ⟨rfl, rfl⟩ | rfl
 ·refine pure_sym hE rfl (by repeat' (first | exact trivial | assumption | exact flat_no _ | exact (fun _ h => nomatch h) | apply And.intro)) (by repeat' (first | exact trivial | assumption | exact flat_no _ | exact (fun _ h => nomatch h) | apply And.intro)) fun S q pc hS hq hC hE => ?_
  conv => whnf
  refine sym_pure hC (teethIdx_nils) ?_
  conv => whnf
  exact ⟨_, rfl, Wk.refl _⟩
 ·refine pure_sym hE rfl (by repeat' (first | exact trivial | assumption | exact flat_no _ | exact (fun _ h => nomatch h) | apply And.intro)) (by repeat' (first | exact trivial | assumption | exact flat_no _ | exact (fun _ h => nomatch h) | apply And.intro)) fun S q pc hS hq hC hE => ?_
  conv => whnf
  refine sym_pure hC (teethIdx_pure l hl) ?_
  conv => whnf
  exact ⟨_, rfl, Wk.refl _⟩
def whOk (l : List Int) : Prop := l.length ≤ 8 ∧ allT l
instance (l : List Int) : Decidable (whOk l) := Classical.propDecidable _
theorem areTeeth_pure {v : AV} {l : List Int} (h : IL v l) (hl : l.length < 4611686018427387904) : Pure prog 78 [v] (.bool (decide (whOk l))) := by
 have hb := teethHas_pure h hl
 have lv := h.no
 have nx : ¬ (l.length ≤ 8) → decide (whOk l) = false := fun k => decide_eq_false fun z => k z.1
 have ex : l.length ≤ 8 → decide (whOk l) = decide (allT l) := fun k => decide_eq_decide.2 ⟨fun z => z.2, fun z => ⟨k, z⟩⟩
 rcases h with ⟨rfl, rfl⟩ | rfl
 ·refine pure_sym hE rfl (by repeat' (first | exact trivial | assumption | exact flat_no _ | exact (fun _ h => nomatch h) | apply And.intro)) (by repeat' (first | exact trivial | assumption | exact flat_no _ | exact (fun _ h => nomatch h) | apply And.intro)) fun S q pc hS hq hC hE => ?_
  conv => whnf
  refine sym_pure hC (hb) ?_
  conv => whnf
  rw [ex (Nat.zero_le _)]
  exact ⟨_, rfl, wkb (by simp)⟩
 ·refine pure_sym hE rfl (by repeat' (first | exact trivial | assumption | exact flat_no _ | exact (fun _ h => nomatch h) | apply And.intro)) (by repeat' (first | exact trivial | assumption | exact flat_no _ | exact (fun _ h => nomatch h) | apply And.intro)) fun S q pc hS hq hC hE => ?_
  conv => whnf
  by_cases k : l.length ≤ 8
  ·rw [show decide ((l.length : Int) ≤ 8) = true from decide_eq_true (by omega)]
   conv => whnf
   refine sym_pure hC (hb) ?_
   conv => whnf
   rw [ex k]
   exact ⟨_, rfl, wkb (by simp)⟩
  ·rw [show decide ((l.length : Int) ≤ 8) = false from decide_eq_false (by omega)]
   conv => whnf
   rw [nx k]
   exact ⟨_, rfl, Wk.refl _⟩
end
end Go.Abs.Seat
