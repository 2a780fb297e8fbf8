/-
  Bills: what the program tells, and the document.
-/
import Derived.Test.YtlmadgdonalncaaGreatDoorU10
import Derived.Test.YtlmadgdonalncaaGreatDoorT36
/-! Bills: what the program tells, and the document. -/
namespace Go.Abs.Seat
noncomputable section
open Go Go.Abs Go.Proofs.Tryz
set_option maxRecDepth 100000
set_option maxHeartbeats 40000000
attribute [local irreducible] IntKind.wrap pEq

theorem sum_take (l : List Nat) {i : Nat} (h : i < l.length) : (l.take (i + 1)).sum = (l.take i).sum + gn l i := by
 rw [take_gn l h, List.sum_append]; simp
theorem sum_mono (l : List Nat) (i : Nat) : (l.take i).sum ≤ l.sum := by
 have := List.sum_append (l₁ := l.take i) (l₂ := l.drop i)
 rw [List.take_append_drop] at this
 omega
theorem sum_pure (l : List Nat) (hl : l.length < 4611686018427387904) (hs : l.sum < 4611686018427387904) : Pure prog 116 [nl (zl l)] (nv l.sum) := by
 have ll := ivs_no (zl l)
 have hz := zl_len l
 refine pure_sym hE rfl (by repeat' (first | exact trivial | assumption | exact flat_no _ | exact (fun _ h => nomatch h) | apply And.intro)) (by repeat' (first | exact trivial | assumption | exact flat_no _ | exact (fun _ h => nomatch h) | apply And.intro)) fun S q pc hS hq hC hE => ?_
 conv => whnf
 refine sym_loop hE hS (A := Nat) [6, 7] (fun i => [(3, nv (l.take i).sum), (8, nv i)]) (fun _ => []) (fun i => i ≤ l.length) (fun i => l.length - i) 0 rfl rfl (by refine ⟨rfl, rfl, rfl, rfl, ?_, ?_⟩ <;> repeat' (first | exact trivial | exact rfl | exact Nat.zero_le _ | exact Nat.le_of_ble_eq_true rfl | exact bdl_no (by assumption) | exact bdl_no (flat_no _) | exact bdl_no (ivs_no _) | exact Nat.max_le.2 ⟨Nat.le_of_ble_eq_true rfl, bdl_no (ivs_no _)⟩ | apply And.intro)) (Nat.zero_le _) ?_
 intro i hi
 conv => whnf
 by_cases h : i < l.length
 ·have h2 : i < (zl l).length := by omega
  have e := sum_take l h
  have e2 := sum_mono l (i + 1)
  refine bool_true (ltN_t h2) ?_
  conv => whnf
  refine bool_true (inR_t h2) ?_
  conv => whnf
  refine plan_as (nthP (show nth (ivs (zl l)) (i * 1) = some (nv (gn l i)) by rw [nth_ivs1 h2, gi_zl l h])) ?_
  conv => whnf
  exact ⟨i + 1, h, by omega, (by refine ⟨rfl, rfl, rfl, rfl, ?_, ?_⟩ <;> repeat' (first | exact trivial | exact rfl | exact Nat.zero_le _ | exact congrArg (fun z => some (AV.int .i64 z)) (show IntKind.i64.wrap (Int.ofNat (l.take i).sum + Int.ofNat (gn l i)) = Int.ofNat (l.take (i + 1)).sum by rw [e]; exact wrapN (m := (l.take i).sum + gn l i) (by omega)) | exact congrArg (fun z => some (AV.int .i64 z)) (wrapN (m := i + 1) (by omega)) | exact Nat.le_of_ble_eq_true rfl | exact bdl_no (by assumption) | exact bdl_no (flat_no _) | exact bdl_no (ivs_no _) | exact Nat.max_le.2 ⟨Nat.le_of_ble_eq_true rfl, bdl_no (ivs_no _)⟩ | apply And.intro))⟩
 ·have e : l.take i = l := List.take_of_length_le (by omega)
  refine bool_false (ltN_f (show ¬ i < (zl l).length by omega)) ?_
  conv => whnf
  rw [e]
  exact ⟨_, rfl, Wk.refl _⟩
def blOk (l : List Int) (a b c s e : Int) : Prop := whOk l ∧ (0 ≤ a ∧ a ≤ 1000) ∧ (0 ≤ b ∧ b ≤ 40) ∧ (0 ≤ c ∧ c ≤ 100) ∧ (0 ≤ s ∧ s ≤ 100) ∧ (0 ≤ e ∧ e ≤ 1000000)
instance (l : List Int) (a b c s e : Int) : Decidable (blOk l a b c s e) := Classical.propDecidable _
end
end Go.Abs.Seat
