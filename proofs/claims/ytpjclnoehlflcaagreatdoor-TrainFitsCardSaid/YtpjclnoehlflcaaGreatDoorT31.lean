/-
  Trains of a rule: the parts.
-/
import Derived.Test.YtpjclnoehlflcaaGreatDoorT30
import Derived.Test.YtpjclnoehlflcaaGreatDoorN5
/-! Trains of a rule: the parts. -/
namespace Go.Abs.Seat
noncomputable section
open Go Go.Abs Go.Proofs.Tryz
set_option maxRecDepth 100000
set_option maxHeartbeats 40000000

/-- Whether a sense lets in trains of some number of pairs. -/
def letsP (s : Int) (k : Nat) : Prop := s = 1 ∨ s = 2 ∧ k % 2 = 0 ∨ s = 3 ∧ k % 2 = 1
instance (s k) : Decidable (letsP s k) := by unfold letsP; infer_instance
theorem sense3 {s : Int} (h : 1 ≤ s ∧ s ≤ 3) : s = 1 ∨ s = 2 ∨ s = 3 := by omega
theorem eqI_dec (k c : Nat) : (Int.ofNat k == Int.ofNat c) = decide (k = c) := by
  by_cases h : k = c
  · rw [decide_eq_true h, h]; exact beq_self_eq_true _
  · rw [decide_eq_false h]; exact beq_eq_false_iff_ne.2 fun e => h (by exact_mod_cast Int.ofNat.inj e)
section
attribute [local irreducible] IntKind.wrap pEq

theorem IL.cs {N : AV} {l : List Int} (h : IL N l) : N = .nils ∨ N = nl l := by
  rcases h with ⟨e, _⟩ | e
  · exact .inl e
  · exact .inr e
theorem lets_pure {N : AV} {l : List Int} (hN : IL N l) (T : List Int) (a b p s : Int) (hs : 1 ≤ s ∧ s ≤ 3) (k : Nat) : Pure prog 84 [ruv a b p s N (sv T), nv k] (.bool (decide (letsP s k))) := by
  have lN := hN.no
  have lT := sv_no T
  rcases sense3 hs with rfl | rfl | rfl <;> rcases hN.cs with rfl | rfl <;> rcases sv_cases T with ⟨_, e⟩ | e <;> rw [e] at lT ⊢
  · rw [decide_eq_true (.inl rfl)]
    refine pure_sym hE rfl (by repeat' (first | exact trivial | assumption | exact flat_no _ | exact (fun _ h => nomatch h) | apply And.intro)) (by repeat' (first | exact trivial | assumption | exact flat_no _ | exact (fun _ h => nomatch h) | apply And.intro)) fun S q pc hS hq hC hE => ?_
    conv => whnf
    rw [show IntKind.i64.wrap (1 - 1) = 0 from wrapI (by decide) (by decide)]
    conv => whnf
    exact ⟨_, rfl, Wk.refl _⟩
  · rw [decide_eq_true (.inl rfl)]
    refine pure_sym hE rfl (by repeat' (first | exact trivial | assumption | exact flat_no _ | exact (fun _ h => nomatch h) | apply And.intro)) (by repeat' (first | exact trivial | assumption | exact flat_no _ | exact (fun _ h => nomatch h) | apply And.intro)) fun S q pc hS hq hC hE => ?_
    conv => whnf
    rw [show IntKind.i64.wrap (1 - 1) = 0 from wrapI (by decide) (by decide)]
    conv => whnf
    exact ⟨_, rfl, Wk.refl _⟩
  · rw [decide_eq_true (.inl rfl)]
    refine pure_sym hE rfl (by repeat' (first | exact trivial | assumption | exact flat_no _ | exact (fun _ h => nomatch h) | apply And.intro)) (by repeat' (first | exact trivial | assumption | exact flat_no _ | exact (fun _ h => nomatch h) | apply And.intro)) fun S q pc hS hq hC hE => ?_
    conv => whnf
    rw [show IntKind.i64.wrap (1 - 1) = 0 from wrapI (by decide) (by decide)]
    conv => whnf
    exact ⟨_, rfl, Wk.refl _⟩
  · rw [decide_eq_true (.inl rfl)]
    refine pure_sym hE rfl (by repeat' (first | exact trivial | assumption | exact flat_no _ | exact (fun _ h => nomatch h) | apply And.intro)) (by repeat' (first | exact trivial | assumption | exact flat_no _ | exact (fun _ h => nomatch h) | apply And.intro)) fun S q pc hS hq hC hE => ?_
    conv => whnf
    rw [show IntKind.i64.wrap (1 - 1) = 0 from wrapI (by decide) (by decide)]
    conv => whnf
    exact ⟨_, rfl, Wk.refl _⟩
  · refine pure_sym hE rfl (by repeat' (first | exact trivial | assumption | exact flat_no _ | exact (fun _ h => nomatch h) | apply And.intro)) (by repeat' (first | exact trivial | assumption | exact flat_no _ | exact (fun _ h => nomatch h) | apply And.intro)) fun S q pc hS hq hC hE => ?_
    conv => whnf
    rw [show IntKind.i64.wrap (2 - 1) = 1 from wrapI (by decide) (by decide)]
    conv => whnf
    refine ⟨_, rfl, wkb ?_⟩
    rw [show (Int.ofNat k).tmod 2 = Int.ofNat (k % 2) from rfl]
    exact (eqI_dec (k % 2) 0).trans (decide_eq_decide.2 ⟨fun h => .inr (.inl ⟨rfl, h⟩), fun h => by rcases h with h | ⟨_, h⟩ | ⟨h, _⟩ <;> first | exact h | cases h⟩)
  · refine pure_sym hE rfl (by repeat' (first | exact trivial | assumption | exact flat_no _ | exact (fun _ h => nomatch h) | apply And.intro)) (by repeat' (first | exact trivial | assumption | exact flat_no _ | exact (fun _ h => nomatch h) | apply And.intro)) fun S q pc hS hq hC hE => ?_
    conv => whnf
    rw [show IntKind.i64.wrap (2 - 1) = 1 from wrapI (by decide) (by decide)]
    conv => whnf
    refine ⟨_, rfl, wkb ?_⟩
    rw [show (Int.ofNat k).tmod 2 = Int.ofNat (k % 2) from rfl]
    exact (eqI_dec (k % 2) 0).trans (decide_eq_decide.2 ⟨fun h => .inr (.inl ⟨rfl, h⟩), fun h => by rcases h with h | ⟨_, h⟩ | ⟨h, _⟩ <;> first | exact h | cases h⟩)
  · refine pure_sym hE rfl (by repeat' (first | exact trivial | assumption | exact flat_no _ | exact (fun _ h => nomatch h) | apply And.intro)) (by repeat' (first | exact trivial | assumption | exact flat_no _ | exact (fun _ h => nomatch h) | apply And.intro)) fun S q pc hS hq hC hE => ?_
    conv => whnf
    rw [show IntKind.i64.wrap (2 - 1) = 1 from wrapI (by decide) (by decide)]
    conv => whnf
    refine ⟨_, rfl, wkb ?_⟩
    rw [show (Int.ofNat k).tmod 2 = Int.ofNat (k % 2) from rfl]
    exact (eqI_dec (k % 2) 0).trans (decide_eq_decide.2 ⟨fun h => .inr (.inl ⟨rfl, h⟩), fun h => by rcases h with h | ⟨_, h⟩ | ⟨h, _⟩ <;> first | exact h | cases h⟩)
  · refine pure_sym hE rfl (by repeat' (first | exact trivial | assumption | exact flat_no _ | exact (fun _ h => nomatch h) | apply And.intro)) (by repeat' (first | exact trivial | assumption | exact flat_no _ | exact (fun _ h => nomatch h) | apply And.intro)) fun S q pc hS hq hC hE => ?_
    conv => whnf
    rw [show IntKind.i64.wrap (2 - 1) = 1 from wrapI (by decide) (by decide)]
    conv => whnf
    refine ⟨_, rfl, wkb ?_⟩
    rw [show (Int.ofNat k).tmod 2 = Int.ofNat (k % 2) from rfl]
    exact (eqI_dec (k % 2) 0).trans (decide_eq_decide.2 ⟨fun h => .inr (.inl ⟨rfl, h⟩), fun h => by rcases h with h | ⟨_, h⟩ | ⟨h, _⟩ <;> first | exact h | cases h⟩)
  · refine pure_sym hE rfl (by repeat' (first | exact trivial | assumption | exact flat_no _ | exact (fun _ h => nomatch h) | apply And.intro)) (by repeat' (first | exact trivial | assumption | exact flat_no _ | exact (fun _ h => nomatch h) | apply And.intro)) fun S q pc hS hq hC hE => ?_
    conv => whnf
    rw [show IntKind.i64.wrap (3 - 1) = 2 from wrapI (by decide) (by decide)]
    conv => whnf
    refine ⟨_, rfl, wkb ?_⟩
    rw [show (Int.ofNat k).tmod 2 = Int.ofNat (k % 2) from rfl]
    exact (eqI_dec (k % 2) 1).trans (decide_eq_decide.2 ⟨fun h => .inr (.inr ⟨rfl, h⟩), fun h => by rcases h with h | ⟨h, _⟩ | ⟨_, h⟩ <;> first | exact h | cases h⟩)
  · refine pure_sym hE rfl (by repeat' (first | exact trivial | assumption | exact flat_no _ | exact (fun _ h => nomatch h) | apply And.intro)) (by repeat' (first | exact trivial | assumption | exact flat_no _ | exact (fun _ h => nomatch h) | apply And.intro)) fun S q pc hS hq hC hE => ?_
    conv => whnf
    rw [show IntKind.i64.wrap (3 - 1) = 2 from wrapI (by decide) (by decide)]
    conv => whnf
    refine ⟨_, rfl, wkb ?_⟩
    rw [show (Int.ofNat k).tmod 2 = Int.ofNat (k % 2) from rfl]
    exact (eqI_dec (k % 2) 1).trans (decide_eq_decide.2 ⟨fun h => .inr (.inr ⟨rfl, h⟩), fun h => by rcases h with h | ⟨h, _⟩ | ⟨_, h⟩ <;> first | exact h | cases h⟩)
  · refine pure_sym hE rfl (by repeat' (first | exact trivial | assumption | exact flat_no _ | exact (fun _ h => nomatch h) | apply And.intro)) (by repeat' (first | exact trivial | assumption | exact flat_no _ | exact (fun _ h => nomatch h) | apply And.intro)) fun S q pc hS hq hC hE => ?_
    conv => whnf
    rw [show IntKind.i64.wrap (3 - 1) = 2 from wrapI (by decide) (by decide)]
    conv => whnf
    refine ⟨_, rfl, wkb ?_⟩
    rw [show (Int.ofNat k).tmod 2 = Int.ofNat (k % 2) from rfl]
    exact (eqI_dec (k % 2) 1).trans (decide_eq_decide.2 ⟨fun h => .inr (.inr ⟨rfl, h⟩), fun h => by rcases h with h | ⟨h, _⟩ | ⟨_, h⟩ <;> first | exact h | cases h⟩)
  · refine pure_sym hE rfl (by repeat' (first | exact trivial | assumption | exact flat_no _ | exact (fun _ h => nomatch h) | apply And.intro)) (by repeat' (first | exact trivial | assumption | exact flat_no _ | exact (fun _ h => nomatch h) | apply And.intro)) fun S q pc hS hq hC hE => ?_
    conv => whnf
    rw [show IntKind.i64.wrap (3 - 1) = 2 from wrapI (by decide) (by decide)]
    conv => whnf
    refine ⟨_, rfl, wkb ?_⟩
    rw [show (Int.ofNat k).tmod 2 = Int.ofNat (k % 2) from rfl]
    exact (eqI_dec (k % 2) 1).trans (decide_eq_decide.2 ⟨fun h => .inr (.inr ⟨rfl, h⟩), fun h => by rcases h with h | ⟨h, _⟩ | ⟨_, h⟩ <;> first | exact h | cases h⟩)

theorem ilsv (l : List Int) : IL (sv l) l := by
  rcases sv_cases l with ⟨e, e'⟩ | e'
  · exact .inl ⟨e', e⟩
  · exact .inr e'
theorem has_pure {N : AV} {l : List Int} (hN : IL N l) (a b p s : Int) (T : List Int) (hT : T.length < 4611686018427387904) (x : Int) : Pure prog 89 [ruv a b p s N (sv T), iv x] (.bool (decide (x ∈ T))) := by
  have lN := hN.no
  have lT := sv_no T
  have pc1 := contains_pure (ilsv T) hT x
  rcases hN.cs with rfl | rfl <;> rcases sv_cases T with ⟨_, e⟩ | e
  all_goals
    rw [e] at pc1 lT ⊢
    refine pure_sym hE rfl (by repeat' (first | exact trivial | assumption | exact flat_no _ | exact (fun _ h => nomatch h) | apply And.intro)) (by repeat' (first | exact trivial | assumption | exact flat_no _ | exact (fun _ h => nomatch h) | apply And.intro)) fun S q pc hS hq hC hE => ?_
    conv => whnf
    refine sym_pure hC (pc1) ?_
    conv => whnf
    exact ⟨_, rfl, Wk.refl _⟩

/-- How two pairs stand. -/
def ordP (a b c d : Int) : Int := if ordI a c = 0 then ordI b d else ordI a c
theorem ordP_lt {a b c d : Int} : ordP a b c d < 0 ↔ a < c ∨ a = c ∧ b < d := by
  unfold ordP
  split
  · rename_i h
    have := ordI_zero.1 h
    rw [ordI_lt]; omega
  · rename_i h
    have h1 : ¬ a = c := fun k => h (ordI_zero.2 k)
    rw [ordI_lt]; omega
theorem inOrder_pure (a b c d : Int) : Pure prog 86 [fv a b, fv c d] (iv (ordP a b c d)) := by
  refine pure_sym hE rfl (by repeat' (first | exact trivial | assumption | exact flat_no _ | exact (fun _ h => nomatch h) | apply And.intro)) (by repeat' (first | exact trivial | assumption | exact flat_no _ | exact (fun _ h => nomatch h) | apply And.intro)) fun S q pc hS hq hC hE => ?_
  conv => whnf
  refine sym_pure hC (cmp_pure a c) ?_
  conv => whnf
  refine sym_pure hC (cmp_pure b d) ?_
  conv => whnf
  refine sym_pure hC (or_pure (ordI a c) (ordI b d)) ?_
  conv => whnf
  refine sym_drawn hS (by kernel_rfl) ?_
  conv => whnf
  exact ⟨_, rfl, Wk.refl _⟩
theorem before_pure (a b c d : Int) : Pure prog 91 [fv a b, fv c d] (.bool (decide (ordP a b c d < 0))) := by
  rw [show decide (ordP a b c d < 0) = decide (a < c ∨ a = c ∧ b < d) from decide_eq_decide.2 ordP_lt]
  refine pure_sym hE rfl (by repeat' (first | exact trivial | assumption | exact flat_no _ | exact (fun _ h => nomatch h) | apply And.intro)) (by repeat' (first | exact trivial | assumption | exact flat_no _ | exact (fun _ h => nomatch h) | apply And.intro)) fun S q pc hS hq hC hE => ?_
  conv => whnf
  by_cases h : a < c
  · rw [decide_eq_true h]
    conv => whnf
    rw [decide_eq_true (.inl h)]
    exact ⟨_, rfl, Wk.refl _⟩
  · rw [decide_eq_false h]
    conv => whnf
    by_cases h2 : a = c
    · rw [show (a == c) = true from beq_iff_eq.2 h2]
      conv => whnf
      exact ⟨_, rfl, wkb (decide_eq_decide.2 (by omega))⟩
    · rw [show (a == c) = false from beq_eq_false_iff_ne.2 h2]
      conv => whnf
      rw [decide_eq_false (by omega)]
      exact ⟨_, rfl, Wk.refl _⟩

/-- Whether pairs are in order. -/
def sortedP : List (Int × Int) → Prop
  | [] => True
  | [_] => True
  | (a, b) :: (c, d) :: r => ¬ ordP c d a b < 0 ∧ sortedP ((c, d) :: r)
instance decSorted : ∀ l, Decidable (sortedP l)
  | [] => isTrue trivial
  | [_] => isTrue trivial
  | (_, _) :: (c, d) :: r => have := decSorted ((c, d) :: r); inferInstanceAs (Decidable (_ ∧ _))

end
section
attribute [local irreducible] pEq
theorem sorted1 (a b : Int) : Pure prog 85 [pv [(a, b)], .func (.func 86) [] []] (.bool (decide (sortedP [(a, b)]))) := by
  rw [decide_eq_true (show sortedP [(a, b)] from trivial)]
  refine pure_sym hE rfl (by repeat' (first | exact trivial | assumption | exact flat_no _ | exact (fun _ h => nomatch h) | apply And.intro)) (by repeat' (first | exact trivial | assumption | exact flat_no _ | exact (fun _ h => nomatch h) | apply And.intro)) fun S q pc hS hq hC hE => ?_
  conv => whnf
  refine sym_unroll hE hS ?_
  conv => whnf
  exact ⟨_, rfl, Wk.refl _⟩
theorem sorted2 (a b c d : Int) : Pure prog 85 [pv [(a, b), (c, d)], .func (.func 86) [] []] (.bool (decide (sortedP [(a, b), (c, d)]))) := by
  refine pure_sym hE rfl (by repeat' (first | exact trivial | assumption | exact flat_no _ | exact (fun _ h => nomatch h) | apply And.intro)) (by repeat' (first | exact trivial | assumption | exact flat_no _ | exact (fun _ h => nomatch h) | apply And.intro)) fun S q pc hS hq hC hE => ?_
  conv => whnf
  refine sym_unroll hE hS ?_
  conv => whnf
  refine sym_pure hC (inOrder_pure c d a b) ?_
  conv => whnf
  refine sym_drawn hS (by kernel_rfl) ?_
  conv => whnf
  by_cases h : ordP c d a b < 0
  · rw [decide_eq_true h]
    conv => whnf
    rw [decide_eq_false (show ¬ sortedP [(a, b), (c, d)] from fun k => k.1 h)]
    exact ⟨_, rfl, Wk.refl _⟩
  · rw [decide_eq_false h]
    conv => whnf
    refine sym_unroll hE hS ?_
    conv => whnf
    rw [decide_eq_true (show sortedP [(a, b), (c, d)] from ⟨h, trivial⟩)]
    exact ⟨_, rfl, Wk.refl _⟩
theorem sorted3 (a b c d e f : Int) : Pure prog 85 [pv [(a, b), (c, d), (e, f)], .func (.func 86) [] []] (.bool (decide (sortedP [(a, b), (c, d), (e, f)]))) := by
  refine pure_sym hE rfl (by repeat' (first | exact trivial | assumption | exact flat_no _ | exact (fun _ h => nomatch h) | apply And.intro)) (by repeat' (first | exact trivial | assumption | exact flat_no _ | exact (fun _ h => nomatch h) | apply And.intro)) fun S q pc hS hq hC hE => ?_
  conv => whnf
  refine sym_unroll hE hS ?_
  conv => whnf
  refine sym_pure hC (inOrder_pure e f c d) ?_
  conv => whnf
  refine sym_drawn hS (by kernel_rfl) ?_
  conv => whnf
  by_cases h : ordP e f c d < 0
  · rw [decide_eq_true h]
    conv => whnf
    rw [decide_eq_false (show ¬ sortedP [(a, b), (c, d), (e, f)] from fun k => k.2.1 h)]
    exact ⟨_, rfl, Wk.refl _⟩
  · rw [decide_eq_false h]
    conv => whnf
    refine sym_unroll hE hS ?_
    conv => whnf
    refine sym_pure hC (inOrder_pure c d a b) ?_
    conv => whnf
    refine sym_drawn hS (by kernel_rfl) ?_
    conv => whnf
    by_cases h2 : ordP c d a b < 0
    · rw [decide_eq_true h2]
      conv => whnf
      rw [decide_eq_false (show ¬ sortedP [(a, b), (c, d), (e, f)] from fun k => k.1 h2)]
      exact ⟨_, rfl, Wk.refl _⟩
    · rw [decide_eq_false h2]
      conv => whnf
      refine sym_unroll hE hS ?_
      conv => whnf
      rw [decide_eq_true (show sortedP [(a, b), (c, d), (e, f)] from ⟨h2, h, trivial⟩)]
      exact ⟨_, rfl, Wk.refl _⟩
end
end
end Go.Abs.Seat
