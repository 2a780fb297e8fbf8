/-
  Trains of a rule, of whatever lists.
-/
import Derived.Test.YtpjclnoehlflcaaGreatDoorT34
/-! Trains of a rule, of whatever lists. -/
namespace Go.Abs.Seat
open Go Go.Abs Go.Proofs.Tryz
set_option maxRecDepth 100000
set_option maxHeartbeats 40000000
attribute [local irreducible] IntKind.wrap pEq

/-- A list of pairs that comes in: nil or not. -/
def PQ (v : AV) (l : List (Int × Int)) : Prop := v = .nils ∧ l = [] ∨ v = pv l
theorem PQ.no {v : AV} {l : List (Int × Int)} (h : PQ v l) : Live noL v := by
  rcases h with ⟨rfl, _⟩ | rfl
  · trivial
  · exact pv_no l
theorem PQ.tr {v : AV} {l : List (Int × Int)} (h : PQ v l) : (∃ x y, TV v l.length x y) ∨ TN v l.length := by
  rcases h with ⟨rfl, rfl⟩ | rfl
  · exact .inr tn_nils
  · exact train_or l

theorem rOk_nat {a b p s : Int} {l : List Int} (h : rOk a b p s l) : ∃ a' b' : Nat, a = Int.ofNat a' ∧ b = Int.ofNat b' ∧ 4 ≤ a' ∧ a' ≤ b' ∧ b' ≤ 60 := by
  obtain ⟨⟨h1, h2⟩, ⟨h3, h4⟩, h5, _⟩ := h
  refine ⟨a.toNat, b.toNat, ?_, ?_, ?_, ?_, ?_⟩
  · show a = ((a.toNat : Nat) : Int); omega
  · show b = ((b.toNat : Nat) : Int); omega
  · omega
  · omega
  · omega

theorem fits_both {N : AV} {l : List Int} (h : IL N l) (hl : l.length < 4611686018427387904) (a b p s : Int) (ho : rOk a b p s l) (hs0 : -9223372036854775808 ≤ s ∧ s < 9223372036854775808) {L : List (Int × Int)} (hk : 1 ≤ L.length ∧ L.length ≤ 3) (iT : Pure prog 63 [pv L] (.bool true)) :
    ∃ r, Pure prog 31 [rv a b p s N, pv L] (.tup [.bool r, iv 0]) ∧ Pure prog 33 [rv a b p s N, pv L] (.bool r) ∧ (r = true ↔ fitsP a b p s l L) := by
  obtain ⟨a, b, rfl, rfl, _⟩ := rOk_nat ho
  have hd := Classical.propDecidable (fitsP (Int.ofNat a) (Int.ofNat b) p s l L)
  refine ⟨decide (fitsP (Int.ofNat a) (Int.ofNat b) p s l L), ?_, ?_, decide_eq_true_iff⟩
  · match L, hk with
    | [(a0, b0)], _ => exact fits1 h hl a b p s ho hs0 a0 b0 iT decide_eq_true_iff
    | [(a0, b0), (a1, b1)], _ => exact fits2 h hl a b p s ho hs0 a0 b0 a1 b1 iT decide_eq_true_iff
    | [(a0, b0), (a1, b1), (a2, b2)], _ => exact fits3 h hl a b p s ho hs0 a0 b0 a1 b1 a2 b2 iT decide_eq_true_iff
  · match L, hk with
    | [(a0, b0)], _ => exact rFits1 h hl _ _ p s ho.2.2.2.2.1 a0 b0 decide_eq_true_iff
    | [(a0, b0), (a1, b1)], _ => exact rFits2 h hl _ _ p s ho.2.2.2.2.1 a0 b0 a1 b1 decide_eq_true_iff
    | [(a0, b0), (a1, b1), (a2, b2)], _ => exact rFits3 h hl _ _ p s ho.2.2.2.2.1 a0 b0 a1 b1 a2 b2 decide_eq_true_iff

theorem rule_b {N : AV} {l : List Int} (h : IL N l) (hl : l.length < 4611686018427387904) (a b p s : Int) (hs : -9223372036854775808 ≤ s ∧ s < 9223372036854775808) :
    ∃ r, Pure prog 82 [rv a b p s N] (.bool r) ∧ Pure prog 32 [rv a b p s N] (.bool r) ∧ (r = true ↔ rOk a b p s l) := by
  have hd := Classical.propDecidable (rOk a b p s l)
  exact ⟨decide (rOk a b p s l), isRule_pure h hl a b p s hs decide_eq_true_iff, rRule_pure h hl a b p s decide_eq_true_iff, decide_eq_true_iff⟩

theorem check_pure {N : AV} {l : List Int} (h : IL N l) (a b p s : Int) {r : Bool} (hr : Pure prog 82 [rv a b p s N] (.bool r)) : Pure prog 30 [rv a b p s N] (iv (if r then 0 else 2)) := by
  have lN := h.no
  rcases h.cs with rfl | rfl <;> cases r
  all_goals
    refine pure_sym hE rfl (by repeat' (first | exact trivial | assumption | exact flat_no _ | exact (fun _ h => nomatch h) | apply And.intro)) (by repeat' (first | exact trivial | assumption | exact flat_no _ | exact (fun _ h => nomatch h) | apply And.intro)) fun S q pc hS hq hC hE => ?_
    conv => whnf
    refine sym_pure hC (hr) ?_
    conv => whnf
    exact ⟨_, rfl, Wk.refl _⟩

theorem fits_no {N v : AV} {l : List Int} {k : Nat} {bR bT : Bool} (h : IL N l) (hv : TS v k bT) (a b p s : Int) (hr : Pure prog 82 [rv a b p s N] (.bool bR)) (hno : (bR && bT) = false) : Pure prog 31 [rv a b p s N, v] (.tup [.bool false, iv 2]) := by
  have lN := h.no
  have lv := hv.no
  have iT := hv.isT
  rcases h.cs with rfl | rfl <;> rcases hv.sh with ⟨rfl, _⟩ | ⟨xs, rfl, _⟩ <;> cases bR
  all_goals
    refine pure_sym hE rfl (by repeat' (first | exact trivial | assumption | exact flat_no _ | exact (fun _ h => nomatch h) | apply And.intro)) (by repeat' (first | exact trivial | assumption | exact flat_no _ | exact (fun _ h => nomatch h) | apply And.intro)) fun S q pc hS hq hC hE => ?_
    conv => whnf
    refine sym_pure hC (hr) ?_
    conv => whnf
    first
    | exact ⟨_, rfl, Wk.refl _⟩
    | cases bT with
      | true => cases hno
      | false =>
        refine sym_pure hC iT ?_
        conv => whnf
        exact ⟨_, rfl, Wk.refl _⟩
end Go.Abs.Seat
