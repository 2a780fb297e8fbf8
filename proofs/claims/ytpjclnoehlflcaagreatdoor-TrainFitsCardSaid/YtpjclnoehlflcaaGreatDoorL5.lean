/-
  The law TrainOffs.
-/
import Derived.Test.YtpjclnoehlflcaaGreatDoorT8
/-! The law TrainOffs. -/
namespace Go.Abs.Seat
open Go Go.Abs Go.Proofs.Tryz
set_option maxRecDepth 100000
set_option maxHeartbeats 4000000
attribute [local irreducible] IntKind.wrap pEq

theorem ts_of {v : AV} {k : Nat} (hv : (∃ x y, TV v k x y) ∨ TN v k) : ∃ b, TS v k b ∧ (b = true → ∃ x y, TV v k x y) := by
  rcases hv with ⟨x, y, h⟩ | h
  · exact ⟨true, h.ts, fun _ => ⟨x, y, h⟩⟩
  · exact ⟨false, h.ts, fun e => nomatch e⟩

theorem dec_t {f : FuncId} {xs : List AV} {p : Prop} [Decidable p] (h : Pure prog f xs (.bool (decide p))) (hp : p) : Pure prog f xs (.bool true) := by rwa [decide_eq_true hp] at h
theorem dec_f {f : FuncId} {xs : List AV} {p : Prop} [Decidable p] (h : Pure prog f xs (.bool (decide p))) (hp : ¬ p) : Pure prog f xs (.bool false) := by rwa [decide_eq_false hp] at h
theorem dec_b {f : FuncId} {xs : List AV} {p : Prop} [Decidable p] (h : Pure prog f xs (.bool (decide p))) : ∃ b, Pure prog f xs (.bool b) ∧ (b = true ↔ p) := ⟨_, h, decide_eq_true_iff⟩

theorem int_nat {a : Int} {m : Int} (h : 0 ≤ a ∧ a ≤ m) : ∃ x : Nat, a = Int.ofNat x ∧ (x : Int) ≤ m := ⟨a.toNat, by show a = ((a.toNat : Nat) : Int); omega, by omega⟩

/-- One or the other, as a truth value says. -/
abbrev eith (b : Bool) (F T : Prop) : Prop := @Bool.rec (fun _ => Prop) F T b
theorem eith_of {b : Bool} {p F T : Prop} (h : b = true ↔ p) (h1 : p → T) (h2 : ¬ p → F) : eith b F T := by
  cases b with
  | true => exact h1 (h.1 rfl)
  | false => exact h2 fun k => nomatch h.2 k

theorem and3 {a b c : Bool} {q r : Prop} (h1 : b = true ↔ q) (h2 : c = true ↔ r) : (a && b && c) = true ↔ (a = true ∧ q ∧ r) := by
  rw [← h1, ← h2]; cases a <;> cases b <;> cases c <;> simp

/-- What Off tells, and what the document's Off tells. -/
theorem off_b {v : AV} {k : Nat} {b bF bN : Bool} (hv : TS v k b) (hx : b = true → ∃ x y, TV v k x y) {n d t : Int} (iF : bF = true ↔ isF n d) (iN : bN = true ↔ (0 ≤ t ∧ t ≤ 10000)) :
    ∃ r e : Int, Pure prog 27 [v, fv n d, iv t] (.tup [iv r, iv e]) ∧ eith (b && bF && bN) (e = 2 ∧ r = 0) (e = 0 ∧ Pure prog 115 [v, fv n d, iv t] (iv r)) := by
  by_cases h : b = true ∧ isF n d ∧ 0 ≤ t ∧ t ≤ 10000
  · obtain ⟨x, y, tv⟩ := hx h.1
    have h3 := h.2.2
    have h0 := h
    obtain ⟨n, d, rfl, rfl, q1, q2, q3⟩ := isF_nat h.2.1
    obtain ⟨t, rfl, q4⟩ := int_nat h3
    exact ⟨_, _, off_pure tv n d t q1 ⟨q2, q3⟩ (by omega), eith_of (and3 iF iN) (fun _ => ⟨rfl, roff2_pure tv n d t q1 ⟨q2, q3⟩ (by omega)⟩) (fun q => absurd h0 q)⟩
  · exact ⟨_, _, off_no hv n d t h, eith_of (and3 iF iN) (fun q => absurd q h) fun _ => ⟨rfl, rfl⟩⟩

end Go.Abs.Seat
