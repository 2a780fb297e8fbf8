/-
  What the program tells of a piece: trains, rates, how far off.
  The rates of all arbors, as the program tells them.
  The rates of all arbors, as the document tells them.
  Short pieces; lists that are equal to themselves; hands, fractions, numbers as the document tells them.
  The law ShopRates.
  A piece as it comes in is one as defined, or not.
  New links: how far each is, which one is better.
-/
import Derived.Test.YtikikanopganaaaGreatDoorB16
import Derived.Test.YtikikanopganaaaGreatDoorU7
import Derived.Test.YtikikanopganaaaGreatDoorU10
import Derived.Test.YtikikanopganaaaGreatDoorU5
/-! What the program tells of a piece: trains, rates, how far off. -/
namespace Go.Abs.Seat
noncomputable section
open Go Go.Abs Go.Proofs.Tryz
set_option maxRecDepth 100000
set_option maxHeartbeats 40000000
attribute [local irreducible] IntKind.wrap pEq

structure pcN (N : List Lk) (H : List Nat) : Prop where
 ok : okN N
 l1 : 1 ≤ N.length
 l5 : N.length ≤ 5
 h1 : 1 ≤ H.length
 h4 : H.length ≤ 4
 hd : ∀ x, x ∈ H → 1 ≤ x ∧ x ≤ N.length
theorem pcN.hdN {N : List Lk} {H : List Nat} (h : pcN N H) : hdN N.length H := ⟨h.h4, fun x hx => (h.hd x hx).2⟩
theorem ints_nat : ∀ (M : List Int), (∀ j, j < M.length → 0 ≤ gi M j) → ∃ H : List Nat, M = zl H
 | [], _ => ⟨[], rfl⟩
 |x :: r, h => by
  obtain ⟨H, e⟩ := ints_nat r fun j hj => h (j + 1) (by simpa using hj)
  have hx := h 0 (by simp)
  refine ⟨x.toNat :: H, ?_⟩
  rw [e]
  exact congrArg (· :: zl H) (toN hx).symm
theorem pcN_of {L : List LkI} {M : List Int} (h : pcOk L M) : ∃ N H, L = cL N ∧ M = zl H ∧ pcN N H := by
 obtain ⟨⟨h1, h2⟩, ⟨N, rfl, hN⟩, h3⟩ := h
 obtain ⟨H, rfl⟩ := ints_nat M fun j hj => by have := h3 j hj; omega
 rw [cL_len] at h1
 rw [zl_len] at h2
 refine ⟨N, H, rfl, rfl, hN, h1.1, h1.2, h2.1, h2.2, fun x hx => ?_⟩
 obtain ⟨j, hj, e⟩ := List.getElem_of_mem hx
 have h4 := h3 j (by rw [zl_len]; exact hj)
 rw [gi_zl H hj, cL_len, show gn H j = x by rw [← e]; simp [gn, List.getD, hj]] at h4
 exact ⟨Int.ofNat_le.1 h4.1, Int.ofNat_le.1 h4.2⟩
theorem pcN.pc {N : List Lk} {H : List Nat} (h : pcN N H) : pcOk (cL N) (zl H) := by
 refine ⟨⟨by rw [cL_len]; exact ⟨h.l1, h.l5⟩, by rw [zl_len]; exact ⟨h.h1, h.h4⟩⟩, ⟨N, rfl, h.ok⟩, fun j hj => ?_⟩
 rw [zl_len] at hj
 rw [gi_zl H hj, cL_len]
 have := h.hd _ (gn_mem H hj)
 exact ⟨Int.ofNat_le.2 this.1, Int.ofNat_le.2 this.2⟩
theorem pcN.isP {N : List Lk} {H : List Nat} (h : pcN N H) : Pure prog 85 [.agg [nkA N, nl (zl H)]] (.bool true) := by
 have := isPiece_yes (cL N) (zl H) (by rw [cL_len]; exact ⟨h.l1, h.l5⟩) (by rw [zl_len]; exact ⟨h.h1, h.h4⟩)
 rw [decide_eq_true h.pc, nkA_eq] at this
 exact this
theorem pcN.rP {N : List Lk} {H : List Nat} (h : pcN N H) : Pure prog 23 [.agg [nkA N, nl (zl H)]] (.bool true) := by
 have := rPiece_yes (cL N) (zl H) (by rw [cL_len]; exact ⟨h.l1, h.l5⟩) (by rw [zl_len]; exact ⟨h.h1, h.h4⟩)
 rw [decide_eq_true h.pc, nkA_eq] at this
 exact this
theorem rPiece_pure {x h : AV} {L : List LkI} {M : List Int} (hx : LL x L) (hh : IL h M) : Pure prog 23 [.agg [x, h]] (.bool (decide (pcOk L M))) := by
 by_cases hn : (1 ≤ L.length ∧ L.length ≤ 5) ∧ (1 ≤ M.length ∧ M.length ≤ 4)
 ·rcases hx with ⟨_, rfl⟩ | rfl
  ·exact absurd hn.1.1 (by decide)
  rcases hh with ⟨_, rfl⟩ | rfl
  ·exact absurd hn.2.1 (by decide)
  exact rPiece_yes L M hn.1 hn.2
 ·rw [decide_eq_false fun z => hn z.1]
  exact rPiece_no hx hh hn

theorem tvA_pos {N : List Lk} (h : wfN N) {a : Nat} (ha : 1 ≤ a) (h2 : a ≤ N.length) : tvA (tr N a) = pv (zp (tr N a)) := by
 obtain ⟨k, rfl⟩ : ∃ k, a = k + 1 := ⟨a - 1, by omega⟩
 rw [tr_succ h (by omega), tvA_app]
end
end Go.Abs.Seat

/-! The rates of all arbors, as the program tells them. -/
namespace Go.Abs.Seat
noncomputable section
open Go Go.Abs Go.Proofs.Tryz
set_option maxRecDepth 100000
set_option maxHeartbeats 40000000
attribute [local irreducible] IntKind.wrap pEq

end
end Go.Abs.Seat

/-! The rates of all arbors, as the document tells them. -/
namespace Go.Abs.Seat
noncomputable section
open Go Go.Abs Go.Proofs.Tryz
set_option maxRecDepth 100000
set_option maxHeartbeats 40000000
attribute [local irreducible] IntKind.wrap pEq

theorem rTrainA_pure {N : List Lk} {H : List Nat} (h : pcN N H) {a : Nat} (ha : a ≤ N.length) : Pure prog 29 [.agg [nkA N, nl (zl H)], nv a] (tvA (tr N a)) := by
 have pt := rTr_pure (L := cL N) (M := zl H) (N := N) (by rw [← cL_len N, List.take_length]) (by rw [cL_len]; exact Nat.le_refl _) (by rw [cL_len]; have := h.l5; omega) h.ok.wf a a (Nat.le_refl _) ha
 rwa [nkA_eq] at pt
end
end Go.Abs.Seat

/-! Short pieces; lists that are equal to themselves; hands, fractions, numbers as the document tells them. -/
namespace Go.Abs.Seat
noncomputable section
open Go Go.Abs Go.Proofs.Tryz
set_option maxRecDepth 100000
set_option maxHeartbeats 40000000
attribute [local irreducible] IntKind.wrap pEq

theorem short_no {x h : AV} {L : List LkI} {M : List Int} (hx : LL x L) (hh : IL h M) (hs : ¬ (L.length ≤ 7 ∧ M.length ≤ 6)) : Pure prog 18 [.agg [x, h]] (.bool false) := by
 have lx := hx.no
 have lh := hh.no
 rcases hx with ⟨rfl, rfl⟩ | rfl <;> rcases hh with ⟨rfl, rfl⟩ | rfl
 ·exact absurd ⟨by decide, by decide⟩ hs
 ·have c2 : decide ((M.length : Int) ≤ 6) = false := decide_eq_false fun k => hs ⟨by simp, by omega⟩
  refine pure_sym hE rfl (by repeat' (first | exact trivial | assumption | exact flat_no _ | exact (fun _ h => nomatch h) | apply And.intro)) (by repeat' (first | exact trivial | assumption | exact flat_no _ | exact (fun _ h => nomatch h) | apply And.intro)) fun S q pc hS hq hC hE => ?_
  conv => whnf
  repeat ((first
   |refine ko_sT c2 ?_
   |refine ko_rF c2 ?_
   |refine plan_as (pick_f c2) ?_
   |refine bool_false c2 ?_
   |refine sym_drawn hS (by kernel_rfl) ?_); conv => whnf)
  exact ⟨_, rfl, wkb c2⟩
 ·have c2 : decide ((L.length : Int) ≤ 7) = false := decide_eq_false fun k => hs ⟨by omega, by simp⟩
  refine pure_sym hE rfl (by repeat' (first | exact trivial | assumption | exact flat_no _ | exact (fun _ h => nomatch h) | apply And.intro)) (by repeat' (first | exact trivial | assumption | exact flat_no _ | exact (fun _ h => nomatch h) | apply And.intro)) fun S q pc hS hq hC hE => ?_
  conv => whnf
  repeat ((first
   |refine ko_sT c2 ?_
   |refine ko_rF c2 ?_
   |refine plan_as (pick_f c2) ?_
   |refine bool_false c2 ?_
   |refine sym_drawn hS (by kernel_rfl) ?_); conv => whnf)
  exact ⟨_, rfl, Wk.refl _⟩
 ·by_cases k : L.length ≤ 7
  ·have c1 : decide ((L.length : Int) ≤ 7) = true := decide_eq_true (by omega)
   have c2 : decide ((M.length : Int) ≤ 6) = false := decide_eq_false fun q => hs ⟨k, by omega⟩
   refine pure_sym hE rfl (by repeat' (first | exact trivial | assumption | exact flat_no _ | exact (fun _ h => nomatch h) | apply And.intro)) (by repeat' (first | exact trivial | assumption | exact flat_no _ | exact (fun _ h => nomatch h) | apply And.intro)) fun S q pc hS hq hC hE => ?_
   conv => whnf
   repeat ((first
    |refine ko_rT c1 ?_
    |refine ko_sF c1 ?_
    |refine plan_as (pick_t c1) ?_
    |refine bool_true c1 ?_
    |refine ko_sT c2 ?_
    |refine ko_rF c2 ?_
    |refine plan_as (pick_f c2) ?_
    |refine bool_false c2 ?_
    |refine sym_drawn hS (by kernel_rfl) ?_); conv => whnf)
   exact ⟨_, rfl, wkb c2⟩
  ·have c1 : decide ((L.length : Int) ≤ 7) = false := decide_eq_false (by omega)
   refine pure_sym hE rfl (by repeat' (first | exact trivial | assumption | exact flat_no _ | exact (fun _ h => nomatch h) | apply And.intro)) (by repeat' (first | exact trivial | assumption | exact flat_no _ | exact (fun _ h => nomatch h) | apply And.intro)) fun S q pc hS hq hC hE => ?_
   conv => whnf
   repeat ((first
    |refine ko_sT c1 ?_
    |refine ko_rF c1 ?_
    |refine plan_as (pick_f c1) ?_
    |refine bool_false c1 ?_
    |refine sym_drawn hS (by kernel_rfl) ?_); conv => whnf)
   exact ⟨_, rfl, Wk.refl _⟩
theorem short_yes {x h : AV} {L : List LkI} {M : List Int} (hx : LL x L) (hh : IL h M) (h1 : L.length ≤ 7) (h2 : M.length ≤ 6) : Pure prog 18 [.agg [x, h]] (.bool true) := by
 have c1 : decide ((L.length : Int) ≤ 7) = true := decide_eq_true (by omega)
 have c2 : decide ((M.length : Int) ≤ 6) = true := decide_eq_true (by omega)
 have lx := hx.no
 have lh := hh.no
 rcases hx with ⟨rfl, rfl⟩ | rfl <;> rcases hh with ⟨rfl, rfl⟩ | rfl
 all_goals
  refine pure_sym hE rfl (by repeat' (first | exact trivial | assumption | exact flat_no _ | exact (fun _ h => nomatch h) | apply And.intro)) (by repeat' (first | exact trivial | assumption | exact flat_no _ | exact (fun _ h => nomatch h) | apply And.intro)) fun S q pc hS hq hC hE => ?_
  conv => whnf
  repeat ((first
   |refine ko_rT c1 ?_
   |refine ko_sF c1 ?_
   |refine plan_as (pick_t c1) ?_
   |refine bool_true c1 ?_
   |refine ko_rT c2 ?_
   |refine ko_sF c2 ?_
   |refine plan_as (pick_t c2) ?_
   |refine bool_true c2 ?_
   |refine sym_drawn hS (by kernel_rfl) ?_); conv => whnf)
  first | exact ⟨_, rfl, Wk.refl _⟩ | exact ⟨_, rfl, wkb c2⟩
theorem pcN.sh {N : List Lk} {H : List Nat} (h : pcN N H) : Pure prog 18 [.agg [nkA N, nl (zl H)]] (.bool true) := by
 have := short_yes (x := lkA (cL N)) (h := nl (zl H)) (.inr rfl) (.inr rfl) (by rw [cL_len]; have := h.l5; omega) (by rw [zl_len]; have := h.h4; omega)
 rwa [nkA_eq] at this
end
end Go.Abs.Seat

/-! The law ShopRates. -/
namespace Go.Abs.Seat
noncomputable section
open Go Go.Abs Go.Proofs.Tryz
set_option maxRecDepth 100000
set_option maxHeartbeats 40000000
attribute [local irreducible] IntKind.wrap pEq

theorem hand_b {N : List Lk} {H : List Nat} (h : pcN N H) (a : Int) : ∃ b : Bool, Pure prog 30 [.agg [nkA N, nl (zl H)], iv a] (.bool b) ∧ (b = true ↔ 0 ≤ a ∧ a < (H.length : Int)) := by
 have := rHand_pure (cL N) (zl H) a
 rw [nkA_eq, zl_len, wrapI (by have := h.h1; omega) (by have := h.h4; omega)] at this
 refine ⟨_, this, ?_⟩
 rw [decide_eq_true_iff]
 omega
theorem fr_b (n d : Int) : ∃ b : Bool, Pure prog 31 [fv n d] (.bool b) ∧ (b = true ↔ isF n d) := dec_b (rFraction_pure n d)
end
end Go.Abs.Seat

/-! A piece as it comes in is one as defined, or not. -/
namespace Go.Abs.Seat
noncomputable section
open Go Go.Abs Go.Proofs.Tryz
set_option maxRecDepth 100000
set_option maxHeartbeats 40000000

theorem piece_cases {x h : AV} {L : List LkI} {M : List Int} (hx : LL x L) (hh : IL h M) : ¬ (L.length ≤ 7 ∧ M.length ≤ 6) ∨ (L.length ≤ 7 ∧ M.length ≤ 6 ∧ ¬ pcOk L M) ∨ ∃ N H, pcN N H ∧ x = nkA N ∧ h = nl (zl H) := by
 by_cases hs : L.length ≤ 7 ∧ M.length ≤ 6
 ·by_cases hp : pcOk L M
  ·obtain ⟨N, H, rfl, rfl, hN⟩ := pcN_of hp
   refine .inr (.inr ⟨N, H, hN, ?_, ?_⟩)
   ·rcases hx with ⟨_, e⟩ | e
    ·have := hN.l1; rw [← cL_len, e] at this; exact absurd this (by decide)
    ·rw [e, nkA_eq]
   ·rcases hh with ⟨_, e⟩ | e
    ·have := hN.h1; rw [← zl_len, e] at this; exact absurd this (by decide)
    ·exact e
  ·exact .inr (.inl ⟨hs.1, hs.2, hp⟩)
 ·exact .inl hs
end
end Go.Abs.Seat

/-! New links: how far each is, which one is better. -/
namespace Go.Abs.Seat
noncomputable section
open Go Go.Abs Go.Proofs.Tryz
set_option maxRecDepth 100000
set_option maxHeartbeats 40000000
attribute [local irreducible] IntKind.wrap pEq

theorem isRange_pure (a b : Int) : Pure prog 101 [iv a, iv b] (.bool (decide ((tth a ∧ tth b) ∧ a ≤ b))) := by
 by_cases h1 : tth a
 ·have c1 : decide (tth a) = true := decide_eq_true h1
  by_cases h2 : tth b
  ·have c2 : decide (tth b) = true := decide_eq_true h2
   refine pure_sym hE rfl (by repeat' (first | exact trivial | assumption | exact flat_no _ | exact (fun _ h => nomatch h) | apply And.intro)) (by repeat' (first | exact trivial | assumption | exact flat_no _ | exact (fun _ h => nomatch h) | apply And.intro)) fun S q pc hS hq hC hE => ?_
   conv => whnf
   repeat ((first
    |refine ko_rT c1 ?_
    |refine ko_sF c1 ?_
    |refine plan_as (pick_t c1) ?_
    |refine bool_true c1 ?_
    |refine ko_rT c2 ?_
    |refine ko_sF c2 ?_
    |refine plan_as (pick_t c2) ?_
    |refine bool_true c2 ?_
    |refine ko_rT (gd_tt c1) ?_
    |refine ko_sF (gd_tt c1) ?_
    |refine plan_as (pick_t (gd_tt c1)) ?_
    |refine bool_true (gd_tt c1) ?_
    |refine ko_rT (gd_tt c2) ?_
    |refine ko_sF (gd_tt c2) ?_
    |refine plan_as (pick_t (gd_tt c2)) ?_
    |refine bool_true (gd_tt c2) ?_
    |refine sym_pure hC (sTeeth_pure a) ?_
    |refine sym_pure hC (sTeeth_pure b) ?_
    |refine sym_drawn hS (by kernel_rfl) ?_); conv => whnf)
   exact ⟨_, rfl, wkb (by simp [h1, h2])⟩
  ·have c2 : decide (tth b) = false := decide_eq_false h2
   refine pure_sym hE rfl (by repeat' (first | exact trivial | assumption | exact flat_no _ | exact (fun _ h => nomatch h) | apply And.intro)) (by repeat' (first | exact trivial | assumption | exact flat_no _ | exact (fun _ h => nomatch h) | apply And.intro)) fun S q pc hS hq hC hE => ?_
   conv => whnf
   repeat ((first
    |refine ko_rT c1 ?_
    |refine ko_sF c1 ?_
    |refine plan_as (pick_t c1) ?_
    |refine bool_true c1 ?_
    |refine ko_sT c2 ?_
    |refine ko_rF c2 ?_
    |refine plan_as (pick_f c2) ?_
    |refine bool_false c2 ?_
    |refine ko_rT (gd_tt c1) ?_
    |refine ko_sF (gd_tt c1) ?_
    |refine plan_as (pick_t (gd_tt c1)) ?_
    |refine bool_true (gd_tt c1) ?_
    |refine ko_sT (gd_tf c2) ?_
    |refine ko_rF (gd_tf c2) ?_
    |refine plan_as (pick_f (gd_tf c2)) ?_
    |refine bool_false (gd_tf c2) ?_
    |refine sym_pure hC (sTeeth_pure a) ?_
    |refine sym_pure hC (sTeeth_pure b) ?_
    |refine sym_drawn hS (by kernel_rfl) ?_); conv => whnf)
   exact ⟨_, rfl, wkb (by simp [h2])⟩
 ·have c1 : decide (tth a) = false := decide_eq_false h1
  refine pure_sym hE rfl (by repeat' (first | exact trivial | assumption | exact flat_no _ | exact (fun _ h => nomatch h) | apply And.intro)) (by repeat' (first | exact trivial | assumption | exact flat_no _ | exact (fun _ h => nomatch h) | apply And.intro)) fun S q pc hS hq hC hE => ?_
  conv => whnf
  repeat ((first
   |refine ko_sT c1 ?_
   |refine ko_rF c1 ?_
   |refine plan_as (pick_f c1) ?_
   |refine bool_false c1 ?_
   |refine ko_sT (gd_tf c1) ?_
   |refine ko_rF (gd_tf c1) ?_
   |refine plan_as (pick_f (gd_tf c1)) ?_
   |refine bool_false (gd_tf c1) ?_
   |refine sym_pure hC (sTeeth_pure a) ?_
   |refine sym_drawn hS (by kernel_rfl) ?_); conv => whnf)
  exact ⟨_, rfl, wkb (by simp [h1])⟩
theorem sFraction_pure (a b : Int) : Pure prog 102 [fv a b] (.bool (decide (isF a b))) := by
 by_cases h1 : 0 ≤ a ∧ a ≤ 50000
 ·have c1 : decide (0 ≤ a ∧ a ≤ 50000) = true := decide_eq_true h1
  refine pure_sym hE rfl (by repeat' (first | exact trivial | assumption | exact flat_no _ | exact (fun _ h => nomatch h) | apply And.intro)) (by repeat' (first | exact trivial | assumption | exact flat_no _ | exact (fun _ h => nomatch h) | apply And.intro)) fun S q pc hS hq hC hE => ?_
  conv => whnf
  repeat ((first
   |refine ko_rT c1 ?_
   |refine ko_sF c1 ?_
   |refine plan_as (pick_t c1) ?_
   |refine bool_true c1 ?_
   |refine ko_rT (gd_tt c1) ?_
   |refine ko_sF (gd_tt c1) ?_
   |refine plan_as (pick_t (gd_tt c1)) ?_
   |refine bool_true (gd_tt c1) ?_
   |refine sym_pure hC (sin_pure a 0 50000) ?_
   |refine sym_pure hC (sin_pure b 1 50000) ?_
   |refine sym_drawn hS (by kernel_rfl) ?_); conv => whnf)
  exact ⟨_, rfl, wkb (by unfold isF; simp [h1])⟩
 ·have c1 : decide (0 ≤ a ∧ a ≤ 50000) = false := decide_eq_false h1
  refine pure_sym hE rfl (by repeat' (first | exact trivial | assumption | exact flat_no _ | exact (fun _ h => nomatch h) | apply And.intro)) (by repeat' (first | exact trivial | assumption | exact flat_no _ | exact (fun _ h => nomatch h) | apply And.intro)) fun S q pc hS hq hC hE => ?_
  conv => whnf
  repeat ((first
   |refine ko_sT c1 ?_
   |refine ko_rF c1 ?_
   |refine plan_as (pick_f c1) ?_
   |refine bool_false c1 ?_
   |refine ko_sT (gd_tf c1) ?_
   |refine ko_rF (gd_tf c1) ?_
   |refine plan_as (pick_f (gd_tf c1)) ?_
   |refine bool_false (gd_tf c1) ?_
   |refine sym_pure hC (sin_pure a 0 50000) ?_
   |refine sym_drawn hS (by kernel_rfl) ?_); conv => whnf)
  exact ⟨_, rfl, wkb (by unfold isF; simp [h1])⟩
theorem sdist_pure (a b n d : Nat) (h1 : a * d < 4611686018427387904) (h2 : n * b < 4611686018427387904) : Pure prog 105 [fv (Int.ofNat a) (Int.ofNat b), fv (Int.ofNat n) (Int.ofNat d)] (qf (dQ n d (a, b))) := by
 refine pure_sym hE rfl (by repeat' (first | exact trivial | assumption | exact flat_no _ | exact (fun _ h => nomatch h) | apply And.intro)) (by repeat' (first | exact trivial | assumption | exact flat_no _ | exact (fun _ h => nomatch h) | apply And.intro)) fun S q pc hS hq hC hE => ?_
 conv => whnf
 refine ⟨_, rfl, wkE ?_⟩
 rw [show IntKind.i64.wrap (Int.ofNat a * Int.ofNat d) = Int.ofNat (a * d) from wrapN (m := a * d) (by omega), show IntKind.i64.wrap (Int.ofNat n * Int.ofNat b) = Int.ofNat (n * b) from wrapN (m := n * b) (by omega),
  wrapI (by show _ ≤ (_ : Int) - _; simp only [Int.ofNat_eq_natCast]; omega) (by simp only [Int.ofNat_eq_natCast]; omega), maxI_neg h1 h2]
 rfl
abbrev hpA (N : List Lk) (M : List Int) (n d : Nat) (W0 W2 W4 : AObj) : Tr AObj :=
 .node W0 (.node (.cells (.node (nv n) (.node (nv d) .nil .nil) .nil) 2 36) (.node (.cells (.node (nkA N) (.node (nl M) .nil .nil) (.node (pv (zp (rtL N (N.length + 1)))) .nil .nil)) 3 138) .nil .nil) (.node (.cells (.node (.func (.func 104) [] [.ptr 3 0, .ptr 1 0]) .nil .nil) 1 146) .nil .nil)) (.node W2 (.node W4 .nil .nil) .nil)
theorem hpA_end (N : List Lk) (M : List Int) (n d : Nat) (W0 W2 W4 : AObj) : HEnd (hpA N M n d W0 W2 W4) 6 := appT_end [W0, .cells (.node (nv n) (.node (nv d) .nil .nil) .nil) 2 36, W2, .cells (.node (nkA N) (.node (nl M) .nil .nil) (.node (pv (zp (rtL N (N.length + 1)))) .nil .nil)) 3 138, W4, .cells (.node (.func (.func 104) [] [.ptr 3 0, .ptr 1 0]) .nil .nil) 1 146] 0 .nil HEnd_nil
abbrev lkV (x : Lk) : AV := .agg [nv x.1, nv x.2.1, nv x.2.2]
def wyA (N : List Lk) (n d : Nat) (x : Lk) : Nat × Nat := dQ n d ((rtA N x.1).1 * x.2.1, (rtA N x.1).2 * x.2.2)
structure nwL (N : List Lk) (x : Lk) : Prop where
 f : x.1 ≤ N.length
 a : x.2.1 ≤ 60
 b : x.2.2 ≤ 60
theorem wyA_le {N : List Lk} (h : okN N) {n d : Nat} (hn : n ≤ 50000) (hd : d ≤ 50000) {x : Lk} (hx : nwL N x) : ((rtA N x.1).1 * x.2.1 ≤ 12960000 ∧ (rtA N x.1).2 * x.2.2 ≤ 12960000) ∧ (wyA N n d x).1 ≤ 648000000000 ∧ (wyA N n d x).2 ≤ 12960000 := by
 have hb := rtA_le h hx.f
 have m1 : (rtA N x.1).1 * x.2.1 ≤ 216000 * 60 := Nat.mul_le_mul hb.1.2 hx.a
 have m2 : (rtA N x.1).2 * x.2.2 ≤ 216000 * 60 := Nat.mul_le_mul hb.2.2 hx.b
 have m3 : (rtA N x.1).1 * x.2.1 * d ≤ 12960000 * 50000 := Nat.mul_le_mul (by omega) hd
 have m4 : n * ((rtA N x.1).2 * x.2.2) ≤ 50000 * 12960000 := Nat.mul_le_mul hn (by omega)
 refine ⟨⟨by omega, by omega⟩, ?_, by show (rtA N x.1).2 * x.2.2 ≤ _; omega⟩
 show gp ((rtA N x.1).1 * x.2.1 * d) (n * ((rtA N x.1).2 * x.2.2)) ≤ _
 unfold gp
 omega
theorem away_h {N : List Lk} (h : okN N) {M : List Int} {n d : Nat} (hn : n ≤ 50000) (hd : d ≤ 50000) {W0 W2 W4 : AObj} (b0 : BdO 6 W0) (b2 : BdO 6 W2) (b4 : BdO 6 W4) {x : Lk} (hx : nwL N x) :
  HFun prog 104 [lkV x, .ptr 3 0, .ptr 1 0] (hv (hpA N M n d W0 W2 W4)) 6 (qf (wyA N n d x)) (hv (hpA N M n d W0 W2 W4)) := by
 have lN := lks_no (cL N)
 have lM := ivs_no M
 have lR := flat_no (zp (rtL N (N.length + 1)))
 have hBd : ObBd 6 (hpA N M n d W0 W2 W4) 6 := by
  repeat' (first | exact trivial | exact b0 | exact b2 | exact b4 | exact Nat.zero_le _ | exact bdl_no lN | exact bdl_no lM | exact bdl_no lR | exact Nat.le_of_ble_eq_true rfl | apply And.intro | exact Nat.max_le.2 ⟨Nat.zero_le _, bdl_no lN⟩)
 refine hfun_sym hE rfl (hpA_end N M n d W0 W2 W4) (Nat.le_of_ble_eq_true rfl) (Nat.zero_le _) hBd hBd fun S q pc hS hq hC hE => ?_
 have hf := hx.f
 have hb := wyA_le h hn hd hx
 have tk : takeN 2 (dropN (x.1 * 2) (flat (zp (rtL N (N.length + 1))))) = some [nv (rtA N x.1).1, nv (rtA N x.1).2] := by
  rw [tak_zp _ (by rw [rtL_len]; omega), rtL_get N (by omega)]
 have m3 : (rtA N x.1).1 * x.2.1 * d ≤ 12960000 * 50000 := Nat.mul_le_mul hb.1.1 hd
 have m4 : n * ((rtA N x.1).2 * x.2.2) ≤ 50000 * 12960000 := Nat.mul_le_mul hn hb.1.2
 conv => whnf
 refine bool_true ((show inR (Int.ofNat x.1) (zp (rtL N (N.length + 1))).length = true by rw [zp_len, rtL_len]; exact inR_t (by omega))) ?_
 conv => whnf
 refine plan_as (takP tk) ?_
 conv => whnf
 rw [mulN (a := (rtA N x.1).1) (b := x.2.1) (by omega), mulN (a := (rtA N x.1).2) (b := x.2.2) (by omega)]
 refine sym_pure hC (sdist_pure ((rtA N x.1).1 * x.2.1) ((rtA N x.1).2 * x.2.2) n d (by omega) (by omega)) ?_
 conv => whnf
 exact ⟨_, rfl, WkV.refl _, rfl, rfl, rfl, rfl, rfl, rfl, trivial⟩
theorem ob6 {h h' : Tr AObj} (e0 : hv h 0 = hv h' 0) (e1 : hv h 1 = hv h' 1) (e2 : hv h 2 = hv h' 2) (e3 : hv h 3 = hv h' 3) (e4 : hv h 4 = hv h' 4) (e5 : hv h 5 = hv h' 5) : ∀ i, i < 6 → hv h i = hv h' i
 | 0, _ => e0
 | 1, _ => e1
 | 2, _ => e2
 | 3, _ => e3
 | 4, _ => e4
 | 5, _ => e5
 | _ + 6, h => absurd h (by omega)
def btL (N : List Lk) (n d : Nat) (x y : Lk) : Prop := (wyA N n d x).1 * (wyA N n d y).2 < (wyA N n d y).1 * (wyA N n d x).2
instance (N : List Lk) (n d : Nat) (x y : Lk) : Decidable (btL N n d x y) := Nat.decLt _ _
theorem better_h {N : List Lk} (h : okN N) {M : List Int} {n d : Nat} (hn : n ≤ 50000) (hd : d ≤ 50000) {W0 W2 W4 : AObj} (b0 : BdO 6 W0) (b2 : BdO 6 W2) (b4 : BdO 6 W4) {x y : Lk} (hx : nwL N x) (hy : nwL N y) :
  HFun prog 107 [lkV x, lkV y, .ptr 5 0] (hv (hpA N M n d W0 W2 W4)) 6 (.bool (decide (btL N n d x y))) (hv (hpA N M n d W0 W2 W4)) := by
 have lN := lks_no (cL N)
 have lM := ivs_no M
 have lR := flat_no (zp (rtL N (N.length + 1)))
 have hBd : ObBd 6 (hpA N M n d W0 W2 W4) 6 := by
  repeat' (first | exact trivial | exact b0 | exact b2 | exact b4 | exact Nat.zero_le _ | exact bdl_no lN | exact bdl_no lM | exact bdl_no lR | exact Nat.le_of_ble_eq_true rfl | apply And.intro | exact Nat.max_le.2 ⟨Nat.zero_le _, bdl_no lN⟩)
 have ax := away_h h (M := M) hn hd b0 b2 b4 hx
 have ay := away_h h (M := M) hn hd b0 b2 b4 hy
 have gx := (wyA_le h hn hd hx).2
 have gy := (wyA_le h hn hd hy).2
 have m1 : (wyA N n d x).1 * (wyA N n d y).2 ≤ 648000000000 * 12960000 := Nat.mul_le_mul gx.1 gy.2
 have m2 : (wyA N n d y).1 * (wyA N n d x).2 ≤ 648000000000 * 12960000 := Nat.mul_le_mul gy.1 gx.2
 refine hfun_sym hE rfl (hpA_end N M n d W0 W2 W4) (Nat.le_of_ble_eq_true rfl) (Nat.zero_le _) hBd hBd fun S q pc hS hq hC hE => ?_
 conv => whnf
 refine sym_pureR hC (HFun.pureR ax (ob6 rfl rfl rfl rfl rfl rfl)) ?_
 conv => whnf
 refine sym_pureR hC (HFun.pureR ay (ob6 rfl rfl rfl rfl rfl rfl)) ?_
 conv => whnf
 refine sym_drawn hS (by kernel_rfl) ?_
 conv => whnf
 refine ⟨_, rfl, WkV.eq ?_, rfl, rfl, rfl, rfl, rfl, rfl, trivial⟩
 rw [mulN (a := (wyA N n d x).1) (b := (wyA N n d y).2) (by omega), mulN (a := (wyA N n d y).1) (b := (wyA N n d x).2) (by omega)]
 exact congrArg AV.bool (decide_eq_decide.2 Int.ofNat_lt)
def bsN (N : List Lk) (n d : Nat) (l : List Lk) : Nat → Lk
 | 0 => (0, 0, 0)
 |i + 1 => if i = 0 ∨ btL N n d (gN l i) (bsN N n d l i) then gN l i else bsN N n d l i
theorem bsN_ok {N : List Lk} {n d : Nat} {l : List Lk} (hl : ∀ x, x ∈ l → nwL N x) : ∀ i, i ≤ l.length → nwL N (bsN N n d l i)
 | 0, _ => ⟨Nat.zero_le _, Nat.zero_le _, Nat.zero_le _⟩
 |i + 1, h => by
  rw [bsN]
  split
  ·exact hl _ (gN_mem l h)
  ·exact bsN_ok hl i (by omega)
end
end Go.Abs.Seat
