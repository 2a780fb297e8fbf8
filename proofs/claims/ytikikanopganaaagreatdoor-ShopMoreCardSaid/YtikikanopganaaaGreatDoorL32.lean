/-
  The law ShopAdds.
-/
import Derived.Test.YtikikanopganaaaGreatDoorB26
/-! The law ShopAdds. -/
namespace Go.Abs.Seat
noncomputable section
open Go Go.Abs Go.Proofs.Tryz
set_option maxRecDepth 100000
set_option maxHeartbeats 40000000
attribute [local irreducible] IntKind.wrap pEq

abbrev tv3 (a b c : Int) : AV := .agg [iv a, iv b, iv c]
theorem eqLk (cst : Bool) (a b c x y z : Int) : q0 73 cst (tv3 a b c) (tv3 x y z) = @Bool.rec (fun _ => Option Bool) (some false) (@Option.rec Bool (fun _ => Option Bool) none (fun e => @Bool.rec (fun _ => Option Bool) (some false) (some true) e) (@Bool.rec (fun _ => Option Bool) (some false) (@Bool.rec (fun _ => Option Bool) (some false) (some true) (c == z)) (b == y))) (a == x) := by kernel_rfl
theorem eqLk_same (cst : Bool) (a b c : Int) : q0 73 cst (tv3 a b c) (tv3 a b c) = some true := by
 rw [eqLk, show (a == a) = true from beq_self_eq_true a, show (b == b) = true from beq_self_eq_true b, show (c == c) = true from beq_self_eq_true c]
def rgOk (a b : Int) : Prop := (tth a ∧ tth b) ∧ a ≤ b
theorem sAdds_out {x h : AV} {L : List LkI} {M : List Int} (hx : LL x L) (hh : IL h M) (p : Pure prog 85 [.agg [x, h]] (.bool false)) (a b n d : Int) : Pure prog 41 [.agg [x, h], iv a, iv b, fv n d] (.tup [tv3 0 0 0, iv 2]) := by
 have lx := hx.no
 have lh := hh.no
 rcases hx with ⟨rfl, rfl⟩ | rfl <;> rcases hh with ⟨rfl, rfl⟩ | rfl
 all_goals
  refine pure_sym hE rfl (by repeat' (first | exact trivial | assumption | exact flat_no _ | exact (fun _ h => nomatch h) | apply And.intro)) (by repeat' (first | exact trivial | assumption | exact flat_no _ | exact (fun _ h => nomatch h) | apply And.intro)) fun S q pc hS hq hC hE => ?_
  conv => whnf
  repeat ((first
   |refine sym_pure hC (p) ?_
   |refine sym_drawn hS (by kernel_rfl) ?_
   |refine sym_eq hq true (eqBool_same _ _) ?_
   |rw [beq_self_eq_true]
   |rw [bne_self_eq_false]); conv => whnf)
  exact ⟨_, rfl, Wk.refl _⟩
theorem sAdds_no {N : List Lk} {H : List Nat} (h : pcN N H) {a b n d : Int} (hc : ¬ (rgOk a b ∧ isF n d)) : Pure prog 41 [.agg [nkA N, nl (zl H)], iv a, iv b, fv n d] (.tup [tv3 0 0 0, iv 2]) := by
 have lN := lks_no (cL N)
 have lM := ivs_no (zl H)
 obtain ⟨bR, pR, iR⟩ := dec_b (isRange_pure a b)
 obtain ⟨bF, pF, iF⟩ := dec_b (sFraction_pure n d)
 have hP := h.isP
 cases bR <;> cases bF
 ·refine pure_sym hE rfl (by repeat' (first | exact trivial | assumption | exact flat_no _ | exact (fun _ h => nomatch h) | apply And.intro)) (by repeat' (first | exact trivial | assumption | exact flat_no _ | exact (fun _ h => nomatch h) | apply And.intro)) fun S q pc hS hq hC hE => ?_
  conv => whnf
  repeat ((first
   |refine sym_pure hC (hP) ?_
   |refine sym_pure hC (pR) ?_
   |refine sym_pure hC (pF) ?_
   |refine sym_drawn hS (by kernel_rfl) ?_
   |refine sym_eq hq true (eqBool_same _ _) ?_
   |rw [beq_self_eq_true]
   |rw [bne_self_eq_false]); conv => whnf)
  exact ⟨_, rfl, Wk.refl _⟩
 ·refine pure_sym hE rfl (by repeat' (first | exact trivial | assumption | exact flat_no _ | exact (fun _ h => nomatch h) | apply And.intro)) (by repeat' (first | exact trivial | assumption | exact flat_no _ | exact (fun _ h => nomatch h) | apply And.intro)) fun S q pc hS hq hC hE => ?_
  conv => whnf
  repeat ((first
   |refine sym_pure hC (hP) ?_
   |refine sym_pure hC (pR) ?_
   |refine sym_pure hC (pF) ?_
   |refine sym_drawn hS (by kernel_rfl) ?_
   |refine sym_eq hq true (eqBool_same _ _) ?_
   |rw [beq_self_eq_true]
   |rw [bne_self_eq_false]); conv => whnf)
  exact ⟨_, rfl, Wk.refl _⟩
 ·refine pure_sym hE rfl (by repeat' (first | exact trivial | assumption | exact flat_no _ | exact (fun _ h => nomatch h) | apply And.intro)) (by repeat' (first | exact trivial | assumption | exact flat_no _ | exact (fun _ h => nomatch h) | apply And.intro)) fun S q pc hS hq hC hE => ?_
  conv => whnf
  repeat ((first
   |refine sym_pure hC (hP) ?_
   |refine sym_pure hC (pR) ?_
   |refine sym_pure hC (pF) ?_
   |refine sym_drawn hS (by kernel_rfl) ?_
   |refine sym_eq hq true (eqBool_same _ _) ?_
   |rw [beq_self_eq_true]
   |rw [bne_self_eq_false]); conv => whnf)
  exact ⟨_, rfl, Wk.refl _⟩
 ·exact absurd ⟨iR.1 rfl, iF.1 rfl⟩ hc
theorem sa_long (hk : Pure prog 14 [] (.bool true)) {x h : AV} {L : List LkI} {M : List Int} (hx : LL x L) (hh : IL h M) (hs : ¬ (L.length ≤ 7 ∧ M.length ≤ 6)) (a b n d : Int) : Pure prog 7 [.agg [x, h], iv a, iv b, fv n d] (.bool true) := by
 have p1 := short_no hx hh hs
 have lx := hx.no
 have lh := hh.no
 rcases hx with ⟨rfl, rfl⟩ | rfl <;> rcases hh with ⟨rfl, rfl⟩ | rfl
 all_goals
  refine pure_sym hE rfl (by repeat' (first | exact trivial | assumption | exact flat_no _ | exact (fun _ h => nomatch h) | apply And.intro)) (by repeat' (first | exact trivial | assumption | exact flat_no _ | exact (fun _ h => nomatch h) | apply And.intro)) fun S q pc hS hq hC hE => ?_
  conv => whnf
  repeat ((first
   |refine sym_pure hC (p1) ?_
   |refine sym_pure hC (hk) ?_
   |refine sym_drawn hS (by kernel_rfl) ?_
   |refine sym_eq hq true (eqBool_same _ _) ?_
   |rw [beq_self_eq_true]
   |rw [bne_self_eq_false]); conv => whnf)
  exact ⟨_, rfl, Wk.refl _⟩
theorem sa_out (hk : Pure prog 14 [] (.bool true)) {x h : AV} {L : List LkI} {M : List Int} (hx : LL x L) (hh : IL h M) (h1 : L.length ≤ 7) (h2 : M.length ≤ 6) (hp : ¬ pcOk L M) (a b n d : Int) : Pure prog 7 [.agg [x, h], iv a, iv b, fv n d] (.bool true) := by
 have p1 := short_yes hx hh h1 h2
 have p2 := isPiece_pure hx hh
 have p3 := rPiece_pure hx hh
 rw [decide_eq_false hp] at p2 p3
 have p4 := sAdds_out hx hh p2 a b n d
 have lx := hx.no
 have lh := hh.no
 rcases hx with ⟨rfl, rfl⟩ | rfl <;> rcases hh with ⟨rfl, rfl⟩ | rfl
 all_goals
  refine pure_sym hE rfl (by repeat' (first | exact trivial | assumption | exact flat_no _ | exact (fun _ h => nomatch h) | apply And.intro)) (by repeat' (first | exact trivial | assumption | exact flat_no _ | exact (fun _ h => nomatch h) | apply And.intro)) fun S q pc hS hq hC hE => ?_
  conv => whnf
  repeat ((first
   |refine sym_pure hC (p1) ?_
   |refine sym_pure hC (p3) ?_
   |refine sym_pure hC (p4) ?_
   |refine sym_drawn hS (by kernel_rfl) ?_
   |refine sym_eq hq true (eqBool_same _ _) ?_
   |rw [beq_self_eq_true]
   |rw [bne_self_eq_false]); conv => whnf)
  refine sym_eq hq true (eqLk_same _ _ _ _) ?_
  conv => whnf
  repeat ((first
   |refine sym_pure hC (hk) ?_
   |refine sym_drawn hS (by kernel_rfl) ?_
   |refine sym_eq hq true (eqBool_same _ _) ?_
   |rw [beq_self_eq_true]
   |rw [bne_self_eq_false]); conv => whnf)
  exact ⟨_, rfl, Wk.refl _⟩
theorem sa_no (hk : Pure prog 14 [] (.bool true)) {N : List Lk} {H : List Nat} (h : pcN N H) {a b n d : Int} (hc : ¬ (rgOk a b ∧ isF n d)) : Pure prog 7 [.agg [nkA N, nl (zl H)], iv a, iv b, fv n d] (.bool true) := by
 have lN := lks_no (cL N)
 have lM := ivs_no (zl H)
 obtain ⟨bR, pR, iR⟩ := dec_b (rRange_pure a b)
 obtain ⟨bF, pF, iF⟩ := fr_b n d
 have p1 := h.sh
 have p3 := h.rP
 have p4 := sAdds_no h hc
 have hn : ¬ (bR = true ∧ bF = true) := fun z => hc ⟨iR.1 z.1, iF.1 z.2⟩
 cases bR <;> cases bF
 all_goals first
  |exact absurd ⟨rfl, rfl⟩ hn
  |skip
 all_goals
  refine pure_sym hE rfl (by repeat' (first | exact trivial | assumption | exact flat_no _ | exact (fun _ h => nomatch h) | apply And.intro)) (by repeat' (first | exact trivial | assumption | exact flat_no _ | exact (fun _ h => nomatch h) | apply And.intro)) fun S q pc hS hq hC hE => ?_
  conv => whnf
  repeat ((first
   |refine sym_pure hC (p1) ?_
   |refine sym_pure hC (p3) ?_
   |refine sym_pure hC (p4) ?_
   |refine sym_pure hC (pR) ?_
   |refine sym_pure hC (pF) ?_
   |refine sym_drawn hS (by kernel_rfl) ?_
   |refine sym_eq hq true (eqBool_same _ _) ?_
   |rw [beq_self_eq_true]
   |rw [bne_self_eq_false]); conv => whnf)
  refine sym_eq hq true (eqLk_same _ _ _ _) ?_
  conv => whnf
  repeat ((first
   |refine sym_pure hC (hk) ?_
   |refine sym_drawn hS (by kernel_rfl) ?_
   |refine sym_eq hq true (eqBool_same _ _) ?_
   |rw [beq_self_eq_true]
   |rw [bne_self_eq_false]); conv => whnf)
  exact ⟨_, rfl, Wk.refl _⟩
theorem sa_yes (hk : Pure prog 14 [] (.bool true)) {N : List Lk} {H : List Nat} (h : pcN N H) {a b n d : Nat} (hlo : 4 ≤ a) (hle : a ≤ b) (hhi : b ≤ 60) (hn : n ≤ 50000) (hd : 1 ≤ d ∧ d ≤ 50000) (pR : Pure prog 42 [nv a, nv b] (.bool true)) (pF : Pure prog 31 [fv (Int.ofNat n) (Int.ofNat d)] (.bool true)) : Pure prog 7 [.agg [nkA N, nl (zl H)], nv a, nv b, fv (Int.ofNat n) (Int.ofNat d)] (.bool true) := by
 have lN := lks_no (cL N)
 have lM := ivs_no (zl H)
 have p1 := h.sh
 have p3 := h.rP
 have p4 := adds_pure h.ok h.l1 h.l5 (zl H) h.isP hlo hle hhi hn hd
 rw [best_same (by omega) (by omega)] at p4
 have p5 := rAdds_pure h hlo hle hhi hn hd
 generalize bsT N n d (0, a, a) (cF N a (b + 1 - a) (N.length + 1)) = z at *
 refine pure_sym hE rfl (by repeat' (first | exact trivial | assumption | exact flat_no _ | exact (fun _ h => nomatch h) | apply And.intro)) (by repeat' (first | exact trivial | assumption | exact flat_no _ | exact (fun _ h => nomatch h) | apply And.intro)) fun S q pc hS hq hC hE => ?_
 conv => whnf
 repeat ((first
  |refine sym_pure hC (p1) ?_
  |refine sym_pure hC (p3) ?_
  |refine sym_pure hC (p4) ?_
  |refine sym_pure hC (pR) ?_
  |refine sym_pure hC (pF) ?_
  |refine sym_pure hC (p5) ?_
  |refine sym_drawn hS (by kernel_rfl) ?_
  |refine sym_eq hq true (eqBool_same _ _) ?_
  |rw [beq_self_eq_true]
  |rw [bne_self_eq_false]); conv => whnf)
 refine sym_eq hq true (eqLk_same _ _ _ _) ?_
 conv => whnf
 repeat ((first
  |refine sym_pure hC (hk) ?_
  |refine sym_drawn hS (by kernel_rfl) ?_
  |refine sym_eq hq true (eqBool_same _ _) ?_
  |rw [beq_self_eq_true]
  |rw [bne_self_eq_false]); conv => whnf)
 exact ⟨_, rfl, Wk.refl _⟩
theorem shopAdds (hk : Pure prog 14 [] (.bool true)) {x h : AV} {L : List LkI} {M : List Int} (hx : LL x L) (hh : IL h M) (a b n d : Int) : Pure prog 7 [.agg [x, h], iv a, iv b, fv n d] (.bool true) := by
 rcases piece_cases hx hh with hs | ⟨h1, h2, hp⟩ | ⟨N, H, hN, rfl, rfl⟩
 ·exact sa_long hk hx hh hs a b n d
 ·exact sa_out hk hx hh h1 h2 hp a b n d
 ·by_cases hc : rgOk a b ∧ isF n d
  ·have pR := rRange_pure a b
   rw [decide_eq_true (show (tth a ∧ tth b) ∧ a ≤ b from hc.1)] at pR
   have pF := rFraction_pure n d
   rw [decide_eq_true hc.2] at pF
   have q := hc.1
   unfold rgOk tth at q
   obtain ⟨a, rfl, _⟩ := int_nat (m := 60) (a := a) ⟨by omega, by omega⟩
   obtain ⟨b, rfl, _⟩ := int_nat (m := 60) (a := b) ⟨by omega, by omega⟩
   obtain ⟨n, d, rfl, rfl, q1, q2, q3⟩ := isF_nat hc.2
   simp only [Int.ofNat_eq_natCast] at q
   exact sa_yes hk hN (by omega) (by omega) (by omega) q1 ⟨q2, q3⟩ pR pF
  ·exact sa_no hk hN hc
end
end Go.Abs.Seat
