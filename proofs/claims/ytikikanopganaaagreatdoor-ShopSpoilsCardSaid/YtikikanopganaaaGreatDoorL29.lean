/-
  The law ShopRates.
-/
import Derived.Test.YtikikanopganaaaGreatDoorU11
/-! The law ShopRates. -/
namespace Go.Abs.Seat
noncomputable section
open Go Go.Abs Go.Proofs.Tryz
set_option maxRecDepth 100000
set_option maxHeartbeats 40000000
attribute [local irreducible] IntKind.wrap pEq

theorem sr_long (hk : Pure prog 14 [] (.bool true)) {x h : AV} {L : List LkI} {M : List Int} (hx : LL x L) (hh : IL h M) (hs : ¬ (L.length ≤ 7 ∧ M.length ≤ 6)) (a b n d t : Int) : Pure prog 4 [.agg [x, h], iv a, iv b, fv n d, iv t] (.bool true) := by
 have p1 := short_no hx hh hs
 have lx := hx.no
 have lh := hh.no
 rcases hx with ⟨rfl, rfl⟩ | rfl <;> rcases hh with ⟨rfl, rfl⟩ | rfl
 all_goals
  refine pure_sym hE rfl (by repeat' (first | exact trivial | assumption | exact flat_no _ | exact (fun _ h => nomatch h) | apply And.intro)) (by repeat' (first | exact trivial | assumption | exact flat_no _ | exact (fun _ h => nomatch h) | apply And.intro)) fun S q pc hS hq hC hE => ?_
  conv => whnf
  repeat ((first
   |refine sym_pure hC (p1) ?_
   |refine sym_pure hC (hk) ?_
   |refine sym_drawn hS (by kernel_rfl) ?_
   |refine sym_eq hq true (eqBool_same _ _) ?_
   |rw [beq_self_eq_true]
   |rw [bne_self_eq_false]); conv => whnf)
  exact ⟨_, rfl, Wk.refl _⟩
theorem sr_no (hk : Pure prog 14 [] (.bool true)) {x h : AV} {L : List LkI} {M : List Int} (hx : LL x L) (hh : IL h M) (h1 : L.length ≤ 7) (h2 : M.length ≤ 6) (hp : ¬ pcOk L M) (a b n d t : Int) : Pure prog 4 [.agg [x, h], iv a, iv b, fv n d, iv t] (.bool true) := by
 have p1 := short_yes hx hh h1 h2
 have p2 := isPiece_pure hx hh
 have p3 := rPiece_pure hx hh
 rw [decide_eq_false hp] at p2 p3
 have p4 := check_no hx hh p2
 have p5 := sTrain_no hx hh p2 a
 have p6 := sRates_no hx hh p2
 have p7 := sWrong_no hx hh p2 b n d t
 have lx := hx.no
 have lh := hh.no
 rcases hx with ⟨rfl, rfl⟩ | rfl <;> rcases hh with ⟨rfl, rfl⟩ | rfl
 all_goals
  refine pure_sym hE rfl (by repeat' (first | exact trivial | assumption | exact flat_no _ | exact (fun _ h => nomatch h) | apply And.intro)) (by repeat' (first | exact trivial | assumption | exact flat_no _ | exact (fun _ h => nomatch h) | apply And.intro)) fun S q pc hS hq hC hE => ?_
  conv => whnf
  repeat ((first
   |refine sym_pure hC (p1) ?_
   |refine sym_pure hC (p3) ?_
   |refine sym_pure hC (p4) ?_
   |refine sym_pure hC (p5) ?_
   |refine sym_pure hC (p6) ?_
   |refine sym_pure hC (p7) ?_
   |refine sym_pure hC (hk) ?_
   |refine sym_drawn hS (by kernel_rfl) ?_
   |refine sym_eq hq true (eqBool_same _ _) ?_
   |rw [beq_self_eq_true]
   |rw [bne_self_eq_false]); conv => whnf)
  exact ⟨_, rfl, Wk.refl _⟩
theorem arbor_b {N : List Lk} {H : List Nat} (_h : pcN N H) (a : Int) : ∃ b : Bool, Pure prog 27 [.agg [nkA N, nl (zl H)], iv a] (.bool b) ∧ (b = true ↔ 1 ≤ a ∧ a ≤ (N.length : Int)) := by
 have := rArbor_pure (cL N) (zl H) a
 rw [nkA_eq, cL_len] at this
 exact dec_b this
theorem hand_b {N : List Lk} {H : List Nat} (h : pcN N H) (a : Int) : ∃ b : Bool, Pure prog 30 [.agg [nkA N, nl (zl H)], iv a] (.bool b) ∧ (b = true ↔ 0 ≤ a ∧ a < (H.length : Int)) := by
 have := rHand_pure (cL N) (zl H) a
 rw [nkA_eq, zl_len, wrapI (by have := h.h1; omega) (by have := h.h4; omega)] at this
 refine ⟨_, this, ?_⟩
 rw [decide_eq_true_iff]
 omega
theorem fr_b (n d : Int) : ∃ b : Bool, Pure prog 31 [fv n d] (.bool b) ∧ (b = true ↔ isF n d) := dec_b (rFraction_pure n d)
theorem nm_b (t : Int) : ∃ b : Bool, Pure prog 32 [iv t] (.bool b) ∧ (b = true ↔ 0 ≤ t ∧ t ≤ 10000) := dec_b (rNumber_pure t)
theorem train_b {N : List Lk} {H : List Nat} (h : pcN N H) {a : Int} {b : Bool} (hb : b = true ↔ 1 ≤ a ∧ a ≤ (N.length : Int)) :
  eith b (Pure prog 20 [.agg [nkA N, nl (zl H)], iv a] (.tup [.nils, iv 2])) (∃ t : List (Nat × Nat), t.length ≤ 3 ∧ Pure prog 20 [.agg [nkA N, nl (zl H)], iv a] (.tup [pv (zp t), iv 0]) ∧ Pure prog 29 [.agg [nkA N, nl (zl H)], iv a] (pv (zp t))) := by
 refine eith_of hb (fun q => ?_) (fun q => sTrain_out h q)
 obtain ⟨a, rfl, q2⟩ := int_nat (m := (N.length : Int)) (a := a) ⟨by omega, q.2⟩
 have q1 : 1 ≤ a := Int.ofNat_le.1 q.1
 have q2 : a ≤ N.length := Int.ofNat_le.1 q.2
 have pt := rTrainA_pure h q2
 rw [tvA_pos h.ok.wf q1 q2] at pt
 exact ⟨tr N a, h.ok.dl q2, sTrain_yes h q1 q2, pt⟩
theorem wrong_b {N : List Lk} {H : List Nat} (h : pcN N H) {a n d t : Int} {b bF bN : Bool} (hb : b = true ↔ 0 ≤ a ∧ a < (H.length : Int)) (iF : bF = true ↔ isF n d) (iN : bN = true ↔ (0 ≤ t ∧ t ≤ 10000)) :
  ∃ r e : Int, Pure prog 22 [.agg [nkA N, nl (zl H)], iv a, fv n d, iv t] (.tup [iv r, iv e]) ∧ eith (b && bF && bN) (e = 2 ∧ r = 0) (e = 0 ∧ ∃ (i : Nat) (u : List (Nat × Nat)), a = Int.ofNat i ∧ i < (zl H).length ∧ nth (ivs (zl H)) (i * 1) = some (nv (gn H i)) ∧ Pure prog 29 [.agg [nkA N, nl (zl H)], nv (gn H i)] (pv (zp u)) ∧ Pure prog 33 [pv (zp u), fv n d, iv t] (iv r)) := by
 by_cases q : 0 ≤ a ∧ a < (H.length : Int)
 ·obtain ⟨i, rfl, _⟩ := int_nat (m := (H.length : Int)) (a := a) ⟨q.1, by omega⟩
  have hi : i < H.length := Int.ofNat_lt.1 q.2
  have hg := h.hd _ (gn_mem H hi)
  have tv := tvN h.ok hg.1 hg.2
  obtain ⟨r, e, po, ho⟩ := off_b (n := n) (d := d) (t := t) tv.ts (fun _ => ⟨_, _, tv⟩) iF iN
  obtain rfl : b = true := hb.2 q
  refine ⟨r, e, sWrong_yes h hi po, ?_⟩
  have hz : i < (zl H).length := by rw [zl_len]; exact hi
  have pt := rTrainA_pure h hg.2
  rw [tvA_pos h.ok.wf hg.1 hg.2] at pt
  cases bF <;> cases bN
  ·exact ho
  ·exact ho
  ·exact ho
  ·exact ⟨ho.1, i, _, rfl, hz, by rw [nth_ivs1 hz, gi_zl H hi], pt, ho.2⟩
 ·obtain rfl : b = false := by
   cases b with
   |false => rfl
   |true => exact absurd (hb.1 rfl) q
  exact ⟨0, 2, sWrong_out h q n d t, ⟨rfl, rfl⟩⟩
theorem sr_yes (hk : Pure prog 14 [] (.bool true)) {N : List Lk} {H : List Nat} (h : pcN N H) (a b n d t : Int) : Pure prog 4 [.agg [nkA N, nl (zl H)], iv a, iv b, fv n d, iv t] (.bool true) := by
 have lN := lks_no (cL N)
 have lM := ivs_no (zl H)
 have h5 := h.l5
 obtain ⟨bA, pA, iA⟩ := arbor_b h a
 obtain ⟨bH, pH, iH⟩ := hand_b h b
 obtain ⟨bF, pF, iF⟩ := fr_b n d
 obtain ⟨bN, pN, iN⟩ := nm_b t
 have hT := train_b h iA
 obtain ⟨r, e, pW, hW⟩ := wrong_b h iH iF iN
 have p1 := h.sh
 have p2 := check_yes (x := nkA N) (h := nl (zl H)) (L := cL N) (M := zl H) (.inr (nkA_eq N).symm) (.inr rfl) h.isP
 have p3 := h.rP
 have p4 := sRates_yes h
 have p5 := rRates_pure h
 have lR := flat_no (zp (rdL N (N.length + 1)))
 have lS := bls_no (snL N (N.length + 1))
 have p6 := sameF_self (rdL N (N.length + 1)) (by rw [rdL_len]; omega)
 have p7 := sameS_self (snL N (N.length + 1)) (by rw [snL_len]; omega)
 generalize zp (rdL N (N.length + 1)) = R at *
 generalize snL N (N.length + 1) = Sn at *
 clear iF iN iA iH
 cases bA
 ·have hT : Pure prog 20 [.agg [nkA N, nl (zl H)], iv a] (.tup [.nils, iv 2]) := hT
  cases bH <;> cases bF <;> cases bN
  all_goals
   first | obtain ⟨rfl, rfl⟩ := hW | obtain ⟨rfl, i, u, rfl, hi, hn, pu, po⟩ := hW
   first | have lu := flat_no (zp u) | skip
   refine pure_sym hE rfl (by repeat' (first | exact trivial | assumption | exact flat_no _ | exact (fun _ h => nomatch h) | apply And.intro)) (by repeat' (first | exact trivial | assumption | exact flat_no _ | exact (fun _ h => nomatch h) | apply And.intro)) fun S q pc hS hq hC hE => ?_
   conv => whnf
   repeat ((first
    |refine sym_pure hC (p1) ?_
    |refine sym_pure hC (p2) ?_
    |refine sym_pure hC (p3) ?_
    |refine sym_pure hC (p4) ?_
    |refine sym_pure hC (p5) ?_
    |refine sym_pure hC (p6) ?_
    |refine sym_pure hC (p7) ?_
    |refine sym_pure hC (pA) ?_
    |refine sym_pure hC (pH) ?_
    |refine sym_pure hC (pF) ?_
    |refine sym_pure hC (pN) ?_
    |refine sym_pure hC (hT) ?_
    |refine sym_pure hC (pW) ?_
    |refine sym_pure hC (hk) ?_
    |refine sym_drawn hS (by kernel_rfl) ?_
    |refine sym_eq hq true (eqBool_same _ _) ?_
    |rw [beq_self_eq_true]
    |rw [bne_self_eq_false]); conv => whnf)
   first | exact ⟨_, rfl, Wk.refl _⟩ | skip
  refine bool_true (inR_t hi) ?_
  conv => whnf
  refine plan_as (nthP (hn)) ?_
  conv => whnf
  repeat ((first
   |refine sym_pure hC (pu) ?_
   |refine sym_pure hC (po) ?_
   |refine sym_pure hC (hk) ?_
   |refine sym_drawn hS (by kernel_rfl) ?_
   |refine sym_eq hq true (eqBool_same _ _) ?_
   |rw [beq_self_eq_true]
   |rw [bne_self_eq_false]); conv => whnf)
  exact ⟨_, rfl, Wk.refl _⟩
 ·obtain ⟨v, hv, pT, pV⟩ := hT
  have pS := rSame_pure v v (by omega)
  rw [decide_eq_true rfl] at pS
  have lv := flat_no (zp v)
  cases bH <;> cases bF <;> cases bN
  all_goals
   first | obtain ⟨rfl, rfl⟩ := hW | obtain ⟨rfl, i, u, rfl, hi, hn, pu, po⟩ := hW
   first | have lu := flat_no (zp u) | skip
   refine pure_sym hE rfl (by repeat' (first | exact trivial | assumption | exact flat_no _ | exact (fun _ h => nomatch h) | apply And.intro)) (by repeat' (first | exact trivial | assumption | exact flat_no _ | exact (fun _ h => nomatch h) | apply And.intro)) fun S q pc hS hq hC hE => ?_
   conv => whnf
   repeat ((first
    |refine sym_pure hC (p1) ?_
    |refine sym_pure hC (p2) ?_
    |refine sym_pure hC (p3) ?_
    |refine sym_pure hC (p4) ?_
    |refine sym_pure hC (p5) ?_
    |refine sym_pure hC (p6) ?_
    |refine sym_pure hC (p7) ?_
    |refine sym_pure hC (pA) ?_
    |refine sym_pure hC (pH) ?_
    |refine sym_pure hC (pF) ?_
    |refine sym_pure hC (pN) ?_
    |refine sym_pure hC (pT) ?_
    |refine sym_pure hC (pV) ?_
    |refine sym_pure hC (pS) ?_
    |refine sym_pure hC (pW) ?_
    |refine sym_pure hC (hk) ?_
    |refine sym_drawn hS (by kernel_rfl) ?_
    |refine sym_eq hq true (eqBool_same _ _) ?_
    |rw [beq_self_eq_true]
    |rw [bne_self_eq_false]); conv => whnf)
   first | exact ⟨_, rfl, Wk.refl _⟩ | skip
  refine bool_true (inR_t hi) ?_
  conv => whnf
  refine plan_as (nthP (hn)) ?_
  conv => whnf
  repeat ((first
   |refine sym_pure hC (pu) ?_
   |refine sym_pure hC (po) ?_
   |refine sym_pure hC (hk) ?_
   |refine sym_drawn hS (by kernel_rfl) ?_
   |refine sym_eq hq true (eqBool_same _ _) ?_
   |rw [beq_self_eq_true]
   |rw [bne_self_eq_false]); conv => whnf)
  exact ⟨_, rfl, Wk.refl _⟩
theorem shopRates (hk : Pure prog 14 [] (.bool true)) {x h : AV} {L : List LkI} {M : List Int} (hx : LL x L) (hh : IL h M) (a b n d t : Int) : Pure prog 4 [.agg [x, h], iv a, iv b, fv n d, iv t] (.bool true) := by
 by_cases hs : L.length ≤ 7 ∧ M.length ≤ 6
 ·by_cases hp : pcOk L M
  ·obtain ⟨N, H, rfl, rfl, hN⟩ := pcN_of hp
   have e1 : x = nkA N := by
    rcases hx with ⟨_, e⟩ | e
    ·have := hN.l1; rw [← cL_len, e] at this; exact absurd this (by decide)
    ·rw [e, nkA_eq]
   have e2 : h = nl (zl H) := by
    rcases hh with ⟨_, e⟩ | e
    ·have := hN.h1; rw [← zl_len, e] at this; exact absurd this (by decide)
    ·exact e
   rw [e1, e2]
   exact sr_yes hk hN a b n d t
  ·exact sr_no hk hx hh hs.1 hs.2 hp a b n d t
 ·exact sr_long hk hx hh hs a b n d t
end
end Go.Abs.Seat
