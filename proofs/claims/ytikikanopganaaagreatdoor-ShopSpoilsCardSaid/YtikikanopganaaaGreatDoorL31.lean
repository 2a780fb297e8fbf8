/-
  The law ShopSpoils.
-/
import Derived.Test.YtikikanopganaaaGreatDoorU14
import Derived.Test.YtikikanopganaaaGreatDoorU7
/-! The law ShopSpoils. -/
namespace Go.Abs.Seat
noncomputable section
open Go Go.Abs Go.Proofs.Tryz
set_option maxRecDepth 100000
set_option maxHeartbeats 40000000
attribute [local irreducible] IntKind.wrap pEq

theorem same_sv (l : List Int) (hl : l.length < 4611686018427387904) : Pure prog 39 [sv l, sv l] (.bool true) := by
 cases l with
 |nil =>
  show Pure prog _ [.nils, .nils] _
  refine pure_sym hE rfl (by repeat' (first | exact trivial | assumption | exact flat_no _ | exact (fun _ h => nomatch h) | apply And.intro)) (by repeat' (first | exact trivial | assumption | exact flat_no _ | exact (fun _ h => nomatch h) | apply And.intro)) fun S q pc hS hq hC hE => ?_
  conv => whnf
  repeat ((first
   |refine sym_pure hC (hl) ?_
   |refine sym_drawn hS (by kernel_rfl) ?_
   |refine sym_eq hq true (eqBool_same _ _) ?_
   |rw [beq_self_eq_true]
   |rw [bne_self_eq_false]
   |refine bool_true (decide_eq_true (by omega)) ?_
   |refine bool_false (decide_eq_false (by omega)) ?_); conv => whnf)
  refine sym_unroll hE hS ?_
  conv => whnf
  exact ⟨_, rfl, Wk.refl _⟩
 |cons x r => exact same_pure (x :: r) (x :: r) hl (b := true) ⟨fun _ => rfl, fun _ => rfl⟩
theorem ss_long (hk : Pure prog 14 [] (.bool true)) {x h : AV} {L : List LkI} {M : List Int} (hx : LL x L) (hh : IL h M) (hs : ¬ (L.length ≤ 7 ∧ M.length ≤ 6)) (i a b : Int) : Pure prog 6 [.agg [x, h], .agg [iv i, iv a, iv b]] (.bool true) := by
 have p1 := short_no hx hh hs
 have lx := hx.no
 have lh := hh.no
 rcases hx with ⟨rfl, rfl⟩ | rfl <;> rcases hh with ⟨rfl, rfl⟩ | rfl
 all_goals
  refine pure_sym hE rfl (by repeat' (first | exact trivial | assumption | exact flat_no _ | exact (fun _ h => nomatch h) | apply And.intro)) (by repeat' (first | exact trivial | assumption | exact flat_no _ | exact (fun _ h => nomatch h) | apply And.intro)) fun S q pc hS hq hC hE => ?_
  conv => whnf
  repeat ((first
   |refine sym_pure hC (p1) ?_
   |refine sym_pure hC (hk) ?_
   |refine sym_drawn hS (by kernel_rfl) ?_
   |refine sym_eq hq true (eqBool_same _ _) ?_
   |rw [beq_self_eq_true]
   |rw [bne_self_eq_false]); conv => whnf)
  exact ⟨_, rfl, Wk.refl _⟩
theorem ss_out (hk : Pure prog 14 [] (.bool true)) {x h : AV} {L : List LkI} {M : List Int} (hx : LL x L) (hh : IL h M) (h1 : L.length ≤ 7) (h2 : M.length ≤ 6) (hp : ¬ pcOk L M) (i a b : Int) : Pure prog 6 [.agg [x, h], .agg [iv i, iv a, iv b]] (.bool true) := by
 have p1 := short_yes hx hh h1 h2
 have p2 := isPiece_pure hx hh
 have p3 := rPiece_pure hx hh
 rw [decide_eq_false hp] at p2 p3
 have p4 := sSpoils_out hx hh p2 i a b
 have lx := hx.no
 have lh := hh.no
 rcases hx with ⟨rfl, rfl⟩ | rfl <;> rcases hh with ⟨rfl, rfl⟩ | rfl
 all_goals
  refine pure_sym hE rfl (by repeat' (first | exact trivial | assumption | exact flat_no _ | exact (fun _ h => nomatch h) | apply And.intro)) (by repeat' (first | exact trivial | assumption | exact flat_no _ | exact (fun _ h => nomatch h) | apply And.intro)) fun S q pc hS hq hC hE => ?_
  conv => whnf
  repeat ((first
   |refine sym_pure hC (p1) ?_
   |refine sym_pure hC (p3) ?_
   |refine sym_pure hC (p4) ?_
   |refine sym_pure hC (hk) ?_
   |refine sym_drawn hS (by kernel_rfl) ?_
   |refine sym_eq hq true (eqBool_same _ _) ?_
   |rw [beq_self_eq_true]
   |rw [bne_self_eq_false]); conv => whnf)
  exact ⟨_, rfl, Wk.refl _⟩
theorem ss_no (hk : Pure prog 14 [] (.bool true)) {N : List Lk} {H : List Nat} (h : pcN N H) {i a b : Int} (hc : ¬ cgOk N i a b) : Pure prog 6 [.agg [nkA N, nl (zl H)], .agg [iv i, iv a, iv b]] (.bool true) := by
 have lN := lks_no (cL N)
 have lM := ivs_no (zl H)
 have p1 := h.sh
 have p3 := h.rP
 have p4 := sSpoils_no h hc
 have p5 := rChange_pure h i a b
 rw [decide_eq_false hc] at p5
 refine pure_sym hE rfl (by repeat' (first | exact trivial | assumption | exact flat_no _ | exact (fun _ h => nomatch h) | apply And.intro)) (by repeat' (first | exact trivial | assumption | exact flat_no _ | exact (fun _ h => nomatch h) | apply And.intro)) fun S q pc hS hq hC hE => ?_
 conv => whnf
 repeat ((first
  |refine sym_pure hC (p1) ?_
  |refine sym_pure hC (p3) ?_
  |refine sym_pure hC (p4) ?_
  |refine sym_pure hC (p5) ?_
  |refine sym_pure hC (hk) ?_
  |refine sym_drawn hS (by kernel_rfl) ?_
  |refine sym_eq hq true (eqBool_same _ _) ?_
  |rw [beq_self_eq_true]
  |rw [bne_self_eq_false]); conv => whnf)
 exact ⟨_, rfl, Wk.refl _⟩
theorem ss_yes (hk : Pure prog 14 [] (.bool true)) {N : List Lk} {H : List Nat} (h : pcN N H) {i a b : Nat} (hi : i < N.length) (ha : tN a) (hb : tN b) (hc : cgOk N (Int.ofNat i) (Int.ofNat a) (Int.ofNat b)) : Pure prog 6 [.agg [nkA N, nl (zl H)], .agg [nv i, nv a, nv b]] (.bool true) := by
 have lN := lks_no (cL N)
 have lM := ivs_no (zl H)
 have p1 := h.sh
 have p3 := h.rP
 have p4 := sSpoils_yes h hi ha hb fun z => hc.2.2 ⟨congrArg Int.ofNat z.1, congrArg Int.ofNat z.2⟩
 have p5 := rChange_pure h (Int.ofNat i) (Int.ofNat a) (Int.ofNat b)
 rw [decide_eq_true hc] at p5
 have p6 := rSpoils_pure h hi ha hb
 have hl := spL_len N (chN N i a b) H H.length
 have p7 := same_sv (zl (spL N (chN N i a b) H H.length)) (by rw [zl_len]; have := h.h4; omega)
 have ls := sv_no (zl (spL N (chN N i a b) H H.length))
 generalize spL N (chN N i a b) H H.length = l at *
 cases l
 all_goals
  refine pure_sym hE rfl (by repeat' (first | exact trivial | assumption | exact flat_no _ | exact (fun _ h => nomatch h) | apply And.intro)) (by repeat' (first | exact trivial | assumption | exact flat_no _ | exact (fun _ h => nomatch h) | apply And.intro)) fun S q pc hS hq hC hE => ?_
  conv => whnf
  repeat ((first
   |refine sym_pure hC (p1) ?_
   |refine sym_pure hC (p3) ?_
   |refine sym_pure hC (p4) ?_
   |refine sym_pure hC (p5) ?_
   |refine sym_pure hC (p6) ?_
   |refine sym_pure hC (p7) ?_
   |refine sym_pure hC (hk) ?_
   |refine sym_drawn hS (by kernel_rfl) ?_
   |refine sym_eq hq true (eqBool_same _ _) ?_
   |rw [beq_self_eq_true]
   |rw [bne_self_eq_false]); conv => whnf)
  exact ⟨_, rfl, Wk.refl _⟩
theorem shopSpoils (hk : Pure prog 14 [] (.bool true)) {x h : AV} {L : List LkI} {M : List Int} (hx : LL x L) (hh : IL h M) (i a b : Int) : Pure prog 6 [.agg [x, h], .agg [iv i, iv a, iv b]] (.bool true) := by
 rcases piece_cases hx hh with hs | ⟨h1, h2, hp⟩ | ⟨N, H, hN, rfl, rfl⟩
 ·exact ss_long hk hx hh hs i a b
 ·exact ss_out hk hx hh h1 h2 hp i a b
 ·by_cases hc : cgOk N i a b
  ·obtain ⟨i, rfl, _⟩ := int_nat (m := (N.length : Int)) (a := i) ⟨hc.1.1, by have := hc.1.2; omega⟩
   obtain ⟨a, rfl, _⟩ := int_nat (m := 60) (a := a) ⟨by have := hc.2.1.1.1; omega, hc.2.1.1.2⟩
   obtain ⟨b, rfl, _⟩ := int_nat (m := 60) (a := b) ⟨by have := hc.2.1.2.1; omega, hc.2.1.2.2⟩
   have q := hc.2.1
   unfold tth at q
   simp only [Int.ofNat_eq_natCast] at q
   exact ss_yes hk hN (Int.ofNat_lt.1 hc.1.2) ⟨by omega, by omega⟩ ⟨by omega, by omega⟩ hc
  ·exact ss_no hk hN hc
end
end Go.Abs.Seat
