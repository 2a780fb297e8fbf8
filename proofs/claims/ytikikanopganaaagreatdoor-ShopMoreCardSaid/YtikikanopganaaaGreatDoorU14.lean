/-
  The best changes, as the program has them.
  The closed calls of Changes and Adds, of the general ones.
  The same, over the example's piece as it is laid.
-/
import Derived.Test.YtikikanopganaaaGreatDoorB13
import Derived.Test.YtikikanopganaaaGreatDoorB7
/-! The best changes, as the program has them. -/
namespace Go.Abs.Seat
noncomputable section
open Go Go.Abs Go.Proofs.Tryz
set_option maxRecDepth 100000
set_option maxHeartbeats 40000000
attribute [local irreducible] pEq

theorem fstO_some {α : Type} {f : Nat → Option α} {x : α} : ∀ {n k : Nat}, fstO f k n = some x → ∃ j, f j = some x
 | 0, _, h => by cases h
 |n + 1, k, h => by
  rw [fstO] at h
  cases e : f k with
  |some y => rw [e] at h; exact ⟨k, by rw [e]; exact h⟩
  |none => rw [e] at h; exact fstO_some h
theorem srS_len {g : List Lk → Nat → Option (List Lk)} {k : Nat} (hg : ∀ now fr l, g now fr = some l → l.length = k) {N : List Lk} {lo hi : Nat} : ∀ now fr l, srS g N lo hi now fr = some l → l.length = k + 1 := fun now fr l h => by
 obtain ⟨i, h⟩ := fstO_some h
 obtain ⟨a, h⟩ := fstO_some h
 obtain ⟨b, h⟩ := fstO_some h
 unfold stC at h
 split at h
 ·cases h
 ·cases e : g (chN now i a b) (i + 1) with
  |none => rw [e] at h; cases h
  |some m =>
   rw [e] at h
   cases h
   rw [List.length_cons, hg _ _ _ e]
theorem sr0_len {N : List Lk} {H : List Nat} {hand : Nat} {t : Nat × Nat} : ∀ now fr l, sr0 N H hand t now fr = some l → l.length = 0 := fun now fr l h => by
 unfold sr0 at h
 split at h
 ·cases h; rfl
 ·cases h
def chR (N : List Lk) (H : List Nat) (lo hi hand : Nat) (t : Nat × Nat) : Option (List Lk) :=
 orE (sr0 N H hand t N 0) (orE (srS (sr0 N H hand t) N lo hi N 0) (srS (srS (sr0 N H hand t) N lo hi) N lo hi N 0))
def chV : Option (List Lk) → AV
 |none => .tup [.nils, iv 5]
 |some [] => .tup [.nils, iv 0]
 |some (c :: r) => .tup [nkA (c :: r), iv 0]
theorem changes_pure {N : List Lk} (h : okN N) (h1 : 1 ≤ N.length) (hN : N.length ≤ 5) {H : List Nat} (hH : hdN N.length H) (pP : Pure prog 85 [.agg [nkA N, nl (zl H)]] (.bool true)) {lo hi n d hand : Nat} (hlo : 4 ≤ lo) (hle : lo ≤ hi) (hhi : hi ≤ 60) (hw : hi - lo ≤ 10) (hh : hand < H.length) (hn : n ≤ 50000) (hd : 1 ≤ d ∧ d ≤ 50000) :
  Pure prog 48 [.agg [nkA N, nl (zl H)], nv lo, nv hi, nv hand, fv (Int.ofNat n) (Int.ofNat d)] (chV (chR N H lo hi hand (n, d))) := by
 have lN := lks_no (cL N)
 have lM := ivs_no (zl H)
 have lR := flat_no (zp (rtL N (N.length + 1)))
 have hz := zl_len H
 have pr : Pure prog 101 [nv lo, nv hi] (.bool true) := by
  have := isRange_pure (Int.ofNat lo) (Int.ofNat hi)
  rwa [decide_eq_true (show (tth (Int.ofNat lo) ∧ tth (Int.ofNat hi)) ∧ Int.ofNat lo ≤ Int.ofNat hi from ⟨⟨tN_i ⟨hlo, by omega⟩, tN_i ⟨by omega, hhi⟩⟩, Int.ofNat_le.2 hle⟩)] at this
 have pf : Pure prog 102 [fv (Int.ofNat n) (Int.ofNat d)] (.bool true) := by
  have := sFraction_pure (Int.ofNat n) (Int.ofNat d)
  rwa [decide_eq_true (isF_N hn hd.1 hd.2)] at this
 have c3 : decide (IntKind.i64.wrap (Int.ofNat hi - Int.ofNat lo) > 10) = false := by
  rw [wrapI (by show _ ≤ (hi : Int) - (lo : Int); omega) (by show (hi : Int) - (lo : Int) < _; omega)]
  exact decide_eq_false (by show ¬ (10 : Int) < (hi : Int) - (lo : Int); omega)
 have pin : Pure prog 79 [nv hand, iv 0, iv (IntKind.i64.wrap (((zl H).length : Int) - 1))] (.bool true) := by
  have := sin_pure (Int.ofNat hand) 0 (IntKind.i64.wrap (((zl H).length : Int) - 1))
  rwa [decide_eq_true (by rw [wrapI (by omega) (by have := hH.l4; omega)]; exact ⟨Int.natCast_nonneg _, by show (hand : Int) ≤ _; omega⟩)] at this
 have pw := with_pure h h1 hN (zl H)
 unfold wiV at pw
 have s0 := search0_h h h h1 hN rfl hH lo hi hh (t := (n, d)) hn hd.2
 have q1 := search_s h h1 hN hlo hle hhi (k := 0) (by decide) sr0_len (fun now fr a b _ => search0_h h a h1 hN b hH lo hi hh (t := (n, d)) hn hd.2 fr)
 have q2 := search_s h h1 hN hlo hle hhi (k := 1) (by decide) (srS_len sr0_len) q1
 have q0 := s0 0
 have q1 := q1 N 0 h rfl (Nat.zero_le _)
 have q2 := q2 N 0 h rfl (Nat.zero_le _)
 have L1 := srS_len (N := N) (lo := lo) (hi := hi) (sr0_len (N := N) (H := H) (hand := hand) (t := (n, d))) N 0
 have L2 := srS_len (N := N) (lo := lo) (hi := hi) (srS_len (N := N) (lo := lo) (hi := hi) (sr0_len (N := N) (H := H) (hand := hand) (t := (n, d)))) N 0
 have L0 := sr0_len (N := N) (H := H) (hand := hand) (t := (n, d)) N 0
 unfold chR
 generalize sr0 N H hand (n, d) N 0 = r0 at q0 L0 ⊢
 generalize srS (sr0 N H hand (n, d)) N lo hi N 0 = r1 at q1 L1 ⊢
 generalize srS (srS (sr0 N H hand (n, d)) N lo hi) N lo hi N 0 = r2 at q2 L2 ⊢
 clear s0
 have d1 : decide (IntKind.i64.wrap (0 + 1) < 3) = true := by rw [up1]; rfl
 have d2 : decide (IntKind.i64.wrap (IntKind.i64.wrap (0 + 1) + 1) < 3) = true := by rw [up2]; rfl
 have d3 : decide (IntKind.i64.wrap (IntKind.i64.wrap (IntKind.i64.wrap (0 + 1) + 1) + 1) < 3) = false := by rw [up3]; rfl
 have q1 : HFun prog 112 [.agg [nkA N, nl (zl H)], iv 0, iv (IntKind.i64.wrap (0 + 1)), .ptr 12 0, .ptr 3 0, .ptr 13 0, .ptr 0 0, .ptr 1 0, .ptr 2 0, .ptr 16 0] (hv (hpC N H lo hi hand (n, d))) 17 (srV r1) (hv (hpC N H lo hi hand (n, d))) := by rw [up1]; exact q1
 have q2 : HFun prog 112 [.agg [nkA N, nl (zl H)], iv 0, iv (IntKind.i64.wrap (IntKind.i64.wrap (0 + 1) + 1)), .ptr 12 0, .ptr 3 0, .ptr 13 0, .ptr 0 0, .ptr 1 0, .ptr 2 0, .ptr 16 0] (hv (hpC N H lo hi hand (n, d))) 17 (srV r2) (hv (hpC N H lo hi hand (n, d))) := by rw [up2]; exact q2
 rcases r0 with _ | l0
 ·have q0 : HFun prog 112 [.agg [nkA N, nl (zl H)], iv 0, iv (0), .ptr 12 0, .ptr 3 0, .ptr 13 0, .ptr 0 0, .ptr 1 0, .ptr 2 0, .ptr 16 0] (hv (hpC N H lo hi hand (n, d))) 17 (.tup [.nils, .bool false]) (hv (hpC N H lo hi hand (n, d))) := q0
  rcases r1 with _ | l1
  ·have q1 : HFun prog 112 [.agg [nkA N, nl (zl H)], iv 0, iv (IntKind.i64.wrap (0 + 1)), .ptr 12 0, .ptr 3 0, .ptr 13 0, .ptr 0 0, .ptr 1 0, .ptr 2 0, .ptr 16 0] (hv (hpC N H lo hi hand (n, d))) 17 (.tup [.nils, .bool false]) (hv (hpC N H lo hi hand (n, d))) := q1
   rcases r2 with _ | l2
   ·have q2 : HFun prog 112 [.agg [nkA N, nl (zl H)], iv 0, iv (IntKind.i64.wrap (IntKind.i64.wrap (0 + 1) + 1)), .ptr 12 0, .ptr 3 0, .ptr 13 0, .ptr 0 0, .ptr 1 0, .ptr 2 0, .ptr 16 0] (hv (hpC N H lo hi hand (n, d))) 17 (.tup [.nils, .bool false]) (hv (hpC N H lo hi hand (n, d))) := q2
    show Pure prog 48 _ (.tup [.nils, iv 5])
    refine pure_sym hE rfl (by repeat' (first | exact trivial | assumption | exact flat_no _ | exact (fun _ h => nomatch h) | apply And.intro)) (by repeat' (first | exact trivial | assumption | exact flat_no _ | exact (fun _ h => nomatch h) | apply And.intro)) fun S q pc hS hq hC hE => ?_
    conv => whnf
    repeat ((first
     |refine ko_sT c3 ?_
     |refine ko_rF c3 ?_
     |refine plan_as (pick_f c3) ?_
     |refine bool_false c3 ?_
     |refine sym_pure hC (pP) ?_
     |refine sym_pure hC (pr) ?_
     |refine sym_pure hC (pf) ?_
     |refine sym_pure hC (pin) ?_
     |refine sym_pure hC (pw) ?_
     |refine sym_drawn hS (by kernel_rfl) ?_); conv => whnf)
    refine sym_unroll hE hS ?_
    conv => whnf
    refine sym_pureR hC (HFun.pureR q0 (ob17 ⟨rfl, rfl, rfl, rfl, rfl, rfl, rfl, rfl, rfl, rfl, rfl, rfl, rfl, rfl, rfl, rfl, rfl, trivial⟩)) ?_
    conv => whnf
    refine sym_unroll hE hS ?_
    conv => whnf
    refine sym_pureR hC (HFun.pureR q1 (ob17 ⟨rfl, rfl, rfl, rfl, rfl, rfl, rfl, rfl, rfl, rfl, rfl, rfl, rfl, rfl, rfl, rfl, rfl, trivial⟩)) ?_
    conv => whnf
    refine sym_unroll hE hS ?_
    conv => whnf
    refine sym_pureR hC (HFun.pureR q2 (ob17 ⟨rfl, rfl, rfl, rfl, rfl, rfl, rfl, rfl, rfl, rfl, rfl, rfl, rfl, rfl, rfl, rfl, rfl, trivial⟩)) ?_
    conv => whnf
    refine sym_unroll hE hS ?_
    conv => whnf
    exact ⟨_, rfl, Wk.refl _⟩
   ·have e2 := L2 l2 rfl
    obtain ⟨c, c2, rfl⟩ : ∃ c c2, l2 = [c, c2] := by
     match l2, e2 with
     | [c, c2], _ => exact ⟨c, c2, rfl⟩
    have q2 : HFun prog 112 [.agg [nkA N, nl (zl H)], iv 0, iv (IntKind.i64.wrap (IntKind.i64.wrap (0 + 1) + 1)), .ptr 12 0, .ptr 3 0, .ptr 13 0, .ptr 0 0, .ptr 1 0, .ptr 2 0, .ptr 16 0] (hv (hpC N H lo hi hand (n, d))) 17 (.tup [.lst [nv c.1, nv c.2.1, nv c.2.2, nv c2.1, nv c2.2.1, nv c2.2.2] 2 .no, .bool true]) (hv (hpC N H lo hi hand (n, d))) := q2
    show Pure prog 48 _ (.tup [.lst [nv c.1, nv c.2.1, nv c.2.2, nv c2.1, nv c2.2.1, nv c2.2.2] 2 .no, iv 0])
    refine pure_sym hE rfl (by repeat' (first | exact trivial | assumption | exact flat_no _ | exact (fun _ h => nomatch h) | apply And.intro)) (by repeat' (first | exact trivial | assumption | exact flat_no _ | exact (fun _ h => nomatch h) | apply And.intro)) fun S q pc hS hq hC hE => ?_
    conv => whnf
    repeat ((first
     |refine ko_sT c3 ?_
     |refine ko_rF c3 ?_
     |refine plan_as (pick_f c3) ?_
     |refine bool_false c3 ?_
     |refine sym_pure hC (pP) ?_
     |refine sym_pure hC (pr) ?_
     |refine sym_pure hC (pf) ?_
     |refine sym_pure hC (pin) ?_
     |refine sym_pure hC (pw) ?_
     |refine sym_drawn hS (by kernel_rfl) ?_); conv => whnf)
    refine sym_unroll hE hS ?_
    conv => whnf
    refine sym_pureR hC (HFun.pureR q0 (ob17 ⟨rfl, rfl, rfl, rfl, rfl, rfl, rfl, rfl, rfl, rfl, rfl, rfl, rfl, rfl, rfl, rfl, rfl, trivial⟩)) ?_
    conv => whnf
    refine sym_unroll hE hS ?_
    conv => whnf
    refine sym_pureR hC (HFun.pureR q1 (ob17 ⟨rfl, rfl, rfl, rfl, rfl, rfl, rfl, rfl, rfl, rfl, rfl, rfl, rfl, rfl, rfl, rfl, rfl, trivial⟩)) ?_
    conv => whnf
    refine sym_unroll hE hS ?_
    conv => whnf
    refine sym_pureR hC (HFun.pureR q2 (ob17 ⟨rfl, rfl, rfl, rfl, rfl, rfl, rfl, rfl, rfl, rfl, rfl, rfl, rfl, rfl, rfl, rfl, rfl, trivial⟩)) ?_
    conv => whnf
    exact ⟨_, rfl, Wk.refl _⟩
  ·have e1 := L1 l1 rfl
   obtain ⟨c, rfl⟩ : ∃ c, l1 = [c] := by
    match l1, e1 with
    | [c], _ => exact ⟨c, rfl⟩
   have q1 : HFun prog 112 [.agg [nkA N, nl (zl H)], iv 0, iv (IntKind.i64.wrap (0 + 1)), .ptr 12 0, .ptr 3 0, .ptr 13 0, .ptr 0 0, .ptr 1 0, .ptr 2 0, .ptr 16 0] (hv (hpC N H lo hi hand (n, d))) 17 (.tup [.lst [nv c.1, nv c.2.1, nv c.2.2] 1 .no, .bool true]) (hv (hpC N H lo hi hand (n, d))) := q1
   show Pure prog 48 _ (.tup [.lst [nv c.1, nv c.2.1, nv c.2.2] 1 .no, iv 0])
   refine pure_sym hE rfl (by repeat' (first | exact trivial | assumption | exact flat_no _ | exact (fun _ h => nomatch h) | apply And.intro)) (by repeat' (first | exact trivial | assumption | exact flat_no _ | exact (fun _ h => nomatch h) | apply And.intro)) fun S q pc hS hq hC hE => ?_
   conv => whnf
   repeat ((first
    |refine ko_sT c3 ?_
    |refine ko_rF c3 ?_
    |refine plan_as (pick_f c3) ?_
    |refine bool_false c3 ?_
    |refine sym_pure hC (pP) ?_
    |refine sym_pure hC (pr) ?_
    |refine sym_pure hC (pf) ?_
    |refine sym_pure hC (pin) ?_
    |refine sym_pure hC (pw) ?_
    |refine sym_drawn hS (by kernel_rfl) ?_); conv => whnf)
   refine sym_unroll hE hS ?_
   conv => whnf
   refine sym_pureR hC (HFun.pureR q0 (ob17 ⟨rfl, rfl, rfl, rfl, rfl, rfl, rfl, rfl, rfl, rfl, rfl, rfl, rfl, rfl, rfl, rfl, rfl, trivial⟩)) ?_
   conv => whnf
   refine sym_unroll hE hS ?_
   conv => whnf
   refine sym_pureR hC (HFun.pureR q1 (ob17 ⟨rfl, rfl, rfl, rfl, rfl, rfl, rfl, rfl, rfl, rfl, rfl, rfl, rfl, rfl, rfl, rfl, rfl, trivial⟩)) ?_
   conv => whnf
   exact ⟨_, rfl, Wk.refl _⟩
 ·obtain rfl : l0 = [] := List.eq_nil_of_length_eq_zero (L0 l0 rfl)
  have q0 : HFun prog 112 [.agg [nkA N, nl (zl H)], iv 0, iv (0), .ptr 12 0, .ptr 3 0, .ptr 13 0, .ptr 0 0, .ptr 1 0, .ptr 2 0, .ptr 16 0] (hv (hpC N H lo hi hand (n, d))) 17 (.tup [.nils, .bool true]) (hv (hpC N H lo hi hand (n, d))) := q0
  show Pure prog 48 _ (.tup [.nils, iv 0])
  refine pure_sym hE rfl (by repeat' (first | exact trivial | assumption | exact flat_no _ | exact (fun _ h => nomatch h) | apply And.intro)) (by repeat' (first | exact trivial | assumption | exact flat_no _ | exact (fun _ h => nomatch h) | apply And.intro)) fun S q pc hS hq hC hE => ?_
  conv => whnf
  repeat ((first
   |refine ko_sT c3 ?_
   |refine ko_rF c3 ?_
   |refine plan_as (pick_f c3) ?_
   |refine bool_false c3 ?_
   |refine sym_pure hC (pP) ?_
   |refine sym_pure hC (pr) ?_
   |refine sym_pure hC (pf) ?_
   |refine sym_pure hC (pin) ?_
   |refine sym_pure hC (pw) ?_
   |refine sym_drawn hS (by kernel_rfl) ?_); conv => whnf)
  refine sym_unroll hE hS ?_
  conv => whnf
  refine sym_pureR hC (HFun.pureR q0 (ob17 ⟨rfl, rfl, rfl, rfl, rfl, rfl, rfl, rfl, rfl, rfl, rfl, rfl, rfl, rfl, rfl, rfl, rfl, trivial⟩)) ?_
  conv => whnf
  exact ⟨_, rfl, Wk.refl _⟩
end
end Go.Abs.Seat

/-! The closed calls of Changes and Adds, of the general ones. -/
namespace Go.Abs.Seat
noncomputable section
open Go Go.Abs Go.Proofs.Tryz
set_option maxRecDepth 100000

def N0 : List Lk := [(0, 10, 20), (1, 12, 18), (1, 15, 10)]
def H0 : List Nat := [2, 3]
theorem okN0 : okN N0 := by
 refine ⟨fun i hi => ?_, fun i hi => ?_, fun i hi => ?_, fun i hi => ?_⟩
 all_goals
  match i, hi with
  | 0, _ => decide
  | 1, _ => decide
  | 2, _ => decide
theorem pc0 : Pure prog 85 [.agg [nkA N0, nl (zl H0)]] (.bool true) := by
 have h := isPiece_pure (L := cL N0) (M := zl H0) (.inr rfl) (.inr rfl)
 rwa [decide_eq_true (show pcOk (cL N0) (zl H0) from ⟨⟨⟨by decide, by decide⟩, by decide, by decide⟩, ⟨N0, rfl, okN0⟩, fun j hj => by
  match j, hj with
  | 0, _ => exact ⟨by decide, by decide⟩
  | 1, _ => exact ⟨by decide, by decide⟩⟩)] at h
theorem hd0 : hdN N0.length H0 := ⟨by decide, fun x hx => by
 rcases List.mem_cons.1 hx with rfl | hx
 ·decide
 ·rcases List.mem_cons.1 hx with rfl | hx
  ·decide
  ·cases hx⟩
theorem adds0 : Pure prog 41 [.agg [nkA N0, nl (zl H0)], nv 10, nv 20, fv (Int.ofNat 43) (Int.ofNat 30)] (.tup [lkV (0, 20, 14), iv 0]) := by
 have h := adds_pure okN0 (by decide) (by decide) (zl H0) pc0 (lo := 10) (hi := 20) (n := 43) (d := 30) (by decide) (by decide) (by decide) (by decide) (by decide)
 rwa [show bsN N0 43 30 (cF N0 10 (20 + 1 - 10) (N0.length + 1)) (cF N0 10 (20 + 1 - 10) (N0.length + 1)).length = (0, 20, 14) by decide +kernel] at h
theorem changes0 : Pure prog 48 [.agg [nkA N0, nl (zl H0)], nv 10, nv 20, nv 0, fv (Int.ofNat 2) (Int.ofNat 5)] (.tup [nkA [(1, 12, 15)], iv 0]) := by
 have h := changes_pure okN0 (by decide) (by decide) hd0 pc0 (lo := 10) (hi := 20) (hand := 0) (n := 2) (d := 5) (by decide) (by decide) (by decide) (by decide) (by decide) (by decide) (by decide)
 rwa [show chR N0 H0 10 20 0 (2, 5) = some [(1, 12, 15)] by decide +kernel] at h
end
end Go.Abs.Seat

/-! The same, over the example's piece as it is laid. -/
namespace Go.Abs.Seat
noncomputable section
open Go Go.Abs Go.Proofs.Tryz
set_option maxRecDepth 100000

theorem WkV.agg2 {x y x' y' : AV} (h1 : WkV x x') (h2 : WkV y y') : WkV (.agg [x, y]) (.agg [x', y']) := by
 refine ⟨fun g w u hu => ?_, fun L hl => ⟨h1.lv L hl.1, h2.lv L hl.2.1, trivial⟩⟩
 simp only [VRel, VRels] at hu ⊢
 obtain ⟨vs, e, a, us, e1, r1, b, bs, e2, r2, r3⟩ := hu
 exact ⟨vs, e, a, us, e1, h1.wk g w a r1, b, bs, e2, h2.wk g w b r2, r3⟩
theorem Pure.wkA {f : FuncId} {x x' : AV} {r : List AV} {v : AV} (hw : WkV x x') (h : Pure prog f (x' :: r) v) : Pure prog f (x :: r) v :=
 ⟨h.1, fun B H g vs cs w hr hv hl => h.2 B H g vs cs w hr (by
  simp only [VRels] at hv ⊢
  obtain ⟨u, us, e, h1, h2⟩ := hv
  exact ⟨u, us, e, hw.wk g w u h1, h2⟩) ⟨hw.lv _ hl.1, hl.2⟩⟩
theorem wkP : WkV aP (.agg [nkA N0, nl (zl H0)]) := WkV.agg2 (WkV.own _ _ _) (WkV.own _ _ _)
theorem pChanges : Pure prog 48 [aP, i64 10, i64 20, i64 0, fr 2 5] (.tup [rows .no [1, 12, 15] 1, i64 0]) := Pure.wkA wkP changes0
theorem pAdds : Pure prog 41 [aP, i64 10, i64 20, fr 43 30] (.tup [.agg [i64 0, i64 20, i64 14], i64 0]) := Pure.wkA wkP adds0
end
end Go.Abs.Seat
