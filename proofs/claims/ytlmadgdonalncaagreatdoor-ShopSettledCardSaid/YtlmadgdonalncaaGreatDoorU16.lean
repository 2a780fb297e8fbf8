/-
  Small closed calls of known.
  New links: how far each is, which one is better.
  The search for changes.
-/
import Derived.Test.YtlmadgdonalncaaGreatDoorU6
import Derived.Test.YtlmadgdonalncaaGreatDoorU10
import Derived.Test.YtlmadgdonalncaaGreatDoorU5
import Derived.Test.YtlmadgdonalncaaGreatDoorU11
/-! Small closed calls of known. -/
namespace Go.Abs.Seat
open Go Go.Abs Go.Proofs.Tryz
set_option maxRecDepth 100000

theorem gRates : GoalM noMu [] 48 [aP] (.tup [rows .no [1, 1, 1, 2, 1, 3, 3, 4] 4, .lst [.bool true, .bool false, .bool true, .bool true] 4 .no, i64 0]) := of_eq_true (by kernel_rfl)
theorem pRates : Pure prog 48 [aP] (.tup [rows .no [1, 1, 1, 2, 1, 3, 3, 4] 4, .lst [.bool true, .bool false, .bool true, .bool true] 4 .no, i64 0]) := gRates.pure MOK.nil (by kernel_rfl)

theorem gSpoils : GoalM muLinks [] 50 [aP, .agg [i64 0, i64 10, i64 30]] (.tup [ints .no [0, 1], i64 0]) := of_eq_true (by kernel_rfl)
theorem pSpoils : Pure prog 50 [aP, .agg [i64 0, i64 10, i64 30]] (.tup [ints .no [0, 1], i64 0]) := gSpoils.pure MOK.nil (by kernel_rfl)

theorem gSheets : GoalM noMu [] 40 [i64 100, i64 2, ints .full [10, 20, 15, 10]] (.tup [ints .no [0, 0, 0, 1], i64 2, i64 0]) := of_eq_true (by kernel_rfl)
theorem pSheets : Pure prog 40 [i64 100, i64 2, ints .full [10, 20, 15, 10]] (.tup [ints .no [0, 0, 0, 1], i64 2, i64 0]) := gSheets.pure MOK.nil (by kernel_rfl)

theorem gBalances : GoalM noMu [] 14 [i64 3, aE] (.tup [ints .no [-9, 6, 3], i64 0]) := of_eq_true (by kernel_rfl)
theorem pBalances : Pure prog 14 [i64 3, aE] (.tup [ints .no [-9, 6, 3], i64 0]) := gBalances.pure MOK.nil (by kernel_rfl)

theorem gSettle : GoalM muSettle [] 15 [i64 3, aE] (.tup [rows .no [1, 0, 6, 2, 0, 3] 2, i64 0]) := of_eq_true (by kernel_rfl)
theorem pSettle : Pure prog 15 [i64 3, aE] (.tup [rows .no [1, 0, 6, 2, 0, 3] 2, i64 0]) := gSettle.pure MOK.nil (by kernel_rfl)

theorem gBill : GoalM noMu [] 57 [aB] (.tup [i64 43, i64 23, i64 0]) := of_eq_true (by kernel_rfl)
theorem pBill : Pure prog 57 [aB] (.tup [i64 43, i64 23, i64 0]) := gBill.pure MOK.nil (by kernel_rfl)

theorem gRead : GoalM noMu [] 44 [aText] (.tup [.agg [rows .no [0, 4, 4] 1, ints .no [1]], i64 0]) := of_eq_true (by kernel_rfl)
theorem pRead : Pure prog 44 [aText] (.tup [.agg [rows .no [0, 4, 4] 1, ints .no [1]], i64 0]) := gRead.pure MOK.nil (by kernel_rfl)

end Go.Abs.Seat

/-! New links: how far each is, which one is better. -/
namespace Go.Abs.Seat
noncomputable section
open Go Go.Abs Go.Proofs.Tryz
set_option maxRecDepth 100000
set_option maxHeartbeats 40000000
attribute [local irreducible] IntKind.wrap pEq

theorem isRange_pure (a b : Int) : Pure prog 106 [iv a, iv b] (.bool (decide ((tth a ∧ tth b) ∧ a ≤ b))) := by
 by_cases h1 : tth a
 ·have c1 : decide (tth a) = true := decide_eq_true h1
  by_cases h2 : tth b
  ·have c2 : decide (tth b) = true := decide_eq_true h2
   refine pure_sym hE rfl (by repeat' (first | exact trivial | assumption | exact flat_no _ | exact (fun _ h => nomatch h) | apply And.intro)) (by repeat' (first | exact trivial | assumption | exact flat_no _ | exact (fun _ h => nomatch h) | apply And.intro)) fun S q pc hS hq hC hE => ?_
   conv => whnf
   repeat ((first
    |refine ko_rT c1 ?_
    |refine ko_sF c1 ?_
    |refine plan_as (pick_t c1) ?_
    |refine bool_true c1 ?_
    |refine ko_rT c2 ?_
    |refine ko_sF c2 ?_
    |refine plan_as (pick_t c2) ?_
    |refine bool_true c2 ?_
    |refine ko_rT (gd_tt c1) ?_
    |refine ko_sF (gd_tt c1) ?_
    |refine plan_as (pick_t (gd_tt c1)) ?_
    |refine bool_true (gd_tt c1) ?_
    |refine ko_rT (gd_tt c2) ?_
    |refine ko_sF (gd_tt c2) ?_
    |refine plan_as (pick_t (gd_tt c2)) ?_
    |refine bool_true (gd_tt c2) ?_
    |refine sym_pure hC (sTeeth_pure a) ?_
    |refine sym_pure hC (sTeeth_pure b) ?_
    |refine sym_drawn hS (by kernel_rfl) ?_); conv => whnf)
   exact ⟨_, rfl, wkb (by simp [h1, h2])⟩
  ·have c2 : decide (tth b) = false := decide_eq_false h2
   refine pure_sym hE rfl (by repeat' (first | exact trivial | assumption | exact flat_no _ | exact (fun _ h => nomatch h) | apply And.intro)) (by repeat' (first | exact trivial | assumption | exact flat_no _ | exact (fun _ h => nomatch h) | apply And.intro)) fun S q pc hS hq hC hE => ?_
   conv => whnf
   repeat ((first
    |refine ko_rT c1 ?_
    |refine ko_sF c1 ?_
    |refine plan_as (pick_t c1) ?_
    |refine bool_true c1 ?_
    |refine ko_sT c2 ?_
    |refine ko_rF c2 ?_
    |refine plan_as (pick_f c2) ?_
    |refine bool_false c2 ?_
    |refine ko_rT (gd_tt c1) ?_
    |refine ko_sF (gd_tt c1) ?_
    |refine plan_as (pick_t (gd_tt c1)) ?_
    |refine bool_true (gd_tt c1) ?_
    |refine ko_sT (gd_tf c2) ?_
    |refine ko_rF (gd_tf c2) ?_
    |refine plan_as (pick_f (gd_tf c2)) ?_
    |refine bool_false (gd_tf c2) ?_
    |refine sym_pure hC (sTeeth_pure a) ?_
    |refine sym_pure hC (sTeeth_pure b) ?_
    |refine sym_drawn hS (by kernel_rfl) ?_); conv => whnf)
   exact ⟨_, rfl, wkb (by simp [h2])⟩
 ·have c1 : decide (tth a) = false := decide_eq_false h1
  refine pure_sym hE rfl (by repeat' (first | exact trivial | assumption | exact flat_no _ | exact (fun _ h => nomatch h) | apply And.intro)) (by repeat' (first | exact trivial | assumption | exact flat_no _ | exact (fun _ h => nomatch h) | apply And.intro)) fun S q pc hS hq hC hE => ?_
  conv => whnf
  repeat ((first
   |refine ko_sT c1 ?_
   |refine ko_rF c1 ?_
   |refine plan_as (pick_f c1) ?_
   |refine bool_false c1 ?_
   |refine ko_sT (gd_tf c1) ?_
   |refine ko_rF (gd_tf c1) ?_
   |refine plan_as (pick_f (gd_tf c1)) ?_
   |refine bool_false (gd_tf c1) ?_
   |refine sym_pure hC (sTeeth_pure a) ?_
   |refine sym_drawn hS (by kernel_rfl) ?_); conv => whnf)
  exact ⟨_, rfl, wkb (by simp [h1])⟩
theorem sFraction_pure (a b : Int) : Pure prog 107 [fv a b] (.bool (decide (isF a b))) := by
 by_cases h1 : 0 ≤ a ∧ a ≤ 50000
 ·have c1 : decide (0 ≤ a ∧ a ≤ 50000) = true := decide_eq_true h1
  refine pure_sym hE rfl (by repeat' (first | exact trivial | assumption | exact flat_no _ | exact (fun _ h => nomatch h) | apply And.intro)) (by repeat' (first | exact trivial | assumption | exact flat_no _ | exact (fun _ h => nomatch h) | apply And.intro)) fun S q pc hS hq hC hE => ?_
  conv => whnf
  repeat ((first
   |refine ko_rT c1 ?_
   |refine ko_sF c1 ?_
   |refine plan_as (pick_t c1) ?_
   |refine bool_true c1 ?_
   |refine ko_rT (gd_tt c1) ?_
   |refine ko_sF (gd_tt c1) ?_
   |refine plan_as (pick_t (gd_tt c1)) ?_
   |refine bool_true (gd_tt c1) ?_
   |refine sym_pure hC (sin_pure a 0 50000) ?_
   |refine sym_pure hC (sin_pure b 1 50000) ?_
   |refine sym_drawn hS (by kernel_rfl) ?_); conv => whnf)
  exact ⟨_, rfl, wkb (by unfold isF; simp [h1])⟩
 ·have c1 : decide (0 ≤ a ∧ a ≤ 50000) = false := decide_eq_false h1
  refine pure_sym hE rfl (by repeat' (first | exact trivial | assumption | exact flat_no _ | exact (fun _ h => nomatch h) | apply And.intro)) (by repeat' (first | exact trivial | assumption | exact flat_no _ | exact (fun _ h => nomatch h) | apply And.intro)) fun S q pc hS hq hC hE => ?_
  conv => whnf
  repeat ((first
   |refine ko_sT c1 ?_
   |refine ko_rF c1 ?_
   |refine plan_as (pick_f c1) ?_
   |refine bool_false c1 ?_
   |refine ko_sT (gd_tf c1) ?_
   |refine ko_rF (gd_tf c1) ?_
   |refine plan_as (pick_f (gd_tf c1)) ?_
   |refine bool_false (gd_tf c1) ?_
   |refine sym_pure hC (sin_pure a 0 50000) ?_
   |refine sym_drawn hS (by kernel_rfl) ?_); conv => whnf)
  exact ⟨_, rfl, wkb (by unfold isF; simp [h1])⟩
theorem sdist_pure (a b n d : Nat) (h1 : a * d < 4611686018427387904) (h2 : n * b < 4611686018427387904) : Pure prog 112 [fv (Int.ofNat a) (Int.ofNat b), fv (Int.ofNat n) (Int.ofNat d)] (qf (dQ n d (a, b))) := by
 refine pure_sym hE rfl (by repeat' (first | exact trivial | assumption | exact flat_no _ | exact (fun _ h => nomatch h) | apply And.intro)) (by repeat' (first | exact trivial | assumption | exact flat_no _ | exact (fun _ h => nomatch h) | apply And.intro)) fun S q pc hS hq hC hE => ?_
 conv => whnf
 refine ⟨_, rfl, wkE ?_⟩
 rw [show IntKind.i64.wrap (Int.ofNat a * Int.ofNat d) = Int.ofNat (a * d) from wrapN (m := a * d) (by omega), show IntKind.i64.wrap (Int.ofNat n * Int.ofNat b) = Int.ofNat (n * b) from wrapN (m := n * b) (by omega),
  wrapI (by show _ ≤ (_ : Int) - _; simp only [Int.ofNat_eq_natCast]; omega) (by simp only [Int.ofNat_eq_natCast]; omega), maxI_neg h1 h2]
 rfl
abbrev hpA (N : List Lk) (M : List Int) (n d : Nat) (W0 W2 W4 : AObj) : Tr AObj :=
 .node W0 (.node (.cells (.node (nv n) (.node (nv d) .nil .nil) .nil) 2 78) (.node (.cells (.node (nkA N) (.node (nl M) .nil .nil) (.node (pv (zp (rtL N (N.length + 1)))) .nil .nil)) 3 155) .nil .nil) (.node (.cells (.node (.func (.func 111) [] [.ptr 3 0, .ptr 1 0]) .nil .nil) 1 167) .nil .nil)) (.node W2 (.node W4 .nil .nil) .nil)
theorem hpA_end (N : List Lk) (M : List Int) (n d : Nat) (W0 W2 W4 : AObj) : HEnd (hpA N M n d W0 W2 W4) 6 := appT_end [W0, .cells (.node (nv n) (.node (nv d) .nil .nil) .nil) 2 78, W2, .cells (.node (nkA N) (.node (nl M) .nil .nil) (.node (pv (zp (rtL N (N.length + 1)))) .nil .nil)) 3 155, W4, .cells (.node (.func (.func 111) [] [.ptr 3 0, .ptr 1 0]) .nil .nil) 1 167] 0 .nil HEnd_nil
abbrev lkV (x : Lk) : AV := .agg [nv x.1, nv x.2.1, nv x.2.2]
def wyA (N : List Lk) (n d : Nat) (x : Lk) : Nat × Nat := dQ n d ((rtA N x.1).1 * x.2.1, (rtA N x.1).2 * x.2.2)
structure nwL (N : List Lk) (x : Lk) : Prop where
 f : x.1 ≤ N.length
 a : x.2.1 ≤ 60
 b : x.2.2 ≤ 60
theorem wyA_le {N : List Lk} (h : okN N) {n d : Nat} (hn : n ≤ 50000) (hd : d ≤ 50000) {x : Lk} (hx : nwL N x) : ((rtA N x.1).1 * x.2.1 ≤ 12960000 ∧ (rtA N x.1).2 * x.2.2 ≤ 12960000) ∧ (wyA N n d x).1 ≤ 648000000000 ∧ (wyA N n d x).2 ≤ 12960000 := by
 have hb := rtA_le h hx.f
 have m1 : (rtA N x.1).1 * x.2.1 ≤ 216000 * 60 := Nat.mul_le_mul hb.1.2 hx.a
 have m2 : (rtA N x.1).2 * x.2.2 ≤ 216000 * 60 := Nat.mul_le_mul hb.2.2 hx.b
 have m3 : (rtA N x.1).1 * x.2.1 * d ≤ 12960000 * 50000 := Nat.mul_le_mul (by omega) hd
 have m4 : n * ((rtA N x.1).2 * x.2.2) ≤ 50000 * 12960000 := Nat.mul_le_mul hn (by omega)
 refine ⟨⟨by omega, by omega⟩, ?_, by show (rtA N x.1).2 * x.2.2 ≤ _; omega⟩
 show gp ((rtA N x.1).1 * x.2.1 * d) (n * ((rtA N x.1).2 * x.2.2)) ≤ _
 unfold gp
 omega
theorem away_h {N : List Lk} (h : okN N) {M : List Int} {n d : Nat} (hn : n ≤ 50000) (hd : d ≤ 50000) {W0 W2 W4 : AObj} (b0 : BdO 6 W0) (b2 : BdO 6 W2) (b4 : BdO 6 W4) {x : Lk} (hx : nwL N x) :
  HFun prog 111 [lkV x, .ptr 3 0, .ptr 1 0] (hv (hpA N M n d W0 W2 W4)) 6 (qf (wyA N n d x)) (hv (hpA N M n d W0 W2 W4)) := by
 have lN := lks_no (cL N)
 have lM := ivs_no M
 have lR := flat_no (zp (rtL N (N.length + 1)))
 have hBd : ObBd 6 (hpA N M n d W0 W2 W4) 6 := by
  repeat' (first | exact trivial | exact b0 | exact b2 | exact b4 | exact Nat.zero_le _ | exact bdl_no lN | exact bdl_no lM | exact bdl_no lR | exact Nat.le_of_ble_eq_true rfl | apply And.intro | exact Nat.max_le.2 ⟨Nat.zero_le _, bdl_no lN⟩)
 refine hfun_sym hE rfl (hpA_end N M n d W0 W2 W4) (Nat.le_of_ble_eq_true rfl) (Nat.zero_le _) hBd hBd fun S q pc hS hq hC hE => ?_
 have hf := hx.f
 have hb := wyA_le h hn hd hx
 have tk : takeN 2 (dropN (x.1 * 2) (flat (zp (rtL N (N.length + 1))))) = some [nv (rtA N x.1).1, nv (rtA N x.1).2] := by
  rw [tak_zp _ (by rw [rtL_len]; omega), rtL_get N (by omega)]
 have m3 : (rtA N x.1).1 * x.2.1 * d ≤ 12960000 * 50000 := Nat.mul_le_mul hb.1.1 hd
 have m4 : n * ((rtA N x.1).2 * x.2.2) ≤ 50000 * 12960000 := Nat.mul_le_mul hn hb.1.2
 conv => whnf
 refine bool_true ((show inR (Int.ofNat x.1) (zp (rtL N (N.length + 1))).length = true by rw [zp_len, rtL_len]; exact inR_t (by omega))) ?_
 conv => whnf
 refine plan_as (takP tk) ?_
 conv => whnf
 rw [mulN (a := (rtA N x.1).1) (b := x.2.1) (by omega), mulN (a := (rtA N x.1).2) (b := x.2.2) (by omega)]
 refine sym_pure hC (sdist_pure ((rtA N x.1).1 * x.2.1) ((rtA N x.1).2 * x.2.2) n d (by omega) (by omega)) ?_
 conv => whnf
 exact ⟨_, rfl, WkV.refl _, rfl, rfl, rfl, rfl, rfl, rfl, trivial⟩
theorem ob6 {h h' : Tr AObj} (e0 : hv h 0 = hv h' 0) (e1 : hv h 1 = hv h' 1) (e2 : hv h 2 = hv h' 2) (e3 : hv h 3 = hv h' 3) (e4 : hv h 4 = hv h' 4) (e5 : hv h 5 = hv h' 5) : ∀ i, i < 6 → hv h i = hv h' i
 | 0, _ => e0
 | 1, _ => e1
 | 2, _ => e2
 | 3, _ => e3
 | 4, _ => e4
 | 5, _ => e5
 | _ + 6, h => absurd h (by omega)
def btL (N : List Lk) (n d : Nat) (x y : Lk) : Prop := (wyA N n d x).1 * (wyA N n d y).2 < (wyA N n d y).1 * (wyA N n d x).2
instance (N : List Lk) (n d : Nat) (x y : Lk) : Decidable (btL N n d x y) := Nat.decLt _ _
theorem better_h {N : List Lk} (h : okN N) {M : List Int} {n d : Nat} (hn : n ≤ 50000) (hd : d ≤ 50000) {W0 W2 W4 : AObj} (b0 : BdO 6 W0) (b2 : BdO 6 W2) (b4 : BdO 6 W4) {x y : Lk} (hx : nwL N x) (hy : nwL N y) :
  HFun prog 114 [lkV x, lkV y, .ptr 5 0] (hv (hpA N M n d W0 W2 W4)) 6 (.bool (decide (btL N n d x y))) (hv (hpA N M n d W0 W2 W4)) := by
 have lN := lks_no (cL N)
 have lM := ivs_no M
 have lR := flat_no (zp (rtL N (N.length + 1)))
 have hBd : ObBd 6 (hpA N M n d W0 W2 W4) 6 := by
  repeat' (first | exact trivial | exact b0 | exact b2 | exact b4 | exact Nat.zero_le _ | exact bdl_no lN | exact bdl_no lM | exact bdl_no lR | exact Nat.le_of_ble_eq_true rfl | apply And.intro | exact Nat.max_le.2 ⟨Nat.zero_le _, bdl_no lN⟩)
 have ax := away_h h (M := M) hn hd b0 b2 b4 hx
 have ay := away_h h (M := M) hn hd b0 b2 b4 hy
 have gx := (wyA_le h hn hd hx).2
 have gy := (wyA_le h hn hd hy).2
 have m1 : (wyA N n d x).1 * (wyA N n d y).2 ≤ 648000000000 * 12960000 := Nat.mul_le_mul gx.1 gy.2
 have m2 : (wyA N n d y).1 * (wyA N n d x).2 ≤ 648000000000 * 12960000 := Nat.mul_le_mul gy.1 gx.2
 refine hfun_sym hE rfl (hpA_end N M n d W0 W2 W4) (Nat.le_of_ble_eq_true rfl) (Nat.zero_le _) hBd hBd fun S q pc hS hq hC hE => ?_
 conv => whnf
 refine sym_pureR hC (HFun.pureR ax (ob6 rfl rfl rfl rfl rfl rfl)) ?_
 conv => whnf
 refine sym_pureR hC (HFun.pureR ay (ob6 rfl rfl rfl rfl rfl rfl)) ?_
 conv => whnf
 refine sym_drawn hS (by kernel_rfl) ?_
 conv => whnf
 refine ⟨_, rfl, WkV.eq ?_, rfl, rfl, rfl, rfl, rfl, rfl, trivial⟩
 rw [mulN (a := (wyA N n d x).1) (b := (wyA N n d y).2) (by omega), mulN (a := (wyA N n d y).1) (b := (wyA N n d x).2) (by omega)]
 exact congrArg AV.bool (decide_eq_decide.2 Int.ofNat_lt)
def bsN (N : List Lk) (n d : Nat) (l : List Lk) : Nat → Lk
 | 0 => (0, 0, 0)
 |i + 1 => if i = 0 ∨ btL N n d (gN l i) (bsN N n d l i) then gN l i else bsN N n d l i
theorem bsN_ok {N : List Lk} {n d : Nat} {l : List Lk} (hl : ∀ x, x ∈ l → nwL N x) : ∀ i, i ≤ l.length → nwL N (bsN N n d l i)
 | 0, _ => ⟨Nat.zero_le _, Nat.zero_le _, Nat.zero_le _⟩
 |i + 1, h => by
  rw [bsN]
  split
  ·exact hl _ (gN_mem l h)
  ·exact bsN_ok hl i (by omega)
end
end Go.Abs.Seat

/-! The search for changes. -/
namespace Go.Abs.Seat
noncomputable section
open Go Go.Abs Go.Proofs.Tryz
set_option maxRecDepth 100000
set_option maxHeartbeats 40000000
attribute [local irreducible] IntKind.wrap pEq

def orE {α : Type} (o p : Option α) : Option α := match o with | some x => some x | none => p
def fstO {α : Type} (f : Nat → Option α) : Nat → Nat → Option α
 | _, 0 => none
 |k, n + 1 => orE (f k) (fstO f (k + 1) n)
def sr0 (N : List Lk) (H : List Nat) (hand : Nat) (t : Nat × Nat) (now : List Lk) (_ : Nat) : Option (List Lk) := if suP N now H hand t then some [] else none
def stC (g : List Lk → Nat → Option (List Lk)) (N now : List Lk) (i a b : Nat) : Option (List Lk) := if (gN N i).2 = (a, b) then none else (g (chN now i a b) (i + 1)).map ((i, a, b) :: ·)
def srS (g : List Lk → Nat → Option (List Lk)) (N : List Lk) (lo hi : Nat) (now : List Lk) (fr : Nat) : Option (List Lk) :=
 fstO (fun i => fstO (fun a => fstO (fun b => stC g N now i a b) lo (hi + 1 - lo)) lo (hi + 1 - lo)) fr (N.length - fr)
def srV : Option (List Lk) → AV
 |none => .tup [.nils, .bool false]
 |some [] => .tup [.nils, .bool true]
 |some (c :: r) => .tup [nkA (c :: r), .bool true]
theorem gN_ch (N : List Lk) (i a b j : Nat) (hi : i < N.length) : gN (chN N i a b) j = if j = i then ((gN N i).1, a, b) else gN N j := by
 unfold chN gN
 by_cases e : j = i
 ·subst e
  rw [if_pos rfl, List.getD, List.getElem?_set_self hi]; rfl
 ·rw [if_neg e, List.getD, List.getElem?_set_ne (fun z => e z.symm)]; rfl
theorem chN_len (N : List Lk) (i a b : Nat) : (chN N i a b).length = N.length := List.length_set
theorem chN_fr (N : List Lk) (i a b j : Nat) (hi : i < N.length) : (gN (chN N i a b) j).1 = (gN N j).1 := by
 rw [gN_ch N i a b j hi]
 split
 ·rename_i e; subst e; rfl
 ·rfl
theorem trF_ch {N : List Lk} {i a b : Nat} (hi : i < N.length) : ∀ (f x : Nat), (trF (chN N i a b) f x).length = (trF N f x).length
 | _, 0 => by cases ‹Nat› <;> rfl
 | 0, _ + 1 => rfl
 |f + 1, x + 1 => by rw [trF, trF, List.length_append, List.length_append, chN_fr N i a b x hi, trF_ch hi f]; rfl
theorem okN.ch {N : List Lk} (h : okN N) {i a b : Nat} (hi : i < N.length) (ha : tN a) (hb : tN b) : okN (chN N i a b) := by
 refine ⟨fun j hj => ?_, fun j hj => ?_, fun j hj => ?_, fun j hj => ?_⟩
 ·rw [chN_fr N i a b j hi]; exact h.wf j (by rw [chN_len] at hj; exact hj)
 ·rw [chN_len] at hj
  rw [gN_ch N i a b j hi]
  split
  ·exact ha
  ·exact h.t1 j hj
 ·rw [chN_len] at hj
  rw [gN_ch N i a b j hi]
  split
  ·exact hb
  ·exact h.t2 j hj
 ·rw [chN_len] at hj
  unfold tr
  rw [trF_ch hi]
  exact h.d j hj
theorem eqPr (cst : Bool) (a b c d : Int) : q0 86 cst (fv a b) (fv c d) = @Bool.rec (fun _ => Option Bool) (some false) (@Bool.rec (fun _ => Option Bool) (some false) (some true) (b == d)) (a == c) := by kernel_rfl
theorem eqPr_b (cst : Bool) (a b c d : Nat) : q0 86 cst (fv (Int.ofNat a) (Int.ofNat b)) (fv (Int.ofNat c) (Int.ofNat d)) = some (decide ((c, d) = (a, b))) := by
 rw [eqPr]
 by_cases h1 : a = c
 ·subst h1
  rw [beq_self_eq_true]
  by_cases h2 : b = d
  ·subst h2
   rw [beq_self_eq_true, decide_eq_true rfl]
  ·rw [show (Int.ofNat b == Int.ofNat d) = false from beq_eq_false_iff_ne.2 fun z => h2 (Int.ofNat.inj z), decide_eq_false fun z => h2 (Prod.mk.inj z).2.symm]
 ·rw [show (Int.ofNat a == Int.ofNat c) = false from beq_eq_false_iff_ne.2 fun z => h1 (Int.ofNat.inj z), decide_eq_false fun z => h1 (Prod.mk.inj z).1.symm]
abbrev hpC (N : List Lk) (H : List Nat) (lo hi hand : Nat) (t : Nat × Nat) : Tr AObj :=
 .node (.cells (.node (nkA N) (.node (nl (zl H)) .nil .nil) .nil) 2 64) (.node (.cells (.node (nv lo) .nil .nil) 1 3) (.node (.cells (.node (nv hand) .nil .nil) 1 3) (.node .hole (.node .hole (.nil) (.nil)) (.nil)) (.node .hole (.nil) (.nil))) (.node .hole (.node .hole (.nil) (.nil)) (.node (.cells (.node (nv t.1) (.node (nv t.2) .nil .nil) .nil) 2 161) (.nil) (.nil)))) (.node (.cells (.node (nv hi) .nil .nil) 1 3) (.node (.cells (.node (nv t.1) (.node (nv t.2) .nil .nil) .nil) 2 78) (.node .hole (.node (.cells (.node (.func (.func 108) [] [.ptr 12 0, .ptr 3 0, .ptr 13 0, .ptr 0 0, .ptr 1 0, .ptr 2 0, .ptr 16 0]) .nil .nil) 1 162) (.nil) (.nil)) (.nil)) (.node (.cells (.node (nkA N) (.node (nl (zl H)) .nil .nil) (.node (pv (zp (rtL N (N.length + 1)))) .nil .nil)) 3 155) (.nil) (.nil))) (.node .hole (.node .hole (.nil) (.nil)) (.node .hole (.nil) (.nil))))
theorem hpC_end (N : List Lk) (H : List Nat) (lo hi hand : Nat) (t : Nat × Nat) : HEnd (hpC N H lo hi hand t) 17 := appT_end [(.cells (.node (nkA N) (.node (nl (zl H)) .nil .nil) .nil) 2 64), (.cells (.node (nv lo) .nil .nil) 1 3), (.cells (.node (nv hi) .nil .nil) 1 3), (.cells (.node (nv hand) .nil .nil) 1 3), (.cells (.node (nv t.1) (.node (nv t.2) .nil .nil) .nil) 2 78), .hole, .hole, .hole, .hole, .hole, .hole, .hole, (.cells (.node (nkA N) (.node (nl (zl H)) .nil .nil) (.node (pv (zp (rtL N (N.length + 1)))) .nil .nil)) 3 155), (.cells (.node (nv t.1) (.node (nv t.2) .nil .nil) .nil) 2 161), .hole, .hole, (.cells (.node (.func (.func 108) [] [.ptr 12 0, .ptr 3 0, .ptr 13 0, .ptr 0 0, .ptr 1 0, .ptr 2 0, .ptr 16 0]) .nil .nil) 1 162)] 0 .nil HEnd_nil
abbrev scA (now : List Lk) (H : List Nat) (fr k : Nat) : List AV := [.agg [nkA now, nl (zl H)], nv fr, nv k, .ptr 12 0, .ptr 3 0, .ptr 13 0, .ptr 0 0, .ptr 1 0, .ptr 2 0, .ptr 16 0]
theorem hpC_bd (N : List Lk) (H : List Nat) (lo hi hand : Nat) (t : Nat × Nat) : ObBd 17 (hpC N H lo hi hand t) 17 := by
 have lN := lks_no (cL N)
 have lM := ivs_no (zl H)
 have lR := flat_no (zp (rtL N (N.length + 1)))
 repeat' (first | exact trivial | exact Nat.zero_le _ | exact bdl_no lN | exact bdl_no lM | exact bdl_no lR | exact Nat.le_of_ble_eq_true rfl | apply And.intro | exact Nat.max_le.2 ⟨Nat.zero_le _, bdl_no lN⟩)
theorem search0_h {N now : List Lk} (h : okN N) (h2 : okN now) (h1 : 1 ≤ N.length) (hN : N.length ≤ 5) (hl : now.length = N.length) {H : List Nat} (hH : hdN N.length H) (lo hi : Nat) {hand : Nat} (hh : hand < H.length) {t : Nat × Nat} (t1 : t.1 ≤ 50000) (t2 : t.2 ≤ 50000) (fr : Nat) :
  HFun prog 108 (scA now H fr 0) (hv (hpC N H lo hi hand t)) 17 (srV (sr0 N H hand t now fr)) (hv (hpC N H lo hi hand t)) := by
 have lN := lks_no (cL N)
 have lN2 := lks_no (cL now)
 have lM := ivs_no (zl H)
 have lR := flat_no (zp (rtL N (N.length + 1)))
 have pw := with_pure h2 (by omega) (by omega) (zl H)
 have ps := suits_pure h h2 hN hl hH hh t1 t2
 have lR2 := flat_no (zp (rtL now (now.length + 1)))
 have hb := hpC_bd N H lo hi hand t
 unfold wiV at pw ps
 have ev : srV (sr0 N H hand t now fr) = .tup [.nils, .bool (decide (suP N now H hand t))] := by
  unfold sr0
  by_cases e : suP N now H hand t
  ·rw [if_pos e, decide_eq_true e]; rfl
  ·rw [if_neg e, decide_eq_false e]; rfl
 rw [ev]
 refine hfun_sym hE rfl (hpC_end N H lo hi hand t) (Nat.max_le.2 ⟨Nat.max_le.2 ⟨Nat.max_le.2 ⟨Nat.zero_le _, bdl_no lN2⟩, Nat.max_le.2 ⟨Nat.max_le.2 ⟨Nat.zero_le _, bdl_no lM⟩, Nat.zero_le _⟩⟩, Nat.le_of_ble_eq_true rfl⟩) (Nat.zero_le _) hb hb fun S q pc hS hq hC hE => ?_
 conv => whnf
 refine sym_pure hC (pw) ?_
 conv => whnf
 refine sym_pure hC (ps) ?_
 conv => whnf
 refine sym_drawn hS (by kernel_rfl) ?_
 conv => whnf
 exact ⟨_, rfl, WkV.refl _, rfl, rfl, rfl, rfl, rfl, rfl, rfl, rfl, rfl, rfl, rfl, rfl, rfl, rfl, rfl, rfl, rfl, trivial⟩
end
end Go.Abs.Seat
