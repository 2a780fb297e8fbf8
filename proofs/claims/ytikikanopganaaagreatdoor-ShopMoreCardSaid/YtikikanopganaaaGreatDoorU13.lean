/-
  Small closed calls of known.
  A piece with a change.
  The search for changes.
-/
import Derived.Test.YtikikanopganaaaGreatDoorU6
import Derived.Test.YtikikanopganaaaGreatDoorU10
import Derived.Test.YtikikanopganaaaGreatDoorU5
import Derived.Test.YtikikanopganaaaGreatDoorU11
/-! Small closed calls of known. -/
namespace Go.Abs.Seat
open Go Go.Abs Go.Proofs.Tryz
set_option maxRecDepth 100000

theorem gRates : GoalM noMu [] 21 [aP] (.tup [rows .no [1, 1, 1, 2, 1, 3, 3, 4] 4, .lst [.bool true, .bool false, .bool true, .bool true] 4 .no, i64 0]) := of_eq_true (by kernel_rfl)
theorem pRates : Pure prog 21 [aP] (.tup [rows .no [1, 1, 1, 2, 1, 3, 3, 4] 4, .lst [.bool true, .bool false, .bool true, .bool true] 4 .no, i64 0]) := gRates.pure MOK.nil (by kernel_rfl)

theorem gSpoils : GoalM muLinks [] 37 [aP, .agg [i64 0, i64 10, i64 30]] (.tup [ints .no [0, 1], i64 0]) := of_eq_true (by kernel_rfl)
theorem pSpoils : Pure prog 37 [aP, .agg [i64 0, i64 10, i64 30]] (.tup [ints .no [0, 1], i64 0]) := gSpoils.pure MOK.nil (by kernel_rfl)

theorem gSheets : GoalM noMu [] 57 [i64 100, i64 2, ints .full [10, 20, 15, 10]] (.tup [ints .no [0, 0, 0, 1], i64 2, i64 0]) := of_eq_true (by kernel_rfl)
theorem pSheets : Pure prog 57 [i64 100, i64 2, ints .full [10, 20, 15, 10]] (.tup [ints .no [0, 0, 0, 1], i64 2, i64 0]) := gSheets.pure MOK.nil (by kernel_rfl)

theorem gBalances : GoalM noMu [] 71 [i64 3, aE] (.tup [ints .no [-9, 6, 3], i64 0]) := of_eq_true (by kernel_rfl)
theorem pBalances : Pure prog 71 [i64 3, aE] (.tup [ints .no [-9, 6, 3], i64 0]) := gBalances.pure MOK.nil (by kernel_rfl)

theorem gSettle : GoalM muSettle [] 73 [i64 3, aE] (.tup [rows .no [1, 0, 6, 2, 0, 3] 2, i64 0]) := of_eq_true (by kernel_rfl)
theorem pSettle : Pure prog 73 [i64 3, aE] (.tup [rows .no [1, 0, 6, 2, 0, 3] 2, i64 0]) := gSettle.pure MOK.nil (by kernel_rfl)

theorem gBill : GoalM noMu [] 15 [aB] (.tup [i64 43, i64 23, i64 0]) := of_eq_true (by kernel_rfl)
theorem pBill : Pure prog 15 [aB] (.tup [i64 43, i64 23, i64 0]) := gBill.pure MOK.nil (by kernel_rfl)

theorem gRead : GoalM noMu [] 75 [aText] (.tup [.agg [rows .no [0, 4, 4] 1, ints .no [1]], i64 0]) := of_eq_true (by kernel_rfl)
theorem pRead : Pure prog 75 [aText] (.tup [.agg [rows .no [0, 4, 4] 1, ints .no [1]], i64 0]) := gRead.pure MOK.nil (by kernel_rfl)

end Go.Abs.Seat

/-! A piece with a change. -/
namespace Go.Abs.Seat
noncomputable section
open Go Go.Abs Go.Proofs.Tryz
set_option maxRecDepth 100000
set_option maxHeartbeats 40000000
attribute [local irreducible] IntKind.wrap pEq

def chkT (t : Tr AV) (xs : List AV) (n : Nat) : Prop := @Nat.rec (fun _ => Prop) True (fun j ih => t.get j = xs[j]? ∧ ih) n
theorem chkT.at {t : Tr AV} {xs : List AV} : ∀ {n : Nat}, chkT t xs n → ∀ j, j < n → t.get j = xs[j]?
 |n + 1, h, j, hj => by
  by_cases e : j = n
  ·subst e; exact h.1
  ·exact chkT.at h.2 j (by omega)
def chN (N : List Lk) (i a b : Nat) : List Lk := N.set i ((gN N i).1, a, b)
theorem changed_pure {N : List Lk} (h5 : N.length ≤ 5) (M : List Int) {i : Nat} (hi : i < N.length) (a b : Nat) : Pure prog 99 [.agg [nkA N, nl M], .agg [nv i, nv a, nv b]] (.agg [nkA (chN N i a b), nl M]) := by
 have lM := ivs_no M
 have lC := lks_no (cL (chN N i a b))
 rcases N with _ | ⟨x0, _ | ⟨x1, _ | ⟨x2, _ | ⟨x3, _ | ⟨x4, _ | ⟨x5, r⟩⟩⟩⟩⟩⟩
 ·exact absurd hi (Nat.not_lt_zero _)
 ·have lN := lks_no (cL [x0])
  obtain rfl : i = 0 := by simp only [List.length_cons, List.length_nil] at hi; omega
  refine pure_symF (hEM muLinks) rfl (by repeat' (first | exact trivial | assumption | exact flat_no _ | exact (fun _ h => nomatch h) | apply And.intro)) (by repeat' (first | exact trivial | assumption | exact flat_no _ | exact (fun _ h => nomatch h) | apply And.intro)) fun S q pc hS hq hC hE => ?_
  conv => whnf
  refine sym_call hC ?_
  conv => whnf
  refine sym_inline hE hS ?_
  conv => whnf
  refine sym_eq hq false rfl ?_
  conv => whnf
  exact ⟨_, rfl, FzV.agg ⟨FzV.slcN rfl rfl (chkT.at (by repeat' (first | exact trivial | kernel_rfl | apply And.intro))) lC, FzV.no ⟨lM, fun _ e => nomatch e⟩, trivial⟩⟩
 ·have lN := lks_no (cL [x0, x1])
  have hc : i = 0 ∨ i = 1 := by simp only [List.length_cons, List.length_nil] at hi; omega
  rcases hc with rfl | rfl
  all_goals
   refine pure_symF (hEM muLinks) rfl (by repeat' (first | exact trivial | assumption | exact flat_no _ | exact (fun _ h => nomatch h) | apply And.intro)) (by repeat' (first | exact trivial | assumption | exact flat_no _ | exact (fun _ h => nomatch h) | apply And.intro)) fun S q pc hS hq hC hE => ?_
   conv => whnf
   refine sym_call hC ?_
   conv => whnf
   refine sym_inline hE hS ?_
   conv => whnf
   refine sym_eq hq false rfl ?_
   conv => whnf
   exact ⟨_, rfl, FzV.agg ⟨FzV.slcN rfl rfl (chkT.at (by repeat' (first | exact trivial | kernel_rfl | apply And.intro))) lC, FzV.no ⟨lM, fun _ e => nomatch e⟩, trivial⟩⟩
 ·have lN := lks_no (cL [x0, x1, x2])
  have hc : i = 0 ∨ i = 1 ∨ i = 2 := by simp only [List.length_cons, List.length_nil] at hi; omega
  rcases hc with rfl | rfl | rfl
  all_goals
   refine pure_symF (hEM muLinks) rfl (by repeat' (first | exact trivial | assumption | exact flat_no _ | exact (fun _ h => nomatch h) | apply And.intro)) (by repeat' (first | exact trivial | assumption | exact flat_no _ | exact (fun _ h => nomatch h) | apply And.intro)) fun S q pc hS hq hC hE => ?_
   conv => whnf
   refine sym_call hC ?_
   conv => whnf
   refine sym_inline hE hS ?_
   conv => whnf
   refine sym_eq hq false rfl ?_
   conv => whnf
   exact ⟨_, rfl, FzV.agg ⟨FzV.slcN rfl rfl (chkT.at (by repeat' (first | exact trivial | kernel_rfl | apply And.intro))) lC, FzV.no ⟨lM, fun _ e => nomatch e⟩, trivial⟩⟩
 ·have lN := lks_no (cL [x0, x1, x2, x3])
  have hc : i = 0 ∨ i = 1 ∨ i = 2 ∨ i = 3 := by simp only [List.length_cons, List.length_nil] at hi; omega
  rcases hc with rfl | rfl | rfl | rfl
  all_goals
   refine pure_symF (hEM muLinks) rfl (by repeat' (first | exact trivial | assumption | exact flat_no _ | exact (fun _ h => nomatch h) | apply And.intro)) (by repeat' (first | exact trivial | assumption | exact flat_no _ | exact (fun _ h => nomatch h) | apply And.intro)) fun S q pc hS hq hC hE => ?_
   conv => whnf
   refine sym_call hC ?_
   conv => whnf
   refine sym_inline hE hS ?_
   conv => whnf
   refine sym_eq hq false rfl ?_
   conv => whnf
   exact ⟨_, rfl, FzV.agg ⟨FzV.slcN rfl rfl (chkT.at (by repeat' (first | exact trivial | kernel_rfl | apply And.intro))) lC, FzV.no ⟨lM, fun _ e => nomatch e⟩, trivial⟩⟩
 ·have lN := lks_no (cL [x0, x1, x2, x3, x4])
  have hc : i = 0 ∨ i = 1 ∨ i = 2 ∨ i = 3 ∨ i = 4 := by simp only [List.length_cons, List.length_nil] at hi; omega
  rcases hc with rfl | rfl | rfl | rfl | rfl
  all_goals
   refine pure_symF (hEM muLinks) rfl (by repeat' (first | exact trivial | assumption | exact flat_no _ | exact (fun _ h => nomatch h) | apply And.intro)) (by repeat' (first | exact trivial | assumption | exact flat_no _ | exact (fun _ h => nomatch h) | apply And.intro)) fun S q pc hS hq hC hE => ?_
   conv => whnf
   refine sym_call hC ?_
   conv => whnf
   refine sym_inline hE hS ?_
   conv => whnf
   refine sym_eq hq false rfl ?_
   conv => whnf
   exact ⟨_, rfl, FzV.agg ⟨FzV.slcN rfl rfl (chkT.at (by repeat' (first | exact trivial | kernel_rfl | apply And.intro))) lC, FzV.no ⟨lM, fun _ e => nomatch e⟩, trivial⟩⟩
 ·simp only [List.length_cons] at h5
  omega
end
end Go.Abs.Seat

/-! The search for changes. -/
namespace Go.Abs.Seat
noncomputable section
open Go Go.Abs Go.Proofs.Tryz
set_option maxRecDepth 100000
set_option maxHeartbeats 40000000
attribute [local irreducible] IntKind.wrap pEq

def orE {α : Type} (o p : Option α) : Option α := match o with | some x => some x | none => p
def fstO {α : Type} (f : Nat → Option α) : Nat → Nat → Option α
 | _, 0 => none
 |k, n + 1 => orE (f k) (fstO f (k + 1) n)
def sr0 (N : List Lk) (H : List Nat) (hand : Nat) (t : Nat × Nat) (now : List Lk) (_ : Nat) : Option (List Lk) := if suP N now H hand t then some [] else none
def stC (g : List Lk → Nat → Option (List Lk)) (N now : List Lk) (i a b : Nat) : Option (List Lk) := if (gN N i).2 = (a, b) then none else (g (chN now i a b) (i + 1)).map ((i, a, b) :: ·)
def srS (g : List Lk → Nat → Option (List Lk)) (N : List Lk) (lo hi : Nat) (now : List Lk) (fr : Nat) : Option (List Lk) :=
 fstO (fun i => fstO (fun a => fstO (fun b => stC g N now i a b) lo (hi + 1 - lo)) lo (hi + 1 - lo)) fr (N.length - fr)
def srV : Option (List Lk) → AV
 |none => .tup [.nils, .bool false]
 |some [] => .tup [.nils, .bool true]
 |some (c :: r) => .tup [nkA (c :: r), .bool true]
theorem gN_ch (N : List Lk) (i a b j : Nat) (hi : i < N.length) : gN (chN N i a b) j = if j = i then ((gN N i).1, a, b) else gN N j := by
 unfold chN gN
 by_cases e : j = i
 ·subst e
  rw [if_pos rfl, List.getD, List.getElem?_set_self hi]; rfl
 ·rw [if_neg e, List.getD, List.getElem?_set_ne (fun z => e z.symm)]; rfl
theorem chN_len (N : List Lk) (i a b : Nat) : (chN N i a b).length = N.length := List.length_set
theorem chN_fr (N : List Lk) (i a b j : Nat) (hi : i < N.length) : (gN (chN N i a b) j).1 = (gN N j).1 := by
 rw [gN_ch N i a b j hi]
 split
 ·rename_i e; subst e; rfl
 ·rfl
theorem trF_ch {N : List Lk} {i a b : Nat} (hi : i < N.length) : ∀ (f x : Nat), (trF (chN N i a b) f x).length = (trF N f x).length
 | _, 0 => by cases ‹Nat› <;> rfl
 | 0, _ + 1 => rfl
 |f + 1, x + 1 => by rw [trF, trF, List.length_append, List.length_append, chN_fr N i a b x hi, trF_ch hi f]; rfl
theorem okN.ch {N : List Lk} (h : okN N) {i a b : Nat} (hi : i < N.length) (ha : tN a) (hb : tN b) : okN (chN N i a b) := by
 refine ⟨fun j hj => ?_, fun j hj => ?_, fun j hj => ?_, fun j hj => ?_⟩
 ·rw [chN_fr N i a b j hi]; exact h.wf j (by rw [chN_len] at hj; exact hj)
 ·rw [chN_len] at hj
  rw [gN_ch N i a b j hi]
  split
  ·exact ha
  ·exact h.t1 j hj
 ·rw [chN_len] at hj
  rw [gN_ch N i a b j hi]
  split
  ·exact hb
  ·exact h.t2 j hj
 ·rw [chN_len] at hj
  unfold tr
  rw [trF_ch hi]
  exact h.d j hj
theorem eqPr (cst : Bool) (a b c d : Int) : q0 64 cst (fv a b) (fv c d) = @Bool.rec (fun _ => Option Bool) (some false) (@Bool.rec (fun _ => Option Bool) (some false) (some true) (b == d)) (a == c) := by kernel_rfl
theorem eqPr_b (cst : Bool) (a b c d : Nat) : q0 64 cst (fv (Int.ofNat a) (Int.ofNat b)) (fv (Int.ofNat c) (Int.ofNat d)) = some (decide ((c, d) = (a, b))) := by
 rw [eqPr]
 by_cases h1 : a = c
 ·subst h1
  rw [beq_self_eq_true]
  by_cases h2 : b = d
  ·subst h2
   rw [beq_self_eq_true, decide_eq_true rfl]
  ·rw [show (Int.ofNat b == Int.ofNat d) = false from beq_eq_false_iff_ne.2 fun z => h2 (Int.ofNat.inj z), decide_eq_false fun z => h2 (Prod.mk.inj z).2.symm]
 ·rw [show (Int.ofNat a == Int.ofNat c) = false from beq_eq_false_iff_ne.2 fun z => h1 (Int.ofNat.inj z), decide_eq_false fun z => h1 (Prod.mk.inj z).1.symm]
abbrev hpC (N : List Lk) (H : List Nat) (lo hi hand : Nat) (t : Nat × Nat) : Tr AObj :=
 .node (.cells (.node (nkA N) (.node (nl (zl H)) .nil .nil) .nil) 2 34) (.node (.cells (.node (nv lo) .nil .nil) 1 3) (.node (.cells (.node (nv hand) .nil .nil) 1 3) (.node .hole (.node .hole (.nil) (.nil)) (.nil)) (.node .hole (.nil) (.nil))) (.node .hole (.node .hole (.nil) (.nil)) (.node (.cells (.node (nv t.1) (.node (nv t.2) .nil .nil) .nil) 2 144) (.nil) (.nil)))) (.node (.cells (.node (nv hi) .nil .nil) 1 3) (.node (.cells (.node (nv t.1) (.node (nv t.2) .nil .nil) .nil) 2 36) (.node .hole (.node (.cells (.node (.func (.func 112) [] [.ptr 12 0, .ptr 3 0, .ptr 13 0, .ptr 0 0, .ptr 1 0, .ptr 2 0, .ptr 16 0]) .nil .nil) 1 153) (.nil) (.nil)) (.nil)) (.node (.cells (.node (nkA N) (.node (nl (zl H)) .nil .nil) (.node (pv (zp (rtL N (N.length + 1)))) .nil .nil)) 3 138) (.nil) (.nil))) (.node .hole (.node .hole (.nil) (.nil)) (.node .hole (.nil) (.nil))))
theorem hpC_end (N : List Lk) (H : List Nat) (lo hi hand : Nat) (t : Nat × Nat) : HEnd (hpC N H lo hi hand t) 17 := appT_end [(.cells (.node (nkA N) (.node (nl (zl H)) .nil .nil) .nil) 2 34), (.cells (.node (nv lo) .nil .nil) 1 3), (.cells (.node (nv hi) .nil .nil) 1 3), (.cells (.node (nv hand) .nil .nil) 1 3), (.cells (.node (nv t.1) (.node (nv t.2) .nil .nil) .nil) 2 36), .hole, .hole, .hole, .hole, .hole, .hole, .hole, (.cells (.node (nkA N) (.node (nl (zl H)) .nil .nil) (.node (pv (zp (rtL N (N.length + 1)))) .nil .nil)) 3 138), (.cells (.node (nv t.1) (.node (nv t.2) .nil .nil) .nil) 2 144), .hole, .hole, (.cells (.node (.func (.func 112) [] [.ptr 12 0, .ptr 3 0, .ptr 13 0, .ptr 0 0, .ptr 1 0, .ptr 2 0, .ptr 16 0]) .nil .nil) 1 153)] 0 .nil HEnd_nil
abbrev scA (now : List Lk) (H : List Nat) (fr k : Nat) : List AV := [.agg [nkA now, nl (zl H)], nv fr, nv k, .ptr 12 0, .ptr 3 0, .ptr 13 0, .ptr 0 0, .ptr 1 0, .ptr 2 0, .ptr 16 0]
theorem hpC_bd (N : List Lk) (H : List Nat) (lo hi hand : Nat) (t : Nat × Nat) : ObBd 17 (hpC N H lo hi hand t) 17 := by
 have lN := lks_no (cL N)
 have lM := ivs_no (zl H)
 have lR := flat_no (zp (rtL N (N.length + 1)))
 repeat' (first | exact trivial | exact Nat.zero_le _ | exact bdl_no lN | exact bdl_no lM | exact bdl_no lR | exact Nat.le_of_ble_eq_true rfl | apply And.intro | exact Nat.max_le.2 ⟨Nat.zero_le _, bdl_no lN⟩)
theorem search0_h {N now : List Lk} (h : okN N) (h2 : okN now) (h1 : 1 ≤ N.length) (hN : N.length ≤ 5) (hl : now.length = N.length) {H : List Nat} (hH : hdN N.length H) (lo hi : Nat) {hand : Nat} (hh : hand < H.length) {t : Nat × Nat} (t1 : t.1 ≤ 50000) (t2 : t.2 ≤ 50000) (fr : Nat) :
  HFun prog 112 (scA now H fr 0) (hv (hpC N H lo hi hand t)) 17 (srV (sr0 N H hand t now fr)) (hv (hpC N H lo hi hand t)) := by
 have lN := lks_no (cL N)
 have lN2 := lks_no (cL now)
 have lM := ivs_no (zl H)
 have lR := flat_no (zp (rtL N (N.length + 1)))
 have pw := with_pure h2 (by omega) (by omega) (zl H)
 have ps := suits_pure h h2 hN hl hH hh t1 t2
 have lR2 := flat_no (zp (rtL now (now.length + 1)))
 have hb := hpC_bd N H lo hi hand t
 unfold wiV at pw ps
 have ev : srV (sr0 N H hand t now fr) = .tup [.nils, .bool (decide (suP N now H hand t))] := by
  unfold sr0
  by_cases e : suP N now H hand t
  ·rw [if_pos e, decide_eq_true e]; rfl
  ·rw [if_neg e, decide_eq_false e]; rfl
 rw [ev]
 refine hfun_sym hE rfl (hpC_end N H lo hi hand t) (Nat.max_le.2 ⟨Nat.max_le.2 ⟨Nat.max_le.2 ⟨Nat.zero_le _, bdl_no lN2⟩, Nat.max_le.2 ⟨Nat.max_le.2 ⟨Nat.zero_le _, bdl_no lM⟩, Nat.zero_le _⟩⟩, Nat.le_of_ble_eq_true rfl⟩) (Nat.zero_le _) hb hb fun S q pc hS hq hC hE => ?_
 conv => whnf
 refine sym_pure hC (pw) ?_
 conv => whnf
 refine sym_pure hC (ps) ?_
 conv => whnf
 refine sym_drawn hS (by kernel_rfl) ?_
 conv => whnf
 exact ⟨_, rfl, WkV.refl _, rfl, rfl, rfl, rfl, rfl, rfl, rfl, rfl, rfl, rfl, rfl, rfl, rfl, rfl, rfl, rfl, rfl, trivial⟩
end
end Go.Abs.Seat
