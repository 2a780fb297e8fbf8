/-
  The best changes, as the program has them.
  The first packing, as the document finds it.
  The best packing, as the document finds it.
  The plain law of packings.
  The first packing, as the program finds it.
  The best packing, as the program finds it.
  The rates of all arbors, as the program tells them.
  The rates of all arbors, as the document tells them.
  Short pieces; lists that are equal to themselves; hands, fractions, numbers as the document tells them.
  The law ShopRates.
  A piece as it comes in is one as defined, or not.
  Changes: what is spoilt, as the program and the document tell it.
  Changes: what is as defined, a piece with a change, what is spoilt, as the document tells it.
  Which hands a change spoils, as the document tells it.
  The law ShopSpoils.
-/
import Derived.Test.YtikikanopganaaaGreatDoorB13
import Derived.Test.YtikikanopganaaaGreatDoorU12
import Derived.Test.YtikikanopganaaaGreatDoorU11
import Derived.Test.YtikikanopganaaaGreatDoorU10
import Derived.Test.YtikikanopganaaaGreatDoorU7
/-! The best changes, as the program has them. -/
namespace Go.Abs.Seat
noncomputable section
open Go Go.Abs Go.Proofs.Tryz
set_option maxRecDepth 100000
set_option maxHeartbeats 40000000
attribute [local irreducible] pEq

theorem fstO_some {α : Type} {f : Nat → Option α} {x : α} : ∀ {n k : Nat}, fstO f k n = some x → ∃ j, f j = some x
 | 0, _, h => by cases h
 |n + 1, k, h => by
  rw [fstO] at h
  cases e : f k with
  |some y => rw [e] at h; exact ⟨k, by rw [e]; exact h⟩
  |none => rw [e] at h; exact fstO_some h
theorem srS_len {g : List Lk → Nat → Option (List Lk)} {k : Nat} (hg : ∀ now fr l, g now fr = some l → l.length = k) {N : List Lk} {lo hi : Nat} : ∀ now fr l, srS g N lo hi now fr = some l → l.length = k + 1 := fun now fr l h => by
 obtain ⟨i, h⟩ := fstO_some h
 obtain ⟨a, h⟩ := fstO_some h
 obtain ⟨b, h⟩ := fstO_some h
 unfold stC at h
 split at h
 ·cases h
 ·cases e : g (chN now i a b) (i + 1) with
  |none => rw [e] at h; cases h
  |some m =>
   rw [e] at h
   cases h
   rw [List.length_cons, hg _ _ _ e]
theorem sr0_len {N : List Lk} {H : List Nat} {hand : Nat} {t : Nat × Nat} : ∀ now fr l, sr0 N H hand t now fr = some l → l.length = 0 := fun now fr l h => by
 unfold sr0 at h
 split at h
 ·cases h; rfl
 ·cases h
def chR (N : List Lk) (H : List Nat) (lo hi hand : Nat) (t : Nat × Nat) : Option (List Lk) :=
 orE (sr0 N H hand t N 0) (orE (srS (sr0 N H hand t) N lo hi N 0) (srS (srS (sr0 N H hand t) N lo hi) N lo hi N 0))
def chV : Option (List Lk) → AV
 |none => .tup [.nils, iv 5]
 |some [] => .tup [.nils, iv 0]
 |some (c :: r) => .tup [nkA (c :: r), iv 0]
theorem changes_pure {N : List Lk} (h : okN N) (h1 : 1 ≤ N.length) (hN : N.length ≤ 5) {H : List Nat} (hH : hdN N.length H) (pP : Pure prog 85 [.agg [nkA N, nl (zl H)]] (.bool true)) {lo hi n d hand : Nat} (hlo : 4 ≤ lo) (hle : lo ≤ hi) (hhi : hi ≤ 60) (hw : hi - lo ≤ 10) (hh : hand < H.length) (hn : n ≤ 50000) (hd : 1 ≤ d ∧ d ≤ 50000) :
  Pure prog 48 [.agg [nkA N, nl (zl H)], nv lo, nv hi, nv hand, fv (Int.ofNat n) (Int.ofNat d)] (chV (chR N H lo hi hand (n, d))) := by
 have lN := lks_no (cL N)
 have lM := ivs_no (zl H)
 have lR := flat_no (zp (rtL N (N.length + 1)))
 have hz := zl_len H
 have pr : Pure prog 101 [nv lo, nv hi] (.bool true) := by
  have := isRange_pure (Int.ofNat lo) (Int.ofNat hi)
  rwa [decide_eq_true (show (tth (Int.ofNat lo) ∧ tth (Int.ofNat hi)) ∧ Int.ofNat lo ≤ Int.ofNat hi from ⟨⟨tN_i ⟨hlo, by omega⟩, tN_i ⟨by omega, hhi⟩⟩, Int.ofNat_le.2 hle⟩)] at this
 have pf : Pure prog 102 [fv (Int.ofNat n) (Int.ofNat d)] (.bool true) := by
  have := sFraction_pure (Int.ofNat n) (Int.ofNat d)
  rwa [decide_eq_true (isF_N hn hd.1 hd.2)] at this
 have c3 : decide (IntKind.i64.wrap (Int.ofNat hi - Int.ofNat lo) > 10) = false := by
  rw [wrapI (by show _ ≤ (hi : Int) - (lo : Int); omega) (by show (hi : Int) - (lo : Int) < _; omega)]
  exact decide_eq_false (by show ¬ (10 : Int) < (hi : Int) - (lo : Int); omega)
 have pin : Pure prog 79 [nv hand, iv 0, iv (IntKind.i64.wrap (((zl H).length : Int) - 1))] (.bool true) := by
  have := sin_pure (Int.ofNat hand) 0 (IntKind.i64.wrap (((zl H).length : Int) - 1))
  rwa [decide_eq_true (by rw [wrapI (by omega) (by have := hH.l4; omega)]; exact ⟨Int.natCast_nonneg _, by show (hand : Int) ≤ _; omega⟩)] at this
 have pw := with_pure h h1 hN (zl H)
 unfold wiV at pw
 have s0 := search0_h h h h1 hN rfl hH lo hi hh (t := (n, d)) hn hd.2
 have q1 := search_s h h1 hN hlo hle hhi (k := 0) (by decide) sr0_len (fun now fr a b _ => search0_h h a h1 hN b hH lo hi hh (t := (n, d)) hn hd.2 fr)
 have q2 := search_s h h1 hN hlo hle hhi (k := 1) (by decide) (srS_len sr0_len) q1
 have q0 := s0 0
 have q1 := q1 N 0 h rfl (Nat.zero_le _)
 have q2 := q2 N 0 h rfl (Nat.zero_le _)
 have L1 := srS_len (N := N) (lo := lo) (hi := hi) (sr0_len (N := N) (H := H) (hand := hand) (t := (n, d))) N 0
 have L2 := srS_len (N := N) (lo := lo) (hi := hi) (srS_len (N := N) (lo := lo) (hi := hi) (sr0_len (N := N) (H := H) (hand := hand) (t := (n, d)))) N 0
 have L0 := sr0_len (N := N) (H := H) (hand := hand) (t := (n, d)) N 0
 unfold chR
 generalize sr0 N H hand (n, d) N 0 = r0 at q0 L0 ⊢
 generalize srS (sr0 N H hand (n, d)) N lo hi N 0 = r1 at q1 L1 ⊢
 generalize srS (srS (sr0 N H hand (n, d)) N lo hi) N lo hi N 0 = r2 at q2 L2 ⊢
 clear s0
 have d1 : decide (IntKind.i64.wrap (0 + 1) < 3) = true := by rw [up1]; rfl
 have d2 : decide (IntKind.i64.wrap (IntKind.i64.wrap (0 + 1) + 1) < 3) = true := by rw [up2]; rfl
 have d3 : decide (IntKind.i64.wrap (IntKind.i64.wrap (IntKind.i64.wrap (0 + 1) + 1) + 1) < 3) = false := by rw [up3]; rfl
 have q1 : HFun prog 112 [.agg [nkA N, nl (zl H)], iv 0, iv (IntKind.i64.wrap (0 + 1)), .ptr 12 0, .ptr 3 0, .ptr 13 0, .ptr 0 0, .ptr 1 0, .ptr 2 0, .ptr 16 0] (hv (hpC N H lo hi hand (n, d))) 17 (srV r1) (hv (hpC N H lo hi hand (n, d))) := by rw [up1]; exact q1
 have q2 : HFun prog 112 [.agg [nkA N, nl (zl H)], iv 0, iv (IntKind.i64.wrap (IntKind.i64.wrap (0 + 1) + 1)), .ptr 12 0, .ptr 3 0, .ptr 13 0, .ptr 0 0, .ptr 1 0, .ptr 2 0, .ptr 16 0] (hv (hpC N H lo hi hand (n, d))) 17 (srV r2) (hv (hpC N H lo hi hand (n, d))) := by rw [up2]; exact q2
 rcases r0 with _ | l0
 ·have q0 : HFun prog 112 [.agg [nkA N, nl (zl H)], iv 0, iv (0), .ptr 12 0, .ptr 3 0, .ptr 13 0, .ptr 0 0, .ptr 1 0, .ptr 2 0, .ptr 16 0] (hv (hpC N H lo hi hand (n, d))) 17 (.tup [.nils, .bool false]) (hv (hpC N H lo hi hand (n, d))) := q0
  rcases r1 with _ | l1
  ·have q1 : HFun prog 112 [.agg [nkA N, nl (zl H)], iv 0, iv (IntKind.i64.wrap (0 + 1)), .ptr 12 0, .ptr 3 0, .ptr 13 0, .ptr 0 0, .ptr 1 0, .ptr 2 0, .ptr 16 0] (hv (hpC N H lo hi hand (n, d))) 17 (.tup [.nils, .bool false]) (hv (hpC N H lo hi hand (n, d))) := q1
   rcases r2 with _ | l2
   ·have q2 : HFun prog 112 [.agg [nkA N, nl (zl H)], iv 0, iv (IntKind.i64.wrap (IntKind.i64.wrap (0 + 1) + 1)), .ptr 12 0, .ptr 3 0, .ptr 13 0, .ptr 0 0, .ptr 1 0, .ptr 2 0, .ptr 16 0] (hv (hpC N H lo hi hand (n, d))) 17 (.tup [.nils, .bool false]) (hv (hpC N H lo hi hand (n, d))) := q2
    show Pure prog 48 _ (.tup [.nils, iv 5])
    refine pure_sym hE rfl (by repeat' (first | exact trivial | assumption | exact flat_no _ | exact (fun _ h => nomatch h) | apply And.intro)) (by repeat' (first | exact trivial | assumption | exact flat_no _ | exact (fun _ h => nomatch h) | apply And.intro)) fun S q pc hS hq hC hE => ?_
    conv => whnf
    repeat ((first
     |refine ko_sT c3 ?_
     |refine ko_rF c3 ?_
     |refine plan_as (pick_f c3) ?_
     |refine bool_false c3 ?_
     |refine sym_pure hC (pP) ?_
     |refine sym_pure hC (pr) ?_
     |refine sym_pure hC (pf) ?_
     |refine sym_pure hC (pin) ?_
     |refine sym_pure hC (pw) ?_
     |refine sym_drawn hS (by kernel_rfl) ?_); conv => whnf)
    refine sym_unroll hE hS ?_
    conv => whnf
    refine sym_pureR hC (HFun.pureR q0 (ob17 ⟨rfl, rfl, rfl, rfl, rfl, rfl, rfl, rfl, rfl, rfl, rfl, rfl, rfl, rfl, rfl, rfl, rfl, trivial⟩)) ?_
    conv => whnf
    refine sym_unroll hE hS ?_
    conv => whnf
    refine sym_pureR hC (HFun.pureR q1 (ob17 ⟨rfl, rfl, rfl, rfl, rfl, rfl, rfl, rfl, rfl, rfl, rfl, rfl, rfl, rfl, rfl, rfl, rfl, trivial⟩)) ?_
    conv => whnf
    refine sym_unroll hE hS ?_
    conv => whnf
    refine sym_pureR hC (HFun.pureR q2 (ob17 ⟨rfl, rfl, rfl, rfl, rfl, rfl, rfl, rfl, rfl, rfl, rfl, rfl, rfl, rfl, rfl, rfl, rfl, trivial⟩)) ?_
    conv => whnf
    refine sym_unroll hE hS ?_
    conv => whnf
    exact ⟨_, rfl, Wk.refl _⟩
   ·have e2 := L2 l2 rfl
    obtain ⟨c, c2, rfl⟩ : ∃ c c2, l2 = [c, c2] := by
     match l2, e2 with
     | [c, c2], _ => exact ⟨c, c2, rfl⟩
    have q2 : HFun prog 112 [.agg [nkA N, nl (zl H)], iv 0, iv (IntKind.i64.wrap (IntKind.i64.wrap (0 + 1) + 1)), .ptr 12 0, .ptr 3 0, .ptr 13 0, .ptr 0 0, .ptr 1 0, .ptr 2 0, .ptr 16 0] (hv (hpC N H lo hi hand (n, d))) 17 (.tup [.lst [nv c.1, nv c.2.1, nv c.2.2, nv c2.1, nv c2.2.1, nv c2.2.2] 2 .no, .bool true]) (hv (hpC N H lo hi hand (n, d))) := q2
    show Pure prog 48 _ (.tup [.lst [nv c.1, nv c.2.1, nv c.2.2, nv c2.1, nv c2.2.1, nv c2.2.2] 2 .no, iv 0])
    refine pure_sym hE rfl (by repeat' (first | exact trivial | assumption | exact flat_no _ | exact (fun _ h => nomatch h) | apply And.intro)) (by repeat' (first | exact trivial | assumption | exact flat_no _ | exact (fun _ h => nomatch h) | apply And.intro)) fun S q pc hS hq hC hE => ?_
    conv => whnf
    repeat ((first
     |refine ko_sT c3 ?_
     |refine ko_rF c3 ?_
     |refine plan_as (pick_f c3) ?_
     |refine bool_false c3 ?_
     |refine sym_pure hC (pP) ?_
     |refine sym_pure hC (pr) ?_
     |refine sym_pure hC (pf) ?_
     |refine sym_pure hC (pin) ?_
     |refine sym_pure hC (pw) ?_
     |refine sym_drawn hS (by kernel_rfl) ?_); conv => whnf)
    refine sym_unroll hE hS ?_
    conv => whnf
    refine sym_pureR hC (HFun.pureR q0 (ob17 ⟨rfl, rfl, rfl, rfl, rfl, rfl, rfl, rfl, rfl, rfl, rfl, rfl, rfl, rfl, rfl, rfl, rfl, trivial⟩)) ?_
    conv => whnf
    refine sym_unroll hE hS ?_
    conv => whnf
    refine sym_pureR hC (HFun.pureR q1 (ob17 ⟨rfl, rfl, rfl, rfl, rfl, rfl, rfl, rfl, rfl, rfl, rfl, rfl, rfl, rfl, rfl, rfl, rfl, trivial⟩)) ?_
    conv => whnf
    refine sym_unroll hE hS ?_
    conv => whnf
    refine sym_pureR hC (HFun.pureR q2 (ob17 ⟨rfl, rfl, rfl, rfl, rfl, rfl, rfl, rfl, rfl, rfl, rfl, rfl, rfl, rfl, rfl, rfl, rfl, trivial⟩)) ?_
    conv => whnf
    exact ⟨_, rfl, Wk.refl _⟩
  ·have e1 := L1 l1 rfl
   obtain ⟨c, rfl⟩ : ∃ c, l1 = [c] := by
    match l1, e1 with
    | [c], _ => exact ⟨c, rfl⟩
   have q1 : HFun prog 112 [.agg [nkA N, nl (zl H)], iv 0, iv (IntKind.i64.wrap (0 + 1)), .ptr 12 0, .ptr 3 0, .ptr 13 0, .ptr 0 0, .ptr 1 0, .ptr 2 0, .ptr 16 0] (hv (hpC N H lo hi hand (n, d))) 17 (.tup [.lst [nv c.1, nv c.2.1, nv c.2.2] 1 .no, .bool true]) (hv (hpC N H lo hi hand (n, d))) := q1
   show Pure prog 48 _ (.tup [.lst [nv c.1, nv c.2.1, nv c.2.2] 1 .no, iv 0])
   refine pure_sym hE rfl (by repeat' (first | exact trivial | assumption | exact flat_no _ | exact (fun _ h => nomatch h) | apply And.intro)) (by repeat' (first | exact trivial | assumption | exact flat_no _ | exact (fun _ h => nomatch h) | apply And.intro)) fun S q pc hS hq hC hE => ?_
   conv => whnf
   repeat ((first
    |refine ko_sT c3 ?_
    |refine ko_rF c3 ?_
    |refine plan_as (pick_f c3) ?_
    |refine bool_false c3 ?_
    |refine sym_pure hC (pP) ?_
    |refine sym_pure hC (pr) ?_
    |refine sym_pure hC (pf) ?_
    |refine sym_pure hC (pin) ?_
    |refine sym_pure hC (pw) ?_
    |refine sym_drawn hS (by kernel_rfl) ?_); conv => whnf)
   refine sym_unroll hE hS ?_
   conv => whnf
   refine sym_pureR hC (HFun.pureR q0 (ob17 ⟨rfl, rfl, rfl, rfl, rfl, rfl, rfl, rfl, rfl, rfl, rfl, rfl, rfl, rfl, rfl, rfl, rfl, trivial⟩)) ?_
   conv => whnf
   refine sym_unroll hE hS ?_
   conv => whnf
   refine sym_pureR hC (HFun.pureR q1 (ob17 ⟨rfl, rfl, rfl, rfl, rfl, rfl, rfl, rfl, rfl, rfl, rfl, rfl, rfl, rfl, rfl, rfl, rfl, trivial⟩)) ?_
   conv => whnf
   exact ⟨_, rfl, Wk.refl _⟩
 ·obtain rfl : l0 = [] := List.eq_nil_of_length_eq_zero (L0 l0 rfl)
  have q0 : HFun prog 112 [.agg [nkA N, nl (zl H)], iv 0, iv (0), .ptr 12 0, .ptr 3 0, .ptr 13 0, .ptr 0 0, .ptr 1 0, .ptr 2 0, .ptr 16 0] (hv (hpC N H lo hi hand (n, d))) 17 (.tup [.nils, .bool true]) (hv (hpC N H lo hi hand (n, d))) := q0
  show Pure prog 48 _ (.tup [.nils, iv 0])
  refine pure_sym hE rfl (by repeat' (first | exact trivial | assumption | exact flat_no _ | exact (fun _ h => nomatch h) | apply And.intro)) (by repeat' (first | exact trivial | assumption | exact flat_no _ | exact (fun _ h => nomatch h) | apply And.intro)) fun S q pc hS hq hC hE => ?_
  conv => whnf
  repeat ((first
   |refine ko_sT c3 ?_
   |refine ko_rF c3 ?_
   |refine plan_as (pick_f c3) ?_
   |refine bool_false c3 ?_
   |refine sym_pure hC (pP) ?_
   |refine sym_pure hC (pr) ?_
   |refine sym_pure hC (pf) ?_
   |refine sym_pure hC (pin) ?_
   |refine sym_pure hC (pw) ?_
   |refine sym_drawn hS (by kernel_rfl) ?_); conv => whnf)
  refine sym_unroll hE hS ?_
  conv => whnf
  refine sym_pureR hC (HFun.pureR q0 (ob17 ⟨rfl, rfl, rfl, rfl, rfl, rfl, rfl, rfl, rfl, rfl, rfl, rfl, rfl, rfl, rfl, rfl, rfl, trivial⟩)) ?_
  conv => whnf
  exact ⟨_, rfl, Wk.refl _⟩
end
end Go.Abs.Seat

/-! The first packing, as the document finds it. -/
namespace Go.Abs.Seat
noncomputable section
open Go Go.Abs Go.Proofs.Tryz
set_option maxRecDepth 100000
set_option maxHeartbeats 40000000
attribute [local irreducible] IntKind.wrap pEq pSlice

def srP (long saw : Nat) (T : List Nat) (most : Nat) : Nat → List Nat → Option (List Nat)
 | 0, now => if pkP long saw T now then some now else none
 |f + 1, now => if pkP long saw T now then fstO (fun s => srP long saw T most f (now ++ [s])) 0 (min most (mnA 0 now + 1)) else none
def nwV (v : AV) (now : List Nat) : Prop := v = .nils ∧ now = [] ∨ v = nl (zl now) ∧ now ≠ []
theorem wkl_app : ∀ (l r : List AV), wkl (l ++ r) = wkl l ++ wkl r
 | [], _ => rfl
 |x :: l, r => by rw [List.cons_append, wkl, wkl_app l r]; rfl
theorem pk_nil (long saw : Nat) (T : List Nat) : pkP long saw T [] := ⟨fun _ hi => absurd hi (Nat.not_lt_zero _), fun _ hs => absurd hs (Nat.not_lt_zero _)⟩
end
end Go.Abs.Seat

/-! The best packing, as the document finds it. -/
namespace Go.Abs.Seat
noncomputable section
open Go Go.Abs Go.Proofs.Tryz
set_option maxRecDepth 100000
set_option maxHeartbeats 40000000
attribute [local irreducible] IntKind.wrap pEq pSlice

def bestP (long saw : Nat) (T : List Nat) : Option (List Nat) := fstO (fun m => srP long saw T m T.length []) 1 T.length
end
end Go.Abs.Seat

/-! The plain law of packings. -/
namespace Go.Abs.Seat
noncomputable section
open Go Go.Abs Go.Proofs.Tryz
set_option maxRecDepth 100000

def stE (saw : Nat) (E : List (Nat × Nat)) (s : Nat) : Int := if 0 < getE E s then Int.ofNat (getE E s) else -Int.ofNat saw
theorem ldI_ge (saw s : Nat) : ∀ (l : List (Nat × Nat)) (a : Int), a ≤ ldI saw s l a
 | [], _ => Int.le_refl _
 |x :: r, a => by
  rw [ldI]
  refine Int.le_trans ?_ (ldI_ge saw s r _)
  by_cases h : x.1 = s
  ·rw [if_pos h]; simp only [Int.ofNat_eq_natCast]; omega
  ·rw [if_neg h]; exact Int.le_refl _
theorem fit_iff (long saw : Nat) : ∀ (l : List (Nat × Nat)) (E : List (Nat × Nat)), (∀ x, x ∈ l → 1 ≤ x.2) → (∀ s, stE saw E s ≤ Int.ofNat long) → (fitB long saw l E = true ↔ ∀ s, ldI saw s l (stE saw E s) ≤ Int.ofNat long)
 | [], E, _, hE => ⟨fun _ => hE, fun _ => rfl⟩
 |x :: r, E, ht, hE => by
  have h1 := ht x (List.mem_cons_self ..)
  have hv : Int.ofNat ((if 0 < getE E x.1 then getE E x.1 + saw else getE E x.1) + 2 * x.2) = stE saw E x.1 + Int.ofNat saw + Int.ofNat (2 * x.2) := by
   unfold stE
   by_cases h : 0 < getE E x.1
   ·rw [if_pos h, if_pos h]; simp only [Int.ofNat_eq_natCast]; omega
   ·rw [if_neg h, if_neg h, show getE E x.1 = 0 by omega]; simp only [Int.ofNat_eq_natCast]; omega
  have hp : 0 < (if 0 < getE E x.1 then getE E x.1 + saw else getE E x.1) + 2 * x.2 := by omega
  rw [fitB]
  generalize (if 0 < getE E x.1 then getE E x.1 + saw else getE E x.1) + 2 * x.2 = v at *
  have hst : ∀ s, stE saw (putE E x.1 v) s = if x.1 = s then Int.ofNat v else stE saw E s := fun s => by
   by_cases e : s = x.1
   ·subst e
    rw [if_pos rfl]; unfold stE
    rw [get_put, if_pos hp]
   ·rw [if_neg fun z => e z.symm]; unfold stE
    rw [get_put2 _ _ _ e]
  by_cases hl : long < v
  ·rw [if_pos hl]
   refine ⟨fun z => absurd z (by decide), fun z => ?_⟩
   have := z x.1
   rw [ldI, if_pos rfl, ← hv] at this
   have h2 := ldI_ge saw x.1 r (Int.ofNat v)
   simp only [Int.ofNat_eq_natCast] at *
   omega
  ·rw [if_neg hl]
   have hE2 : ∀ s, stE saw (putE E x.1 v) s ≤ Int.ofNat long := fun s => by
    rw [hst]
    split
    ·exact Int.ofNat_le.2 (by omega)
    ·exact hE s
   rw [fit_iff long saw r _ (fun y hy => ht y (List.mem_cons_of_mem _ hy)) hE2]
   have hq : ∀ s, ldI saw s r (stE saw (putE E x.1 v) s) = ldI saw s (x :: r) (stE saw E s) := fun s => by
    rw [ldI, hst]
    by_cases e : x.1 = s
    ·rw [if_pos e, if_pos e, hv, e]
    ·rw [if_neg e, if_neg e]
   exact ⟨fun z s => by rw [← hq]; exact z s, fun z s => by rw [hq]; exact z s⟩
def odP (l : List Nat) (m : Nat) : Prop := ∀ i, i < l.length → gn l i ≤ mnA m (l.take i)
theorem odP_cons (x : Nat) (r : List Nat) (m : Nat) : odP (x :: r) m ↔ x ≤ m ∧ odP r (max m (x + 1)) := by
 constructor
 ·intro h
  refine ⟨h 0 (Nat.succ_pos _), fun i hi => ?_⟩
  exact h (i + 1) (Nat.succ_lt_succ hi)
 ·rintro ⟨h1, h2⟩ i hi
  cases i with
  |zero => exact h1
  |succ i => exact h2 i (Nat.lt_of_succ_lt_succ hi)
theorem ordB_iff : ∀ (l : List Nat) (m : Nat), ordB l m = true ↔ odP l m
 | [], m => ⟨fun _ i hi => absurd hi (Nat.not_lt_zero _), fun _ => rfl⟩
 |x :: r, m => by
  rw [odP_cons, ordB]
  by_cases h : m < x
  ·rw [if_pos h]; exact ⟨fun z => absurd z (by decide), fun z => by omega⟩
  ·rw [if_neg h]
   by_cases e : x = m
   ·rw [if_pos e, ordB_iff r, show max m (x + 1) = m + 1 by omega]; exact ⟨fun z => ⟨by omega, z⟩, fun z => z.2⟩
   ·rw [if_neg e, ordB_iff r, show max m (x + 1) = m by omega]; exact ⟨fun z => ⟨by omega, z⟩, fun z => z.2⟩
theorem mnA_app : ∀ (a b : List Nat) (m : Nat), mnA m (a ++ b) = mnA (mnA m a) b
 | [], _, _ => rfl
 |x :: a, b, m => by rw [List.cons_append, mnA, mnA, mnA_app a b]
theorem mnA_ge : ∀ (l : List Nat) (m : Nat), m ≤ mnA m l
 | [], _ => Nat.le_refl _
 |x :: r, m => by rw [mnA]; exact Nat.le_trans (Nat.le_max_left _ _) (mnA_ge r _)
theorem mnA_mem : ∀ (l : List Nat) (m : Nat) (x : Nat), x ∈ l → x < mnA m l
 |y :: r, m, x, h => by
  rw [mnA]
  rcases List.mem_cons.1 h with e | h
  ·have := mnA_ge r (max m (y + 1)); omega
  ·exact mnA_mem r _ x h
theorem odP_len : ∀ (l : List Nat) (m : Nat), odP l m → mnA m l ≤ m + l.length
 | [], m, _ => Nat.le_refl _
 |x :: r, m, h => by
  rw [odP_cons] at h
  have := odP_len r _ h.2
  rw [mnA, List.length_cons]; omega
theorem gnp1 (a b : List Nat) {i : Nat} (h : i < a.length) : gn (a ++ b) i = gn a i := by
 simp [gn, List.getD, List.getElem?_append, h]
theorem gnp2 (a : List Nat) (x : Nat) (b : List Nat) : gn (a ++ x :: b) a.length = x := by simp [gn, List.getD]
theorem odP_pre {a b : List Nat} {m : Nat} (h : odP (a ++ b) m) : odP a m := fun i hi => by
 have := h i (by rw [List.length_append]; omega)
 rwa [gnp1 a b hi, List.take_append_of_le_length (by omega)] at this
theorem odP_next {a b : List Nat} {x : Nat} {m : Nat} (h : odP (a ++ x :: b) m) : x ≤ mnA m a := by
 have := h a.length (by rw [List.length_append, List.length_cons]; omega)
 rwa [gnp2, List.take_append_of_le_length (Nat.le_refl _), List.take_length] at this
theorem odP_snoc {a : List Nat} {x m : Nat} (h : odP a m) (hx : x ≤ mnA m a) : odP (a ++ [x]) m := fun i hi => by
 rw [List.length_append] at hi
 by_cases e : i < a.length
 ·rw [gnp1 a _ e, List.take_append_of_le_length (by omega)]; exact h i e
 ·obtain rfl : i = a.length := by simp only [List.length_cons, List.length_nil] at hi; omega
  rw [gnp2, List.take_append_of_le_length (Nat.le_refl _), List.take_length]; exact hx
theorem zip_t {T : List Nat} (sh : List Nat) {p : Nat → Prop} (ht : ∀ x, x ∈ T → p x) : ∀ x, x ∈ sh.zip T → p x.2 := fun x hx => ht _ (List.of_mem_zip (a := x.1) (b := x.2) hx).2
theorem ldI_no (saw s : Nat) : ∀ (l : List (Nat × Nat)) (a : Int), (∀ x, x ∈ l → x.1 ≠ s) → ldI saw s l a = a
 | [], _, _ => rfl
 |x :: r, a, h => by rw [ldI, if_neg (h x (List.mem_cons_self ..)), ldI_no saw s r a fun y hy => h y (List.mem_cons_of_mem _ hy)]
theorem pkP_iff {long saw : Nat} {T sh : List Nat} (ht : ∀ x, x ∈ T → 1 ≤ x) : pkP long saw T sh ↔ odP sh 0 ∧ fitB long saw (sh.zip T) [] = true := by
 have h0 : ∀ s, stE saw [] s = -Int.ofNat saw := fun s => rfl
 have h1 : ∀ s, stE saw [] s ≤ Int.ofNat long := fun s => by rw [h0]; simp only [Int.ofNat_eq_natCast]; omega
 rw [fit_iff long saw _ [] (zip_t sh ht) h1]
 constructor
 ·rintro ⟨a, b⟩
  refine ⟨a, fun s => ?_⟩
  rw [h0]
  by_cases h : s < mnA 0 sh
  ·exact b s h
  ·rw [ldI_no]
   ·rw [← h0 s]; exact h1 s
   ·intro x hx e
    have := mnA_mem sh 0 x.1 (List.of_mem_zip (a := x.1) (b := x.2) hx).1
    omega
 ·rintro ⟨a, b⟩
  exact ⟨a, fun s _ => by have := b s; rwa [h0] at this⟩
theorem fitB_app (long saw : Nat) : ∀ (a b E : List (Nat × Nat)), fitB long saw (a ++ b) E = true → fitB long saw a E = true
 | [], _, _, _ => rfl
 |x :: a, b, E, h => by
  rw [List.cons_append, fitB] at h
  rw [fitB]
  generalize (if 0 < getE E x.1 then getE E x.1 + saw else getE E x.1) + 2 * x.2 = v at *
  by_cases hl : long < v
  ·rw [if_pos hl] at h; cases h
  ·rw [if_neg hl] at h ⊢; exact fitB_app long saw a b _ h
theorem zip_pre : ∀ (a b T : List Nat), ∃ r, (a ++ b).zip T = a.zip T ++ r
 | [], b, T => ⟨b.zip T, by simp⟩
 |x :: a, b, [] => ⟨[], by simp⟩
 |x :: a, b, t :: T => by
  obtain ⟨r, h⟩ := zip_pre a b T
  exact ⟨r, by rw [List.cons_append, List.zip_cons_cons, h]; rfl⟩
theorem pkP_pre {long saw : Nat} {T a b : List Nat} (ht : ∀ x, x ∈ T → 1 ≤ x) (h : pkP long saw T (a ++ b)) : pkP long saw T a := by
 rw [pkP_iff ht] at h ⊢
 obtain ⟨r, hr⟩ := zip_pre a b T
 rw [hr] at h
 exact ⟨odP_pre h.1, fitB_app long saw _ _ _ h.2⟩
theorem fitB_all (long saw : Nat) : ∀ (l E : List (Nat × Nat)), fitB long saw l E = true → ∀ x, x ∈ l → 2 * x.2 ≤ long
 |x :: l, E, h, y, hy => by
  rw [fitB] at h
  rcases List.mem_cons.1 hy with e | hy
  ·subst e
   by_cases hl : long < (if 0 < getE E y.1 then getE E y.1 + saw else getE E y.1) + 2 * y.2
   ·rw [if_pos hl] at h; cases h
   ·omega
  ·by_cases hl : long < (if 0 < getE E x.1 then getE E x.1 + saw else getE E x.1) + 2 * x.2
   ·rw [if_pos hl] at h; cases h
   ·rw [if_neg hl] at h; exact fitB_all long saw l _ h y hy
def idL : Nat → List Nat → List Nat
 | _, [] => []
 |k, _ :: r => k :: idL (k + 1) r
theorem idL_len : ∀ (T : List Nat) (k : Nat), (idL k T).length = T.length
 | [], _ => rfl
 | _ :: r, k => by rw [idL, List.length_cons, List.length_cons, idL_len r]
theorem idL_ord : ∀ (T : List Nat) (k : Nat), odP (idL k T) k
 | [], _ => fun i hi => absurd hi (Nat.not_lt_zero _)
 | _ :: r, k => by
  rw [idL, odP_cons]
  exact ⟨Nat.le_refl _, by rw [show max k (k + 1) = k + 1 by omega]; exact idL_ord r (k + 1)⟩
theorem idL_fit (long saw : Nat) : ∀ (T : List Nat) (k : Nat) (E : List (Nat × Nat)), (∀ x, x ∈ T → 2 * x ≤ long) → (∀ j, k ≤ j → getE E j = 0) → fitB long saw ((idL k T).zip T) E = true
 | [], _, _, _, _ => rfl
 |t :: r, k, E, h, hE => by
  have h1 := h t (List.mem_cons_self ..)
  rw [idL, List.zip_cons_cons, fitB]
  simp only [hE k (Nat.le_refl _), Nat.lt_irrefl, if_false, Nat.zero_add]
  rw [if_neg (by omega)]
  exact idL_fit long saw r (k + 1) _ (fun x hx => h x (List.mem_cons_of_mem _ hx)) fun j hj => by rw [get_put2 _ _ _ (by omega)]; exact hE j (by omega)
def bfr : List Nat → List Nat → Bool
 |a :: r, b :: q => if a = b then bfr r q else decide (a < b)
 | _, _ => false
theorem bfr_app : ∀ (n a b : List Nat), bfr (n ++ a) (n ++ b) = bfr a b
 | [], _, _ => rfl
 |x :: n, a, b => by rw [List.cons_append, List.cons_append, bfr, if_pos rfl, bfr_app n]
theorem fstO_none {α : Type} {f : Nat → Option α} : ∀ {n k : Nat}, fstO f k n = none → ∀ i, k ≤ i → i < k + n → f i = none
 | 0, k, _, i, h1, h2 => by omega
 |n + 1, k, h, i, h1, h2 => by
  rw [fstO] at h
  cases e : f k with
  |some y => rw [e] at h; cases h
  |none =>
   rw [e] at h
   by_cases q : i = k
   ·subst q; exact e
   ·exact fstO_none (n := n) (k := k + 1) h i (by omega) (by omega)
theorem fstO_fst {α : Type} {f : Nat → Option α} {x : α} : ∀ {n k : Nat}, fstO f k n = some x → ∃ j, k ≤ j ∧ j < k + n ∧ f j = some x ∧ ∀ i, k ≤ i → i < j → f i = none
 | 0, _, h => by cases h
 |n + 1, k, h => by
  rw [fstO] at h
  cases e : f k with
  |some y => rw [e] at h; exact ⟨k, Nat.le_refl _, by omega, by rw [e]; exact h, fun i a b => by omega⟩
  |none =>
   rw [e] at h
   obtain ⟨j, a, b, c, d⟩ := fstO_fst (n := n) (k := k + 1) h
   refine ⟨j, by omega, by omega, c, fun i h1 h2 => ?_⟩
   by_cases q : i = k
   ·subst q; exact e
   ·exact d i (by omega) h2
def cP (long saw : Nat) (T : List Nat) (most : Nat) (l : List Nat) : Prop := l.length = T.length ∧ pkP long saw T l ∧ mnA 0 l ≤ most
def isFst (C : List Nat → Prop) (now : List Nat) (o : Option (List Nat)) : Prop := (∀ l, o = some l → C l ∧ (∃ r, l = now ++ r) ∧ ∀ r, C (now ++ r) → bfr (now ++ r) l = false) ∧ (o = none → ∀ r, ¬ C (now ++ r))
theorem srP_spec {long saw : Nat} {T : List Nat} (ht : ∀ x, x ∈ T → 1 ≤ x) {most : Nat} : ∀ (f : Nat) (now : List Nat), now.length + f = T.length → mnA 0 now ≤ most → isFst (cP long saw T most) now (srP long saw T most f now)
 | 0, now, hf, hm => by
  have hnil : ∀ r, cP long saw T most (now ++ r) → r = [] := fun r h => by
   have := h.1
   rw [List.length_append] at this
   exact List.eq_nil_of_length_eq_zero (by omega)
  rw [srP]
  by_cases hp : pkP long saw T now
  ·rw [if_pos hp]
   refine ⟨fun l h => ?_, fun h => by cases h⟩
   cases h
   refine ⟨⟨by omega, hp, hm⟩, ⟨[], by simp⟩, fun r h => ?_⟩
   rw [hnil r h]
   have := bfr_app now [] []
   rw [List.append_nil] at this ⊢
   rw [this]; rfl
  ·rw [if_neg hp]
   exact ⟨(fun l h => by cases h), fun _ r h => hp (pkP_pre ht h.2.1)⟩
 |f + 1, now, hf, hm => by
  rw [srP]
  have hcons : ∀ r, cP long saw T most (now ++ r) → ∃ s q, r = s :: q ∧ s < min most (mnA 0 now + 1) ∧ now ++ r = (now ++ [s]) ++ q := fun r h => by
   cases r with
   |nil =>
    have := h.1
    rw [List.length_append, List.length_nil] at this; omega
   |cons s q =>
    have h1 := odP_next ((pkP_iff ht).1 h.2.1).1
    have h2 := mnA_mem (now ++ s :: q) 0 s (by simp)
    have h3 := h.2.2
    exact ⟨s, q, rfl, by omega, by simp⟩
  by_cases hp : pkP long saw T now
  ·rw [if_pos hp]
   have ih : ∀ s, s < min most (mnA 0 now + 1) → isFst (cP long saw T most) (now ++ [s]) (srP long saw T most f (now ++ [s])) := fun s hs => srP_spec (long := long) (saw := saw) (T := T) ht (most := most) f (now ++ [s]) (by rw [List.length_append]; simp only [List.length_cons, List.length_nil]; omega) (by rw [mnA_app]; show max (mnA 0 now) (s + 1) ≤ most; omega)
   refine ⟨fun l h => ?_, fun h r hc => ?_⟩
   ·obtain ⟨j, _, hj, hl, hn⟩ := fstO_fst h
    have hj : j < min most (mnA 0 now + 1) := by omega
    obtain ⟨h1, ⟨q, h2⟩, h3⟩ := (ih j hj).1 l hl
    refine ⟨h1, ⟨j :: q, by rw [h2]; simp⟩, fun r hc => ?_⟩
    obtain ⟨s, u, rfl, hs, e⟩ := hcons r hc
    rw [e] at hc ⊢
    by_cases q1 : s = j
    ·subst q1; exact h3 u hc
    ·by_cases q2 : s < j
     ·exact absurd hc ((ih s hs).2 (hn s (Nat.zero_le _) q2) u)
     ·have e2 : bfr ((now ++ [s]) ++ u) l = bfr (s :: u) (j :: q) := by
       rw [h2, List.append_assoc, List.append_assoc]; exact bfr_app now _ _
      rw [e2, bfr, if_neg q1]; exact decide_eq_false q2
   ·obtain ⟨s, u, rfl, hs, e⟩ := hcons r hc
    rw [e] at hc
    exact (ih s hs).2 (fstO_none h s (Nat.zero_le _) (by omega)) u hc
  ·rw [if_neg hp]
   exact ⟨(fun l h => by cases h), fun _ r h => hp (pkP_pre ht h.2.1)⟩
theorem best_some {long saw : Nat} {T l : List Nat} (ht : ∀ x, x ∈ T → 1 ≤ x) (h1 : 1 ≤ T.length) (h : bestP long saw T = some l) : ∃ m, 1 ≤ m ∧ m ≤ T.length ∧ srP long saw T m T.length [] = some l ∧ (∀ i, 1 ≤ i → i < m → srP long saw T i T.length [] = none) ∧ mnA 0 l = m ∧ l.length = T.length ∧ pkP long saw T l ∧ ∀ o, o.length = T.length → pkP long saw T o → m < mnA 0 o ∨ m = mnA 0 o ∧ bfr o l = false := by
 obtain ⟨m, hm1, hm2, hl, hn⟩ := fstO_fst h
 have sp : ∀ i, isFst (cP long saw T i) [] (srP long saw T i T.length []) := fun i => srP_spec (long := long) (saw := saw) ht (most := i) T.length [] (by simp) (Nat.zero_le _)
 obtain ⟨⟨c1, c2, c3⟩, _, hb⟩ := (sp m).1 l hl
 have pos : ∀ o : List Nat, o.length = T.length → 1 ≤ mnA 0 o := fun o ho => by
  cases o with
  |nil => simp only [List.length_nil] at ho; omega
  |cons x r => have := mnA_mem (x :: r) 0 x (List.mem_cons_self ..); omega
 have least : ∀ o, o.length = T.length → pkP long saw T o → m ≤ mnA 0 o := fun o ho hp => by
  refine Nat.le_of_not_lt fun z => ?_
  exact (sp (mnA 0 o)).2 (hn _ (pos o ho) z) o ⟨ho, hp, Nat.le_refl _⟩
 refine ⟨m, hm1, by omega, hl, hn, Nat.le_antisymm c3 (least l c1 c2), c1, c2, fun o ho hp => ?_⟩
 by_cases e : m = mnA 0 o
 ·exact .inr ⟨e, hb o ⟨ho, hp, by rw [List.nil_append]; omega⟩⟩
 ·have := least o ho hp; exact .inl (by omega)
theorem best_none {long saw : Nat} {T : List Nat} (ht : ∀ x, x ∈ T → 1 ≤ x) (h1 : 1 ≤ T.length) (h : bestP long saw T = none) : ∀ o, o.length = T.length → ¬ pkP long saw T o := fun o ho hp => by
 have hx := odP_len o 0 ((pkP_iff ht).1 hp).1
 have pos : 1 ≤ mnA 0 o := by
  cases o with
  |nil => simp only [List.length_nil] at ho; omega
  |cons x r => have := mnA_mem (x :: r) 0 x (List.mem_cons_self ..); omega
 exact (srP_spec (long := long) (saw := saw) ht (most := mnA 0 o) T.length [] (by simp) (Nat.zero_le _)).2 (fstO_none h _ pos (by omega)) o ⟨ho, hp, Nat.le_refl _⟩
theorem best_iff {long saw : Nat} {T : List Nat} (ht : ∀ x, x ∈ T → 1 ≤ x) (h1 : 1 ≤ T.length) : bestP long saw T = none ↔ ∃ x, x ∈ T ∧ long < 2 * x := by
 constructor
 ·intro h
  refine Classical.byContradiction fun k => ?_
  exact best_none ht h1 h (idL 0 T) (idL_len T 0) ((pkP_iff ht).2 ⟨idL_ord T 0, idL_fit long saw T 0 [] (fun x hx => Nat.le_of_not_lt fun z => k ⟨x, hx, z⟩) fun _ _ => rfl⟩)
 ·rintro ⟨x, hx, hl⟩
  cases e : bestP long saw T with
  |none => rfl
  |some l =>
   obtain ⟨_, _, _, _, _, _, hlen, hp, _⟩ := best_some ht h1 e
   have hf := ((pkP_iff ht).1 hp).2
   obtain ⟨i, hi, hgi⟩ := List.getElem_of_mem hx
   have hm : (l[i], T[i]) ∈ l.zip T := by
    rw [← List.getElem_zip (h := by rw [List.length_zip]; omega)]; exact List.getElem_mem _
   have := fitB_all long saw _ _ hf _ hm
   simp only [hgi] at this
   omega
end
end Go.Abs.Seat

/-! The first packing, as the program finds it. -/
namespace Go.Abs.Seat
noncomputable section
open Go Go.Abs Go.Proofs.Tryz
set_option maxRecDepth 100000
set_option maxHeartbeats 40000000
attribute [local irreducible] IntKind.wrap pEq pSlice

theorem pureR_ofWk {P : Program} {f : FuncId} {args : List AV} {R : List Nat} {o : Nat → AObj} {v : AV} (h : PureR P f (wkl args) R o v) : PureR P f args R o v := fun B H hH g vs cs w hr hv hl => h B H hH g vs cs w hr (wkl_vals g w args _ hv) (wkl_live args hl)
abbrev hpS (long saw : Nat) (T : List Nat) : Tr AObj := .node (.cells (.node (nv long) .nil .nil) 1 3) (.node (.cells (.node (nv saw) .nil .nil) 1 3) (.node .hole (.node .hole .nil .nil) .nil) (.node .hole .nil .nil)) (.node (.cells (.node (nl (zl T)) .nil .nil) 1 22) (.node .hole (.node (.cells (.node (.func (.func 123) [] [.ptr 0 0, .ptr 1 0, .ptr 2 0, .ptr 8 0]) .nil .nil) 1 160) .nil .nil) .nil) (.node .hole .nil .nil))
theorem hpS_end (long saw : Nat) (T : List Nat) : HEnd (hpS long saw T) 9 := appT_end [(.cells (.node (nv long) .nil .nil) 1 3), (.cells (.node (nv saw) .nil .nil) 1 3), (.cells (.node (nl (zl T)) .nil .nil) 1 22), .hole, .hole, .hole, .hole, .hole, (.cells (.node (.func (.func 123) [] [.ptr 0 0, .ptr 1 0, .ptr 2 0, .ptr 8 0]) .nil .nil) 1 160)] 0 .nil HEnd_nil
theorem hpS_bd (long saw : Nat) (T : List Nat) : ObBd 9 (hpS long saw T) 9 := by
 have lT := ivs_no (zl T)
 repeat' (first | exact trivial | exact Nat.zero_le _ | exact bdl_no lT | exact Nat.le_of_ble_eq_true rfl | apply And.intro)
abbrev sqA (v : AV) (U most : Nat) : List AV := [v, nv U, nv most, .ptr 0 0, .ptr 1 0, .ptr 2 0, .ptr 8 0]
theorem ob9 {h h' : Tr AObj} (e : ObEq h h' 9) : ∀ i, i < 9 → hv h i = hv h' i := e.lt
def sqV : Option (List Nat) → AV
 |none => .nils
 |some l => nl (zl l)
theorem sqV_bd (o : Option (List Nat)) : bd (sqV o) ≤ 9 := by
 cases o with
 |none => exact Nat.zero_le _
 |some l => exact Nat.max_le.2 ⟨Nat.zero_le _, bdl_no (ivs_no _)⟩
theorem fits_v {long saw : Nat} (hl : long ≤ 500) (hs : saw ≤ 9) {T now : List Nat} {v : AV} (hw : nwV v now) (hT : now.length ≤ T.length) (h8 : T.length ≤ 8) (ht : ∀ x, x ∈ T → 1 ≤ x ∧ x ≤ 60) (ho : odP now 0) : Pure prog 121 [nv long, nv saw, nl (zl T), v] (.bool (decide (pkP long saw T now))) := by
 have e : decide (pkP long saw T now) = fitB long saw (now.zip T) [] := by
  rw [Bool.eq_iff_iff, decide_eq_true_iff, pkP_iff fun x hx => (ht x hx).1]
  exact ⟨fun z => z.2, fun z => ⟨ho, z⟩⟩
 rcases hw with ⟨rfl, rfl⟩ | ⟨rfl, _⟩
 ·rw [decide_eq_true (pk_nil long saw T)]
  exact fits_nil _ _ _
 ·rw [e]
  exact fits_pure hl hs hT h8 fun x hx => (ht x hx).2
theorem minNn (x y : Nat) : minI (Int.ofNat x) (Int.ofNat y) = Int.ofNat (min y x) := by
 unfold minI
 by_cases h : Int.ofNat y < Int.ofNat x
 ·have h2 : y < x := Int.ofNat_lt.1 h
  rw [if_pos h, Nat.min_eq_left (by omega)]
 ·have h2 : ¬ y < x := fun k => h (Int.ofNat_lt.2 k)
  rw [if_neg h, Nat.min_eq_right (by omega)]
theorem sq_args {now : List Nat} {s n ch U most : Nat} (hn : n = now.length + 1) : wkl (sqA (.lst (ivs (zl now) ++ [nv s]) n (.ch ch)) U most) = sqA (nl (zl (now ++ [s]))) U most := by
 have e : nl (zl (now ++ [s])) = .lst (ivs (zl now) ++ [nv s]) n .no := by
  unfold nl
  rw [zl_app, zl_len, List.length_append, hn]; rfl
 rw [e]
 simp only [sqA, wkl, wk, wkl_app, wkl_ivs]
theorem search_h {long saw : Nat} (hl : long ≤ 500) (hs : saw ≤ 9) {T : List Nat} (h8 : T.length ≤ 8) (h1 : 1 ≤ T.length) (ht : ∀ x, x ∈ T → 1 ≤ x ∧ x ≤ 60) {most : Nat} (hm : most ≤ 8) : ∀ (f : Nat) (now : List Nat) (v : AV), now.length + f = T.length → nwV v now → odP now 0 → HFun prog 123 (sqA v (mnA 0 now) most) (hv (hpS long saw T)) 9 (sqV (srP long saw T most f now)) (hv (hpS long saw T))
 |f, now, v, hf, hw, ho => by
  have lT := ivs_no (zl T)
  have lN := ivs_no (zl now)
  have zT := zl_len T
  have zN := zl_len now
  have hb := hpS_bd long saw T
  have pF := fits_v hl hs hw (by omega) h8 ht ho
  have bv := sqV_bd (srP long saw T most f now)
  have bA : bdl (sqA v (mnA 0 now) most) ≤ 9 := by
   rcases hw with ⟨rfl, _⟩ | ⟨rfl, _⟩
   ·exact Nat.max_le.2 ⟨Nat.zero_le _, Nat.le_of_ble_eq_true (m := 9) rfl⟩
   ·exact Nat.max_le.2 ⟨Nat.max_le.2 ⟨Nat.zero_le _, bdl_no lN⟩, Nat.le_of_ble_eq_true (m := 9) rfl⟩
  by_cases hp : pkP long saw T now
  ·rw [decide_eq_true hp] at pF
   cases f with
   |zero =>
    have e : srP long saw T most 0 now = some now := if_pos hp
    rw [e] at bv ⊢
    rcases hw with ⟨rfl, rfl⟩ | ⟨rfl, hne⟩
    ·simp only [List.length_nil] at hf; omega
    ·have c1 : (((zl now).length : Int) == ((zl T).length : Int)) = true := by rw [zN, zT, show now.length = T.length by omega]; exact beq_self_eq_true _
     refine hfun_sym hE rfl (hpS_end long saw T) bA bv hb hb fun S q pc hS hq hC hE => ?_
     conv => whnf
     refine sym_pure hC (pF) ?_
     conv => whnf
     refine bool_true (c1) ?_
     conv => whnf
     exact ⟨_, rfl, WkV.refl _, rfl, rfl, rfl, rfl, rfl, rfl, rfl, rfl, rfl, trivial⟩
   |succ f =>
    have e : srP long saw T most (f + 1) now = fstO (fun s => srP long saw T most f (now ++ [s])) 0 (min most (mnA 0 now + 1)) := if_pos hp
    have hU8 : mnA 0 now ≤ 8 := by have := odP_len now 0 ho; omega
    have ih : ∀ s, s < min most (mnA 0 now + 1) → ∀ n ch, n = now.length + 1 → ∀ z, z = Int.ofNat (max (mnA 0 now) (s + 1)) → HFun prog 123 (wkl [.lst (ivs (zl now) ++ [nv s]) n (.ch ch), iv z, nv most, .ptr 0 0, .ptr 1 0, .ptr 2 0, .ptr 8 0]) (hv (hpS long saw T)) 9 (sqV (srP long saw T most f (now ++ [s]))) (hv (hpS long saw T)) := fun s hsm n ch hn z hz => by
     subst hz
     refine (sq_args hn : wkl (sqA (.lst (ivs (zl now) ++ [nv s]) n (.ch ch)) (max (mnA 0 now) (s + 1)) most) = _) ▸ ?_
     have := search_h hl hs h8 h1 ht hm f (now ++ [s]) _ (by rw [List.length_append]; simp only [List.length_cons, List.length_nil]; omega) (.inr ⟨rfl, by simp⟩) (odP_snoc ho (by omega))
     rw [mnA_app] at this
     exact this
    rw [e] at bv ⊢
    generalize mnA 0 now = U at *
    generalize hg : (fun s => srP long saw T most f (now ++ [s])) = g at *
    have ih : ∀ s, s < min most (U + 1) → ∀ n ch, n = now.length + 1 → ∀ z, z = Int.ofNat (max U (s + 1)) → HFun prog 123 (wkl [.lst (ivs (zl now) ++ [nv s]) n (.ch ch), iv z, nv most, .ptr 0 0, .ptr 1 0, .ptr 2 0, .ptr 8 0]) (hv (hpS long saw T)) 9 (sqV (g s)) (hv (hpS long saw T)) := fun s h1 n ch h2 z h3 => by rw [← hg]; exact ih s h1 n ch h2 z h3
    have hmin : minI (IntKind.i64.wrap (Int.ofNat U + 1)) (Int.ofNat most) = Int.ofNat (min most (U + 1)) := by
     rw [show IntKind.i64.wrap (Int.ofNat U + 1) = Int.ofNat (U + 1) from wrapN (m := U + 1) (by omega)]; exact minNn _ _
    have hB8 : min most (U + 1) ≤ 8 := by omega
    generalize min most (U + 1) = B at *
    obtain ⟨R, hR⟩ : ∃ R, R = fstO g 0 B := ⟨_, rfl⟩
    rw [← hR] at bv ⊢
    rcases hw with ⟨rfl, rfl⟩ | ⟨rfl, hne⟩
    ·have c1 : ((0 : Int) == ((zl T).length : Int)) = false := beq_eq_false_iff_ne.2 fun z => by omega
     refine hfun_sym hE rfl (hpS_end long saw T) bA bv hb hb fun S q pc hS hq hC hE => ?_
     conv => whnf
     refine sym_pure hC (pF) ?_
     conv => whnf
     refine bool_false (c1) ?_
     conv => whnf
     refine sym_loopG hE hS (A := Nat) [0, 1, 2, 3, 4, 5, 6] (fun s => [(28, nv B), (29, nv s)]) (fun _ => []) (fun _ => []) (fun s => s ≤ B ∧ R = fstO g s (B - s)) (fun s => B - s) 0 (Nat.le_of_ble_eq_true rfl) rfl (by refine ⟨rfl, rfl, rfl, rfl, rfl, rfl, 9, rfl, ?_, ?_⟩ <;> repeat' (first | exact trivial | exact rfl | exact ⟨_, rfl, WkV.refl _⟩ | exact ⟨_, rfl, WkV.own _ _ _⟩ | exact Nat.zero_le _ | exact ⟨_, rfl, WkV.int hmin⟩ | exact bdl_no lT | exact bdl_no lN | exact Nat.le_of_ble_eq_true rfl | exact bdl_no (by assumption) | exact bdl_no (flat_no _) | exact bdl_no (ivs_no _) | exact bdl_no (svs_no _) | exact Nat.max_le.2 ⟨Nat.le_of_ble_eq_true rfl, bdl_no (ivs_no _)⟩ | exact Nat.max_le.2 ⟨Nat.le_of_ble_eq_true rfl, bdl_no (svs_no _)⟩ | apply And.intro)) ⟨Nat.zero_le _, hR⟩ ?_
     intro s ⟨hsB, he⟩ Q hQ
     obtain rfl : Q = 9 := hQ
     conv => whnf
     by_cases hs2 : s < B
     rotate_left
     ·refine bool_false (decide_eq_false (show ¬ Int.ofNat s < Int.ofNat B from fun z => hs2 (Int.ofNat_lt.1 z))) ?_
      conv => whnf
      refine .inl ?_
      conv => whnf
      rw [fstO_end _ (by omega)] at he
      subst he
      exact ⟨_, rfl, WkV.refl _, rfl, rfl, rfl, rfl, rfl, rfl, rfl, rfl, rfl, trivial⟩
     ·rw [fstO_step _ hs2] at he
      have hi1 : IntKind.i64.wrap (Int.ofNat s + 1) = Int.ofNat (s + 1) := wrapN (m := s + 1) (by omega)
      have hmx : maxI (Int.ofNat U) (IntKind.i64.wrap (Int.ofNat s + 1)) = Int.ofNat (max U (s + 1)) := by rw [hi1]; exact maxNn _ _
      have pI := ih s hs2
      obtain ⟨o, ho⟩ : ∃ o, o = g s := ⟨_, rfl⟩
      rw [← ho] at pI he
      have lo := sqV_bd o
      refine bool_true (decide_eq_true (show Int.ofNat s < Int.ofNat B from Int.ofNat_lt.2 hs2)) ?_
      conv => whnf
      refine sym_call hC ?_
      conv => whnf
      refine sym_inline hE hS ?_
      conv => whnf
      refine sym_eq hq true (by kernel_rfl) ?_
      conv => whnf
      cases o with
      |none =>
       have he : R = fstO g (s + 1) (B - (s + 1)) := he
       refine sym_pureR hC (pureR_ofWk (HFun.pureR (pI (0 + 1) _ rfl _ hmx) (ob9 ⟨rfl, rfl, rfl, rfl, rfl, rfl, rfl, rfl, rfl, trivial⟩))) ?_
       conv => whnf
       refine sym_drawn hS (by kernel_rfl) ?_
       conv => whnf
       refine sym_eq hq true (by kernel_rfl) ?_
       conv => whnf
       exact ⟨s + 1, ⟨by omega, he⟩, by omega, Nat.le_refl _, (by refine ⟨rfl, rfl, rfl, rfl, rfl, rfl, 9, rfl, ?_, ?_⟩ <;> repeat' (first | exact trivial | exact rfl | exact ⟨_, rfl, WkV.refl _⟩ | exact ⟨_, rfl, WkV.own _ _ _⟩ | exact Nat.zero_le _ | exact ⟨_, rfl, WkV.int hi1⟩ | exact bdl_no lT | exact bdl_no lN | exact Nat.le_of_ble_eq_true rfl | exact bdl_no (by assumption) | exact bdl_no (flat_no _) | exact bdl_no (ivs_no _) | exact bdl_no (svs_no _) | exact Nat.max_le.2 ⟨Nat.le_of_ble_eq_true rfl, bdl_no (ivs_no _)⟩ | exact Nat.max_le.2 ⟨Nat.le_of_ble_eq_true rfl, bdl_no (svs_no _)⟩ | apply And.intro))⟩
      |some l =>
       have he : R = some l := he
       refine sym_pureR hC (pureR_ofWk (HFun.pureR (pI (0 + 1) _ rfl _ hmx) (ob9 ⟨rfl, rfl, rfl, rfl, rfl, rfl, rfl, rfl, rfl, trivial⟩))) ?_
       conv => whnf
       refine sym_drawn hS (by kernel_rfl) ?_
       conv => whnf
       refine sym_eq hq false (by kernel_rfl) ?_
       conv => whnf
       subst he
       exact ⟨_, rfl, WkV.refl _, rfl, rfl, rfl, rfl, rfl, rfl, rfl, rfl, rfl, trivial⟩
    ·rcases now with _ | ⟨x0, r0⟩
     ·exact absurd rfl hne
     have zr := zl_len r0
     have hr8 : r0.length + 1 + (f + 1) = T.length := hf
     have c1 : (((zl (x0 :: r0)).length : Int) == ((zl T).length : Int)) = false := beq_eq_false_iff_ne.2 fun z => by omega
     refine hfun_sym hE rfl (hpS_end long saw T) bA bv hb hb fun S q pc hS hq hC hE => ?_
     conv => whnf
     refine sym_pure hC (pF) ?_
     conv => whnf
     refine bool_false (c1) ?_
     conv => whnf
     refine sym_loopG hE hS (A := Nat) [0, 1, 2, 3, 4, 5, 6] (fun s => [(28, nv B), (29, nv s)]) (fun _ => []) (fun _ => []) (fun s => s ≤ B ∧ R = fstO g s (B - s)) (fun s => B - s) 0 (Nat.le_of_ble_eq_true rfl) rfl (by refine ⟨rfl, rfl, rfl, rfl, rfl, rfl, 9, rfl, ?_, ?_⟩ <;> repeat' (first | exact trivial | exact rfl | exact ⟨_, rfl, WkV.refl _⟩ | exact ⟨_, rfl, WkV.own _ _ _⟩ | exact Nat.zero_le _ | exact ⟨_, rfl, WkV.int hmin⟩ | exact bdl_no lT | exact bdl_no lN | exact Nat.le_of_ble_eq_true rfl | exact bdl_no (by assumption) | exact bdl_no (flat_no _) | exact bdl_no (ivs_no _) | exact bdl_no (svs_no _) | exact Nat.max_le.2 ⟨Nat.le_of_ble_eq_true rfl, bdl_no (ivs_no _)⟩ | exact Nat.max_le.2 ⟨Nat.le_of_ble_eq_true rfl, bdl_no (svs_no _)⟩ | apply And.intro)) ⟨Nat.zero_le _, hR⟩ ?_
     intro s ⟨hsB, he⟩ Q hQ
     obtain rfl : Q = 9 := hQ
     conv => whnf
     by_cases hs2 : s < B
     rotate_left
     ·refine bool_false (decide_eq_false (show ¬ Int.ofNat s < Int.ofNat B from fun z => hs2 (Int.ofNat_lt.1 z))) ?_
      conv => whnf
      refine .inl ?_
      conv => whnf
      rw [fstO_end _ (by omega)] at he
      subst he
      exact ⟨_, rfl, WkV.refl _, rfl, rfl, rfl, rfl, rfl, rfl, rfl, rfl, rfl, trivial⟩
     ·rw [fstO_step _ hs2] at he
      have hi1 : IntKind.i64.wrap (Int.ofNat s + 1) = Int.ofNat (s + 1) := wrapN (m := s + 1) (by omega)
      have hmx : maxI (Int.ofNat U) (IntKind.i64.wrap (Int.ofNat s + 1)) = Int.ofNat (max U (s + 1)) := by rw [hi1]; exact maxNn _ _
      have pI := ih s hs2
      obtain ⟨o, ho⟩ : ∃ o, o = g s := ⟨_, rfl⟩
      rw [← ho] at pI he
      have lo := sqV_bd o
      refine bool_true (decide_eq_true (show Int.ofNat s < Int.ofNat B from Int.ofNat_lt.2 hs2)) ?_
      conv => whnf
      refine sym_call hC ?_
      conv => whnf
      refine sym_inline hE hS ?_
      conv => whnf
      refine sym_eq hq false (by kernel_rfl) ?_
      conv => whnf
      refine plan_as (pSrc_eq (e := 3) (ys := ivs (zl (x0 :: r0))) (m := (zl (x0 :: r0)).length) (own := .no) (l := ivs (zl (x0 :: r0))) (by kernel_rfl) rfl (takeN_ivs _)) ?_
      conv => whnf
      refine bool_true (allCells_ivs (zl (x0 :: r0))) ?_
      conv => whnf
      refine bool_true (decide_eq_true (show (0 + ((zl r0).length + 1)) * 8 ≤ 140737488355328 by omega)) ?_
      conv => whnf
      refine bool_true (decide_eq_true (show 0 + ((zl r0).length + 1) ≤ 9223372036854775807 by omega)) ?_
      conv => whnf
      refine bool_true (decide_eq_true (show (0 + ((zl r0).length + 1) + (0 + 1)) * 8 ≤ 140737488355328 by omega)) ?_
      conv => whnf
      refine bool_true (decide_eq_true (show 0 + ((zl r0).length + 1) + (0 + 1) ≤ 9223372036854775807 by omega)) ?_
      conv => whnf
      refine bool_true ((show lenIs (ivs (zl (x0 :: r0))) ((0 + ((zl r0).length + 1)) * 1) = true by rw [Nat.zero_add]; exact lenIs_ivs (zl (x0 :: r0)))) ?_
      conv => whnf
      refine bool_true (decide_eq_true rfl) ?_
      conv => whnf
      cases o with
      |none =>
       have he : R = fstO g (s + 1) (B - (s + 1)) := he
       refine sym_pureR hC (pureR_ofWk (HFun.pureR (pI (0 + ((zl r0).length + 1) + (0 + 1)) _ (by show _ = r0.length + 1 + 1; omega) _ hmx) (ob9 ⟨rfl, rfl, rfl, rfl, rfl, rfl, rfl, rfl, rfl, trivial⟩))) ?_
       conv => whnf
       refine sym_drawn hS (by kernel_rfl) ?_
       conv => whnf
       refine sym_eq hq true (by kernel_rfl) ?_
       conv => whnf
       exact ⟨s + 1, ⟨by omega, he⟩, by omega, Nat.le_refl _, (by refine ⟨rfl, rfl, rfl, rfl, rfl, rfl, 9, rfl, ?_, ?_⟩ <;> repeat' (first | exact trivial | exact rfl | exact ⟨_, rfl, WkV.refl _⟩ | exact ⟨_, rfl, WkV.own _ _ _⟩ | exact Nat.zero_le _ | exact ⟨_, rfl, WkV.int hi1⟩ | exact bdl_no lT | exact bdl_no lN | exact Nat.le_of_ble_eq_true rfl | exact bdl_no (by assumption) | exact bdl_no (flat_no _) | exact bdl_no (ivs_no _) | exact bdl_no (svs_no _) | exact Nat.max_le.2 ⟨Nat.le_of_ble_eq_true rfl, bdl_no (ivs_no _)⟩ | exact Nat.max_le.2 ⟨Nat.le_of_ble_eq_true rfl, bdl_no (svs_no _)⟩ | apply And.intro))⟩
      |some l =>
       have he : R = some l := he
       refine sym_pureR hC (pureR_ofWk (HFun.pureR (pI (0 + ((zl r0).length + 1) + (0 + 1)) _ (by show _ = r0.length + 1 + 1; omega) _ hmx) (ob9 ⟨rfl, rfl, rfl, rfl, rfl, rfl, rfl, rfl, rfl, trivial⟩))) ?_
       conv => whnf
       refine sym_drawn hS (by kernel_rfl) ?_
       conv => whnf
       refine sym_eq hq false (by kernel_rfl) ?_
       conv => whnf
       subst he
       exact ⟨_, rfl, WkV.refl _, rfl, rfl, rfl, rfl, rfl, rfl, rfl, rfl, rfl, trivial⟩
  ·rw [decide_eq_false hp] at pF
   have e : srP long saw T most f now = none := by
    cases f with
    |zero => exact if_neg hp
    |succ f => exact if_neg hp
   rw [e] at bv ⊢
   rcases hw with ⟨rfl, rfl⟩ | ⟨rfl, hne⟩
   all_goals
    refine hfun_sym hE rfl (hpS_end long saw T) bA bv hb hb fun S q pc hS hq hC hE => ?_
    conv => whnf
    refine sym_pure hC (pF) ?_
    conv => whnf
    exact ⟨_, rfl, WkV.refl _, rfl, rfl, rfl, rfl, rfl, rfl, rfl, rfl, rfl, trivial⟩
end
end Go.Abs.Seat

/-! The best packing, as the program finds it. -/
namespace Go.Abs.Seat
noncomputable section
open Go Go.Abs Go.Proofs.Tryz
set_option maxRecDepth 100000
set_option maxHeartbeats 40000000
attribute [local irreducible] IntKind.wrap pEq

def mxA : Nat → List Nat → Nat
 |a, [] => a
 |a, x :: r => mxA (max a x) r
theorem max_pure (T : List Nat) (h1 : 1 ≤ T.length) (h8 : T.length ≤ 8) : Pure prog 122 [nl (zl T)] (nv (mxA (gn T 0) (T.drop 1))) := by
 have lT := ivs_no (zl T)
 have zT := zl_len T
 have g0 : nth (ivs (zl T)) (0 * 1) = some (nv (gn T 0)) := by rw [nth_ivs1 (by omega), gi_zl T (by omega)]
 refine pure_sym hE rfl (by repeat' (first | exact trivial | assumption | exact flat_no _ | exact (fun _ h => nomatch h) | apply And.intro)) (by repeat' (first | exact trivial | assumption | exact flat_no _ | exact (fun _ h => nomatch h) | apply And.intro)) fun S q pc hS hq hC hE => ?_
 conv => whnf
 refine bool_false (decide_eq_false (show ¬ ((zl T).length : Int) < 1 by omega)) ?_
 conv => whnf
 refine bool_true (inR_t (show 0 < (zl T).length by omega)) ?_
 conv => whnf
 refine plan_as (nthP (g0)) ?_
 conv => whnf
 refine sym_loop hE hS (A := Nat × Nat) [0] (fun (i, n) => [(3, nv n), (4, nv i)]) (fun _ => []) (fun (i, n) => i ≤ T.length ∧ mxA n (T.drop i) = mxA (gn T 0) (T.drop 1)) (fun (i, _) => T.length - i) (1, gn T 0) rfl rfl (by refine ⟨rfl, rfl, rfl, rfl, ?_, ?_⟩ <;> repeat' (first | exact trivial | exact rfl | exact Nat.zero_le _ | exact bdl_no lT | exact Nat.le_of_ble_eq_true rfl | exact bdl_no (by assumption) | exact bdl_no (flat_no _) | exact bdl_no (ivs_no _) | exact Nat.max_le.2 ⟨Nat.le_of_ble_eq_true rfl, bdl_no (ivs_no _)⟩ | apply And.intro)) ⟨by omega, rfl⟩ ?_
 rintro ⟨i, n⟩ ⟨hi, he⟩
 conv => whnf
 by_cases hi2 : i < T.length
 ·have hiz : i < (zl T).length := by omega
  have g1 : nth (ivs (zl T)) (i * 1) = some (nv (gn T i)) := by rw [nth_ivs1 hiz, gi_zl T hi2]
  rw [drop_gnx T hi2, mxA] at he
  refine bool_true (ltN_t hiz) ?_
  conv => whnf
  refine bool_true (inR_t hiz) ?_
  conv => whnf
  refine plan_as (nthP (g1)) ?_
  conv => whnf
  exact ⟨(i + 1, max n (gn T i)), ⟨by omega, he⟩, by show T.length - (i + 1) < T.length - i; omega, (by refine ⟨rfl, rfl, rfl, rfl, ?_, ?_⟩ <;> repeat' (first | exact trivial | exact rfl | exact Nat.zero_le _ | exact congrArg (fun z => some (AV.int .i64 z)) (show IntKind.i64.wrap (Int.ofNat i + 1) = Int.ofNat (i + 1) from wrapN (m := i + 1) (by omega)) | exact congrArg (fun z => some (AV.int .i64 z)) (maxNn n (gn T i)) | exact bdl_no lT | exact Nat.le_of_ble_eq_true rfl | exact bdl_no (by assumption) | exact bdl_no (flat_no _) | exact bdl_no (ivs_no _) | exact Nat.max_le.2 ⟨Nat.le_of_ble_eq_true rfl, bdl_no (ivs_no _)⟩ | apply And.intro))⟩
 ·refine bool_false (ltN_f (show ¬ i < (zl T).length by omega)) ?_
  conv => whnf
  rw [List.drop_eq_nil_of_le (by omega), mxA] at he
  rw [← he]
  exact ⟨_, rfl, Wk.refl _⟩
theorem mxA_le : ∀ (l : List Nat) (a b : Nat), mxA a l ≤ b ↔ a ≤ b ∧ ∀ x, x ∈ l → x ≤ b
 | [], a, b => ⟨fun h => ⟨h, fun _ h => absurd h List.not_mem_nil⟩, fun h => h.1⟩
 |x :: r, a, b => by
  rw [mxA, mxA_le r]
  constructor
  ·rintro ⟨h1, h2⟩
   refine ⟨by omega, fun y hy => ?_⟩
   rcases List.mem_cons.1 hy with e | hy
   ·omega
   ·exact h2 y hy
  ·rintro ⟨h1, h2⟩
   have := h2 x (List.mem_cons_self ..)
   exact ⟨by omega, fun y hy => h2 y (List.mem_cons_of_mem _ hy)⟩
def stV : Option (List Nat) → AV
 |none => .tup [.nils, iv 0, iv 5]
 |some l => .tup [nl (zl l), nv (mnA 0 l), iv 0]
theorem sSheets_pure {long saw : Nat} {T : List Nat} (q1 : swOk (Int.ofNat long) (Int.ofNat saw)) (q2 : whOk (zl T)) (h1 : 1 ≤ T.length) (ht : ∀ x, x ∈ T → 1 ≤ x ∧ x ≤ 60) : Pure prog 57 [nv long, nv saw, nl (zl T)] (stV (bestP long saw T)) := by
 have pA := areTeeth_pure (v := nl (zl T)) (.inr rfl) (by have := q2.1; omega)
 have lT := ivs_no (zl T)
 have hz := zl_len T
 have h8 : T.length ≤ 8 := by have := q2.1; omega
 have hl : long ≤ 500 := by have := q1.1.2; exact Int.ofNat_le.1 this
 have hs : saw ≤ 9 := by have := q1.2.2; exact Int.ofNat_le.1 this
 have c1 : (!decide (swOk (Int.ofNat long) (Int.ofNat saw))) = false := nt_t (decide_eq_true q1)
 have c2 : (!decide (whOk (zl T))) = false := nt_t (decide_eq_true q2)
 have c3 : (((zl T).length : Int) == 0) = false := beq_eq_false_iff_ne.2 fun z => by omega
 have pM := max_pure T h1 h8
 have ht1 : ∀ x, x ∈ T → 1 ≤ x := fun x hx => (ht x hx).1
 have hM : ∀ b, mxA (gn T 0) (T.drop 1) ≤ b ↔ ∀ x, x ∈ T → x ≤ b := fun b => by
  rw [mxA_le]
  rcases T with _ | ⟨x, r⟩
  ·simp only [List.length_nil] at h1; omega
  ·show x ≤ b ∧ (∀ y, y ∈ r → y ≤ b) ↔ _
   exact (List.forall_mem_cons (p := fun y => y ≤ b)).symm
 have hM60 : mxA (gn T 0) (T.drop 1) ≤ 60 := (hM 60).2 fun x hx => (ht x hx).2
 generalize mxA (gn T 0) (T.drop 1) = M at *
 have hw : IntKind.i64.wrap (2 * Int.ofNat M) = Int.ofNat (2 * M) := by
  show IntKind.i64.wrap (Int.ofNat 2 * Int.ofNat M) = _
  exact mulN (by omega)
 by_cases hno : 2 * M ≤ long
 ·have c4 : decide (IntKind.i64.wrap (2 * Int.ofNat M) > Int.ofNat long) = false := by rw [hw]; exact decide_eq_false fun z => by have := Int.ofNat_lt.1 z; omega
  have pS := fun m (hm : m ≤ 8) => search_h hl hs h8 h1 ht hm T.length [] .nils (by simp) (.inl ⟨rfl, rfl⟩) (fun _ hi => absurd hi (Nat.not_lt_zero _))
  obtain ⟨l, hbl⟩ : ∃ l, bestP long saw T = some l := by
   cases e : bestP long saw T with
   |some l => exact ⟨l, rfl⟩
   |none =>
    obtain ⟨x, hx, h2⟩ := (best_iff ht1 h1).1 e
    have := (hM M).1 (Nat.le_refl _) x hx
    omega
  obtain ⟨m0, hm1, hm2, hf, hn, hmn, _⟩ := best_some ht1 h1 hbl
  have e : stV (bestP long saw T) = .tup [nl (zl l), nv m0, iv 0] := by rw [hbl, ← hmn]; rfl
  rw [e]
  have lL := ivs_no (zl l)
  refine pure_sym hE rfl (by repeat' (first | exact trivial | assumption | exact flat_no _ | exact (fun _ h => nomatch h) | apply And.intro)) (by repeat' (first | exact trivial | assumption | exact flat_no _ | exact (fun _ h => nomatch h) | apply And.intro)) fun S q pc hS hq hC hE => ?_
  conv => whnf
  repeat ((first
   |refine ko_sT c1 ?_
   |refine ko_rF c1 ?_
   |refine plan_as (pick_f c1) ?_
   |refine bool_false c1 ?_
   |refine ko_sT c2 ?_
   |refine ko_rF c2 ?_
   |refine plan_as (pick_f c2) ?_
   |refine bool_false c2 ?_
   |refine ko_sT c3 ?_
   |refine ko_rF c3 ?_
   |refine plan_as (pick_f c3) ?_
   |refine bool_false c3 ?_
   |refine ko_sT c4 ?_
   |refine ko_rF c4 ?_
   |refine plan_as (pick_f c4) ?_
   |refine bool_false c4 ?_
   |refine ko_rT (gff c1) ?_
   |refine ko_sF (gff c1) ?_
   |refine plan_as (pick_t (gff c1)) ?_
   |refine bool_true (gff c1) ?_
   |refine ko_rT (gff c2) ?_
   |refine ko_sF (gff c2) ?_
   |refine plan_as (pick_t (gff c2)) ?_
   |refine bool_true (gff c2) ?_
   |refine sym_pure hC (isSaw_pure (Int.ofNat long) (Int.ofNat saw)) ?_
   |refine sym_pure hC (pA) ?_
   |refine sym_pure hC (pM) ?_
   |refine sym_drawn hS (by kernel_rfl) ?_); conv => whnf)
  refine sym_loopG hE hS (A := Nat) [9] (fun m => [(10, nv m)]) (fun _ => []) (fun _ => []) (fun m => 1 ≤ m ∧ m ≤ m0) (fun m => m0 - m) 1 (Nat.le_of_ble_eq_true rfl) rfl (by refine ⟨rfl, rfl, rfl, rfl, rfl, rfl, 9, rfl, ?_, ?_⟩ <;> repeat' (first | exact trivial | exact rfl | exact ⟨_, rfl, WkV.refl _⟩ | exact ⟨_, rfl, WkV.own _ _ _⟩ | exact Nat.zero_le _ | exact bdl_no lT | exact Nat.le_of_ble_eq_true rfl | exact bdl_no (by assumption) | exact bdl_no (flat_no _) | exact bdl_no (ivs_no _) | exact bdl_no (svs_no _) | exact Nat.max_le.2 ⟨Nat.le_of_ble_eq_true rfl, bdl_no (ivs_no _)⟩ | exact Nat.max_le.2 ⟨Nat.le_of_ble_eq_true rfl, bdl_no (svs_no _)⟩ | apply And.intro)) ⟨Nat.le_refl _, hm1⟩ ?_
  intro m ⟨ha, hb⟩ Q hQ
  obtain rfl : Q = 9 := hQ
  conv => whnf
  have pI := pS m (by omega)
  by_cases h3 : m = m0
  ·subst h3
   rw [hf] at pI
   refine sym_pureR hC (HFun.pureR pI (ob9 ⟨rfl, rfl, rfl, rfl, rfl, rfl, rfl, rfl, rfl, trivial⟩)) ?_
   conv => whnf
   refine sym_eq hq false (by kernel_rfl) ?_
   conv => whnf
   exact ⟨_, rfl, Wk.refl _⟩
  ·rw [hn m ha (by omega)] at pI
   refine sym_pureR hC (HFun.pureR pI (ob9 ⟨rfl, rfl, rfl, rfl, rfl, rfl, rfl, rfl, rfl, trivial⟩)) ?_
   conv => whnf
   refine sym_eq hq true (by kernel_rfl) ?_
   conv => whnf
   exact ⟨m + 1, ⟨by omega, by omega⟩, by omega, Nat.le_refl _, (by refine ⟨rfl, rfl, rfl, rfl, rfl, rfl, 9, rfl, ?_, ?_⟩ <;> repeat' (first | exact trivial | exact rfl | exact ⟨_, rfl, WkV.refl _⟩ | exact ⟨_, rfl, WkV.own _ _ _⟩ | exact Nat.zero_le _ | exact ⟨_, rfl, WkV.int (wrapN (m := m + 1) (by omega))⟩ | exact bdl_no lT | exact Nat.le_of_ble_eq_true rfl | exact bdl_no (by assumption) | exact bdl_no (flat_no _) | exact bdl_no (ivs_no _) | exact bdl_no (svs_no _) | exact Nat.max_le.2 ⟨Nat.le_of_ble_eq_true rfl, bdl_no (ivs_no _)⟩ | exact Nat.max_le.2 ⟨Nat.le_of_ble_eq_true rfl, bdl_no (svs_no _)⟩ | apply And.intro))⟩
 ·have c4 : decide (IntKind.i64.wrap (2 * Int.ofNat M) > Int.ofNat long) = true := by rw [hw]; exact decide_eq_true (Int.ofNat_lt.2 (by omega))
  have hbl : bestP long saw T = none := by
   refine (best_iff ht1 h1).2 (Classical.byContradiction fun k => hno ?_)
   have : M ≤ long / 2 := (hM _).2 fun x hx => by
    have : ¬ long < 2 * x := fun z => k ⟨x, hx, z⟩
    omega
   omega
  rw [hbl]
  refine pure_sym hE rfl (by repeat' (first | exact trivial | assumption | exact flat_no _ | exact (fun _ h => nomatch h) | apply And.intro)) (by repeat' (first | exact trivial | assumption | exact flat_no _ | exact (fun _ h => nomatch h) | apply And.intro)) fun S q pc hS hq hC hE => ?_
  conv => whnf
  repeat ((first
   |refine ko_sT c1 ?_
   |refine ko_rF c1 ?_
   |refine plan_as (pick_f c1) ?_
   |refine bool_false c1 ?_
   |refine ko_sT c2 ?_
   |refine ko_rF c2 ?_
   |refine plan_as (pick_f c2) ?_
   |refine bool_false c2 ?_
   |refine ko_sT c3 ?_
   |refine ko_rF c3 ?_
   |refine plan_as (pick_f c3) ?_
   |refine bool_false c3 ?_
   |refine ko_rT c4 ?_
   |refine ko_sF c4 ?_
   |refine plan_as (pick_t c4) ?_
   |refine bool_true c4 ?_
   |refine ko_rT (gff c1) ?_
   |refine ko_sF (gff c1) ?_
   |refine plan_as (pick_t (gff c1)) ?_
   |refine bool_true (gff c1) ?_
   |refine ko_rT (gff c2) ?_
   |refine ko_sF (gff c2) ?_
   |refine plan_as (pick_t (gff c2)) ?_
   |refine bool_true (gff c2) ?_
   |refine sym_pure hC (isSaw_pure (Int.ofNat long) (Int.ofNat saw)) ?_
   |refine sym_pure hC (pA) ?_
   |refine sym_pure hC (pM) ?_
   |refine sym_drawn hS (by kernel_rfl) ?_); conv => whnf)
  exact ⟨_, rfl, Wk.refl _⟩
end
end Go.Abs.Seat

/-! The rates of all arbors, as the program tells them. -/
namespace Go.Abs.Seat
noncomputable section
open Go Go.Abs Go.Proofs.Tryz
set_option maxRecDepth 100000
set_option maxHeartbeats 40000000
attribute [local irreducible] IntKind.wrap pEq

end
end Go.Abs.Seat

/-! The rates of all arbors, as the document tells them. -/
namespace Go.Abs.Seat
noncomputable section
open Go Go.Abs Go.Proofs.Tryz
set_option maxRecDepth 100000
set_option maxHeartbeats 40000000
attribute [local irreducible] IntKind.wrap pEq

end
end Go.Abs.Seat

/-! Short pieces; lists that are equal to themselves; hands, fractions, numbers as the document tells them. -/
namespace Go.Abs.Seat
noncomputable section
open Go Go.Abs Go.Proofs.Tryz
set_option maxRecDepth 100000
set_option maxHeartbeats 40000000
attribute [local irreducible] IntKind.wrap pEq

theorem short_yes {x h : AV} {L : List LkI} {M : List Int} (hx : LL x L) (hh : IL h M) (h1 : L.length ≤ 7) (h2 : M.length ≤ 6) : Pure prog 18 [.agg [x, h]] (.bool true) := by
 have c1 : decide ((L.length : Int) ≤ 7) = true := decide_eq_true (by omega)
 have c2 : decide ((M.length : Int) ≤ 6) = true := decide_eq_true (by omega)
 have lx := hx.no
 have lh := hh.no
 rcases hx with ⟨rfl, rfl⟩ | rfl <;> rcases hh with ⟨rfl, rfl⟩ | rfl
 all_goals
  refine pure_sym hE rfl (by repeat' (first | exact trivial | assumption | exact flat_no _ | exact (fun _ h => nomatch h) | apply And.intro)) (by repeat' (first | exact trivial | assumption | exact flat_no _ | exact (fun _ h => nomatch h) | apply And.intro)) fun S q pc hS hq hC hE => ?_
  conv => whnf
  repeat ((first
   |refine ko_rT c1 ?_
   |refine ko_sF c1 ?_
   |refine plan_as (pick_t c1) ?_
   |refine bool_true c1 ?_
   |refine ko_rT c2 ?_
   |refine ko_sF c2 ?_
   |refine plan_as (pick_t c2) ?_
   |refine bool_true c2 ?_
   |refine sym_drawn hS (by kernel_rfl) ?_); conv => whnf)
  first | exact ⟨_, rfl, Wk.refl _⟩ | exact ⟨_, rfl, wkb c2⟩
theorem pcN.sh {N : List Lk} {H : List Nat} (h : pcN N H) : Pure prog 18 [.agg [nkA N, nl (zl H)]] (.bool true) := by
 have := short_yes (x := lkA (cL N)) (h := nl (zl H)) (.inr rfl) (.inr rfl) (by rw [cL_len]; have := h.l5; omega) (by rw [zl_len]; have := h.h4; omega)
 rwa [nkA_eq] at this
end
end Go.Abs.Seat

/-! The law ShopRates. -/
namespace Go.Abs.Seat
noncomputable section
open Go Go.Abs Go.Proofs.Tryz
set_option maxRecDepth 100000
set_option maxHeartbeats 40000000
attribute [local irreducible] IntKind.wrap pEq

end
end Go.Abs.Seat

/-! A piece as it comes in is one as defined, or not. -/
namespace Go.Abs.Seat
noncomputable section
open Go Go.Abs Go.Proofs.Tryz
set_option maxRecDepth 100000
set_option maxHeartbeats 40000000

end
end Go.Abs.Seat

/-! Changes: what is spoilt, as the program and the document tell it. -/
namespace Go.Abs.Seat
noncomputable section
open Go Go.Abs Go.Proofs.Tryz
set_option maxRecDepth 100000
set_option maxHeartbeats 40000000
attribute [local irreducible] IntKind.wrap pEq

def cgOk (N : List Lk) (i a b : Int) : Prop := (0 ≤ i ∧ i < (N.length : Int)) ∧ (tth a ∧ tth b) ∧ ¬ (a = Int.ofNat (gN N i.toNat).2.1 ∧ b = Int.ofNat (gN N i.toNat).2.2)
instance (N : List Lk) (i a b : Int) : Decidable (cgOk N i a b) := Classical.propDecidable _
theorem pcN.len {N : List Lk} {H : List Nat} (h : pcN N H) {N2 : List Lk} (h2 : okN N2) (hl : N2.length = N.length) : pcN N2 H :=
 ⟨h2, by rw [hl]; exact h.l1, by rw [hl]; exact h.l5, h.h1, h.h4, fun x hx => by rw [hl]; exact h.hd x hx⟩
end
end Go.Abs.Seat

/-! Changes: what is as defined, a piece with a change, what is spoilt, as the document tells it. -/
namespace Go.Abs.Seat
noncomputable section
open Go Go.Abs Go.Proofs.Tryz
set_option maxRecDepth 100000
set_option maxHeartbeats 40000000
attribute [local irreducible] IntKind.wrap pEq

end
end Go.Abs.Seat

/-! Which hands a change spoils, as the document tells it. -/
namespace Go.Abs.Seat
noncomputable section
open Go Go.Abs Go.Proofs.Tryz
set_option maxRecDepth 100000
set_option maxHeartbeats 40000000
attribute [local irreducible] IntKind.wrap pEq

end
end Go.Abs.Seat

/-! The law ShopSpoils. -/
namespace Go.Abs.Seat
noncomputable section
open Go Go.Abs Go.Proofs.Tryz
set_option maxRecDepth 100000
set_option maxHeartbeats 40000000
attribute [local irreducible] IntKind.wrap pEq

end
end Go.Abs.Seat
