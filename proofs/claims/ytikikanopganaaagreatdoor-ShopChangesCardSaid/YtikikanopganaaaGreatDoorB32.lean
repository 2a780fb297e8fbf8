/-
  The best changes, as the document finds them.
-/
import Derived.Test.YtikikanopganaaaGreatDoorB31
import Derived.Test.YtikikanopganaaaGreatDoorU12
/-! The best changes, as the document finds them. -/
namespace Go.Abs.Seat
noncomputable section
open Go Go.Abs Go.Proofs.Tryz
set_option maxRecDepth 100000
set_option maxHeartbeats 40000000
attribute [local irreducible] IntKind.wrap pEq

theorem cgB_mem {N : List Lk} {i a lo : Nat} {x : Lk} : ∀ {j : Nat}, x ∈ cgB N i a lo j ↔ x.1 = i ∧ x.2.1 = a ∧ (lo ≤ x.2.2 ∧ x.2.2 < lo + j) ∧ (gN N i).2 ≠ x.2
 | 0 => by simp only [cgB, List.not_mem_nil, false_iff]; omega
 |j + 1 => by
  rw [cgB, List.mem_append, cgB_mem]
  obtain ⟨x1, x2, x3⟩ := x
  constructor
  ·rintro (h | h)
   ·exact ⟨h.1, h.2.1, ⟨h.2.2.1.1, by have := h.2.2.1.2; omega⟩, h.2.2.2⟩
   ·split at h
    ·cases h
    ·rename_i hn
     have e := List.mem_singleton.1 h
     cases e
     exact ⟨rfl, rfl, ⟨by show lo ≤ lo + j; omega, by show lo + j < lo + (j + 1); omega⟩, hn⟩
  ·rintro ⟨h1, h2, h3, h4⟩
   have h1 : x1 = i := h1
   have h2 : x2 = a := h2
   have h3 : lo ≤ x3 ∧ x3 < lo + (j + 1) := h3
   subst h1 h2
   by_cases e : x3 = lo + j
   ·subst e
    right
    rw [if_neg h4]
    exact List.mem_singleton.2 rfl
   ·exact .inl ⟨rfl, rfl, ⟨h3.1, by show x3 < lo + j; omega⟩, h4⟩
theorem cgA_mem {N : List Lk} {i lo w : Nat} {x : Lk} : ∀ {s : Nat}, x ∈ cgA N i lo w s ↔ x.1 = i ∧ (lo ≤ x.2.1 ∧ x.2.1 < lo + s) ∧ (lo ≤ x.2.2 ∧ x.2.2 < lo + w) ∧ (gN N i).2 ≠ x.2
 | 0 => by simp only [cgA, List.not_mem_nil, false_iff]; omega
 |s + 1 => by
  rw [cgA, List.mem_append, cgA_mem, cgB_mem]
  constructor
  ·rintro (h | h)
   ·exact ⟨h.1, ⟨h.2.1.1, by have := h.2.1.2; omega⟩, h.2.2⟩
   ·exact ⟨h.1, ⟨by omega, by omega⟩, h.2.2⟩
  ·rintro ⟨h1, h2, h3⟩
   by_cases e : x.2.1 = lo + s
   ·exact .inr ⟨h1, e, h3⟩
   ·exact .inl ⟨h1, ⟨h2.1, by omega⟩, h3⟩
theorem cgF_mem {N : List Lk} {lo w : Nat} {x : Lk} : ∀ {k : Nat}, x ∈ cgF N lo w k ↔ x.1 < k ∧ (lo ≤ x.2.1 ∧ x.2.1 < lo + w) ∧ (lo ≤ x.2.2 ∧ x.2.2 < lo + w) ∧ (gN N x.1).2 ≠ x.2
 | 0 => by simp only [cgF, List.not_mem_nil, false_iff]; omega
 |k + 1 => by
  rw [cgF, List.mem_append, cgF_mem, cgA_mem]
  constructor
  ·rintro (h | h)
   ·exact ⟨by omega, h.2⟩
   ·exact ⟨by omega, h.2.1, h.2.2.1, by rw [h.1]; exact h.2.2.2⟩
  ·rintro ⟨h1, h2, h3, h4⟩
   by_cases e : x.1 = k
   ·exact .inr ⟨e, h2, h3, by rw [← e]; exact h4⟩
   ·exact .inl ⟨by omega, h2, h3, h4⟩
abbrev chX (N : List Lk) (x : Lk) : List Lk := chN N x.1 x.2.1 x.2.2
structure cgK (N : List Lk) (x : Lk) : Prop where
 i : x.1 < N.length
 a : tN x.2.1
 b : tN x.2.2
theorem cgK.pc {N : List Lk} {H : List Nat} (h : pcN N H) {x : Lk} (hx : cgK N x) : pcN (chX N x) H := h.len (h.ok.ch hx.i hx.a hx.b) (chN_len _ _ _ _)
theorem cgK.of {N : List Lk} {x y : Lk} (hx : cgK N x) : cgK (chX N y) x := ⟨by rw [chN_len]; exact hx.i, hx.a, hx.b⟩
def d1F (N : List Lk) (H : List Nat) (hand : Nat) (t : Nat × Nat) (l : List Lk) (i : Nat) : Option (List Lk) := if suP N (chX N (gN l i)) H hand t then some [gN l i] else none
def d2G (N : List Lk) (H : List Nat) (hand : Nat) (t : Nat × Nat) (l : List Lk) (i k : Nat) : Option (List Lk) := if (gN l i).1 < (gN l k).1 ∧ suP N (chX (chX N (gN l i)) (gN l k)) H hand t then some [gN l i, gN l k] else none
def d2F (N : List Lk) (H : List Nat) (hand : Nat) (t : Nat × Nat) (l : List Lk) (i : Nat) : Option (List Lk) := fstO (d2G N H hand t l i) (i + 1) (l.length - (i + 1))
def chD (N : List Lk) (H : List Nat) (hand : Nat) (t : Nat × Nat) (l : List Lk) : Option (List Lk) :=
 orE (sr0 N H hand t N 0) (orE (fstO (d1F N H hand t l) 0 l.length) (fstO (d2F N H hand t l) 0 l.length))
theorem wk_c1 (x : Lk) : Wk (.tup [.lst [nv x.1, nv x.2.1, nv x.2.2] (0 + 1) .full, .bool true]) (srV (some [x])) := wk_tup (wk_own (xs := lks (cL [x])) (m := [x].length) rfl)
theorem wk_c2 (x y : Lk) : Wk (.tup [.lst [nv x.1, nv x.2.1, nv x.2.2, nv y.1, nv y.2.1, nv y.2.2] (0 + 1 + 1) .full, .bool true]) (srV (some [x, y])) := wk_tup (wk_own (xs := lks (cL [x, y])) (m := [x, y].length) rfl)
theorem rChanges_pure {N : List Lk} {H : List Nat} (h : pcN N H) {lo hi n d hand : Nat} (hlo : 4 ≤ lo) (hle : lo ≤ hi) (hhi : hi ≤ 60) (hw : hi - lo ≤ 10) (hh : hand < H.length) (hn : n ≤ 50000) (hd : 1 ≤ d ∧ d ≤ 50000) :
  Pure prog 50 [.agg [nkA N, nl (zl H)], nv lo, nv hi, nv hand, fv (Int.ofNat n) (Int.ofNat d)] (srV (chD N H hand (n, d) (cgF N lo (hi + 1 - lo) N.length))) := by
 have lN := lks_no (cL N)
 have lM := ivs_no (zl H)
 have p0 := rSuits_pure h h hh hn hd
 have pA := after_pure h hlo hle hhi
 have hK : ∀ x, x ∈ cgF N lo (hi + 1 - lo) N.length → cgK N x := fun x hx => by
  have m := cgF_mem.1 hx
  exact ⟨m.1, ⟨by omega, by omega⟩, ⟨by omega, by omega⟩⟩
 have hlen : (cgF N lo (hi + 1 - lo) N.length).length ≤ 605 := by
  have g1 := cgF_len N lo (hi + 1 - lo) N.length
  have g2 : N.length * ((hi + 1 - lo) * (hi + 1 - lo)) ≤ 5 * (11 * 11) := Nat.mul_le_mul h.l5 (Nat.mul_le_mul (by omega) (by omega))
  omega
 unfold chD
 generalize cgF N lo (hi + 1 - lo) N.length = l at *
 have lv : Live noL (srV (orE (sr0 N H hand (n, d) N 0) (orE (fstO (d1F N H hand (n, d) l) 0 l.length) (fstO (d2F N H hand (n, d) l) 0 l.length)))) := by
  generalize orE (sr0 N H hand (n, d) N 0) _ = o
  rcases o with _ | _ | ⟨x, r⟩
  ·exact ⟨trivial, trivial, trivial⟩
  ·exact ⟨trivial, trivial, trivial⟩
  ·exact ⟨⟨lks_no _, fun _ e => nomatch e⟩, trivial, trivial⟩
 by_cases hs : suP N N H hand (n, d)
 ·rw [decide_eq_true hs] at p0
  have e0 : sr0 N H hand (n, d) N 0 = some [] := by unfold sr0; rw [if_pos hs]
  rw [e0]
  refine pure_sym hE rfl (by repeat' (first | exact trivial | assumption | exact flat_no _ | exact (fun _ h => nomatch h) | apply And.intro)) (by repeat' (first | exact trivial | assumption | exact flat_no _ | exact (fun _ h => nomatch h) | apply And.intro)) fun S q pc hS hq hC hE => ?_
  conv => whnf
  refine sym_pure hC (p0) ?_
  conv => whnf
  exact ⟨_, rfl, Wk.refl _⟩
 ·rw [decide_eq_false hs] at p0
  have e0 : sr0 N H hand (n, d) N 0 = none := by unfold sr0; rw [if_neg hs]
  rw [e0] at lv ⊢
  rcases l with _ | ⟨x0, l0⟩
  ·have pA : Pure prog 115 [.agg [nkA N, nl (zl H)], iv 0, nv lo, nv hi] .nils := pA
   refine pure_sym hE rfl (by repeat' (first | exact trivial | assumption | exact flat_no _ | exact (fun _ h => nomatch h) | apply And.intro)) (by repeat' (first | exact trivial | assumption | exact flat_no _ | exact (fun _ h => nomatch h) | apply And.intro)) fun S q pc hS hq hC hE => ?_
   conv => whnf
   refine sym_pure hC (p0) ?_
   conv => whnf
   refine sym_pure hC (pA) ?_
   conv => whnf
   refine sym_unroll hE hS ?_
   conv => whnf
   refine sym_unroll hE hS ?_
   conv => whnf
   exact ⟨_, rfl, Wk.refl _⟩
  ·have pA : Pure prog 115 [.agg [nkA N, nl (zl H)], iv 0, nv lo, nv hi] (nkA (x0 :: l0)) := pA
   have ll := lks_no (cL (x0 :: l0))
   generalize hl : x0 :: l0 = l at *
   have hK : ∀ i, i < l.length → cgK N (gN l i) := fun i hi => hK _ (gN_mem l hi)
   refine pure_sym hE rfl (by repeat' (first | exact trivial | assumption | exact flat_no _ | exact (fun _ h => nomatch h) | apply And.intro)) (by repeat' (first | exact trivial | assumption | exact flat_no _ | exact (fun _ h => nomatch h) | apply And.intro)) fun S q pc hS hq hC hE => ?_
   conv => whnf
   refine sym_pure hC (p0) ?_
   conv => whnf
   refine sym_pure hC (pA) ?_
   conv => whnf
   refine sym_hideL fun K hK2 => ?_
   refine sym_loopG hE hS (A := Nat) [3, 5, 9, 12] (fun i => [(13, nv i)]) (fun _ => []) (fun _ => []) (fun i => i ≤ l.length ∧ fstO (d1F N H hand (n, d) l) 0 l.length = fstO (d1F N H hand (n, d) l) i (l.length - i)) (fun i => l.length - i) 0 (Nat.le_of_ble_eq_true rfl) rfl (by refine ⟨rfl, rfl, rfl, rfl, rfl, rfl, 2, rfl, ?_, ?_⟩ <;> repeat' (first | exact trivial | exact rfl | exact ⟨_, rfl, WkV.refl _⟩ | exact ⟨_, rfl, WkV.own _ _ _⟩ | exact Nat.zero_le _ | exact bdl_no lN | exact bdl_no lM | exact bdl_no ll | exact Nat.le_of_ble_eq_true rfl | exact bdl_no (by assumption) | exact bdl_no (flat_no _) | exact bdl_no (ivs_no _) | exact bdl_no (svs_no _) | exact Nat.max_le.2 ⟨Nat.le_of_ble_eq_true rfl, bdl_no (ivs_no _)⟩ | exact Nat.max_le.2 ⟨Nat.le_of_ble_eq_true rfl, bdl_no (svs_no _)⟩ | apply And.intro)) ⟨Nat.zero_le _, rfl⟩ ?_
   intro i ⟨hi, he⟩ Q hQ
   obtain rfl : Q = 2 := hQ
   conv => whnf
   by_cases hi2 : i < l.length
   ·have hi1 : IntKind.i64.wrap (Int.ofNat i + 1) = Int.ofNat (i + 1) := wrapN (m := i + 1) (by omega)
    have kx := hK i hi2
    rw [fstO_step _ hi2] at he
    have p1 := rChanged_pure h.l5 (zl H) kx.i (gN l i).2.1 (gN l i).2.2
    have p2 := rSuits_pure h (kx.pc h) hh hn hd
    have lN2 := lks_no (cL (chX N (gN l i)))
    have t1 := tak_nk l hi2
    by_cases hS1 : suP N (chX N (gN l i)) H hand (n, d)
    ·have e1 : d1F N H hand (n, d) l i = some [gN l i] := by unfold d1F; rw [if_pos hS1]
     rw [e1] at he
     rw [decide_eq_true hS1] at p2
     refine bool_true (ltN_t hi2) ?_
     conv => whnf
     repeat ((first
      |refine plan_as (takP t1) ?_
      |refine ko_rT (inR_t hi2) ?_
      |refine ko_sF (inR_t hi2) ?_
      |refine plan_as (pick_t (inR_t hi2)) ?_
      |refine bool_true (inR_t hi2) ?_
      |refine sym_pure hC (p1) ?_
      |refine sym_pure hC (p2) ?_
      |refine sym_drawn hS (by kernel_rfl) ?_); conv => whnf)
     refine hK2 _ _ ?_
     conv => whnf
     exact ⟨_, rfl, by rw [he]; exact wk_c1 (gN l i)⟩
    ·have e1 : d1F N H hand (n, d) l i = none := by unfold d1F; rw [if_neg hS1]
     rw [e1] at he
     rw [decide_eq_false hS1] at p2
     refine bool_true (ltN_t hi2) ?_
     conv => whnf
     repeat ((first
      |refine plan_as (takP t1) ?_
      |refine ko_rT (inR_t hi2) ?_
      |refine ko_sF (inR_t hi2) ?_
      |refine plan_as (pick_t (inR_t hi2)) ?_
      |refine bool_true (inR_t hi2) ?_
      |refine sym_pure hC (p1) ?_
      |refine sym_pure hC (p2) ?_
      |refine sym_drawn hS (by kernel_rfl) ?_); conv => whnf)
     exact ⟨i + 1, ⟨hi2, he⟩, by omega, Nat.le_refl _, (by refine ⟨rfl, rfl, rfl, rfl, rfl, rfl, 2, rfl, ?_, ?_⟩ <;> repeat' (first | exact trivial | exact rfl | exact ⟨_, rfl, WkV.refl _⟩ | exact ⟨_, rfl, WkV.own _ _ _⟩ | exact Nat.zero_le _ | exact ⟨_, rfl, WkV.int hi1⟩ | exact bdl_no lN | exact bdl_no lM | exact bdl_no ll | exact Nat.le_of_ble_eq_true rfl | exact bdl_no (by assumption) | exact bdl_no (flat_no _) | exact bdl_no (ivs_no _) | exact bdl_no (svs_no _) | exact Nat.max_le.2 ⟨Nat.le_of_ble_eq_true rfl, bdl_no (ivs_no _)⟩ | exact Nat.max_le.2 ⟨Nat.le_of_ble_eq_true rfl, bdl_no (svs_no _)⟩ | apply And.intro))⟩
   ·have e1 : fstO (d1F N H hand (n, d) l) 0 l.length = none := by rw [he, fstO_end _ (by omega)]
    refine bool_false (ltN_f hi2) ?_
    conv => whnf
    refine .inl (hK2 _ _ ?_)
    conv => whnf
    refine sym_hideL fun K hK3 => ?_
    refine sym_loopG hE hS (A := Nat) [3, 5, 9, 12] (fun i => [(14, nv i)]) (fun _ => []) (fun _ => []) (fun i => i ≤ l.length ∧ fstO (d2F N H hand (n, d) l) 0 l.length = fstO (d2F N H hand (n, d) l) i (l.length - i)) (fun i => l.length - i) 0 (Nat.le_of_ble_eq_true rfl) rfl (by refine ⟨rfl, rfl, rfl, rfl, rfl, rfl, 2, rfl, ?_, ?_⟩ <;> repeat' (first | exact trivial | exact rfl | exact ⟨_, rfl, WkV.refl _⟩ | exact ⟨_, rfl, WkV.own _ _ _⟩ | exact Nat.zero_le _ | exact bdl_no lN | exact bdl_no lM | exact bdl_no ll | exact Nat.le_of_ble_eq_true rfl | exact bdl_no (by assumption) | exact bdl_no (flat_no _) | exact bdl_no (ivs_no _) | exact bdl_no (svs_no _) | exact Nat.max_le.2 ⟨Nat.le_of_ble_eq_true rfl, bdl_no (ivs_no _)⟩ | exact Nat.max_le.2 ⟨Nat.le_of_ble_eq_true rfl, bdl_no (svs_no _)⟩ | apply And.intro)) ⟨Nat.zero_le _, rfl⟩ ?_
    intro i ⟨hi, he⟩ Q hQ
    obtain rfl : Q = 2 := hQ
    conv => whnf
    by_cases hi2 : i < l.length
    ·have hi1 : IntKind.i64.wrap (Int.ofNat i + 1) = Int.ofNat (i + 1) := wrapN (m := i + 1) (by omega)
     have kx := hK i hi2
     rw [fstO_step _ hi2] at he
     have p1 := rChanged_pure h.l5 (zl H) kx.i (gN l i).2.1 (gN l i).2.2
     have px := kx.pc h
     have lN2 := lks_no (cL (chX N (gN l i)))
     have t1 := tak_nk l hi2
     refine bool_true (ltN_t hi2) ?_
     conv => whnf
     repeat ((first
      |refine plan_as (takP t1) ?_
      |refine ko_rT (inR_t hi2) ?_
      |refine ko_sF (inR_t hi2) ?_
      |refine plan_as (pick_t (inR_t hi2)) ?_
      |refine bool_true (inR_t hi2) ?_
      |refine sym_pure hC (p1) ?_
      |refine sym_drawn hS (by kernel_rfl) ?_); conv => whnf)
     refine sym_hideL fun K hK4 => ?_
     refine sym_loopG hE hS (A := Nat) [3, 5, 9, 12, 14, 15] (fun k => [(16, nv k)]) (fun _ => []) (fun _ => []) (fun k => i + 1 ≤ k ∧ k ≤ l.length ∧ d2F N H hand (n, d) l i = fstO (d2G N H hand (n, d) l i) k (l.length - k)) (fun k => l.length - k) (i + 1) (Nat.le_of_ble_eq_true rfl) rfl (by refine ⟨rfl, rfl, rfl, rfl, rfl, rfl, 10, rfl, ?_, ?_⟩ <;> repeat' (first | exact trivial | exact rfl | exact ⟨_, rfl, WkV.refl _⟩ | exact ⟨_, rfl, WkV.own _ _ _⟩ | exact Nat.zero_le _ | exact ⟨_, rfl, WkV.int hi1⟩ | exact bdl_no lN | exact bdl_no lN2 | exact bdl_no lM | exact bdl_no ll | exact Nat.le_of_ble_eq_true rfl | exact bdl_no (by assumption) | exact bdl_no (flat_no _) | exact bdl_no (ivs_no _) | exact bdl_no (svs_no _) | exact Nat.max_le.2 ⟨Nat.le_of_ble_eq_true rfl, bdl_no (ivs_no _)⟩ | exact Nat.max_le.2 ⟨Nat.le_of_ble_eq_true rfl, bdl_no (svs_no _)⟩ | apply And.intro)) ⟨Nat.le_refl _, hi2, rfl⟩ ?_
     intro k ⟨hki, hk, hf⟩ Q hQ
     obtain rfl : Q = 10 := hQ
     conv => whnf
     by_cases hk2 : k < l.length
     ·have hk1 : IntKind.i64.wrap (Int.ofNat k + 1) = Int.ofNat (k + 1) := wrapN (m := k + 1) (by omega)
      rw [fstO_step _ hk2] at hf
      have ky := (hK k hk2).of (y := gN l i)
      have p3 := rChanged_pure px.l5 (zl H) ky.i (gN l k).2.1 (gN l k).2.2
      have p4 := rSuits_pure h (ky.pc px) hh hn hd
      have lN3 := lks_no (cL (chX (chX N (gN l i)) (gN l k)))
      have t2 := tak_nk l hk2
      have n1 := nth_nk0 l hi2
      have n2 := nth_nk0 l hk2
      by_cases hg : (gN l i).1 < (gN l k).1
      ·have c1 : decide (Int.ofNat (gN l k).1 > Int.ofNat (gN l i).1) = true := decide_eq_true (Int.ofNat_lt.2 hg)
       by_cases hS2 : suP N (chX (chX N (gN l i)) (gN l k)) H hand (n, d)
       ·have e2 : d2G N H hand (n, d) l i k = some [gN l i, gN l k] := by unfold d2G; rw [if_pos ⟨hg, hS2⟩]
        rw [e2] at hf
        rw [decide_eq_true hS2] at p4
        rw [hf] at he
        refine bool_true (ltN_t hk2) ?_
        conv => whnf
        repeat ((first
         |refine plan_as (nthP n1) ?_
         |refine plan_as (nthP n2) ?_
         |refine plan_as (takP t2) ?_
         |refine plan_as (takP t1) ?_
         |refine ko_rT c1 ?_
         |refine ko_sF c1 ?_
         |refine plan_as (pick_t c1) ?_
         |refine bool_true c1 ?_
         |refine ko_rT (gd_tt c1) ?_
         |refine ko_sF (gd_tt c1) ?_
         |refine plan_as (pick_t (gd_tt c1)) ?_
         |refine bool_true (gd_tt c1) ?_
         |refine ko_rT (inR_t hi2) ?_
         |refine ko_sF (inR_t hi2) ?_
         |refine plan_as (pick_t (inR_t hi2)) ?_
         |refine bool_true (inR_t hi2) ?_
         |refine ko_rT (inR_t hk2) ?_
         |refine ko_sF (inR_t hk2) ?_
         |refine plan_as (pick_t (inR_t hk2)) ?_
         |refine bool_true (inR_t hk2) ?_
         |refine sym_pure hC (p3) ?_
         |refine sym_pure hC (p4) ?_
         |refine sym_drawn hS (by kernel_rfl) ?_); conv => whnf)
        refine hK4 _ _ ?_
        conv => whnf
        refine hK3 _ _ ?_
        conv => whnf
        exact ⟨_, rfl, by rw [e1, he]; exact wk_c2 (gN l i) (gN l k)⟩
       ·have e2 : d2G N H hand (n, d) l i k = none := by unfold d2G; rw [if_neg fun z => hS2 z.2]
        rw [e2] at hf
        rw [decide_eq_false hS2] at p4
        refine bool_true (ltN_t hk2) ?_
        conv => whnf
        repeat ((first
         |refine plan_as (nthP n1) ?_
         |refine plan_as (nthP n2) ?_
         |refine plan_as (takP t2) ?_
         |refine ko_rT c1 ?_
         |refine ko_sF c1 ?_
         |refine plan_as (pick_t c1) ?_
         |refine bool_true c1 ?_
         |refine ko_rT (gd_tt c1) ?_
         |refine ko_sF (gd_tt c1) ?_
         |refine plan_as (pick_t (gd_tt c1)) ?_
         |refine bool_true (gd_tt c1) ?_
         |refine ko_rT (inR_t hi2) ?_
         |refine ko_sF (inR_t hi2) ?_
         |refine plan_as (pick_t (inR_t hi2)) ?_
         |refine bool_true (inR_t hi2) ?_
         |refine ko_rT (inR_t hk2) ?_
         |refine ko_sF (inR_t hk2) ?_
         |refine plan_as (pick_t (inR_t hk2)) ?_
         |refine bool_true (inR_t hk2) ?_
         |refine sym_pure hC (p3) ?_
         |refine sym_pure hC (p4) ?_
         |refine sym_drawn hS (by kernel_rfl) ?_); conv => whnf)
        exact ⟨k + 1, ⟨by omega, hk2, hf⟩, by omega, Nat.le_refl _, (by refine ⟨rfl, rfl, rfl, rfl, rfl, rfl, 10, rfl, ?_, ?_⟩ <;> repeat' (first | exact trivial | exact rfl | exact ⟨_, rfl, WkV.refl _⟩ | exact ⟨_, rfl, WkV.own _ _ _⟩ | exact Nat.zero_le _ | exact ⟨_, rfl, WkV.int hk1⟩ | exact bdl_no lN | exact bdl_no lN2 | exact bdl_no lM | exact bdl_no ll | exact Nat.le_of_ble_eq_true rfl | exact bdl_no (by assumption) | exact bdl_no (flat_no _) | exact bdl_no (ivs_no _) | exact bdl_no (svs_no _) | exact Nat.max_le.2 ⟨Nat.le_of_ble_eq_true rfl, bdl_no (ivs_no _)⟩ | exact Nat.max_le.2 ⟨Nat.le_of_ble_eq_true rfl, bdl_no (svs_no _)⟩ | apply And.intro))⟩
      ·have c1 : decide (Int.ofNat (gN l k).1 > Int.ofNat (gN l i).1) = false := decide_eq_false fun z => hg (Int.ofNat_lt.1 z)
       have e2 : d2G N H hand (n, d) l i k = none := by unfold d2G; rw [if_neg fun z => hg z.1]
       rw [e2] at hf
       refine bool_true (ltN_t hk2) ?_
       conv => whnf
       repeat ((first
        |refine plan_as (nthP n1) ?_
        |refine plan_as (nthP n2) ?_
        |refine ko_sT c1 ?_
        |refine ko_rF c1 ?_
        |refine plan_as (pick_f c1) ?_
        |refine bool_false c1 ?_
        |refine ko_sT (gd_tf c1) ?_
        |refine ko_rF (gd_tf c1) ?_
        |refine plan_as (pick_f (gd_tf c1)) ?_
        |refine bool_false (gd_tf c1) ?_
        |refine ko_rT (inR_t hi2) ?_
        |refine ko_sF (inR_t hi2) ?_
        |refine plan_as (pick_t (inR_t hi2)) ?_
        |refine bool_true (inR_t hi2) ?_
        |refine ko_rT (inR_t hk2) ?_
        |refine ko_sF (inR_t hk2) ?_
        |refine plan_as (pick_t (inR_t hk2)) ?_
        |refine bool_true (inR_t hk2) ?_
        |refine sym_drawn hS (by kernel_rfl) ?_); conv => whnf)
       exact ⟨k + 1, ⟨by omega, hk2, hf⟩, by omega, Nat.le_refl _, (by refine ⟨rfl, rfl, rfl, rfl, rfl, rfl, 10, rfl, ?_, ?_⟩ <;> repeat' (first | exact trivial | exact rfl | exact ⟨_, rfl, WkV.refl _⟩ | exact ⟨_, rfl, WkV.own _ _ _⟩ | exact Nat.zero_le _ | exact ⟨_, rfl, WkV.int hk1⟩ | exact bdl_no lN | exact bdl_no lN2 | exact bdl_no lM | exact bdl_no ll | exact Nat.le_of_ble_eq_true rfl | exact bdl_no (by assumption) | exact bdl_no (flat_no _) | exact bdl_no (ivs_no _) | exact bdl_no (svs_no _) | exact Nat.max_le.2 ⟨Nat.le_of_ble_eq_true rfl, bdl_no (ivs_no _)⟩ | exact Nat.max_le.2 ⟨Nat.le_of_ble_eq_true rfl, bdl_no (svs_no _)⟩ | apply And.intro))⟩
     ·have e2 : d2F N H hand (n, d) l i = none := by rw [hf, fstO_end _ (by omega)]
      rw [e2] at he
      refine bool_false (ltN_f hk2) ?_
      conv => whnf
      refine .inl (hK4 _ _ ?_)
      conv => whnf
      exact ⟨i + 1, ⟨hi2, he⟩, by omega, Nat.le_refl _, (by refine ⟨rfl, rfl, rfl, rfl, rfl, rfl, 2, rfl, ?_, ?_⟩ <;> repeat' (first | exact trivial | exact rfl | exact ⟨_, rfl, WkV.refl _⟩ | exact ⟨_, rfl, WkV.own _ _ _⟩ | exact Nat.zero_le _ | exact ⟨_, rfl, WkV.int hi1⟩ | exact bdl_no lN | exact bdl_no lM | exact bdl_no ll | exact Nat.le_of_ble_eq_true rfl | exact bdl_no (by assumption) | exact bdl_no (flat_no _) | exact bdl_no (ivs_no _) | exact bdl_no (svs_no _) | exact Nat.max_le.2 ⟨Nat.le_of_ble_eq_true rfl, bdl_no (ivs_no _)⟩ | exact Nat.max_le.2 ⟨Nat.le_of_ble_eq_true rfl, bdl_no (svs_no _)⟩ | apply And.intro))⟩
    ·have e2 : fstO (d2F N H hand (n, d) l) 0 l.length = none := by rw [he, fstO_end _ (by omega)]
     refine bool_false (ltN_f hi2) ?_
     conv => whnf
     refine .inl (hK3 _ _ ?_)
     conv => whnf
     exact ⟨_, rfl, by rw [e1, e2]; exact Wk.refl _⟩
end
end Go.Abs.Seat
