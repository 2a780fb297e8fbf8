/-
  The law ShopMore.
-/
import Derived.Test.YtikikanopganaaaGreatDoorU16
import Derived.Test.YtikikanopganaaaGreatDoorL33
/-! The law ShopMore. -/
namespace Go.Abs.Seat
noncomputable section
open Go Go.Abs Go.Proofs.Tryz
set_option maxRecDepth 100000
set_option maxHeartbeats 40000000
attribute [local irreducible] IntKind.wrap pEq

theorem sm_long (hk : Pure prog 14 [] (.bool true)) {x h : AV} {L : List LkI} {M : List Int} (hx : LL x L) (hh : IL h M) (hs : ¬ (L.length ≤ 7 ∧ M.length ≤ 6)) (a b c n d v u : Int) : Pure prog 11 [.agg [x, h], iv a, iv b, iv c, fv n d, iv v, iv u] (.bool true) := by
 have p1 := short_no hx hh hs
 have lx := hx.no
 have lh := hh.no
 rcases hx with ⟨rfl, rfl⟩ | rfl <;> rcases hh with ⟨rfl, rfl⟩ | rfl
 all_goals
  refine pure_sym hE rfl (by repeat' (first | exact trivial | assumption | exact flat_no _ | exact (fun _ h => nomatch h) | apply And.intro)) (by repeat' (first | exact trivial | assumption | exact flat_no _ | exact (fun _ h => nomatch h) | apply And.intro)) fun S q pc hS hq hC hE => ?_
  conv => whnf
  repeat ((first
   |refine sym_pure hC (p1) ?_
   |refine sym_pure hC (hk) ?_
   |refine sym_drawn hS (by kernel_rfl) ?_
   |refine sym_eq hq true (eqBool_same _ _) ?_
   |rw [beq_self_eq_true]
   |rw [bne_self_eq_false]); conv => whnf)
  exact ⟨_, rfl, Wk.refl _⟩
theorem sm_out (hk : Pure prog 14 [] (.bool true)) {x h : AV} {L : List LkI} {M : List Int} (hx : LL x L) (hh : IL h M) (h1 : L.length ≤ 7) (h2 : M.length ≤ 6) (hp : ¬ pcOk L M) (a b c n d v u : Int) : Pure prog 11 [.agg [x, h], iv a, iv b, iv c, fv n d, iv v, iv u] (.bool true) := by
 have p1 := short_yes hx hh h1 h2
 have p3 := rPiece_pure hx hh
 rw [decide_eq_false hp] at p3
 have lx := hx.no
 have lh := hh.no
 rcases hx with ⟨rfl, rfl⟩ | rfl <;> rcases hh with ⟨rfl, rfl⟩ | rfl
 all_goals
  refine pure_sym hE rfl (by repeat' (first | exact trivial | assumption | exact flat_no _ | exact (fun _ h => nomatch h) | apply And.intro)) (by repeat' (first | exact trivial | assumption | exact flat_no _ | exact (fun _ h => nomatch h) | apply And.intro)) fun S q pc hS hq hC hE => ?_
  conv => whnf
  repeat ((first
   |refine sym_pure hC (p1) ?_
   |refine sym_pure hC (p3) ?_
   |refine sym_pure hC (hk) ?_
   |refine sym_drawn hS (by kernel_rfl) ?_
   |refine sym_eq hq true (eqBool_same _ _) ?_
   |rw [beq_self_eq_true]
   |rw [bne_self_eq_false]); conv => whnf)
  exact ⟨_, rfl, Wk.refl _⟩
def upOk (a b v u : Int) : Prop := (0 ≤ v ∧ v ≤ 60) ∧ (0 ≤ u ∧ u ≤ 60) ∧ rgOk (IntKind.i64.wrap (a - v)) (IntKind.i64.wrap (b + u))
theorem sm_no (hk : Pure prog 14 [] (.bool true)) {N : List Lk} {H : List Nat} (h : pcN N H) {a b c n d v u : Int} (hc : ¬ (rgOk a b ∧ (0 ≤ c ∧ c < (H.length : Int)) ∧ isF n d ∧ upOk a b v u)) : Pure prog 11 [.agg [nkA N, nl (zl H)], iv a, iv b, iv c, fv n d, iv v, iv u] (.bool true) := by
 have lN := lks_no (cL N)
 have lM := ivs_no (zl H)
 obtain ⟨bR, pR, iR⟩ := dec_b (rRange_pure a b)
 obtain ⟨bH, pH, iH⟩ := hand_b h c
 obtain ⟨bF, pF, iF⟩ := fr_b n d
 obtain ⟨bS, pS, iS⟩ := dec_b (rRange_pure (IntKind.i64.wrap (a - v)) (IntKind.i64.wrap (b + u)))
 have p1 := h.sh
 have p3 := h.rP
 by_cases hn : bR = true ∧ bH = true ∧ bF = true
 ·obtain ⟨rfl, rfl, rfl⟩ := hn
  by_cases q1 : v < 0
  ·have d1 : decide (v < 0) = true := decide_eq_true q1
   refine pure_sym hE rfl (by repeat' (first | exact trivial | assumption | exact flat_no _ | exact (fun _ h => nomatch h) | apply And.intro)) (by repeat' (first | exact trivial | assumption | exact flat_no _ | exact (fun _ h => nomatch h) | apply And.intro)) fun S q pc hS hq hC hE => ?_
   conv => whnf
   repeat ((first
    |refine sym_pure hC (p1) ?_
    |refine sym_pure hC (p3) ?_
    |refine sym_pure hC (pR) ?_
    |refine sym_pure hC (pH) ?_
    |refine sym_pure hC (pF) ?_
    |refine sym_drawn hS (by kernel_rfl) ?_
    |refine sym_eq hq true (eqBool_same _ _) ?_
    |rw [beq_self_eq_true]
    |rw [bne_self_eq_false]); conv => whnf)
   repeat ((first
    |refine ko_rT d1 ?_
    |refine ko_sF d1 ?_
    |refine plan_as (pick_t d1) ?_
    |refine bool_true d1 ?_
    |refine ko_sT (gft d1) ?_
    |refine ko_rF (gft d1) ?_
    |refine plan_as (pick_f (gft d1)) ?_
    |refine bool_false (gft d1) ?_
    |refine sym_drawn hS (by kernel_rfl) ?_); conv => whnf)
   repeat ((first
    |refine sym_pure hC (hk) ?_
    |refine sym_drawn hS (by kernel_rfl) ?_
    |refine sym_eq hq true (eqBool_same _ _) ?_
    |rw [beq_self_eq_true]
    |rw [bne_self_eq_false]); conv => whnf)
   exact ⟨_, rfl, Wk.refl _⟩
  ·have d1 : decide (v < 0) = false := decide_eq_false q1
   by_cases q2 : v > 60
   ·have d2 : decide (v > 60) = true := decide_eq_true q2
    refine pure_sym hE rfl (by repeat' (first | exact trivial | assumption | exact flat_no _ | exact (fun _ h => nomatch h) | apply And.intro)) (by repeat' (first | exact trivial | assumption | exact flat_no _ | exact (fun _ h => nomatch h) | apply And.intro)) fun S q pc hS hq hC hE => ?_
    conv => whnf
    repeat ((first
     |refine sym_pure hC (p1) ?_
     |refine sym_pure hC (p3) ?_
     |refine sym_pure hC (pR) ?_
     |refine sym_pure hC (pH) ?_
     |refine sym_pure hC (pF) ?_
     |refine sym_drawn hS (by kernel_rfl) ?_
     |refine sym_eq hq true (eqBool_same _ _) ?_
     |rw [beq_self_eq_true]
     |rw [bne_self_eq_false]); conv => whnf)
    repeat ((first
     |refine ko_sT d1 ?_
     |refine ko_rF d1 ?_
     |refine plan_as (pick_f d1) ?_
     |refine bool_false d1 ?_
     |refine ko_rT (gff d1) ?_
     |refine ko_sF (gff d1) ?_
     |refine plan_as (pick_t (gff d1)) ?_
     |refine bool_true (gff d1) ?_
     |refine ko_rT d2 ?_
     |refine ko_sF d2 ?_
     |refine plan_as (pick_t d2) ?_
     |refine bool_true d2 ?_
     |refine ko_sT (gft d2) ?_
     |refine ko_rF (gft d2) ?_
     |refine plan_as (pick_f (gft d2)) ?_
     |refine bool_false (gft d2) ?_
     |refine sym_drawn hS (by kernel_rfl) ?_); conv => whnf)
    repeat ((first
     |refine sym_pure hC (hk) ?_
     |refine sym_drawn hS (by kernel_rfl) ?_
     |refine sym_eq hq true (eqBool_same _ _) ?_
     |rw [beq_self_eq_true]
     |rw [bne_self_eq_false]); conv => whnf)
    exact ⟨_, rfl, Wk.refl _⟩
   ·have d2 : decide (v > 60) = false := decide_eq_false q2
    by_cases q3 : u < 0
    ·have d3 : decide (u < 0) = true := decide_eq_true q3
     refine pure_sym hE rfl (by repeat' (first | exact trivial | assumption | exact flat_no _ | exact (fun _ h => nomatch h) | apply And.intro)) (by repeat' (first | exact trivial | assumption | exact flat_no _ | exact (fun _ h => nomatch h) | apply And.intro)) fun S q pc hS hq hC hE => ?_
     conv => whnf
     repeat ((first
      |refine sym_pure hC (p1) ?_
      |refine sym_pure hC (p3) ?_
      |refine sym_pure hC (pR) ?_
      |refine sym_pure hC (pH) ?_
      |refine sym_pure hC (pF) ?_
      |refine sym_drawn hS (by kernel_rfl) ?_
      |refine sym_eq hq true (eqBool_same _ _) ?_
      |rw [beq_self_eq_true]
      |rw [bne_self_eq_false]); conv => whnf)
     repeat ((first
      |refine ko_sT d1 ?_
      |refine ko_rF d1 ?_
      |refine plan_as (pick_f d1) ?_
      |refine bool_false d1 ?_
      |refine ko_rT (gff d1) ?_
      |refine ko_sF (gff d1) ?_
      |refine plan_as (pick_t (gff d1)) ?_
      |refine bool_true (gff d1) ?_
      |refine ko_sT d2 ?_
      |refine ko_rF d2 ?_
      |refine plan_as (pick_f d2) ?_
      |refine bool_false d2 ?_
      |refine ko_rT (gff d2) ?_
      |refine ko_sF (gff d2) ?_
      |refine plan_as (pick_t (gff d2)) ?_
      |refine bool_true (gff d2) ?_
      |refine ko_rT d3 ?_
      |refine ko_sF d3 ?_
      |refine plan_as (pick_t d3) ?_
      |refine bool_true d3 ?_
      |refine ko_sT (gft d3) ?_
      |refine ko_rF (gft d3) ?_
      |refine plan_as (pick_f (gft d3)) ?_
      |refine bool_false (gft d3) ?_
      |refine sym_drawn hS (by kernel_rfl) ?_); conv => whnf)
     repeat ((first
      |refine sym_pure hC (hk) ?_
      |refine sym_drawn hS (by kernel_rfl) ?_
      |refine sym_eq hq true (eqBool_same _ _) ?_
      |rw [beq_self_eq_true]
      |rw [bne_self_eq_false]); conv => whnf)
     exact ⟨_, rfl, Wk.refl _⟩
    ·have d3 : decide (u < 0) = false := decide_eq_false q3
     by_cases q4 : u > 60
     ·have d4 : decide (u > 60) = true := decide_eq_true q4
      refine pure_sym hE rfl (by repeat' (first | exact trivial | assumption | exact flat_no _ | exact (fun _ h => nomatch h) | apply And.intro)) (by repeat' (first | exact trivial | assumption | exact flat_no _ | exact (fun _ h => nomatch h) | apply And.intro)) fun S q pc hS hq hC hE => ?_
      conv => whnf
      repeat ((first
       |refine sym_pure hC (p1) ?_
       |refine sym_pure hC (p3) ?_
       |refine sym_pure hC (pR) ?_
       |refine sym_pure hC (pH) ?_
       |refine sym_pure hC (pF) ?_
       |refine sym_drawn hS (by kernel_rfl) ?_
       |refine sym_eq hq true (eqBool_same _ _) ?_
       |rw [beq_self_eq_true]
       |rw [bne_self_eq_false]); conv => whnf)
      repeat ((first
       |refine ko_sT d1 ?_
       |refine ko_rF d1 ?_
       |refine plan_as (pick_f d1) ?_
       |refine bool_false d1 ?_
       |refine ko_rT (gff d1) ?_
       |refine ko_sF (gff d1) ?_
       |refine plan_as (pick_t (gff d1)) ?_
       |refine bool_true (gff d1) ?_
       |refine ko_sT d2 ?_
       |refine ko_rF d2 ?_
       |refine plan_as (pick_f d2) ?_
       |refine bool_false d2 ?_
       |refine ko_rT (gff d2) ?_
       |refine ko_sF (gff d2) ?_
       |refine plan_as (pick_t (gff d2)) ?_
       |refine bool_true (gff d2) ?_
       |refine ko_sT d3 ?_
       |refine ko_rF d3 ?_
       |refine plan_as (pick_f d3) ?_
       |refine bool_false d3 ?_
       |refine ko_rT (gff d3) ?_
       |refine ko_sF (gff d3) ?_
       |refine plan_as (pick_t (gff d3)) ?_
       |refine bool_true (gff d3) ?_
       |refine ko_rT d4 ?_
       |refine ko_sF d4 ?_
       |refine plan_as (pick_t d4) ?_
       |refine bool_true d4 ?_
       |refine ko_sT (gft d4) ?_
       |refine ko_rF (gft d4) ?_
       |refine plan_as (pick_f (gft d4)) ?_
       |refine bool_false (gft d4) ?_
       |refine sym_drawn hS (by kernel_rfl) ?_); conv => whnf)
      repeat ((first
       |refine sym_pure hC (hk) ?_
       |refine sym_drawn hS (by kernel_rfl) ?_
       |refine sym_eq hq true (eqBool_same _ _) ?_
       |rw [beq_self_eq_true]
       |rw [bne_self_eq_false]); conv => whnf)
      exact ⟨_, rfl, Wk.refl _⟩
     ·have d4 : decide (u > 60) = false := decide_eq_false q4
      obtain rfl : bS = false := by
       cases bS with
       |false => rfl
       |true => exact absurd ⟨iR.1 rfl, iH.1 rfl, iF.1 rfl, ⟨by omega, by omega⟩, ⟨by omega, by omega⟩, iS.1 rfl⟩ hc
      refine pure_sym hE rfl (by repeat' (first | exact trivial | assumption | exact flat_no _ | exact (fun _ h => nomatch h) | apply And.intro)) (by repeat' (first | exact trivial | assumption | exact flat_no _ | exact (fun _ h => nomatch h) | apply And.intro)) fun S q pc hS hq hC hE => ?_
      conv => whnf
      repeat ((first
       |refine sym_pure hC (p1) ?_
       |refine sym_pure hC (p3) ?_
       |refine sym_pure hC (pR) ?_
       |refine sym_pure hC (pH) ?_
       |refine sym_pure hC (pF) ?_
       |refine sym_drawn hS (by kernel_rfl) ?_
       |refine sym_eq hq true (eqBool_same _ _) ?_
       |rw [beq_self_eq_true]
       |rw [bne_self_eq_false]); conv => whnf)
      repeat ((first
       |refine ko_sT d1 ?_
       |refine ko_rF d1 ?_
       |refine plan_as (pick_f d1) ?_
       |refine bool_false d1 ?_
       |refine ko_rT (gff d1) ?_
       |refine ko_sF (gff d1) ?_
       |refine plan_as (pick_t (gff d1)) ?_
       |refine bool_true (gff d1) ?_
       |refine ko_sT d2 ?_
       |refine ko_rF d2 ?_
       |refine plan_as (pick_f d2) ?_
       |refine bool_false d2 ?_
       |refine ko_rT (gff d2) ?_
       |refine ko_sF (gff d2) ?_
       |refine plan_as (pick_t (gff d2)) ?_
       |refine bool_true (gff d2) ?_
       |refine ko_sT d3 ?_
       |refine ko_rF d3 ?_
       |refine plan_as (pick_f d3) ?_
       |refine bool_false d3 ?_
       |refine ko_rT (gff d3) ?_
       |refine ko_sF (gff d3) ?_
       |refine plan_as (pick_t (gff d3)) ?_
       |refine bool_true (gff d3) ?_
       |refine ko_sT d4 ?_
       |refine ko_rF d4 ?_
       |refine plan_as (pick_f d4) ?_
       |refine bool_false d4 ?_
       |refine ko_rT (gff d4) ?_
       |refine ko_sF (gff d4) ?_
       |refine plan_as (pick_t (gff d4)) ?_
       |refine bool_true (gff d4) ?_
       |refine sym_pure hC (pS) ?_
       |refine sym_drawn hS (by kernel_rfl) ?_); conv => whnf)
      repeat ((first
       |refine sym_pure hC (hk) ?_
       |refine sym_drawn hS (by kernel_rfl) ?_
       |refine sym_eq hq true (eqBool_same _ _) ?_
       |rw [beq_self_eq_true]
       |rw [bne_self_eq_false]); conv => whnf)
      exact ⟨_, rfl, Wk.refl _⟩
 ·cases bR <;> cases bH <;> cases bF
  all_goals first
   |exact absurd ⟨rfl, rfl, rfl⟩ hn
   |skip
  all_goals
   refine pure_sym hE rfl (by repeat' (first | exact trivial | assumption | exact flat_no _ | exact (fun _ h => nomatch h) | apply And.intro)) (by repeat' (first | exact trivial | assumption | exact flat_no _ | exact (fun _ h => nomatch h) | apply And.intro)) fun S q pc hS hq hC hE => ?_
   conv => whnf
   repeat ((first
    |refine sym_pure hC (p1) ?_
    |refine sym_pure hC (p3) ?_
    |refine sym_pure hC (pR) ?_
    |refine sym_pure hC (pH) ?_
    |refine sym_pure hC (pF) ?_
    |refine sym_pure hC (hk) ?_
    |refine sym_drawn hS (by kernel_rfl) ?_
    |refine sym_eq hq true (eqBool_same _ _) ?_
    |rw [beq_self_eq_true]
    |rw [bne_self_eq_false]); conv => whnf)
   exact ⟨_, rfl, Wk.refl _⟩
theorem sm_yes (hk : Pure prog 14 [] (.bool true)) {N : List Lk} {H : List Nat} (h : pcN N H) {a b c n d a2 b2 : Nat} {v u : Int} (hlo : 4 ≤ a) (hle : a ≤ b) (hhi : b ≤ 60) (hc : c < H.length) (hn : n ≤ 50000) (hd : 1 ≤ d ∧ d ≤ 50000) (hv : 0 ≤ v ∧ v ≤ 60) (hu : 0 ≤ u ∧ u ≤ 60) (e1 : IntKind.i64.wrap (Int.ofNat a - v) = Int.ofNat a2) (e2 : IntKind.i64.wrap (Int.ofNat b + u) = Int.ofNat b2)
  (ha2 : 4 ≤ a2) (hle1 : a2 ≤ a) (hle2 : b ≤ b2) (hb2 : b2 ≤ 60) (pR : Pure prog 42 [nv a, nv b] (.bool true)) (pS : Pure prog 42 [nv a2, nv b2] (.bool true)) (pH : Pure prog 30 [.agg [nkA N, nl (zl H)], nv c] (.bool true)) (pF : Pure prog 31 [fv (Int.ofNat n) (Int.ofNat d)] (.bool true)) :
  Pure prog 11 [.agg [nkA N, nl (zl H)], nv a, nv b, nv c, fv (Int.ofNat n) (Int.ofNat d), iv v, iv u] (.bool true) := by
 have lN := lks_no (cL N)
 have lM := ivs_no (zl H)
 have p1 := h.sh
 have p3 := h.rP
 have d1 : decide (v < 0) = false := decide_eq_false (by omega)
 have d2 : decide (v > 60) = false := decide_eq_false (by omega)
 have d3 : decide (u < 0) = false := decide_eq_false (by omega)
 have d4 : decide (u > 60) = false := decide_eq_false (by omega)
 have q1 := adds_pure h.ok h.l1 h.l5 (zl H) h.isP hlo hle hhi hn hd
 rw [best_same (by omega) (by omega)] at q1
 have q2 := adds_pure h.ok h.l1 h.l5 (zl H) h.isP ha2 (by omega : a2 ≤ b2) hb2 hn hd
 rw [best_same (by omega) (by omega)] at q2
 have s1 := adZ_spec h.ok (n := n) (d := d) hlo hle hhi
 have s2 := adZ_spec h.ok (n := n) (d := d) ha2 (by omega : a2 ≤ b2) hb2
 have q1 : Pure prog 41 [.agg [nkA N, nl (zl H)], nv a, nv b, fv (Int.ofNat n) (Int.ofNat d)] (.tup [lkV (adZ N n d a b), iv 0]) := q1
 have q2 : Pure prog 41 [.agg [nkA N, nl (zl H)], nv a2, nv b2, fv (Int.ofNat n) (Int.ofNat d)] (.tup [lkV (adZ N n d a2 b2), iv 0]) := q2
 generalize adZ N n d a b = z at *
 generalize adZ N n d a2 b2 = z2 at *
 have kz := cF_nwK (Nat.le_refl _) hlo (by omega) z s1.1
 have kz2 := cF_nwK (Nat.le_refl _) ha2 (by omega) z2 s2.1
 have mz := cF_mem.1 s1.1
 have hin : z ∈ cF N a2 (b2 + 1 - a2) (N.length + 1) := cF_mem.2 ⟨mz.1, mz.2.1, ⟨by omega, by omega⟩, by omega, by omega⟩
 have lo_of : ∀ (a b : Nat) (y : Lk), a ≤ b → y ∈ cF N a (b + 1 - a) (N.length + 1) → Pure prog 44 [.agg [nkA N, nl (zl H)], nv a, nv b, lkV y] (.bool true) := fun a b y hab hy => by
  have m := cF_mem.1 hy
  have := link_pure h (Int.ofNat a) (Int.ofNat b) (Int.ofNat y.1) (Int.ofNat y.2.1) (Int.ofNat y.2.2)
  rwa [decide_eq_true (show lnOk N (Int.ofNat a) (Int.ofNat b) (Int.ofNat y.1) (Int.ofNat y.2.1) (Int.ofNat y.2.2) from ⟨⟨Int.natCast_nonneg _, Int.ofNat_le.2 (by omega)⟩, m.2.1, ⟨Int.ofNat_le.2 (by omega), Int.ofNat_le.2 (by omega)⟩, Int.ofNat_le.2 (by omega), Int.ofNat_le.2 (by omega)⟩)] at this
 have r1 := lo_of a b z hle s1.1
 have r2 := lo_of a2 b2 z2 (by omega) s2.1
 have pX := rNew_pure h kz2
 have pZ := rNew_pure h kz
 have lX := flat_no (zp (nwT N z2))
 have lZ := flat_no (zp (nwT N z))
 have hne := newer_o h.ok kz2 kz hn hd (s2.2 z hin).1
 have pw := wide_pure (Int.ofNat a2) (Int.ofNat b2) pS
 have ew : IntKind.i64.wrap (Int.ofNat b2 - Int.ofNat a2) = Int.ofNat b2 - Int.ofNat a2 := wrapI (by show _ ≤ (b2 : Int) - (a2 : Int); omega) (by show (b2 : Int) - (a2 : Int) < _; omega)
 have q2 : Pure prog 41 [.agg [nkA N, nl (zl H)], iv (IntKind.i64.wrap (Int.ofNat a - v)), iv (IntKind.i64.wrap (Int.ofNat b + u)), fv (Int.ofNat n) (Int.ofNat d)] (.tup [lkV z2, iv 0]) := by rw [e1, e2]; exact q2
 have r2 : Pure prog 44 [.agg [nkA N, nl (zl H)], iv (IntKind.i64.wrap (Int.ofNat a - v)), iv (IntKind.i64.wrap (Int.ofNat b + u)), lkV z2] (.bool true) := by rw [e1, e2]; exact r2
 have pS : Pure prog 42 [iv (IntKind.i64.wrap (Int.ofNat a - v)), iv (IntKind.i64.wrap (Int.ofNat b + u))] (.bool true) := by rw [e1, e2]; exact pS
 have fin : ∃ o : Int, Pure prog 45 [fv (Int.ofNat n) (Int.ofNat d), pv (zp (nwT N z2)), pv (zp (nwT N z))] (.tup [iv o, iv 0]) ∧ decide (o > 0) = false := by
  rcases hne with p | p
  ·exact ⟨_, p, rfl⟩
  ·exact ⟨_, p.1, rfl⟩
 obtain ⟨o, pN, cN⟩ := fin
 by_cases hw : b2 - a2 ≤ 10
 ·have pw : Pure prog 49 [iv (IntKind.i64.wrap (Int.ofNat a - v)), iv (IntKind.i64.wrap (Int.ofNat b + u))] (.bool true) := by
   rw [e1, e2]
   rwa [ew, decide_eq_true (show Int.ofNat b2 - Int.ofNat a2 ≤ 10 by show (b2 : Int) - (a2 : Int) ≤ 10; omega)] at pw
  have g1 := changes_pure h.ok h.l1 h.l5 h.hdN h.isP hlo hle hhi (by omega) hc hn hd
  have g2 := changes_pure h.ok h.l1 h.l5 h.hdN h.isP ha2 (by omega : a2 ≤ b2) hb2 hw hc hn hd
  have hm : ∀ l, chR N H a b c (n, d) = some l → ∃ m, chR N H a2 b2 c (n, d) = some m ∧ m.length ≤ l.length := fun l hl => chR_mono hle1 hle hle2 hl
  generalize chR N H a b c (n, d) = A at *
  generalize chR N H a2 b2 c (n, d) = B at *
  have g2 : Pure prog 48 [.agg [nkA N, nl (zl H)], iv (IntKind.i64.wrap (Int.ofNat a - v)), iv (IntKind.i64.wrap (Int.ofNat b + u)), nv c, fv (Int.ofNat n) (Int.ofNat d)] (chV B) := by rw [e1, e2]; exact g2
  rcases A with _ | (_ | ⟨x, l⟩)
  ·rcases B with _ | (_ | ⟨y, m⟩)
   ·refine pure_sym hE rfl (by repeat' (first | exact trivial | assumption | exact flat_no _ | exact (fun _ h => nomatch h) | apply And.intro)) (by repeat' (first | exact trivial | assumption | exact flat_no _ | exact (fun _ h => nomatch h) | apply And.intro)) fun S q pc hS hq hC hE => ?_
    conv => whnf
    repeat ((first
     |refine sym_pure hC (p1) ?_
     |refine sym_pure hC (p3) ?_
     |refine sym_pure hC (pR) ?_
     |refine sym_pure hC (pH) ?_
     |refine sym_pure hC (pF) ?_
     |refine sym_drawn hS (by kernel_rfl) ?_
     |refine sym_eq hq true (eqBool_same _ _) ?_
     |rw [beq_self_eq_true]
     |rw [bne_self_eq_false]); conv => whnf)
    repeat ((first
     |refine ko_sT d1 ?_
     |refine ko_rF d1 ?_
     |refine plan_as (pick_f d1) ?_
     |refine bool_false d1 ?_
     |refine ko_rT (gff d1) ?_
     |refine ko_sF (gff d1) ?_
     |refine plan_as (pick_t (gff d1)) ?_
     |refine bool_true (gff d1) ?_
     |refine ko_sT d2 ?_
     |refine ko_rF d2 ?_
     |refine plan_as (pick_f d2) ?_
     |refine bool_false d2 ?_
     |refine ko_rT (gff d2) ?_
     |refine ko_sF (gff d2) ?_
     |refine plan_as (pick_t (gff d2)) ?_
     |refine bool_true (gff d2) ?_
     |refine ko_sT d3 ?_
     |refine ko_rF d3 ?_
     |refine plan_as (pick_f d3) ?_
     |refine bool_false d3 ?_
     |refine ko_rT (gff d3) ?_
     |refine ko_sF (gff d3) ?_
     |refine plan_as (pick_t (gff d3)) ?_
     |refine bool_true (gff d3) ?_
     |refine ko_sT d4 ?_
     |refine ko_rF d4 ?_
     |refine plan_as (pick_f d4) ?_
     |refine bool_false d4 ?_
     |refine ko_rT (gff d4) ?_
     |refine ko_sF (gff d4) ?_
     |refine plan_as (pick_t (gff d4)) ?_
     |refine bool_true (gff d4) ?_
     |refine ko_rT cN ?_
     |refine ko_sF cN ?_
     |refine plan_as (pick_t cN) ?_
     |refine bool_true cN ?_
     |refine ko_sT cN ?_
     |refine ko_rF cN ?_
     |refine plan_as (pick_f cN) ?_
     |refine bool_false cN ?_
     |refine sym_pure hC (pS) ?_
     |refine sym_pure hC (q1) ?_
     |refine sym_pure hC (q2) ?_
     |refine sym_pure hC (r1) ?_
     |refine sym_pure hC (r2) ?_
     |refine sym_pure hC (pX) ?_
     |refine sym_pure hC (pZ) ?_
     |refine sym_pure hC (pN) ?_
     |refine sym_pure hC (pw) ?_
     |refine sym_pure hC (g1) ?_
     |refine sym_pure hC (g2) ?_
     |refine sym_drawn hS (by kernel_rfl) ?_); conv => whnf)
    repeat ((first
     |refine sym_pure hC (hk) ?_
     |refine sym_drawn hS (by kernel_rfl) ?_
     |refine sym_eq hq true (eqBool_same _ _) ?_
     |rw [beq_self_eq_true]
     |rw [bne_self_eq_false]); conv => whnf)
    exact ⟨_, rfl, Wk.refl _⟩
   ·refine pure_sym hE rfl (by repeat' (first | exact trivial | assumption | exact flat_no _ | exact (fun _ h => nomatch h) | apply And.intro)) (by repeat' (first | exact trivial | assumption | exact flat_no _ | exact (fun _ h => nomatch h) | apply And.intro)) fun S q pc hS hq hC hE => ?_
    conv => whnf
    repeat ((first
     |refine sym_pure hC (p1) ?_
     |refine sym_pure hC (p3) ?_
     |refine sym_pure hC (pR) ?_
     |refine sym_pure hC (pH) ?_
     |refine sym_pure hC (pF) ?_
     |refine sym_drawn hS (by kernel_rfl) ?_
     |refine sym_eq hq true (eqBool_same _ _) ?_
     |rw [beq_self_eq_true]
     |rw [bne_self_eq_false]); conv => whnf)
    repeat ((first
     |refine ko_sT d1 ?_
     |refine ko_rF d1 ?_
     |refine plan_as (pick_f d1) ?_
     |refine bool_false d1 ?_
     |refine ko_rT (gff d1) ?_
     |refine ko_sF (gff d1) ?_
     |refine plan_as (pick_t (gff d1)) ?_
     |refine bool_true (gff d1) ?_
     |refine ko_sT d2 ?_
     |refine ko_rF d2 ?_
     |refine plan_as (pick_f d2) ?_
     |refine bool_false d2 ?_
     |refine ko_rT (gff d2) ?_
     |refine ko_sF (gff d2) ?_
     |refine plan_as (pick_t (gff d2)) ?_
     |refine bool_true (gff d2) ?_
     |refine ko_sT d3 ?_
     |refine ko_rF d3 ?_
     |refine plan_as (pick_f d3) ?_
     |refine bool_false d3 ?_
     |refine ko_rT (gff d3) ?_
     |refine ko_sF (gff d3) ?_
     |refine plan_as (pick_t (gff d3)) ?_
     |refine bool_true (gff d3) ?_
     |refine ko_sT d4 ?_
     |refine ko_rF d4 ?_
     |refine plan_as (pick_f d4) ?_
     |refine bool_false d4 ?_
     |refine ko_rT (gff d4) ?_
     |refine ko_sF (gff d4) ?_
     |refine plan_as (pick_t (gff d4)) ?_
     |refine bool_true (gff d4) ?_
     |refine ko_rT cN ?_
     |refine ko_sF cN ?_
     |refine plan_as (pick_t cN) ?_
     |refine bool_true cN ?_
     |refine ko_sT cN ?_
     |refine ko_rF cN ?_
     |refine plan_as (pick_f cN) ?_
     |refine bool_false cN ?_
     |refine sym_pure hC (pS) ?_
     |refine sym_pure hC (q1) ?_
     |refine sym_pure hC (q2) ?_
     |refine sym_pure hC (r1) ?_
     |refine sym_pure hC (r2) ?_
     |refine sym_pure hC (pX) ?_
     |refine sym_pure hC (pZ) ?_
     |refine sym_pure hC (pN) ?_
     |refine sym_pure hC (pw) ?_
     |refine sym_pure hC (g1) ?_
     |refine sym_pure hC (g2) ?_
     |refine sym_drawn hS (by kernel_rfl) ?_); conv => whnf)
    repeat ((first
     |refine sym_pure hC (hk) ?_
     |refine sym_drawn hS (by kernel_rfl) ?_
     |refine sym_eq hq true (eqBool_same _ _) ?_
     |rw [beq_self_eq_true]
     |rw [bne_self_eq_false]); conv => whnf)
    exact ⟨_, rfl, Wk.refl _⟩
   ·have lB := lks_no (cL (y :: m))
    refine pure_sym hE rfl (by repeat' (first | exact trivial | assumption | exact flat_no _ | exact (fun _ h => nomatch h) | apply And.intro)) (by repeat' (first | exact trivial | assumption | exact flat_no _ | exact (fun _ h => nomatch h) | apply And.intro)) fun S q pc hS hq hC hE => ?_
    conv => whnf
    repeat ((first
     |refine sym_pure hC (p1) ?_
     |refine sym_pure hC (p3) ?_
     |refine sym_pure hC (pR) ?_
     |refine sym_pure hC (pH) ?_
     |refine sym_pure hC (pF) ?_
     |refine sym_drawn hS (by kernel_rfl) ?_
     |refine sym_eq hq true (eqBool_same _ _) ?_
     |rw [beq_self_eq_true]
     |rw [bne_self_eq_false]); conv => whnf)
    repeat ((first
     |refine ko_sT d1 ?_
     |refine ko_rF d1 ?_
     |refine plan_as (pick_f d1) ?_
     |refine bool_false d1 ?_
     |refine ko_rT (gff d1) ?_
     |refine ko_sF (gff d1) ?_
     |refine plan_as (pick_t (gff d1)) ?_
     |refine bool_true (gff d1) ?_
     |refine ko_sT d2 ?_
     |refine ko_rF d2 ?_
     |refine plan_as (pick_f d2) ?_
     |refine bool_false d2 ?_
     |refine ko_rT (gff d2) ?_
     |refine ko_sF (gff d2) ?_
     |refine plan_as (pick_t (gff d2)) ?_
     |refine bool_true (gff d2) ?_
     |refine ko_sT d3 ?_
     |refine ko_rF d3 ?_
     |refine plan_as (pick_f d3) ?_
     |refine bool_false d3 ?_
     |refine ko_rT (gff d3) ?_
     |refine ko_sF (gff d3) ?_
     |refine plan_as (pick_t (gff d3)) ?_
     |refine bool_true (gff d3) ?_
     |refine ko_sT d4 ?_
     |refine ko_rF d4 ?_
     |refine plan_as (pick_f d4) ?_
     |refine bool_false d4 ?_
     |refine ko_rT (gff d4) ?_
     |refine ko_sF (gff d4) ?_
     |refine plan_as (pick_t (gff d4)) ?_
     |refine bool_true (gff d4) ?_
     |refine ko_rT cN ?_
     |refine ko_sF cN ?_
     |refine plan_as (pick_t cN) ?_
     |refine bool_true cN ?_
     |refine ko_sT cN ?_
     |refine ko_rF cN ?_
     |refine plan_as (pick_f cN) ?_
     |refine bool_false cN ?_
     |refine sym_pure hC (pS) ?_
     |refine sym_pure hC (q1) ?_
     |refine sym_pure hC (q2) ?_
     |refine sym_pure hC (r1) ?_
     |refine sym_pure hC (r2) ?_
     |refine sym_pure hC (pX) ?_
     |refine sym_pure hC (pZ) ?_
     |refine sym_pure hC (pN) ?_
     |refine sym_pure hC (pw) ?_
     |refine sym_pure hC (g1) ?_
     |refine sym_pure hC (g2) ?_
     |refine sym_drawn hS (by kernel_rfl) ?_); conv => whnf)
    repeat ((first
     |refine sym_pure hC (hk) ?_
     |refine sym_drawn hS (by kernel_rfl) ?_
     |refine sym_eq hq true (eqBool_same _ _) ?_
     |rw [beq_self_eq_true]
     |rw [bne_self_eq_false]); conv => whnf)
    exact ⟨_, rfl, Wk.refl _⟩
  ·obtain ⟨m, rfl, hm2⟩ := hm _ rfl
   obtain rfl : m = [] := List.eq_nil_of_length_eq_zero (Nat.le_zero.1 hm2)
   refine pure_sym hE rfl (by repeat' (first | exact trivial | assumption | exact flat_no _ | exact (fun _ h => nomatch h) | apply And.intro)) (by repeat' (first | exact trivial | assumption | exact flat_no _ | exact (fun _ h => nomatch h) | apply And.intro)) fun S q pc hS hq hC hE => ?_
   conv => whnf
   repeat ((first
    |refine sym_pure hC (p1) ?_
    |refine sym_pure hC (p3) ?_
    |refine sym_pure hC (pR) ?_
    |refine sym_pure hC (pH) ?_
    |refine sym_pure hC (pF) ?_
    |refine sym_drawn hS (by kernel_rfl) ?_
    |refine sym_eq hq true (eqBool_same _ _) ?_
    |rw [beq_self_eq_true]
    |rw [bne_self_eq_false]); conv => whnf)
   repeat ((first
    |refine ko_sT d1 ?_
    |refine ko_rF d1 ?_
    |refine plan_as (pick_f d1) ?_
    |refine bool_false d1 ?_
    |refine ko_rT (gff d1) ?_
    |refine ko_sF (gff d1) ?_
    |refine plan_as (pick_t (gff d1)) ?_
    |refine bool_true (gff d1) ?_
    |refine ko_sT d2 ?_
    |refine ko_rF d2 ?_
    |refine plan_as (pick_f d2) ?_
    |refine bool_false d2 ?_
    |refine ko_rT (gff d2) ?_
    |refine ko_sF (gff d2) ?_
    |refine plan_as (pick_t (gff d2)) ?_
    |refine bool_true (gff d2) ?_
    |refine ko_sT d3 ?_
    |refine ko_rF d3 ?_
    |refine plan_as (pick_f d3) ?_
    |refine bool_false d3 ?_
    |refine ko_rT (gff d3) ?_
    |refine ko_sF (gff d3) ?_
    |refine plan_as (pick_t (gff d3)) ?_
    |refine bool_true (gff d3) ?_
    |refine ko_sT d4 ?_
    |refine ko_rF d4 ?_
    |refine plan_as (pick_f d4) ?_
    |refine bool_false d4 ?_
    |refine ko_rT (gff d4) ?_
    |refine ko_sF (gff d4) ?_
    |refine plan_as (pick_t (gff d4)) ?_
    |refine bool_true (gff d4) ?_
    |refine ko_rT cN ?_
    |refine ko_sF cN ?_
    |refine plan_as (pick_t cN) ?_
    |refine bool_true cN ?_
    |refine ko_sT cN ?_
    |refine ko_rF cN ?_
    |refine plan_as (pick_f cN) ?_
    |refine bool_false cN ?_
    |refine sym_pure hC (pS) ?_
    |refine sym_pure hC (q1) ?_
    |refine sym_pure hC (q2) ?_
    |refine sym_pure hC (r1) ?_
    |refine sym_pure hC (r2) ?_
    |refine sym_pure hC (pX) ?_
    |refine sym_pure hC (pZ) ?_
    |refine sym_pure hC (pN) ?_
    |refine sym_pure hC (pw) ?_
    |refine sym_pure hC (g1) ?_
    |refine sym_pure hC (g2) ?_
    |refine sym_drawn hS (by kernel_rfl) ?_); conv => whnf)
   repeat ((first
    |refine sym_pure hC (hk) ?_
    |refine sym_drawn hS (by kernel_rfl) ?_
    |refine sym_eq hq true (eqBool_same _ _) ?_
    |rw [beq_self_eq_true]
    |rw [bne_self_eq_false]); conv => whnf)
   exact ⟨_, rfl, Wk.refl _⟩
  ·obtain ⟨m, rfl, hm2⟩ := hm _ rfl
   have lA := lks_no (cL (x :: l))
   rcases m with _ | ⟨y, m⟩
   ·refine pure_sym hE rfl (by repeat' (first | exact trivial | assumption | exact flat_no _ | exact (fun _ h => nomatch h) | apply And.intro)) (by repeat' (first | exact trivial | assumption | exact flat_no _ | exact (fun _ h => nomatch h) | apply And.intro)) fun S q pc hS hq hC hE => ?_
    conv => whnf
    repeat ((first
     |refine sym_pure hC (p1) ?_
     |refine sym_pure hC (p3) ?_
     |refine sym_pure hC (pR) ?_
     |refine sym_pure hC (pH) ?_
     |refine sym_pure hC (pF) ?_
     |refine sym_drawn hS (by kernel_rfl) ?_
     |refine sym_eq hq true (eqBool_same _ _) ?_
     |rw [beq_self_eq_true]
     |rw [bne_self_eq_false]); conv => whnf)
    repeat ((first
     |refine ko_sT d1 ?_
     |refine ko_rF d1 ?_
     |refine plan_as (pick_f d1) ?_
     |refine bool_false d1 ?_
     |refine ko_rT (gff d1) ?_
     |refine ko_sF (gff d1) ?_
     |refine plan_as (pick_t (gff d1)) ?_
     |refine bool_true (gff d1) ?_
     |refine ko_sT d2 ?_
     |refine ko_rF d2 ?_
     |refine plan_as (pick_f d2) ?_
     |refine bool_false d2 ?_
     |refine ko_rT (gff d2) ?_
     |refine ko_sF (gff d2) ?_
     |refine plan_as (pick_t (gff d2)) ?_
     |refine bool_true (gff d2) ?_
     |refine ko_sT d3 ?_
     |refine ko_rF d3 ?_
     |refine plan_as (pick_f d3) ?_
     |refine bool_false d3 ?_
     |refine ko_rT (gff d3) ?_
     |refine ko_sF (gff d3) ?_
     |refine plan_as (pick_t (gff d3)) ?_
     |refine bool_true (gff d3) ?_
     |refine ko_sT d4 ?_
     |refine ko_rF d4 ?_
     |refine plan_as (pick_f d4) ?_
     |refine bool_false d4 ?_
     |refine ko_rT (gff d4) ?_
     |refine ko_sF (gff d4) ?_
     |refine plan_as (pick_t (gff d4)) ?_
     |refine bool_true (gff d4) ?_
     |refine ko_rT cN ?_
     |refine ko_sF cN ?_
     |refine plan_as (pick_t cN) ?_
     |refine bool_true cN ?_
     |refine ko_sT cN ?_
     |refine ko_rF cN ?_
     |refine plan_as (pick_f cN) ?_
     |refine bool_false cN ?_
     |refine sym_pure hC (pS) ?_
     |refine sym_pure hC (q1) ?_
     |refine sym_pure hC (q2) ?_
     |refine sym_pure hC (r1) ?_
     |refine sym_pure hC (r2) ?_
     |refine sym_pure hC (pX) ?_
     |refine sym_pure hC (pZ) ?_
     |refine sym_pure hC (pN) ?_
     |refine sym_pure hC (pw) ?_
     |refine sym_pure hC (g1) ?_
     |refine sym_pure hC (g2) ?_
     |refine sym_drawn hS (by kernel_rfl) ?_); conv => whnf)
    repeat ((first
     |refine sym_pure hC (hk) ?_
     |refine sym_drawn hS (by kernel_rfl) ?_
     |refine sym_eq hq true (eqBool_same _ _) ?_
     |rw [beq_self_eq_true]
     |rw [bne_self_eq_false]); conv => whnf)
    exact ⟨_, rfl, Wk.refl _⟩
   ·have lB := lks_no (cL (y :: m))
    have c5 : decide (((y :: m).length : Int) ≤ ((x :: l).length : Int)) = true := decide_eq_true (Int.ofNat_le.2 hm2)
    refine pure_sym hE rfl (by repeat' (first | exact trivial | assumption | exact flat_no _ | exact (fun _ h => nomatch h) | apply And.intro)) (by repeat' (first | exact trivial | assumption | exact flat_no _ | exact (fun _ h => nomatch h) | apply And.intro)) fun S q pc hS hq hC hE => ?_
    conv => whnf
    repeat ((first
     |refine sym_pure hC (p1) ?_
     |refine sym_pure hC (p3) ?_
     |refine sym_pure hC (pR) ?_
     |refine sym_pure hC (pH) ?_
     |refine sym_pure hC (pF) ?_
     |refine sym_drawn hS (by kernel_rfl) ?_
     |refine sym_eq hq true (eqBool_same _ _) ?_
     |rw [beq_self_eq_true]
     |rw [bne_self_eq_false]); conv => whnf)
    repeat ((first
     |refine ko_sT d1 ?_
     |refine ko_rF d1 ?_
     |refine plan_as (pick_f d1) ?_
     |refine bool_false d1 ?_
     |refine ko_rT (gff d1) ?_
     |refine ko_sF (gff d1) ?_
     |refine plan_as (pick_t (gff d1)) ?_
     |refine bool_true (gff d1) ?_
     |refine ko_sT d2 ?_
     |refine ko_rF d2 ?_
     |refine plan_as (pick_f d2) ?_
     |refine bool_false d2 ?_
     |refine ko_rT (gff d2) ?_
     |refine ko_sF (gff d2) ?_
     |refine plan_as (pick_t (gff d2)) ?_
     |refine bool_true (gff d2) ?_
     |refine ko_sT d3 ?_
     |refine ko_rF d3 ?_
     |refine plan_as (pick_f d3) ?_
     |refine bool_false d3 ?_
     |refine ko_rT (gff d3) ?_
     |refine ko_sF (gff d3) ?_
     |refine plan_as (pick_t (gff d3)) ?_
     |refine bool_true (gff d3) ?_
     |refine ko_sT d4 ?_
     |refine ko_rF d4 ?_
     |refine plan_as (pick_f d4) ?_
     |refine bool_false d4 ?_
     |refine ko_rT (gff d4) ?_
     |refine ko_sF (gff d4) ?_
     |refine plan_as (pick_t (gff d4)) ?_
     |refine bool_true (gff d4) ?_
     |refine ko_rT cN ?_
     |refine ko_sF cN ?_
     |refine plan_as (pick_t cN) ?_
     |refine bool_true cN ?_
     |refine ko_sT cN ?_
     |refine ko_rF cN ?_
     |refine plan_as (pick_f cN) ?_
     |refine bool_false cN ?_
     |refine ko_rT c5 ?_
     |refine ko_sF c5 ?_
     |refine plan_as (pick_t c5) ?_
     |refine bool_true c5 ?_
     |refine sym_pure hC (pS) ?_
     |refine sym_pure hC (q1) ?_
     |refine sym_pure hC (q2) ?_
     |refine sym_pure hC (r1) ?_
     |refine sym_pure hC (r2) ?_
     |refine sym_pure hC (pX) ?_
     |refine sym_pure hC (pZ) ?_
     |refine sym_pure hC (pN) ?_
     |refine sym_pure hC (pw) ?_
     |refine sym_pure hC (g1) ?_
     |refine sym_pure hC (g2) ?_
     |refine sym_drawn hS (by kernel_rfl) ?_); conv => whnf)
    repeat ((first
     |refine ko_rT c5 ?_
     |refine ko_sF c5 ?_
     |refine plan_as (pick_t c5) ?_
     |refine bool_true c5 ?_
     |refine ko_rT (gd_tt c5) ?_
     |refine ko_sF (gd_tt c5) ?_
     |refine plan_as (pick_t (gd_tt c5)) ?_
     |refine bool_true (gd_tt c5) ?_
     |refine sym_pure hC (hk) ?_
     |refine sym_drawn hS (by kernel_rfl) ?_); conv => whnf)
    exact ⟨_, rfl, Wk.refl _⟩
 ·have pw : Pure prog 49 [iv (IntKind.i64.wrap (Int.ofNat a - v)), iv (IntKind.i64.wrap (Int.ofNat b + u))] (.bool false) := by
   rw [e1, e2]
   rwa [ew, decide_eq_false (show ¬ Int.ofNat b2 - Int.ofNat a2 ≤ 10 by show ¬ (b2 : Int) - (a2 : Int) ≤ 10; omega)] at pw
  refine pure_sym hE rfl (by repeat' (first | exact trivial | assumption | exact flat_no _ | exact (fun _ h => nomatch h) | apply And.intro)) (by repeat' (first | exact trivial | assumption | exact flat_no _ | exact (fun _ h => nomatch h) | apply And.intro)) fun S q pc hS hq hC hE => ?_
  conv => whnf
  repeat ((first
   |refine sym_pure hC (p1) ?_
   |refine sym_pure hC (p3) ?_
   |refine sym_pure hC (pR) ?_
   |refine sym_pure hC (pH) ?_
   |refine sym_pure hC (pF) ?_
   |refine sym_drawn hS (by kernel_rfl) ?_
   |refine sym_eq hq true (eqBool_same _ _) ?_
   |rw [beq_self_eq_true]
   |rw [bne_self_eq_false]); conv => whnf)
  repeat ((first
   |refine ko_sT d1 ?_
   |refine ko_rF d1 ?_
   |refine plan_as (pick_f d1) ?_
   |refine bool_false d1 ?_
   |refine ko_rT (gff d1) ?_
   |refine ko_sF (gff d1) ?_
   |refine plan_as (pick_t (gff d1)) ?_
   |refine bool_true (gff d1) ?_
   |refine ko_sT d2 ?_
   |refine ko_rF d2 ?_
   |refine plan_as (pick_f d2) ?_
   |refine bool_false d2 ?_
   |refine ko_rT (gff d2) ?_
   |refine ko_sF (gff d2) ?_
   |refine plan_as (pick_t (gff d2)) ?_
   |refine bool_true (gff d2) ?_
   |refine ko_sT d3 ?_
   |refine ko_rF d3 ?_
   |refine plan_as (pick_f d3) ?_
   |refine bool_false d3 ?_
   |refine ko_rT (gff d3) ?_
   |refine ko_sF (gff d3) ?_
   |refine plan_as (pick_t (gff d3)) ?_
   |refine bool_true (gff d3) ?_
   |refine ko_sT d4 ?_
   |refine ko_rF d4 ?_
   |refine plan_as (pick_f d4) ?_
   |refine bool_false d4 ?_
   |refine ko_rT (gff d4) ?_
   |refine ko_sF (gff d4) ?_
   |refine plan_as (pick_t (gff d4)) ?_
   |refine bool_true (gff d4) ?_
   |refine ko_rT cN ?_
   |refine ko_sF cN ?_
   |refine plan_as (pick_t cN) ?_
   |refine bool_true cN ?_
   |refine ko_sT cN ?_
   |refine ko_rF cN ?_
   |refine plan_as (pick_f cN) ?_
   |refine bool_false cN ?_
   |refine sym_pure hC (pS) ?_
   |refine sym_pure hC (q1) ?_
   |refine sym_pure hC (q2) ?_
   |refine sym_pure hC (r1) ?_
   |refine sym_pure hC (r2) ?_
   |refine sym_pure hC (pX) ?_
   |refine sym_pure hC (pZ) ?_
   |refine sym_pure hC (pN) ?_
   |refine sym_pure hC (pw) ?_
   |refine sym_drawn hS (by kernel_rfl) ?_); conv => whnf)
  repeat ((first
   |refine sym_pure hC (hk) ?_
   |refine sym_drawn hS (by kernel_rfl) ?_
   |refine sym_eq hq true (eqBool_same _ _) ?_
   |rw [beq_self_eq_true]
   |rw [bne_self_eq_false]); conv => whnf)
  exact ⟨_, rfl, Wk.refl _⟩
theorem shopMore (hk : Pure prog 14 [] (.bool true)) {x h : AV} {L : List LkI} {M : List Int} (hx : LL x L) (hh : IL h M) (a b c n d v u : Int) : Pure prog 11 [.agg [x, h], iv a, iv b, iv c, fv n d, iv v, iv u] (.bool true) := by
 rcases piece_cases hx hh with hs | ⟨h1, h2, hp⟩ | ⟨N, H, hN, rfl, rfl⟩
 ·exact sm_long hk hx hh hs a b c n d v u
 ·exact sm_out hk hx hh h1 h2 hp a b c n d v u
 ·by_cases hc : rgOk a b ∧ (0 ≤ c ∧ c < (H.length : Int)) ∧ isF n d ∧ upOk a b v u
  ·have pR := rRange_pure a b
   rw [decide_eq_true (show (tth a ∧ tth b) ∧ a ≤ b from hc.1)] at pR
   have pS := rRange_pure (IntKind.i64.wrap (a - v)) (IntKind.i64.wrap (b + u))
   rw [decide_eq_true (show (tth (IntKind.i64.wrap (a - v)) ∧ tth (IntKind.i64.wrap (b + u))) ∧ IntKind.i64.wrap (a - v) ≤ IntKind.i64.wrap (b + u) from hc.2.2.2.2.2)] at pS
   have pF := rFraction_pure n d
   rw [decide_eq_true hc.2.2.1] at pF
   obtain ⟨bH, pH, iH⟩ := hand_b hN c
   obtain rfl : bH = true := iH.2 hc.2.1
   have q := hc.1
   unfold rgOk tth at q
   have l := hc.2.2.2
   unfold upOk rgOk tth at l
   have w1 : IntKind.i64.wrap (a - v) = a - v := wrapI (by omega) (by omega)
   have w2 : IntKind.i64.wrap (b + u) = b + u := wrapI (by omega) (by omega)
   rw [w1, w2] at l
   obtain ⟨a2, e1, _⟩ := int_nat (m := 60) (a := a - v) ⟨by omega, by omega⟩
   obtain ⟨b2, e2, _⟩ := int_nat (m := 60) (a := b + u) ⟨by omega, by omega⟩
   obtain ⟨a, rfl, _⟩ := int_nat (m := 60) (a := a) ⟨by omega, by omega⟩
   obtain ⟨b, rfl, _⟩ := int_nat (m := 60) (a := b) ⟨by omega, by omega⟩
   obtain ⟨c, rfl, _⟩ := int_nat (m := (H.length : Int)) (a := c) ⟨hc.2.1.1, by have := hc.2.1.2; omega⟩
   obtain ⟨n, d, rfl, rfl, q1, q2, q3⟩ := isF_nat hc.2.2.1
   have f1 := w1.trans e1
   have f2 := w2.trans e2
   rw [f1, f2] at pS
   have hcc := hc.2.1.2
   simp only [Int.ofNat_eq_natCast] at q l e1 e2 hcc
   exact sm_yes hk hN (a2 := a2) (b2 := b2) (by omega) (by omega) (by omega) (by omega) q1 ⟨q2, q3⟩ l.1 l.2.1 f1 f2 (by omega) (by omega) (by omega) (by omega) pR pS pH pF
  ·exact sm_no hk hN hc
end
end Go.Abs.Seat
