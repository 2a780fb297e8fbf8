/-
  The law ShopNewer.
-/
import Derived.Test.YtikikanopganaaaGreatDoorU16
import Derived.Test.YtikikanopganaaaGreatDoorU8
/-! The law ShopNewer. -/
namespace Go.Abs.Seat
noncomputable section
open Go Go.Abs Go.Proofs.Tryz
set_option maxRecDepth 100000
set_option maxHeartbeats 40000000
attribute [local irreducible] IntKind.wrap pEq

theorem sn_long (hk : Pure prog 14 [] (.bool true)) {x h : AV} {L : List LkI} {M : List Int} (hx : LL x L) (hh : IL h M) (hs : ¬ (L.length ≤ 7 ∧ M.length ≤ 6)) (a b n d u v w : Int) : Pure prog 8 [.agg [x, h], iv a, iv b, fv n d, tv3 u v w] (.bool true) := by
 have p1 := short_no hx hh hs
 have lx := hx.no
 have lh := hh.no
 rcases hx with ⟨rfl, rfl⟩ | rfl <;> rcases hh with ⟨rfl, rfl⟩ | rfl
 all_goals
  refine pure_sym hE rfl (by repeat' (first | exact trivial | assumption | exact flat_no _ | exact (fun _ h => nomatch h) | apply And.intro)) (by repeat' (first | exact trivial | assumption | exact flat_no _ | exact (fun _ h => nomatch h) | apply And.intro)) fun S q pc hS hq hC hE => ?_
  conv => whnf
  repeat ((first
   |refine sym_pure hC (p1) ?_
   |refine sym_pure hC (hk) ?_
   |refine sym_drawn hS (by kernel_rfl) ?_
   |refine sym_eq hq true (eqBool_same _ _) ?_
   |rw [beq_self_eq_true]
   |rw [bne_self_eq_false]); conv => whnf)
  exact ⟨_, rfl, Wk.refl _⟩
theorem sn_out (hk : Pure prog 14 [] (.bool true)) {x h : AV} {L : List LkI} {M : List Int} (hx : LL x L) (hh : IL h M) (h1 : L.length ≤ 7) (h2 : M.length ≤ 6) (hp : ¬ pcOk L M) (a b n d u v w : Int) : Pure prog 8 [.agg [x, h], iv a, iv b, fv n d, tv3 u v w] (.bool true) := by
 have p1 := short_yes hx hh h1 h2
 have p3 := rPiece_pure hx hh
 rw [decide_eq_false hp] at p3
 have lx := hx.no
 have lh := hh.no
 rcases hx with ⟨rfl, rfl⟩ | rfl <;> rcases hh with ⟨rfl, rfl⟩ | rfl
 all_goals
  refine pure_sym hE rfl (by repeat' (first | exact trivial | assumption | exact flat_no _ | exact (fun _ h => nomatch h) | apply And.intro)) (by repeat' (first | exact trivial | assumption | exact flat_no _ | exact (fun _ h => nomatch h) | apply And.intro)) fun S q pc hS hq hC hE => ?_
  conv => whnf
  repeat ((first
   |refine sym_pure hC (p1) ?_
   |refine sym_pure hC (p3) ?_
   |refine sym_pure hC (hk) ?_
   |refine sym_drawn hS (by kernel_rfl) ?_
   |refine sym_eq hq true (eqBool_same _ _) ?_
   |rw [beq_self_eq_true]
   |rw [bne_self_eq_false]); conv => whnf)
  exact ⟨_, rfl, Wk.refl _⟩
theorem newer_o {N : List Lk} (h : okN N) {n d : Nat} {x y : Lk} (hx : nwK N x) (hy : nwK N y) (hn : n ≤ 50000) (hd : 1 ≤ d ∧ d ≤ 50000) (hf : fle (wyA N n d x) (wyA N n d y)) :
  (Pure prog 45 [fv (Int.ofNat n) (Int.ofNat d), pv (zp (nwT N x)), pv (zp (nwT N y))] (.tup [iv (-1), iv 0])) ∨ (Pure prog 45 [fv (Int.ofNat n) (Int.ofNat d), pv (zp (nwT N x)), pv (zp (nwT N y))] (.tup [iv 0, iv 0]) ∧ fle (wyA N n d y) (wyA N n d x)) := by
 have p := nearer_pure (hx.tv h) (hy.tv h) n d hn hd
 have h1 := near_bt h (n := n) (d := d) hx hy
 have h2 := near_bt h (n := n) (d := d) hy hx
 generalize farN n d (redF ((rtA N x.1).1 * x.2.1) ((rtA N x.1).2 * x.2.2)).1 (redF ((rtA N x.1).1 * x.2.1) ((rtA N x.1).2 * x.2.2)).2 (redF ((rtA N y.1).1 * y.2.1) ((rtA N y.1).2 * y.2.2)).2 = A at *
 generalize farN n d (redF ((rtA N y.1).1 * y.2.1) ((rtA N y.1).2 * y.2.2)).1 (redF ((rtA N y.1).1 * y.2.1) ((rtA N y.1).2 * y.2.2)).2 (redF ((rtA N x.1).1 * x.2.1) ((rtA N x.1).2 * x.2.2)).2 = B at *
 rw [ord_lt] at h1 h2
 have h1 := decide_eq_decide.1 h1
 have h2 := decide_eq_decide.1 h2
 have h3 : ¬ B < A := fun k => bt_fle.1 (h2.1 k) hf
 by_cases k : A < B
 ·left
  rwa [show ordI (Int.ofNat A) (Int.ofNat B) = -1 by unfold ordI; rw [if_pos (show Int.ofNat A < Int.ofNat B from Int.ofNat_lt.2 k)]] at p
 ·right
  rw [show ordI (Int.ofNat A) (Int.ofNat B) = 0 by unfold ordI; rw [if_neg (fun z : Int.ofNat A < Int.ofNat B => k (Int.ofNat_lt.1 z)), if_neg (fun z : Int.ofNat B < Int.ofNat A => h3 (Int.ofNat_lt.1 z))]] at p
  exact ⟨p, Classical.not_not.1 fun q => k (h1.2 (bt_fle.2 q))⟩
theorem sn_no (hk : Pure prog 14 [] (.bool true)) {N : List Lk} {H : List Nat} (h : pcN N H) {a b n d u v w : Int} (hc : ¬ (rgOk a b ∧ isF n d ∧ lnOk N a b u v w)) : Pure prog 8 [.agg [nkA N, nl (zl H)], iv a, iv b, fv n d, tv3 u v w] (.bool true) := by
 have lN := lks_no (cL N)
 have lM := ivs_no (zl H)
 obtain ⟨bR, pR, iR⟩ := dec_b (rRange_pure a b)
 obtain ⟨bF, pF, iF⟩ := fr_b n d
 obtain ⟨bL, pL, iL⟩ := dec_b (link_pure h a b u v w)
 have p1 := h.sh
 have p3 := h.rP
 have hn : ¬ (bR = true ∧ bF = true ∧ bL = true) := fun z => hc ⟨iR.1 z.1, iF.1 z.2.1, iL.1 z.2.2⟩
 cases bR <;> cases bF <;> cases bL
 all_goals first
  |exact absurd ⟨rfl, rfl, rfl⟩ hn
  |skip
 all_goals
  refine pure_sym hE rfl (by repeat' (first | exact trivial | assumption | exact flat_no _ | exact (fun _ h => nomatch h) | apply And.intro)) (by repeat' (first | exact trivial | assumption | exact flat_no _ | exact (fun _ h => nomatch h) | apply And.intro)) fun S q pc hS hq hC hE => ?_
  conv => whnf
  repeat ((first
   |refine sym_pure hC (p1) ?_
   |refine sym_pure hC (p3) ?_
   |refine sym_pure hC (pR) ?_
   |refine sym_pure hC (pF) ?_
   |refine sym_pure hC (pL) ?_
   |refine sym_pure hC (hk) ?_
   |refine sym_drawn hS (by kernel_rfl) ?_
   |refine sym_eq hq true (eqBool_same _ _) ?_
   |rw [beq_self_eq_true]
   |rw [bne_self_eq_false]); conv => whnf)
  exact ⟨_, rfl, Wk.refl _⟩
theorem sn_yes (hk : Pure prog 14 [] (.bool true)) {N : List Lk} {H : List Nat} (h : pcN N H) {a b n d : Nat} {x : Lk} (hlo : 4 ≤ a) (hle : a ≤ b) (hhi : b ≤ 60) (hn : n ≤ 50000) (hd : 1 ≤ d ∧ d ≤ 50000) (pR : Pure prog 42 [nv a, nv b] (.bool true)) (pF : Pure prog 31 [fv (Int.ofNat n) (Int.ofNat d)] (.bool true))
  (hx : x ∈ cF N a (b + 1 - a) (N.length + 1)) : Pure prog 8 [.agg [nkA N, nl (zl H)], nv a, nv b, fv (Int.ofNat n) (Int.ofNat d), lkV x] (.bool true) := by
 have lN := lks_no (cL N)
 have lM := ivs_no (zl H)
 have p1 := h.sh
 have p3 := h.rP
 have p4 := adds_pure h.ok h.l1 h.l5 (zl H) h.isP hlo hle hhi hn hd
 rw [best_same (by omega) (by omega)] at p4
 have hs := adZ_spec h.ok (n := n) (d := d) hlo hle hhi
 have hf := hs.2 x hx
 have hz := hs.1
 have p4 : Pure prog 41 [.agg [nkA N, nl (zl H)], nv a, nv b, fv (Int.ofNat n) (Int.ofNat d)] (.tup [lkV (adZ N n d a b), iv 0]) := p4
 generalize adZ N n d a b = z at *
 have kx := cF_nwK (Nat.le_refl _) hlo (by omega) x hx
 have kz := cF_nwK (Nat.le_refl _) hlo (by omega) z hz
 have lo_of : ∀ y : Lk, y ∈ cF N a (b + 1 - a) (N.length + 1) → Pure prog 44 [.agg [nkA N, nl (zl H)], nv a, nv b, lkV y] (.bool true) := fun y hy => by
  have m := cF_mem.1 hy
  have := link_pure h (Int.ofNat a) (Int.ofNat b) (Int.ofNat y.1) (Int.ofNat y.2.1) (Int.ofNat y.2.2)
  rwa [decide_eq_true (show lnOk N (Int.ofNat a) (Int.ofNat b) (Int.ofNat y.1) (Int.ofNat y.2.1) (Int.ofNat y.2.2) from ⟨⟨Int.natCast_nonneg _, Int.ofNat_le.2 (by omega)⟩, m.2.1, ⟨Int.ofNat_le.2 (by omega), Int.ofNat_le.2 (by omega)⟩, Int.ofNat_le.2 (by omega), Int.ofNat_le.2 (by omega)⟩)] at this
 have pLx := lo_of x hx
 have pLz := lo_of z hz
 have pX := rNew_pure h kx
 have pZ := rNew_pure h kz
 have lX := flat_no (zp (nwT N x))
 have lZ := flat_no (zp (nwT N z))
 have pB := before_pure (Int.ofNat x.2.1) (Int.ofNat x.2.2) (Int.ofNat z.2.1) (Int.ofNat z.2.2)
 obtain ⟨bb, pB, iB⟩ := dec_b pB
 have hB : bb = true → x.1 = z.1 → ltK x z := fun e1 e2 => by
  rcases ordP_lt.1 (iB.1 e1) with q | ⟨q1, q2⟩
  ·exact .inr ⟨e2, .inl (Int.ofNat_lt.1 q)⟩
  ·exact .inr ⟨e2, .inr ⟨Int.ofNat.inj q1, Int.ofNat_lt.1 q2⟩⟩
 rcases newer_o h.ok kz kx hn hd hf.1 with pN | ⟨pN, hG⟩
 ·by_cases q1 : x.1 < z.1
  ·have c1 : decide (Int.ofNat x.1 < Int.ofNat z.1) = true := decide_eq_true (Int.ofNat_lt.2 q1)
   refine pure_sym hE rfl (by repeat' (first | exact trivial | assumption | exact flat_no _ | exact (fun _ h => nomatch h) | apply And.intro)) (by repeat' (first | exact trivial | assumption | exact flat_no _ | exact (fun _ h => nomatch h) | apply And.intro)) fun S q pc hS hq hC hE => ?_
   conv => whnf
   repeat ((first
    |refine sym_pure hC (p1) ?_
    |refine sym_pure hC (p3) ?_
    |refine sym_pure hC (pR) ?_
    |refine sym_pure hC (pF) ?_
    |refine sym_pure hC (pLx) ?_
    |refine sym_pure hC (p4) ?_
    |refine sym_pure hC (pLz) ?_
    |refine sym_pure hC (pX) ?_
    |refine sym_pure hC (pZ) ?_
    |refine sym_pure hC (pN) ?_
    |refine sym_drawn hS (by kernel_rfl) ?_
    |refine sym_eq hq true (eqBool_same _ _) ?_
    |rw [beq_self_eq_true]
    |rw [bne_self_eq_false]); conv => whnf)
   repeat ((first
    |refine ko_rT c1 ?_
    |refine ko_sF c1 ?_
    |refine plan_as (pick_t c1) ?_
    |refine bool_true c1 ?_
    |refine ko_sT (gft c1) ?_
    |refine ko_rF (gft c1) ?_
    |refine plan_as (pick_f (gft c1)) ?_
    |refine bool_false (gft c1) ?_
    |refine sym_drawn hS (by kernel_rfl) ?_); conv => whnf)
   repeat ((first
    |refine sym_pure hC (hk) ?_
    |refine sym_drawn hS (by kernel_rfl) ?_
    |refine sym_eq hq true (eqBool_same _ _) ?_
    |rw [beq_self_eq_true]
    |rw [bne_self_eq_false]); conv => whnf)
   exact ⟨_, rfl, Wk.refl _⟩
  ·have c1 : decide (Int.ofNat x.1 < Int.ofNat z.1) = false := decide_eq_false fun k => q1 (Int.ofNat_lt.1 k)
   by_cases q2 : x.1 = z.1
   ·have c2 : (Int.ofNat x.1 == Int.ofNat z.1) = true := by rw [q2]; exact beq_self_eq_true _
    cases bb
    all_goals
     refine pure_sym hE rfl (by repeat' (first | exact trivial | assumption | exact flat_no _ | exact (fun _ h => nomatch h) | apply And.intro)) (by repeat' (first | exact trivial | assumption | exact flat_no _ | exact (fun _ h => nomatch h) | apply And.intro)) fun S q pc hS hq hC hE => ?_
     conv => whnf
     repeat ((first
      |refine sym_pure hC (p1) ?_
      |refine sym_pure hC (p3) ?_
      |refine sym_pure hC (pR) ?_
      |refine sym_pure hC (pF) ?_
      |refine sym_pure hC (pLx) ?_
      |refine sym_pure hC (p4) ?_
      |refine sym_pure hC (pLz) ?_
      |refine sym_pure hC (pX) ?_
      |refine sym_pure hC (pZ) ?_
      |refine sym_pure hC (pN) ?_
      |refine sym_drawn hS (by kernel_rfl) ?_
      |refine sym_eq hq true (eqBool_same _ _) ?_
      |rw [beq_self_eq_true]
      |rw [bne_self_eq_false]); conv => whnf)
     repeat ((first
      |refine ko_sT c1 ?_
      |refine ko_rF c1 ?_
      |refine plan_as (pick_f c1) ?_
      |refine bool_false c1 ?_
      |refine ko_rT c2 ?_
      |refine ko_sF c2 ?_
      |refine plan_as (pick_t c2) ?_
      |refine bool_true c2 ?_
      |refine ko_rT (gff c1) ?_
      |refine ko_sF (gff c1) ?_
      |refine plan_as (pick_t (gff c1)) ?_
      |refine bool_true (gff c1) ?_
      |refine ko_rT (gd_tt c2) ?_
      |refine ko_sF (gd_tt c2) ?_
      |refine plan_as (pick_t (gd_tt c2)) ?_
      |refine bool_true (gd_tt c2) ?_
      |refine sym_pure hC (pB) ?_
      |refine sym_drawn hS (by kernel_rfl) ?_); conv => whnf)
     repeat ((first
      |refine sym_pure hC (hk) ?_
      |refine sym_drawn hS (by kernel_rfl) ?_
      |refine sym_eq hq true (eqBool_same _ _) ?_
      |rw [beq_self_eq_true]
      |rw [bne_self_eq_false]); conv => whnf)
     exact ⟨_, rfl, Wk.refl _⟩
   ·have c2 : (Int.ofNat x.1 == Int.ofNat z.1) = false := beq_eq_false_iff_ne.2 fun k => q2 (Int.ofNat.inj k)
    refine pure_sym hE rfl (by repeat' (first | exact trivial | assumption | exact flat_no _ | exact (fun _ h => nomatch h) | apply And.intro)) (by repeat' (first | exact trivial | assumption | exact flat_no _ | exact (fun _ h => nomatch h) | apply And.intro)) fun S q pc hS hq hC hE => ?_
    conv => whnf
    repeat ((first
     |refine sym_pure hC (p1) ?_
     |refine sym_pure hC (p3) ?_
     |refine sym_pure hC (pR) ?_
     |refine sym_pure hC (pF) ?_
     |refine sym_pure hC (pLx) ?_
     |refine sym_pure hC (p4) ?_
     |refine sym_pure hC (pLz) ?_
     |refine sym_pure hC (pX) ?_
     |refine sym_pure hC (pZ) ?_
     |refine sym_pure hC (pN) ?_
     |refine sym_drawn hS (by kernel_rfl) ?_
     |refine sym_eq hq true (eqBool_same _ _) ?_
     |rw [beq_self_eq_true]
     |rw [bne_self_eq_false]); conv => whnf)
    repeat ((first
     |refine ko_sT c1 ?_
     |refine ko_rF c1 ?_
     |refine plan_as (pick_f c1) ?_
     |refine bool_false c1 ?_
     |refine ko_sT c2 ?_
     |refine ko_rF c2 ?_
     |refine plan_as (pick_f c2) ?_
     |refine bool_false c2 ?_
     |refine ko_rT (gff c1) ?_
     |refine ko_sF (gff c1) ?_
     |refine plan_as (pick_t (gff c1)) ?_
     |refine bool_true (gff c1) ?_
     |refine ko_sT (gd_tf c2) ?_
     |refine ko_rF (gd_tf c2) ?_
     |refine plan_as (pick_f (gd_tf c2)) ?_
     |refine bool_false (gd_tf c2) ?_
     |refine sym_pure hC (pB) ?_
     |refine sym_drawn hS (by kernel_rfl) ?_); conv => whnf)
    repeat ((first
     |refine sym_pure hC (hk) ?_
     |refine sym_drawn hS (by kernel_rfl) ?_
     |refine sym_eq hq true (eqBool_same _ _) ?_
     |rw [beq_self_eq_true]
     |rw [bne_self_eq_false]); conv => whnf)
    exact ⟨_, rfl, Wk.refl _⟩
 ·have hN := hf.2 hG
  have q1 : ¬ x.1 < z.1 := fun k => hN (.inl k)
  have c1 : decide (Int.ofNat x.1 < Int.ofNat z.1) = false := decide_eq_false fun k => q1 (Int.ofNat_lt.1 k)
  by_cases q2 : x.1 = z.1
  ·have c2 : (Int.ofNat x.1 == Int.ofNat z.1) = true := by rw [q2]; exact beq_self_eq_true _
   cases bb
   ·refine pure_sym hE rfl (by repeat' (first | exact trivial | assumption | exact flat_no _ | exact (fun _ h => nomatch h) | apply And.intro)) (by repeat' (first | exact trivial | assumption | exact flat_no _ | exact (fun _ h => nomatch h) | apply And.intro)) fun S q pc hS hq hC hE => ?_
    conv => whnf
    repeat ((first
     |refine sym_pure hC (p1) ?_
     |refine sym_pure hC (p3) ?_
     |refine sym_pure hC (pR) ?_
     |refine sym_pure hC (pF) ?_
     |refine sym_pure hC (pLx) ?_
     |refine sym_pure hC (p4) ?_
     |refine sym_pure hC (pLz) ?_
     |refine sym_pure hC (pX) ?_
     |refine sym_pure hC (pZ) ?_
     |refine sym_pure hC (pN) ?_
     |refine sym_drawn hS (by kernel_rfl) ?_
     |refine sym_eq hq true (eqBool_same _ _) ?_
     |rw [beq_self_eq_true]
     |rw [bne_self_eq_false]); conv => whnf)
    repeat ((first
     |refine ko_sT c1 ?_
     |refine ko_rF c1 ?_
     |refine plan_as (pick_f c1) ?_
     |refine bool_false c1 ?_
     |refine ko_rT c2 ?_
     |refine ko_sF c2 ?_
     |refine plan_as (pick_t c2) ?_
     |refine bool_true c2 ?_
     |refine ko_rT (gff c1) ?_
     |refine ko_sF (gff c1) ?_
     |refine plan_as (pick_t (gff c1)) ?_
     |refine bool_true (gff c1) ?_
     |refine ko_rT (gd_tt c2) ?_
     |refine ko_sF (gd_tt c2) ?_
     |refine plan_as (pick_t (gd_tt c2)) ?_
     |refine bool_true (gd_tt c2) ?_
     |refine sym_pure hC (pB) ?_
     |refine sym_drawn hS (by kernel_rfl) ?_); conv => whnf)
    repeat ((first
     |refine sym_pure hC (hk) ?_
     |refine sym_drawn hS (by kernel_rfl) ?_
     |refine sym_eq hq true (eqBool_same _ _) ?_
     |rw [beq_self_eq_true]
     |rw [bne_self_eq_false]); conv => whnf)
    exact ⟨_, rfl, Wk.refl _⟩
   ·exact absurd (hB rfl q2) hN
  ·have c2 : (Int.ofNat x.1 == Int.ofNat z.1) = false := beq_eq_false_iff_ne.2 fun k => q2 (Int.ofNat.inj k)
   refine pure_sym hE rfl (by repeat' (first | exact trivial | assumption | exact flat_no _ | exact (fun _ h => nomatch h) | apply And.intro)) (by repeat' (first | exact trivial | assumption | exact flat_no _ | exact (fun _ h => nomatch h) | apply And.intro)) fun S q pc hS hq hC hE => ?_
   conv => whnf
   repeat ((first
    |refine sym_pure hC (p1) ?_
    |refine sym_pure hC (p3) ?_
    |refine sym_pure hC (pR) ?_
    |refine sym_pure hC (pF) ?_
    |refine sym_pure hC (pLx) ?_
    |refine sym_pure hC (p4) ?_
    |refine sym_pure hC (pLz) ?_
    |refine sym_pure hC (pX) ?_
    |refine sym_pure hC (pZ) ?_
    |refine sym_pure hC (pN) ?_
    |refine sym_drawn hS (by kernel_rfl) ?_
    |refine sym_eq hq true (eqBool_same _ _) ?_
    |rw [beq_self_eq_true]
    |rw [bne_self_eq_false]); conv => whnf)
   repeat ((first
    |refine ko_sT c1 ?_
    |refine ko_rF c1 ?_
    |refine plan_as (pick_f c1) ?_
    |refine bool_false c1 ?_
    |refine ko_sT c2 ?_
    |refine ko_rF c2 ?_
    |refine plan_as (pick_f c2) ?_
    |refine bool_false c2 ?_
    |refine ko_rT (gff c1) ?_
    |refine ko_sF (gff c1) ?_
    |refine plan_as (pick_t (gff c1)) ?_
    |refine bool_true (gff c1) ?_
    |refine ko_sT (gd_tf c2) ?_
    |refine ko_rF (gd_tf c2) ?_
    |refine plan_as (pick_f (gd_tf c2)) ?_
    |refine bool_false (gd_tf c2) ?_
    |refine sym_pure hC (pB) ?_
    |refine sym_drawn hS (by kernel_rfl) ?_); conv => whnf)
   repeat ((first
    |refine sym_pure hC (hk) ?_
    |refine sym_drawn hS (by kernel_rfl) ?_
    |refine sym_eq hq true (eqBool_same _ _) ?_
    |rw [beq_self_eq_true]
    |rw [bne_self_eq_false]); conv => whnf)
   exact ⟨_, rfl, Wk.refl _⟩
theorem shopNewer (hk : Pure prog 14 [] (.bool true)) {x h : AV} {L : List LkI} {M : List Int} (hx : LL x L) (hh : IL h M) (a b n d u v w : Int) : Pure prog 8 [.agg [x, h], iv a, iv b, fv n d, tv3 u v w] (.bool true) := by
 rcases piece_cases hx hh with hs | ⟨h1, h2, hp⟩ | ⟨N, H, hN, rfl, rfl⟩
 ·exact sn_long hk hx hh hs a b n d u v w
 ·exact sn_out hk hx hh h1 h2 hp a b n d u v w
 ·by_cases hc : rgOk a b ∧ isF n d ∧ lnOk N a b u v w
  ·have pR := rRange_pure a b
   rw [decide_eq_true (show (tth a ∧ tth b) ∧ a ≤ b from hc.1)] at pR
   have pF := rFraction_pure n d
   rw [decide_eq_true hc.2.1] at pF
   have q := hc.1
   unfold rgOk tth at q
   have l := hc.2.2
   unfold lnOk at l
   obtain ⟨a, rfl, _⟩ := int_nat (m := 60) (a := a) ⟨by omega, by omega⟩
   obtain ⟨b, rfl, _⟩ := int_nat (m := 60) (a := b) ⟨by omega, by omega⟩
   obtain ⟨n, d, rfl, rfl, q1, q2, q3⟩ := isF_nat hc.2.1
   simp only [Int.ofNat_eq_natCast] at q l
   obtain ⟨u, rfl, _⟩ := int_nat (m := (N.length : Int)) (a := u) ⟨by omega, by omega⟩
   obtain ⟨v, rfl, _⟩ := int_nat (m := 60) (a := v) ⟨by omega, by omega⟩
   obtain ⟨w, rfl, _⟩ := int_nat (m := 60) (a := w) ⟨by omega, by omega⟩
   simp only [Int.ofNat_eq_natCast] at l
   refine sn_yes hk hN (x := (u, v, w)) (by omega) (by omega) (by omega) q1 ⟨q2, q3⟩ pR pF (cF_mem.2 ⟨?_, l.2.1, ⟨?_, ?_⟩, ?_, ?_⟩)
   ·show u < N.length + 1; omega
   ·show a ≤ v; omega
   ·show v < a + (b + 1 - a); omega
   ·show a ≤ w; omega
   ·show w < a + (b + 1 - a); omega
  ·exact sn_no hk hN hc
end
end Go.Abs.Seat
