/-
  The law ShopSuits.
-/
import Derived.Test.YtikikanopganaaaGreatDoorU18
/-! The law ShopSuits. -/
namespace Go.Abs.Seat
noncomputable section
open Go Go.Abs Go.Proofs.Tryz
set_option maxRecDepth 100000
set_option maxHeartbeats 40000000
attribute [local irreducible] IntKind.wrap pEq

theorem su_long (hk : Pure prog 14 [] (.bool true)) {x h y : AV} {L O : List LkI} {M : List Int} (hx : LL x L) (hh : IL h M) (hy : LL y O) (hs : ¬ (L.length ≤ 7 ∧ M.length ≤ 6)) (a b c n d : Int) : Pure prog 10 [.agg [x, h], iv a, iv b, iv c, fv n d, y] (.bool true) := by
 have p1 := short_no hx hh hs
 have lx := hx.no
 have lh := hh.no
 have ly := hy.no
 rcases hx with ⟨rfl, rfl⟩ | rfl <;> rcases hh with ⟨rfl, rfl⟩ | rfl <;> rcases hy with ⟨rfl, rfl⟩ | rfl
 all_goals
  refine pure_sym hE rfl (by repeat' (first | exact trivial | assumption | exact flat_no _ | exact (fun _ h => nomatch h) | apply And.intro)) (by repeat' (first | exact trivial | assumption | exact flat_no _ | exact (fun _ h => nomatch h) | apply And.intro)) fun S q pc hS hq hC hE => ?_
  conv => whnf
  repeat ((first
   |refine sym_pure hC (p1) ?_
   |refine sym_pure hC (hk) ?_
   |refine sym_drawn hS (by kernel_rfl) ?_
   |refine sym_eq hq true (eqBool_same _ _) ?_
   |rw [beq_self_eq_true]
   |rw [bne_self_eq_false]); conv => whnf)
  exact ⟨_, rfl, Wk.refl _⟩
theorem su_big (hk : Pure prog 14 [] (.bool true)) {x h y : AV} {L O : List LkI} {M : List Int} (hx : LL x L) (hh : IL h M) (hy : LL y O) (h1 : L.length ≤ 7) (h2 : M.length ≤ 6) (h4 : ¬ O.length ≤ 4) (a b c n d : Int) : Pure prog 10 [.agg [x, h], iv a, iv b, iv c, fv n d, y] (.bool true) := by
 have p1 := short_yes hx hh h1 h2
 have c4 : decide ((O.length : Int) > 4) = true := decide_eq_true (by omega)
 rcases hy with ⟨rfl, rfl⟩ | rfl
 ·exact absurd (by decide) h4
 ·have lO := lks_no O
  have lx := hx.no
  have lh := hh.no
  rcases hx with ⟨rfl, rfl⟩ | rfl <;> rcases hh with ⟨rfl, rfl⟩ | rfl
  all_goals
   refine pure_sym hE rfl (by repeat' (first | exact trivial | assumption | exact flat_no _ | exact (fun _ h => nomatch h) | apply And.intro)) (by repeat' (first | exact trivial | assumption | exact flat_no _ | exact (fun _ h => nomatch h) | apply And.intro)) fun S q pc hS hq hC hE => ?_
   conv => whnf
   repeat ((first
    |refine ko_rT c4 ?_
    |refine ko_sF c4 ?_
    |refine plan_as (pick_t c4) ?_
    |refine bool_true c4 ?_
    |refine ko_sT (gft c4) ?_
    |refine ko_rF (gft c4) ?_
    |refine plan_as (pick_f (gft c4)) ?_
    |refine bool_false (gft c4) ?_
    |refine sym_pure hC (p1) ?_
    |refine sym_pure hC (hk) ?_
    |refine sym_drawn hS (by kernel_rfl) ?_); conv => whnf)
   exact ⟨_, rfl, Wk.refl _⟩
theorem su_out (hk : Pure prog 14 [] (.bool true)) {x h y : AV} {L O : List LkI} {M : List Int} (hx : LL x L) (hh : IL h M) (hy : LL y O) (h1 : L.length ≤ 7) (h2 : M.length ≤ 6) (h4 : O.length ≤ 4) (hp : ¬ pcOk L M) (a b c n d : Int) : Pure prog 10 [.agg [x, h], iv a, iv b, iv c, fv n d, y] (.bool true) := by
 have p1 := short_yes hx hh h1 h2
 have p3 := rPiece_pure hx hh
 rw [decide_eq_false hp] at p3
 have c4 : decide ((O.length : Int) > 4) = false := decide_eq_false (by omega)
 have lx := hx.no
 have lh := hh.no
 have ly := hy.no
 rcases hx with ⟨rfl, rfl⟩ | rfl <;> rcases hh with ⟨rfl, rfl⟩ | rfl <;> rcases hy with ⟨rfl, rfl⟩ | rfl
 all_goals
  refine pure_sym hE rfl (by repeat' (first | exact trivial | assumption | exact flat_no _ | exact (fun _ h => nomatch h) | apply And.intro)) (by repeat' (first | exact trivial | assumption | exact flat_no _ | exact (fun _ h => nomatch h) | apply And.intro)) fun S q pc hS hq hC hE => ?_
  conv => whnf
  repeat ((first
   |refine ko_sT c4 ?_
   |refine ko_rF c4 ?_
   |refine plan_as (pick_f c4) ?_
   |refine bool_false c4 ?_
   |refine ko_rT (gff c4) ?_
   |refine ko_sF (gff c4) ?_
   |refine plan_as (pick_t (gff c4)) ?_
   |refine bool_true (gff c4) ?_
   |refine sym_pure hC (p1) ?_
   |refine sym_pure hC (p3) ?_
   |refine sym_pure hC (hk) ?_
   |refine sym_drawn hS (by kernel_rfl) ?_); conv => whnf)
  exact ⟨_, rfl, Wk.refl _⟩
theorem su_no (hk : Pure prog 14 [] (.bool true)) {N : List Lk} {H : List Nat} (h : pcN N H) {y : AV} {O : List LkI} (hy : LL y O) (h4 : O.length ≤ 4) {a b c n d : Int} (hc : ¬ (cuOk H.length a b c n d ∧ csOk N a b O)) : Pure prog 10 [.agg [nkA N, nl (zl H)], iv a, iv b, iv c, fv n d, y] (.bool true) := by
 have lN := lks_no (cL N)
 have lM := ivs_no (zl H)
 obtain ⟨bW, pW, iW⟩ := wide_b a b
 obtain ⟨bH, pH, iH⟩ := hand_b h c
 obtain ⟨bF, pF, iF⟩ := fr_b n d
 obtain ⟨bC, pC, iC⟩ := dec_b (lchanges_pure h a b hy h4)
 have p1 := h.sh
 have p3 := h.rP
 have c4 : decide ((O.length : Int) > 4) = false := decide_eq_false (by omega)
 have hn : ¬ (bW = true ∧ bH = true ∧ bF = true ∧ bC = true) := fun z => hc ⟨⟨iW.1 z.1, iH.1 z.2.1, iF.1 z.2.2.1⟩, iC.1 z.2.2.2⟩
 have ly := hy.no
 have lO := lks_no O
 rcases hy with ⟨rfl, rfl⟩ | rfl
 all_goals
  cases bW <;> cases bH <;> cases bF <;> cases bC
 all_goals first
  |exact absurd ⟨rfl, rfl, rfl, rfl⟩ hn
  |skip
 all_goals
  refine pure_sym hE rfl (by repeat' (first | exact trivial | assumption | exact flat_no _ | exact (fun _ h => nomatch h) | apply And.intro)) (by repeat' (first | exact trivial | assumption | exact flat_no _ | exact (fun _ h => nomatch h) | apply And.intro)) fun S q pc hS hq hC hE => ?_
  conv => whnf
  repeat ((first
   |refine ko_sT c4 ?_
   |refine ko_rF c4 ?_
   |refine plan_as (pick_f c4) ?_
   |refine bool_false c4 ?_
   |refine ko_rT (gff c4) ?_
   |refine ko_sF (gff c4) ?_
   |refine plan_as (pick_t (gff c4)) ?_
   |refine bool_true (gff c4) ?_
   |refine sym_pure hC (p1) ?_
   |refine sym_pure hC (p3) ?_
   |refine sym_pure hC (pW) ?_
   |refine sym_pure hC (pH) ?_
   |refine sym_pure hC (pF) ?_
   |refine sym_pure hC (pC) ?_
   |refine sym_pure hC (hk) ?_
   |refine sym_drawn hS (by kernel_rfl) ?_); conv => whnf)
  exact ⟨_, rfl, Wk.refl _⟩
structure Cmp (o l : List Lk) (can : Bool) : Prop where
 le : can = true → l.length ≤ o.length
 so : can = true → l.length = o.length → soonB o l = false
theorem su_yes (hk : Pure prog 14 [] (.bool true)) {N : List Lk} {H : List Nat} (h : pcN N H) {y : AV} {o : List Lk} (hy : gV y o) {a b c n d : Nat} (hlo : 4 ≤ a) (hle : a ≤ b) (hhi : b ≤ 60) (hw : b - a ≤ 10) (hh : c < H.length) (hn : n ≤ 50000) (hd : 1 ≤ d ∧ d ≤ 50000) (pW : Pure prog 49 [nv a, nv b] (.bool true)) (pH : Pure prog 30 [.agg [nkA N, nl (zl H)], nv c] (.bool true)) (pF : Pure prog 31 [fv (Int.ofNat n) (Int.ofNat d)] (.bool true))
  (ho : inA (cgF N a (b + 1 - a) N.length) o) (pC : Pure prog 52 [.agg [nkA N, nl (zl H)], nv a, nv b, y] (.bool true)) :
  Pure prog 10 [.agg [nkA N, nl (zl H)], nv a, nv b, nv c, fv (Int.ofNat n) (Int.ofNat d), y] (.bool true) := by
 have lN := lks_no (cL N)
 have lM := ivs_no (zl H)
 have p1 := h.sh
 have p3 := h.rP
 have q1 := changes_pure h.ok h.l1 h.l5 h.hdN h.isP hlo hle hhi hw hh hn hd
 have oK := inA_K hlo hhi ho
 have o2 := inA_len ho
 have q2d := lsuits_pure h hy oK o2 hh hn hd
 have c4 : decide ((o.length : Int) > 4) = false := decide_eq_false (by omega)
 have hmin := fun hs => chR_min (N := N) (H := H) (lo := a) (hi := b) (hand := c) (t := (n, d)) ho hs
 have hok := fun l hl => chR_ok (N := N) (H := H) (lo := a) (hi := b) (hand := c) (t := (n, d)) (l := l) hl
 obtain ⟨can, q2, ic⟩ := dec_b q2d
 clear q2d
 have hmin := fun e => hmin (ic.1 e)
 generalize chR N H a b c (n, d) = A at *
 have lO := lks_no (cL o)
 have d1 : (true : Bool) = true := rfl
 have d2 : (true : Bool) = true := rfl
 have d3 : (Int.ofNat c == Int.ofNat c) = true := beq_self_eq_true _
 rcases A with _ | l
 ·have hcan : can = false := by
   cases can with
   |false => rfl
   |true => obtain ⟨l, e, _⟩ := hmin rfl; cases e
  subst hcan
  have q1 : Pure prog 48 [.agg [nkA N, nl (zl H)], nv a, nv b, nv c, fv (Int.ofNat n) (Int.ofNat d)] (.tup [.nils, iv 5]) := q1
  have r1 := hk
  have r2 := hk
  have r3 := hk
  have r4 := hk
  rcases hy with rfl | ⟨rfl, rfl⟩
  all_goals
   refine pure_sym hE rfl (by repeat' (first | exact trivial | assumption | exact flat_no _ | exact (fun _ h => nomatch h) | apply And.intro)) (by repeat' (first | exact trivial | assumption | exact flat_no _ | exact (fun _ h => nomatch h) | apply And.intro)) fun S q pc hS hq hC hE => ?_
   conv => whnf
   repeat ((first
    |refine ko_sT c4 ?_
    |refine ko_rF c4 ?_
    |refine plan_as (pick_f c4) ?_
    |refine bool_false c4 ?_
    |refine ko_rT (gff c4) ?_
    |refine ko_sF (gff c4) ?_
    |refine plan_as (pick_t (gff c4)) ?_
    |refine bool_true (gff c4) ?_
    |refine sym_pure hC (p1) ?_
    |refine sym_pure hC (p3) ?_
    |refine sym_pure hC (pW) ?_
    |refine sym_pure hC (pH) ?_
    |refine sym_pure hC (pF) ?_
    |refine sym_pure hC (pC) ?_
    |refine sym_pure hC (q1) ?_
    |refine sym_pure hC (q2) ?_
    |refine sym_drawn hS (by kernel_rfl) ?_); conv => whnf)
   repeat ((first
    |refine ko_rT d1 ?_
    |refine ko_sF d1 ?_
    |refine plan_as (pick_t d1) ?_
    |refine bool_true d1 ?_
    |refine ko_rT d2 ?_
    |refine ko_sF d2 ?_
    |refine plan_as (pick_t d2) ?_
    |refine bool_true d2 ?_
    |refine ko_rT d3 ?_
    |refine ko_sF d3 ?_
    |refine plan_as (pick_t d3) ?_
    |refine bool_true d3 ?_
    |refine ko_rT (gff d1) ?_
    |refine ko_sF (gff d1) ?_
    |refine plan_as (pick_t (gff d1)) ?_
    |refine bool_true (gff d1) ?_
    |refine ko_rT (gd_tt d2) ?_
    |refine ko_sF (gd_tt d2) ?_
    |refine plan_as (pick_t (gd_tt d2)) ?_
    |refine bool_true (gd_tt d2) ?_
    |refine ko_sT (gd_tf d2) ?_
    |refine ko_rF (gd_tf d2) ?_
    |refine plan_as (pick_f (gd_tf d2)) ?_
    |refine bool_false (gd_tf d2) ?_
    |refine sym_pure hC (r1) ?_
    |refine sym_pure hC (r2) ?_
    |refine sym_pure hC (r3) ?_
    |refine sym_pure hC (r4) ?_
    |refine sym_pure hC (hk) ?_
    |refine sym_drawn hS (by kernel_rfl) ?_); conv => whnf)
   repeat ((first
    |refine sym_pure hC (hk) ?_
    |refine sym_drawn hS (by kernel_rfl) ?_
    |refine sym_eq hq true (eqBool_same _ _) ?_
    |rw [beq_self_eq_true]
    |rw [bne_self_eq_false]); conv => whnf)
   first | exact ⟨_, rfl, Wk.refl _⟩ | skip
 ·obtain ⟨hA, hS1⟩ := hok l rfl
  have hcmp : can = true → l.length < o.length ∨ l.length = o.length ∧ soonB o l = false := fun e => by
   obtain ⟨m, e2, q⟩ := hmin e
   injection e2 with e2
   subst e2
   exact q
  clear hmin hok
  have hA0 := hA
  rcases hA0 with rfl | ⟨x1, hx1, rfl⟩ | ⟨x1, x2, hx1, hx2, h12, rfl⟩
  ·have q1 : Pure prog 48 [.agg [nkA N, nl (zl H)], nv a, nv b, nv c, fv (Int.ofNat n) (Int.ofNat d)] (.tup [.nils, iv 0]) := q1
   have r4 := hk
   have r1 : Pure prog 52 [.agg [nkA N, nl (zl H)], nv a, nv b, .nils] (.bool true) := by
    have := lchanges_pure h (Int.ofNat a) (Int.ofNat b) (x := .nils) (L := cL ([] : List Lk)) (.inl ⟨rfl, rfl⟩) (by rw [cL_len]; exact Nat.le_trans (inA_len hA) (by decide))
    rwa [decide_eq_true (csOk_of hlo hhi hA)] at this
   have r2 : Pure prog 53 [.agg [nkA N, nl (zl H)], .nils, nv c, fv (Int.ofNat n) (Int.ofNat d)] (.bool true) := by
    have := lsuits_pure h (v := .nils) (l := []) (.inr ⟨rfl, rfl⟩) (inA_K hlo hhi hA) (inA_len hA) hh hn hd
    rwa [decide_eq_true hS1] at this
   cases can with
   |false =>
    have r3 := hk
    rcases hy with rfl | ⟨rfl, rfl⟩
    all_goals first | exact absurd (ic.2 hS1) Bool.false_ne_true | skip
    all_goals
     refine pure_sym hE rfl (by repeat' (first | exact trivial | assumption | exact flat_no _ | exact (fun _ h => nomatch h) | apply And.intro)) (by repeat' (first | exact trivial | assumption | exact flat_no _ | exact (fun _ h => nomatch h) | apply And.intro)) fun S q pc hS hq hC hE => ?_
     conv => whnf
     repeat ((first
      |refine ko_sT c4 ?_
      |refine ko_rF c4 ?_
      |refine plan_as (pick_f c4) ?_
      |refine bool_false c4 ?_
      |refine ko_rT (gff c4) ?_
      |refine ko_sF (gff c4) ?_
      |refine plan_as (pick_t (gff c4)) ?_
      |refine bool_true (gff c4) ?_
      |refine sym_pure hC (p1) ?_
      |refine sym_pure hC (p3) ?_
      |refine sym_pure hC (pW) ?_
      |refine sym_pure hC (pH) ?_
      |refine sym_pure hC (pF) ?_
      |refine sym_pure hC (pC) ?_
      |refine sym_pure hC (q1) ?_
      |refine sym_pure hC (q2) ?_
      |refine sym_drawn hS (by kernel_rfl) ?_); conv => whnf)
     repeat ((first
      |refine ko_rT d1 ?_
      |refine ko_sF d1 ?_
      |refine plan_as (pick_t d1) ?_
      |refine bool_true d1 ?_
      |refine ko_rT d2 ?_
      |refine ko_sF d2 ?_
      |refine plan_as (pick_t d2) ?_
      |refine bool_true d2 ?_
      |refine ko_rT d3 ?_
      |refine ko_sF d3 ?_
      |refine plan_as (pick_t d3) ?_
      |refine bool_true d3 ?_
      |refine ko_rT (gff d1) ?_
      |refine ko_sF (gff d1) ?_
      |refine plan_as (pick_t (gff d1)) ?_
      |refine bool_true (gff d1) ?_
      |refine ko_rT (gd_tt d2) ?_
      |refine ko_sF (gd_tt d2) ?_
      |refine plan_as (pick_t (gd_tt d2)) ?_
      |refine bool_true (gd_tt d2) ?_
      |refine ko_sT (gd_tf d2) ?_
      |refine ko_rF (gd_tf d2) ?_
      |refine plan_as (pick_f (gd_tf d2)) ?_
      |refine bool_false (gd_tf d2) ?_
      |refine sym_pure hC (r1) ?_
      |refine sym_pure hC (r2) ?_
      |refine sym_pure hC (r3) ?_
      |refine sym_pure hC (r4) ?_
      |refine sym_pure hC (hk) ?_
      |refine sym_drawn hS (by kernel_rfl) ?_); conv => whnf)
     repeat ((first
      |refine sym_pure hC (hk) ?_
      |refine sym_drawn hS (by kernel_rfl) ?_
      |refine sym_eq hq true (eqBool_same _ _) ?_
      |rw [beq_self_eq_true]
      |rw [bne_self_eq_false]); conv => whnf)
     first | exact ⟨_, rfl, Wk.refl _⟩ | skip
   |true =>
    have hl := hcmp rfl
    have hle : ([] : List Lk).length ≤ o.length := by rcases hl with q | q <;> omega
    by_cases e : ([] : List Lk).length = o.length
    ·have hso : soonB o ([] : List Lk) = false := by
      rcases hl with q | q
      ·omega
      ·exact q.2
     have r3 := lsooner_pure hy (vb := .nils) (b := []) (.inr ⟨rfl, rfl⟩) e.symm o2
     rw [hso] at r3
     have d1 : decide ((o.length : Int) < 0) = false := decide_eq_false (by have hle : 0 ≤ o.length := hle; omega)
     have d2 : ((o.length : Int) == 0) = true := by rw [beq_iff_eq]; have e : 0 = o.length := e; omega
     rcases hy with rfl | ⟨rfl, rfl⟩
     all_goals first | exact absurd hle (Nat.not_succ_le_zero _) | exact absurd rfl e | skip
     all_goals
      refine pure_sym hE rfl (by repeat' (first | exact trivial | assumption | exact flat_no _ | exact (fun _ h => nomatch h) | apply And.intro)) (by repeat' (first | exact trivial | assumption | exact flat_no _ | exact (fun _ h => nomatch h) | apply And.intro)) fun S q pc hS hq hC hE => ?_
      conv => whnf
      repeat ((first
       |refine ko_sT c4 ?_
       |refine ko_rF c4 ?_
       |refine plan_as (pick_f c4) ?_
       |refine bool_false c4 ?_
       |refine ko_rT (gff c4) ?_
       |refine ko_sF (gff c4) ?_
       |refine plan_as (pick_t (gff c4)) ?_
       |refine bool_true (gff c4) ?_
       |refine sym_pure hC (p1) ?_
       |refine sym_pure hC (p3) ?_
       |refine sym_pure hC (pW) ?_
       |refine sym_pure hC (pH) ?_
       |refine sym_pure hC (pF) ?_
       |refine sym_pure hC (pC) ?_
       |refine sym_pure hC (q1) ?_
       |refine sym_pure hC (q2) ?_
       |refine sym_drawn hS (by kernel_rfl) ?_); conv => whnf)
      repeat ((first
       |refine ko_sT d1 ?_
       |refine ko_rF d1 ?_
       |refine plan_as (pick_f d1) ?_
       |refine bool_false d1 ?_
       |refine ko_rT d2 ?_
       |refine ko_sF d2 ?_
       |refine plan_as (pick_t d2) ?_
       |refine bool_true d2 ?_
       |refine ko_rT d3 ?_
       |refine ko_sF d3 ?_
       |refine plan_as (pick_t d3) ?_
       |refine bool_true d3 ?_
       |refine ko_rT (gff d1) ?_
       |refine ko_sF (gff d1) ?_
       |refine plan_as (pick_t (gff d1)) ?_
       |refine bool_true (gff d1) ?_
       |refine ko_rT (gd_tt d2) ?_
       |refine ko_sF (gd_tt d2) ?_
       |refine plan_as (pick_t (gd_tt d2)) ?_
       |refine bool_true (gd_tt d2) ?_
       |refine ko_sT (gd_tf d2) ?_
       |refine ko_rF (gd_tf d2) ?_
       |refine plan_as (pick_f (gd_tf d2)) ?_
       |refine bool_false (gd_tf d2) ?_
       |refine sym_pure hC (r1) ?_
       |refine sym_pure hC (r2) ?_
       |refine sym_pure hC (r3) ?_
       |refine sym_pure hC (r4) ?_
       |refine sym_pure hC (hk) ?_
       |refine sym_drawn hS (by kernel_rfl) ?_); conv => whnf)
      repeat ((first
       |refine sym_pure hC (hk) ?_
       |refine sym_drawn hS (by kernel_rfl) ?_
       |refine sym_eq hq true (eqBool_same _ _) ?_
       |rw [beq_self_eq_true]
       |rw [bne_self_eq_false]); conv => whnf)
      first | exact ⟨_, rfl, Wk.refl _⟩ | skip
    ·have r3 := hk
     have d1 : decide ((o.length : Int) < 0) = false := decide_eq_false (by have hle : 0 ≤ o.length := hle; omega)
     have d2 : ((o.length : Int) == 0) = false := by rw [beq_eq_false_iff_ne]; intro z; exact e (by show 0 = o.length; omega)
     rcases hy with rfl | ⟨rfl, rfl⟩
     all_goals first | exact absurd hle (Nat.not_succ_le_zero _) | exact absurd rfl e | skip
     all_goals
      refine pure_sym hE rfl (by repeat' (first | exact trivial | assumption | exact flat_no _ | exact (fun _ h => nomatch h) | apply And.intro)) (by repeat' (first | exact trivial | assumption | exact flat_no _ | exact (fun _ h => nomatch h) | apply And.intro)) fun S q pc hS hq hC hE => ?_
      conv => whnf
      repeat ((first
       |refine ko_sT c4 ?_
       |refine ko_rF c4 ?_
       |refine plan_as (pick_f c4) ?_
       |refine bool_false c4 ?_
       |refine ko_rT (gff c4) ?_
       |refine ko_sF (gff c4) ?_
       |refine plan_as (pick_t (gff c4)) ?_
       |refine bool_true (gff c4) ?_
       |refine sym_pure hC (p1) ?_
       |refine sym_pure hC (p3) ?_
       |refine sym_pure hC (pW) ?_
       |refine sym_pure hC (pH) ?_
       |refine sym_pure hC (pF) ?_
       |refine sym_pure hC (pC) ?_
       |refine sym_pure hC (q1) ?_
       |refine sym_pure hC (q2) ?_
       |refine sym_drawn hS (by kernel_rfl) ?_); conv => whnf)
      repeat ((first
       |refine ko_sT d1 ?_
       |refine ko_rF d1 ?_
       |refine plan_as (pick_f d1) ?_
       |refine bool_false d1 ?_
       |refine ko_sT d2 ?_
       |refine ko_rF d2 ?_
       |refine plan_as (pick_f d2) ?_
       |refine bool_false d2 ?_
       |refine ko_rT d3 ?_
       |refine ko_sF d3 ?_
       |refine plan_as (pick_t d3) ?_
       |refine bool_true d3 ?_
       |refine ko_rT (gff d1) ?_
       |refine ko_sF (gff d1) ?_
       |refine plan_as (pick_t (gff d1)) ?_
       |refine bool_true (gff d1) ?_
       |refine ko_rT (gd_tt d2) ?_
       |refine ko_sF (gd_tt d2) ?_
       |refine plan_as (pick_t (gd_tt d2)) ?_
       |refine bool_true (gd_tt d2) ?_
       |refine ko_sT (gd_tf d2) ?_
       |refine ko_rF (gd_tf d2) ?_
       |refine plan_as (pick_f (gd_tf d2)) ?_
       |refine bool_false (gd_tf d2) ?_
       |refine sym_pure hC (r1) ?_
       |refine sym_pure hC (r2) ?_
       |refine sym_pure hC (r3) ?_
       |refine sym_pure hC (r4) ?_
       |refine sym_pure hC (hk) ?_
       |refine sym_drawn hS (by kernel_rfl) ?_); conv => whnf)
      repeat ((first
       |refine sym_pure hC (hk) ?_
       |refine sym_drawn hS (by kernel_rfl) ?_
       |refine sym_eq hq true (eqBool_same _ _) ?_
       |rw [beq_self_eq_true]
       |rw [bne_self_eq_false]); conv => whnf)
      first | exact ⟨_, rfl, Wk.refl _⟩ | skip
  ·have q1 : Pure prog 48 [.agg [nkA N, nl (zl H)], nv a, nv b, nv c, fv (Int.ofNat n) (Int.ofNat d)] (.tup [nkA [x1], iv 0]) := q1
   have kx := inA_K hlo hhi hA x1 (List.mem_singleton.2 rfl)
   have mx := cgF_mem.1 hx1
   have r4 := sSpoils_yes h kx.i kx.a kx.b (fun z => mx.2.2.2 (Prod.ext z.1.symm z.2.symm))
   have hS2 : suP N (chX N x1) H c (n, d) := hS1
   rcases hS2.2 with e | e
   ·rw [e] at r4
    have r4 : Pure prog 37 [.agg [nkA N, nl (zl H)], .agg [nv x1.1, nv x1.2.1, nv x1.2.2]] (.tup [.nils, iv 0]) := r4
    have r1 : Pure prog 52 [.agg [nkA N, nl (zl H)], nv a, nv b, (nkA [x1])] (.bool true) := by
     have := lchanges_pure h (Int.ofNat a) (Int.ofNat b) (x := (nkA [x1])) (L := cL ([x1])) (.inr (nkA_eq _).symm) (by rw [cL_len]; exact Nat.le_trans (inA_len hA) (by decide))
     rwa [decide_eq_true (csOk_of hlo hhi hA)] at this
    have r2 : Pure prog 53 [.agg [nkA N, nl (zl H)], (nkA [x1]), nv c, fv (Int.ofNat n) (Int.ofNat d)] (.bool true) := by
     have := lsuits_pure h (v := (nkA [x1])) (l := [x1]) (.inl rfl) (inA_K hlo hhi hA) (inA_len hA) hh hn hd
     rwa [decide_eq_true hS1] at this
    cases can with
    |false =>
     have r3 := hk
     rcases hy with rfl | ⟨rfl, rfl⟩
     all_goals first | exact absurd (ic.2 hS1) Bool.false_ne_true | skip
     all_goals
      refine pure_sym hE rfl (by repeat' (first | exact trivial | assumption | exact flat_no _ | exact (fun _ h => nomatch h) | apply And.intro)) (by repeat' (first | exact trivial | assumption | exact flat_no _ | exact (fun _ h => nomatch h) | apply And.intro)) fun S q pc hS hq hC hE => ?_
      conv => whnf
      repeat ((first
       |refine ko_sT c4 ?_
       |refine ko_rF c4 ?_
       |refine plan_as (pick_f c4) ?_
       |refine bool_false c4 ?_
       |refine ko_rT (gff c4) ?_
       |refine ko_sF (gff c4) ?_
       |refine plan_as (pick_t (gff c4)) ?_
       |refine bool_true (gff c4) ?_
       |refine sym_pure hC (p1) ?_
       |refine sym_pure hC (p3) ?_
       |refine sym_pure hC (pW) ?_
       |refine sym_pure hC (pH) ?_
       |refine sym_pure hC (pF) ?_
       |refine sym_pure hC (pC) ?_
       |refine sym_pure hC (q1) ?_
       |refine sym_pure hC (q2) ?_
       |refine sym_drawn hS (by kernel_rfl) ?_); conv => whnf)
      repeat ((first
       |refine ko_sT d1 ?_
       |refine ko_rF d1 ?_
       |refine plan_as (pick_f d1) ?_
       |refine bool_false d1 ?_
       |refine ko_sT d2 ?_
       |refine ko_rF d2 ?_
       |refine plan_as (pick_f d2) ?_
       |refine bool_false d2 ?_
       |refine ko_rT d3 ?_
       |refine ko_sF d3 ?_
       |refine plan_as (pick_t d3) ?_
       |refine bool_true d3 ?_
       |refine ko_rT (gff d1) ?_
       |refine ko_sF (gff d1) ?_
       |refine plan_as (pick_t (gff d1)) ?_
       |refine bool_true (gff d1) ?_
       |refine ko_rT (gd_tt d2) ?_
       |refine ko_sF (gd_tt d2) ?_
       |refine plan_as (pick_t (gd_tt d2)) ?_
       |refine bool_true (gd_tt d2) ?_
       |refine ko_sT (gd_tf d2) ?_
       |refine ko_rF (gd_tf d2) ?_
       |refine plan_as (pick_f (gd_tf d2)) ?_
       |refine bool_false (gd_tf d2) ?_
       |refine sym_pure hC (r1) ?_
       |refine sym_pure hC (r2) ?_
       |refine sym_pure hC (r3) ?_
       |refine sym_pure hC (r4) ?_
       |refine sym_pure hC (hk) ?_
       |refine sym_drawn hS (by kernel_rfl) ?_); conv => whnf)
      repeat ((first
       |refine sym_pure hC (hk) ?_
       |refine sym_drawn hS (by kernel_rfl) ?_
       |refine sym_eq hq true (eqBool_same _ _) ?_
       |rw [beq_self_eq_true]
       |rw [bne_self_eq_false]); conv => whnf)
      first | exact ⟨_, rfl, Wk.refl _⟩ | skip
    |true =>
     have hl := hcmp rfl
     have hle : ([x1]).length ≤ o.length := by rcases hl with q | q <;> omega
     by_cases e : ([x1]).length = o.length
     ·have hso : soonB o ([x1]) = false := by
       rcases hl with q | q
       ·omega
       ·exact q.2
      have r3 := lsooner_pure hy (vb := (nkA [x1])) (b := [x1]) (.inl rfl) e.symm o2
      rw [hso] at r3
      have d1 : decide ((o.length : Int) < 1) = false := decide_eq_false (by have hle : 1 ≤ o.length := hle; omega)
      have d2 : ((o.length : Int) == 1) = true := by rw [beq_iff_eq]; have e : 1 = o.length := e; omega
      rcases hy with rfl | ⟨rfl, rfl⟩
      all_goals first | exact absurd hle (Nat.not_succ_le_zero _) | exact absurd rfl e | skip
      all_goals
       refine pure_sym hE rfl (by repeat' (first | exact trivial | assumption | exact flat_no _ | exact (fun _ h => nomatch h) | apply And.intro)) (by repeat' (first | exact trivial | assumption | exact flat_no _ | exact (fun _ h => nomatch h) | apply And.intro)) fun S q pc hS hq hC hE => ?_
       conv => whnf
       repeat ((first
        |refine ko_sT c4 ?_
        |refine ko_rF c4 ?_
        |refine plan_as (pick_f c4) ?_
        |refine bool_false c4 ?_
        |refine ko_rT (gff c4) ?_
        |refine ko_sF (gff c4) ?_
        |refine plan_as (pick_t (gff c4)) ?_
        |refine bool_true (gff c4) ?_
        |refine sym_pure hC (p1) ?_
        |refine sym_pure hC (p3) ?_
        |refine sym_pure hC (pW) ?_
        |refine sym_pure hC (pH) ?_
        |refine sym_pure hC (pF) ?_
        |refine sym_pure hC (pC) ?_
        |refine sym_pure hC (q1) ?_
        |refine sym_pure hC (q2) ?_
        |refine sym_drawn hS (by kernel_rfl) ?_); conv => whnf)
       repeat ((first
        |refine ko_sT d1 ?_
        |refine ko_rF d1 ?_
        |refine plan_as (pick_f d1) ?_
        |refine bool_false d1 ?_
        |refine ko_rT d2 ?_
        |refine ko_sF d2 ?_
        |refine plan_as (pick_t d2) ?_
        |refine bool_true d2 ?_
        |refine ko_rT d3 ?_
        |refine ko_sF d3 ?_
        |refine plan_as (pick_t d3) ?_
        |refine bool_true d3 ?_
        |refine ko_rT (gff d1) ?_
        |refine ko_sF (gff d1) ?_
        |refine plan_as (pick_t (gff d1)) ?_
        |refine bool_true (gff d1) ?_
        |refine ko_rT (gd_tt d2) ?_
        |refine ko_sF (gd_tt d2) ?_
        |refine plan_as (pick_t (gd_tt d2)) ?_
        |refine bool_true (gd_tt d2) ?_
        |refine ko_sT (gd_tf d2) ?_
        |refine ko_rF (gd_tf d2) ?_
        |refine plan_as (pick_f (gd_tf d2)) ?_
        |refine bool_false (gd_tf d2) ?_
        |refine sym_pure hC (r1) ?_
        |refine sym_pure hC (r2) ?_
        |refine sym_pure hC (r3) ?_
        |refine sym_pure hC (r4) ?_
        |refine sym_pure hC (hk) ?_
        |refine sym_drawn hS (by kernel_rfl) ?_); conv => whnf)
       repeat ((first
        |refine sym_pure hC (hk) ?_
        |refine sym_drawn hS (by kernel_rfl) ?_
        |refine sym_eq hq true (eqBool_same _ _) ?_
        |rw [beq_self_eq_true]
        |rw [bne_self_eq_false]); conv => whnf)
       first | exact ⟨_, rfl, Wk.refl _⟩ | skip
     ·have r3 := hk
      have d1 : decide ((o.length : Int) < 1) = false := decide_eq_false (by have hle : 1 ≤ o.length := hle; omega)
      have d2 : ((o.length : Int) == 1) = false := by rw [beq_eq_false_iff_ne]; intro z; exact e (by show 1 = o.length; omega)
      rcases hy with rfl | ⟨rfl, rfl⟩
      all_goals first | exact absurd hle (Nat.not_succ_le_zero _) | exact absurd rfl e | skip
      all_goals
       refine pure_sym hE rfl (by repeat' (first | exact trivial | assumption | exact flat_no _ | exact (fun _ h => nomatch h) | apply And.intro)) (by repeat' (first | exact trivial | assumption | exact flat_no _ | exact (fun _ h => nomatch h) | apply And.intro)) fun S q pc hS hq hC hE => ?_
       conv => whnf
       repeat ((first
        |refine ko_sT c4 ?_
        |refine ko_rF c4 ?_
        |refine plan_as (pick_f c4) ?_
        |refine bool_false c4 ?_
        |refine ko_rT (gff c4) ?_
        |refine ko_sF (gff c4) ?_
        |refine plan_as (pick_t (gff c4)) ?_
        |refine bool_true (gff c4) ?_
        |refine sym_pure hC (p1) ?_
        |refine sym_pure hC (p3) ?_
        |refine sym_pure hC (pW) ?_
        |refine sym_pure hC (pH) ?_
        |refine sym_pure hC (pF) ?_
        |refine sym_pure hC (pC) ?_
        |refine sym_pure hC (q1) ?_
        |refine sym_pure hC (q2) ?_
        |refine sym_drawn hS (by kernel_rfl) ?_); conv => whnf)
       repeat ((first
        |refine ko_sT d1 ?_
        |refine ko_rF d1 ?_
        |refine plan_as (pick_f d1) ?_
        |refine bool_false d1 ?_
        |refine ko_sT d2 ?_
        |refine ko_rF d2 ?_
        |refine plan_as (pick_f d2) ?_
        |refine bool_false d2 ?_
        |refine ko_rT d3 ?_
        |refine ko_sF d3 ?_
        |refine plan_as (pick_t d3) ?_
        |refine bool_true d3 ?_
        |refine ko_rT (gff d1) ?_
        |refine ko_sF (gff d1) ?_
        |refine plan_as (pick_t (gff d1)) ?_
        |refine bool_true (gff d1) ?_
        |refine ko_rT (gd_tt d2) ?_
        |refine ko_sF (gd_tt d2) ?_
        |refine plan_as (pick_t (gd_tt d2)) ?_
        |refine bool_true (gd_tt d2) ?_
        |refine ko_sT (gd_tf d2) ?_
        |refine ko_rF (gd_tf d2) ?_
        |refine plan_as (pick_f (gd_tf d2)) ?_
        |refine bool_false (gd_tf d2) ?_
        |refine sym_pure hC (r1) ?_
        |refine sym_pure hC (r2) ?_
        |refine sym_pure hC (r3) ?_
        |refine sym_pure hC (r4) ?_
        |refine sym_pure hC (hk) ?_
        |refine sym_drawn hS (by kernel_rfl) ?_); conv => whnf)
       repeat ((first
        |refine sym_pure hC (hk) ?_
        |refine sym_drawn hS (by kernel_rfl) ?_
        |refine sym_eq hq true (eqBool_same _ _) ?_
        |rw [beq_self_eq_true]
        |rw [bne_self_eq_false]); conv => whnf)
       first | exact ⟨_, rfl, Wk.refl _⟩ | skip
   ·rw [e] at r4
    have r4 : Pure prog 37 [.agg [nkA N, nl (zl H)], .agg [nv x1.1, nv x1.2.1, nv x1.2.2]] (.tup [.lst [nv c] 1 .no, iv 0]) := r4
    have r1 : Pure prog 52 [.agg [nkA N, nl (zl H)], nv a, nv b, (nkA [x1])] (.bool true) := by
     have := lchanges_pure h (Int.ofNat a) (Int.ofNat b) (x := (nkA [x1])) (L := cL ([x1])) (.inr (nkA_eq _).symm) (by rw [cL_len]; exact Nat.le_trans (inA_len hA) (by decide))
     rwa [decide_eq_true (csOk_of hlo hhi hA)] at this
    have r2 : Pure prog 53 [.agg [nkA N, nl (zl H)], (nkA [x1]), nv c, fv (Int.ofNat n) (Int.ofNat d)] (.bool true) := by
     have := lsuits_pure h (v := (nkA [x1])) (l := [x1]) (.inl rfl) (inA_K hlo hhi hA) (inA_len hA) hh hn hd
     rwa [decide_eq_true hS1] at this
    cases can with
    |false =>
     have r3 := hk
     rcases hy with rfl | ⟨rfl, rfl⟩
     all_goals first | exact absurd (ic.2 hS1) Bool.false_ne_true | skip
     all_goals
      refine pure_sym hE rfl (by repeat' (first | exact trivial | assumption | exact flat_no _ | exact (fun _ h => nomatch h) | apply And.intro)) (by repeat' (first | exact trivial | assumption | exact flat_no _ | exact (fun _ h => nomatch h) | apply And.intro)) fun S q pc hS hq hC hE => ?_
      conv => whnf
      repeat ((first
       |refine ko_sT c4 ?_
       |refine ko_rF c4 ?_
       |refine plan_as (pick_f c4) ?_
       |refine bool_false c4 ?_
       |refine ko_rT (gff c4) ?_
       |refine ko_sF (gff c4) ?_
       |refine plan_as (pick_t (gff c4)) ?_
       |refine bool_true (gff c4) ?_
       |refine sym_pure hC (p1) ?_
       |refine sym_pure hC (p3) ?_
       |refine sym_pure hC (pW) ?_
       |refine sym_pure hC (pH) ?_
       |refine sym_pure hC (pF) ?_
       |refine sym_pure hC (pC) ?_
       |refine sym_pure hC (q1) ?_
       |refine sym_pure hC (q2) ?_
       |refine sym_drawn hS (by kernel_rfl) ?_); conv => whnf)
      repeat ((first
       |refine ko_sT d1 ?_
       |refine ko_rF d1 ?_
       |refine plan_as (pick_f d1) ?_
       |refine bool_false d1 ?_
       |refine ko_sT d2 ?_
       |refine ko_rF d2 ?_
       |refine plan_as (pick_f d2) ?_
       |refine bool_false d2 ?_
       |refine ko_rT d3 ?_
       |refine ko_sF d3 ?_
       |refine plan_as (pick_t d3) ?_
       |refine bool_true d3 ?_
       |refine ko_rT (gff d1) ?_
       |refine ko_sF (gff d1) ?_
       |refine plan_as (pick_t (gff d1)) ?_
       |refine bool_true (gff d1) ?_
       |refine ko_rT (gd_tt d2) ?_
       |refine ko_sF (gd_tt d2) ?_
       |refine plan_as (pick_t (gd_tt d2)) ?_
       |refine bool_true (gd_tt d2) ?_
       |refine ko_sT (gd_tf d2) ?_
       |refine ko_rF (gd_tf d2) ?_
       |refine plan_as (pick_f (gd_tf d2)) ?_
       |refine bool_false (gd_tf d2) ?_
       |refine sym_pure hC (r1) ?_
       |refine sym_pure hC (r2) ?_
       |refine sym_pure hC (r3) ?_
       |refine sym_pure hC (r4) ?_
       |refine sym_pure hC (hk) ?_
       |refine sym_drawn hS (by kernel_rfl) ?_); conv => whnf)
      repeat ((first
       |refine sym_pure hC (hk) ?_
       |refine sym_drawn hS (by kernel_rfl) ?_
       |refine sym_eq hq true (eqBool_same _ _) ?_
       |rw [beq_self_eq_true]
       |rw [bne_self_eq_false]); conv => whnf)
      first | exact ⟨_, rfl, Wk.refl _⟩ | skip
    |true =>
     have hl := hcmp rfl
     have hle : ([x1]).length ≤ o.length := by rcases hl with q | q <;> omega
     by_cases e : ([x1]).length = o.length
     ·have hso : soonB o ([x1]) = false := by
       rcases hl with q | q
       ·omega
       ·exact q.2
      have r3 := lsooner_pure hy (vb := (nkA [x1])) (b := [x1]) (.inl rfl) e.symm o2
      rw [hso] at r3
      have d1 : decide ((o.length : Int) < 1) = false := decide_eq_false (by have hle : 1 ≤ o.length := hle; omega)
      have d2 : ((o.length : Int) == 1) = true := by rw [beq_iff_eq]; have e : 1 = o.length := e; omega
      rcases hy with rfl | ⟨rfl, rfl⟩
      all_goals first | exact absurd hle (Nat.not_succ_le_zero _) | exact absurd rfl e | skip
      all_goals
       refine pure_sym hE rfl (by repeat' (first | exact trivial | assumption | exact flat_no _ | exact (fun _ h => nomatch h) | apply And.intro)) (by repeat' (first | exact trivial | assumption | exact flat_no _ | exact (fun _ h => nomatch h) | apply And.intro)) fun S q pc hS hq hC hE => ?_
       conv => whnf
       repeat ((first
        |refine ko_sT c4 ?_
        |refine ko_rF c4 ?_
        |refine plan_as (pick_f c4) ?_
        |refine bool_false c4 ?_
        |refine ko_rT (gff c4) ?_
        |refine ko_sF (gff c4) ?_
        |refine plan_as (pick_t (gff c4)) ?_
        |refine bool_true (gff c4) ?_
        |refine sym_pure hC (p1) ?_
        |refine sym_pure hC (p3) ?_
        |refine sym_pure hC (pW) ?_
        |refine sym_pure hC (pH) ?_
        |refine sym_pure hC (pF) ?_
        |refine sym_pure hC (pC) ?_
        |refine sym_pure hC (q1) ?_
        |refine sym_pure hC (q2) ?_
        |refine sym_drawn hS (by kernel_rfl) ?_); conv => whnf)
       repeat ((first
        |refine ko_sT d1 ?_
        |refine ko_rF d1 ?_
        |refine plan_as (pick_f d1) ?_
        |refine bool_false d1 ?_
        |refine ko_rT d2 ?_
        |refine ko_sF d2 ?_
        |refine plan_as (pick_t d2) ?_
        |refine bool_true d2 ?_
        |refine ko_rT d3 ?_
        |refine ko_sF d3 ?_
        |refine plan_as (pick_t d3) ?_
        |refine bool_true d3 ?_
        |refine ko_rT (gff d1) ?_
        |refine ko_sF (gff d1) ?_
        |refine plan_as (pick_t (gff d1)) ?_
        |refine bool_true (gff d1) ?_
        |refine ko_rT (gd_tt d2) ?_
        |refine ko_sF (gd_tt d2) ?_
        |refine plan_as (pick_t (gd_tt d2)) ?_
        |refine bool_true (gd_tt d2) ?_
        |refine ko_sT (gd_tf d2) ?_
        |refine ko_rF (gd_tf d2) ?_
        |refine plan_as (pick_f (gd_tf d2)) ?_
        |refine bool_false (gd_tf d2) ?_
        |refine sym_pure hC (r1) ?_
        |refine sym_pure hC (r2) ?_
        |refine sym_pure hC (r3) ?_
        |refine sym_pure hC (r4) ?_
        |refine sym_pure hC (hk) ?_
        |refine sym_drawn hS (by kernel_rfl) ?_); conv => whnf)
       repeat ((first
        |refine sym_pure hC (hk) ?_
        |refine sym_drawn hS (by kernel_rfl) ?_
        |refine sym_eq hq true (eqBool_same _ _) ?_
        |rw [beq_self_eq_true]
        |rw [bne_self_eq_false]); conv => whnf)
       first | exact ⟨_, rfl, Wk.refl _⟩ | skip
     ·have r3 := hk
      have d1 : decide ((o.length : Int) < 1) = false := decide_eq_false (by have hle : 1 ≤ o.length := hle; omega)
      have d2 : ((o.length : Int) == 1) = false := by rw [beq_eq_false_iff_ne]; intro z; exact e (by show 1 = o.length; omega)
      rcases hy with rfl | ⟨rfl, rfl⟩
      all_goals first | exact absurd hle (Nat.not_succ_le_zero _) | exact absurd rfl e | skip
      all_goals
       refine pure_sym hE rfl (by repeat' (first | exact trivial | assumption | exact flat_no _ | exact (fun _ h => nomatch h) | apply And.intro)) (by repeat' (first | exact trivial | assumption | exact flat_no _ | exact (fun _ h => nomatch h) | apply And.intro)) fun S q pc hS hq hC hE => ?_
       conv => whnf
       repeat ((first
        |refine ko_sT c4 ?_
        |refine ko_rF c4 ?_
        |refine plan_as (pick_f c4) ?_
        |refine bool_false c4 ?_
        |refine ko_rT (gff c4) ?_
        |refine ko_sF (gff c4) ?_
        |refine plan_as (pick_t (gff c4)) ?_
        |refine bool_true (gff c4) ?_
        |refine sym_pure hC (p1) ?_
        |refine sym_pure hC (p3) ?_
        |refine sym_pure hC (pW) ?_
        |refine sym_pure hC (pH) ?_
        |refine sym_pure hC (pF) ?_
        |refine sym_pure hC (pC) ?_
        |refine sym_pure hC (q1) ?_
        |refine sym_pure hC (q2) ?_
        |refine sym_drawn hS (by kernel_rfl) ?_); conv => whnf)
       repeat ((first
        |refine ko_sT d1 ?_
        |refine ko_rF d1 ?_
        |refine plan_as (pick_f d1) ?_
        |refine bool_false d1 ?_
        |refine ko_sT d2 ?_
        |refine ko_rF d2 ?_
        |refine plan_as (pick_f d2) ?_
        |refine bool_false d2 ?_
        |refine ko_rT d3 ?_
        |refine ko_sF d3 ?_
        |refine plan_as (pick_t d3) ?_
        |refine bool_true d3 ?_
        |refine ko_rT (gff d1) ?_
        |refine ko_sF (gff d1) ?_
        |refine plan_as (pick_t (gff d1)) ?_
        |refine bool_true (gff d1) ?_
        |refine ko_rT (gd_tt d2) ?_
        |refine ko_sF (gd_tt d2) ?_
        |refine plan_as (pick_t (gd_tt d2)) ?_
        |refine bool_true (gd_tt d2) ?_
        |refine ko_sT (gd_tf d2) ?_
        |refine ko_rF (gd_tf d2) ?_
        |refine plan_as (pick_f (gd_tf d2)) ?_
        |refine bool_false (gd_tf d2) ?_
        |refine sym_pure hC (r1) ?_
        |refine sym_pure hC (r2) ?_
        |refine sym_pure hC (r3) ?_
        |refine sym_pure hC (r4) ?_
        |refine sym_pure hC (hk) ?_
        |refine sym_drawn hS (by kernel_rfl) ?_); conv => whnf)
       repeat ((first
        |refine sym_pure hC (hk) ?_
        |refine sym_drawn hS (by kernel_rfl) ?_
        |refine sym_eq hq true (eqBool_same _ _) ?_
        |rw [beq_self_eq_true]
        |rw [bne_self_eq_false]); conv => whnf)
       first | exact ⟨_, rfl, Wk.refl _⟩ | skip
  ·have q1 : Pure prog 48 [.agg [nkA N, nl (zl H)], nv a, nv b, nv c, fv (Int.ofNat n) (Int.ofNat d)] (.tup [nkA [x1, x2], iv 0]) := q1
   have r4 := hk
   have r1 : Pure prog 52 [.agg [nkA N, nl (zl H)], nv a, nv b, (nkA [x1, x2])] (.bool true) := by
    have := lchanges_pure h (Int.ofNat a) (Int.ofNat b) (x := (nkA [x1, x2])) (L := cL ([x1, x2])) (.inr (nkA_eq _).symm) (by rw [cL_len]; exact Nat.le_trans (inA_len hA) (by decide))
    rwa [decide_eq_true (csOk_of hlo hhi hA)] at this
   have r2 : Pure prog 53 [.agg [nkA N, nl (zl H)], (nkA [x1, x2]), nv c, fv (Int.ofNat n) (Int.ofNat d)] (.bool true) := by
    have := lsuits_pure h (v := (nkA [x1, x2])) (l := [x1, x2]) (.inl rfl) (inA_K hlo hhi hA) (inA_len hA) hh hn hd
    rwa [decide_eq_true hS1] at this
   cases can with
   |false =>
    have r3 := hk
    rcases hy with rfl | ⟨rfl, rfl⟩
    all_goals first | exact absurd (ic.2 hS1) Bool.false_ne_true | skip
    all_goals
     refine pure_sym hE rfl (by repeat' (first | exact trivial | assumption | exact flat_no _ | exact (fun _ h => nomatch h) | apply And.intro)) (by repeat' (first | exact trivial | assumption | exact flat_no _ | exact (fun _ h => nomatch h) | apply And.intro)) fun S q pc hS hq hC hE => ?_
     conv => whnf
     repeat ((first
      |refine ko_sT c4 ?_
      |refine ko_rF c4 ?_
      |refine plan_as (pick_f c4) ?_
      |refine bool_false c4 ?_
      |refine ko_rT (gff c4) ?_
      |refine ko_sF (gff c4) ?_
      |refine plan_as (pick_t (gff c4)) ?_
      |refine bool_true (gff c4) ?_
      |refine sym_pure hC (p1) ?_
      |refine sym_pure hC (p3) ?_
      |refine sym_pure hC (pW) ?_
      |refine sym_pure hC (pH) ?_
      |refine sym_pure hC (pF) ?_
      |refine sym_pure hC (pC) ?_
      |refine sym_pure hC (q1) ?_
      |refine sym_pure hC (q2) ?_
      |refine sym_drawn hS (by kernel_rfl) ?_); conv => whnf)
     repeat ((first
      |refine ko_sT d1 ?_
      |refine ko_rF d1 ?_
      |refine plan_as (pick_f d1) ?_
      |refine bool_false d1 ?_
      |refine ko_sT d2 ?_
      |refine ko_rF d2 ?_
      |refine plan_as (pick_f d2) ?_
      |refine bool_false d2 ?_
      |refine ko_rT d3 ?_
      |refine ko_sF d3 ?_
      |refine plan_as (pick_t d3) ?_
      |refine bool_true d3 ?_
      |refine ko_rT (gff d1) ?_
      |refine ko_sF (gff d1) ?_
      |refine plan_as (pick_t (gff d1)) ?_
      |refine bool_true (gff d1) ?_
      |refine ko_rT (gd_tt d2) ?_
      |refine ko_sF (gd_tt d2) ?_
      |refine plan_as (pick_t (gd_tt d2)) ?_
      |refine bool_true (gd_tt d2) ?_
      |refine ko_sT (gd_tf d2) ?_
      |refine ko_rF (gd_tf d2) ?_
      |refine plan_as (pick_f (gd_tf d2)) ?_
      |refine bool_false (gd_tf d2) ?_
      |refine sym_pure hC (r1) ?_
      |refine sym_pure hC (r2) ?_
      |refine sym_pure hC (r3) ?_
      |refine sym_pure hC (r4) ?_
      |refine sym_pure hC (hk) ?_
      |refine sym_drawn hS (by kernel_rfl) ?_); conv => whnf)
     repeat ((first
      |refine sym_pure hC (hk) ?_
      |refine sym_drawn hS (by kernel_rfl) ?_
      |refine sym_eq hq true (eqBool_same _ _) ?_
      |rw [beq_self_eq_true]
      |rw [bne_self_eq_false]); conv => whnf)
     first | exact ⟨_, rfl, Wk.refl _⟩ | skip
   |true =>
    have hl := hcmp rfl
    have hle : ([x1, x2]).length ≤ o.length := by rcases hl with q | q <;> omega
    by_cases e : ([x1, x2]).length = o.length
    ·have hso : soonB o ([x1, x2]) = false := by
      rcases hl with q | q
      ·omega
      ·exact q.2
     have r3 := lsooner_pure hy (vb := (nkA [x1, x2])) (b := [x1, x2]) (.inl rfl) e.symm o2
     rw [hso] at r3
     have d1 : decide ((o.length : Int) < 2) = false := decide_eq_false (by have hle : 2 ≤ o.length := hle; omega)
     have d2 : ((o.length : Int) == 2) = true := by rw [beq_iff_eq]; have e : 2 = o.length := e; omega
     rcases hy with rfl | ⟨rfl, rfl⟩
     all_goals first | exact absurd hle (Nat.not_succ_le_zero _) | exact absurd rfl e | skip
     all_goals
      refine pure_sym hE rfl (by repeat' (first | exact trivial | assumption | exact flat_no _ | exact (fun _ h => nomatch h) | apply And.intro)) (by repeat' (first | exact trivial | assumption | exact flat_no _ | exact (fun _ h => nomatch h) | apply And.intro)) fun S q pc hS hq hC hE => ?_
      conv => whnf
      repeat ((first
       |refine ko_sT c4 ?_
       |refine ko_rF c4 ?_
       |refine plan_as (pick_f c4) ?_
       |refine bool_false c4 ?_
       |refine ko_rT (gff c4) ?_
       |refine ko_sF (gff c4) ?_
       |refine plan_as (pick_t (gff c4)) ?_
       |refine bool_true (gff c4) ?_
       |refine sym_pure hC (p1) ?_
       |refine sym_pure hC (p3) ?_
       |refine sym_pure hC (pW) ?_
       |refine sym_pure hC (pH) ?_
       |refine sym_pure hC (pF) ?_
       |refine sym_pure hC (pC) ?_
       |refine sym_pure hC (q1) ?_
       |refine sym_pure hC (q2) ?_
       |refine sym_drawn hS (by kernel_rfl) ?_); conv => whnf)
      repeat ((first
       |refine ko_sT d1 ?_
       |refine ko_rF d1 ?_
       |refine plan_as (pick_f d1) ?_
       |refine bool_false d1 ?_
       |refine ko_rT d2 ?_
       |refine ko_sF d2 ?_
       |refine plan_as (pick_t d2) ?_
       |refine bool_true d2 ?_
       |refine ko_rT d3 ?_
       |refine ko_sF d3 ?_
       |refine plan_as (pick_t d3) ?_
       |refine bool_true d3 ?_
       |refine ko_rT (gff d1) ?_
       |refine ko_sF (gff d1) ?_
       |refine plan_as (pick_t (gff d1)) ?_
       |refine bool_true (gff d1) ?_
       |refine ko_rT (gd_tt d2) ?_
       |refine ko_sF (gd_tt d2) ?_
       |refine plan_as (pick_t (gd_tt d2)) ?_
       |refine bool_true (gd_tt d2) ?_
       |refine ko_sT (gd_tf d2) ?_
       |refine ko_rF (gd_tf d2) ?_
       |refine plan_as (pick_f (gd_tf d2)) ?_
       |refine bool_false (gd_tf d2) ?_
       |refine sym_pure hC (r1) ?_
       |refine sym_pure hC (r2) ?_
       |refine sym_pure hC (r3) ?_
       |refine sym_pure hC (r4) ?_
       |refine sym_pure hC (hk) ?_
       |refine sym_drawn hS (by kernel_rfl) ?_); conv => whnf)
      repeat ((first
       |refine sym_pure hC (hk) ?_
       |refine sym_drawn hS (by kernel_rfl) ?_
       |refine sym_eq hq true (eqBool_same _ _) ?_
       |rw [beq_self_eq_true]
       |rw [bne_self_eq_false]); conv => whnf)
      first | exact ⟨_, rfl, Wk.refl _⟩ | skip
    ·have r3 := hk
     have d1 : decide ((o.length : Int) < 2) = false := decide_eq_false (by have hle : 2 ≤ o.length := hle; omega)
     have d2 : ((o.length : Int) == 2) = false := by rw [beq_eq_false_iff_ne]; intro z; exact e (by show 2 = o.length; omega)
     rcases hy with rfl | ⟨rfl, rfl⟩
     all_goals first | exact absurd hle (Nat.not_succ_le_zero _) | exact absurd rfl e | skip
     all_goals
      refine pure_sym hE rfl (by repeat' (first | exact trivial | assumption | exact flat_no _ | exact (fun _ h => nomatch h) | apply And.intro)) (by repeat' (first | exact trivial | assumption | exact flat_no _ | exact (fun _ h => nomatch h) | apply And.intro)) fun S q pc hS hq hC hE => ?_
      conv => whnf
      repeat ((first
       |refine ko_sT c4 ?_
       |refine ko_rF c4 ?_
       |refine plan_as (pick_f c4) ?_
       |refine bool_false c4 ?_
       |refine ko_rT (gff c4) ?_
       |refine ko_sF (gff c4) ?_
       |refine plan_as (pick_t (gff c4)) ?_
       |refine bool_true (gff c4) ?_
       |refine sym_pure hC (p1) ?_
       |refine sym_pure hC (p3) ?_
       |refine sym_pure hC (pW) ?_
       |refine sym_pure hC (pH) ?_
       |refine sym_pure hC (pF) ?_
       |refine sym_pure hC (pC) ?_
       |refine sym_pure hC (q1) ?_
       |refine sym_pure hC (q2) ?_
       |refine sym_drawn hS (by kernel_rfl) ?_); conv => whnf)
      repeat ((first
       |refine ko_sT d1 ?_
       |refine ko_rF d1 ?_
       |refine plan_as (pick_f d1) ?_
       |refine bool_false d1 ?_
       |refine ko_sT d2 ?_
       |refine ko_rF d2 ?_
       |refine plan_as (pick_f d2) ?_
       |refine bool_false d2 ?_
       |refine ko_rT d3 ?_
       |refine ko_sF d3 ?_
       |refine plan_as (pick_t d3) ?_
       |refine bool_true d3 ?_
       |refine ko_rT (gff d1) ?_
       |refine ko_sF (gff d1) ?_
       |refine plan_as (pick_t (gff d1)) ?_
       |refine bool_true (gff d1) ?_
       |refine ko_rT (gd_tt d2) ?_
       |refine ko_sF (gd_tt d2) ?_
       |refine plan_as (pick_t (gd_tt d2)) ?_
       |refine bool_true (gd_tt d2) ?_
       |refine ko_sT (gd_tf d2) ?_
       |refine ko_rF (gd_tf d2) ?_
       |refine plan_as (pick_f (gd_tf d2)) ?_
       |refine bool_false (gd_tf d2) ?_
       |refine sym_pure hC (r1) ?_
       |refine sym_pure hC (r2) ?_
       |refine sym_pure hC (r3) ?_
       |refine sym_pure hC (r4) ?_
       |refine sym_pure hC (hk) ?_
       |refine sym_drawn hS (by kernel_rfl) ?_); conv => whnf)
      repeat ((first
       |refine sym_pure hC (hk) ?_
       |refine sym_drawn hS (by kernel_rfl) ?_
       |refine sym_eq hq true (eqBool_same _ _) ?_
       |rw [beq_self_eq_true]
       |rw [bne_self_eq_false]); conv => whnf)
      first | exact ⟨_, rfl, Wk.refl _⟩ | skip
theorem shopSuits (hk : Pure prog 14 [] (.bool true)) {x h y : AV} {L O : List LkI} {M : List Int} (hx : LL x L) (hh : IL h M) (hy : LL y O) (a b c n d : Int) : Pure prog 10 [.agg [x, h], iv a, iv b, iv c, fv n d, y] (.bool true) := by
 rcases piece_cases hx hh with hs | ⟨h1, h2, hp⟩ | ⟨N, H, hN, e1, e2⟩
 ·exact su_long hk hx hh hy hs a b c n d
 ·by_cases h4 : O.length ≤ 4
  ·exact su_out hk hx hh hy h1 h2 h4 hp a b c n d
  ·exact su_big hk hx hh hy h1 h2 h4 a b c n d
 ·by_cases h4 : O.length ≤ 4
  ·subst e1 e2
   by_cases hc : cuOk H.length a b c n d ∧ csOk N a b O
   ·obtain ⟨hc, hs⟩ := hc
    obtain ⟨bW, pW, iW⟩ := wide_b a b
    obtain rfl : bW = true := iW.2 hc.1
    have pF := rFraction_pure n d
    rw [decide_eq_true hc.2.2] at pF
    obtain ⟨bH, pH, iH⟩ := hand_b hN c
    obtain rfl : bH = true := iH.2 hc.2.1
    have pC := lchanges_pure hN a b hy h4
    rw [decide_eq_true hs] at pC
    have q := hc.1
    unfold rgOk tth at q
    rw [wrapI (by omega) (by omega)] at q
    obtain ⟨a, rfl, _⟩ := int_nat (m := 60) (a := a) ⟨by omega, by omega⟩
    obtain ⟨b, rfl, _⟩ := int_nat (m := 60) (a := b) ⟨by omega, by omega⟩
    obtain ⟨c, rfl, _⟩ := int_nat (m := (H.length : Int)) (a := c) ⟨hc.2.1.1, by have := hc.2.1.2; omega⟩
    obtain ⟨n, d, rfl, rfl, q1, q2, q3⟩ := isF_nat hc.2.2
    obtain ⟨o, rfl, ho⟩ := csOk_inA hs
    have hcc := hc.2.1.2
    simp only [Int.ofNat_eq_natCast] at q hcc
    have hg : gV y o := by
     rcases hy with ⟨e, e2⟩ | e
     ·refine .inr ⟨e, ?_⟩
      have := congrArg List.length e2
      rw [cL_len] at this
      exact List.eq_nil_of_length_eq_zero this
     ·exact .inl (by rw [e, nkA_eq])
    exact su_yes hk hN hg (by omega) (by omega) (by omega) (by omega) (by omega) q1 ⟨q2, q3⟩ pW pH pF ho pC
   ·exact su_no hk hN hy h4 hc
  ·have hN5 := hN.l5
   have hH4 := hN.h4
   have hL : L.length ≤ 7 := by
    rcases hx with ⟨_, e⟩ | e
    ·rw [e]; exact Nat.zero_le _
    ·rw [e1] at e
     injection e with _ e _
     omega
   have hM : M.length ≤ 6 := by
    rcases hh with ⟨_, e⟩ | e
    ·rw [e]; exact Nat.zero_le _
    ·rw [e2] at e
     injection e with _ e _
     rw [zl_len] at e
     omega
   exact su_big hk hx hh hy hL hM h4 a b c n d
end
end Go.Abs.Seat
