/-
  The law ShopChanges.
-/
import Derived.Test.YtikikanopganaaaGreatDoorU13
import Derived.Test.YtikikanopganaaaGreatDoorL34
/-! The law ShopChanges. -/
namespace Go.Abs.Seat
noncomputable section
open Go Go.Abs Go.Proofs.Tryz
set_option maxRecDepth 100000
set_option maxHeartbeats 40000000
attribute [local irreducible] IntKind.wrap pEq

theorem eqCg (cst : Bool) (a b c x y z : Int) : q0 66 cst (tv3 a b c) (tv3 x y z) = @Bool.rec (fun _ => Option Bool) (some false) (@Option.rec Bool (fun _ => Option Bool) none (fun e => @Bool.rec (fun _ => Option Bool) (some false) (some true) e) (@Bool.rec (fun _ => Option Bool) (some false) (@Bool.rec (fun _ => Option Bool) (some false) (some true) (c == z)) (b == y))) (a == x) := by kernel_rfl
theorem eqCg_same (cst : Bool) (a b c : Int) : q0 66 cst (tv3 a b c) (tv3 a b c) = some true := by
 rw [eqCg, show (a == a) = true from beq_self_eq_true a, show (b == b) = true from beq_self_eq_true b, show (c == c) = true from beq_self_eq_true c]
theorem sameC_nil : Pure prog 51 [.nils, .nils] (.bool true) := by
 refine pure_sym hE rfl (by repeat' (first | exact trivial | assumption | exact flat_no _ | exact (fun _ h => nomatch h) | apply And.intro)) (by repeat' (first | exact trivial | assumption | exact flat_no _ | exact (fun _ h => nomatch h) | apply And.intro)) fun S q pc hS hq hC hE => ?_
 conv => whnf
 refine sym_unroll hE hS ?_
 conv => whnf
 exact ⟨_, rfl, Wk.refl _⟩
theorem sameC_self (l : List Lk) (hl : l.length ≤ 10) : Pure prog 51 [nkA l, nkA l] (.bool true) := by
 have ll := lks_no (cL l)
 have c0 : ((l.length : Int) != (l.length : Int)) = false := bne_self_eq_false _
 refine pure_sym hE rfl (by repeat' (first | exact trivial | assumption | exact flat_no _ | exact (fun _ h => nomatch h) | apply And.intro)) (by repeat' (first | exact trivial | assumption | exact flat_no _ | exact (fun _ h => nomatch h) | apply And.intro)) fun S q pc hS hq hC hE => ?_
 conv => whnf
 repeat ((first
  |refine ko_sT c0 ?_
  |refine ko_rF c0 ?_
  |refine plan_as (pick_f c0) ?_
  |refine bool_false c0 ?_
  |refine sym_drawn hS (by kernel_rfl) ?_); conv => whnf)
 refine sym_loop hE hS (A := Nat) [0, 1] (fun i => [(5, nv i)]) (fun _ => []) (fun i => i ≤ l.length) (fun i => l.length - i) 0 rfl rfl (by refine ⟨rfl, rfl, rfl, rfl, ?_, ?_⟩ <;> repeat' (first | exact trivial | exact rfl | exact Nat.zero_le _ | exact Nat.le_of_ble_eq_true rfl | exact bdl_no (by assumption) | exact bdl_no (flat_no _) | exact bdl_no (ivs_no _) | exact Nat.max_le.2 ⟨Nat.le_of_ble_eq_true rfl, bdl_no (ivs_no _)⟩ | apply And.intro)) (Nat.zero_le _) ?_
 intro i hi
 conv => whnf
 by_cases h : i < l.length
 ·refine bool_true (ltN_t h) ?_
  conv => whnf
  repeat ((first
   |refine plan_as (takP (tak_nk l h)) ?_
   |refine ko_rT (inR_t h) ?_
   |refine ko_sF (inR_t h) ?_
   |refine plan_as (pick_t (inR_t h)) ?_
   |refine bool_true (inR_t h) ?_
   |refine sym_drawn hS (by kernel_rfl) ?_); conv => whnf)
  refine sym_eq hq true (eqCg_same _ _ _ _) ?_
  conv => whnf
  refine sym_drawn hS (by kernel_rfl) ?_
  conv => whnf
  exact ⟨i + 1, h, by omega, (by refine ⟨rfl, rfl, rfl, rfl, ?_, ?_⟩ <;> repeat' (first | exact trivial | exact rfl | exact Nat.zero_le _ | exact congrArg (fun z => some (AV.int .i64 z)) (show IntKind.i64.wrap (Int.ofNat i + 1) = Int.ofNat (i + 1) from wrapN (m := i + 1) (by omega)) | exact Nat.le_of_ble_eq_true rfl | exact bdl_no (by assumption) | exact bdl_no (flat_no _) | exact bdl_no (ivs_no _) | exact Nat.max_le.2 ⟨Nat.le_of_ble_eq_true rfl, bdl_no (ivs_no _)⟩ | apply And.intro))⟩
 ·refine bool_false (ltN_f h) ?_
  conv => whnf
  exact ⟨_, rfl, Wk.refl _⟩
def cuOk (n a b c f d : Int) : Prop := (rgOk a b ∧ IntKind.i64.wrap (b - a) ≤ 10) ∧ (0 ≤ c ∧ c < n) ∧ isF f d
theorem sChanges_out {x h : AV} {L : List LkI} {M : List Int} (hx : LL x L) (hh : IL h M) (p : Pure prog 85 [.agg [x, h]] (.bool false)) (a b c n d : Int) : Pure prog 48 [.agg [x, h], iv a, iv b, iv c, fv n d] (.tup [.nils, iv 2]) := by
 have lx := hx.no
 have lh := hh.no
 rcases hx with ⟨rfl, rfl⟩ | rfl <;> rcases hh with ⟨rfl, rfl⟩ | rfl
 all_goals
  refine pure_sym hE rfl (by repeat' (first | exact trivial | assumption | exact flat_no _ | exact (fun _ h => nomatch h) | apply And.intro)) (by repeat' (first | exact trivial | assumption | exact flat_no _ | exact (fun _ h => nomatch h) | apply And.intro)) fun S q pc hS hq hC hE => ?_
  conv => whnf
  repeat ((first
   |refine sym_pure hC (p) ?_
   |refine sym_drawn hS (by kernel_rfl) ?_
   |refine sym_eq hq true (eqBool_same _ _) ?_
   |rw [beq_self_eq_true]
   |rw [bne_self_eq_false]); conv => whnf)
  exact ⟨_, rfl, Wk.refl _⟩
theorem shand_b {N : List Lk} {H : List Nat} (h : pcN N H) (a : Int) : ∃ b : Bool, Pure prog 79 [iv a, iv 0, iv (IntKind.i64.wrap (((zl H).length : Int) - 1))] (.bool b) ∧ (b = true ↔ 0 ≤ a ∧ a < (H.length : Int)) := by
 refine ⟨_, sin_pure a 0 _, ?_⟩
 rw [decide_eq_true_iff, zl_len, wrapI (by have := h.h1; omega) (by have := h.h4; omega)]
 omega
theorem sChanges_no {N : List Lk} {H : List Nat} (h : pcN N H) {a b c n d : Int} (hc : ¬ cuOk H.length a b c n d) : Pure prog 48 [.agg [nkA N, nl (zl H)], iv a, iv b, iv c, fv n d] (.tup [.nils, iv 2]) := by
 have lN := lks_no (cL N)
 have lM := ivs_no (zl H)
 obtain ⟨bR, pR, iR⟩ := dec_b (isRange_pure a b)
 obtain ⟨bH, pH, iH⟩ := shand_b h c
 obtain ⟨bF, pF, iF⟩ := dec_b (sFraction_pure n d)
 have hP := h.isP
 cases bR
 ·refine pure_sym hE rfl (by repeat' (first | exact trivial | assumption | exact flat_no _ | exact (fun _ h => nomatch h) | apply And.intro)) (by repeat' (first | exact trivial | assumption | exact flat_no _ | exact (fun _ h => nomatch h) | apply And.intro)) fun S q pc hS hq hC hE => ?_
  conv => whnf
  repeat ((first
   |refine sym_pure hC (hP) ?_
   |refine sym_pure hC (pR) ?_
   |refine sym_drawn hS (by kernel_rfl) ?_
   |refine sym_eq hq true (eqBool_same _ _) ?_
   |rw [beq_self_eq_true]
   |rw [bne_self_eq_false]); conv => whnf)
  exact ⟨_, rfl, Wk.refl _⟩
 ·by_cases q1 : IntKind.i64.wrap (b - a) ≤ 10
  ·have c1 : decide (IntKind.i64.wrap (b - a) > 10) = false := decide_eq_false (by omega)
   cases bH
   ·refine pure_sym hE rfl (by repeat' (first | exact trivial | assumption | exact flat_no _ | exact (fun _ h => nomatch h) | apply And.intro)) (by repeat' (first | exact trivial | assumption | exact flat_no _ | exact (fun _ h => nomatch h) | apply And.intro)) fun S q pc hS hq hC hE => ?_
    conv => whnf
    repeat ((first
     |refine sym_pure hC (hP) ?_
     |refine sym_pure hC (pR) ?_
     |refine sym_drawn hS (by kernel_rfl) ?_
     |refine sym_eq hq true (eqBool_same _ _) ?_
     |rw [beq_self_eq_true]
     |rw [bne_self_eq_false]); conv => whnf)
    repeat ((first
     |refine ko_sT c1 ?_
     |refine ko_rF c1 ?_
     |refine plan_as (pick_f c1) ?_
     |refine bool_false c1 ?_
     |refine ko_rT (gff c1) ?_
     |refine ko_sF (gff c1) ?_
     |refine plan_as (pick_t (gff c1)) ?_
     |refine bool_true (gff c1) ?_
     |refine sym_pure hC (pH) ?_
     |refine sym_drawn hS (by kernel_rfl) ?_); conv => whnf)
    exact ⟨_, rfl, Wk.refl _⟩
   ·cases bF
    ·refine pure_sym hE rfl (by repeat' (first | exact trivial | assumption | exact flat_no _ | exact (fun _ h => nomatch h) | apply And.intro)) (by repeat' (first | exact trivial | assumption | exact flat_no _ | exact (fun _ h => nomatch h) | apply And.intro)) fun S q pc hS hq hC hE => ?_
     conv => whnf
     repeat ((first
      |refine sym_pure hC (hP) ?_
      |refine sym_pure hC (pR) ?_
      |refine sym_drawn hS (by kernel_rfl) ?_
      |refine sym_eq hq true (eqBool_same _ _) ?_
      |rw [beq_self_eq_true]
      |rw [bne_self_eq_false]); conv => whnf)
     repeat ((first
      |refine ko_sT c1 ?_
      |refine ko_rF c1 ?_
      |refine plan_as (pick_f c1) ?_
      |refine bool_false c1 ?_
      |refine ko_rT (gff c1) ?_
      |refine ko_sF (gff c1) ?_
      |refine plan_as (pick_t (gff c1)) ?_
      |refine bool_true (gff c1) ?_
      |refine sym_pure hC (pH) ?_
      |refine sym_pure hC (pF) ?_
      |refine sym_drawn hS (by kernel_rfl) ?_); conv => whnf)
     exact ⟨_, rfl, Wk.refl _⟩
    ·exact absurd ⟨⟨iR.1 rfl, q1⟩, iH.1 rfl, iF.1 rfl⟩ hc
  ·have c1 : decide (IntKind.i64.wrap (b - a) > 10) = true := decide_eq_true (by omega)
   refine pure_sym hE rfl (by repeat' (first | exact trivial | assumption | exact flat_no _ | exact (fun _ h => nomatch h) | apply And.intro)) (by repeat' (first | exact trivial | assumption | exact flat_no _ | exact (fun _ h => nomatch h) | apply And.intro)) fun S q pc hS hq hC hE => ?_
   conv => whnf
   repeat ((first
    |refine sym_pure hC (hP) ?_
    |refine sym_pure hC (pR) ?_
    |refine sym_drawn hS (by kernel_rfl) ?_
    |refine sym_eq hq true (eqBool_same _ _) ?_
    |rw [beq_self_eq_true]
    |rw [bne_self_eq_false]); conv => whnf)
   repeat ((first
    |refine ko_rT c1 ?_
    |refine ko_sF c1 ?_
    |refine plan_as (pick_t c1) ?_
    |refine bool_true c1 ?_
    |refine ko_sT (gft c1) ?_
    |refine ko_rF (gft c1) ?_
    |refine plan_as (pick_f (gft c1)) ?_
    |refine bool_false (gft c1) ?_
    |refine sym_drawn hS (by kernel_rfl) ?_); conv => whnf)
   exact ⟨_, rfl, Wk.refl _⟩
theorem sc_long (hk : Pure prog 14 [] (.bool true)) {x h : AV} {L : List LkI} {M : List Int} (hx : LL x L) (hh : IL h M) (hs : ¬ (L.length ≤ 7 ∧ M.length ≤ 6)) (a b c n d : Int) : Pure prog 9 [.agg [x, h], iv a, iv b, iv c, fv n d] (.bool true) := by
 have p1 := short_no hx hh hs
 have lx := hx.no
 have lh := hh.no
 rcases hx with ⟨rfl, rfl⟩ | rfl <;> rcases hh with ⟨rfl, rfl⟩ | rfl
 all_goals
  refine pure_sym hE rfl (by repeat' (first | exact trivial | assumption | exact flat_no _ | exact (fun _ h => nomatch h) | apply And.intro)) (by repeat' (first | exact trivial | assumption | exact flat_no _ | exact (fun _ h => nomatch h) | apply And.intro)) fun S q pc hS hq hC hE => ?_
  conv => whnf
  repeat ((first
   |refine sym_pure hC (p1) ?_
   |refine sym_pure hC (hk) ?_
   |refine sym_drawn hS (by kernel_rfl) ?_
   |refine sym_eq hq true (eqBool_same _ _) ?_
   |rw [beq_self_eq_true]
   |rw [bne_self_eq_false]); conv => whnf)
  exact ⟨_, rfl, Wk.refl _⟩
theorem sc_out (hk : Pure prog 14 [] (.bool true)) {x h : AV} {L : List LkI} {M : List Int} (hx : LL x L) (hh : IL h M) (h1 : L.length ≤ 7) (h2 : M.length ≤ 6) (hp : ¬ pcOk L M) (a b c n d : Int) : Pure prog 9 [.agg [x, h], iv a, iv b, iv c, fv n d] (.bool true) := by
 have p1 := short_yes hx hh h1 h2
 have p2 := isPiece_pure hx hh
 have p3 := rPiece_pure hx hh
 rw [decide_eq_false hp] at p2 p3
 have p4 := sChanges_out hx hh p2 a b c n d
 have lx := hx.no
 have lh := hh.no
 rcases hx with ⟨rfl, rfl⟩ | rfl <;> rcases hh with ⟨rfl, rfl⟩ | rfl
 all_goals
  refine pure_sym hE rfl (by repeat' (first | exact trivial | assumption | exact flat_no _ | exact (fun _ h => nomatch h) | apply And.intro)) (by repeat' (first | exact trivial | assumption | exact flat_no _ | exact (fun _ h => nomatch h) | apply And.intro)) fun S q pc hS hq hC hE => ?_
  conv => whnf
  repeat ((first
   |refine sym_pure hC (p1) ?_
   |refine sym_pure hC (p3) ?_
   |refine sym_pure hC (p4) ?_
   |refine sym_pure hC (hk) ?_
   |refine sym_drawn hS (by kernel_rfl) ?_
   |refine sym_eq hq true (eqBool_same _ _) ?_
   |rw [beq_self_eq_true]
   |rw [bne_self_eq_false]); conv => whnf)
  exact ⟨_, rfl, Wk.refl _⟩
theorem wide_b (a b : Int) : ∃ x : Bool, Pure prog 49 [iv a, iv b] (.bool x) ∧ (x = true ↔ rgOk a b ∧ IntKind.i64.wrap (b - a) ≤ 10) := by
 refine ⟨_, wide_pure a b (rRange_pure a b), ?_⟩
 rw [Bool.and_eq_true, decide_eq_true_iff, decide_eq_true_iff]
 exact Iff.rfl
theorem sc_no (hk : Pure prog 14 [] (.bool true)) {N : List Lk} {H : List Nat} (h : pcN N H) {a b c n d : Int} (hc : ¬ cuOk H.length a b c n d) : Pure prog 9 [.agg [nkA N, nl (zl H)], iv a, iv b, iv c, fv n d] (.bool true) := by
 have lN := lks_no (cL N)
 have lM := ivs_no (zl H)
 obtain ⟨bW, pW, iW⟩ := wide_b a b
 obtain ⟨bH, pH, iH⟩ := hand_b h c
 obtain ⟨bF, pF, iF⟩ := fr_b n d
 have p1 := h.sh
 have p3 := h.rP
 have p4 := sChanges_no h hc
 have hn : ¬ (bW = true ∧ bH = true ∧ bF = true) := fun z => hc ⟨iW.1 z.1, iH.1 z.2.1, iF.1 z.2.2⟩
 cases bW <;> cases bH <;> cases bF
 all_goals first
  |exact absurd ⟨rfl, rfl, rfl⟩ hn
  |skip
 all_goals
  refine pure_sym hE rfl (by repeat' (first | exact trivial | assumption | exact flat_no _ | exact (fun _ h => nomatch h) | apply And.intro)) (by repeat' (first | exact trivial | assumption | exact flat_no _ | exact (fun _ h => nomatch h) | apply And.intro)) fun S q pc hS hq hC hE => ?_
  conv => whnf
  repeat ((first
   |refine sym_pure hC (p1) ?_
   |refine sym_pure hC (p3) ?_
   |refine sym_pure hC (p4) ?_
   |refine sym_pure hC (pW) ?_
   |refine sym_pure hC (pH) ?_
   |refine sym_pure hC (pF) ?_
   |refine sym_pure hC (hk) ?_
   |refine sym_drawn hS (by kernel_rfl) ?_
   |refine sym_eq hq true (eqBool_same _ _) ?_
   |rw [beq_self_eq_true]
   |rw [bne_self_eq_false]); conv => whnf)
  exact ⟨_, rfl, Wk.refl _⟩
theorem sc_yes (hk : Pure prog 14 [] (.bool true)) {N : List Lk} {H : List Nat} (h : pcN N H) {a b c n d : Nat} (hlo : 4 ≤ a) (hle : a ≤ b) (hhi : b ≤ 60) (hw : b - a ≤ 10) (hh : c < H.length) (hn : n ≤ 50000) (hd : 1 ≤ d ∧ d ≤ 50000) (pW : Pure prog 49 [nv a, nv b] (.bool true)) (pH : Pure prog 30 [.agg [nkA N, nl (zl H)], nv c] (.bool true)) (pF : Pure prog 31 [fv (Int.ofNat n) (Int.ofNat d)] (.bool true)) :
  Pure prog 9 [.agg [nkA N, nl (zl H)], nv a, nv b, nv c, fv (Int.ofNat n) (Int.ofNat d)] (.bool true) := by
 have lN := lks_no (cL N)
 have lM := ivs_no (zl H)
 have p1 := h.sh
 have p3 := h.rP
 have p4 := changes_pure h.ok h.l1 h.l5 h.hdN h.isP hlo hle hhi hw hh hn hd
 have p5 := rChanges_pure h hlo hle hhi hw hh hn hd
 rw [chD_chR] at p5
 have hl : ∀ l, chR N H a b c (n, d) = some l → l.length ≤ 2 := fun l e => by
  have k1 := srS_len (sr0_len (N := N) (H := H) (hand := c) (t := (n, d))) (N := N) (lo := a) (hi := b)
  have k2 := srS_len k1 (N := N) (lo := a) (hi := b)
  unfold chR at e
  cases e0 : sr0 N H c (n, d) N 0 with
  |some x => rw [e0] at e; injection e with e; subst e; rw [sr0_len _ _ _ e0]; exact Nat.zero_le _
  |none =>
   rw [e0] at e
   cases e1 : srS (sr0 N H c (n, d)) N a b N 0 with
   |some x => rw [e1] at e; injection e with e; subst e; rw [k1 _ _ _ e1]; exact Nat.le_succ _
   |none => rw [e1] at e; rw [k2 _ _ _ e]; exact Nat.le_refl _
 generalize chR N H a b c (n, d) = A at *
 rcases A with _ | (_ | ⟨x, l⟩)
 ·refine pure_sym hE rfl (by repeat' (first | exact trivial | assumption | exact flat_no _ | exact (fun _ h => nomatch h) | apply And.intro)) (by repeat' (first | exact trivial | assumption | exact flat_no _ | exact (fun _ h => nomatch h) | apply And.intro)) fun S q pc hS hq hC hE => ?_
  conv => whnf
  repeat ((first
   |refine sym_pure hC (p1) ?_
   |refine sym_pure hC (p3) ?_
   |refine sym_pure hC (p4) ?_
   |refine sym_pure hC (p5) ?_
   |refine sym_pure hC (pW) ?_
   |refine sym_pure hC (pH) ?_
   |refine sym_pure hC (pF) ?_
   |refine sym_pure hC (hk) ?_
   |refine sym_drawn hS (by kernel_rfl) ?_
   |refine sym_eq hq true (eqBool_same _ _) ?_
   |rw [beq_self_eq_true]
   |rw [bne_self_eq_false]); conv => whnf)
  exact ⟨_, rfl, Wk.refl _⟩
 ·refine pure_sym hE rfl (by repeat' (first | exact trivial | assumption | exact flat_no _ | exact (fun _ h => nomatch h) | apply And.intro)) (by repeat' (first | exact trivial | assumption | exact flat_no _ | exact (fun _ h => nomatch h) | apply And.intro)) fun S q pc hS hq hC hE => ?_
  conv => whnf
  repeat ((first
   |refine sym_pure hC (p1) ?_
   |refine sym_pure hC (p3) ?_
   |refine sym_pure hC (p4) ?_
   |refine sym_pure hC (p5) ?_
   |refine sym_pure hC (pW) ?_
   |refine sym_pure hC (pH) ?_
   |refine sym_pure hC (pF) ?_
   |refine sym_pure hC (sameC_nil) ?_
   |refine sym_pure hC (hk) ?_
   |refine sym_drawn hS (by kernel_rfl) ?_
   |refine sym_eq hq true (eqBool_same _ _) ?_
   |rw [beq_self_eq_true]
   |rw [bne_self_eq_false]); conv => whnf)
  exact ⟨_, rfl, Wk.refl _⟩
 ·have lA := lks_no (cL (x :: l))
  have pS := sameC_self (x :: l) (by have := hl _ rfl; omega)
  refine pure_sym hE rfl (by repeat' (first | exact trivial | assumption | exact flat_no _ | exact (fun _ h => nomatch h) | apply And.intro)) (by repeat' (first | exact trivial | assumption | exact flat_no _ | exact (fun _ h => nomatch h) | apply And.intro)) fun S q pc hS hq hC hE => ?_
  conv => whnf
  repeat ((first
   |refine sym_pure hC (p1) ?_
   |refine sym_pure hC (p3) ?_
   |refine sym_pure hC (p4) ?_
   |refine sym_pure hC (p5) ?_
   |refine sym_pure hC (pW) ?_
   |refine sym_pure hC (pH) ?_
   |refine sym_pure hC (pF) ?_
   |refine sym_pure hC (pS) ?_
   |refine sym_pure hC (hk) ?_
   |refine sym_drawn hS (by kernel_rfl) ?_
   |refine sym_eq hq true (eqBool_same _ _) ?_
   |rw [beq_self_eq_true]
   |rw [bne_self_eq_false]); conv => whnf)
  exact ⟨_, rfl, Wk.refl _⟩
theorem shopChanges (hk : Pure prog 14 [] (.bool true)) {x h : AV} {L : List LkI} {M : List Int} (hx : LL x L) (hh : IL h M) (a b c n d : Int) : Pure prog 9 [.agg [x, h], iv a, iv b, iv c, fv n d] (.bool true) := by
 rcases piece_cases hx hh with hs | ⟨h1, h2, hp⟩ | ⟨N, H, hN, rfl, rfl⟩
 ·exact sc_long hk hx hh hs a b c n d
 ·exact sc_out hk hx hh h1 h2 hp a b c n d
 ·by_cases hc : cuOk H.length a b c n d
  ·obtain ⟨bW, pW, iW⟩ := wide_b a b
   obtain rfl : bW = true := iW.2 hc.1
   have pF := rFraction_pure n d
   rw [decide_eq_true hc.2.2] at pF
   obtain ⟨bH, pH, iH⟩ := hand_b hN c
   obtain rfl : bH = true := iH.2 hc.2.1
   have q := hc.1
   unfold rgOk tth at q
   rw [wrapI (by omega) (by omega)] at q
   obtain ⟨a, rfl, _⟩ := int_nat (m := 60) (a := a) ⟨by omega, by omega⟩
   obtain ⟨b, rfl, _⟩ := int_nat (m := 60) (a := b) ⟨by omega, by omega⟩
   obtain ⟨c, rfl, _⟩ := int_nat (m := (H.length : Int)) (a := c) ⟨hc.2.1.1, by have := hc.2.1.2; omega⟩
   obtain ⟨n, d, rfl, rfl, q1, q2, q3⟩ := isF_nat hc.2.2
   have hcc := hc.2.1.2
   simp only [Int.ofNat_eq_natCast] at q hcc
   exact sc_yes hk hN (by omega) (by omega) (by omega) (by omega) (by omega) q1 ⟨q2, q3⟩ pW pH pF
  ·exact sc_no hk hN hc
end
end Go.Abs.Seat
