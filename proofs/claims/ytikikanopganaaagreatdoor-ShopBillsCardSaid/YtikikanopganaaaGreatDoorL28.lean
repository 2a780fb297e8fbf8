/-
  The law ShopBills.
-/
import Derived.Test.YtikikanopganaaaGreatDoorB9
/-! The law ShopBills. -/
namespace Go.Abs.Seat
noncomputable section
open Go Go.Abs Go.Proofs.Tryz
set_option maxRecDepth 100000
set_option maxHeartbeats 40000000
attribute [local irreducible] IntKind.wrap pEq

theorem ofT {a : Int} (h : 0 ≤ a) : Int.ofNat a.toNat = a := Int.toNat_of_nonneg h
theorem allT_nat : ∀ {l : List Int}, allT l → ∃ m : List Nat, l = zl m ∧ ∀ y, y ∈ m → y ≤ 60
 | [], _ => ⟨[], rfl, fun _ h => absurd h (List.not_mem_nil)⟩
 |x :: r, h => by
  have h2 := allT_cons.1 h
  obtain ⟨m, e, hm⟩ := allT_nat h2.2
  have hx := h2.1
  unfold tth at hx
  refine ⟨x.toNat :: m, by rw [e]; show x :: zl m = Int.ofNat x.toNat :: zl m; rw [ofT (by omega)], fun y hy => ?_⟩
  rcases List.mem_cons.1 hy with rfl | hy
  ·omega
  ·exact hm y hy
theorem sb_long {l : List Int} (hl : ¬ l.length ≤ 10) (a b c s e more : Int) (hk : Pure prog 14 [] (.bool true)) : Pure prog 3 [bv (nl l) a b c s e, iv more] (.bool true) := by
 have ll := ivs_no l
 have c1 : decide ((l.length : Int) > 10) = true := decide_eq_true (by omega)
 refine pure_sym hE rfl (by repeat' (first | exact trivial | assumption | exact flat_no _ | exact (fun _ h => nomatch h) | apply And.intro)) (by repeat' (first | exact trivial | assumption | exact flat_no _ | exact (fun _ h => nomatch h) | apply And.intro)) fun S q pc hS hq hC hE => ?_
 conv => whnf
 repeat ((first
  |refine ko_rT c1 ?_
  |refine ko_sF c1 ?_
  |refine plan_as (pick_t c1) ?_
  |refine bool_true c1 ?_
  |refine sym_pure hC (hk) ?_
  |refine sym_drawn hS (by kernel_rfl) ?_); conv => whnf)
 exact ⟨_, rfl, Wk.refl _⟩
theorem sb_no {x : AV} {l : List Int} (h : IL x l) (hl : l.length ≤ 10) {a b c s e : Int} (more : Int) (hk : Pure prog 14 [] (.bool true)) (hn : ¬ blOk l a b c s e) : Pure prog 3 [bv x a b c s e, iv more] (.bool true) := by
 have lx := h.no
 have p1 := bill_no h (by omega) hn
 have p2 := rBill_pure h (by omega) a b c s e
 rw [decide_eq_false hn] at p2
 rcases h with ⟨rfl, rfl⟩ | rfl
 ·refine pure_sym hE rfl (by repeat' (first | exact trivial | assumption | exact flat_no _ | exact (fun _ h => nomatch h) | apply And.intro)) (by repeat' (first | exact trivial | assumption | exact flat_no _ | exact (fun _ h => nomatch h) | apply And.intro)) fun S q pc hS hq hC hE => ?_
  conv => whnf
  repeat ((first
   |refine sym_pure hC (p1) ?_
   |refine sym_pure hC (p2) ?_
   |refine sym_pure hC (hk) ?_
   |refine sym_drawn hS (by kernel_rfl) ?_
   |refine sym_eq hq true (eqBool_same _ _) ?_
   |rw [beq_self_eq_true]
   |rw [bne_self_eq_false]); conv => whnf)
  exact ⟨_, rfl, Wk.refl _⟩
 ·have c1 : decide ((l.length : Int) > 10) = false := decide_eq_false (by omega)
  refine pure_sym hE rfl (by repeat' (first | exact trivial | assumption | exact flat_no _ | exact (fun _ h => nomatch h) | apply And.intro)) (by repeat' (first | exact trivial | assumption | exact flat_no _ | exact (fun _ h => nomatch h) | apply And.intro)) fun S q pc hS hq hC hE => ?_
  conv => whnf
  refine bool_false (c1) ?_
  conv => whnf
  repeat ((first
   |refine sym_pure hC (p1) ?_
   |refine sym_pure hC (p2) ?_
   |refine sym_pure hC (hk) ?_
   |refine sym_drawn hS (by kernel_rfl) ?_
   |refine sym_eq hq true (eqBool_same _ _) ?_
   |rw [beq_self_eq_true]
   |rw [bne_self_eq_false]); conv => whnf)
  exact ⟨_, rfl, Wk.refl _⟩
theorem sb_yes {x : AV} {l : List Int} (h : IL x l) {a b c s e : Int} (more : Int) (hk : Pure prog 14 [] (.bool true)) (hn : blOk l a b c s e) : Pure prog 3 [bv x a b c s e, iv more] (.bool true) := by
 have lx := h.no
 have p2 := rBill_pure h (by have := hn.1.1; omega) a b c s e
 rw [decide_eq_true hn] at p2
 have pT := areTeeth_pure h (by have := hn.1.1; omega)
 rw [decide_eq_true hn.1] at pT
 obtain ⟨⟨h8, hT⟩, ha, hb, hc, hs, he⟩ := hn
 obtain ⟨m, rfl, h60⟩ := allT_nat hT
 have hz := zl_len m
 have ea := (ofT ha.1).symm
 have eb := (ofT hb.1).symm
 have ec := (ofT hc.1).symm
 have es := (ofT hs.1).symm
 have ee := (ofT he.1).symm
 have p1 := bill_yes h (by omega) h60 ea eb ec es ee (by omega) (by omega) (by omega) (by omega) (by omega) pT
 have p3 := price_pure (e := e) h (by omega) h60 ea eb ec es (by omega) (by omega) (by omega) (by omega)
 have bS := sqL_sum m h60
 have bP : prN (sqL m).sum a.toNat b.toNat c.toNat s.toNat ≤ 3000000 := by
  have k := coN_le (S := (sqL m).sum) (a := a.toNat) (b := b.toNat) (c := c.toNat) (by omega) (by omega) (by omega) (by omega)
  have k2 : coN (sqL m).sum a.toNat b.toNat c.toNat * s.toNat ≤ 1000000 * 100 := Nat.mul_le_mul k.2.2 (by omega)
  unfold prN; omega
 have p4 : 0 ≤ more ∧ more ≤ 1000000 - e → Pure prog 15 [bv x a b c s (IntKind.i64.wrap (e + more))] (.tup [nv (prN (sqL m).sum a.toNat b.toNat c.toNat s.toNat), iv (Int.ofNat (prN (sqL m).sum a.toNat b.toNat c.toNat s.toNat) - IntKind.i64.wrap (e + more)), iv 0]) := fun hm => by
  have ew : IntKind.i64.wrap (e + more) = Int.ofNat (e.toNat + more.toNat) := by
   rw [wrapI (by omega) (by omega)]
   show _ = ((e.toNat + more.toNat : Nat) : Int); omega
  exact bill_yes h (by omega) h60 ea eb ec es ew (by omega) (by omega) (by omega) (by omega) (by omega) pT
 generalize prN (sqL m).sum a.toNat b.toNat c.toNat s.toNat = P at p1 p3 p4 bP
 have c2 : (Int.ofNat P - e != IntKind.i64.wrap (Int.ofNat P - e)) = false := by
  rw [wrapI (by show _ ≤ (P : Int) - e; omega) (by show (P : Int) - e < _; omega)]; exact bne_self_eq_false _
 have w1 : IntKind.i64.wrap (1000000 - e) = 1000000 - e := wrapI (by omega) (by omega)
 clear ea eb ec es ee pT bS hT h60
 by_cases h1 : more < 0
 ·have d1 : decide (more < 0) = true := decide_eq_true h1
  rcases h with ⟨rfl, e0⟩ | rfl
  ·refine pure_sym hE rfl (by repeat' (first | exact trivial | assumption | exact flat_no _ | exact (fun _ h => nomatch h) | apply And.intro)) (by repeat' (first | exact trivial | assumption | exact flat_no _ | exact (fun _ h => nomatch h) | apply And.intro)) fun S q pc hS hq hC hE => ?_
   conv => whnf
   repeat ((first
    |refine sym_pure hC (p1) ?_
    |refine sym_pure hC (p2) ?_
    |refine sym_pure hC (p3) ?_
    |refine sym_pure hC (hk) ?_
    |refine sym_drawn hS (by kernel_rfl) ?_
    |refine sym_eq hq true (eqBool_same _ _) ?_
    |rw [beq_self_eq_true]
    |rw [bne_self_eq_false]); conv => whnf)
   repeat ((first
    |refine ko_sT c2 ?_
    |refine ko_rF c2 ?_
    |refine plan_as (pick_f c2) ?_
    |refine bool_false c2 ?_
    |refine ko_rT d1 ?_
    |refine ko_sF d1 ?_
    |refine plan_as (pick_t d1) ?_
    |refine bool_true d1 ?_
    |refine sym_pure hC (hk) ?_
    |refine sym_drawn hS (by kernel_rfl) ?_); conv => whnf)
   exact ⟨_, rfl, Wk.refl _⟩
  ·have c1 : decide (((zl m).length : Int) > 10) = false := decide_eq_false (by omega)
   refine pure_sym hE rfl (by repeat' (first | exact trivial | assumption | exact flat_no _ | exact (fun _ h => nomatch h) | apply And.intro)) (by repeat' (first | exact trivial | assumption | exact flat_no _ | exact (fun _ h => nomatch h) | apply And.intro)) fun S q pc hS hq hC hE => ?_
   conv => whnf
   refine bool_false (c1) ?_
   conv => whnf
   repeat ((first
    |refine sym_pure hC (p1) ?_
    |refine sym_pure hC (p2) ?_
    |refine sym_pure hC (p3) ?_
    |refine sym_pure hC (hk) ?_
    |refine sym_drawn hS (by kernel_rfl) ?_
    |refine sym_eq hq true (eqBool_same _ _) ?_
    |rw [beq_self_eq_true]
    |rw [bne_self_eq_false]); conv => whnf)
   repeat ((first
    |refine ko_sT c2 ?_
    |refine ko_rF c2 ?_
    |refine plan_as (pick_f c2) ?_
    |refine bool_false c2 ?_
    |refine ko_rT d1 ?_
    |refine ko_sF d1 ?_
    |refine plan_as (pick_t d1) ?_
    |refine bool_true d1 ?_
    |refine sym_pure hC (hk) ?_
    |refine sym_drawn hS (by kernel_rfl) ?_); conv => whnf)
   exact ⟨_, rfl, Wk.refl _⟩
 ·have d1 : decide (more < 0) = false := decide_eq_false h1
  by_cases h2 : more > 1000000 - e
  ·have d2 : decide (more > IntKind.i64.wrap (1000000 - e)) = true := by rw [w1]; exact decide_eq_true h2
   rcases h with ⟨rfl, e0⟩ | rfl
   ·refine pure_sym hE rfl (by repeat' (first | exact trivial | assumption | exact flat_no _ | exact (fun _ h => nomatch h) | apply And.intro)) (by repeat' (first | exact trivial | assumption | exact flat_no _ | exact (fun _ h => nomatch h) | apply And.intro)) fun S q pc hS hq hC hE => ?_
    conv => whnf
    repeat ((first
     |refine sym_pure hC (p1) ?_
     |refine sym_pure hC (p2) ?_
     |refine sym_pure hC (p3) ?_
     |refine sym_pure hC (hk) ?_
     |refine sym_drawn hS (by kernel_rfl) ?_
     |refine sym_eq hq true (eqBool_same _ _) ?_
     |rw [beq_self_eq_true]
     |rw [bne_self_eq_false]); conv => whnf)
    repeat ((first
     |refine ko_sT c2 ?_
     |refine ko_rF c2 ?_
     |refine plan_as (pick_f c2) ?_
     |refine bool_false c2 ?_
     |refine ko_sT d1 ?_
     |refine ko_rF d1 ?_
     |refine plan_as (pick_f d1) ?_
     |refine bool_false d1 ?_
     |refine ko_rT d2 ?_
     |refine ko_sF d2 ?_
     |refine plan_as (pick_t d2) ?_
     |refine bool_true d2 ?_
     |refine sym_pure hC (hk) ?_
     |refine sym_drawn hS (by kernel_rfl) ?_); conv => whnf)
    exact ⟨_, rfl, Wk.refl _⟩
   ·have c1 : decide (((zl m).length : Int) > 10) = false := decide_eq_false (by omega)
    refine pure_sym hE rfl (by repeat' (first | exact trivial | assumption | exact flat_no _ | exact (fun _ h => nomatch h) | apply And.intro)) (by repeat' (first | exact trivial | assumption | exact flat_no _ | exact (fun _ h => nomatch h) | apply And.intro)) fun S q pc hS hq hC hE => ?_
    conv => whnf
    refine bool_false (c1) ?_
    conv => whnf
    repeat ((first
     |refine sym_pure hC (p1) ?_
     |refine sym_pure hC (p2) ?_
     |refine sym_pure hC (p3) ?_
     |refine sym_pure hC (hk) ?_
     |refine sym_drawn hS (by kernel_rfl) ?_
     |refine sym_eq hq true (eqBool_same _ _) ?_
     |rw [beq_self_eq_true]
     |rw [bne_self_eq_false]); conv => whnf)
    repeat ((first
     |refine ko_sT c2 ?_
     |refine ko_rF c2 ?_
     |refine plan_as (pick_f c2) ?_
     |refine bool_false c2 ?_
     |refine ko_sT d1 ?_
     |refine ko_rF d1 ?_
     |refine plan_as (pick_f d1) ?_
     |refine bool_false d1 ?_
     |refine ko_rT d2 ?_
     |refine ko_sF d2 ?_
     |refine plan_as (pick_t d2) ?_
     |refine bool_true d2 ?_
     |refine sym_pure hC (hk) ?_
     |refine sym_drawn hS (by kernel_rfl) ?_); conv => whnf)
    exact ⟨_, rfl, Wk.refl _⟩
  ·have d2 : decide (more > IntKind.i64.wrap (1000000 - e)) = false := by rw [w1]; exact decide_eq_false h2
   have p4 := p4 ⟨by omega, by omega⟩
   have c3 : (Int.ofNat P - IntKind.i64.wrap (e + more) == IntKind.i64.wrap (Int.ofNat P - e - more)) = true := by
    rw [wrapI (n := e + more) (by omega) (by omega), wrapI (by show _ ≤ (P : Int) - e - more; omega) (by show (P : Int) - e - more < _; omega), beq_iff_eq]
    show (P : Int) - (e + more) = (P : Int) - e - more; omega
   have c4 : (Int.ofNat P == Int.ofNat P) = true := beq_self_eq_true _
   rcases h with ⟨rfl, e0⟩ | rfl
   ·refine pure_sym hE rfl (by repeat' (first | exact trivial | assumption | exact flat_no _ | exact (fun _ h => nomatch h) | apply And.intro)) (by repeat' (first | exact trivial | assumption | exact flat_no _ | exact (fun _ h => nomatch h) | apply And.intro)) fun S q pc hS hq hC hE => ?_
    conv => whnf
    repeat ((first
     |refine sym_pure hC (p1) ?_
     |refine sym_pure hC (p2) ?_
     |refine sym_pure hC (p3) ?_
     |refine sym_pure hC (hk) ?_
     |refine sym_drawn hS (by kernel_rfl) ?_
     |refine sym_eq hq true (eqBool_same _ _) ?_
     |rw [beq_self_eq_true]
     |rw [bne_self_eq_false]); conv => whnf)
    repeat ((first
     |refine ko_sT c2 ?_
     |refine ko_rF c2 ?_
     |refine plan_as (pick_f c2) ?_
     |refine bool_false c2 ?_
     |refine ko_sT d1 ?_
     |refine ko_rF d1 ?_
     |refine plan_as (pick_f d1) ?_
     |refine bool_false d1 ?_
     |refine ko_sT d2 ?_
     |refine ko_rF d2 ?_
     |refine plan_as (pick_f d2) ?_
     |refine bool_false d2 ?_
     |refine ko_rT c3 ?_
     |refine ko_sF c3 ?_
     |refine plan_as (pick_t c3) ?_
     |refine bool_true c3 ?_
     |refine ko_rT c4 ?_
     |refine ko_sF c4 ?_
     |refine plan_as (pick_t c4) ?_
     |refine bool_true c4 ?_
     |refine sym_pure hC (hk) ?_
     |refine sym_pure hC (p4) ?_
     |refine sym_drawn hS (by kernel_rfl) ?_); conv => whnf)
    exact ⟨_, rfl, Wk.refl _⟩
   ·have c1 : decide (((zl m).length : Int) > 10) = false := decide_eq_false (by omega)
    refine pure_sym hE rfl (by repeat' (first | exact trivial | assumption | exact flat_no _ | exact (fun _ h => nomatch h) | apply And.intro)) (by repeat' (first | exact trivial | assumption | exact flat_no _ | exact (fun _ h => nomatch h) | apply And.intro)) fun S q pc hS hq hC hE => ?_
    conv => whnf
    refine bool_false (c1) ?_
    conv => whnf
    repeat ((first
     |refine sym_pure hC (p1) ?_
     |refine sym_pure hC (p2) ?_
     |refine sym_pure hC (p3) ?_
     |refine sym_pure hC (hk) ?_
     |refine sym_drawn hS (by kernel_rfl) ?_
     |refine sym_eq hq true (eqBool_same _ _) ?_
     |rw [beq_self_eq_true]
     |rw [bne_self_eq_false]); conv => whnf)
    repeat ((first
     |refine ko_sT c2 ?_
     |refine ko_rF c2 ?_
     |refine plan_as (pick_f c2) ?_
     |refine bool_false c2 ?_
     |refine ko_sT d1 ?_
     |refine ko_rF d1 ?_
     |refine plan_as (pick_f d1) ?_
     |refine bool_false d1 ?_
     |refine ko_sT d2 ?_
     |refine ko_rF d2 ?_
     |refine plan_as (pick_f d2) ?_
     |refine bool_false d2 ?_
     |refine ko_rT c3 ?_
     |refine ko_sF c3 ?_
     |refine plan_as (pick_t c3) ?_
     |refine bool_true c3 ?_
     |refine ko_rT c4 ?_
     |refine ko_sF c4 ?_
     |refine plan_as (pick_t c4) ?_
     |refine bool_true c4 ?_
     |refine sym_pure hC (hk) ?_
     |refine sym_pure hC (p4) ?_
     |refine sym_drawn hS (by kernel_rfl) ?_); conv => whnf)
    exact ⟨_, rfl, Wk.refl _⟩
theorem shopBills (hk : Pure prog 14 [] (.bool true)) {x : AV} {l : List Int} (h : IL x l) (a b c s e more : Int) : Pure prog 3 [bv x a b c s e, iv more] (.bool true) := by
 by_cases h10 : l.length ≤ 10
 ·by_cases hn : blOk l a b c s e
  ·exact sb_yes h more hk hn
  ·exact sb_no h h10 more hk hn
 ·rcases h with ⟨rfl, rfl⟩ | rfl
  ·exact absurd (Nat.zero_le _) h10
  ·exact sb_long h10 a b c s e more hk
end
end Go.Abs.Seat
