/-
  The law ShopSheets.
-/
import Derived.Test.YtikikanopganaaaGreatDoorU13
import Derived.Test.YtikikanopganaaaGreatDoorU14
/-! The law ShopSheets. -/
namespace Go.Abs.Seat
noncomputable section
open Go Go.Abs Go.Proofs.Tryz
set_option maxRecDepth 100000
set_option maxHeartbeats 40000000
attribute [local irreducible] IntKind.wrap pEq

theorem slim_no {x y : AV} {T D : List Int} (hx : IL x T) (hy : IL y D) (hs : ¬ (T.length ≤ 10 ∧ D.length ≤ 10)) : Pure prog 55 [x, y] (.bool false) := by
 have lx := hx.no
 have ly := hy.no
 rcases hx with ⟨rfl, rfl⟩ | rfl <;> rcases hy with ⟨rfl, rfl⟩ | rfl
 ·exact absurd ⟨by decide, by decide⟩ hs
 ·have c2 : decide ((D.length : Int) ≤ 10) = false := decide_eq_false fun k => hs ⟨by simp, by omega⟩
  refine pure_sym hE rfl (by repeat' (first | exact trivial | assumption | exact flat_no _ | exact (fun _ h => nomatch h) | apply And.intro)) (by repeat' (first | exact trivial | assumption | exact flat_no _ | exact (fun _ h => nomatch h) | apply And.intro)) fun S q pc hS hq hC hE => ?_
  conv => whnf
  repeat ((first
   |refine ko_sT c2 ?_
   |refine ko_rF c2 ?_
   |refine plan_as (pick_f c2) ?_
   |refine bool_false c2 ?_
   |refine sym_drawn hS (by kernel_rfl) ?_); conv => whnf)
  exact ⟨_, rfl, wkb c2⟩
 ·have c2 : decide ((T.length : Int) ≤ 10) = false := decide_eq_false fun k => hs ⟨by omega, by simp⟩
  refine pure_sym hE rfl (by repeat' (first | exact trivial | assumption | exact flat_no _ | exact (fun _ h => nomatch h) | apply And.intro)) (by repeat' (first | exact trivial | assumption | exact flat_no _ | exact (fun _ h => nomatch h) | apply And.intro)) fun S q pc hS hq hC hE => ?_
  conv => whnf
  repeat ((first
   |refine ko_sT c2 ?_
   |refine ko_rF c2 ?_
   |refine plan_as (pick_f c2) ?_
   |refine bool_false c2 ?_
   |refine sym_drawn hS (by kernel_rfl) ?_); conv => whnf)
  exact ⟨_, rfl, Wk.refl _⟩
 ·by_cases k : T.length ≤ 10
  ·have c1 : decide ((T.length : Int) ≤ 10) = true := decide_eq_true (by omega)
   have c2 : decide ((D.length : Int) ≤ 10) = false := decide_eq_false fun q => hs ⟨k, by omega⟩
   refine pure_sym hE rfl (by repeat' (first | exact trivial | assumption | exact flat_no _ | exact (fun _ h => nomatch h) | apply And.intro)) (by repeat' (first | exact trivial | assumption | exact flat_no _ | exact (fun _ h => nomatch h) | apply And.intro)) fun S q pc hS hq hC hE => ?_
   conv => whnf
   repeat ((first
    |refine ko_rT c1 ?_
    |refine ko_sF c1 ?_
    |refine plan_as (pick_t c1) ?_
    |refine bool_true c1 ?_
    |refine ko_sT c2 ?_
    |refine ko_rF c2 ?_
    |refine plan_as (pick_f c2) ?_
    |refine bool_false c2 ?_
    |refine sym_drawn hS (by kernel_rfl) ?_); conv => whnf)
   exact ⟨_, rfl, wkb c2⟩
  ·have c1 : decide ((T.length : Int) ≤ 10) = false := decide_eq_false (by omega)
   refine pure_sym hE rfl (by repeat' (first | exact trivial | assumption | exact flat_no _ | exact (fun _ h => nomatch h) | apply And.intro)) (by repeat' (first | exact trivial | assumption | exact flat_no _ | exact (fun _ h => nomatch h) | apply And.intro)) fun S q pc hS hq hC hE => ?_
   conv => whnf
   repeat ((first
    |refine ko_sT c1 ?_
    |refine ko_rF c1 ?_
    |refine plan_as (pick_f c1) ?_
    |refine bool_false c1 ?_
    |refine sym_drawn hS (by kernel_rfl) ?_); conv => whnf)
   exact ⟨_, rfl, Wk.refl _⟩
theorem slim_yes {x y : AV} {T D : List Int} (hx : IL x T) (hy : IL y D) (h1 : T.length ≤ 10) (h2 : D.length ≤ 10) : Pure prog 55 [x, y] (.bool true) := by
 have c1 : decide ((T.length : Int) ≤ 10) = true := decide_eq_true (by omega)
 have c2 : decide ((D.length : Int) ≤ 10) = true := decide_eq_true (by omega)
 have lx := hx.no
 have ly := hy.no
 rcases hx with ⟨rfl, rfl⟩ | rfl <;> rcases hy with ⟨rfl, rfl⟩ | rfl
 all_goals
  refine pure_sym hE rfl (by repeat' (first | exact trivial | assumption | exact flat_no _ | exact (fun _ h => nomatch h) | apply And.intro)) (by repeat' (first | exact trivial | assumption | exact flat_no _ | exact (fun _ h => nomatch h) | apply And.intro)) fun S q pc hS hq hC hE => ?_
  conv => whnf
  repeat ((first
   |refine ko_rT c1 ?_
   |refine ko_sF c1 ?_
   |refine plan_as (pick_t c1) ?_
   |refine bool_true c1 ?_
   |refine ko_rT c2 ?_
   |refine ko_sF c2 ?_
   |refine plan_as (pick_t c2) ?_
   |refine bool_true c2 ?_
   |refine sym_drawn hS (by kernel_rfl) ?_); conv => whnf)
  first | exact ⟨_, rfl, Wk.refl _⟩ | exact ⟨_, rfl, wkb c2⟩
theorem wl_iff (T : List Int) : wlOk T ↔ whOk T ∧ T ≠ [] := by
 constructor
 ·rintro ⟨h1, h2, h3⟩
  exact ⟨⟨h3, h1⟩, fun z => by rw [z] at h2; exact absurd h2 (by decide)⟩
 ·rintro ⟨⟨h1, h2⟩, h3⟩
  exact ⟨h2, Nat.pos_of_ne_zero fun z => h3 (List.eq_nil_of_length_eq_zero z), h1⟩
structure pqN (long saw : Int) (T : List Int) (n s : Nat) (t : List Nat) : Prop where
 a : long = Int.ofNat n
 b : saw = Int.ofNat s
 c : T = zl t
 q1 : swOk (Int.ofNat n) (Int.ofNat s)
 q2 : whOk (zl t)
 l1 : 1 ≤ t.length
 l8 : t.length ≤ 8
 n5 : n ≤ 500
 s9 : s ≤ 9
 ht : ∀ x, x ∈ t → 1 ≤ x ∧ x ≤ 60
 wl : wlOk (zl t)
theorem pq_of {long saw : Int} {T : List Int} (h1 : swOk long saw) (h2 : wlOk T) : ∃ n s t, pqN long saw T n s t := by
 obtain ⟨n, rfl, hn⟩ := int_nat (m := 500) (a := long) ⟨by have := h1.1.1; omega, h1.1.2⟩
 obtain ⟨s, rfl, hs⟩ := int_nat (m := 9) (a := saw) h1.2
 obtain ⟨t, rfl, ht⟩ := allT_nat h2.1
 have hl := h2.2
 rw [zl_len] at hl
 refine ⟨n, s, t, rfl, rfl, rfl, h1, ((wl_iff _).1 h2).1, hl.1, hl.2, Int.ofNat_le.1 hn, Int.ofNat_le.1 hs, fun x hx => ⟨?_, ht x hx⟩, h2⟩
 obtain ⟨j, hj, e⟩ := List.getElem_of_mem hx
 have := h2.1 j (by rw [zl_len]; exact hj)
 rw [gi_zl t hj, show gn t j = x by rw [← e]; simp [gn, List.getD, hj]] at this
 have := this.1
 simp only [Int.ofNat_eq_natCast] at this
 omega
theorem sh_long (hk : Pure prog 14 [] (.bool true)) (long saw : Int) {x y : AV} {T D : List Int} (hx : IL x T) (hy : IL y D) (hs : ¬ (T.length ≤ 10 ∧ D.length ≤ 10)) : Pure prog 12 [iv long, iv saw, x, y] (.bool true) := by
 have p1 := slim_no hx hy hs
 have lx := hx.no
 have ly := hy.no
 rcases hx with ⟨rfl, rfl⟩ | rfl <;> rcases hy with ⟨rfl, rfl⟩ | rfl
 all_goals
  refine pure_sym hE rfl (by repeat' (first | exact trivial | assumption | exact flat_no _ | exact (fun _ h => nomatch h) | apply And.intro)) (by repeat' (first | exact trivial | assumption | exact flat_no _ | exact (fun _ h => nomatch h) | apply And.intro)) fun S q pc hS hq hC hE => ?_
  conv => whnf
  repeat ((first
   |refine sym_pure hC (p1) ?_
   |refine sym_pure hC (hk) ?_
   |refine sym_drawn hS (by kernel_rfl) ?_
   |refine sym_eq hq true (eqBool_same _ _) ?_
   |rw [beq_self_eq_true]
   |rw [bne_self_eq_false]); conv => whnf)
  exact ⟨_, rfl, Wk.refl _⟩
theorem sh_bad (hk : Pure prog 14 [] (.bool true)) (long saw : Int) {x y : AV} {T D : List Int} (hx : IL x T) (hy : IL y D) (h1 : T.length ≤ 10) (h2 : D.length ≤ 10) (hb : ¬ (swOk long saw ∧ wlOk T)) : Pure prog 12 [iv long, iv saw, x, y] (.bool true) := by
 have p1 := slim_yes hx hy h1 h2
 have q1 := sPacks_no hx hy h1 h2 (long := long) (saw := saw) fun z => hb ⟨z.1, (wl_iff T).2 ⟨z.2.1, z.2.2.1⟩⟩
 have q2 := sSheets_no hx h1 (long := long) (saw := saw) fun z => hb ⟨z.1, (wl_iff T).2 z.2⟩
 have r1 := rSheet_pure long saw
 have r2 := rWheels_pure hx h1
 by_cases h3 : swOk long saw
 ·rw [decide_eq_true h3] at r1
  rw [decide_eq_false fun z => hb ⟨h3, z⟩] at r2
  have lx := hx.no
  have ly := hy.no
  rcases hx with ⟨rfl, rfl⟩ | rfl <;> rcases hy with ⟨rfl, rfl⟩ | rfl
  all_goals
   refine pure_sym hE rfl (by repeat' (first | exact trivial | assumption | exact flat_no _ | exact (fun _ h => nomatch h) | apply And.intro)) (by repeat' (first | exact trivial | assumption | exact flat_no _ | exact (fun _ h => nomatch h) | apply And.intro)) fun S q pc hS hq hC hE => ?_
   conv => whnf
   repeat ((first
    |refine sym_pure hC (p1) ?_
    |refine sym_pure hC (q1) ?_
    |refine sym_pure hC (q2) ?_
    |refine sym_pure hC (r1) ?_
    |refine sym_pure hC (r2) ?_
    |refine sym_pure hC (hk) ?_
    |refine sym_drawn hS (by kernel_rfl) ?_
    |refine sym_eq hq true (eqBool_same _ _) ?_
    |rw [beq_self_eq_true]
    |rw [bne_self_eq_false]); conv => whnf)
   exact ⟨_, rfl, Wk.refl _⟩
 ·rw [decide_eq_false h3] at r1
  have lx := hx.no
  have ly := hy.no
  rcases hx with ⟨rfl, rfl⟩ | rfl <;> rcases hy with ⟨rfl, rfl⟩ | rfl
  all_goals
   refine pure_sym hE rfl (by repeat' (first | exact trivial | assumption | exact flat_no _ | exact (fun _ h => nomatch h) | apply And.intro)) (by repeat' (first | exact trivial | assumption | exact flat_no _ | exact (fun _ h => nomatch h) | apply And.intro)) fun S q pc hS hq hC hE => ?_
   conv => whnf
   repeat ((first
    |refine sym_pure hC (p1) ?_
    |refine sym_pure hC (q1) ?_
    |refine sym_pure hC (q2) ?_
    |refine sym_pure hC (r1) ?_
    |refine sym_pure hC (r2) ?_
    |refine sym_pure hC (hk) ?_
    |refine sym_drawn hS (by kernel_rfl) ?_
    |refine sym_eq hq true (eqBool_same _ _) ?_
    |rw [beq_self_eq_true]
    |rw [bne_self_eq_false]); conv => whnf)
   exact ⟨_, rfl, Wk.refl _⟩
theorem pk_small {long saw : Nat} {T l : List Nat} (h8 : T.length ≤ 8) (hl : l.length = T.length) (hp : pkP long saw T l) : ∀ x, x ∈ l → x ≤ 10 := fun x hx => by
 have h1 := odP_len l 0 hp.1
 have h2 := mnA_mem l 0 x hx
 omega
theorem packs_cases {long saw : Int} {T D : List Int} {n s : Nat} {t : List Nat} (h : pqN long saw T n s t) {y : AV} (hy : IL y D) (h2 : D.length ≤ 10) : (Pure prog 56 [nv n, nv s, nl (zl t), y] (.tup [.bool false, iv 2]) ∧ Pure prog 60 [nl (zl t), y] (.bool false)) ∨
  ∃ sh : List Nat, y = nl (zl sh) ∧ sh.length = t.length ∧ (∀ x, x ∈ sh → x ≤ 10) ∧ Pure prog 56 [nv n, nv s, nl (zl t), nl (zl sh)] (.tup [.bool (decide (pkP n s t sh)), iv 0]) ∧ Pure prog 60 [nl (zl t), nl (zl sh)] (.bool true) ∧ Pure prog 61 [nv n, nv s, nl (zl t), nl (zl sh)] (.bool (decide (pkP n s t sh))) := by
 have hx : IL (nl (zl t)) (zl t) := .inr rfl
 have l8 := h.l8
 have l1 := h.l1
 have zt := zl_len t
 have h1 : (zl t).length ≤ 10 := by omega
 have r3 := rPlaces_pure hx hy h1 h2
 rw [zt] at r3
 by_cases hp : plOk t.length D
 ·rw [decide_eq_true hp] at r3
  obtain ⟨sh, rfl⟩ := ints_nat D fun j hj => (hp.2 j hj).1
  have hl : (zl sh).length = t.length := hp.1
  have zs := zl_len sh
  have hx10 : ∀ x, x ∈ sh → x ≤ 10 := fun x hx => by
   obtain ⟨j, hj, e⟩ := List.getElem_of_mem hx
   have := (hp.2 j (by omega)).2
   rw [gi_zl sh hj, show gn sh j = x by rw [← e]; simp [gn, List.getD, hj]] at this
   simp only [Int.ofNat_eq_natCast] at this
   omega
  have hy2 : y = nl (zl sh) := by
   rcases hy with ⟨_, e⟩ | e
   ·rw [e] at hl; simp only [List.length_nil] at hl; omega
   ·exact e
  subst hy2
  have e : decide (pkP n s t sh) = (ordB sh 0 && fitB n s (sh.zip t) []) := by
   rw [Bool.eq_iff_iff, decide_eq_true_iff, pkP_iff fun x hx => (h.ht x hx).1, Bool.and_eq_true, ordB_iff]
  refine .inr ⟨sh, rfl, by omega, hx10, ?_, r3, rPacks_pure h.n5 h.s9 (by omega) l8 (fun x hx => (h.ht x hx).2) hx10⟩
  rw [e]
  exact sPacks_yes h.q1 h.q2 l1 hl hp
 ·rw [decide_eq_false hp] at r3
  refine .inl ⟨?_, r3⟩
  by_cases hl : D.length = t.length
  ·have hy2 : y = nl D := by
    rcases hy with ⟨_, e⟩ | e
    ·rw [e] at hl; simp only [List.length_nil] at hl; omega
    ·exact e
   subst hy2
   exact sPacks_out h.q1 h.q2 l1 hl hp
  ·exact sPacks_no hx hy h1 h2 fun z => hl (by rw [← zt]; exact z.2.2.2)
theorem sh_ok (hk : Pure prog 14 [] (.bool true)) {long saw : Int} {T D : List Int} {n s : Nat} {t : List Nat} (h : pqN long saw T n s t) {y : AV} (hy : IL y D) (h2 : D.length ≤ 10) : Pure prog 12 [nv n, nv s, nl (zl t), y] (.bool true) := by
 have lT := ivs_no (zl t)
 have ly := hy.no
 have hx : IL (nl (zl t)) (zl t) := .inr rfl
 have h1 : (zl t).length ≤ 10 := by rw [zl_len]; have := h.l8; omega
 have p1 := slim_yes hx hy h1 h2
 have q2 := sSheets_pure h.q1 h.q2 h.l1 h.ht
 have r1 := rSheet_pure (Int.ofNat n) (Int.ofNat s)
 rw [decide_eq_true h.q1] at r1
 have r2 := rWheels_pure hx h1
 rw [decide_eq_true h.wl] at r2
 have r5 := rSheets_pure h.n5 h.s9 h.l8 h.l1 fun x hx => (h.ht x hx).2
 have hb := fun l (e : bestP n s t = some l) => best_some (fun x hx => (h.ht x hx).1) h.l1 e
 have l8 := h.l8
 have l1 := h.l1
 generalize bestP n s t = o at *
 rcases packs_cases h hy h2 with ⟨q1, r3⟩ | ⟨sh, rfl, hl, hx10, q1, r3, r4⟩
 ·have r4 := hk
  cases o with
  |none =>
   have r6 := hk
   have r7 := hk
   have ll := lT
   rcases hy with ⟨rfl, rfl⟩ | rfl
   all_goals
    refine pure_sym hE rfl (by repeat' (first | exact trivial | assumption | exact flat_no _ | exact (fun _ h => nomatch h) | apply And.intro)) (by repeat' (first | exact trivial | assumption | exact flat_no _ | exact (fun _ h => nomatch h) | apply And.intro)) fun S q pc hS hq hC hE => ?_
    conv => whnf
    repeat ((first
     |refine sym_pure hC (p1) ?_
     |refine sym_pure hC (q1) ?_
     |refine sym_pure hC (q2) ?_
     |refine sym_pure hC (r1) ?_
     |refine sym_pure hC (r2) ?_
     |refine sym_pure hC (r3) ?_
     |refine sym_pure hC (r4) ?_
     |refine sym_pure hC (r5) ?_
     |refine sym_pure hC (r6) ?_
     |refine sym_pure hC (r7) ?_
     |refine sym_pure hC (hk) ?_
     |refine sym_drawn hS (by kernel_rfl) ?_
     |refine sym_eq hq true (eqBool_same _ _) ?_
     |rw [beq_self_eq_true]
     |rw [bne_self_eq_false]); conv => whnf)
    first | exact ⟨_, rfl, Wk.refl _⟩ | skip
  |some l =>
   obtain ⟨_, _, _, _, _, _, hll, hpl, _⟩ := hb l rfl
   have ll := ivs_no (zl l)
   have zll := zl_len l
   have r6 := same_pure (zl l) (zl l) (by omega) (b := true) ⟨fun _ => rfl, fun _ => rfl⟩
   have r7 := rMany_pure l (by omega) (pk_small l8 hll hpl)
   rcases hy with ⟨rfl, rfl⟩ | rfl
   all_goals
    refine pure_sym hE rfl (by repeat' (first | exact trivial | assumption | exact flat_no _ | exact (fun _ h => nomatch h) | apply And.intro)) (by repeat' (first | exact trivial | assumption | exact flat_no _ | exact (fun _ h => nomatch h) | apply And.intro)) fun S q pc hS hq hC hE => ?_
    conv => whnf
    repeat ((first
     |refine sym_pure hC (p1) ?_
     |refine sym_pure hC (q1) ?_
     |refine sym_pure hC (q2) ?_
     |refine sym_pure hC (r1) ?_
     |refine sym_pure hC (r2) ?_
     |refine sym_pure hC (r3) ?_
     |refine sym_pure hC (r4) ?_
     |refine sym_pure hC (r5) ?_
     |refine sym_pure hC (r6) ?_
     |refine sym_pure hC (r7) ?_
     |refine sym_pure hC (hk) ?_
     |refine sym_drawn hS (by kernel_rfl) ?_
     |refine sym_eq hq true (eqBool_same _ _) ?_
     |rw [beq_self_eq_true]
     |rw [bne_self_eq_false]); conv => whnf)
    first | exact ⟨_, rfl, Wk.refl _⟩ | skip
 ·have lS := ivs_no (zl sh)
  generalize decide (pkP n s t sh) = b at *
  cases o with
  |none =>
   have r6 := hk
   have r7 := hk
   cases b
   all_goals
    refine pure_sym hE rfl (by repeat' (first | exact trivial | assumption | exact flat_no _ | exact (fun _ h => nomatch h) | apply And.intro)) (by repeat' (first | exact trivial | assumption | exact flat_no _ | exact (fun _ h => nomatch h) | apply And.intro)) fun S q pc hS hq hC hE => ?_
    conv => whnf
    repeat ((first
     |refine sym_pure hC (p1) ?_
     |refine sym_pure hC (q1) ?_
     |refine sym_pure hC (q2) ?_
     |refine sym_pure hC (r1) ?_
     |refine sym_pure hC (r2) ?_
     |refine sym_pure hC (r3) ?_
     |refine sym_pure hC (r4) ?_
     |refine sym_pure hC (r5) ?_
     |refine sym_pure hC (r6) ?_
     |refine sym_pure hC (r7) ?_
     |refine sym_pure hC (hk) ?_
     |refine sym_drawn hS (by kernel_rfl) ?_
     |refine sym_eq hq true (eqBool_same _ _) ?_
     |rw [beq_self_eq_true]
     |rw [bne_self_eq_false]); conv => whnf)
    first | exact ⟨_, rfl, Wk.refl _⟩ | skip
  |some l =>
   obtain ⟨_, _, _, _, _, _, hll, hpl, _⟩ := hb l rfl
   have ll := ivs_no (zl l)
   have zll := zl_len l
   have r6 := same_pure (zl l) (zl l) (by omega) (b := true) ⟨fun _ => rfl, fun _ => rfl⟩
   have r7 := rMany_pure l (by omega) (pk_small l8 hll hpl)
   cases b
   all_goals
    refine pure_sym hE rfl (by repeat' (first | exact trivial | assumption | exact flat_no _ | exact (fun _ h => nomatch h) | apply And.intro)) (by repeat' (first | exact trivial | assumption | exact flat_no _ | exact (fun _ h => nomatch h) | apply And.intro)) fun S q pc hS hq hC hE => ?_
    conv => whnf
    repeat ((first
     |refine sym_pure hC (p1) ?_
     |refine sym_pure hC (q1) ?_
     |refine sym_pure hC (q2) ?_
     |refine sym_pure hC (r1) ?_
     |refine sym_pure hC (r2) ?_
     |refine sym_pure hC (r3) ?_
     |refine sym_pure hC (r4) ?_
     |refine sym_pure hC (r5) ?_
     |refine sym_pure hC (r6) ?_
     |refine sym_pure hC (r7) ?_
     |refine sym_pure hC (hk) ?_
     |refine sym_drawn hS (by kernel_rfl) ?_
     |refine sym_eq hq true (eqBool_same _ _) ?_
     |rw [beq_self_eq_true]
     |rw [bne_self_eq_false]); conv => whnf)
    first | exact ⟨_, rfl, Wk.refl _⟩ | skip
theorem shopSheets (hk : Pure prog 14 [] (.bool true)) (long saw : Int) {x y : AV} {T D : List Int} (hx : IL x T) (hy : IL y D) : Pure prog 12 [iv long, iv saw, x, y] (.bool true) := by
 by_cases hs : T.length ≤ 10 ∧ D.length ≤ 10
 ·by_cases hb : swOk long saw ∧ wlOk T
  ·obtain ⟨n, s, t, h⟩ := pq_of hb.1 hb.2
   have hT := h.wl.2.1
   have e := h.c
   obtain rfl := h.a
   obtain rfl := h.b
   subst e
   rcases hx with ⟨_, e⟩ | rfl
   ·rw [e] at hT; exact absurd hT (by decide)
   ·exact sh_ok hk h hy hs.2
  ·exact sh_bad hk long saw hx hy hs.1 hs.2 hb
 ·exact sh_long hk long saw hx hy hs
end
end Go.Abs.Seat
