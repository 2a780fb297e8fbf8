/-
  The law ShopFewest.
-/
import Derived.Test.YtikikanopganaaaGreatDoorU14
/-! The law ShopFewest. -/
namespace Go.Abs.Seat
noncomputable section
open Go Go.Abs Go.Proofs.Tryz
set_option maxRecDepth 100000
set_option maxHeartbeats 40000000
attribute [local irreducible] IntKind.wrap pEq

theorem bfr_step {a b : List Nat} {i : Nat} (h1 : i < a.length) (h2 : i < b.length) : bfr (a.drop i) (b.drop i) = if gn a i = gn b i then bfr (a.drop (i + 1)) (b.drop (i + 1)) else decide (gn a i < gn b i) := by
 rw [drop_gnx a h1, drop_gnx b h2, bfr]
theorem lbefore_pure (a b : List Nat) (hl : b.length = a.length) (h8 : a.length ≤ 10) : Pure prog 64 [nl (zl a), nl (zl b)] (.bool (bfr a b)) := by
 have la := ivs_no (zl a)
 have lb := ivs_no (zl b)
 have za := zl_len a
 have zb := zl_len b
 refine pure_sym hE rfl (by repeat' (first | exact trivial | assumption | exact flat_no _ | exact (fun _ h => nomatch h) | apply And.intro)) (by repeat' (first | exact trivial | assumption | exact flat_no _ | exact (fun _ h => nomatch h) | apply And.intro)) fun S q pc hS hq hC hE => ?_
 conv => whnf
 refine sym_loop hE hS (A := Nat) [0, 1] (fun i => [(5, nv i)]) (fun _ => []) (fun i => i ≤ a.length ∧ bfr (a.drop i) (b.drop i) = bfr a b) (fun i => a.length - i) 0 rfl rfl (by refine ⟨rfl, rfl, rfl, rfl, ?_, ?_⟩ <;> repeat' (first | exact trivial | exact rfl | exact Nat.zero_le _ | exact bdl_no la | exact bdl_no lb | exact Nat.le_of_ble_eq_true rfl | exact bdl_no (by assumption) | exact bdl_no (flat_no _) | exact bdl_no (ivs_no _) | exact Nat.max_le.2 ⟨Nat.le_of_ble_eq_true rfl, bdl_no (ivs_no _)⟩ | apply And.intro)) ⟨Nat.zero_le _, rfl⟩ ?_
 intro i ⟨hi, he⟩
 conv => whnf
 by_cases hi2 : i < a.length
 ·rw [bfr_step hi2 (by omega)] at he
  have g0 : nth (ivs (zl a)) (i * 1) = some (nv (gn a i)) := by rw [nth_ivs1 (by omega), gi_zl a hi2]
  have g1 : nth (ivs (zl b)) (i * 1) = some (nv (gn b i)) := by rw [nth_ivs1 (by omega), gi_zl b (by omega)]
  have ja : i < (zl a).length := by omega
  have jb : i < (zl b).length := by omega
  generalize gn a i = x at *
  generalize gn b i = y at *
  refine bool_true (ltN_t ja) ?_
  conv => whnf
  refine bool_true (inR_t ja) ?_
  conv => whnf
  refine plan_as (nthP (g0)) ?_
  conv => whnf
  refine bool_true (inR_t jb) ?_
  conv => whnf
  refine plan_as (nthP (g1)) ?_
  conv => whnf
  refine sym_drawn hS (by kernel_rfl) ?_
  conv => whnf
  by_cases q : x = y
  ·rw [if_pos q] at he
   refine bool_false ((show (Int.ofNat x != Int.ofNat y) = false by rw [q]; exact bne_self_eq_false _)) ?_
   conv => whnf
   exact ⟨i + 1, ⟨by omega, he⟩, by omega, (by refine ⟨rfl, rfl, rfl, rfl, ?_, ?_⟩ <;> repeat' (first | exact trivial | exact rfl | exact Nat.zero_le _ | exact congrArg (fun z => some (AV.int .i64 z)) (show IntKind.i64.wrap (Int.ofNat i + 1) = Int.ofNat (i + 1) from wrapN (m := i + 1) (by omega)) | exact bdl_no la | exact bdl_no lb | exact Nat.le_of_ble_eq_true rfl | exact bdl_no (by assumption) | exact bdl_no (flat_no _) | exact bdl_no (ivs_no _) | exact Nat.max_le.2 ⟨Nat.le_of_ble_eq_true rfl, bdl_no (ivs_no _)⟩ | apply And.intro))⟩
  ·rw [if_neg q] at he
   refine bool_true ((show (Int.ofNat x != Int.ofNat y) = true from bne_iff_ne.2 fun z => q (Int.ofNat.inj z))) ?_
   conv => whnf
   refine bool_true (inR_t ja) ?_
   conv => whnf
   refine plan_as (nthP (g0)) ?_
   conv => whnf
   refine bool_true (inR_t jb) ?_
   conv => whnf
   refine plan_as (nthP (g1)) ?_
   conv => whnf
   refine sym_drawn hS (by kernel_rfl) ?_
   conv => whnf
   exact ⟨_, rfl, wkb (by rw [← he]; exact decide_eq_decide.2 Int.ofNat_lt)⟩
 ·refine bool_false (ltN_f (show ¬ i < (zl a).length by omega)) ?_
  conv => whnf
  rw [List.drop_eq_nil_of_le (by omega)] at he
  rw [← he]
  exact ⟨_, rfl, Wk.refl _⟩
theorem fw_long (hk : Pure prog 14 [] (.bool true)) (long saw : Int) {x y : AV} {T D : List Int} (hx : IL x T) (hy : IL y D) (hs : ¬ (T.length ≤ 10 ∧ D.length ≤ 10)) : Pure prog 13 [iv long, iv saw, x, y] (.bool true) := by
 have p1 := slim_no hx hy hs
 have lx := hx.no
 have ly := hy.no
 rcases hx with ⟨rfl, rfl⟩ | rfl <;> rcases hy with ⟨rfl, rfl⟩ | rfl
 all_goals
  refine pure_sym hE rfl (by repeat' (first | exact trivial | assumption | exact flat_no _ | exact (fun _ h => nomatch h) | apply And.intro)) (by repeat' (first | exact trivial | assumption | exact flat_no _ | exact (fun _ h => nomatch h) | apply And.intro)) fun S q pc hS hq hC hE => ?_
  conv => whnf
  repeat ((first
   |refine sym_pure hC (p1) ?_
   |refine sym_pure hC (hk) ?_
   |refine sym_drawn hS (by kernel_rfl) ?_
   |refine sym_eq hq true (eqBool_same _ _) ?_
   |rw [beq_self_eq_true]
   |rw [bne_self_eq_false]); conv => whnf)
  exact ⟨_, rfl, Wk.refl _⟩
theorem fw_bad (hk : Pure prog 14 [] (.bool true)) (long saw : Int) {x y : AV} {T D : List Int} (hx : IL x T) (hy : IL y D) (h1 : T.length ≤ 10) (h2 : D.length ≤ 10) (hb : ¬ (swOk long saw ∧ wlOk T)) : Pure prog 13 [iv long, iv saw, x, y] (.bool true) := by
 have p1 := slim_yes hx hy h1 h2
 have r1 := rSheet_pure long saw
 have r2 := rWheels_pure hx h1
 by_cases h3 : swOk long saw
 ·rw [decide_eq_true h3] at r1
  rw [decide_eq_false fun z => hb ⟨h3, z⟩] at r2
  have lx := hx.no
  have ly := hy.no
  rcases hx with ⟨rfl, rfl⟩ | rfl <;> rcases hy with ⟨rfl, rfl⟩ | rfl
  all_goals
   refine pure_sym hE rfl (by repeat' (first | exact trivial | assumption | exact flat_no _ | exact (fun _ h => nomatch h) | apply And.intro)) (by repeat' (first | exact trivial | assumption | exact flat_no _ | exact (fun _ h => nomatch h) | apply And.intro)) fun S q pc hS hq hC hE => ?_
   conv => whnf
   repeat ((first
    |refine sym_pure hC (p1) ?_
    |refine sym_pure hC (r1) ?_
    |refine sym_pure hC (r2) ?_
    |refine sym_pure hC (hk) ?_
    |refine sym_drawn hS (by kernel_rfl) ?_
    |refine sym_eq hq true (eqBool_same _ _) ?_
    |rw [beq_self_eq_true]
    |rw [bne_self_eq_false]); conv => whnf)
   exact ⟨_, rfl, Wk.refl _⟩
 ·rw [decide_eq_false h3] at r1
  have lx := hx.no
  have ly := hy.no
  rcases hx with ⟨rfl, rfl⟩ | rfl <;> rcases hy with ⟨rfl, rfl⟩ | rfl
  all_goals
   refine pure_sym hE rfl (by repeat' (first | exact trivial | assumption | exact flat_no _ | exact (fun _ h => nomatch h) | apply And.intro)) (by repeat' (first | exact trivial | assumption | exact flat_no _ | exact (fun _ h => nomatch h) | apply And.intro)) fun S q pc hS hq hC hE => ?_
   conv => whnf
   repeat ((first
    |refine sym_pure hC (p1) ?_
    |refine sym_pure hC (r1) ?_
    |refine sym_pure hC (r2) ?_
    |refine sym_pure hC (hk) ?_
    |refine sym_drawn hS (by kernel_rfl) ?_
    |refine sym_eq hq true (eqBool_same _ _) ?_
    |rw [beq_self_eq_true]
    |rw [bne_self_eq_false]); conv => whnf)
   exact ⟨_, rfl, Wk.refl _⟩
theorem fw_ok (hk : Pure prog 14 [] (.bool true)) {long saw : Int} {T D : List Int} {n s : Nat} {t : List Nat} (h : pqN long saw T n s t) {y : AV} (hy : IL y D) (h2 : D.length ≤ 10) : Pure prog 13 [nv n, nv s, nl (zl t), y] (.bool true) := by
 have lT := ivs_no (zl t)
 have ly := hy.no
 have hx : IL (nl (zl t)) (zl t) := .inr rfl
 have h1 : (zl t).length ≤ 10 := by rw [zl_len]; have := h.l8; omega
 have p1 := slim_yes hx hy h1 h2
 have q2 := sSheets_pure h.q1 h.q2 h.l1 h.ht
 have r1 := rSheet_pure (Int.ofNat n) (Int.ofNat s)
 rw [decide_eq_true h.q1] at r1
 have r2 := rWheels_pure hx h1
 rw [decide_eq_true h.wl] at r2
 have hb := fun l (e : bestP n s t = some l) => best_some (fun x hx => (h.ht x hx).1) h.l1 e
 have hno := fun (e : bestP n s t = none) => best_none (fun x hx => (h.ht x hx).1) h.l1 e
 have l8 := h.l8
 have l1 := h.l1
 generalize bestP n s t = o at *
 rcases packs_cases h hy h2 with ⟨_, r3⟩ | ⟨sh, rfl, hl, hx10, q1, r3, _⟩
 ·rcases hy with ⟨rfl, rfl⟩ | rfl
  all_goals
   refine pure_sym hE rfl (by repeat' (first | exact trivial | assumption | exact flat_no _ | exact (fun _ h => nomatch h) | apply And.intro)) (by repeat' (first | exact trivial | assumption | exact flat_no _ | exact (fun _ h => nomatch h) | apply And.intro)) fun S q pc hS hq hC hE => ?_
   conv => whnf
   repeat ((first
    |refine sym_pure hC (p1) ?_
    |refine sym_pure hC (r1) ?_
    |refine sym_pure hC (r2) ?_
    |refine sym_pure hC (r3) ?_
    |refine sym_pure hC (hk) ?_
    |refine sym_drawn hS (by kernel_rfl) ?_
    |refine sym_eq hq true (eqBool_same _ _) ?_
    |rw [beq_self_eq_true]
    |rw [bne_self_eq_false]); conv => whnf)
   exact ⟨_, rfl, Wk.refl _⟩
 ·have lS := ivs_no (zl sh)
  cases o with
  |none =>
   rw [decide_eq_false (hno rfl sh hl)] at q1
   refine pure_sym hE rfl (by repeat' (first | exact trivial | assumption | exact flat_no _ | exact (fun _ h => nomatch h) | apply And.intro)) (by repeat' (first | exact trivial | assumption | exact flat_no _ | exact (fun _ h => nomatch h) | apply And.intro)) fun S q pc hS hq hC hE => ?_
   conv => whnf
   repeat ((first
    |refine sym_pure hC (p1) ?_
    |refine sym_pure hC (q1) ?_
    |refine sym_pure hC (q2) ?_
    |refine sym_pure hC (r1) ?_
    |refine sym_pure hC (r2) ?_
    |refine sym_pure hC (r3) ?_
    |refine sym_pure hC (hk) ?_
    |refine sym_drawn hS (by kernel_rfl) ?_
    |refine sym_eq hq true (eqBool_same _ _) ?_
    |rw [beq_self_eq_true]
    |rw [bne_self_eq_false]); conv => whnf)
   exact ⟨_, rfl, Wk.refl _⟩
  |some l =>
   obtain ⟨m, _, _, _, _, hm, hll, hpl, hbest⟩ := hb l rfl
   have ll := ivs_no (zl l)
   have zll := zl_len l
   obtain ⟨q3, r6⟩ : Pure prog 56 [nv n, nv s, nl (zl t), nl (zl l)] (.tup [.bool true, iv 0]) ∧ Pure prog 60 [nl (zl t), nl (zl l)] (.bool true) := by
    have hpo : plOk t.length (zl l) := ⟨by omega, fun j hj => by
     have hj : j < l.length := by omega
     have h3 := mnA_mem l 0 (gn l j) (gn_mem l hj)
     have h4 := odP_len l 0 hpl.1
     rw [gi_zl l hj]
     simp only [Int.ofNat_eq_natCast]
     omega⟩
    have hyl : IL (nl (zl l)) (zl l) := .inr rfl
    have r := rPlaces_pure hx hyl h1 (by omega)
    rw [zl_len, decide_eq_true hpo] at r
    have q := sPacks_yes h.q1 h.q2 l1 (by omega) hpo
    have e : (ordB l 0 && fitB n s (l.zip t) []) = true := by
     rw [Bool.and_eq_true, ordB_iff]; exact (pkP_iff fun x hx => (h.ht x hx).1).1 hpl
    rw [e] at q
    exact ⟨q, r⟩
   have r7 := rMany_pure l (by omega) (pk_small l8 hll hpl)
   have r8 := rMany_pure sh (by omega) hx10
   have r9 := lbefore_pure sh l (by omega) (by omega)
   have q2 : Pure prog 57 [nv n, nv s, nl (zl t)] (.tup [nl (zl l), nv m, iv 0]) := by rw [← hm]; exact q2
   rw [hm] at r7
   by_cases hp : pkP n s t sh
   ·rw [decide_eq_true hp] at q1
    have hbest := hbest sh hl hp
    generalize mnA 0 sh = M at *
    by_cases hlt : m < M
    ·have d1 : decide (Int.ofNat M > Int.ofNat m) = true := decide_eq_true (Int.ofNat_lt.2 hlt)
     refine pure_sym hE rfl (by repeat' (first | exact trivial | assumption | exact flat_no _ | exact (fun _ h => nomatch h) | apply And.intro)) (by repeat' (first | exact trivial | assumption | exact flat_no _ | exact (fun _ h => nomatch h) | apply And.intro)) fun S q pc hS hq hC hE => ?_
     conv => whnf
     repeat ((first
      |refine sym_pure hC (p1) ?_
      |refine sym_pure hC (q1) ?_
      |refine sym_pure hC (q2) ?_
      |refine sym_pure hC (q3) ?_
      |refine sym_pure hC (r1) ?_
      |refine sym_pure hC (r2) ?_
      |refine sym_pure hC (r3) ?_
      |refine sym_pure hC (r6) ?_
      |refine sym_pure hC (r7) ?_
      |refine sym_pure hC (r8) ?_
      |refine sym_pure hC (hk) ?_
      |refine sym_drawn hS (by kernel_rfl) ?_
      |refine sym_eq hq true (eqBool_same _ _) ?_
      |rw [beq_self_eq_true]
      |rw [bne_self_eq_false]); conv => whnf)
     repeat ((first
      |refine ko_rT d1 ?_
      |refine ko_sF d1 ?_
      |refine plan_as (pick_t d1) ?_
      |refine bool_true d1 ?_
      |refine ko_sT (gft d1) ?_
      |refine ko_rF (gft d1) ?_
      |refine plan_as (pick_f (gft d1)) ?_
      |refine bool_false (gft d1) ?_
      |refine sym_pure hC (hk) ?_
      |refine sym_drawn hS (by kernel_rfl) ?_); conv => whnf)
     exact ⟨_, rfl, Wk.refl _⟩
    ·have hE2 : m = M ∧ bfr sh l = false := by rcases hbest with z | z; exact absurd z hlt; exact z
     have d1 : decide (Int.ofNat M > Int.ofNat m) = false := decide_eq_false fun z => hlt (Int.ofNat_lt.1 z)
     have d2 : (Int.ofNat M == Int.ofNat m) = true := by rw [hE2.1]; exact beq_self_eq_true _
     rw [hE2.2] at r9
     refine pure_sym hE rfl (by repeat' (first | exact trivial | assumption | exact flat_no _ | exact (fun _ h => nomatch h) | apply And.intro)) (by repeat' (first | exact trivial | assumption | exact flat_no _ | exact (fun _ h => nomatch h) | apply And.intro)) fun S q pc hS hq hC hE => ?_
     conv => whnf
     repeat ((first
      |refine sym_pure hC (p1) ?_
      |refine sym_pure hC (q1) ?_
      |refine sym_pure hC (q2) ?_
      |refine sym_pure hC (q3) ?_
      |refine sym_pure hC (r1) ?_
      |refine sym_pure hC (r2) ?_
      |refine sym_pure hC (r3) ?_
      |refine sym_pure hC (r6) ?_
      |refine sym_pure hC (r7) ?_
      |refine sym_pure hC (r8) ?_
      |refine sym_pure hC (hk) ?_
      |refine sym_drawn hS (by kernel_rfl) ?_
      |refine sym_eq hq true (eqBool_same _ _) ?_
      |rw [beq_self_eq_true]
      |rw [bne_self_eq_false]); conv => whnf)
     repeat ((first
      |refine ko_sT d1 ?_
      |refine ko_rF d1 ?_
      |refine plan_as (pick_f d1) ?_
      |refine bool_false d1 ?_
      |refine ko_rT (gff d1) ?_
      |refine ko_sF (gff d1) ?_
      |refine plan_as (pick_t (gff d1)) ?_
      |refine bool_true (gff d1) ?_
      |refine ko_rT d2 ?_
      |refine ko_sF d2 ?_
      |refine plan_as (pick_t d2) ?_
      |refine bool_true d2 ?_
      |refine ko_rT (gd_tt d2) ?_
      |refine ko_sF (gd_tt d2) ?_
      |refine plan_as (pick_t (gd_tt d2)) ?_
      |refine bool_true (gd_tt d2) ?_
      |refine sym_pure hC (r9) ?_
      |refine sym_pure hC (hk) ?_
      |refine sym_drawn hS (by kernel_rfl) ?_); conv => whnf)
     exact ⟨_, rfl, Wk.refl _⟩
   ·rw [decide_eq_false hp] at q1
    refine pure_sym hE rfl (by repeat' (first | exact trivial | assumption | exact flat_no _ | exact (fun _ h => nomatch h) | apply And.intro)) (by repeat' (first | exact trivial | assumption | exact flat_no _ | exact (fun _ h => nomatch h) | apply And.intro)) fun S q pc hS hq hC hE => ?_
    conv => whnf
    repeat ((first
     |refine sym_pure hC (p1) ?_
     |refine sym_pure hC (q1) ?_
     |refine sym_pure hC (q2) ?_
     |refine sym_pure hC (q3) ?_
     |refine sym_pure hC (r1) ?_
     |refine sym_pure hC (r2) ?_
     |refine sym_pure hC (r3) ?_
     |refine sym_pure hC (r6) ?_
     |refine sym_pure hC (r7) ?_
     |refine sym_pure hC (r8) ?_
     |refine sym_pure hC (hk) ?_
     |refine sym_drawn hS (by kernel_rfl) ?_
     |refine sym_eq hq true (eqBool_same _ _) ?_
     |rw [beq_self_eq_true]
     |rw [bne_self_eq_false]); conv => whnf)
    exact ⟨_, rfl, Wk.refl _⟩
theorem shopFewest (hk : Pure prog 14 [] (.bool true)) (long saw : Int) {x y : AV} {T D : List Int} (hx : IL x T) (hy : IL y D) : Pure prog 13 [iv long, iv saw, x, y] (.bool true) := by
 by_cases hs : T.length ≤ 10 ∧ D.length ≤ 10
 ·by_cases hb : swOk long saw ∧ wlOk T
  ·obtain ⟨n, s, t, h⟩ := pq_of hb.1 hb.2
   have hT := h.wl.2.1
   have e := h.c
   obtain rfl := h.a
   obtain rfl := h.b
   subst e
   rcases hx with ⟨_, e⟩ | rfl
   ·rw [e] at hT; exact absurd hT (by decide)
   ·exact fw_ok hk h hy hs.2
  ·exact fw_bad hk long saw hx hy hs.1 hs.2 hb
 ·exact fw_long hk long saw hx hy hs
end
end Go.Abs.Seat
