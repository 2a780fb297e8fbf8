/-
  Bills: what the program tells, and the document.
-/
import Derived.Test.YtikikanopganaaaGreatDoorU10
import Derived.Test.YtikikanopganaaaGreatDoorT36
/-! Bills: what the program tells, and the document. -/
namespace Go.Abs.Seat
noncomputable section
open Go Go.Abs Go.Proofs.Tryz
set_option maxRecDepth 100000
set_option maxHeartbeats 40000000
attribute [local irreducible] IntKind.wrap pEq

theorem wkE2 {v v2 : AV} (h : v = v2) : Wk v v2 := by subst h; exact Wk.refl _
theorem up_pure (x : Nat) (hx : x < 4611686018427387904) : Pure prog 80 [nv x, iv 100] (nv ((x + 99) / 100)) := by
 refine pure_sym hE rfl (by repeat' (first | exact trivial | assumption | exact flat_no _ | exact (fun _ h => nomatch h) | apply And.intro)) (by repeat' (first | exact trivial | assumption | exact flat_no _ | exact (fun _ h => nomatch h) | apply And.intro)) fun S q pc hS hq hC hE => ?_
 conv => whnf
 refine ⟨_, rfl, wkE2 ?_⟩
 rw [show IntKind.i64.wrap (Int.ofNat x + 100) = Int.ofNat (x + 100) from wrapN (m := x + 100) (by omega), show Int.ofNat (x + 100) - 1 = Int.ofNat (x + 99) by show ((x + 100 : Nat) : Int) - 1 = ((x + 99 : Nat) : Int); omega, show IntKind.i64.wrap (Int.ofNat (x + 99)) = Int.ofNat (x + 99) from wrapN (m := x + 99) (by omega)]
 exact congrArg (AV.int .i64) (quoN (a := x + 99) (b := 100) (by omega))
theorem up9_pure (x : Nat) (hx : x < 4611686018427387904) : Pure prog 84 [nv x] (nv ((x + 99) / 100)) := by
 refine pure_sym hE rfl (by repeat' (first | exact trivial | assumption | exact flat_no _ | exact (fun _ h => nomatch h) | apply And.intro)) (by repeat' (first | exact trivial | assumption | exact flat_no _ | exact (fun _ h => nomatch h) | apply And.intro)) fun S q pc hS hq hC hE => ?_
 conv => whnf
 refine ⟨_, rfl, wkE2 ?_⟩
 rw [show IntKind.i64.wrap (Int.ofNat x + 99) = Int.ofNat (x + 99) from wrapN (m := x + 99) (by omega)]
 exact congrArg (AV.int .i64) (quoN (a := x + 99) (b := 100) (by omega))
theorem sum_take (l : List Nat) {i : Nat} (h : i < l.length) : (l.take (i + 1)).sum = (l.take i).sum + gn l i := by
 rw [take_gn l h, List.sum_append]; simp
theorem sum_mono (l : List Nat) (i : Nat) : (l.take i).sum ≤ l.sum := by
 have := List.sum_append (l₁ := l.take i) (l₂ := l.drop i)
 rw [List.take_append_drop] at this
 omega
theorem sum_pure (l : List Nat) (hl : l.length < 4611686018427387904) (hs : l.sum < 4611686018427387904) : Pure prog 81 [nl (zl l)] (nv l.sum) := by
 have ll := ivs_no (zl l)
 have hz := zl_len l
 refine pure_sym hE rfl (by repeat' (first | exact trivial | assumption | exact flat_no _ | exact (fun _ h => nomatch h) | apply And.intro)) (by repeat' (first | exact trivial | assumption | exact flat_no _ | exact (fun _ h => nomatch h) | apply And.intro)) fun S q pc hS hq hC hE => ?_
 conv => whnf
 refine sym_loop hE hS (A := Nat) [6, 7] (fun i => [(3, nv (l.take i).sum), (8, nv i)]) (fun _ => []) (fun i => i ≤ l.length) (fun i => l.length - i) 0 rfl rfl (by refine ⟨rfl, rfl, rfl, rfl, ?_, ?_⟩ <;> repeat' (first | exact trivial | exact rfl | exact Nat.zero_le _ | exact Nat.le_of_ble_eq_true rfl | exact bdl_no (by assumption) | exact bdl_no (flat_no _) | exact bdl_no (ivs_no _) | exact Nat.max_le.2 ⟨Nat.le_of_ble_eq_true rfl, bdl_no (ivs_no _)⟩ | apply And.intro)) (Nat.zero_le _) ?_
 intro i hi
 conv => whnf
 by_cases h : i < l.length
 ·have h2 : i < (zl l).length := by omega
  have e := sum_take l h
  have e2 := sum_mono l (i + 1)
  refine bool_true (ltN_t h2) ?_
  conv => whnf
  refine bool_true (inR_t h2) ?_
  conv => whnf
  refine plan_as (nthP (show nth (ivs (zl l)) (i * 1) = some (nv (gn l i)) by rw [nth_ivs1 h2, gi_zl l h])) ?_
  conv => whnf
  exact ⟨i + 1, h, by omega, (by refine ⟨rfl, rfl, rfl, rfl, ?_, ?_⟩ <;> repeat' (first | exact trivial | exact rfl | exact Nat.zero_le _ | exact congrArg (fun z => some (AV.int .i64 z)) (show IntKind.i64.wrap (Int.ofNat (l.take i).sum + Int.ofNat (gn l i)) = Int.ofNat (l.take (i + 1)).sum by rw [e]; exact wrapN (m := (l.take i).sum + gn l i) (by omega)) | exact congrArg (fun z => some (AV.int .i64 z)) (wrapN (m := i + 1) (by omega)) | exact Nat.le_of_ble_eq_true rfl | exact bdl_no (by assumption) | exact bdl_no (flat_no _) | exact bdl_no (ivs_no _) | exact Nat.max_le.2 ⟨Nat.le_of_ble_eq_true rfl, bdl_no (ivs_no _)⟩ | apply And.intro))⟩
 ·have e : l.take i = l := List.take_of_length_le (by omega)
  refine bool_false (ltN_f (show ¬ i < (zl l).length by omega)) ?_
  conv => whnf
  rw [e]
  exact ⟨_, rfl, Wk.refl _⟩
theorem sum_nils : Pure prog 81 [.nils] (nv 0) := by
 refine pure_sym hE rfl (by repeat' (first | exact trivial | assumption | exact flat_no _ | exact (fun _ h => nomatch h) | apply And.intro)) (by repeat' (first | exact trivial | assumption | exact flat_no _ | exact (fun _ h => nomatch h) | apply And.intro)) fun S q pc hS hq hC hE => ?_
 conv => whnf
 refine sym_unroll hE hS ?_
 conv => whnf
 exact ⟨_, rfl, Wk.refl _⟩
def blOk (l : List Int) (a b c s e : Int) : Prop := whOk l ∧ (0 ≤ a ∧ a ≤ 1000) ∧ (0 ≤ b ∧ b ≤ 40) ∧ (0 ≤ c ∧ c ≤ 100) ∧ (0 ≤ s ∧ s ≤ 100) ∧ (0 ≤ e ∧ e ≤ 1000000)
instance (l : List Int) (a b c s e : Int) : Decidable (blOk l a b c s e) := Classical.propDecidable _
theorem nB_t {p : Prop} [Decidable p] (h : p) : (!decide p) = false := by rw [decide_eq_true h]; rfl
theorem nB_f {p : Prop} [Decidable p] (h : ¬ p) : (!decide p) = true := by rw [decide_eq_false h]; rfl
theorem bill_no {x : AV} {l : List Int} (h : IL x l) (hl : l.length < 4611686018427387904) {a b c s e : Int} (hn : ¬ blOk l a b c s e) : Pure prog 15 [bv x a b c s e] (.tup [iv 0, iv 0, iv 2]) := by
 have lx := h.no
 have pT := areTeeth_pure h hl
 unfold blOk at hn
 by_cases h0 : whOk l
 ·by_cases h1 : 0 ≤ a ∧ a ≤ 1000
  ·by_cases h2 : 0 ≤ b ∧ b ≤ 40
   ·by_cases h3 : 0 ≤ c ∧ c ≤ 100
    ·by_cases h4 : 0 ≤ s ∧ s ≤ 100
     ·have h5 : ¬ (0 ≤ e ∧ e ≤ 1000000) := fun z => hn ⟨h0, h1, h2, h3, h4, z⟩
      have n0 := nB_t h0
      have n1 := nB_t h1
      have n2 := nB_t h2
      have n3 := nB_t h3
      have n4 := nB_t h4
      have n5 := nB_f h5
      rcases h with ⟨rfl, rfl⟩ | rfl
      all_goals
       refine pure_sym hE rfl (by repeat' (first | exact trivial | assumption | exact flat_no _ | exact (fun _ h => nomatch h) | apply And.intro)) (by repeat' (first | exact trivial | assumption | exact flat_no _ | exact (fun _ h => nomatch h) | apply And.intro)) fun S q pc hS hq hC hE => ?_
       conv => whnf
       repeat ((first
        |refine ko_rT n0 ?_
        |refine ko_sF n0 ?_
        |refine plan_as (pick_t n0) ?_
        |refine bool_true n0 ?_
        |refine ko_sT n0 ?_
        |refine ko_rF n0 ?_
        |refine plan_as (pick_f n0) ?_
        |refine bool_false n0 ?_
        |refine ko_rT n1 ?_
        |refine ko_sF n1 ?_
        |refine plan_as (pick_t n1) ?_
        |refine bool_true n1 ?_
        |refine ko_sT n1 ?_
        |refine ko_rF n1 ?_
        |refine plan_as (pick_f n1) ?_
        |refine bool_false n1 ?_
        |refine ko_rT n2 ?_
        |refine ko_sF n2 ?_
        |refine plan_as (pick_t n2) ?_
        |refine bool_true n2 ?_
        |refine ko_sT n2 ?_
        |refine ko_rF n2 ?_
        |refine plan_as (pick_f n2) ?_
        |refine bool_false n2 ?_
        |refine ko_rT n3 ?_
        |refine ko_sF n3 ?_
        |refine plan_as (pick_t n3) ?_
        |refine bool_true n3 ?_
        |refine ko_sT n3 ?_
        |refine ko_rF n3 ?_
        |refine plan_as (pick_f n3) ?_
        |refine bool_false n3 ?_
        |refine ko_rT n4 ?_
        |refine ko_sF n4 ?_
        |refine plan_as (pick_t n4) ?_
        |refine bool_true n4 ?_
        |refine ko_sT n4 ?_
        |refine ko_rF n4 ?_
        |refine plan_as (pick_f n4) ?_
        |refine bool_false n4 ?_
        |refine ko_rT n5 ?_
        |refine ko_sF n5 ?_
        |refine plan_as (pick_t n5) ?_
        |refine bool_true n5 ?_
        |refine ko_sT n5 ?_
        |refine ko_rF n5 ?_
        |refine plan_as (pick_f n5) ?_
        |refine bool_false n5 ?_
        |refine sym_pure hC (pT) ?_
        |refine sym_pure hC (sin_pure a 0 1000) ?_
        |refine sym_pure hC (sin_pure b 0 40) ?_
        |refine sym_pure hC (sin_pure c 0 100) ?_
        |refine sym_pure hC (sin_pure s 0 100) ?_
        |refine sym_pure hC (sin_pure e 0 1000000) ?_
        |refine sym_drawn hS (by kernel_rfl) ?_); conv => whnf)
       exact ⟨_, rfl, Wk.refl _⟩
     ·have n0 := nB_t h0
      have n1 := nB_t h1
      have n2 := nB_t h2
      have n3 := nB_t h3
      have n4 := nB_f h4
      rcases h with ⟨rfl, rfl⟩ | rfl
      all_goals
       refine pure_sym hE rfl (by repeat' (first | exact trivial | assumption | exact flat_no _ | exact (fun _ h => nomatch h) | apply And.intro)) (by repeat' (first | exact trivial | assumption | exact flat_no _ | exact (fun _ h => nomatch h) | apply And.intro)) fun S q pc hS hq hC hE => ?_
       conv => whnf
       repeat ((first
        |refine ko_rT n0 ?_
        |refine ko_sF n0 ?_
        |refine plan_as (pick_t n0) ?_
        |refine bool_true n0 ?_
        |refine ko_sT n0 ?_
        |refine ko_rF n0 ?_
        |refine plan_as (pick_f n0) ?_
        |refine bool_false n0 ?_
        |refine ko_rT n1 ?_
        |refine ko_sF n1 ?_
        |refine plan_as (pick_t n1) ?_
        |refine bool_true n1 ?_
        |refine ko_sT n1 ?_
        |refine ko_rF n1 ?_
        |refine plan_as (pick_f n1) ?_
        |refine bool_false n1 ?_
        |refine ko_rT n2 ?_
        |refine ko_sF n2 ?_
        |refine plan_as (pick_t n2) ?_
        |refine bool_true n2 ?_
        |refine ko_sT n2 ?_
        |refine ko_rF n2 ?_
        |refine plan_as (pick_f n2) ?_
        |refine bool_false n2 ?_
        |refine ko_rT n3 ?_
        |refine ko_sF n3 ?_
        |refine plan_as (pick_t n3) ?_
        |refine bool_true n3 ?_
        |refine ko_sT n3 ?_
        |refine ko_rF n3 ?_
        |refine plan_as (pick_f n3) ?_
        |refine bool_false n3 ?_
        |refine ko_rT n4 ?_
        |refine ko_sF n4 ?_
        |refine plan_as (pick_t n4) ?_
        |refine bool_true n4 ?_
        |refine ko_sT n4 ?_
        |refine ko_rF n4 ?_
        |refine plan_as (pick_f n4) ?_
        |refine bool_false n4 ?_
        |refine sym_pure hC (pT) ?_
        |refine sym_pure hC (sin_pure a 0 1000) ?_
        |refine sym_pure hC (sin_pure b 0 40) ?_
        |refine sym_pure hC (sin_pure c 0 100) ?_
        |refine sym_pure hC (sin_pure s 0 100) ?_
        |refine sym_drawn hS (by kernel_rfl) ?_); conv => whnf)
       exact ⟨_, rfl, Wk.refl _⟩
    ·have n0 := nB_t h0
     have n1 := nB_t h1
     have n2 := nB_t h2
     have n3 := nB_f h3
     rcases h with ⟨rfl, rfl⟩ | rfl
     all_goals
      refine pure_sym hE rfl (by repeat' (first | exact trivial | assumption | exact flat_no _ | exact (fun _ h => nomatch h) | apply And.intro)) (by repeat' (first | exact trivial | assumption | exact flat_no _ | exact (fun _ h => nomatch h) | apply And.intro)) fun S q pc hS hq hC hE => ?_
      conv => whnf
      repeat ((first
       |refine ko_rT n0 ?_
       |refine ko_sF n0 ?_
       |refine plan_as (pick_t n0) ?_
       |refine bool_true n0 ?_
       |refine ko_sT n0 ?_
       |refine ko_rF n0 ?_
       |refine plan_as (pick_f n0) ?_
       |refine bool_false n0 ?_
       |refine ko_rT n1 ?_
       |refine ko_sF n1 ?_
       |refine plan_as (pick_t n1) ?_
       |refine bool_true n1 ?_
       |refine ko_sT n1 ?_
       |refine ko_rF n1 ?_
       |refine plan_as (pick_f n1) ?_
       |refine bool_false n1 ?_
       |refine ko_rT n2 ?_
       |refine ko_sF n2 ?_
       |refine plan_as (pick_t n2) ?_
       |refine bool_true n2 ?_
       |refine ko_sT n2 ?_
       |refine ko_rF n2 ?_
       |refine plan_as (pick_f n2) ?_
       |refine bool_false n2 ?_
       |refine ko_rT n3 ?_
       |refine ko_sF n3 ?_
       |refine plan_as (pick_t n3) ?_
       |refine bool_true n3 ?_
       |refine ko_sT n3 ?_
       |refine ko_rF n3 ?_
       |refine plan_as (pick_f n3) ?_
       |refine bool_false n3 ?_
       |refine sym_pure hC (pT) ?_
       |refine sym_pure hC (sin_pure a 0 1000) ?_
       |refine sym_pure hC (sin_pure b 0 40) ?_
       |refine sym_pure hC (sin_pure c 0 100) ?_
       |refine sym_drawn hS (by kernel_rfl) ?_); conv => whnf)
      exact ⟨_, rfl, Wk.refl _⟩
   ·have n0 := nB_t h0
    have n1 := nB_t h1
    have n2 := nB_f h2
    rcases h with ⟨rfl, rfl⟩ | rfl
    all_goals
     refine pure_sym hE rfl (by repeat' (first | exact trivial | assumption | exact flat_no _ | exact (fun _ h => nomatch h) | apply And.intro)) (by repeat' (first | exact trivial | assumption | exact flat_no _ | exact (fun _ h => nomatch h) | apply And.intro)) fun S q pc hS hq hC hE => ?_
     conv => whnf
     repeat ((first
      |refine ko_rT n0 ?_
      |refine ko_sF n0 ?_
      |refine plan_as (pick_t n0) ?_
      |refine bool_true n0 ?_
      |refine ko_sT n0 ?_
      |refine ko_rF n0 ?_
      |refine plan_as (pick_f n0) ?_
      |refine bool_false n0 ?_
      |refine ko_rT n1 ?_
      |refine ko_sF n1 ?_
      |refine plan_as (pick_t n1) ?_
      |refine bool_true n1 ?_
      |refine ko_sT n1 ?_
      |refine ko_rF n1 ?_
      |refine plan_as (pick_f n1) ?_
      |refine bool_false n1 ?_
      |refine ko_rT n2 ?_
      |refine ko_sF n2 ?_
      |refine plan_as (pick_t n2) ?_
      |refine bool_true n2 ?_
      |refine ko_sT n2 ?_
      |refine ko_rF n2 ?_
      |refine plan_as (pick_f n2) ?_
      |refine bool_false n2 ?_
      |refine sym_pure hC (pT) ?_
      |refine sym_pure hC (sin_pure a 0 1000) ?_
      |refine sym_pure hC (sin_pure b 0 40) ?_
      |refine sym_drawn hS (by kernel_rfl) ?_); conv => whnf)
     exact ⟨_, rfl, Wk.refl _⟩
  ·have n0 := nB_t h0
   have n1 := nB_f h1
   rcases h with ⟨rfl, rfl⟩ | rfl
   all_goals
    refine pure_sym hE rfl (by repeat' (first | exact trivial | assumption | exact flat_no _ | exact (fun _ h => nomatch h) | apply And.intro)) (by repeat' (first | exact trivial | assumption | exact flat_no _ | exact (fun _ h => nomatch h) | apply And.intro)) fun S q pc hS hq hC hE => ?_
    conv => whnf
    repeat ((first
     |refine ko_rT n0 ?_
     |refine ko_sF n0 ?_
     |refine plan_as (pick_t n0) ?_
     |refine bool_true n0 ?_
     |refine ko_sT n0 ?_
     |refine ko_rF n0 ?_
     |refine plan_as (pick_f n0) ?_
     |refine bool_false n0 ?_
     |refine ko_rT n1 ?_
     |refine ko_sF n1 ?_
     |refine plan_as (pick_t n1) ?_
     |refine bool_true n1 ?_
     |refine ko_sT n1 ?_
     |refine ko_rF n1 ?_
     |refine plan_as (pick_f n1) ?_
     |refine bool_false n1 ?_
     |refine sym_pure hC (pT) ?_
     |refine sym_pure hC (sin_pure a 0 1000) ?_
     |refine sym_drawn hS (by kernel_rfl) ?_); conv => whnf)
    exact ⟨_, rfl, Wk.refl _⟩
 ·have n0 := nB_f h0
  rcases h with ⟨rfl, rfl⟩ | rfl
  all_goals
   refine pure_sym hE rfl (by repeat' (first | exact trivial | assumption | exact flat_no _ | exact (fun _ h => nomatch h) | apply And.intro)) (by repeat' (first | exact trivial | assumption | exact flat_no _ | exact (fun _ h => nomatch h) | apply And.intro)) fun S q pc hS hq hC hE => ?_
   conv => whnf
   repeat ((first
    |refine ko_rT n0 ?_
    |refine ko_sF n0 ?_
    |refine plan_as (pick_t n0) ?_
    |refine bool_true n0 ?_
    |refine ko_sT n0 ?_
    |refine ko_rF n0 ?_
    |refine plan_as (pick_f n0) ?_
    |refine bool_false n0 ?_
    |refine sym_pure hC (pT) ?_
    |refine sym_drawn hS (by kernel_rfl) ?_); conv => whnf)
   exact ⟨_, rfl, Wk.refl _⟩
def sqL (m : List Nat) : List Nat := m.map fun x => x * x
theorem sqL_len (m : List Nat) : (sqL m).length = m.length := List.length_map _
theorem sqL_take (m : List Nat) {i : Nat} (h : i < m.length) : sqL (m.take (i + 1)) = sqL (m.take i) ++ [gn m i * gn m i] := by
 rw [take_gn m h]; unfold sqL; rw [List.map_append]; rfl
theorem sqL_sum : ∀ (m : List Nat), (∀ y, y ∈ m → y ≤ 60) → (sqL m).sum ≤ m.length * 3600
 | [], _ => Nat.le_refl 0
 |x :: r, h => by
  have h1 := h x (List.mem_cons_self ..)
  have h2 := sqL_sum r fun y hy => h y (List.mem_cons_of_mem _ hy)
  have h3 : x * x ≤ 60 * 60 := Nat.mul_le_mul h1 h1
  show (x * x :: sqL r).sum ≤ _
  rw [List.sum_cons, List.length_cons]
  omega
def coN (S a b c : Nat) : Nat := (S * a + 99) / 100 + b * c
def prN (S a b c s : Nat) : Nat := coN S a b c + (coN S a b c * s + 99) / 100
theorem coN_le {S a b c : Nat} (hS : S ≤ 28800) (ha : a ≤ 1000) (hb : b ≤ 40) (hc : c ≤ 100) : S * a ≤ 28800000 ∧ b * c ≤ 4000 ∧ coN S a b c ≤ 1000000 := by
 have h2 : S * a ≤ 28800 * 1000 := Nat.mul_le_mul hS ha
 have h3 : b * c ≤ 40 * 100 := Nat.mul_le_mul hb hc
 unfold coN
 omega
theorem dNm (p q : Nat) (h1 : p < 4611686018427387904) (h2 : q < 4611686018427387904) : IntKind.i64.wrap (Int.ofNat p - Int.ofNat q) = Int.ofNat p - Int.ofNat q := wrapI (by show _ ≤ (p : Int) - (q : Int); omega) (by show (p : Int) - (q : Int) < _; omega)
theorem bill_nl {M : List Nat} (hM0 : 0 < M.length) (hm : M.length ≤ 8) (h60 : ∀ y, y ∈ M → y ≤ 60) {a b c s e : Int} {a' b' c' s' e' : Nat} (ea : a = Int.ofNat a') (eb : b = Int.ofNat b') (ec : c = Int.ofNat c') (es : s = Int.ofNat s') (ee : e = Int.ofNat e') (ha : a' ≤ 1000) (hb : b' ≤ 40) (hc : c' ≤ 100) (hs : s' ≤ 100) (he : e' ≤ 1000000) (pT : Pure prog 78 [nl (zl M)] (.bool true)) :
  Pure prog 15 [bv (nl (zl M)) a b c s e] (.tup [nv (prN (sqL M).sum a' b' c' s'), iv (Int.ofNat (prN (sqL M).sum a' b' c' s') - e), iv 0]) := by
 have hSb := sqL_sum M h60
 obtain ⟨Z, eS⟩ : ∃ Z, (sqL M).sum = Z := ⟨_, rfl⟩
 rw [eS] at hSb ⊢
 have k := coN_le (S := Z) (by omega) ha hb hc
 have k2 : coN Z a' b' c' * s' ≤ 1000000 * 100 := Nat.mul_le_mul k.2.2 hs
 have r : ∀ {v w : Nat}, v ≤ w → (0 : Int) ≤ Int.ofNat v ∧ Int.ofNat v ≤ (w : Int) := fun h => ⟨Int.natCast_nonneg _, Int.ofNat_le.2 h⟩
 have n1 : (!decide (0 ≤ a ∧ a ≤ 1000)) = false := nB_t (ea ▸ r ha)
 have n2 : (!decide (0 ≤ b ∧ b ≤ 40)) = false := nB_t (eb ▸ r hb)
 have n3 : (!decide (0 ≤ c ∧ c ≤ 100)) = false := nB_t (ec ▸ r hc)
 have n4 : (!decide (0 ≤ s ∧ s ≤ 100)) = false := nB_t (es ▸ r hs)
 have n5 : (!decide (0 ≤ e ∧ e ≤ 1000000)) = false := nB_t (ee ▸ r he)
 have lm := ivs_no (zl M)
 have hz := zl_len M
 have hz0 : 0 < (zl M).length := by omega
 have g0 : nth (ivs (zl M)) ((0 : Int).toNat * 1) = some (nv (gn M 0)) := by show nth (ivs (zl M)) (0 * 1) = _; rw [nth_ivs1 hz0, gi_zl M hM0]
 have b0 := h60 _ (gn_mem M hM0)
 have b1 : gn M 0 * gn M 0 ≤ 60 * 60 := Nat.mul_le_mul b0 b0
 have c0 : decide (0 < ((zl M).length : Int)) = true := decide_eq_true (by omega)
 refine pure_sym hE rfl (by repeat' (first | exact trivial | assumption | exact flat_no _ | exact (fun _ h => nomatch h) | apply And.intro)) (by repeat' (first | exact trivial | assumption | exact flat_no _ | exact (fun _ h => nomatch h) | apply And.intro)) fun S q pc hS hq hC hE => ?_
 conv => whnf
 repeat ((first
  |refine ko_sT n1 ?_
  |refine ko_rF n1 ?_
  |refine plan_as (pick_f n1) ?_
  |refine bool_false n1 ?_
  |refine ko_sT n2 ?_
  |refine ko_rF n2 ?_
  |refine plan_as (pick_f n2) ?_
  |refine bool_false n2 ?_
  |refine ko_sT n3 ?_
  |refine ko_rF n3 ?_
  |refine plan_as (pick_f n3) ?_
  |refine bool_false n3 ?_
  |refine ko_sT n4 ?_
  |refine ko_rF n4 ?_
  |refine plan_as (pick_f n4) ?_
  |refine bool_false n4 ?_
  |refine ko_sT n5 ?_
  |refine ko_rF n5 ?_
  |refine plan_as (pick_f n5) ?_
  |refine bool_false n5 ?_
  |refine sym_pure hC (pT) ?_
  |refine sym_pure hC (sin_pure a 0 1000) ?_
  |refine sym_pure hC (sin_pure b 0 40) ?_
  |refine sym_pure hC (sin_pure c 0 100) ?_
  |refine sym_pure hC (sin_pure s 0 100) ?_
  |refine sym_pure hC (sin_pure e 0 1000000) ?_
  |refine sym_drawn hS (by kernel_rfl) ?_); conv => whnf)
 refine sym_unroll hE hS ?_
 conv => whnf
 refine bool_true (c0) ?_
 conv => whnf
 refine bool_true ((show inR 0 (zl M).length = true from inR_t (i := 0) hz0)) ?_
 conv => whnf
 refine plan_as (nthP (g0)) ?_
 conv => whnf
 have hq0 : sqL (M.take 1) = [gn M 0 * gn M 0] := sqL_take M hM0
 rw [mulN (a := gn M 0) (b := gn M 0) (by omega)]
 refine sym_loop hE hS (A := List Nat × Nat) [1, 45, 46] (fun (l, i) => [(5, .lst (ivs (zl l)) l.length (.ch 1)), (47, nv i)]) (fun (l, _) => [(1, .chain l.length 1 3)]) (fun (l, i) => (1 ≤ i ∧ i ≤ M.length) ∧ l = sqL (M.take i)) (fun (_, i) => M.length - i) ([gn M 0 * gn M 0], 1) rfl rfl (by refine ⟨rfl, rfl, rfl, rfl, ?_, ?_⟩ <;> repeat' (first | exact trivial | exact rfl | exact Nat.zero_le _ | exact congrArg (fun z => some (AV.int .i64 z)) (show IntKind.i64.wrap (0 + 1) = Int.ofNat 1 from wrapI (by decide) (by decide)) | exact Nat.le_of_ble_eq_true rfl | exact bdl_no (by assumption) | exact bdl_no (flat_no _) | exact bdl_no (ivs_no _) | exact Nat.max_le.2 ⟨Nat.le_of_ble_eq_true rfl, bdl_no (ivs_no _)⟩ | apply And.intro)) ⟨⟨Nat.le_refl _, hM0⟩, hq0.symm⟩ ?_
 rintro ⟨l, i⟩ ⟨⟨hi1, hi⟩, hl⟩
 have hll : l.length = i := by rw [hl, sqL_len, List.length_take]; omega
 conv => whnf
 by_cases hi2 : i < M.length
 ·have hiz : i < (zl M).length := by omega
  have bi := h60 _ (gn_mem M hi2)
  have bm : gn M i * gn M i ≤ 60 * 60 := Nat.mul_le_mul bi bi
  have hq := sqL_take M hi2
  refine bool_true (ltN_t hiz) ?_
  conv => whnf
  refine bool_true (inR_t hiz) ?_
  conv => whnf
  refine plan_as (nthP (show nth (ivs (zl M)) (i * 1) = some (nv (gn M i)) by rw [nth_ivs1 hiz, gi_zl M hi2])) ?_
  conv => whnf
  refine bool_true (decide_eq_true (show (l.length + (0 + 1)) * 8 ≤ 140737488355328 by omega)) ?_
  conv => whnf
  refine bool_true (decide_eq_true (show l.length + (0 + 1) ≤ 9223372036854775807 by omega)) ?_
  conv => whnf
  refine bool_true (lenIs_zl l) ?_
  conv => whnf
  refine bool_true (decide_eq_true rfl) ?_
  conv => whnf
  rw [mulN (a := gn M i) (b := gn M i) (by omega)]
  exact ⟨(l ++ [gn M i * gn M i], i + 1), ⟨⟨by omega, hi2⟩, by rw [hq, hl]⟩, by show M.length - (i + 1) < M.length - i; omega, (by refine ⟨rfl, rfl, rfl, rfl, ?_, ?_⟩ <;> repeat' (first | exact trivial | exact rfl | exact Nat.zero_le _ | exact congrArg some (app_ok l (gn M i * gn M i) 1) | exact app_ch l (gn M i * gn M i) | exact congrArg (fun z => some (AV.int .i64 z)) (wrapN (m := i + 1) (by omega)) | exact Nat.le_of_ble_eq_true rfl | exact bdl_no (by assumption) | exact bdl_no (flat_no _) | exact bdl_no (ivs_no _) | exact Nat.max_le.2 ⟨Nat.le_of_ble_eq_true rfl, bdl_no (ivs_no _)⟩ | apply And.intro))⟩
 ·have eM : M.take i = M := List.take_of_length_le (by omega)
  rw [eM] at hl
  have ss : l.sum ≤ 28800 := by rw [hl]; omega
  have sp : Pure prog 81 (wkl [.lst (ivs (zl l)) l.length (.ch 1)]) (nv Z) := by
   have := sum_pure l (by omega) (by omega)
   rw [show l.sum = Z by rw [hl]; exact eS] at this
   simp only [wkl, wk, wkl_ivs]
   rw [nl, zl_len] at this
   exact this
  refine bool_false (ltN_f (show ¬ i < (zl M).length by omega)) ?_
  conv => whnf
  refine sym_pureW hC (sp) ?_
  conv => whnf
  rw [show IntKind.i64.wrap (Int.ofNat Z * a) = Int.ofNat (Z * a') by rw [ea]; exact mulN (by omega)]
  refine sym_pure hC (up_pure (Z * a') (by omega)) ?_
  conv => whnf
  rw [show IntKind.i64.wrap (b * c) = Int.ofNat (b' * c') by rw [eb, ec]; exact mulN (by omega), show IntKind.i64.wrap (Int.ofNat ((Z * a' + 99) / 100) + Int.ofNat (b' * c')) = Int.ofNat (coN Z a' b' c') from wrapN (m := coN Z a' b' c') (by omega)]
  refine sym_drawn hS (by kernel_rfl) ?_
  conv => whnf
  rw [show IntKind.i64.wrap (Int.ofNat (coN Z a' b' c') * s) = Int.ofNat (coN Z a' b' c' * s') by rw [es]; exact mulN (by omega)]
  refine sym_pure hC (up_pure (coN Z a' b' c' * s') (by omega)) ?_
  conv => whnf
  rw [show IntKind.i64.wrap (Int.ofNat (coN Z a' b' c') + Int.ofNat ((coN Z a' b' c' * s' + 99) / 100)) = Int.ofNat (prN Z a' b' c' s') from wrapN (m := prN Z a' b' c' s') (by unfold prN; omega), show IntKind.i64.wrap (Int.ofNat (prN Z a' b' c' s') - e) = Int.ofNat (prN Z a' b' c' s') - e by rw [ee]; exact dNm _ _ (by unfold prN; omega) (by omega)]
  refine sym_drawn hS (by kernel_rfl) ?_
  conv => whnf
  exact ⟨_, rfl, Wk.refl _⟩
theorem bill_yes {m : List Nat} {x : AV} (h : IL x (zl m)) (hm : m.length ≤ 8) (h60 : ∀ y, y ∈ m → y ≤ 60) {a b c s e : Int} {a' b' c' s' e' : Nat} (ea : a = Int.ofNat a') (eb : b = Int.ofNat b') (ec : c = Int.ofNat c') (es : s = Int.ofNat s') (ee : e = Int.ofNat e') (ha : a' ≤ 1000) (hb : b' ≤ 40) (hc : c' ≤ 100) (hs : s' ≤ 100) (he : e' ≤ 1000000) (pT : Pure prog 78 [x] (.bool true)) :
  Pure prog 15 [bv x a b c s e] (.tup [nv (prN (sqL m).sum a' b' c' s'), iv (Int.ofNat (prN (sqL m).sum a' b' c' s') - e), iv 0]) := by
 have hSb := sqL_sum m h60
 obtain ⟨Z, eS⟩ : ∃ Z, (sqL m).sum = Z := ⟨_, rfl⟩
 rw [eS] at hSb ⊢
 have lx := h.no
 have k := coN_le (S := Z) (by omega) ha hb hc
 have k2 : coN Z a' b' c' * s' ≤ 1000000 * 100 := Nat.mul_le_mul k.2.2 hs
 have r : ∀ {v w : Nat}, v ≤ w → (0 : Int) ≤ Int.ofNat v ∧ Int.ofNat v ≤ (w : Int) := fun h => ⟨Int.natCast_nonneg _, Int.ofNat_le.2 h⟩
 have n1 : (!decide (0 ≤ a ∧ a ≤ 1000)) = false := nB_t (ea ▸ r ha)
 have n2 : (!decide (0 ≤ b ∧ b ≤ 40)) = false := nB_t (eb ▸ r hb)
 have n3 : (!decide (0 ≤ c ∧ c ≤ 100)) = false := nB_t (ec ▸ r hc)
 have n4 : (!decide (0 ≤ s ∧ s ≤ 100)) = false := nB_t (es ▸ r hs)
 have n5 : (!decide (0 ≤ e ∧ e ≤ 1000000)) = false := nB_t (ee ▸ r he)
 rcases h with ⟨rfl, e0⟩ | rfl
 ·obtain rfl : m = [] := List.map_eq_nil_iff.1 e0
  have sn : Pure prog 81 [.nils] (nv Z) := by rw [← eS]; exact sum_nils
  refine pure_sym hE rfl (by repeat' (first | exact trivial | assumption | exact flat_no _ | exact (fun _ h => nomatch h) | apply And.intro)) (by repeat' (first | exact trivial | assumption | exact flat_no _ | exact (fun _ h => nomatch h) | apply And.intro)) fun S q pc hS hq hC hE => ?_
  conv => whnf
  repeat ((first
   |refine ko_sT n1 ?_
   |refine ko_rF n1 ?_
   |refine plan_as (pick_f n1) ?_
   |refine bool_false n1 ?_
   |refine ko_sT n2 ?_
   |refine ko_rF n2 ?_
   |refine plan_as (pick_f n2) ?_
   |refine bool_false n2 ?_
   |refine ko_sT n3 ?_
   |refine ko_rF n3 ?_
   |refine plan_as (pick_f n3) ?_
   |refine bool_false n3 ?_
   |refine ko_sT n4 ?_
   |refine ko_rF n4 ?_
   |refine plan_as (pick_f n4) ?_
   |refine bool_false n4 ?_
   |refine ko_sT n5 ?_
   |refine ko_rF n5 ?_
   |refine plan_as (pick_f n5) ?_
   |refine bool_false n5 ?_
   |refine sym_pure hC (pT) ?_
   |refine sym_pure hC (sin_pure a 0 1000) ?_
   |refine sym_pure hC (sin_pure b 0 40) ?_
   |refine sym_pure hC (sin_pure c 0 100) ?_
   |refine sym_pure hC (sin_pure s 0 100) ?_
   |refine sym_pure hC (sin_pure e 0 1000000) ?_
   |refine sym_drawn hS (by kernel_rfl) ?_); conv => whnf)
  refine sym_unroll hE hS ?_
  conv => whnf
  refine sym_pure hC (sn) ?_
  conv => whnf
  rw [show IntKind.i64.wrap (Int.ofNat Z * a) = Int.ofNat (Z * a') by rw [ea]; exact mulN (by omega)]
  refine sym_pure hC (up_pure (Z * a') (by omega)) ?_
  conv => whnf
  rw [show IntKind.i64.wrap (b * c) = Int.ofNat (b' * c') by rw [eb, ec]; exact mulN (by omega), show IntKind.i64.wrap (Int.ofNat ((Z * a' + 99) / 100) + Int.ofNat (b' * c')) = Int.ofNat (coN Z a' b' c') from wrapN (m := coN Z a' b' c') (by omega)]
  refine sym_drawn hS (by kernel_rfl) ?_
  conv => whnf
  rw [show IntKind.i64.wrap (Int.ofNat (coN Z a' b' c') * s) = Int.ofNat (coN Z a' b' c' * s') by rw [es]; exact mulN (by omega)]
  refine sym_pure hC (up_pure (coN Z a' b' c' * s') (by omega)) ?_
  conv => whnf
  rw [show IntKind.i64.wrap (Int.ofNat (coN Z a' b' c') + Int.ofNat ((coN Z a' b' c' * s' + 99) / 100)) = Int.ofNat (prN Z a' b' c' s') from wrapN (m := prN Z a' b' c' s') (by unfold prN; omega), show IntKind.i64.wrap (Int.ofNat (prN Z a' b' c' s') - e) = Int.ofNat (prN Z a' b' c' s') - e by rw [ee]; exact dNm _ _ (by unfold prN; omega) (by omega)]
  refine sym_drawn hS (by kernel_rfl) ?_
  conv => whnf
  exact ⟨_, rfl, Wk.refl _⟩
 ·rcases m with _ | ⟨y, m⟩
  ·have sn : Pure prog 81 [.nils] (nv Z) := by rw [← eS]; exact sum_nils
   have sn0 : Pure prog 81 [nl (zl [])] (nv Z) := by rw [← eS]; exact sum_pure [] (by decide) (by decide)
   refine pure_sym hE rfl (by repeat' (first | exact trivial | assumption | exact flat_no _ | exact (fun _ h => nomatch h) | apply And.intro)) (by repeat' (first | exact trivial | assumption | exact flat_no _ | exact (fun _ h => nomatch h) | apply And.intro)) fun S q pc hS hq hC hE => ?_
   conv => whnf
   repeat ((first
    |refine ko_sT n1 ?_
    |refine ko_rF n1 ?_
    |refine plan_as (pick_f n1) ?_
    |refine bool_false n1 ?_
    |refine ko_sT n2 ?_
    |refine ko_rF n2 ?_
    |refine plan_as (pick_f n2) ?_
    |refine bool_false n2 ?_
    |refine ko_sT n3 ?_
    |refine ko_rF n3 ?_
    |refine plan_as (pick_f n3) ?_
    |refine bool_false n3 ?_
    |refine ko_sT n4 ?_
    |refine ko_rF n4 ?_
    |refine plan_as (pick_f n4) ?_
    |refine bool_false n4 ?_
    |refine ko_sT n5 ?_
    |refine ko_rF n5 ?_
    |refine plan_as (pick_f n5) ?_
    |refine bool_false n5 ?_
    |refine sym_pure hC (pT) ?_
    |refine sym_pure hC (sin_pure a 0 1000) ?_
    |refine sym_pure hC (sin_pure b 0 40) ?_
    |refine sym_pure hC (sin_pure c 0 100) ?_
    |refine sym_pure hC (sin_pure s 0 100) ?_
    |refine sym_pure hC (sin_pure e 0 1000000) ?_
    |refine sym_drawn hS (by kernel_rfl) ?_); conv => whnf)
   refine sym_unroll hE hS ?_
   conv => whnf
   refine sym_pure hC (sn) ?_
   conv => whnf
   rw [show IntKind.i64.wrap (Int.ofNat Z * a) = Int.ofNat (Z * a') by rw [ea]; exact mulN (by omega)]
   refine sym_pure hC (up_pure (Z * a') (by omega)) ?_
   conv => whnf
   rw [show IntKind.i64.wrap (b * c) = Int.ofNat (b' * c') by rw [eb, ec]; exact mulN (by omega), show IntKind.i64.wrap (Int.ofNat ((Z * a' + 99) / 100) + Int.ofNat (b' * c')) = Int.ofNat (coN Z a' b' c') from wrapN (m := coN Z a' b' c') (by omega)]
   refine sym_drawn hS (by kernel_rfl) ?_
   conv => whnf
   rw [show IntKind.i64.wrap (Int.ofNat (coN Z a' b' c') * s) = Int.ofNat (coN Z a' b' c' * s') by rw [es]; exact mulN (by omega)]
   refine sym_pure hC (up_pure (coN Z a' b' c' * s') (by omega)) ?_
   conv => whnf
   rw [show IntKind.i64.wrap (Int.ofNat (coN Z a' b' c') + Int.ofNat ((coN Z a' b' c' * s' + 99) / 100)) = Int.ofNat (prN Z a' b' c' s') from wrapN (m := prN Z a' b' c' s') (by unfold prN; omega), show IntKind.i64.wrap (Int.ofNat (prN Z a' b' c' s') - e) = Int.ofNat (prN Z a' b' c' s') - e by rw [ee]; exact dNm _ _ (by unfold prN; omega) (by omega)]
   refine sym_drawn hS (by kernel_rfl) ?_
   conv => whnf
   exact ⟨_, rfl, Wk.refl _⟩
  ·exact eS ▸ bill_nl (M := y :: m) (Nat.succ_pos _) hm h60 ea eb ec es ee ha hb hc hs he pT
end
end Go.Abs.Seat
