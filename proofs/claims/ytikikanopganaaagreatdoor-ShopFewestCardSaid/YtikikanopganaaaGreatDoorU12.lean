/-
  Whether a list is a packing, as the document tells it.
  A piece with a change.
  The search for changes.
-/
import Derived.Test.YtikikanopganaaaGreatDoorU11
import Derived.Test.YtikikanopganaaaGreatDoorB7
import Derived.Test.YtikikanopganaaaGreatDoorU10
import Derived.Test.YtikikanopganaaaGreatDoorU5
/-! Whether a list is a packing, as the document tells it. -/
namespace Go.Abs.Seat
noncomputable section
open Go Go.Abs Go.Proofs.Tryz
set_option maxRecDepth 100000
set_option maxHeartbeats 40000000
attribute [local irreducible] IntKind.wrap pEq pSlice

theorem maxNn (x y : Nat) : maxI (Int.ofNat x) (Int.ofNat y) = Int.ofNat (max x y) := by
 unfold maxI
 by_cases h : Int.ofNat y > Int.ofNat x
 ·have h2 : x < y := Int.ofNat_lt.1 h
  rw [if_pos h, Nat.max_eq_right (by omega)]
 ·have h2 : ¬ x < y := fun k => h (Int.ofNat_lt.2 k)
  rw [if_neg h, Nat.max_eq_left (by omega)]
def mnA : Nat → List Nat → Nat
 |a, [] => a
 |a, x :: r => mnA (max a (x + 1)) r
theorem drop_gnx (l : List Nat) {i : Nat} (h : i < l.length) : l.drop i = gn l i :: l.drop (i + 1) := by
 rw [List.drop_eq_getElem_cons h]
 simp [gn, List.getD, h]
theorem rMany_pure (sh : List Nat) (hs : sh.length ≤ 10) (hx : ∀ x, x ∈ sh → x ≤ 10) : Pure prog 63 [nl (zl sh)] (nv (mnA 0 sh)) := by
 have lS := ivs_no (zl sh)
 have hz := zl_len sh
 refine pure_sym hE rfl (by repeat' (first | exact trivial | assumption | exact flat_no _ | exact (fun _ h => nomatch h) | apply And.intro)) (by repeat' (first | exact trivial | assumption | exact flat_no _ | exact (fun _ h => nomatch h) | apply And.intro)) fun S q pc hS hq hC hE => ?_
 conv => whnf
 refine sym_loop hE hS (A := Nat × Nat) [0] (fun (i, n) => [(3, nv n), (4, nv i)]) (fun _ => []) (fun (i, n) => i ≤ sh.length ∧ mnA n (sh.drop i) = mnA 0 sh ∧ n ≤ 11) (fun (i, _) => sh.length - i) (0, 0) rfl rfl (by refine ⟨rfl, rfl, rfl, rfl, ?_, ?_⟩ <;> repeat' (first | exact trivial | exact rfl | exact Nat.zero_le _ | exact bdl_no lS | exact Nat.le_of_ble_eq_true rfl | exact bdl_no (by assumption) | exact bdl_no (flat_no _) | exact bdl_no (ivs_no _) | exact Nat.max_le.2 ⟨Nat.le_of_ble_eq_true rfl, bdl_no (ivs_no _)⟩ | apply And.intro)) ⟨Nat.zero_le _, rfl, Nat.zero_le _⟩ ?_
 rintro ⟨i, n⟩ ⟨hi, he, hn⟩
 conv => whnf
 by_cases hi2 : i < sh.length
 ·have hiz : i < (zl sh).length := by omega
  have g0 : nth (ivs (zl sh)) (i * 1) = some (nv (gn sh i)) := by rw [nth_ivs1 hiz, gi_zl sh hi2]
  have hb := hx _ (gn_mem sh hi2)
  rw [drop_gnx sh hi2, mnA] at he
  generalize gn sh i = x at *
  have hm : maxI (Int.ofNat n) (IntKind.i64.wrap (Int.ofNat x + 1)) = Int.ofNat (max n (x + 1)) := by rw [show IntKind.i64.wrap (Int.ofNat x + 1) = Int.ofNat (x + 1) from wrapN (m := x + 1) (by omega)]; exact maxNn n (x + 1)
  refine bool_true (ltN_t hiz) ?_
  conv => whnf
  refine bool_true (inR_t hiz) ?_
  conv => whnf
  refine plan_as (nthP (g0)) ?_
  conv => whnf
  exact ⟨(i + 1, max n (x + 1)), ⟨hi2, he, by omega⟩, by show sh.length - (i + 1) < sh.length - i; omega, (by refine ⟨rfl, rfl, rfl, rfl, ?_, ?_⟩ <;> repeat' (first | exact trivial | exact rfl | exact Nat.zero_le _ | exact congrArg (fun z => some (AV.int .i64 z)) (show IntKind.i64.wrap (Int.ofNat i + 1) = Int.ofNat (i + 1) from wrapN (m := i + 1) (by omega)) | exact congrArg (fun z => some (AV.int .i64 z)) hm | exact bdl_no lS | exact Nat.le_of_ble_eq_true rfl | exact bdl_no (by assumption) | exact bdl_no (flat_no _) | exact bdl_no (ivs_no _) | exact Nat.max_le.2 ⟨Nat.le_of_ble_eq_true rfl, bdl_no (ivs_no _)⟩ | apply And.intro))⟩
 ·refine bool_false (ltN_f (show ¬ i < (zl sh).length by omega)) ?_
  conv => whnf
  rw [List.drop_eq_nil_of_le (by omega), mnA] at he
  rw [← he]
  exact ⟨_, rfl, Wk.refl _⟩
theorem mnA_le : ∀ (l : List Nat) (a : Nat), a ≤ 11 → (∀ x, x ∈ l → x ≤ 10) → mnA a l ≤ 11
 | [], _, h, _ => h
 |x :: r, a, h, hx => by
  rw [mnA]
  have := hx x (List.mem_cons_self ..)
  exact mnA_le r _ (by omega) fun y hy => hx y (List.mem_cons_of_mem _ hy)
def ldI (saw s : Nat) : List (Nat × Nat) → Int → Int
 | [], a => a
 |x :: r, a => ldI saw s r (if x.1 = s then a + Int.ofNat saw + Int.ofNat (2 * x.2) else a)
def pkP (long saw : Nat) (T sh : List Nat) : Prop := (∀ i, i < sh.length → gn sh i ≤ mnA 0 (sh.take i)) ∧ ∀ s, s < mnA 0 sh → ldI saw s (sh.zip T) (-Int.ofNat saw) ≤ Int.ofNat long
instance (long saw : Nat) (T sh : List Nat) : Decidable (pkP long saw T sh) := Classical.propDecidable _
theorem tak_ivz (l : List Nat) {i : Nat} (h : i ≤ l.length) : takeN (i * 1) (ivs (zl l)) = some (ivs (zl (l.take i))) := by
 rw [Nat.mul_one]
 induction l generalizing i with
 |nil => have : i = 0 := Nat.le_zero.1 h; subst this; rfl
 |cons x r ih =>
  cases i with
  |zero => rfl
  |succ i =>
   have := ih (i := i) (by simpa using h)
   show (match takeN i (ivs (zl r)) with | some z => some (nv x :: z) | none => none) = _
   rw [this]; rfl
theorem rPacks_pure {long saw : Nat} (_hl : long ≤ 500) (hs : saw ≤ 9) {T sh : List Nat} (hT : sh.length ≤ T.length) (h8 : T.length ≤ 8) (ht : ∀ x, x ∈ T → x ≤ 60) (hx : ∀ x, x ∈ sh → x ≤ 10) : Pure prog 61 [nv long, nv saw, nl (zl T), nl (zl sh)] (.bool (decide (pkP long saw T sh))) := by
 have lT := ivs_no (zl T)
 have lD := ivs_no (zl sh)
 have z1 := zl_len T
 have z2 := zl_len sh
 have lz : (sh.zip T).length = sh.length := by rw [List.length_zip]; omega
 have pM := rMany_pure sh (by omega) hx
 refine pure_sym hE rfl (by repeat' (first | exact trivial | assumption | exact flat_no _ | exact (fun _ h => nomatch h) | apply And.intro)) (by repeat' (first | exact trivial | assumption | exact flat_no _ | exact (fun _ h => nomatch h) | apply And.intro)) fun S q pc hS hq hC hE => ?_
 conv => whnf
 refine sym_loop hE hS (A := Nat) [0, 1, 2, 3] (fun i => [(9, nv i)]) (fun _ => []) (fun i => i ≤ sh.length ∧ ∀ j, j < i → gn sh j ≤ mnA 0 (sh.take j)) (fun i => sh.length - i) 0 rfl rfl (by refine ⟨rfl, rfl, rfl, rfl, ?_, ?_⟩ <;> repeat' (first | exact trivial | exact rfl | exact Nat.zero_le _ | exact bdl_no lT | exact bdl_no lD | exact Nat.le_of_ble_eq_true rfl | exact bdl_no (by assumption) | exact bdl_no (flat_no _) | exact bdl_no (ivs_no _) | exact Nat.max_le.2 ⟨Nat.le_of_ble_eq_true rfl, bdl_no (ivs_no _)⟩ | apply And.intro)) ⟨Nat.zero_le _, fun _ h => absurd h (Nat.not_lt_zero _)⟩ ?_
 intro i ⟨hi, hj⟩
 conv => whnf
 by_cases hi2 : i < sh.length
 ·have hiz : i < (zl sh).length := by omega
  have g0 : nth (ivs (zl sh)) (i * 1) = some (nv (gn sh i)) := by rw [nth_ivs1 hiz, gi_zl sh hi2]
  have sl : pSlice (E q pc).T 22 (.lst (ivs (zl sh)) (zl sh).length .no) none (some (.int .i64 (Int.ofNat i))) = .chk (decide (0 * t3.size ≤ (ivs (zl sh)).length)) (.ret (.lst (ivs (zl (sh.take i))) i .no)) := slTo (e := 3) (inf := t3) (h := i) (by kernel_rfl) (by kernel_rfl) rfl (by omega) (tak_ivz sh hi)
  have d0 : decide (0 * t3.size ≤ (ivs (zl sh)).length) = true := decide_eq_true (by rw [Nat.zero_mul]; exact Nat.zero_le _)
  have lK := ivs_no (zl (sh.take i))
  have pK := rMany_pure (sh.take i) (by rw [List.length_take]; omega) fun x hx2 => hx x (List.mem_of_mem_take hx2)
  have eK : (zl (sh.take i)).length = i := by rw [zl_len, List.length_take]; omega
  have pK : Pure prog 63 [.lst (ivs (zl (sh.take i))) i .no] (nv (mnA 0 (sh.take i))) := by
   have : nl (zl (sh.take i)) = .lst (ivs (zl (sh.take i))) i .no := by unfold nl; rw [eK]
   rwa [this] at pK
  refine bool_true (ltN_t hiz) ?_
  conv => whnf
  repeat ((first
   |refine plan_as (nthP g0) ?_
   |refine plan_as (sl) ?_
   |refine ko_rT (inR_t hiz) ?_
   |refine ko_sF (inR_t hiz) ?_
   |refine plan_as (pick_t (inR_t hiz)) ?_
   |refine bool_true (inR_t hiz) ?_
   |refine ko_rT d0 ?_
   |refine ko_sF d0 ?_
   |refine plan_as (pick_t d0) ?_
   |refine bool_true d0 ?_
   |refine sym_pure hC (pK) ?_
   |refine sym_drawn hS (by kernel_rfl) ?_); conv => whnf)
  by_cases h1 : gn sh i ≤ mnA 0 (sh.take i)
  ·refine bool_false (decide_eq_false (show ¬ Int.ofNat (gn sh i) > Int.ofNat (mnA 0 (sh.take i)) from fun z => by have := Int.ofNat_lt.1 z; omega)) ?_
   conv => whnf
   exact ⟨i + 1, ⟨hi2, fun j hj2 => by
    by_cases e : j = i
    ·subst e; exact h1
    ·exact hj j (by omega)⟩, by omega, (by refine ⟨rfl, rfl, rfl, rfl, ?_, ?_⟩ <;> repeat' (first | exact trivial | exact rfl | exact Nat.zero_le _ | exact congrArg (fun z => some (AV.int .i64 z)) (show IntKind.i64.wrap (Int.ofNat i + 1) = Int.ofNat (i + 1) from wrapN (m := i + 1) (by omega)) | exact bdl_no lT | exact bdl_no lD | exact Nat.le_of_ble_eq_true rfl | exact bdl_no (by assumption) | exact bdl_no (flat_no _) | exact bdl_no (ivs_no _) | exact Nat.max_le.2 ⟨Nat.le_of_ble_eq_true rfl, bdl_no (ivs_no _)⟩ | apply And.intro))⟩
  ·refine bool_true (decide_eq_true (show Int.ofNat (gn sh i) > Int.ofNat (mnA 0 (sh.take i)) from Int.ofNat_lt.2 (by omega))) ?_
   conv => whnf
   rw [decide_eq_false (show ¬ pkP long saw T sh from fun z => h1 (z.1 i hi2))]
   exact ⟨_, rfl, Wk.refl _⟩
 ·refine bool_false (ltN_f (show ¬ i < (zl sh).length by omega)) ?_
  conv => whnf
  have hord : ∀ j, j < sh.length → gn sh j ≤ mnA 0 (sh.take j) := fun j hj2 => hj j (by omega)
  have hM11 : mnA 0 sh ≤ 11 := mnA_le sh 0 (by omega) hx
  have hneg : IntKind.i64.wrap (0 - Int.ofNat saw) = -Int.ofNat saw := by rw [wrapI (by simp only [Int.ofNat_eq_natCast]; omega) (by simp only [Int.ofNat_eq_natCast]; omega)]; simp
  refine sym_hideL fun K hK => ?_
  refine sym_loop hE hS (A := Nat) [0, 1, 2, 3] (fun s => [(10, nv s)]) (fun _ => []) (fun s => s ≤ mnA 0 sh ∧ ∀ j, j < s → ldI saw j (sh.zip T) (-Int.ofNat saw) ≤ Int.ofNat long) (fun s => mnA 0 sh - s) 0 rfl rfl (by refine ⟨rfl, rfl, rfl, rfl, ?_, ?_⟩ <;> repeat' (first | exact trivial | exact rfl | exact Nat.zero_le _ | exact bdl_no lT | exact bdl_no lD | exact Nat.le_of_ble_eq_true rfl | exact bdl_no (by assumption) | exact bdl_no (flat_no _) | exact bdl_no (ivs_no _) | exact Nat.max_le.2 ⟨Nat.le_of_ble_eq_true rfl, bdl_no (ivs_no _)⟩ | apply And.intro)) ⟨Nat.zero_le _, fun _ h => absurd h (Nat.not_lt_zero _)⟩ ?_
  intro s ⟨hs1, hu⟩
  conv => whnf
  refine sym_pure hC (pM) ?_
  conv => whnf
  by_cases hs2 : s < mnA 0 sh
  ·refine bool_true (decide_eq_true (show Int.ofNat s < Int.ofNat (mnA 0 sh) from Int.ofNat_lt.2 hs2)) ?_
   conv => whnf
   refine sym_hideL fun K hK2 => ?_
   refine sym_loop hE hS (A := Nat × Int) [0, 1, 2, 3, 10] (fun (i, a) => [(11, iv a), (12, nv i)]) (fun _ => []) (fun (i, a) => i ≤ sh.length ∧ ldI saw s ((sh.zip T).drop i) a = ldI saw s (sh.zip T) (-Int.ofNat saw) ∧ -9 ≤ a ∧ a ≤ (i : Int) * 129) (fun (i, _) => sh.length - i) (0, -Int.ofNat saw) rfl rfl (by refine ⟨rfl, rfl, rfl, rfl, ?_, ?_⟩ <;> repeat' (first | exact trivial | exact rfl | exact Nat.zero_le _ | exact congrArg (fun z => some (AV.int .i64 z)) hneg | exact bdl_no lT | exact bdl_no lD | exact Nat.le_of_ble_eq_true rfl | exact bdl_no (by assumption) | exact bdl_no (flat_no _) | exact bdl_no (ivs_no _) | exact Nat.max_le.2 ⟨Nat.le_of_ble_eq_true rfl, bdl_no (ivs_no _)⟩ | apply And.intro)) ⟨Nat.zero_le _, rfl, by simp only [Int.ofNat_eq_natCast]; omega, by simp only [Int.ofNat_eq_natCast]; omega⟩ ?_
   rintro ⟨i, a⟩ ⟨hi, he, ha1, ha2⟩
   conv => whnf
   by_cases hi2 : i < sh.length
   ·have hiz : i < (zl sh).length := by omega
    have hit : i < (zl T).length := by omega
    have hi1 : IntKind.i64.wrap (Int.ofNat i + 1) = Int.ofNat (i + 1) := wrapN (m := i + 1) (by omega)
    have g0 : nth (ivs (zl sh)) (i * 1) = some (nv (gn sh i)) := by rw [nth_ivs1 hiz, gi_zl sh hi2]
    have g1 : nth (ivs (zl T)) (i * 1) = some (nv (gn T i)) := by rw [nth_ivs1 hit, gi_zl T (by omega)]
    have h60 := ht _ (gn_mem T (show i < T.length by omega))
    have hd : (sh.zip T).drop i = (gn sh i, gn T i) :: (sh.zip T).drop (i + 1) := by
     rw [List.drop_eq_getElem_cons (by omega), List.getElem_zip]
     simp [gn, List.getD, hi2, show i < T.length by omega]
    rw [hd, ldI] at he
    generalize gn sh i = k at *
    generalize gn T i = t at *
    have hw2 : IntKind.i64.wrap (2 * Int.ofNat t) = Int.ofNat (2 * t) := by
     show IntKind.i64.wrap (Int.ofNat 2 * Int.ofNat t) = _
     exact mulN (by omega)
    refine bool_true (ltN_t hiz) ?_
    conv => whnf
    refine bool_true (inR_t hiz) ?_
    conv => whnf
    refine plan_as (nthP (g0)) ?_
    conv => whnf
    by_cases hks : k = s
    ·rw [if_pos hks] at he
     have hw3 : IntKind.i64.wrap (IntKind.i64.wrap (a + Int.ofNat saw) + IntKind.i64.wrap (2 * Int.ofNat t)) = a + Int.ofNat saw + Int.ofNat (2 * t) := by
      rw [hw2, wrapI (n := a + Int.ofNat saw) (by simp only [Int.ofNat_eq_natCast]; omega) (by simp only [Int.ofNat_eq_natCast]; omega)]
      exact wrapI (by simp only [Int.ofNat_eq_natCast]; omega) (by simp only [Int.ofNat_eq_natCast]; omega)
     refine bool_true ((show (Int.ofNat k == Int.ofNat s) = true by rw [hks]; exact beq_self_eq_true _)) ?_
     conv => whnf
     refine bool_true (inR_t hit) ?_
     conv => whnf
     refine plan_as (nthP (g1)) ?_
     conv => whnf
     exact ⟨(i + 1, a + Int.ofNat saw + Int.ofNat (2 * t)), ⟨hi2, he, by simp only [Int.ofNat_eq_natCast]; omega, by simp only [Int.ofNat_eq_natCast]; omega⟩, by show sh.length - (i + 1) < sh.length - i; omega, (by refine ⟨rfl, rfl, rfl, rfl, ?_, ?_⟩ <;> repeat' (first | exact trivial | exact rfl | exact Nat.zero_le _ | exact congrArg (fun z => some (AV.int .i64 z)) hi1 | exact congrArg (fun z => some (AV.int .i64 z)) hw3 | exact bdl_no lT | exact bdl_no lD | exact Nat.le_of_ble_eq_true rfl | exact bdl_no (by assumption) | exact bdl_no (flat_no _) | exact bdl_no (ivs_no _) | exact Nat.max_le.2 ⟨Nat.le_of_ble_eq_true rfl, bdl_no (ivs_no _)⟩ | apply And.intro))⟩
    ·rw [if_neg hks] at he
     refine bool_false ((show (Int.ofNat k == Int.ofNat s) = false from beq_eq_false_iff_ne.2 fun z => hks (Int.ofNat.inj z))) ?_
     conv => whnf
     exact ⟨(i + 1, a), ⟨hi2, he, ha1, by simp only [Int.natCast_add]; omega⟩, by show sh.length - (i + 1) < sh.length - i; omega, (by refine ⟨rfl, rfl, rfl, rfl, ?_, ?_⟩ <;> repeat' (first | exact trivial | exact rfl | exact Nat.zero_le _ | exact congrArg (fun z => some (AV.int .i64 z)) hi1 | exact bdl_no lT | exact bdl_no lD | exact Nat.le_of_ble_eq_true rfl | exact bdl_no (by assumption) | exact bdl_no (flat_no _) | exact bdl_no (ivs_no _) | exact Nat.max_le.2 ⟨Nat.le_of_ble_eq_true rfl, bdl_no (ivs_no _)⟩ | apply And.intro))⟩
   ·refine bool_false (ltN_f (show ¬ i < (zl sh).length by omega)) ?_
    conv => whnf
    refine hK2 _ _ ?_
    conv => whnf
    rw [List.drop_eq_nil_of_le (by omega), ldI] at he
    by_cases h3 : a ≤ Int.ofNat long
    ·refine bool_false (decide_eq_false (show ¬ a > Int.ofNat long by omega)) ?_
     conv => whnf
     exact ⟨s + 1, ⟨hs2, fun j hj2 => by
      by_cases e : j = s
      ·subst e; rw [← he]; exact h3
      ·exact hu j (by omega)⟩, by omega, (by refine ⟨rfl, rfl, rfl, rfl, ?_, ?_⟩ <;> repeat' (first | exact trivial | exact rfl | exact Nat.zero_le _ | exact congrArg (fun z => some (AV.int .i64 z)) (show IntKind.i64.wrap (Int.ofNat s + 1) = Int.ofNat (s + 1) from wrapN (m := s + 1) (by omega)) | exact bdl_no lT | exact bdl_no lD | exact Nat.le_of_ble_eq_true rfl | exact bdl_no (by assumption) | exact bdl_no (flat_no _) | exact bdl_no (ivs_no _) | exact Nat.max_le.2 ⟨Nat.le_of_ble_eq_true rfl, bdl_no (ivs_no _)⟩ | apply And.intro))⟩
    ·refine bool_true (decide_eq_true (show a > Int.ofNat long by omega)) ?_
     conv => whnf
     refine hK _ _ ?_
     conv => whnf
     rw [decide_eq_false (show ¬ pkP long saw T sh from fun z => h3 (by rw [he]; exact z.2 s hs2))]
     exact ⟨_, rfl, Wk.refl _⟩
  ·refine bool_false (decide_eq_false (show ¬ Int.ofNat s < Int.ofNat (mnA 0 sh) from fun z => hs2 (Int.ofNat_lt.1 z))) ?_
   conv => whnf
   refine hK _ _ ?_
   conv => whnf
   rw [decide_eq_true (show pkP long saw T sh from ⟨hord, fun j hj2 => hu j (by omega)⟩)]
   exact ⟨_, rfl, Wk.refl _⟩
end
end Go.Abs.Seat

/-! A piece with a change. -/
namespace Go.Abs.Seat
noncomputable section
open Go Go.Abs Go.Proofs.Tryz
set_option maxRecDepth 100000
set_option maxHeartbeats 40000000
attribute [local irreducible] IntKind.wrap pEq

def chkT (t : Tr AV) (xs : List AV) (n : Nat) : Prop := @Nat.rec (fun _ => Prop) True (fun j ih => t.get j = xs[j]? ∧ ih) n
theorem chkT.at {t : Tr AV} {xs : List AV} : ∀ {n : Nat}, chkT t xs n → ∀ j, j < n → t.get j = xs[j]?
 |n + 1, h, j, hj => by
  by_cases e : j = n
  ·subst e; exact h.1
  ·exact chkT.at h.2 j (by omega)
def chN (N : List Lk) (i a b : Nat) : List Lk := N.set i ((gN N i).1, a, b)
theorem changed_pure {N : List Lk} (h5 : N.length ≤ 5) (M : List Int) {i : Nat} (hi : i < N.length) (a b : Nat) : Pure prog 99 [.agg [nkA N, nl M], .agg [nv i, nv a, nv b]] (.agg [nkA (chN N i a b), nl M]) := by
 have lM := ivs_no M
 have lC := lks_no (cL (chN N i a b))
 rcases N with _ | ⟨x0, _ | ⟨x1, _ | ⟨x2, _ | ⟨x3, _ | ⟨x4, _ | ⟨x5, r⟩⟩⟩⟩⟩⟩
 ·exact absurd hi (Nat.not_lt_zero _)
 ·have lN := lks_no (cL [x0])
  obtain rfl : i = 0 := by simp only [List.length_cons, List.length_nil] at hi; omega
  refine pure_symF (hEM muLinks) rfl (by repeat' (first | exact trivial | assumption | exact flat_no _ | exact (fun _ h => nomatch h) | apply And.intro)) (by repeat' (first | exact trivial | assumption | exact flat_no _ | exact (fun _ h => nomatch h) | apply And.intro)) fun S q pc hS hq hC hE => ?_
  conv => whnf
  refine sym_call hC ?_
  conv => whnf
  refine sym_inline hE hS ?_
  conv => whnf
  refine sym_eq hq false rfl ?_
  conv => whnf
  exact ⟨_, rfl, FzV.agg ⟨FzV.slcN rfl rfl (chkT.at (by repeat' (first | exact trivial | kernel_rfl | apply And.intro))) lC, FzV.no ⟨lM, fun _ e => nomatch e⟩, trivial⟩⟩
 ·have lN := lks_no (cL [x0, x1])
  have hc : i = 0 ∨ i = 1 := by simp only [List.length_cons, List.length_nil] at hi; omega
  rcases hc with rfl | rfl
  all_goals
   refine pure_symF (hEM muLinks) rfl (by repeat' (first | exact trivial | assumption | exact flat_no _ | exact (fun _ h => nomatch h) | apply And.intro)) (by repeat' (first | exact trivial | assumption | exact flat_no _ | exact (fun _ h => nomatch h) | apply And.intro)) fun S q pc hS hq hC hE => ?_
   conv => whnf
   refine sym_call hC ?_
   conv => whnf
   refine sym_inline hE hS ?_
   conv => whnf
   refine sym_eq hq false rfl ?_
   conv => whnf
   exact ⟨_, rfl, FzV.agg ⟨FzV.slcN rfl rfl (chkT.at (by repeat' (first | exact trivial | kernel_rfl | apply And.intro))) lC, FzV.no ⟨lM, fun _ e => nomatch e⟩, trivial⟩⟩
 ·have lN := lks_no (cL [x0, x1, x2])
  have hc : i = 0 ∨ i = 1 ∨ i = 2 := by simp only [List.length_cons, List.length_nil] at hi; omega
  rcases hc with rfl | rfl | rfl
  all_goals
   refine pure_symF (hEM muLinks) rfl (by repeat' (first | exact trivial | assumption | exact flat_no _ | exact (fun _ h => nomatch h) | apply And.intro)) (by repeat' (first | exact trivial | assumption | exact flat_no _ | exact (fun _ h => nomatch h) | apply And.intro)) fun S q pc hS hq hC hE => ?_
   conv => whnf
   refine sym_call hC ?_
   conv => whnf
   refine sym_inline hE hS ?_
   conv => whnf
   refine sym_eq hq false rfl ?_
   conv => whnf
   exact ⟨_, rfl, FzV.agg ⟨FzV.slcN rfl rfl (chkT.at (by repeat' (first | exact trivial | kernel_rfl | apply And.intro))) lC, FzV.no ⟨lM, fun _ e => nomatch e⟩, trivial⟩⟩
 ·have lN := lks_no (cL [x0, x1, x2, x3])
  have hc : i = 0 ∨ i = 1 ∨ i = 2 ∨ i = 3 := by simp only [List.length_cons, List.length_nil] at hi; omega
  rcases hc with rfl | rfl | rfl | rfl
  all_goals
   refine pure_symF (hEM muLinks) rfl (by repeat' (first | exact trivial | assumption | exact flat_no _ | exact (fun _ h => nomatch h) | apply And.intro)) (by repeat' (first | exact trivial | assumption | exact flat_no _ | exact (fun _ h => nomatch h) | apply And.intro)) fun S q pc hS hq hC hE => ?_
   conv => whnf
   refine sym_call hC ?_
   conv => whnf
   refine sym_inline hE hS ?_
   conv => whnf
   refine sym_eq hq false rfl ?_
   conv => whnf
   exact ⟨_, rfl, FzV.agg ⟨FzV.slcN rfl rfl (chkT.at (by repeat' (first | exact trivial | kernel_rfl | apply And.intro))) lC, FzV.no ⟨lM, fun _ e => nomatch e⟩, trivial⟩⟩
 ·have lN := lks_no (cL [x0, x1, x2, x3, x4])
  have hc : i = 0 ∨ i = 1 ∨ i = 2 ∨ i = 3 ∨ i = 4 := by simp only [List.length_cons, List.length_nil] at hi; omega
  rcases hc with rfl | rfl | rfl | rfl | rfl
  all_goals
   refine pure_symF (hEM muLinks) rfl (by repeat' (first | exact trivial | assumption | exact flat_no _ | exact (fun _ h => nomatch h) | apply And.intro)) (by repeat' (first | exact trivial | assumption | exact flat_no _ | exact (fun _ h => nomatch h) | apply And.intro)) fun S q pc hS hq hC hE => ?_
   conv => whnf
   refine sym_call hC ?_
   conv => whnf
   refine sym_inline hE hS ?_
   conv => whnf
   refine sym_eq hq false rfl ?_
   conv => whnf
   exact ⟨_, rfl, FzV.agg ⟨FzV.slcN rfl rfl (chkT.at (by repeat' (first | exact trivial | kernel_rfl | apply And.intro))) lC, FzV.no ⟨lM, fun _ e => nomatch e⟩, trivial⟩⟩
 ·simp only [List.length_cons] at h5
  omega
end
end Go.Abs.Seat

/-! The search for changes. -/
namespace Go.Abs.Seat
noncomputable section
open Go Go.Abs Go.Proofs.Tryz
set_option maxRecDepth 100000
set_option maxHeartbeats 40000000
attribute [local irreducible] IntKind.wrap pEq

def orE {α : Type} (o p : Option α) : Option α := match o with | some x => some x | none => p
def fstO {α : Type} (f : Nat → Option α) : Nat → Nat → Option α
 | _, 0 => none
 |k, n + 1 => orE (f k) (fstO f (k + 1) n)
def sr0 (N : List Lk) (H : List Nat) (hand : Nat) (t : Nat × Nat) (now : List Lk) (_ : Nat) : Option (List Lk) := if suP N now H hand t then some [] else none
def stC (g : List Lk → Nat → Option (List Lk)) (N now : List Lk) (i a b : Nat) : Option (List Lk) := if (gN N i).2 = (a, b) then none else (g (chN now i a b) (i + 1)).map ((i, a, b) :: ·)
def srS (g : List Lk → Nat → Option (List Lk)) (N : List Lk) (lo hi : Nat) (now : List Lk) (fr : Nat) : Option (List Lk) :=
 fstO (fun i => fstO (fun a => fstO (fun b => stC g N now i a b) lo (hi + 1 - lo)) lo (hi + 1 - lo)) fr (N.length - fr)
def srV : Option (List Lk) → AV
 |none => .tup [.nils, .bool false]
 |some [] => .tup [.nils, .bool true]
 |some (c :: r) => .tup [nkA (c :: r), .bool true]
theorem gN_ch (N : List Lk) (i a b j : Nat) (hi : i < N.length) : gN (chN N i a b) j = if j = i then ((gN N i).1, a, b) else gN N j := by
 unfold chN gN
 by_cases e : j = i
 ·subst e
  rw [if_pos rfl, List.getD, List.getElem?_set_self hi]; rfl
 ·rw [if_neg e, List.getD, List.getElem?_set_ne (fun z => e z.symm)]; rfl
theorem chN_len (N : List Lk) (i a b : Nat) : (chN N i a b).length = N.length := List.length_set
theorem chN_fr (N : List Lk) (i a b j : Nat) (hi : i < N.length) : (gN (chN N i a b) j).1 = (gN N j).1 := by
 rw [gN_ch N i a b j hi]
 split
 ·rename_i e; subst e; rfl
 ·rfl
theorem trF_ch {N : List Lk} {i a b : Nat} (hi : i < N.length) : ∀ (f x : Nat), (trF (chN N i a b) f x).length = (trF N f x).length
 | _, 0 => by cases ‹Nat› <;> rfl
 | 0, _ + 1 => rfl
 |f + 1, x + 1 => by rw [trF, trF, List.length_append, List.length_append, chN_fr N i a b x hi, trF_ch hi f]; rfl
theorem okN.ch {N : List Lk} (h : okN N) {i a b : Nat} (hi : i < N.length) (ha : tN a) (hb : tN b) : okN (chN N i a b) := by
 refine ⟨fun j hj => ?_, fun j hj => ?_, fun j hj => ?_, fun j hj => ?_⟩
 ·rw [chN_fr N i a b j hi]; exact h.wf j (by rw [chN_len] at hj; exact hj)
 ·rw [chN_len] at hj
  rw [gN_ch N i a b j hi]
  split
  ·exact ha
  ·exact h.t1 j hj
 ·rw [chN_len] at hj
  rw [gN_ch N i a b j hi]
  split
  ·exact hb
  ·exact h.t2 j hj
 ·rw [chN_len] at hj
  unfold tr
  rw [trF_ch hi]
  exact h.d j hj
theorem eqPr (cst : Bool) (a b c d : Int) : q0 64 cst (fv a b) (fv c d) = @Bool.rec (fun _ => Option Bool) (some false) (@Bool.rec (fun _ => Option Bool) (some false) (some true) (b == d)) (a == c) := by kernel_rfl
theorem eqPr_b (cst : Bool) (a b c d : Nat) : q0 64 cst (fv (Int.ofNat a) (Int.ofNat b)) (fv (Int.ofNat c) (Int.ofNat d)) = some (decide ((c, d) = (a, b))) := by
 rw [eqPr]
 by_cases h1 : a = c
 ·subst h1
  rw [beq_self_eq_true]
  by_cases h2 : b = d
  ·subst h2
   rw [beq_self_eq_true, decide_eq_true rfl]
  ·rw [show (Int.ofNat b == Int.ofNat d) = false from beq_eq_false_iff_ne.2 fun z => h2 (Int.ofNat.inj z), decide_eq_false fun z => h2 (Prod.mk.inj z).2.symm]
 ·rw [show (Int.ofNat a == Int.ofNat c) = false from beq_eq_false_iff_ne.2 fun z => h1 (Int.ofNat.inj z), decide_eq_false fun z => h1 (Prod.mk.inj z).1.symm]
abbrev hpC (N : List Lk) (H : List Nat) (lo hi hand : Nat) (t : Nat × Nat) : Tr AObj :=
 .node (.cells (.node (nkA N) (.node (nl (zl H)) .nil .nil) .nil) 2 34) (.node (.cells (.node (nv lo) .nil .nil) 1 3) (.node (.cells (.node (nv hand) .nil .nil) 1 3) (.node .hole (.node .hole (.nil) (.nil)) (.nil)) (.node .hole (.nil) (.nil))) (.node .hole (.node .hole (.nil) (.nil)) (.node (.cells (.node (nv t.1) (.node (nv t.2) .nil .nil) .nil) 2 144) (.nil) (.nil)))) (.node (.cells (.node (nv hi) .nil .nil) 1 3) (.node (.cells (.node (nv t.1) (.node (nv t.2) .nil .nil) .nil) 2 36) (.node .hole (.node (.cells (.node (.func (.func 112) [] [.ptr 12 0, .ptr 3 0, .ptr 13 0, .ptr 0 0, .ptr 1 0, .ptr 2 0, .ptr 16 0]) .nil .nil) 1 153) (.nil) (.nil)) (.nil)) (.node (.cells (.node (nkA N) (.node (nl (zl H)) .nil .nil) (.node (pv (zp (rtL N (N.length + 1)))) .nil .nil)) 3 138) (.nil) (.nil))) (.node .hole (.node .hole (.nil) (.nil)) (.node .hole (.nil) (.nil))))
theorem hpC_end (N : List Lk) (H : List Nat) (lo hi hand : Nat) (t : Nat × Nat) : HEnd (hpC N H lo hi hand t) 17 := appT_end [(.cells (.node (nkA N) (.node (nl (zl H)) .nil .nil) .nil) 2 34), (.cells (.node (nv lo) .nil .nil) 1 3), (.cells (.node (nv hi) .nil .nil) 1 3), (.cells (.node (nv hand) .nil .nil) 1 3), (.cells (.node (nv t.1) (.node (nv t.2) .nil .nil) .nil) 2 36), .hole, .hole, .hole, .hole, .hole, .hole, .hole, (.cells (.node (nkA N) (.node (nl (zl H)) .nil .nil) (.node (pv (zp (rtL N (N.length + 1)))) .nil .nil)) 3 138), (.cells (.node (nv t.1) (.node (nv t.2) .nil .nil) .nil) 2 144), .hole, .hole, (.cells (.node (.func (.func 112) [] [.ptr 12 0, .ptr 3 0, .ptr 13 0, .ptr 0 0, .ptr 1 0, .ptr 2 0, .ptr 16 0]) .nil .nil) 1 153)] 0 .nil HEnd_nil
abbrev scA (now : List Lk) (H : List Nat) (fr k : Nat) : List AV := [.agg [nkA now, nl (zl H)], nv fr, nv k, .ptr 12 0, .ptr 3 0, .ptr 13 0, .ptr 0 0, .ptr 1 0, .ptr 2 0, .ptr 16 0]
theorem hpC_bd (N : List Lk) (H : List Nat) (lo hi hand : Nat) (t : Nat × Nat) : ObBd 17 (hpC N H lo hi hand t) 17 := by
 have lN := lks_no (cL N)
 have lM := ivs_no (zl H)
 have lR := flat_no (zp (rtL N (N.length + 1)))
 repeat' (first | exact trivial | exact Nat.zero_le _ | exact bdl_no lN | exact bdl_no lM | exact bdl_no lR | exact Nat.le_of_ble_eq_true rfl | apply And.intro | exact Nat.max_le.2 ⟨Nat.zero_le _, bdl_no lN⟩)
theorem search0_h {N now : List Lk} (h : okN N) (h2 : okN now) (h1 : 1 ≤ N.length) (hN : N.length ≤ 5) (hl : now.length = N.length) {H : List Nat} (hH : hdN N.length H) (lo hi : Nat) {hand : Nat} (hh : hand < H.length) {t : Nat × Nat} (t1 : t.1 ≤ 50000) (t2 : t.2 ≤ 50000) (fr : Nat) :
  HFun prog 112 (scA now H fr 0) (hv (hpC N H lo hi hand t)) 17 (srV (sr0 N H hand t now fr)) (hv (hpC N H lo hi hand t)) := by
 have lN := lks_no (cL N)
 have lN2 := lks_no (cL now)
 have lM := ivs_no (zl H)
 have lR := flat_no (zp (rtL N (N.length + 1)))
 have pw := with_pure h2 (by omega) (by omega) (zl H)
 have ps := suits_pure h h2 hN hl hH hh t1 t2
 have lR2 := flat_no (zp (rtL now (now.length + 1)))
 have hb := hpC_bd N H lo hi hand t
 unfold wiV at pw ps
 have ev : srV (sr0 N H hand t now fr) = .tup [.nils, .bool (decide (suP N now H hand t))] := by
  unfold sr0
  by_cases e : suP N now H hand t
  ·rw [if_pos e, decide_eq_true e]; rfl
  ·rw [if_neg e, decide_eq_false e]; rfl
 rw [ev]
 refine hfun_sym hE rfl (hpC_end N H lo hi hand t) (Nat.max_le.2 ⟨Nat.max_le.2 ⟨Nat.max_le.2 ⟨Nat.zero_le _, bdl_no lN2⟩, Nat.max_le.2 ⟨Nat.max_le.2 ⟨Nat.zero_le _, bdl_no lM⟩, Nat.zero_le _⟩⟩, Nat.le_of_ble_eq_true rfl⟩) (Nat.zero_le _) hb hb fun S q pc hS hq hC hE => ?_
 conv => whnf
 refine sym_pure hC (pw) ?_
 conv => whnf
 refine sym_pure hC (ps) ?_
 conv => whnf
 refine sym_drawn hS (by kernel_rfl) ?_
 conv => whnf
 exact ⟨_, rfl, WkV.refl _, rfl, rfl, rfl, rfl, rfl, rfl, rfl, rfl, rfl, rfl, rfl, rfl, rfl, rfl, rfl, rfl, rfl, trivial⟩
end
end Go.Abs.Seat
