/-
  Chains of fractions.
-/
import Derived.Test.YtpjclnoehlflcaaGreatDoorT18
import Derived.Test.YtpjclnoehlflcaaGreatDoorT11
/-! Chains of fractions. -/
namespace Go.Abs.Seat
open Go Go.Abs Go.Proofs.Tryz
set_option maxRecDepth 100000
set_option maxHeartbeats 4000000
attribute [local irreducible] IntKind.wrap pEq

/-- The chain of a fraction. -/
def ech : Nat → Nat → Nat → List Nat
  | 0, _, _ => []
  | s + 1, n, d => if d = 0 then [] else n / d :: ech s d (n % d)

theorem zl_app (l : List Nat) (q : Nat) : ivs (zl (l ++ [q])) = ivs (zl l) ++ [nv q] := by
  induction l with
  | nil => rfl
  | cons x l ih => simp only [List.cons_append, zl, List.map_cons, ivs]; exact congrArg _ ih
theorem app_ok (l : List Nat) (q c : Nat) : AV.lst (ivs (zl l) ++ [nv q]) (l.length + (0 + 1)) (.ch c) = .lst (ivs (zl (l ++ [q]))) (l ++ [q]).length (.ch c) := by
  rw [zl_app, List.length_append]; rfl
theorem app_ch (l : List Nat) (q : Nat) : AObj.chain (l.length + (0 + 1)) 1 3 = .chain (l ++ [q]).length 1 3 := by
  rw [List.length_append]; rfl
theorem lenIs_eq : ∀ (l : List AV), lenIs l l.length = true
  | [] => rfl
  | _ :: r => lenIs_eq r
theorem lenIs_zl (l : List Nat) : lenIs (ivs (zl l)) (l.length * 1) = true := by
  have := lenIs_eq (ivs (zl l))
  rw [ivs_len, zl_len] at this
  rw [Nat.mul_one]; exact this

theorem wkl_ivs : ∀ l : List Int, wkl (ivs l) = ivs l
  | [] => rfl
  | x :: r => by simp only [ivs, wkl, wk, wkl_ivs r]
theorem wk_zl (l : List Nat) (c : Nat) : Wk (.lst (ivs (zl l)) l.length (.ch c)) (nl (zl l)) := by
  have := Wk.wk (.lst (ivs (zl l)) l.length (.ch c))
  simp only [wk, wkl_ivs] at this
  rw [nl, zl_len]
  exact this
theorem wk_tup {x y : AV} {r : List AV} (h : Wk x y) : Wk (.tup (x :: r)) (.tup (y :: r)) := by
  intro g w u hu
  obtain ⟨vs, e, h1⟩ := hu
  obtain ⟨a, bs, e2, h2, h3⟩ := h1
  exact ⟨vs, e, a, bs, e2, h g w a h2, h3⟩

theorem chain_pure (n d : Nat) (hn : n ≤ 50000) (hd : 1 ≤ d ∧ d ≤ 50000) : Pure prog 56 [fv (Int.ofNat n) (Int.ofNat d)] (.tup [nl (zl (ech (d + 1) n d)), iv 0]) := by
  have ln := ivs_no (zl (ech (d + 1) n d))
  refine pure_sym hE rfl (by repeat' (first | exact trivial | assumption | exact flat_no _ | exact (fun _ h => nomatch h) | apply And.intro)) (by repeat' (first | exact trivial | assumption | exact flat_no _ | exact (fun _ h => nomatch h) | apply And.intro)) fun S q pc hS hq hC hE => ?_
  conv => whnf
  refine sym_pure hC (isFraction_pure _ _) ?_
  conv => whnf
  rw [decide_eq_true (isF_N hn hd.1 hd.2)]
  conv => whnf
  refine sym_drawn hS (by kernel_rfl) ?_
  conv => whnf
  refine sym_unroll hE hS ?_
  conv => whnf
  rw [show decide (Int.ofNat d > 0) = true from (pos0 _).2 hd.1]
  conv => whnf
  refine bool_true (ne0 hd.1) ?_
  conv => whnf
  refine bool_true (ne0 hd.1) ?_
  conv => whnf
  refine sym_drawn hS (by kernel_rfl) ?_
  conv => whnf
  rw [quoN (by omega), tmodN]
  refine sym_loop hE hS (A := List Nat × Nat × Nat) [] (fun (l, x, y) => [(4, .lst (ivs (zl l)) l.length (.ch 7)), (5, nv x), (6, nv y)]) (fun (l, x, y) => [(7, .chain l.length 1 3)]) (fun (l, x, y) => (x ≤ 50000 ∧ y ≤ 50000) ∧ l.length + y ≤ 50001 ∧ ∃ s, y < s ∧ ech (d + 1) n d = l ++ ech s x y) (fun (_, _, y) => y) ([n / d], d, n % d) rfl rfl ⟨rfl, rfl, rfl, rfl, by repeat' (first | exact trivial | exact rfl | exact Nat.zero_le _ | exact Nat.le_of_ble_eq_true rfl | exact bdl_no (by assumption) | exact bdl_no (flat_no _) | exact bdl_no (ivs_no _) | exact Nat.max_le.2 ⟨Nat.le_of_ble_eq_true rfl, bdl_no (ivs_no _)⟩ | apply And.intro), by repeat' (first | exact trivial | exact rfl | exact Nat.zero_le _ | exact Nat.le_of_ble_eq_true rfl | exact bdl_no (by assumption) | exact bdl_no (flat_no _) | exact bdl_no (ivs_no _) | exact Nat.max_le.2 ⟨Nat.le_of_ble_eq_true rfl, bdl_no (ivs_no _)⟩ | apply And.intro)⟩ ?_ ?_
  · have hr := Nat.mod_lt n hd.1
    refine ⟨⟨hd.2, by omega⟩, by simp only [List.length_cons, List.length_nil]; omega, d, hr, ?_⟩
    rw [ech, if_neg (by omega)]
    rfl
  rintro ⟨l, x, y⟩ ⟨hxy, hl, s, hs, he⟩
  conv => whnf
  by_cases hy : 0 < y
  · rw [show decide (Int.ofNat y > 0) = true from (pos0 _).2 hy]
    conv => whnf
    refine bool_true (ne0 hy) ?_
    conv => whnf
    refine bool_true (decide_eq_true (show (l.length + (0 + 1)) * 8 ≤ 140737488355328 by omega)) ?_
    conv => whnf
    refine bool_true (decide_eq_true (show l.length + (0 + 1) ≤ 9223372036854775807 by omega)) ?_
    conv => whnf
    refine bool_true (lenIs_zl l) ?_
    conv => whnf
    refine bool_true (decide_eq_true rfl) ?_
    conv => whnf
    refine bool_true (ne0 hy) ?_
    conv => whnf
    refine sym_drawn hS (by kernel_rfl) ?_
    conv => whnf
    rw [quoN (by omega), tmodN]
    cases s with
    | zero => omega
    | succ s =>
      have e2 : ech (s + 1) x y = x / y :: ech s y (x % y) := by rw [ech, if_neg (by omega)]
      rw [e2] at he
      have hr := Nat.mod_lt x hy
      exact ⟨(l ++ [x / y], y, x % y), ⟨⟨hxy.2, by omega⟩, by simp only [List.length_append, List.length_cons, List.length_nil]; omega, s, by omega, by rw [he, List.append_assoc]; rfl⟩, hr, ⟨rfl, rfl, rfl, rfl, by repeat' (first | exact trivial | exact rfl | exact Nat.zero_le _ | exact congrArg some (app_ok l (x / y) 7) | exact app_ch l (x / y) | exact Nat.le_of_ble_eq_true rfl | exact bdl_no (by assumption) | exact bdl_no (flat_no _) | exact bdl_no (ivs_no _) | exact Nat.max_le.2 ⟨Nat.le_of_ble_eq_true rfl, bdl_no (ivs_no _)⟩ | apply And.intro), by repeat' (first | exact trivial | exact rfl | exact Nat.zero_le _ | exact congrArg some (app_ok l (x / y) 7) | exact app_ch l (x / y) | exact Nat.le_of_ble_eq_true rfl | exact bdl_no (by assumption) | exact bdl_no (flat_no _) | exact bdl_no (ivs_no _) | exact Nat.max_le.2 ⟨Nat.le_of_ble_eq_true rfl, bdl_no (ivs_no _)⟩ | apply And.intro)⟩⟩
  · rw [show decide (Int.ofNat y > 0) = false from Bool.eq_false_iff.2 fun k => hy ((pos0 _).1 k)]
    conv => whnf
    have hy0 : y = 0 := by omega
    subst hy0
    have he : ech (d + 1) n d = l := by
      rw [he]
      cases s with
      | zero => omega
      | succ s => rw [ech, if_pos rfl, List.append_nil]
    rw [he]
    exact ⟨_, rfl, wk_tup (wk_zl l 7)⟩
end Go.Abs.Seat
