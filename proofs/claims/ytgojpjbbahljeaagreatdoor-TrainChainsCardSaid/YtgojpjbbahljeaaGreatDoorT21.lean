/-
  The document's chain.
-/
import Derived.Test.YtgojpjbbahljeaaGreatDoorT20
/-! The document's chain. -/
namespace Go.Abs.Seat
open Go Go.Abs Go.Proofs.Tryz
set_option maxRecDepth 100000
set_option maxHeartbeats 4000000
attribute [local irreducible] IntKind.wrap pEq

theorem ech_fuel : ∀ (d s n : Nat), d < s → ech s n d = ech (d + 1) n d := by
  intro d
  induction d using Nat.strongRecOn with
  | ind d ih =>
    intro s n hs
    cases s with
    | zero => omega
    | succ s =>
      rw [ech, ech]
      by_cases h : d = 0
      · rw [if_pos h, if_pos h]
      · rw [if_neg h, if_neg h]
        have hr := Nat.mod_lt n (show 0 < d by omega)
        rw [ih (n % d) hr s d (by omega), ih (n % d) hr d d hr]

theorem ech_step {n d : Nat} (hd : 1 ≤ d) : ech (d + 1) n d = n / d :: ech (n % d + 1) d (n % d) := by
  have hr := Nat.mod_lt n hd
  rw [ech, if_neg (by omega), ech_fuel (n % d) d d hr]
theorem ech_zero (n : Nat) : ech 1 n 0 = [] := by rw [ech, if_pos rfl]

theorem wk_own {xs : List AV} {n m : Nat} {own : Own} (e : n = m) : Wk (.lst xs n own) (.lst xs m .no) := by
  subst e
  intro g w u hu
  simp only [VRel] at hu ⊢
  obtain ⟨b, off, cap, h1, h2, h3, h4, _⟩ := hu
  exact ⟨b, off, cap, h1, h2, h3, h4, trivial⟩

/-- What is appended: a list. -/
theorem pSrc_eq {T : Tr TypeInfo} {tx e : TypeId} {sz : Nat} {x : AV} {k : List AV → Nat → Plan} {ys l : List AV} {m : Nat} {own : Own} (hT : tyU T tx = some (.slice e)) (hx : x = .lst ys m own) (ht : takeN (m * sz) ys = some l) : pSrc T tx sz x k = .chk (allCells l) (k l m) := by
  subst hx
  unfold pSrc
  simp only [hT, ht]
theorem allCells_ivs : ∀ l : List Int, allCells (ivs l) = true
  | [] => rfl
  | _ :: r => allCells_ivs r
theorem takeN_all : ∀ l : List AV, takeN l.length l = some l
  | [] => rfl
  | x :: r => by rw [List.length_cons, takeN, takeN_all r]
theorem takeN_ivs (l : List Int) : takeN (l.length * 1) (ivs l) = some (ivs l) := by
  have := takeN_all (ivs l)
  rwa [ivs_len, ← Nat.mul_one l.length] at this

theorem ech_len : ∀ (d n : Nat), (ech (d + 1) n d).length ≤ d := by
  intro d
  induction d using Nat.strongRecOn with
  | ind d ih =>
    intro n
    by_cases h : 1 ≤ d
    · have hr := Nat.mod_lt n h
      rw [ech_step h, List.length_cons]
      have := ih (n % d) hr d
      omega
    · have : d = 0 := by omega
      subst this
      rw [ech_zero]; exact Nat.le_refl 0

theorem rChain_pure : ∀ (d n : Nat), n ≤ 50000 → 1 ≤ d → d ≤ 50000 → Pure prog 27 [fv (Int.ofNat n) (Int.ofNat d)] (nl (zl (ech (d + 1) n d))) := by
  intro d
  induction d using Nat.strongRecOn with
  | ind d ih =>
    intro n hn hd hd'
    have ln := ivs_no (zl (ech (d + 1) n d))
    have hr := Nat.mod_lt n hd
    by_cases h0 : n % d = 0
    · refine pure_sym hE rfl (by repeat' (first | exact trivial | assumption | exact flat_no _ | exact (fun _ h => nomatch h) | apply And.intro)) (by repeat' (first | exact trivial | assumption | exact flat_no _ | exact (fun _ h => nomatch h) | apply And.intro)) fun S q pc hS hq hC hE => ?_
      conv => whnf
      refine bool_true (ne0 hd) ?_
      conv => whnf
      refine bool_true (ne0 hd) ?_
      conv => whnf
      rw [tmodN, quoN (by omega)]
      rw [show (Int.ofNat (n % d) == 0) = true from eqN_t (b := 0) h0]
      conv => whnf
      rw [ech_step hd, h0, ech_zero]
      exact ⟨_, rfl, wk_own (xs := [nv (n / d)]) (n := 1) rfl⟩
    · have pr := ih (n % d) hr d hd' (by omega) (by omega)
      obtain ⟨x, r, hxr⟩ : ∃ x r, ech (n % d + 1) d (n % d) = x :: r := ⟨_, _, ech_step (by omega)⟩
      rw [hxr] at pr
      refine pure_sym hE rfl (by repeat' (first | exact trivial | assumption | exact flat_no _ | exact (fun _ h => nomatch h) | apply And.intro)) (by repeat' (first | exact trivial | assumption | exact flat_no _ | exact (fun _ h => nomatch h) | apply And.intro)) fun S q pc hS hq hC hE => ?_
      conv => whnf
      refine bool_true (ne0 hd) ?_
      conv => whnf
      refine bool_true (ne0 hd) ?_
      conv => whnf
      rw [tmodN, quoN (by omega)]
      rw [show (Int.ofNat (n % d) == 0) = false from eqN_f (b := 0) h0]
      conv => whnf
      refine bool_true (ne0 hd) ?_
      conv => whnf
      rw [tmodN]
      refine sym_pure hC (pr) ?_
      conv => whnf
      refine plan_as (pSrc_eq (e := 3) (ys := ivs (zl (x :: r))) (m := (zl (x :: r)).length) (own := .no) (l := ivs (zl (x :: r))) (by kernel_rfl) rfl (takeN_ivs _)) ?_
      conv => whnf
      have hlen := ech_len (n % d) d
      rw [hxr, List.length_cons] at hlen
      have hz := zl_len r
      refine bool_true (allCells_ivs (zl (x :: r))) ?_
      conv => whnf
      refine bool_true (decide_eq_true (show (0 + 1 + ((zl r).length + 1)) * 8 ≤ 140737488355328 by omega)) ?_
      conv => whnf
      refine bool_true (decide_eq_true (show 0 + 1 + ((zl r).length + 1) ≤ 9223372036854775807 by omega)) ?_
      conv => whnf
      refine sym_drawn hS (by kernel_rfl) ?_
      conv => whnf
      rw [ech_step hd, hxr]
      exact ⟨_, rfl, wk_own (xs := ivs (zl (n / d :: x :: r))) (by show 0 + 1 + ((zl r).length + 1) = (zl r).length + 1 + 1; omega)⟩
end Go.Abs.Seat
