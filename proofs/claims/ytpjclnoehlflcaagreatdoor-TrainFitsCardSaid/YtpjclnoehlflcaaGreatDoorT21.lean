/-
  The document's chain.
-/
import Derived.Test.YtpjclnoehlflcaaGreatDoorT20
/-! The document's chain. -/
namespace Go.Abs.Seat
open Go Go.Abs Go.Proofs.Tryz
set_option maxRecDepth 100000
set_option maxHeartbeats 4000000
attribute [local irreducible] IntKind.wrap pEq

theorem ech_fuel : ∀ (d s n : Nat), d < s → ech s n d = ech (d + 1) n d := by
  intro d
  induction d using Nat.strongRecOn with
  | ind d ih =>
    intro s n hs
    cases s with
    | zero => omega
    | succ s =>
      rw [ech, ech]
      by_cases h : d = 0
      · rw [if_pos h, if_pos h]
      · rw [if_neg h, if_neg h]
        have hr := Nat.mod_lt n (show 0 < d by omega)
        rw [ih (n % d) hr s d (by omega), ih (n % d) hr d d hr]

theorem ech_step {n d : Nat} (hd : 1 ≤ d) : ech (d + 1) n d = n / d :: ech (n % d + 1) d (n % d) := by
  have hr := Nat.mod_lt n hd
  rw [ech, if_neg (by omega), ech_fuel (n % d) d d hr]
theorem ech_zero (n : Nat) : ech 1 n 0 = [] := by rw [ech, if_pos rfl]

theorem wk_own {xs : List AV} {n m : Nat} {own : Own} (e : n = m) : Wk (.lst xs n own) (.lst xs m .no) := by
  subst e
  intro g w u hu
  simp only [VRel] at hu ⊢
  obtain ⟨b, off, cap, h1, h2, h3, h4, _⟩ := hu
  exact ⟨b, off, cap, h1, h2, h3, h4, trivial⟩

/-- What is appended: a list. -/
theorem pSrc_eq {T : Tr TypeInfo} {tx e : TypeId} {sz : Nat} {x : AV} {k : List AV → Nat → Plan} {ys l : List AV} {m : Nat} {own : Own} (hT : tyU T tx = some (.slice e)) (hx : x = .lst ys m own) (ht : takeN (m * sz) ys = some l) : pSrc T tx sz x k = .chk (allCells l) (k l m) := by
  subst hx
  unfold pSrc
  simp only [hT, ht]
theorem allCells_ivs : ∀ l : List Int, allCells (ivs l) = true
  | [] => rfl
  | _ :: r => allCells_ivs r
theorem takeN_all : ∀ l : List AV, takeN l.length l = some l
  | [] => rfl
  | x :: r => by rw [List.length_cons, takeN, takeN_all r]
theorem takeN_ivs (l : List Int) : takeN (l.length * 1) (ivs l) = some (ivs l) := by
  have := takeN_all (ivs l)
  rwa [ivs_len, ← Nat.mul_one l.length] at this

theorem ech_len : ∀ (d n : Nat), (ech (d + 1) n d).length ≤ d := by
  intro d
  induction d using Nat.strongRecOn with
  | ind d ih =>
    intro n
    by_cases h : 1 ≤ d
    · have hr := Nat.mod_lt n h
      rw [ech_step h, List.length_cons]
      have := ih (n % d) hr d
      omega
    · have : d = 0 := by omega
      subst this
      rw [ech_zero]; exact Nat.le_refl 0

end Go.Abs.Seat
