/-
  The best changes, as the document finds them.
-/
import Derived.Test.YtikikanopganaaaGreatDoorB31
import Derived.Test.YtikikanopganaaaGreatDoorU12
/-! The best changes, as the document finds them. -/
namespace Go.Abs.Seat
noncomputable section
open Go Go.Abs Go.Proofs.Tryz
set_option maxRecDepth 100000
set_option maxHeartbeats 40000000
attribute [local irreducible] IntKind.wrap pEq

theorem cgB_mem {N : List Lk} {i a lo : Nat} {x : Lk} : ∀ {j : Nat}, x ∈ cgB N i a lo j ↔ x.1 = i ∧ x.2.1 = a ∧ (lo ≤ x.2.2 ∧ x.2.2 < lo + j) ∧ (gN N i).2 ≠ x.2
 | 0 => by simp only [cgB, List.not_mem_nil, false_iff]; omega
 |j + 1 => by
  rw [cgB, List.mem_append, cgB_mem]
  obtain ⟨x1, x2, x3⟩ := x
  constructor
  ·rintro (h | h)
   ·exact ⟨h.1, h.2.1, ⟨h.2.2.1.1, by have := h.2.2.1.2; omega⟩, h.2.2.2⟩
   ·split at h
    ·cases h
    ·rename_i hn
     have e := List.mem_singleton.1 h
     cases e
     exact ⟨rfl, rfl, ⟨by show lo ≤ lo + j; omega, by show lo + j < lo + (j + 1); omega⟩, hn⟩
  ·rintro ⟨h1, h2, h3, h4⟩
   have h1 : x1 = i := h1
   have h2 : x2 = a := h2
   have h3 : lo ≤ x3 ∧ x3 < lo + (j + 1) := h3
   subst h1 h2
   by_cases e : x3 = lo + j
   ·subst e
    right
    rw [if_neg h4]
    exact List.mem_singleton.2 rfl
   ·exact .inl ⟨rfl, rfl, ⟨h3.1, by show x3 < lo + j; omega⟩, h4⟩
theorem cgA_mem {N : List Lk} {i lo w : Nat} {x : Lk} : ∀ {s : Nat}, x ∈ cgA N i lo w s ↔ x.1 = i ∧ (lo ≤ x.2.1 ∧ x.2.1 < lo + s) ∧ (lo ≤ x.2.2 ∧ x.2.2 < lo + w) ∧ (gN N i).2 ≠ x.2
 | 0 => by simp only [cgA, List.not_mem_nil, false_iff]; omega
 |s + 1 => by
  rw [cgA, List.mem_append, cgA_mem, cgB_mem]
  constructor
  ·rintro (h | h)
   ·exact ⟨h.1, ⟨h.2.1.1, by have := h.2.1.2; omega⟩, h.2.2⟩
   ·exact ⟨h.1, ⟨by omega, by omega⟩, h.2.2⟩
  ·rintro ⟨h1, h2, h3⟩
   by_cases e : x.2.1 = lo + s
   ·exact .inr ⟨h1, e, h3⟩
   ·exact .inl ⟨h1, ⟨h2.1, by omega⟩, h3⟩
theorem cgF_mem {N : List Lk} {lo w : Nat} {x : Lk} : ∀ {k : Nat}, x ∈ cgF N lo w k ↔ x.1 < k ∧ (lo ≤ x.2.1 ∧ x.2.1 < lo + w) ∧ (lo ≤ x.2.2 ∧ x.2.2 < lo + w) ∧ (gN N x.1).2 ≠ x.2
 | 0 => by simp only [cgF, List.not_mem_nil, false_iff]; omega
 |k + 1 => by
  rw [cgF, List.mem_append, cgF_mem, cgA_mem]
  constructor
  ·rintro (h | h)
   ·exact ⟨by omega, h.2⟩
   ·exact ⟨by omega, h.2.1, h.2.2.1, by rw [h.1]; exact h.2.2.2⟩
  ·rintro ⟨h1, h2, h3, h4⟩
   by_cases e : x.1 = k
   ·exact .inr ⟨e, h2, h3, by rw [← e]; exact h4⟩
   ·exact .inl ⟨by omega, h2, h3, h4⟩
abbrev chX (N : List Lk) (x : Lk) : List Lk := chN N x.1 x.2.1 x.2.2
structure cgK (N : List Lk) (x : Lk) : Prop where
 i : x.1 < N.length
 a : tN x.2.1
 b : tN x.2.2
theorem cgK.pc {N : List Lk} {H : List Nat} (h : pcN N H) {x : Lk} (hx : cgK N x) : pcN (chX N x) H := h.len (h.ok.ch hx.i hx.a hx.b) (chN_len _ _ _ _)
theorem cgK.of {N : List Lk} {x y : Lk} (hx : cgK N x) : cgK (chX N y) x := ⟨by rw [chN_len]; exact hx.i, hx.a, hx.b⟩
def d1F (N : List Lk) (H : List Nat) (hand : Nat) (t : Nat × Nat) (l : List Lk) (i : Nat) : Option (List Lk) := if suP N (chX N (gN l i)) H hand t then some [gN l i] else none
def d2G (N : List Lk) (H : List Nat) (hand : Nat) (t : Nat × Nat) (l : List Lk) (i k : Nat) : Option (List Lk) := if (gN l i).1 < (gN l k).1 ∧ suP N (chX (chX N (gN l i)) (gN l k)) H hand t then some [gN l i, gN l k] else none
def d2F (N : List Lk) (H : List Nat) (hand : Nat) (t : Nat × Nat) (l : List Lk) (i : Nat) : Option (List Lk) := fstO (d2G N H hand t l i) (i + 1) (l.length - (i + 1))
def chD (N : List Lk) (H : List Nat) (hand : Nat) (t : Nat × Nat) (l : List Lk) : Option (List Lk) :=
 orE (sr0 N H hand t N 0) (orE (fstO (d1F N H hand t l) 0 l.length) (fstO (d2F N H hand t l) 0 l.length))
end
end Go.Abs.Seat
