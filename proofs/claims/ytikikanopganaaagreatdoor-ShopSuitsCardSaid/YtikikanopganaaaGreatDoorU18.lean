/-
  The best changes are the first ones of the fewest: plain.
  Changes that are allowed, in numbers: plain.
  Small closed calls of known.
  The closed calls of Changes and Adds, of the general ones.
  The same, over the example's piece as it is laid.
-/
import Derived.Test.YtikikanopganaaaGreatDoorB36
import Derived.Test.YtikikanopganaaaGreatDoorU6
import Derived.Test.YtikikanopganaaaGreatDoorU12
import Derived.Test.YtikikanopganaaaGreatDoorB7
/-! The best changes are the first ones of the fewest: plain. -/
namespace Go.Abs.Seat
noncomputable section
open Go Go.Abs Go.Proofs.Tryz
set_option maxRecDepth 100000
set_option maxHeartbeats 4000000

theorem cgB_ltK (N : List Lk) (f a lo : Nat) : ∀ j, List.Pairwise ltK (cgB N f a lo j)
 | 0 => List.Pairwise.nil
 |j + 1 => by
  rw [cgB, List.pairwise_append]
  refine ⟨cgB_ltK N f a lo j, ?_, fun x hx y hy => ?_⟩
  ·split
   ·exact List.Pairwise.nil
   ·exact List.pairwise_singleton _ _
  ·have h1 := cgB_mem.1 hx
   split at hy
   ·cases hy
   ·obtain rfl := List.mem_singleton.1 hy
    exact .inr ⟨h1.1, .inr ⟨h1.2.1, h1.2.2.1.2⟩⟩
theorem cgA_ltK (N : List Lk) (f lo w : Nat) : ∀ s, List.Pairwise ltK (cgA N f lo w s)
 | 0 => List.Pairwise.nil
 |s + 1 => by
  rw [cgA, List.pairwise_append]
  refine ⟨cgA_ltK N f lo w s, cgB_ltK _ _ _ _ _, fun x hx y hy => ?_⟩
  have h1 := cgA_mem.1 hx
  have h2 := cgB_mem.1 hy
  exact .inr ⟨by omega, .inl (by omega)⟩
theorem cgF_ltK (N : List Lk) (lo w : Nat) : ∀ k, List.Pairwise ltK (cgF N lo w k)
 | 0 => List.Pairwise.nil
 |k + 1 => by
  rw [cgF, List.pairwise_append]
  refine ⟨cgF_ltK N lo w k, cgA_ltK _ _ _ _ _, fun x hx y hy => ?_⟩
  have h1 := cgF_mem.1 hx
  have h2 := cgA_mem.1 hy
  exact .inl (by omega)
theorem pw_at {l : List Lk} (h : List.Pairwise ltK l) {i j : Nat} (hij : i < j) (hj : j < l.length) : ltK (gN l i) (gN l j) := by
 have := List.pairwise_iff_getElem.1 h i j (by omega) hj hij
 rw [show gN l i = l[i] by simp [gN, List.getD, show i < l.length by omega], show gN l j = l[j] by simp [gN, List.getD, hj]]
 exact this
theorem mem_at {l : List Lk} {x : Lk} (h : x ∈ l) : ∃ i, i < l.length ∧ gN l i = x := by
 obtain ⟨i, hi, e⟩ := List.getElem_of_mem h
 exact ⟨i, hi, by rw [← e]; simp [gN, List.getD, hi]⟩
theorem fstO_first {α : Type} {f : Nat → Option α} {x : α} : ∀ {n k : Nat}, fstO f k n = some x → ∃ j, k ≤ j ∧ j < k + n ∧ f j = some x ∧ ∀ m, k ≤ m → m < j → f m = none
 | 0, _, h => by cases h
 |n + 1, k, h => by
  rw [fstO] at h
  cases e : f k with
  |some y =>
   rw [e] at h
   exact ⟨k, Nat.le_refl _, by omega, by rw [e]; exact h, fun m h1 h2 => by omega⟩
  |none =>
   rw [e] at h
   obtain ⟨j, h1, h2, h3, h4⟩ := fstO_first h
   refine ⟨j, by omega, by omega, h3, fun m m1 m2 => ?_⟩
   by_cases em : m = k
   ·subst em; exact e
   ·exact h4 m (by omega) m2
def inA (A l : List Lk) : Prop := l = [] ∨ (∃ c, c ∈ A ∧ l = [c]) ∨ ∃ c e, c ∈ A ∧ e ∈ A ∧ c.1 < e.1 ∧ l = [c, e]
theorem d1_some {N : List Lk} {H : List Nat} {hand : Nat} {t : Nat × Nat} {A l : List Lk} {i : Nat} (h : d1F N H hand t A i = some l) : l = [gN A i] ∧ suP N (chX N (gN A i)) H hand t := by
 unfold d1F at h
 split at h
 ·rename_i k; injection h with h; exact ⟨h.symm, k⟩
 ·cases h
theorem d2_some {N : List Lk} {H : List Nat} {hand : Nat} {t : Nat × Nat} {A l : List Lk} {i k : Nat} (h : d2G N H hand t A i k = some l) : l = [gN A i, gN A k] ∧ (gN A i).1 < (gN A k).1 ∧ suP N (chX (chX N (gN A i)) (gN A k)) H hand t := by
 unfold d2G at h
 split at h
 ·rename_i q; injection h with h; exact ⟨h.symm, q⟩
 ·cases h
theorem chD_ok {N : List Lk} {H : List Nat} {hand : Nat} {t : Nat × Nat} {A l : List Lk} (h : chD N H hand t A = some l) : inA A l ∧ suP N (chA N l) H hand t := by
 unfold chD at h
 cases e0 : sr0 N H hand t N 0 with
 |some x =>
  rw [e0] at h
  injection h with h
  subst h
  unfold sr0 at e0
  split at e0
  ·rename_i k; injection e0 with e0; subst e0; exact ⟨.inl rfl, k⟩
  ·cases e0
 |none =>
  rw [e0] at h
  cases e1 : fstO (d1F N H hand t A) 0 A.length with
  |some x =>
   rw [e1] at h
   injection h with h
   subst h
   obtain ⟨j, _, hj, hf, _⟩ := fstO_first e1
   obtain ⟨rfl, k⟩ := d1_some hf
   exact ⟨.inr (.inl ⟨_, gN_mem A (by omega), rfl⟩), k⟩
  |none =>
   rw [e1] at h
   obtain ⟨j, _, hj, hf, _⟩ := fstO_first (show fstO (d2F N H hand t A) 0 A.length = some l from h)
   obtain ⟨m, _, hm, hg, _⟩ := fstO_first hf
   obtain ⟨rfl, k1, k2⟩ := d2_some hg
   exact ⟨.inr (.inr ⟨_, _, gN_mem A (by omega), gN_mem A (by omega), k1, rfl⟩), k2⟩
theorem soon_one {A : List Lk} (hp : List.Pairwise ltK A) {i j : Nat} (hij : i ≤ j) (hj : j < A.length) : soonB [gN A j] [gN A i] = false := by
 rw [soonB]
 split
 ·rfl
 ·rename_i hne
  have : i ≠ j := fun e => hne (by rw [e])
  exact decide_eq_false (ltK_as (pw_at hp (by omega) hj))
theorem chD_min {N : List Lk} {H : List Nat} {hand : Nat} {t : Nat × Nat} {A : List Lk} (hp : List.Pairwise ltK A) {o : List Lk} (ho : inA A o) (hs : suP N (chA N o) H hand t) : ∃ l, chD N H hand t A = some l ∧ (l.length < o.length ∨ l.length = o.length ∧ soonB o l = false) := by
 cases e0 : sr0 N H hand t N 0 with
 |some x =>
  have hx : x = [] := by
   unfold sr0 at e0
   split at e0
   ·injection e0 with e0; exact e0.symm
   ·cases e0
  subst hx
  refine ⟨[], by unfold chD; rw [e0]; rfl, ?_⟩
  rcases o with _ | ⟨c, r⟩
  ·exact .inr ⟨rfl, rfl⟩
  ·exact .inl (Nat.succ_pos _)
 |none =>
  have hD : chD N H hand t A = orE (fstO (d1F N H hand t A) 0 A.length) (fstO (d2F N H hand t A) 0 A.length) := by unfold chD; rw [e0]; rfl
  rw [hD]
  rcases ho with rfl | ⟨c, hc, rfl⟩ | ⟨c, e, hc, he, hce, rfl⟩
  ·unfold sr0 at e0
   split at e0
   ·cases e0
   ·rename_i k; exact absurd hs k
  ·obtain ⟨i1, hi1, rfl⟩ := mem_at hc
   have f1 : d1F N H hand t A i1 = some [gN A i1] := by unfold d1F; exact if_pos hs
   obtain ⟨x, hx⟩ := fstO_is.2 ⟨i1, _, Nat.zero_le _, show i1 < 0 + A.length by omega, f1⟩
   obtain ⟨j, _, hj, hf, hb⟩ := fstO_first hx
   obtain ⟨rfl, _⟩ := d1_some hf
   rw [hx]
   refine ⟨_, rfl, .inr ⟨rfl, soon_one hp ?_ hi1⟩⟩
   apply Nat.le_of_not_lt
   intro k
   have := hb i1 (Nat.zero_le _) k
   rw [f1] at this; cases this
  ·obtain ⟨i1, hi1, rfl⟩ := mem_at hc
   obtain ⟨k1, hk1, rfl⟩ := mem_at he
   have hik : i1 < k1 := by
    apply Nat.lt_of_not_le
    intro q
    by_cases eq : k1 = i1
    ·rw [eq] at hce; exact absurd hce (Nat.lt_irrefl _)
    ·have := pw_at hp (show k1 < i1 by omega) hi1
     exact ltK_as this (.inl hce)
   have f2 : d2G N H hand t A i1 k1 = some [gN A i1, gN A k1] := by unfold d2G; exact if_pos ⟨hce, hs⟩
   obtain ⟨y, hy⟩ := fstO_is.2 ⟨k1, _, show i1 + 1 ≤ k1 from hik, show k1 < i1 + 1 + (A.length - (i1 + 1)) by omega, f2⟩
   have hy : d2F N H hand t A i1 = some y := hy
   cases e1 : fstO (d1F N H hand t A) 0 A.length with
   |some x =>
    obtain ⟨j, _, hj, hf, hb⟩ := fstO_first e1
    obtain ⟨rfl, _⟩ := d1_some hf
    exact ⟨_, rfl, .inl (Nat.lt_succ_self 1)⟩
   |none =>
    obtain ⟨x, hx⟩ := fstO_is.2 ⟨i1, _, Nat.zero_le _, show i1 < 0 + A.length by omega, hy⟩
    obtain ⟨i, _, hi, hf, hb⟩ := fstO_first hx
    obtain ⟨k, hk0, hk, hg, hgb⟩ := fstO_first hf
    obtain ⟨rfl, q1, q2⟩ := d2_some hg
    rw [show fstO (d2F N H hand t A) 0 A.length = some [gN A i, gN A k] from hx]
    refine ⟨_, rfl, .inr ⟨rfl, ?_⟩⟩
    have hii : i ≤ i1 := by
     apply Nat.le_of_not_lt
     intro z
     have := hb i1 (Nat.zero_le _) z
     rw [hy] at this; cases this
    by_cases ei : i = i1
    ·subst ei
     rw [soonB, if_pos rfl]
     refine soon_one hp ?_ hk1
     apply Nat.le_of_not_lt
     intro z
     have := hgb k1 hik z
     rw [f2] at this; cases this
    ·have lt := pw_at hp (show i < i1 by omega) hi1
     rw [soonB, if_neg (fun z => by rw [z] at lt; exact ltK_as lt lt)]
     exact decide_eq_false (ltK_as lt)
end
end Go.Abs.Seat

/-! Changes that are allowed, in numbers: plain. -/
namespace Go.Abs.Seat
noncomputable section
open Go Go.Abs Go.Proofs.Tryz
set_option maxRecDepth 100000
set_option maxHeartbeats 4000000

theorem cgOk_n {N : List Lk} {lo hi : Nat} (hlo : 4 ≤ lo) (hhi : hi ≤ 60) {x : Lk} (hx : x ∈ cgF N lo (hi + 1 - lo) N.length) : cgOk N (Int.ofNat x.1) (Int.ofNat x.2.1) (Int.ofNat x.2.2) ∧ (Int.ofNat lo ≤ Int.ofNat x.2.1 ∧ Int.ofNat x.2.1 ≤ Int.ofNat hi) ∧ Int.ofNat lo ≤ Int.ofNat x.2.2 ∧ Int.ofNat x.2.2 ≤ Int.ofNat hi := by
 have m := cgF_mem.1 hx
 refine ⟨⟨⟨Int.natCast_nonneg _, Int.ofNat_lt.2 m.1⟩, ⟨tN_i ⟨by omega, by omega⟩, tN_i ⟨by omega, by omega⟩⟩, fun z => m.2.2.2 ?_⟩, ⟨Int.ofNat_le.2 m.2.1.1, Int.ofNat_le.2 (by omega)⟩, Int.ofNat_le.2 m.2.2.1.1, Int.ofNat_le.2 (by omega)⟩
 exact Prod.ext (Int.ofNat.inj z.1).symm (Int.ofNat.inj z.2).symm
theorem cgOk_of {N : List Lk} {lo hi : Nat} {i a b : Int} (h : cgOk N i a b) (ha : Int.ofNat lo ≤ a ∧ a ≤ Int.ofNat hi) (hb : Int.ofNat lo ≤ b ∧ b ≤ Int.ofNat hi) : ∃ x : Lk, x ∈ cgF N lo (hi + 1 - lo) N.length ∧ (i, a, b) = cK x := by
 obtain ⟨i, rfl, _⟩ := int_nat (m := (N.length : Int)) (a := i) ⟨h.1.1, by have := h.1.2; omega⟩
 have h0 : ∀ z : Int, Int.ofNat lo ≤ z → 0 ≤ z := fun z hz => Int.le_trans (Int.natCast_nonneg lo) hz
 obtain ⟨a, rfl⟩ : ∃ n : Nat, a = Int.ofNat n := ⟨a.toNat, (toN (h0 a ha.1)).symm⟩
 obtain ⟨b, rfl⟩ : ∃ n : Nat, b = Int.ofNat n := ⟨b.toNat, (toN (h0 b hb.1)).symm⟩
 have k1 := Int.ofNat_le.1 ha.1
 have k2 := Int.ofNat_le.1 ha.2
 have k3 := Int.ofNat_le.1 hb.1
 have k4 := Int.ofNat_le.1 hb.2
 refine ⟨(i, a, b), cgF_mem.2 ⟨Int.ofNat_lt.1 h.1.2, ⟨k1, by show a < lo + (hi + 1 - lo); omega⟩, ⟨k3, by show b < lo + (hi + 1 - lo); omega⟩, fun z => h.2.2 ⟨?_, ?_⟩⟩, rfl⟩
 ·exact congrArg Int.ofNat (congrArg Prod.fst z).symm
 ·exact congrArg Int.ofNat (congrArg Prod.snd z).symm
theorem csOk_of {N : List Lk} {lo hi : Nat} (hlo : 4 ≤ lo) (hhi : hi ≤ 60) {l : List Lk} (h : inA (cgF N lo (hi + 1 - lo) N.length) l) : csOk N (Int.ofNat lo) (Int.ofNat hi) (cL l) := by
 rcases h with rfl | ⟨c, hc, rfl⟩ | ⟨c, e, hc, he, hce, rfl⟩
 ·exact ⟨fun j hj => absurd hj (Nat.not_lt_zero _), Nat.zero_le _⟩
 ·have k := cgOk_n hlo hhi hc
  refine ⟨fun j hj => ?_, Nat.le_succ 1⟩
  obtain rfl : j = 0 := by have hj : j < 1 := hj; omega
  exact ⟨k.1, k.2.1, k.2.2, fun z => absurd z (Nat.lt_irrefl _)⟩
 ·have k := cgOk_n hlo hhi hc
  have k2 := cgOk_n hlo hhi he
  refine ⟨fun j hj => ?_, Nat.le_refl 2⟩
  have hj : j < 2 := hj
  by_cases ej : j = 0
  ·subst ej
   exact ⟨k.1, k.2.1, k.2.2, fun z => absurd z (Nat.lt_irrefl _)⟩
  ·obtain rfl : j = 1 := by omega
   exact ⟨k2.1, k2.2.1, k2.2.2, fun _ => Int.ofNat_lt.2 hce⟩
theorem csOk_inA {N : List Lk} {lo hi : Nat} {L : List LkI} (h : csOk N (Int.ofNat lo) (Int.ofNat hi) L) : ∃ o, L = cL o ∧ inA (cgF N lo (hi + 1 - lo) N.length) o := by
 match L, h with
 | [], _ => exact ⟨[], rfl, .inl rfl⟩
 | [(i, a, b)], h =>
  have k := h.1 0 (Nat.succ_pos _)
  obtain ⟨x, hx, e⟩ := cgOk_of k.1 k.2.1 k.2.2.1
  have e : (i, a, b) = cK x := e
  exact ⟨[x], by rw [e]; rfl, .inr (.inl ⟨x, hx, rfl⟩)⟩
 | [(i, a, b), (i2, a2, b2)], h =>
  have k := h.1 0 (Nat.succ_pos _)
  have k2 := h.1 1 (Nat.lt_succ_self 1)
  obtain ⟨x, hx, e⟩ := cgOk_of k.1 k.2.1 k.2.2.1
  obtain ⟨y, hy, e2⟩ := cgOk_of k2.1 k2.2.1 k2.2.2.1
  have e : (i, a, b) = cK x := e
  have e2 : (i2, a2, b2) = cK y := e2
  have lt := k2.2.2.2 (Nat.succ_pos _)
  have lt : i < i2 := lt
  refine ⟨[x, y], by rw [e, e2]; rfl, .inr (.inr ⟨x, y, hx, hy, ?_, rfl⟩)⟩
  have f1 : i = Int.ofNat x.1 := congrArg Prod.fst e
  have f2 : i2 = Int.ofNat y.1 := congrArg Prod.fst e2
  rw [f1, f2] at lt
  exact Int.ofNat_lt.1 lt
 | _ :: _ :: _ :: r, h =>
  have := h.2
  simp only [List.length_cons] at this
  omega
theorem inA_K {N : List Lk} {lo hi : Nat} (hlo : 4 ≤ lo) (hhi : hi ≤ 60) {l : List Lk} (h : inA (cgF N lo (hi + 1 - lo) N.length) l) : ∀ x, x ∈ l → cgK N x := by
 have key : ∀ x, x ∈ cgF N lo (hi + 1 - lo) N.length → cgK N x := fun x hx => by
  have m := cgF_mem.1 hx
  exact ⟨m.1, ⟨by omega, by omega⟩, ⟨by omega, by omega⟩⟩
 intro x hx
 rcases h with rfl | ⟨c, hc, rfl⟩ | ⟨c, e, hc, he, _, rfl⟩
 ·cases hx
 ·rw [List.mem_singleton.1 hx]; exact key c hc
 ·rcases List.mem_cons.1 hx with rfl | hx
  ·exact key _ hc
  ·rw [List.mem_singleton.1 hx]; exact key e he
theorem inA_len {A l : List Lk} (h : inA A l) : l.length ≤ 2 := by
 rcases h with rfl | ⟨c, hc, rfl⟩ | ⟨c, e, hc, he, _, rfl⟩
 ·exact Nat.zero_le _
 ·exact Nat.le_succ 1
 ·exact Nat.le_refl 2
theorem chR_ok {N : List Lk} {H : List Nat} {lo hi hand : Nat} {t : Nat × Nat} {l : List Lk} (h : chR N H lo hi hand t = some l) : inA (cgF N lo (hi + 1 - lo) N.length) l ∧ suP N (chA N l) H hand t := by
 rw [← chD_chR] at h
 exact chD_ok h
theorem chR_min {N : List Lk} {H : List Nat} {lo hi hand : Nat} {t : Nat × Nat} {o : List Lk} (ho : inA (cgF N lo (hi + 1 - lo) N.length) o) (hs : suP N (chA N o) H hand t) : ∃ l, chR N H lo hi hand t = some l ∧ (l.length < o.length ∨ l.length = o.length ∧ soonB o l = false) := by
 rw [← chD_chR]
 exact chD_min (cgF_ltK _ _ _ _) ho hs
end
end Go.Abs.Seat

/-! Small closed calls of known. -/
namespace Go.Abs.Seat
open Go Go.Abs Go.Proofs.Tryz
set_option maxRecDepth 100000

theorem gRates : GoalM noMu [] 21 [aP] (.tup [rows .no [1, 1, 1, 2, 1, 3, 3, 4] 4, .lst [.bool true, .bool false, .bool true, .bool true] 4 .no, i64 0]) := of_eq_true (by kernel_rfl)
theorem pRates : Pure prog 21 [aP] (.tup [rows .no [1, 1, 1, 2, 1, 3, 3, 4] 4, .lst [.bool true, .bool false, .bool true, .bool true] 4 .no, i64 0]) := gRates.pure MOK.nil (by kernel_rfl)

theorem gSpoils : GoalM muLinks [] 37 [aP, .agg [i64 0, i64 10, i64 30]] (.tup [ints .no [0, 1], i64 0]) := of_eq_true (by kernel_rfl)
theorem pSpoils : Pure prog 37 [aP, .agg [i64 0, i64 10, i64 30]] (.tup [ints .no [0, 1], i64 0]) := gSpoils.pure MOK.nil (by kernel_rfl)

theorem gSheets : GoalM noMu [] 57 [i64 100, i64 2, ints .full [10, 20, 15, 10]] (.tup [ints .no [0, 0, 0, 1], i64 2, i64 0]) := of_eq_true (by kernel_rfl)
theorem pSheets : Pure prog 57 [i64 100, i64 2, ints .full [10, 20, 15, 10]] (.tup [ints .no [0, 0, 0, 1], i64 2, i64 0]) := gSheets.pure MOK.nil (by kernel_rfl)

theorem gBalances : GoalM noMu [] 71 [i64 3, aE] (.tup [ints .no [-9, 6, 3], i64 0]) := of_eq_true (by kernel_rfl)
theorem pBalances : Pure prog 71 [i64 3, aE] (.tup [ints .no [-9, 6, 3], i64 0]) := gBalances.pure MOK.nil (by kernel_rfl)

theorem gSettle : GoalM muSettle [] 73 [i64 3, aE] (.tup [rows .no [1, 0, 6, 2, 0, 3] 2, i64 0]) := of_eq_true (by kernel_rfl)
theorem pSettle : Pure prog 73 [i64 3, aE] (.tup [rows .no [1, 0, 6, 2, 0, 3] 2, i64 0]) := gSettle.pure MOK.nil (by kernel_rfl)

theorem gBill : GoalM noMu [] 15 [aB] (.tup [i64 43, i64 23, i64 0]) := of_eq_true (by kernel_rfl)
theorem pBill : Pure prog 15 [aB] (.tup [i64 43, i64 23, i64 0]) := gBill.pure MOK.nil (by kernel_rfl)

theorem gRead : GoalM noMu [] 75 [aText] (.tup [.agg [rows .no [0, 4, 4] 1, ints .no [1]], i64 0]) := of_eq_true (by kernel_rfl)
theorem pRead : Pure prog 75 [aText] (.tup [.agg [rows .no [0, 4, 4] 1, ints .no [1]], i64 0]) := gRead.pure MOK.nil (by kernel_rfl)

end Go.Abs.Seat

/-! The closed calls of Changes and Adds, of the general ones. -/
namespace Go.Abs.Seat
noncomputable section
open Go Go.Abs Go.Proofs.Tryz
set_option maxRecDepth 100000

def N0 : List Lk := [(0, 10, 20), (1, 12, 18), (1, 15, 10)]
def H0 : List Nat := [2, 3]
theorem okN0 : okN N0 := by
 refine ⟨fun i hi => ?_, fun i hi => ?_, fun i hi => ?_, fun i hi => ?_⟩
 all_goals
  match i, hi with
  | 0, _ => decide
  | 1, _ => decide
  | 2, _ => decide
theorem pc0 : Pure prog 85 [.agg [nkA N0, nl (zl H0)]] (.bool true) := by
 have h := isPiece_pure (L := cL N0) (M := zl H0) (.inr rfl) (.inr rfl)
 rwa [decide_eq_true (show pcOk (cL N0) (zl H0) from ⟨⟨⟨by decide, by decide⟩, by decide, by decide⟩, ⟨N0, rfl, okN0⟩, fun j hj => by
  match j, hj with
  | 0, _ => exact ⟨by decide, by decide⟩
  | 1, _ => exact ⟨by decide, by decide⟩⟩)] at h
theorem hd0 : hdN N0.length H0 := ⟨by decide, fun x hx => by
 rcases List.mem_cons.1 hx with rfl | hx
 ·decide
 ·rcases List.mem_cons.1 hx with rfl | hx
  ·decide
  ·cases hx⟩
theorem adds0 : Pure prog 41 [.agg [nkA N0, nl (zl H0)], nv 10, nv 20, fv (Int.ofNat 43) (Int.ofNat 30)] (.tup [lkV (0, 20, 14), iv 0]) := by
 have h := adds_pure okN0 (by decide) (by decide) (zl H0) pc0 (lo := 10) (hi := 20) (n := 43) (d := 30) (by decide) (by decide) (by decide) (by decide) (by decide)
 rwa [show bsN N0 43 30 (cF N0 10 (20 + 1 - 10) (N0.length + 1)) (cF N0 10 (20 + 1 - 10) (N0.length + 1)).length = (0, 20, 14) by decide +kernel] at h
theorem changes0 : Pure prog 48 [.agg [nkA N0, nl (zl H0)], nv 10, nv 20, nv 0, fv (Int.ofNat 2) (Int.ofNat 5)] (.tup [nkA [(1, 12, 15)], iv 0]) := by
 have h := changes_pure okN0 (by decide) (by decide) hd0 pc0 (lo := 10) (hi := 20) (hand := 0) (n := 2) (d := 5) (by decide) (by decide) (by decide) (by decide) (by decide) (by decide) (by decide)
 rwa [show chR N0 H0 10 20 0 (2, 5) = some [(1, 12, 15)] by decide +kernel] at h
end
end Go.Abs.Seat

/-! The same, over the example's piece as it is laid. -/
namespace Go.Abs.Seat
noncomputable section
open Go Go.Abs Go.Proofs.Tryz
set_option maxRecDepth 100000

theorem WkV.agg2 {x y x' y' : AV} (h1 : WkV x x') (h2 : WkV y y') : WkV (.agg [x, y]) (.agg [x', y']) := by
 refine ⟨fun g w u hu => ?_, fun L hl => ⟨h1.lv L hl.1, h2.lv L hl.2.1, trivial⟩⟩
 simp only [VRel, VRels] at hu ⊢
 obtain ⟨vs, e, a, us, e1, r1, b, bs, e2, r2, r3⟩ := hu
 exact ⟨vs, e, a, us, e1, h1.wk g w a r1, b, bs, e2, h2.wk g w b r2, r3⟩
theorem Pure.wkA {f : FuncId} {x x' : AV} {r : List AV} {v : AV} (hw : WkV x x') (h : Pure prog f (x' :: r) v) : Pure prog f (x :: r) v :=
 ⟨h.1, fun B H g vs cs w hr hv hl => h.2 B H g vs cs w hr (by
  simp only [VRels] at hv ⊢
  obtain ⟨u, us, e, h1, h2⟩ := hv
  exact ⟨u, us, e, hw.wk g w u h1, h2⟩) ⟨hw.lv _ hl.1, hl.2⟩⟩
theorem wkP : WkV aP (.agg [nkA N0, nl (zl H0)]) := WkV.agg2 (WkV.own _ _ _) (WkV.own _ _ _)
theorem pChanges : Pure prog 48 [aP, i64 10, i64 20, i64 0, fr 2 5] (.tup [rows .no [1, 12, 15] 1, i64 0]) := Pure.wkA wkP changes0
theorem pAdds : Pure prog 41 [aP, i64 10, i64 20, fr 43 30] (.tup [.agg [i64 0, i64 20, i64 14], i64 0]) := Pure.wkA wkP adds0
end
end Go.Abs.Seat
