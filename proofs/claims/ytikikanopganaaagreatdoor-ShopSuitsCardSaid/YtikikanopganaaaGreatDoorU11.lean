/-
  What the program tells of a piece: trains, rates, how far off.
  The rates of all arbors, as the program tells them.
  The rates of all arbors, as the document tells them.
  Short pieces; lists that are equal to themselves; hands, fractions, numbers as the document tells them.
  The law ShopRates.
  A piece as it comes in is one as defined, or not.
  A piece with a change.
  New links: how far each is, which one is better.
  The search for changes.
  Changes: what is spoilt, as the program and the document tell it.
  Changes: what is as defined, a piece with a change, what is spoilt, as the document tells it.
  Which hands a change spoils, as the document tells it.
  Whether a piece suits, as the document tells it.
-/
import Derived.Test.YtikikanopganaaaGreatDoorB16
import Derived.Test.YtikikanopganaaaGreatDoorU7
import Derived.Test.YtikikanopganaaaGreatDoorU10
import Derived.Test.YtikikanopganaaaGreatDoorU5
/-! What the program tells of a piece: trains, rates, how far off. -/
namespace Go.Abs.Seat
noncomputable section
open Go Go.Abs Go.Proofs.Tryz
set_option maxRecDepth 100000
set_option maxHeartbeats 40000000
attribute [local irreducible] IntKind.wrap pEq

structure pcN (N : List Lk) (H : List Nat) : Prop where
 ok : okN N
 l1 : 1 ≤ N.length
 l5 : N.length ≤ 5
 h1 : 1 ≤ H.length
 h4 : H.length ≤ 4
 hd : ∀ x, x ∈ H → 1 ≤ x ∧ x ≤ N.length
theorem pcN.hdN {N : List Lk} {H : List Nat} (h : pcN N H) : hdN N.length H := ⟨h.h4, fun x hx => (h.hd x hx).2⟩
theorem ints_nat : ∀ (M : List Int), (∀ j, j < M.length → 0 ≤ gi M j) → ∃ H : List Nat, M = zl H
 | [], _ => ⟨[], rfl⟩
 |x :: r, h => by
  obtain ⟨H, e⟩ := ints_nat r fun j hj => h (j + 1) (by simpa using hj)
  have hx := h 0 (by simp)
  refine ⟨x.toNat :: H, ?_⟩
  rw [e]
  exact congrArg (· :: zl H) (toN hx).symm
theorem pcN_of {L : List LkI} {M : List Int} (h : pcOk L M) : ∃ N H, L = cL N ∧ M = zl H ∧ pcN N H := by
 obtain ⟨⟨h1, h2⟩, ⟨N, rfl, hN⟩, h3⟩ := h
 obtain ⟨H, rfl⟩ := ints_nat M fun j hj => by have := h3 j hj; omega
 rw [cL_len] at h1
 rw [zl_len] at h2
 refine ⟨N, H, rfl, rfl, hN, h1.1, h1.2, h2.1, h2.2, fun x hx => ?_⟩
 obtain ⟨j, hj, e⟩ := List.getElem_of_mem hx
 have h4 := h3 j (by rw [zl_len]; exact hj)
 rw [gi_zl H hj, cL_len, show gn H j = x by rw [← e]; simp [gn, List.getD, hj]] at h4
 exact ⟨Int.ofNat_le.1 h4.1, Int.ofNat_le.1 h4.2⟩
theorem pcN.pc {N : List Lk} {H : List Nat} (h : pcN N H) : pcOk (cL N) (zl H) := by
 refine ⟨⟨by rw [cL_len]; exact ⟨h.l1, h.l5⟩, by rw [zl_len]; exact ⟨h.h1, h.h4⟩⟩, ⟨N, rfl, h.ok⟩, fun j hj => ?_⟩
 rw [zl_len] at hj
 rw [gi_zl H hj, cL_len]
 have := h.hd _ (gn_mem H hj)
 exact ⟨Int.ofNat_le.2 this.1, Int.ofNat_le.2 this.2⟩
theorem pcN.isP {N : List Lk} {H : List Nat} (h : pcN N H) : Pure prog 85 [.agg [nkA N, nl (zl H)]] (.bool true) := by
 have := isPiece_yes (cL N) (zl H) (by rw [cL_len]; exact ⟨h.l1, h.l5⟩) (by rw [zl_len]; exact ⟨h.h1, h.h4⟩)
 rw [decide_eq_true h.pc, nkA_eq] at this
 exact this
theorem pcN.rP {N : List Lk} {H : List Nat} (h : pcN N H) : Pure prog 23 [.agg [nkA N, nl (zl H)]] (.bool true) := by
 have := rPiece_yes (cL N) (zl H) (by rw [cL_len]; exact ⟨h.l1, h.l5⟩) (by rw [zl_len]; exact ⟨h.h1, h.h4⟩)
 rw [decide_eq_true h.pc, nkA_eq] at this
 exact this
theorem rPiece_pure {x h : AV} {L : List LkI} {M : List Int} (hx : LL x L) (hh : IL h M) : Pure prog 23 [.agg [x, h]] (.bool (decide (pcOk L M))) := by
 by_cases hn : (1 ≤ L.length ∧ L.length ≤ 5) ∧ (1 ≤ M.length ∧ M.length ≤ 4)
 ·rcases hx with ⟨_, rfl⟩ | rfl
  ·exact absurd hn.1.1 (by decide)
  rcases hh with ⟨_, rfl⟩ | rfl
  ·exact absurd hn.2.1 (by decide)
  exact rPiece_yes L M hn.1 hn.2
 ·rw [decide_eq_false fun z => hn z.1]
  exact rPiece_no hx hh hn

theorem tvA_pos {N : List Lk} (h : wfN N) {a : Nat} (ha : 1 ≤ a) (h2 : a ≤ N.length) : tvA (tr N a) = pv (zp (tr N a)) := by
 obtain ⟨k, rfl⟩ : ∃ k, a = k + 1 := ⟨a - 1, by omega⟩
 rw [tr_succ h (by omega), tvA_app]
def rdA (N : List Lk) (a : Nat) : Nat × Nat := redF (rtA N a).1 (rtA N a).2
theorem tvN {N : List Lk} (h : okN N) {a : Nat} (ha : 1 ≤ a) (h2 : a ≤ N.length) : TV (pv (zp (tr N a))) (tr N a).length (rdA N a).1 (rdA N a).2 :=
 tv_zp (tq := tN) (fun _ h => h) ⟨tr_pos h.wf ha h2, h.dl h2⟩ (h.all a a (Nat.le_refl _) h2)

theorem sTurns_pure {v : AV} {k x y : Nat} (hv : TV v k x y) : Pure prog 35 [v] (.tup [fv (Int.ofNat x) (Int.ofNat y), .bool (decide (k % 2 = 0)), iv 0]) := by
 have k3 := hv.k1
 have h1 := hv.isT
 have h2 := hv.tu
 obtain ⟨xs, rfl, lx⟩ := hv.sh
 obtain rfl | rfl | rfl : k = 1 ∨ k = 2 ∨ k = 3 := by omega
 all_goals
  refine pure_sym hE rfl (by repeat' (first | exact trivial | assumption | exact flat_no _ | exact (fun _ h => nomatch h) | apply And.intro)) (by repeat' (first | exact trivial | assumption | exact flat_no _ | exact (fun _ h => nomatch h) | apply And.intro)) fun S q pc hS hq hC hE => ?_
  conv => whnf
  refine sym_pure hC (h1) ?_
  conv => whnf
  refine sym_pure hC (h2) ?_
  conv => whnf
  exact ⟨_, rfl, Wk.refl _⟩
end
end Go.Abs.Seat

/-! The rates of all arbors, as the program tells them. -/
namespace Go.Abs.Seat
noncomputable section
open Go Go.Abs Go.Proofs.Tryz
set_option maxRecDepth 100000
set_option maxHeartbeats 40000000
attribute [local irreducible] IntKind.wrap pEq

def rdL (N : List Lk) (k : Nat) : List (Nat × Nat) := (List.range k).map (rdA N)
theorem rdL_len (N : List Lk) (k : Nat) : (rdL N k).length = k := by simp [rdL]
theorem rdL_succ (N : List Lk) (k : Nat) : rdL N (k + 1) = rdL N k ++ [rdA N k] := by simp [rdL, List.range_succ]
theorem rdL_get (N : List Lk) {k a : Nat} (h : a < k) : gq (rdL N k) a = rdA N a := by simp [gq, rdL, List.getD, h]
def snA (N : List Lk) (a : Nat) : Bool := decide ((tr N a).length % 2 = 0)
def snL (N : List Lk) (k : Nat) : List Bool := (List.range k).map (snA N)
theorem snL_len (N : List Lk) (k : Nat) : (snL N k).length = k := by simp [snL]
theorem snL_succ (N : List Lk) (k : Nat) : snL N (k + 1) = snL N k ++ [snA N k] := by simp [snL, List.range_succ]
def bls : List Bool → List AV
 | [] => []
 |b :: r => .bool b :: bls r
theorem bls_len : ∀ l, (bls l).length = l.length
 | [] => rfl
 | _ :: r => congrArg (· + 1) (bls_len r)
theorem bls_app : ∀ (l r : List Bool), bls (l ++ r) = bls l ++ bls r
 | [], _ => rfl
 |b :: l, r => congrArg (AV.bool b :: ·) (bls_app l r)
theorem bls_no : ∀ l, Lives noL (bls l)
 | [] => trivial
 | _ :: r => ⟨trivial, bls_no r⟩
theorem wkl_bls : ∀ l, wkl (bls l) = bls l
 | [] => rfl
 | _ :: r => by simp only [bls, wkl, wk, wkl_bls r]
abbrev blV (l : List Bool) : AV := .lst (bls l) l.length .no
theorem lenIs_bls (l : List Bool) : lenIs (bls l) (l.length * 1) = true := by
 have := lenIs_eq (bls l)
 rwa [bls_len, ← Nat.mul_one l.length] at this
def rdV (N : List Lk) (i c : Nat) : AV := .lst (flat (zp (rdL N (i + 1)))) (zp (rdL N (i + 1))).length (.ch c)
def snV (N : List Lk) (i c : Nat) : AV := .lst (bls (snL N (i + 1))) (snL N (i + 1)).length (.ch c)
theorem bd_rdV (N : List Lk) (i : Nat) {c n : Nat} (h : c + 1 ≤ n) : bd (rdV N i c) ≤ n := Nat.max_le.2 ⟨h, bdl_no (flat_no _)⟩
theorem bd_snV (N : List Lk) (i : Nat) {c n : Nat} (h : c + 1 ≤ n) : bd (snV N i c) ≤ n := Nat.max_le.2 ⟨h, bdl_no (bls_no _)⟩
theorem rd_first (N : List Lk) (c : Nat) : AV.lst [iv 1, iv 1, nv (rdA N (0 + 1)).1, nv (rdA N (0 + 1)).2] (0 + 1 + (0 + 1)) (.ch c) = rdV N 1 c := by
 have e0 : rdL N 1 = [(1, 1)] := by
  show [rdA N 0] = _
  rw [show rdA N 0 = (1, 1) by show redF 1 1 = _; unfold redF; rw [Nat.gcd_self]]
 unfold rdV
 rw [rdL_succ, e0]
 rfl
theorem sn_first (N : List Lk) (c : Nat) : AV.lst [.bool true, .bool (snA N (0 + 1))] (0 + 1 + (0 + 1)) (.ch c) = snV N 1 c := by
 unfold snV
 rw [snL_succ]
 rfl
theorem rd_next (N : List Lk) (i c : Nat) : AV.lst (flat (zp (rdL N (i + 1))) ++ [nv (rdA N (i + 1)).1, nv (rdA N (i + 1)).2]) ((zp (rdL N (i + 1))).length + (0 + 1)) (.ch c) = rdV N (i + 1) c := by
 unfold rdV
 rw [rdL_succ N (i + 1), flz_app, zp_len, zp_len, List.length_append]
 rfl
theorem sn_next (N : List Lk) (i c : Nat) : AV.lst (bls (snL N (i + 1)) ++ [.bool (snA N (i + 1))]) ((snL N (i + 1)).length + (0 + 1)) (.ch c) = snV N (i + 1) c := by
 unfold snV
 rw [snL_succ N (i + 1), bls_app, List.length_append]
 rfl
theorem rd_ch (N : List Lk) (i : Nat) {ty : Nat} : AObj.chain ((zp (rdL N (i + 1))).length + (0 + 1)) 2 ty = .chain (zp (rdL N (i + 1 + 1))).length 2 ty := by
 rw [zp_len, zp_len, rdL_len, rdL_len]
theorem sn_ch (N : List Lk) (i : Nat) {ty : Nat} : AObj.chain ((snL N (i + 1)).length + (0 + 1)) 1 ty = .chain (snL N (i + 1 + 1)).length 1 ty := by
 rw [snL_len, snL_len]
theorem wk_rates (N : List Lk) {c d : Nat} : Wk (.tup [.lst (flat (zp (rdL N (N.length + 1)))) (zp (rdL N (N.length + 1))).length (.ch c), .lst (bls (snL N (N.length + 1))) (snL N (N.length + 1)).length (.ch d), iv 0]) (.tup [pv (zp (rdL N (N.length + 1))), blV (snL N (N.length + 1)), iv 0]) := by
 have := Wk.wk (.tup [.lst (flat (zp (rdL N (N.length + 1)))) (zp (rdL N (N.length + 1))).length (.ch c), .lst (bls (snL N (N.length + 1))) (snL N (N.length + 1)).length (.ch d), iv 0])
 simp only [wk, wkl, wkl_flat, wkl_bls] at this
 exact this
theorem sRates_yes {N : List Lk} {H : List Nat} (h : pcN N H) : Pure prog 21 [.agg [nkA N, nl (zl H)]] (.tup [pv (zp (rdL N (N.length + 1))), blV (snL N (N.length + 1)), iv 0]) := by
 have lN := lks_no (cL N)
 have lM := ivs_no (zl H)
 have lR := flat_no (zp (rdL N (N.length + 1)))
 have lS := bls_no (snL N (N.length + 1))
 have h1 := h.l1
 have h5 := h.l5
 have c0 : decide (0 < (N.length : Int)) = true := decide_eq_true (by omega)
 have pt : ∀ i, i < N.length → Pure prog 86 [.agg [nkA N, nl (zl H)], iv (IntKind.i64.wrap (Int.ofNat i + 1))] (pv (zp (tr N (i + 1)))) := fun i hi => by
  have := trainOf_pure h.ok.wf h.l5 (zl H) (a := i + 1) hi (h.ok.dl hi)
  rw [tvA_pos h.ok.wf (by omega) hi] at this
  rw [show IntKind.i64.wrap (Int.ofNat i + 1) = Int.ofNat (i + 1) from wrapN (m := i + 1) (by omega)]
  exact this
 have pu : ∀ i, i < N.length → Pure prog 35 [pv (zp (tr N (i + 1)))] (.tup [fv (Int.ofNat (rdA N (i + 1)).1) (Int.ofNat (rdA N (i + 1)).2), .bool (snA N (i + 1)), iv 0]) := fun i hi => sTurns_pure (tvN h.ok (by omega) hi)
 have lt : ∀ i, Lives noL (flat (zp (tr N i))) := fun i => flat_no _
 refine pure_sym hE rfl (by repeat' (first | exact trivial | assumption | exact flat_no _ | exact (fun _ h => nomatch h) | apply And.intro)) (by repeat' (first | exact trivial | assumption | exact flat_no _ | exact (fun _ h => nomatch h) | apply And.intro)) fun S q pc hS hq hC hE => ?_
 conv => whnf
 refine sym_pure hC (h.isP) ?_
 conv => whnf
 refine sym_unroll hE hS ?_
 conv => whnf
 refine bool_true (c0) ?_
 conv => whnf
 refine sym_pure hC (pt 0 h1) ?_
 conv => whnf
 refine sym_pure hC (pu 0 h1) ?_
 conv => whnf
 refine sym_loopG hE hS (A := Nat) [1, 19] (fun i => [(5, rdV N i 2), (6, snV N i 3), (20, nv i)]) (fun i => [(2, .chain (zp (rdL N (i + 1))).length 2 36), (3, .chain (snL N (i + 1)).length 1 4)]) (fun _ => []) (fun i => 1 ≤ i ∧ i ≤ N.length) (fun i => N.length - i) 1 (Nat.le_of_ble_eq_true rfl) rfl (by refine ⟨rfl, rfl, rfl, rfl, rfl, rfl, 4, rfl, ?_, ?_⟩ <;> repeat' (first | exact trivial | exact rfl | exact ⟨_, rfl, WkV.refl _⟩ | exact ⟨_, rfl, WkV.own _ _ _⟩ | exact Nat.zero_le _ | exact ⟨_, rfl, WkV.int up1⟩ | exact ⟨_, rfl, WkV.eq (rd_first N _)⟩ | exact ⟨_, rfl, WkV.eq (sn_first N _)⟩ | exact bd_rdV N _ (by decide) | exact bd_snV N _ (by decide) | exact bdl_no lN | exact bdl_no lM | exact Nat.le_of_ble_eq_true rfl | exact bdl_no (by assumption) | exact bdl_no (flat_no _) | exact bdl_no (ivs_no _) | exact bdl_no (svs_no _) | exact Nat.max_le.2 ⟨Nat.le_of_ble_eq_true rfl, bdl_no (ivs_no _)⟩ | exact Nat.max_le.2 ⟨Nat.le_of_ble_eq_true rfl, bdl_no (svs_no _)⟩ | apply And.intro)) ⟨Nat.le_refl _, h1⟩ ?_
 rintro i ⟨hi1, hi⟩ K hK
 obtain rfl : K = 4 := hK
 conv => whnf
 by_cases hi2 : i < N.length
 ·refine bool_true (ltN_t hi2) ?_
  conv => whnf
  refine sym_pure hC (pt i hi2) ?_
  conv => whnf
  refine sym_pure hC (pu i hi2) ?_
  conv => whnf
  have hz : (zp (rdL N (i + 1))).length = i + 1 := by rw [zp_len, rdL_len]
  have hy : (snL N (i + 1)).length = i + 1 := snL_len N _
  refine bool_true (decide_eq_true (show ((zp (rdL N (i + 1))).length + (0 + 1)) * 16 ≤ 140737488355328 by omega)) ?_
  conv => whnf
  refine bool_true (decide_eq_true (show (zp (rdL N (i + 1))).length + (0 + 1) ≤ 9223372036854775807 by omega)) ?_
  conv => whnf
  refine bool_true (lenIs_flz (rdL N (i + 1))) ?_
  conv => whnf
  refine bool_true (decide_eq_true rfl) ?_
  conv => whnf
  refine bool_true (decide_eq_true (show ((snL N (i + 1)).length + (0 + 1)) * 1 ≤ 140737488355328 by omega)) ?_
  conv => whnf
  refine bool_true (decide_eq_true (show (snL N (i + 1)).length + (0 + 1) ≤ 9223372036854775807 by omega)) ?_
  conv => whnf
  refine bool_true (lenIs_bls (snL N (i + 1))) ?_
  conv => whnf
  refine bool_true (decide_eq_true rfl) ?_
  conv => whnf
  exact ⟨i + 1, ⟨by omega, hi2⟩, by omega, Nat.le_refl _, (by refine ⟨rfl, rfl, rfl, rfl, rfl, rfl, 4, rfl, ?_, ?_⟩ <;> repeat' (first | exact trivial | exact rfl | exact ⟨_, rfl, WkV.refl _⟩ | exact ⟨_, rfl, WkV.own _ _ _⟩ | exact Nat.zero_le _ | exact ⟨_, rfl, WkV.int (wrapN (m := i + 1) (by omega))⟩ | exact ⟨_, rfl, WkV.eq (rd_next N i _)⟩ | exact ⟨_, rfl, WkV.eq (sn_next N i _)⟩ | exact rd_ch N i | exact sn_ch N i | exact bd_rdV N _ (by decide) | exact bd_snV N _ (by decide) | exact bdl_no lN | exact bdl_no lM | exact Nat.le_of_ble_eq_true rfl | exact bdl_no (by assumption) | exact bdl_no (flat_no _) | exact bdl_no (ivs_no _) | exact bdl_no (svs_no _) | exact Nat.max_le.2 ⟨Nat.le_of_ble_eq_true rfl, bdl_no (ivs_no _)⟩ | exact Nat.max_le.2 ⟨Nat.le_of_ble_eq_true rfl, bdl_no (svs_no _)⟩ | apply And.intro))⟩
 ·refine bool_false (ltN_f hi2) ?_
  conv => whnf
  refine .inl ?_
  conv => whnf
  have e : i = N.length := by omega
  subst e
  exact ⟨_, rfl, wk_rates N⟩
end
end Go.Abs.Seat

/-! The rates of all arbors, as the document tells them. -/
namespace Go.Abs.Seat
noncomputable section
open Go Go.Abs Go.Proofs.Tryz
set_option maxRecDepth 100000
set_option maxHeartbeats 40000000
attribute [local irreducible] IntKind.wrap pEq

end
end Go.Abs.Seat

/-! Short pieces; lists that are equal to themselves; hands, fractions, numbers as the document tells them. -/
namespace Go.Abs.Seat
noncomputable section
open Go Go.Abs Go.Proofs.Tryz
set_option maxRecDepth 100000
set_option maxHeartbeats 40000000
attribute [local irreducible] IntKind.wrap pEq

theorem short_no {x h : AV} {L : List LkI} {M : List Int} (hx : LL x L) (hh : IL h M) (hs : ¬ (L.length ≤ 7 ∧ M.length ≤ 6)) : Pure prog 18 [.agg [x, h]] (.bool false) := by
 have lx := hx.no
 have lh := hh.no
 rcases hx with ⟨rfl, rfl⟩ | rfl <;> rcases hh with ⟨rfl, rfl⟩ | rfl
 ·exact absurd ⟨by decide, by decide⟩ hs
 ·have c2 : decide ((M.length : Int) ≤ 6) = false := decide_eq_false fun k => hs ⟨by simp, by omega⟩
  refine pure_sym hE rfl (by repeat' (first | exact trivial | assumption | exact flat_no _ | exact (fun _ h => nomatch h) | apply And.intro)) (by repeat' (first | exact trivial | assumption | exact flat_no _ | exact (fun _ h => nomatch h) | apply And.intro)) fun S q pc hS hq hC hE => ?_
  conv => whnf
  repeat ((first
   |refine ko_sT c2 ?_
   |refine ko_rF c2 ?_
   |refine plan_as (pick_f c2) ?_
   |refine bool_false c2 ?_
   |refine sym_drawn hS (by kernel_rfl) ?_); conv => whnf)
  exact ⟨_, rfl, wkb c2⟩
 ·have c2 : decide ((L.length : Int) ≤ 7) = false := decide_eq_false fun k => hs ⟨by omega, by simp⟩
  refine pure_sym hE rfl (by repeat' (first | exact trivial | assumption | exact flat_no _ | exact (fun _ h => nomatch h) | apply And.intro)) (by repeat' (first | exact trivial | assumption | exact flat_no _ | exact (fun _ h => nomatch h) | apply And.intro)) fun S q pc hS hq hC hE => ?_
  conv => whnf
  repeat ((first
   |refine ko_sT c2 ?_
   |refine ko_rF c2 ?_
   |refine plan_as (pick_f c2) ?_
   |refine bool_false c2 ?_
   |refine sym_drawn hS (by kernel_rfl) ?_); conv => whnf)
  exact ⟨_, rfl, Wk.refl _⟩
 ·by_cases k : L.length ≤ 7
  ·have c1 : decide ((L.length : Int) ≤ 7) = true := decide_eq_true (by omega)
   have c2 : decide ((M.length : Int) ≤ 6) = false := decide_eq_false fun q => hs ⟨k, by omega⟩
   refine pure_sym hE rfl (by repeat' (first | exact trivial | assumption | exact flat_no _ | exact (fun _ h => nomatch h) | apply And.intro)) (by repeat' (first | exact trivial | assumption | exact flat_no _ | exact (fun _ h => nomatch h) | apply And.intro)) fun S q pc hS hq hC hE => ?_
   conv => whnf
   repeat ((first
    |refine ko_rT c1 ?_
    |refine ko_sF c1 ?_
    |refine plan_as (pick_t c1) ?_
    |refine bool_true c1 ?_
    |refine ko_sT c2 ?_
    |refine ko_rF c2 ?_
    |refine plan_as (pick_f c2) ?_
    |refine bool_false c2 ?_
    |refine sym_drawn hS (by kernel_rfl) ?_); conv => whnf)
   exact ⟨_, rfl, wkb c2⟩
  ·have c1 : decide ((L.length : Int) ≤ 7) = false := decide_eq_false (by omega)
   refine pure_sym hE rfl (by repeat' (first | exact trivial | assumption | exact flat_no _ | exact (fun _ h => nomatch h) | apply And.intro)) (by repeat' (first | exact trivial | assumption | exact flat_no _ | exact (fun _ h => nomatch h) | apply And.intro)) fun S q pc hS hq hC hE => ?_
   conv => whnf
   repeat ((first
    |refine ko_sT c1 ?_
    |refine ko_rF c1 ?_
    |refine plan_as (pick_f c1) ?_
    |refine bool_false c1 ?_
    |refine sym_drawn hS (by kernel_rfl) ?_); conv => whnf)
   exact ⟨_, rfl, Wk.refl _⟩
theorem short_yes {x h : AV} {L : List LkI} {M : List Int} (hx : LL x L) (hh : IL h M) (h1 : L.length ≤ 7) (h2 : M.length ≤ 6) : Pure prog 18 [.agg [x, h]] (.bool true) := by
 have c1 : decide ((L.length : Int) ≤ 7) = true := decide_eq_true (by omega)
 have c2 : decide ((M.length : Int) ≤ 6) = true := decide_eq_true (by omega)
 have lx := hx.no
 have lh := hh.no
 rcases hx with ⟨rfl, rfl⟩ | rfl <;> rcases hh with ⟨rfl, rfl⟩ | rfl
 all_goals
  refine pure_sym hE rfl (by repeat' (first | exact trivial | assumption | exact flat_no _ | exact (fun _ h => nomatch h) | apply And.intro)) (by repeat' (first | exact trivial | assumption | exact flat_no _ | exact (fun _ h => nomatch h) | apply And.intro)) fun S q pc hS hq hC hE => ?_
  conv => whnf
  repeat ((first
   |refine ko_rT c1 ?_
   |refine ko_sF c1 ?_
   |refine plan_as (pick_t c1) ?_
   |refine bool_true c1 ?_
   |refine ko_rT c2 ?_
   |refine ko_sF c2 ?_
   |refine plan_as (pick_t c2) ?_
   |refine bool_true c2 ?_
   |refine sym_drawn hS (by kernel_rfl) ?_); conv => whnf)
  first | exact ⟨_, rfl, Wk.refl _⟩ | exact ⟨_, rfl, wkb c2⟩
theorem pcN.sh {N : List Lk} {H : List Nat} (h : pcN N H) : Pure prog 18 [.agg [nkA N, nl (zl H)]] (.bool true) := by
 have := short_yes (x := lkA (cL N)) (h := nl (zl H)) (.inr rfl) (.inr rfl) (by rw [cL_len]; have := h.l5; omega) (by rw [zl_len]; have := h.h4; omega)
 rwa [nkA_eq] at this
end
end Go.Abs.Seat

/-! The law ShopRates. -/
namespace Go.Abs.Seat
noncomputable section
open Go Go.Abs Go.Proofs.Tryz
set_option maxRecDepth 100000
set_option maxHeartbeats 40000000
attribute [local irreducible] IntKind.wrap pEq

theorem hand_b {N : List Lk} {H : List Nat} (h : pcN N H) (a : Int) : ∃ b : Bool, Pure prog 30 [.agg [nkA N, nl (zl H)], iv a] (.bool b) ∧ (b = true ↔ 0 ≤ a ∧ a < (H.length : Int)) := by
 have := rHand_pure (cL N) (zl H) a
 rw [nkA_eq, zl_len, wrapI (by have := h.h1; omega) (by have := h.h4; omega)] at this
 refine ⟨_, this, ?_⟩
 rw [decide_eq_true_iff]
 omega
theorem fr_b (n d : Int) : ∃ b : Bool, Pure prog 31 [fv n d] (.bool b) ∧ (b = true ↔ isF n d) := dec_b (rFraction_pure n d)
end
end Go.Abs.Seat

/-! A piece as it comes in is one as defined, or not. -/
namespace Go.Abs.Seat
noncomputable section
open Go Go.Abs Go.Proofs.Tryz
set_option maxRecDepth 100000
set_option maxHeartbeats 40000000

theorem piece_cases {x h : AV} {L : List LkI} {M : List Int} (hx : LL x L) (hh : IL h M) : ¬ (L.length ≤ 7 ∧ M.length ≤ 6) ∨ (L.length ≤ 7 ∧ M.length ≤ 6 ∧ ¬ pcOk L M) ∨ ∃ N H, pcN N H ∧ x = nkA N ∧ h = nl (zl H) := by
 by_cases hs : L.length ≤ 7 ∧ M.length ≤ 6
 ·by_cases hp : pcOk L M
  ·obtain ⟨N, H, rfl, rfl, hN⟩ := pcN_of hp
   refine .inr (.inr ⟨N, H, hN, ?_, ?_⟩)
   ·rcases hx with ⟨_, e⟩ | e
    ·have := hN.l1; rw [← cL_len, e] at this; exact absurd this (by decide)
    ·rw [e, nkA_eq]
   ·rcases hh with ⟨_, e⟩ | e
    ·have := hN.h1; rw [← zl_len, e] at this; exact absurd this (by decide)
    ·exact e
  ·exact .inr (.inl ⟨hs.1, hs.2, hp⟩)
 ·exact .inl hs
end
end Go.Abs.Seat

/-! A piece with a change. -/
namespace Go.Abs.Seat
noncomputable section
open Go Go.Abs Go.Proofs.Tryz
set_option maxRecDepth 100000
set_option maxHeartbeats 40000000
attribute [local irreducible] IntKind.wrap pEq

def chkT (t : Tr AV) (xs : List AV) (n : Nat) : Prop := @Nat.rec (fun _ => Prop) True (fun j ih => t.get j = xs[j]? ∧ ih) n
theorem chkT.at {t : Tr AV} {xs : List AV} : ∀ {n : Nat}, chkT t xs n → ∀ j, j < n → t.get j = xs[j]?
 |n + 1, h, j, hj => by
  by_cases e : j = n
  ·subst e; exact h.1
  ·exact chkT.at h.2 j (by omega)
def chN (N : List Lk) (i a b : Nat) : List Lk := N.set i ((gN N i).1, a, b)
theorem changed_pure {N : List Lk} (h5 : N.length ≤ 5) (M : List Int) {i : Nat} (hi : i < N.length) (a b : Nat) : Pure prog 99 [.agg [nkA N, nl M], .agg [nv i, nv a, nv b]] (.agg [nkA (chN N i a b), nl M]) := by
 have lM := ivs_no M
 have lC := lks_no (cL (chN N i a b))
 rcases N with _ | ⟨x0, _ | ⟨x1, _ | ⟨x2, _ | ⟨x3, _ | ⟨x4, _ | ⟨x5, r⟩⟩⟩⟩⟩⟩
 ·exact absurd hi (Nat.not_lt_zero _)
 ·have lN := lks_no (cL [x0])
  obtain rfl : i = 0 := by simp only [List.length_cons, List.length_nil] at hi; omega
  refine pure_symF (hEM muLinks) rfl (by repeat' (first | exact trivial | assumption | exact flat_no _ | exact (fun _ h => nomatch h) | apply And.intro)) (by repeat' (first | exact trivial | assumption | exact flat_no _ | exact (fun _ h => nomatch h) | apply And.intro)) fun S q pc hS hq hC hE => ?_
  conv => whnf
  refine sym_call hC ?_
  conv => whnf
  refine sym_inline hE hS ?_
  conv => whnf
  refine sym_eq hq false rfl ?_
  conv => whnf
  exact ⟨_, rfl, FzV.agg ⟨FzV.slcN rfl rfl (chkT.at (by repeat' (first | exact trivial | kernel_rfl | apply And.intro))) lC, FzV.no ⟨lM, fun _ e => nomatch e⟩, trivial⟩⟩
 ·have lN := lks_no (cL [x0, x1])
  have hc : i = 0 ∨ i = 1 := by simp only [List.length_cons, List.length_nil] at hi; omega
  rcases hc with rfl | rfl
  all_goals
   refine pure_symF (hEM muLinks) rfl (by repeat' (first | exact trivial | assumption | exact flat_no _ | exact (fun _ h => nomatch h) | apply And.intro)) (by repeat' (first | exact trivial | assumption | exact flat_no _ | exact (fun _ h => nomatch h) | apply And.intro)) fun S q pc hS hq hC hE => ?_
   conv => whnf
   refine sym_call hC ?_
   conv => whnf
   refine sym_inline hE hS ?_
   conv => whnf
   refine sym_eq hq false rfl ?_
   conv => whnf
   exact ⟨_, rfl, FzV.agg ⟨FzV.slcN rfl rfl (chkT.at (by repeat' (first | exact trivial | kernel_rfl | apply And.intro))) lC, FzV.no ⟨lM, fun _ e => nomatch e⟩, trivial⟩⟩
 ·have lN := lks_no (cL [x0, x1, x2])
  have hc : i = 0 ∨ i = 1 ∨ i = 2 := by simp only [List.length_cons, List.length_nil] at hi; omega
  rcases hc with rfl | rfl | rfl
  all_goals
   refine pure_symF (hEM muLinks) rfl (by repeat' (first | exact trivial | assumption | exact flat_no _ | exact (fun _ h => nomatch h) | apply And.intro)) (by repeat' (first | exact trivial | assumption | exact flat_no _ | exact (fun _ h => nomatch h) | apply And.intro)) fun S q pc hS hq hC hE => ?_
   conv => whnf
   refine sym_call hC ?_
   conv => whnf
   refine sym_inline hE hS ?_
   conv => whnf
   refine sym_eq hq false rfl ?_
   conv => whnf
   exact ⟨_, rfl, FzV.agg ⟨FzV.slcN rfl rfl (chkT.at (by repeat' (first | exact trivial | kernel_rfl | apply And.intro))) lC, FzV.no ⟨lM, fun _ e => nomatch e⟩, trivial⟩⟩
 ·have lN := lks_no (cL [x0, x1, x2, x3])
  have hc : i = 0 ∨ i = 1 ∨ i = 2 ∨ i = 3 := by simp only [List.length_cons, List.length_nil] at hi; omega
  rcases hc with rfl | rfl | rfl | rfl
  all_goals
   refine pure_symF (hEM muLinks) rfl (by repeat' (first | exact trivial | assumption | exact flat_no _ | exact (fun _ h => nomatch h) | apply And.intro)) (by repeat' (first | exact trivial | assumption | exact flat_no _ | exact (fun _ h => nomatch h) | apply And.intro)) fun S q pc hS hq hC hE => ?_
   conv => whnf
   refine sym_call hC ?_
   conv => whnf
   refine sym_inline hE hS ?_
   conv => whnf
   refine sym_eq hq false rfl ?_
   conv => whnf
   exact ⟨_, rfl, FzV.agg ⟨FzV.slcN rfl rfl (chkT.at (by repeat' (first | exact trivial | kernel_rfl | apply And.intro))) lC, FzV.no ⟨lM, fun _ e => nomatch e⟩, trivial⟩⟩
 ·have lN := lks_no (cL [x0, x1, x2, x3, x4])
  have hc : i = 0 ∨ i = 1 ∨ i = 2 ∨ i = 3 ∨ i = 4 := by simp only [List.length_cons, List.length_nil] at hi; omega
  rcases hc with rfl | rfl | rfl | rfl | rfl
  all_goals
   refine pure_symF (hEM muLinks) rfl (by repeat' (first | exact trivial | assumption | exact flat_no _ | exact (fun _ h => nomatch h) | apply And.intro)) (by repeat' (first | exact trivial | assumption | exact flat_no _ | exact (fun _ h => nomatch h) | apply And.intro)) fun S q pc hS hq hC hE => ?_
   conv => whnf
   refine sym_call hC ?_
   conv => whnf
   refine sym_inline hE hS ?_
   conv => whnf
   refine sym_eq hq false rfl ?_
   conv => whnf
   exact ⟨_, rfl, FzV.agg ⟨FzV.slcN rfl rfl (chkT.at (by repeat' (first | exact trivial | kernel_rfl | apply And.intro))) lC, FzV.no ⟨lM, fun _ e => nomatch e⟩, trivial⟩⟩
 ·simp only [List.length_cons] at h5
  omega
end
end Go.Abs.Seat

/-! New links: how far each is, which one is better. -/
namespace Go.Abs.Seat
noncomputable section
open Go Go.Abs Go.Proofs.Tryz
set_option maxRecDepth 100000
set_option maxHeartbeats 40000000
attribute [local irreducible] IntKind.wrap pEq

theorem isRange_pure (a b : Int) : Pure prog 101 [iv a, iv b] (.bool (decide ((tth a ∧ tth b) ∧ a ≤ b))) := by
 by_cases h1 : tth a
 ·have c1 : decide (tth a) = true := decide_eq_true h1
  by_cases h2 : tth b
  ·have c2 : decide (tth b) = true := decide_eq_true h2
   refine pure_sym hE rfl (by repeat' (first | exact trivial | assumption | exact flat_no _ | exact (fun _ h => nomatch h) | apply And.intro)) (by repeat' (first | exact trivial | assumption | exact flat_no _ | exact (fun _ h => nomatch h) | apply And.intro)) fun S q pc hS hq hC hE => ?_
   conv => whnf
   repeat ((first
    |refine ko_rT c1 ?_
    |refine ko_sF c1 ?_
    |refine plan_as (pick_t c1) ?_
    |refine bool_true c1 ?_
    |refine ko_rT c2 ?_
    |refine ko_sF c2 ?_
    |refine plan_as (pick_t c2) ?_
    |refine bool_true c2 ?_
    |refine ko_rT (gd_tt c1) ?_
    |refine ko_sF (gd_tt c1) ?_
    |refine plan_as (pick_t (gd_tt c1)) ?_
    |refine bool_true (gd_tt c1) ?_
    |refine ko_rT (gd_tt c2) ?_
    |refine ko_sF (gd_tt c2) ?_
    |refine plan_as (pick_t (gd_tt c2)) ?_
    |refine bool_true (gd_tt c2) ?_
    |refine sym_pure hC (sTeeth_pure a) ?_
    |refine sym_pure hC (sTeeth_pure b) ?_
    |refine sym_drawn hS (by kernel_rfl) ?_); conv => whnf)
   exact ⟨_, rfl, wkb (by simp [h1, h2])⟩
  ·have c2 : decide (tth b) = false := decide_eq_false h2
   refine pure_sym hE rfl (by repeat' (first | exact trivial | assumption | exact flat_no _ | exact (fun _ h => nomatch h) | apply And.intro)) (by repeat' (first | exact trivial | assumption | exact flat_no _ | exact (fun _ h => nomatch h) | apply And.intro)) fun S q pc hS hq hC hE => ?_
   conv => whnf
   repeat ((first
    |refine ko_rT c1 ?_
    |refine ko_sF c1 ?_
    |refine plan_as (pick_t c1) ?_
    |refine bool_true c1 ?_
    |refine ko_sT c2 ?_
    |refine ko_rF c2 ?_
    |refine plan_as (pick_f c2) ?_
    |refine bool_false c2 ?_
    |refine ko_rT (gd_tt c1) ?_
    |refine ko_sF (gd_tt c1) ?_
    |refine plan_as (pick_t (gd_tt c1)) ?_
    |refine bool_true (gd_tt c1) ?_
    |refine ko_sT (gd_tf c2) ?_
    |refine ko_rF (gd_tf c2) ?_
    |refine plan_as (pick_f (gd_tf c2)) ?_
    |refine bool_false (gd_tf c2) ?_
    |refine sym_pure hC (sTeeth_pure a) ?_
    |refine sym_pure hC (sTeeth_pure b) ?_
    |refine sym_drawn hS (by kernel_rfl) ?_); conv => whnf)
   exact ⟨_, rfl, wkb (by simp [h2])⟩
 ·have c1 : decide (tth a) = false := decide_eq_false h1
  refine pure_sym hE rfl (by repeat' (first | exact trivial | assumption | exact flat_no _ | exact (fun _ h => nomatch h) | apply And.intro)) (by repeat' (first | exact trivial | assumption | exact flat_no _ | exact (fun _ h => nomatch h) | apply And.intro)) fun S q pc hS hq hC hE => ?_
  conv => whnf
  repeat ((first
   |refine ko_sT c1 ?_
   |refine ko_rF c1 ?_
   |refine plan_as (pick_f c1) ?_
   |refine bool_false c1 ?_
   |refine ko_sT (gd_tf c1) ?_
   |refine ko_rF (gd_tf c1) ?_
   |refine plan_as (pick_f (gd_tf c1)) ?_
   |refine bool_false (gd_tf c1) ?_
   |refine sym_pure hC (sTeeth_pure a) ?_
   |refine sym_drawn hS (by kernel_rfl) ?_); conv => whnf)
  exact ⟨_, rfl, wkb (by simp [h1])⟩
theorem sFraction_pure (a b : Int) : Pure prog 102 [fv a b] (.bool (decide (isF a b))) := by
 by_cases h1 : 0 ≤ a ∧ a ≤ 50000
 ·have c1 : decide (0 ≤ a ∧ a ≤ 50000) = true := decide_eq_true h1
  refine pure_sym hE rfl (by repeat' (first | exact trivial | assumption | exact flat_no _ | exact (fun _ h => nomatch h) | apply And.intro)) (by repeat' (first | exact trivial | assumption | exact flat_no _ | exact (fun _ h => nomatch h) | apply And.intro)) fun S q pc hS hq hC hE => ?_
  conv => whnf
  repeat ((first
   |refine ko_rT c1 ?_
   |refine ko_sF c1 ?_
   |refine plan_as (pick_t c1) ?_
   |refine bool_true c1 ?_
   |refine ko_rT (gd_tt c1) ?_
   |refine ko_sF (gd_tt c1) ?_
   |refine plan_as (pick_t (gd_tt c1)) ?_
   |refine bool_true (gd_tt c1) ?_
   |refine sym_pure hC (sin_pure a 0 50000) ?_
   |refine sym_pure hC (sin_pure b 1 50000) ?_
   |refine sym_drawn hS (by kernel_rfl) ?_); conv => whnf)
  exact ⟨_, rfl, wkb (by unfold isF; simp [h1])⟩
 ·have c1 : decide (0 ≤ a ∧ a ≤ 50000) = false := decide_eq_false h1
  refine pure_sym hE rfl (by repeat' (first | exact trivial | assumption | exact flat_no _ | exact (fun _ h => nomatch h) | apply And.intro)) (by repeat' (first | exact trivial | assumption | exact flat_no _ | exact (fun _ h => nomatch h) | apply And.intro)) fun S q pc hS hq hC hE => ?_
  conv => whnf
  repeat ((first
   |refine ko_sT c1 ?_
   |refine ko_rF c1 ?_
   |refine plan_as (pick_f c1) ?_
   |refine bool_false c1 ?_
   |refine ko_sT (gd_tf c1) ?_
   |refine ko_rF (gd_tf c1) ?_
   |refine plan_as (pick_f (gd_tf c1)) ?_
   |refine bool_false (gd_tf c1) ?_
   |refine sym_pure hC (sin_pure a 0 50000) ?_
   |refine sym_drawn hS (by kernel_rfl) ?_); conv => whnf)
  exact ⟨_, rfl, wkb (by unfold isF; simp [h1])⟩
theorem sdist_pure (a b n d : Nat) (h1 : a * d < 4611686018427387904) (h2 : n * b < 4611686018427387904) : Pure prog 105 [fv (Int.ofNat a) (Int.ofNat b), fv (Int.ofNat n) (Int.ofNat d)] (qf (dQ n d (a, b))) := by
 refine pure_sym hE rfl (by repeat' (first | exact trivial | assumption | exact flat_no _ | exact (fun _ h => nomatch h) | apply And.intro)) (by repeat' (first | exact trivial | assumption | exact flat_no _ | exact (fun _ h => nomatch h) | apply And.intro)) fun S q pc hS hq hC hE => ?_
 conv => whnf
 refine ⟨_, rfl, wkE ?_⟩
 rw [show IntKind.i64.wrap (Int.ofNat a * Int.ofNat d) = Int.ofNat (a * d) from wrapN (m := a * d) (by omega), show IntKind.i64.wrap (Int.ofNat n * Int.ofNat b) = Int.ofNat (n * b) from wrapN (m := n * b) (by omega),
  wrapI (by show _ ≤ (_ : Int) - _; simp only [Int.ofNat_eq_natCast]; omega) (by simp only [Int.ofNat_eq_natCast]; omega), maxI_neg h1 h2]
 rfl
abbrev hpA (N : List Lk) (M : List Int) (n d : Nat) (W0 W2 W4 : AObj) : Tr AObj :=
 .node W0 (.node (.cells (.node (nv n) (.node (nv d) .nil .nil) .nil) 2 36) (.node (.cells (.node (nkA N) (.node (nl M) .nil .nil) (.node (pv (zp (rtL N (N.length + 1)))) .nil .nil)) 3 138) .nil .nil) (.node (.cells (.node (.func (.func 104) [] [.ptr 3 0, .ptr 1 0]) .nil .nil) 1 146) .nil .nil)) (.node W2 (.node W4 .nil .nil) .nil)
theorem hpA_end (N : List Lk) (M : List Int) (n d : Nat) (W0 W2 W4 : AObj) : HEnd (hpA N M n d W0 W2 W4) 6 := appT_end [W0, .cells (.node (nv n) (.node (nv d) .nil .nil) .nil) 2 36, W2, .cells (.node (nkA N) (.node (nl M) .nil .nil) (.node (pv (zp (rtL N (N.length + 1)))) .nil .nil)) 3 138, W4, .cells (.node (.func (.func 104) [] [.ptr 3 0, .ptr 1 0]) .nil .nil) 1 146] 0 .nil HEnd_nil
abbrev lkV (x : Lk) : AV := .agg [nv x.1, nv x.2.1, nv x.2.2]
def wyA (N : List Lk) (n d : Nat) (x : Lk) : Nat × Nat := dQ n d ((rtA N x.1).1 * x.2.1, (rtA N x.1).2 * x.2.2)
structure nwL (N : List Lk) (x : Lk) : Prop where
 f : x.1 ≤ N.length
 a : x.2.1 ≤ 60
 b : x.2.2 ≤ 60
theorem wyA_le {N : List Lk} (h : okN N) {n d : Nat} (hn : n ≤ 50000) (hd : d ≤ 50000) {x : Lk} (hx : nwL N x) : ((rtA N x.1).1 * x.2.1 ≤ 12960000 ∧ (rtA N x.1).2 * x.2.2 ≤ 12960000) ∧ (wyA N n d x).1 ≤ 648000000000 ∧ (wyA N n d x).2 ≤ 12960000 := by
 have hb := rtA_le h hx.f
 have m1 : (rtA N x.1).1 * x.2.1 ≤ 216000 * 60 := Nat.mul_le_mul hb.1.2 hx.a
 have m2 : (rtA N x.1).2 * x.2.2 ≤ 216000 * 60 := Nat.mul_le_mul hb.2.2 hx.b
 have m3 : (rtA N x.1).1 * x.2.1 * d ≤ 12960000 * 50000 := Nat.mul_le_mul (by omega) hd
 have m4 : n * ((rtA N x.1).2 * x.2.2) ≤ 50000 * 12960000 := Nat.mul_le_mul hn (by omega)
 refine ⟨⟨by omega, by omega⟩, ?_, by show (rtA N x.1).2 * x.2.2 ≤ _; omega⟩
 show gp ((rtA N x.1).1 * x.2.1 * d) (n * ((rtA N x.1).2 * x.2.2)) ≤ _
 unfold gp
 omega
theorem away_h {N : List Lk} (h : okN N) {M : List Int} {n d : Nat} (hn : n ≤ 50000) (hd : d ≤ 50000) {W0 W2 W4 : AObj} (b0 : BdO 6 W0) (b2 : BdO 6 W2) (b4 : BdO 6 W4) {x : Lk} (hx : nwL N x) :
  HFun prog 104 [lkV x, .ptr 3 0, .ptr 1 0] (hv (hpA N M n d W0 W2 W4)) 6 (qf (wyA N n d x)) (hv (hpA N M n d W0 W2 W4)) := by
 have lN := lks_no (cL N)
 have lM := ivs_no M
 have lR := flat_no (zp (rtL N (N.length + 1)))
 have hBd : ObBd 6 (hpA N M n d W0 W2 W4) 6 := by
  repeat' (first | exact trivial | exact b0 | exact b2 | exact b4 | exact Nat.zero_le _ | exact bdl_no lN | exact bdl_no lM | exact bdl_no lR | exact Nat.le_of_ble_eq_true rfl | apply And.intro | exact Nat.max_le.2 ⟨Nat.zero_le _, bdl_no lN⟩)
 refine hfun_sym hE rfl (hpA_end N M n d W0 W2 W4) (Nat.le_of_ble_eq_true rfl) (Nat.zero_le _) hBd hBd fun S q pc hS hq hC hE => ?_
 have hf := hx.f
 have hb := wyA_le h hn hd hx
 have tk : takeN 2 (dropN (x.1 * 2) (flat (zp (rtL N (N.length + 1))))) = some [nv (rtA N x.1).1, nv (rtA N x.1).2] := by
  rw [tak_zp _ (by rw [rtL_len]; omega), rtL_get N (by omega)]
 have m3 : (rtA N x.1).1 * x.2.1 * d ≤ 12960000 * 50000 := Nat.mul_le_mul hb.1.1 hd
 have m4 : n * ((rtA N x.1).2 * x.2.2) ≤ 50000 * 12960000 := Nat.mul_le_mul hn hb.1.2
 conv => whnf
 refine bool_true ((show inR (Int.ofNat x.1) (zp (rtL N (N.length + 1))).length = true by rw [zp_len, rtL_len]; exact inR_t (by omega))) ?_
 conv => whnf
 refine plan_as (takP tk) ?_
 conv => whnf
 rw [mulN (a := (rtA N x.1).1) (b := x.2.1) (by omega), mulN (a := (rtA N x.1).2) (b := x.2.2) (by omega)]
 refine sym_pure hC (sdist_pure ((rtA N x.1).1 * x.2.1) ((rtA N x.1).2 * x.2.2) n d (by omega) (by omega)) ?_
 conv => whnf
 exact ⟨_, rfl, WkV.refl _, rfl, rfl, rfl, rfl, rfl, rfl, trivial⟩
theorem ob6 {h h' : Tr AObj} (e0 : hv h 0 = hv h' 0) (e1 : hv h 1 = hv h' 1) (e2 : hv h 2 = hv h' 2) (e3 : hv h 3 = hv h' 3) (e4 : hv h 4 = hv h' 4) (e5 : hv h 5 = hv h' 5) : ∀ i, i < 6 → hv h i = hv h' i
 | 0, _ => e0
 | 1, _ => e1
 | 2, _ => e2
 | 3, _ => e3
 | 4, _ => e4
 | 5, _ => e5
 | _ + 6, h => absurd h (by omega)
def btL (N : List Lk) (n d : Nat) (x y : Lk) : Prop := (wyA N n d x).1 * (wyA N n d y).2 < (wyA N n d y).1 * (wyA N n d x).2
instance (N : List Lk) (n d : Nat) (x y : Lk) : Decidable (btL N n d x y) := Nat.decLt _ _
theorem better_h {N : List Lk} (h : okN N) {M : List Int} {n d : Nat} (hn : n ≤ 50000) (hd : d ≤ 50000) {W0 W2 W4 : AObj} (b0 : BdO 6 W0) (b2 : BdO 6 W2) (b4 : BdO 6 W4) {x y : Lk} (hx : nwL N x) (hy : nwL N y) :
  HFun prog 107 [lkV x, lkV y, .ptr 5 0] (hv (hpA N M n d W0 W2 W4)) 6 (.bool (decide (btL N n d x y))) (hv (hpA N M n d W0 W2 W4)) := by
 have lN := lks_no (cL N)
 have lM := ivs_no M
 have lR := flat_no (zp (rtL N (N.length + 1)))
 have hBd : ObBd 6 (hpA N M n d W0 W2 W4) 6 := by
  repeat' (first | exact trivial | exact b0 | exact b2 | exact b4 | exact Nat.zero_le _ | exact bdl_no lN | exact bdl_no lM | exact bdl_no lR | exact Nat.le_of_ble_eq_true rfl | apply And.intro | exact Nat.max_le.2 ⟨Nat.zero_le _, bdl_no lN⟩)
 have ax := away_h h (M := M) hn hd b0 b2 b4 hx
 have ay := away_h h (M := M) hn hd b0 b2 b4 hy
 have gx := (wyA_le h hn hd hx).2
 have gy := (wyA_le h hn hd hy).2
 have m1 : (wyA N n d x).1 * (wyA N n d y).2 ≤ 648000000000 * 12960000 := Nat.mul_le_mul gx.1 gy.2
 have m2 : (wyA N n d y).1 * (wyA N n d x).2 ≤ 648000000000 * 12960000 := Nat.mul_le_mul gy.1 gx.2
 refine hfun_sym hE rfl (hpA_end N M n d W0 W2 W4) (Nat.le_of_ble_eq_true rfl) (Nat.zero_le _) hBd hBd fun S q pc hS hq hC hE => ?_
 conv => whnf
 refine sym_pureR hC (HFun.pureR ax (ob6 rfl rfl rfl rfl rfl rfl)) ?_
 conv => whnf
 refine sym_pureR hC (HFun.pureR ay (ob6 rfl rfl rfl rfl rfl rfl)) ?_
 conv => whnf
 refine sym_drawn hS (by kernel_rfl) ?_
 conv => whnf
 refine ⟨_, rfl, WkV.eq ?_, rfl, rfl, rfl, rfl, rfl, rfl, trivial⟩
 rw [mulN (a := (wyA N n d x).1) (b := (wyA N n d y).2) (by omega), mulN (a := (wyA N n d y).1) (b := (wyA N n d x).2) (by omega)]
 exact congrArg AV.bool (decide_eq_decide.2 Int.ofNat_lt)
def bsN (N : List Lk) (n d : Nat) (l : List Lk) : Nat → Lk
 | 0 => (0, 0, 0)
 |i + 1 => if i = 0 ∨ btL N n d (gN l i) (bsN N n d l i) then gN l i else bsN N n d l i
theorem bsN_ok {N : List Lk} {n d : Nat} {l : List Lk} (hl : ∀ x, x ∈ l → nwL N x) : ∀ i, i ≤ l.length → nwL N (bsN N n d l i)
 | 0, _ => ⟨Nat.zero_le _, Nat.zero_le _, Nat.zero_le _⟩
 |i + 1, h => by
  rw [bsN]
  split
  ·exact hl _ (gN_mem l h)
  ·exact bsN_ok hl i (by omega)
end
end Go.Abs.Seat

/-! The search for changes. -/
namespace Go.Abs.Seat
noncomputable section
open Go Go.Abs Go.Proofs.Tryz
set_option maxRecDepth 100000
set_option maxHeartbeats 40000000
attribute [local irreducible] IntKind.wrap pEq

def orE {α : Type} (o p : Option α) : Option α := match o with | some x => some x | none => p
def fstO {α : Type} (f : Nat → Option α) : Nat → Nat → Option α
 | _, 0 => none
 |k, n + 1 => orE (f k) (fstO f (k + 1) n)
def sr0 (N : List Lk) (H : List Nat) (hand : Nat) (t : Nat × Nat) (now : List Lk) (_ : Nat) : Option (List Lk) := if suP N now H hand t then some [] else none
def stC (g : List Lk → Nat → Option (List Lk)) (N now : List Lk) (i a b : Nat) : Option (List Lk) := if (gN N i).2 = (a, b) then none else (g (chN now i a b) (i + 1)).map ((i, a, b) :: ·)
def srS (g : List Lk → Nat → Option (List Lk)) (N : List Lk) (lo hi : Nat) (now : List Lk) (fr : Nat) : Option (List Lk) :=
 fstO (fun i => fstO (fun a => fstO (fun b => stC g N now i a b) lo (hi + 1 - lo)) lo (hi + 1 - lo)) fr (N.length - fr)
def srV : Option (List Lk) → AV
 |none => .tup [.nils, .bool false]
 |some [] => .tup [.nils, .bool true]
 |some (c :: r) => .tup [nkA (c :: r), .bool true]
theorem gN_ch (N : List Lk) (i a b j : Nat) (hi : i < N.length) : gN (chN N i a b) j = if j = i then ((gN N i).1, a, b) else gN N j := by
 unfold chN gN
 by_cases e : j = i
 ·subst e
  rw [if_pos rfl, List.getD, List.getElem?_set_self hi]; rfl
 ·rw [if_neg e, List.getD, List.getElem?_set_ne (fun z => e z.symm)]; rfl
theorem chN_len (N : List Lk) (i a b : Nat) : (chN N i a b).length = N.length := List.length_set
theorem chN_fr (N : List Lk) (i a b j : Nat) (hi : i < N.length) : (gN (chN N i a b) j).1 = (gN N j).1 := by
 rw [gN_ch N i a b j hi]
 split
 ·rename_i e; subst e; rfl
 ·rfl
theorem trF_ch {N : List Lk} {i a b : Nat} (hi : i < N.length) : ∀ (f x : Nat), (trF (chN N i a b) f x).length = (trF N f x).length
 | _, 0 => by cases ‹Nat› <;> rfl
 | 0, _ + 1 => rfl
 |f + 1, x + 1 => by rw [trF, trF, List.length_append, List.length_append, chN_fr N i a b x hi, trF_ch hi f]; rfl
theorem okN.ch {N : List Lk} (h : okN N) {i a b : Nat} (hi : i < N.length) (ha : tN a) (hb : tN b) : okN (chN N i a b) := by
 refine ⟨fun j hj => ?_, fun j hj => ?_, fun j hj => ?_, fun j hj => ?_⟩
 ·rw [chN_fr N i a b j hi]; exact h.wf j (by rw [chN_len] at hj; exact hj)
 ·rw [chN_len] at hj
  rw [gN_ch N i a b j hi]
  split
  ·exact ha
  ·exact h.t1 j hj
 ·rw [chN_len] at hj
  rw [gN_ch N i a b j hi]
  split
  ·exact hb
  ·exact h.t2 j hj
 ·rw [chN_len] at hj
  unfold tr
  rw [trF_ch hi]
  exact h.d j hj
theorem eqPr (cst : Bool) (a b c d : Int) : q0 64 cst (fv a b) (fv c d) = @Bool.rec (fun _ => Option Bool) (some false) (@Bool.rec (fun _ => Option Bool) (some false) (some true) (b == d)) (a == c) := by kernel_rfl
theorem eqPr_b (cst : Bool) (a b c d : Nat) : q0 64 cst (fv (Int.ofNat a) (Int.ofNat b)) (fv (Int.ofNat c) (Int.ofNat d)) = some (decide ((c, d) = (a, b))) := by
 rw [eqPr]
 by_cases h1 : a = c
 ·subst h1
  rw [beq_self_eq_true]
  by_cases h2 : b = d
  ·subst h2
   rw [beq_self_eq_true, decide_eq_true rfl]
  ·rw [show (Int.ofNat b == Int.ofNat d) = false from beq_eq_false_iff_ne.2 fun z => h2 (Int.ofNat.inj z), decide_eq_false fun z => h2 (Prod.mk.inj z).2.symm]
 ·rw [show (Int.ofNat a == Int.ofNat c) = false from beq_eq_false_iff_ne.2 fun z => h1 (Int.ofNat.inj z), decide_eq_false fun z => h1 (Prod.mk.inj z).1.symm]
abbrev hpC (N : List Lk) (H : List Nat) (lo hi hand : Nat) (t : Nat × Nat) : Tr AObj :=
 .node (.cells (.node (nkA N) (.node (nl (zl H)) .nil .nil) .nil) 2 34) (.node (.cells (.node (nv lo) .nil .nil) 1 3) (.node (.cells (.node (nv hand) .nil .nil) 1 3) (.node .hole (.node .hole (.nil) (.nil)) (.nil)) (.node .hole (.nil) (.nil))) (.node .hole (.node .hole (.nil) (.nil)) (.node (.cells (.node (nv t.1) (.node (nv t.2) .nil .nil) .nil) 2 144) (.nil) (.nil)))) (.node (.cells (.node (nv hi) .nil .nil) 1 3) (.node (.cells (.node (nv t.1) (.node (nv t.2) .nil .nil) .nil) 2 36) (.node .hole (.node (.cells (.node (.func (.func 112) [] [.ptr 12 0, .ptr 3 0, .ptr 13 0, .ptr 0 0, .ptr 1 0, .ptr 2 0, .ptr 16 0]) .nil .nil) 1 153) (.nil) (.nil)) (.nil)) (.node (.cells (.node (nkA N) (.node (nl (zl H)) .nil .nil) (.node (pv (zp (rtL N (N.length + 1)))) .nil .nil)) 3 138) (.nil) (.nil))) (.node .hole (.node .hole (.nil) (.nil)) (.node .hole (.nil) (.nil))))
theorem hpC_end (N : List Lk) (H : List Nat) (lo hi hand : Nat) (t : Nat × Nat) : HEnd (hpC N H lo hi hand t) 17 := appT_end [(.cells (.node (nkA N) (.node (nl (zl H)) .nil .nil) .nil) 2 34), (.cells (.node (nv lo) .nil .nil) 1 3), (.cells (.node (nv hi) .nil .nil) 1 3), (.cells (.node (nv hand) .nil .nil) 1 3), (.cells (.node (nv t.1) (.node (nv t.2) .nil .nil) .nil) 2 36), .hole, .hole, .hole, .hole, .hole, .hole, .hole, (.cells (.node (nkA N) (.node (nl (zl H)) .nil .nil) (.node (pv (zp (rtL N (N.length + 1)))) .nil .nil)) 3 138), (.cells (.node (nv t.1) (.node (nv t.2) .nil .nil) .nil) 2 144), .hole, .hole, (.cells (.node (.func (.func 112) [] [.ptr 12 0, .ptr 3 0, .ptr 13 0, .ptr 0 0, .ptr 1 0, .ptr 2 0, .ptr 16 0]) .nil .nil) 1 153)] 0 .nil HEnd_nil
abbrev scA (now : List Lk) (H : List Nat) (fr k : Nat) : List AV := [.agg [nkA now, nl (zl H)], nv fr, nv k, .ptr 12 0, .ptr 3 0, .ptr 13 0, .ptr 0 0, .ptr 1 0, .ptr 2 0, .ptr 16 0]
theorem hpC_bd (N : List Lk) (H : List Nat) (lo hi hand : Nat) (t : Nat × Nat) : ObBd 17 (hpC N H lo hi hand t) 17 := by
 have lN := lks_no (cL N)
 have lM := ivs_no (zl H)
 have lR := flat_no (zp (rtL N (N.length + 1)))
 repeat' (first | exact trivial | exact Nat.zero_le _ | exact bdl_no lN | exact bdl_no lM | exact bdl_no lR | exact Nat.le_of_ble_eq_true rfl | apply And.intro | exact Nat.max_le.2 ⟨Nat.zero_le _, bdl_no lN⟩)
theorem search0_h {N now : List Lk} (h : okN N) (h2 : okN now) (h1 : 1 ≤ N.length) (hN : N.length ≤ 5) (hl : now.length = N.length) {H : List Nat} (hH : hdN N.length H) (lo hi : Nat) {hand : Nat} (hh : hand < H.length) {t : Nat × Nat} (t1 : t.1 ≤ 50000) (t2 : t.2 ≤ 50000) (fr : Nat) :
  HFun prog 112 (scA now H fr 0) (hv (hpC N H lo hi hand t)) 17 (srV (sr0 N H hand t now fr)) (hv (hpC N H lo hi hand t)) := by
 have lN := lks_no (cL N)
 have lN2 := lks_no (cL now)
 have lM := ivs_no (zl H)
 have lR := flat_no (zp (rtL N (N.length + 1)))
 have pw := with_pure h2 (by omega) (by omega) (zl H)
 have ps := suits_pure h h2 hN hl hH hh t1 t2
 have lR2 := flat_no (zp (rtL now (now.length + 1)))
 have hb := hpC_bd N H lo hi hand t
 unfold wiV at pw ps
 have ev : srV (sr0 N H hand t now fr) = .tup [.nils, .bool (decide (suP N now H hand t))] := by
  unfold sr0
  by_cases e : suP N now H hand t
  ·rw [if_pos e, decide_eq_true e]; rfl
  ·rw [if_neg e, decide_eq_false e]; rfl
 rw [ev]
 refine hfun_sym hE rfl (hpC_end N H lo hi hand t) (Nat.max_le.2 ⟨Nat.max_le.2 ⟨Nat.max_le.2 ⟨Nat.zero_le _, bdl_no lN2⟩, Nat.max_le.2 ⟨Nat.max_le.2 ⟨Nat.zero_le _, bdl_no lM⟩, Nat.zero_le _⟩⟩, Nat.le_of_ble_eq_true rfl⟩) (Nat.zero_le _) hb hb fun S q pc hS hq hC hE => ?_
 conv => whnf
 refine sym_pure hC (pw) ?_
 conv => whnf
 refine sym_pure hC (ps) ?_
 conv => whnf
 refine sym_drawn hS (by kernel_rfl) ?_
 conv => whnf
 exact ⟨_, rfl, WkV.refl _, rfl, rfl, rfl, rfl, rfl, rfl, rfl, rfl, rfl, rfl, rfl, rfl, rfl, rfl, rfl, rfl, rfl, trivial⟩
end
end Go.Abs.Seat

/-! Changes: what is spoilt, as the program and the document tell it. -/
namespace Go.Abs.Seat
noncomputable section
open Go Go.Abs Go.Proofs.Tryz
set_option maxRecDepth 100000
set_option maxHeartbeats 40000000
attribute [local irreducible] IntKind.wrap pEq

theorem wrN {N : List Lk} (h1 : 1 ≤ N.length) (h5 : N.length ≤ 5) : IntKind.i64.wrap ((N.length : Int) - 1) = (N.length : Int) - 1 := wrapI (by omega) (by omega)
def cgOk (N : List Lk) (i a b : Int) : Prop := (0 ≤ i ∧ i < (N.length : Int)) ∧ (tth a ∧ tth b) ∧ ¬ (a = Int.ofNat (gN N i.toNat).2.1 ∧ b = Int.ofNat (gN N i.toNat).2.2)
instance (N : List Lk) (i a b : Int) : Decidable (cgOk N i a b) := Classical.propDecidable _
theorem lkP0 {N : List Lk} {i : Nat} (h : i < N.length) : takeN 2 (dropN (i * 3 + 1) (lks (cL N))) = some [nv (gN N i).2.1, nv (gN N i).2.2] := by
 have := tak_lk2 (cL N) (i := i) (by rw [cL_len]; exact h)
 rwa [gL_cL N h] at this
theorem pcN.len {N : List Lk} {H : List Nat} (h : pcN N H) {N2 : List Lk} (h2 : okN N2) (hl : N2.length = N.length) : pcN N2 H :=
 ⟨h2, by rw [hl]; exact h.l1, by rw [hl]; exact h.l5, h.h1, h.h4, fun x hx => by rw [hl]; exact h.hd x hx⟩
theorem sSpoils_yes {N : List Lk} {H : List Nat} (h : pcN N H) {i a b : Nat} (hi : i < N.length) (ha : tN a) (hb : tN b) (hc : ¬ (a = (gN N i).2.1 ∧ b = (gN N i).2.2)) : Pure prog 37 [.agg [nkA N, nl (zl H)], .agg [nv i, nv a, nv b]] (.tup [sv (zl (spL N (chN N i a b) H H.length)), iv 0]) := by
 have lN := lks_no (cL N)
 have lM := ivs_no (zl H)
 have hw := wrN h.l1 h.l5
 have h2 := h.ok.ch (i := i) (a := a) (b := b) hi ha hb
 have hl := chN_len N i a b
 have lN2 := lks_no (cL (chN N i a b))
 have c1 : (!decide (0 ≤ Int.ofNat i ∧ Int.ofNat i ≤ IntKind.i64.wrap ((N.length : Int) - 1))) = false := nt_t (decide_eq_true (by rw [hw]; simp only [Int.ofNat_eq_natCast]; omega))
 have c2 : (!decide (tth (Int.ofNat a) ∧ tth (Int.ofNat b))) = false := nt_t (decide_eq_true ⟨tN_i ha, tN_i hb⟩)
 have p1 := with_pure h.ok h.l1 h.l5 (zl H)
 have p2 := changed_pure h.l5 (zl H) hi a b
 have p3 := with_pure h2 (by rw [hl]; exact h.l1) (by rw [hl]; exact h.l5) (zl H)
 have p4 := spoils_pure h.ok h2 h.l5 hl h.hdN
 have lR := flat_no (zp (rtL N (N.length + 1)))
 have lR2 := flat_no (zp (rtL (chN N i a b) ((chN N i a b).length + 1)))
 have lv := sv_no (zl (spL N (chN N i a b) H H.length))
 unfold wiV at p1 p3 p4
 generalize spL N (chN N i a b) H H.length = l at *
 cases l
 all_goals
  refine pure_sym hE rfl (by repeat' (first | exact trivial | assumption | exact flat_no _ | exact (fun _ h => nomatch h) | apply And.intro)) (by repeat' (first | exact trivial | assumption | exact flat_no _ | exact (fun _ h => nomatch h) | apply And.intro)) fun S q pc hS hq hC hE => ?_
  conv => whnf
  repeat ((first
   |refine plan_as (takP (lkP0 hi)) ?_
   |refine ko_sT c1 ?_
   |refine ko_rF c1 ?_
   |refine plan_as (pick_f c1) ?_
   |refine bool_false c1 ?_
   |refine ko_sT c2 ?_
   |refine ko_rF c2 ?_
   |refine plan_as (pick_f c2) ?_
   |refine bool_false c2 ?_
   |refine ko_rT (gff c1) ?_
   |refine ko_sF (gff c1) ?_
   |refine plan_as (pick_t (gff c1)) ?_
   |refine bool_true (gff c1) ?_
   |refine ko_rT (gff c2) ?_
   |refine ko_sF (gff c2) ?_
   |refine plan_as (pick_t (gff c2)) ?_
   |refine bool_true (gff c2) ?_
   |refine ko_rT (inR_t hi) ?_
   |refine ko_sF (inR_t hi) ?_
   |refine plan_as (pick_t (inR_t hi)) ?_
   |refine bool_true (inR_t hi) ?_
   |refine sym_pure hC (h.isP) ?_
   |refine sym_pure hC (sin_pure (Int.ofNat i) 0 (IntKind.i64.wrap ((N.length : Int) - 1))) ?_
   |refine sym_pure hC (isPair_pure (Int.ofNat a) (Int.ofNat b)) ?_
   |refine sym_drawn hS (by kernel_rfl) ?_); conv => whnf)
  refine sym_eq hq false (eqQ_ne (.inr rfl) _ _ _ _ _ fun z => hc ⟨Int.ofNat.inj z.1, Int.ofNat.inj z.2⟩) ?_
  conv => whnf
  repeat ((first
   |refine ko_sT c1 ?_
   |refine ko_rF c1 ?_
   |refine plan_as (pick_f c1) ?_
   |refine bool_false c1 ?_
   |refine ko_sT c2 ?_
   |refine ko_rF c2 ?_
   |refine plan_as (pick_f c2) ?_
   |refine bool_false c2 ?_
   |refine ko_rT (gff c1) ?_
   |refine ko_sF (gff c1) ?_
   |refine plan_as (pick_t (gff c1)) ?_
   |refine bool_true (gff c1) ?_
   |refine ko_rT (gff c2) ?_
   |refine ko_sF (gff c2) ?_
   |refine plan_as (pick_t (gff c2)) ?_
   |refine bool_true (gff c2) ?_
   |refine sym_pure hC (p1) ?_
   |refine sym_pure hC (p2) ?_
   |refine sym_pure hC (p3) ?_
   |refine sym_pure hC (p4) ?_
   |refine sym_drawn hS (by kernel_rfl) ?_); conv => whnf)
  exact ⟨_, rfl, Wk.refl _⟩
end
end Go.Abs.Seat

/-! Changes: what is as defined, a piece with a change, what is spoilt, as the document tells it. -/
namespace Go.Abs.Seat
noncomputable section
open Go Go.Abs Go.Proofs.Tryz
set_option maxRecDepth 100000
set_option maxHeartbeats 40000000
attribute [local irreducible] IntKind.wrap pEq

theorem rChange_pure {N : List Lk} {H : List Nat} (h : pcN N H) (i a b : Int) : Pure prog 38 [.agg [nkA N, nl (zl H)], .agg [iv i, iv a, iv b]] (.bool (decide (cgOk N i a b))) := by
 have lN := lks_no (cL N)
 have lM := ivs_no (zl H)
 have hw := wrN h.l1 h.l5
 by_cases q1 : 0 ≤ i ∧ i < (N.length : Int)
 ·have c1 : decide (0 ≤ i ∧ i ≤ IntKind.i64.wrap ((N.length : Int) - 1)) = true := decide_eq_true (by rw [hw]; omega)
  obtain ⟨k, rfl, _⟩ := int_nat (m := (N.length : Int)) (a := i) ⟨q1.1, by omega⟩
  have hk : k < N.length := Int.ofNat_lt.1 q1.2
  by_cases q2 : tth a ∧ tth b
  ·have c2 : decide (tth a ∧ tth b) = true := decide_eq_true q2
   by_cases q3 : a = Int.ofNat (gN N k).2.1 ∧ b = Int.ofNat (gN N k).2.2
   ·rw [decide_eq_false fun z : cgOk N (Int.ofNat k) a b => z.2.2 q3]
    obtain ⟨rfl, rfl⟩ := q3
    refine pure_sym hE rfl (by repeat' (first | exact trivial | assumption | exact flat_no _ | exact (fun _ h => nomatch h) | apply And.intro)) (by repeat' (first | exact trivial | assumption | exact flat_no _ | exact (fun _ h => nomatch h) | apply And.intro)) fun S q pc hS hq hC hE => ?_
    conv => whnf
    repeat ((first
     |refine plan_as (takP (lkP0 hk)) ?_
     |refine ko_rT c1 ?_
     |refine ko_sF c1 ?_
     |refine plan_as (pick_t c1) ?_
     |refine bool_true c1 ?_
     |refine ko_rT c2 ?_
     |refine ko_sF c2 ?_
     |refine plan_as (pick_t c2) ?_
     |refine bool_true c2 ?_
     |refine ko_rT (gd_tt c1) ?_
     |refine ko_sF (gd_tt c1) ?_
     |refine plan_as (pick_t (gd_tt c1)) ?_
     |refine bool_true (gd_tt c1) ?_
     |refine ko_rT (gd_tt c2) ?_
     |refine ko_sF (gd_tt c2) ?_
     |refine plan_as (pick_t (gd_tt c2)) ?_
     |refine bool_true (gd_tt c2) ?_
     |refine ko_rT (inR_t hk) ?_
     |refine ko_sF (inR_t hk) ?_
     |refine plan_as (pick_t (inR_t hk)) ?_
     |refine bool_true (inR_t hk) ?_
     |refine sym_pure hC (in9_pure (Int.ofNat k) 0 (IntKind.i64.wrap ((N.length : Int) - 1))) ?_
     |refine sym_pure hC (rPair9_pure _ _) ?_
     |refine sym_drawn hS (by kernel_rfl) ?_); conv => whnf)
    refine sym_eq hq true (eqQ_same (.inr rfl) _ _ _) ?_
    conv => whnf
    repeat ((first
     |refine ko_rT c1 ?_
     |refine ko_sF c1 ?_
     |refine plan_as (pick_t c1) ?_
     |refine bool_true c1 ?_
     |refine ko_rT c2 ?_
     |refine ko_sF c2 ?_
     |refine plan_as (pick_t c2) ?_
     |refine bool_true c2 ?_
     |refine ko_rT (gd_tt c1) ?_
     |refine ko_sF (gd_tt c1) ?_
     |refine plan_as (pick_t (gd_tt c1)) ?_
     |refine bool_true (gd_tt c1) ?_
     |refine ko_rT (gd_tt c2) ?_
     |refine ko_sF (gd_tt c2) ?_
     |refine plan_as (pick_t (gd_tt c2)) ?_
     |refine bool_true (gd_tt c2) ?_
     |refine sym_drawn hS (by kernel_rfl) ?_); conv => whnf)
    exact ⟨_, rfl, Wk.refl _⟩
   ·rw [decide_eq_true (show cgOk N (Int.ofNat k) a b from ⟨q1, q2, q3⟩)]
    refine pure_sym hE rfl (by repeat' (first | exact trivial | assumption | exact flat_no _ | exact (fun _ h => nomatch h) | apply And.intro)) (by repeat' (first | exact trivial | assumption | exact flat_no _ | exact (fun _ h => nomatch h) | apply And.intro)) fun S q pc hS hq hC hE => ?_
    conv => whnf
    repeat ((first
     |refine plan_as (takP (lkP0 hk)) ?_
     |refine ko_rT c1 ?_
     |refine ko_sF c1 ?_
     |refine plan_as (pick_t c1) ?_
     |refine bool_true c1 ?_
     |refine ko_rT c2 ?_
     |refine ko_sF c2 ?_
     |refine plan_as (pick_t c2) ?_
     |refine bool_true c2 ?_
     |refine ko_rT (gd_tt c1) ?_
     |refine ko_sF (gd_tt c1) ?_
     |refine plan_as (pick_t (gd_tt c1)) ?_
     |refine bool_true (gd_tt c1) ?_
     |refine ko_rT (gd_tt c2) ?_
     |refine ko_sF (gd_tt c2) ?_
     |refine plan_as (pick_t (gd_tt c2)) ?_
     |refine bool_true (gd_tt c2) ?_
     |refine ko_rT (inR_t hk) ?_
     |refine ko_sF (inR_t hk) ?_
     |refine plan_as (pick_t (inR_t hk)) ?_
     |refine bool_true (inR_t hk) ?_
     |refine sym_pure hC (in9_pure (Int.ofNat k) 0 (IntKind.i64.wrap ((N.length : Int) - 1))) ?_
     |refine sym_pure hC (rPair9_pure a b) ?_
     |refine sym_drawn hS (by kernel_rfl) ?_); conv => whnf)
    refine sym_eq hq false (eqQ_ne (.inr rfl) _ _ _ _ _ fun z => q3 ⟨z.1.symm, z.2.symm⟩) ?_
    conv => whnf
    repeat ((first
     |refine ko_rT c1 ?_
     |refine ko_sF c1 ?_
     |refine plan_as (pick_t c1) ?_
     |refine bool_true c1 ?_
     |refine ko_rT c2 ?_
     |refine ko_sF c2 ?_
     |refine plan_as (pick_t c2) ?_
     |refine bool_true c2 ?_
     |refine ko_rT (gd_tt c1) ?_
     |refine ko_sF (gd_tt c1) ?_
     |refine plan_as (pick_t (gd_tt c1)) ?_
     |refine bool_true (gd_tt c1) ?_
     |refine ko_rT (gd_tt c2) ?_
     |refine ko_sF (gd_tt c2) ?_
     |refine plan_as (pick_t (gd_tt c2)) ?_
     |refine bool_true (gd_tt c2) ?_
     |refine sym_drawn hS (by kernel_rfl) ?_); conv => whnf)
    exact ⟨_, rfl, Wk.refl _⟩
  ·have c2 : decide (tth a ∧ tth b) = false := decide_eq_false q2
   rw [decide_eq_false fun z : cgOk N (Int.ofNat k) a b => q2 z.2.1]
   refine pure_sym hE rfl (by repeat' (first | exact trivial | assumption | exact flat_no _ | exact (fun _ h => nomatch h) | apply And.intro)) (by repeat' (first | exact trivial | assumption | exact flat_no _ | exact (fun _ h => nomatch h) | apply And.intro)) fun S q pc hS hq hC hE => ?_
   conv => whnf
   repeat ((first
    |refine plan_as (takP (lkP0 hk)) ?_
    |refine ko_rT c1 ?_
    |refine ko_sF c1 ?_
    |refine plan_as (pick_t c1) ?_
    |refine bool_true c1 ?_
    |refine ko_sT c2 ?_
    |refine ko_rF c2 ?_
    |refine plan_as (pick_f c2) ?_
    |refine bool_false c2 ?_
    |refine ko_rT (gd_tt c1) ?_
    |refine ko_sF (gd_tt c1) ?_
    |refine plan_as (pick_t (gd_tt c1)) ?_
    |refine bool_true (gd_tt c1) ?_
    |refine ko_sT (gd_tf c2) ?_
    |refine ko_rF (gd_tf c2) ?_
    |refine plan_as (pick_f (gd_tf c2)) ?_
    |refine bool_false (gd_tf c2) ?_
    |refine ko_rT (inR_t hk) ?_
    |refine ko_sF (inR_t hk) ?_
    |refine plan_as (pick_t (inR_t hk)) ?_
    |refine bool_true (inR_t hk) ?_
    |refine sym_pure hC (in9_pure (Int.ofNat k) 0 (IntKind.i64.wrap ((N.length : Int) - 1))) ?_
    |refine sym_pure hC (rPair9_pure a b) ?_
    |refine sym_drawn hS (by kernel_rfl) ?_); conv => whnf)
   exact ⟨_, rfl, Wk.refl _⟩
 ·have c1 : decide (0 ≤ i ∧ i ≤ IntKind.i64.wrap ((N.length : Int) - 1)) = false := decide_eq_false (by rw [hw]; omega)
  rw [decide_eq_false fun z : cgOk N i a b => q1 z.1]
  refine pure_sym hE rfl (by repeat' (first | exact trivial | assumption | exact flat_no _ | exact (fun _ h => nomatch h) | apply And.intro)) (by repeat' (first | exact trivial | assumption | exact flat_no _ | exact (fun _ h => nomatch h) | apply And.intro)) fun S q pc hS hq hC hE => ?_
  conv => whnf
  repeat ((first
   |refine ko_sT c1 ?_
   |refine ko_rF c1 ?_
   |refine plan_as (pick_f c1) ?_
   |refine bool_false c1 ?_
   |refine ko_sT (gd_tf c1) ?_
   |refine ko_rF (gd_tf c1) ?_
   |refine plan_as (pick_f (gd_tf c1)) ?_
   |refine bool_false (gd_tf c1) ?_
   |refine sym_pure hC (in9_pure i 0 (IntKind.i64.wrap ((N.length : Int) - 1))) ?_
   |refine sym_drawn hS (by kernel_rfl) ?_); conv => whnf)
  exact ⟨_, rfl, Wk.refl _⟩
def muR : MuT := fun d t => match d with | some d => (Nat.beq d 9) && (Nat.beq t 32) | Option.none => false
theorem rChanged_pure {N : List Lk} (h5 : N.length ≤ 5) (M : List Int) {i : Nat} (hi : i < N.length) (a b : Nat) : Pure prog 100 [.agg [nkA N, nl M], .agg [nv i, nv a, nv b]] (.agg [nkA (chN N i a b), nl M]) := by
 have lM := ivs_no M
 have lC := lks_no (cL (chN N i a b))
 rcases N with _ | ⟨x0, _ | ⟨x1, _ | ⟨x2, _ | ⟨x3, _ | ⟨x4, _ | ⟨x5, r⟩⟩⟩⟩⟩⟩
 ·exact absurd hi (Nat.not_lt_zero _)
 ·have lN := lks_no (cL [x0])
  obtain rfl : i = 0 := by simp only [List.length_cons, List.length_nil] at hi; omega
  refine pure_symF (hEM muR) rfl (by repeat' (first | exact trivial | assumption | exact flat_no _ | exact (fun _ h => nomatch h) | apply And.intro)) (by repeat' (first | exact trivial | assumption | exact flat_no _ | exact (fun _ h => nomatch h) | apply And.intro)) fun S q pc hS hq hC hE => ?_
  conv => whnf
  exact ⟨_, rfl, FzV.agg ⟨FzV.slcN rfl rfl (chkT.at (by repeat' (first | exact trivial | kernel_rfl | apply And.intro))) lC, FzV.no ⟨lM, fun _ e => nomatch e⟩, trivial⟩⟩
 ·have lN := lks_no (cL [x0, x1])
  have hc : i = 0 ∨ i = 1 := by simp only [List.length_cons, List.length_nil] at hi; omega
  rcases hc with rfl | rfl
  all_goals
   refine pure_symF (hEM muR) rfl (by repeat' (first | exact trivial | assumption | exact flat_no _ | exact (fun _ h => nomatch h) | apply And.intro)) (by repeat' (first | exact trivial | assumption | exact flat_no _ | exact (fun _ h => nomatch h) | apply And.intro)) fun S q pc hS hq hC hE => ?_
   conv => whnf
   exact ⟨_, rfl, FzV.agg ⟨FzV.slcN rfl rfl (chkT.at (by repeat' (first | exact trivial | kernel_rfl | apply And.intro))) lC, FzV.no ⟨lM, fun _ e => nomatch e⟩, trivial⟩⟩
 ·have lN := lks_no (cL [x0, x1, x2])
  have hc : i = 0 ∨ i = 1 ∨ i = 2 := by simp only [List.length_cons, List.length_nil] at hi; omega
  rcases hc with rfl | rfl | rfl
  all_goals
   refine pure_symF (hEM muR) rfl (by repeat' (first | exact trivial | assumption | exact flat_no _ | exact (fun _ h => nomatch h) | apply And.intro)) (by repeat' (first | exact trivial | assumption | exact flat_no _ | exact (fun _ h => nomatch h) | apply And.intro)) fun S q pc hS hq hC hE => ?_
   conv => whnf
   exact ⟨_, rfl, FzV.agg ⟨FzV.slcN rfl rfl (chkT.at (by repeat' (first | exact trivial | kernel_rfl | apply And.intro))) lC, FzV.no ⟨lM, fun _ e => nomatch e⟩, trivial⟩⟩
 ·have lN := lks_no (cL [x0, x1, x2, x3])
  have hc : i = 0 ∨ i = 1 ∨ i = 2 ∨ i = 3 := by simp only [List.length_cons, List.length_nil] at hi; omega
  rcases hc with rfl | rfl | rfl | rfl
  all_goals
   refine pure_symF (hEM muR) rfl (by repeat' (first | exact trivial | assumption | exact flat_no _ | exact (fun _ h => nomatch h) | apply And.intro)) (by repeat' (first | exact trivial | assumption | exact flat_no _ | exact (fun _ h => nomatch h) | apply And.intro)) fun S q pc hS hq hC hE => ?_
   conv => whnf
   exact ⟨_, rfl, FzV.agg ⟨FzV.slcN rfl rfl (chkT.at (by repeat' (first | exact trivial | kernel_rfl | apply And.intro))) lC, FzV.no ⟨lM, fun _ e => nomatch e⟩, trivial⟩⟩
 ·have lN := lks_no (cL [x0, x1, x2, x3, x4])
  have hc : i = 0 ∨ i = 1 ∨ i = 2 ∨ i = 3 ∨ i = 4 := by simp only [List.length_cons, List.length_nil] at hi; omega
  rcases hc with rfl | rfl | rfl | rfl | rfl
  all_goals
   refine pure_symF (hEM muR) rfl (by repeat' (first | exact trivial | assumption | exact flat_no _ | exact (fun _ h => nomatch h) | apply And.intro)) (by repeat' (first | exact trivial | assumption | exact flat_no _ | exact (fun _ h => nomatch h) | apply And.intro)) fun S q pc hS hq hC hE => ?_
   conv => whnf
   exact ⟨_, rfl, FzV.agg ⟨FzV.slcN rfl rfl (chkT.at (by repeat' (first | exact trivial | kernel_rfl | apply And.intro))) lC, FzV.no ⟨lM, fun _ e => nomatch e⟩, trivial⟩⟩
 ·simp only [List.length_cons] at h5
  omega
end
end Go.Abs.Seat

/-! Which hands a change spoils, as the document tells it. -/
namespace Go.Abs.Seat
noncomputable section
open Go Go.Abs Go.Proofs.Tryz
set_option maxRecDepth 100000
set_option maxHeartbeats 40000000
attribute [local irreducible] IntKind.wrap pEq

theorem rsm_red {N N2 : List Lk} (h : okN N) (h2 : okN N2) {a : Nat} (ha : a ≤ N.length) (ha2 : a ≤ N2.length) : rdA N a = rdA N2 a ↔ rsm (rtA N a) (rtA N2 a) :=
 redF_eq (rtA_le h ha).2.1 (rtA_le h2 ha2).2.1
end
end Go.Abs.Seat

/-! Whether a piece suits, as the document tells it. -/
namespace Go.Abs.Seat
noncomputable section
open Go Go.Abs Go.Proofs.Tryz
set_option maxRecDepth 100000
set_option maxHeartbeats 40000000
attribute [local irreducible] IntKind.wrap pEq

theorem spL_mem {N N2 : List Lk} {H : List Nat} {x : Nat} : ∀ {k : Nat}, x ∈ spL N N2 H k ↔ x < k ∧ ¬ rsm (rtA N (gn H x)) (rtA N2 (gn H x))
 | 0 => by simp [spL]
 |k + 1 => by
  rw [spL, List.mem_append, spL_mem]
  by_cases h : rsm (rtA N (gn H k)) (rtA N2 (gn H k))
  ·rw [if_pos h]
   constructor
   ·rintro (h1 | h1)
    ·exact ⟨by omega, h1.2⟩
    ·cases h1
   ·rintro ⟨h1, h2⟩
    by_cases e : x = k
    ·subst e; exact absurd h h2
    ·exact .inl ⟨by omega, h2⟩
  ·rw [if_neg h]
   constructor
   ·rintro (h1 | h1)
    ·exact ⟨by omega, h1.2⟩
    ·obtain rfl := List.mem_singleton.1 h1
     exact ⟨by omega, h⟩
   ·rintro ⟨h1, h2⟩
    by_cases e : x = k
    ·exact .inr (List.mem_singleton.2 e)
    ·exact .inl ⟨by omega, h2⟩
theorem spL_one {N N2 : List Lk} {H : List Nat} {y : Nat} : ∀ {k : Nat}, (∀ x, x ∈ spL N N2 H k → x = y) → spL N N2 H k = [] ∨ spL N N2 H k = [y]
 | 0, _ => .inl rfl
 |k + 1, h => by
  rw [spL] at h ⊢
  by_cases hr : rsm (rtA N (gn H k)) (rtA N2 (gn H k))
  ·rw [if_pos hr, List.append_nil] at h ⊢
   exact spL_one h
  ·rw [if_neg hr] at h ⊢
   obtain rfl : k = y := h k (List.mem_append_right _ (List.mem_singleton.2 rfl))
   have e : spL N N2 H k = [] := by
    rw [List.eq_nil_iff_forall_not_mem]
    intro x hx
    have h1 := h x (List.mem_append_left _ hx)
    have h2 := spL_mem.1 hx
    omega
   rw [e]
   exact .inr rfl
def othL (N N2 : List Lk) (H : List Nat) (hand k : Nat) : Prop := ∀ i, i < k → i ≠ hand → rsm (rtA N (gn H i)) (rtA N2 (gn H i))
instance (N N2 : List Lk) (H : List Nat) (hand k : Nat) : Decidable (othL N N2 H hand k) := Classical.propDecidable _
theorem suP_iff {N N2 : List Lk} {H : List Nat} {hand : Nat} {to : Nat × Nat} : suP N N2 H hand to ↔ rsm (rtA N2 (gn H hand)) to ∧ othL N N2 H hand H.length := by
 unfold suP othL
 refine and_congr_right fun _ => ⟨fun h i hi hn => ?_, fun h => spL_one fun x hx => ?_⟩
 ·apply Classical.byContradiction
  intro k
  have m := spL_mem.2 ⟨hi, k⟩
  rcases h with h | h <;> rw [h] at m
  ·cases m
  ·exact hn (List.mem_singleton.1 m)
 ·have m := spL_mem.1 hx
  apply Classical.byContradiction
  intro k
  exact m.2 (h x m.1 k)
theorem rsm_to {N : List Lk} (h : okN N) {a n d : Nat} (ha : a ≤ N.length) (hd : 1 ≤ d) : rdA N a = redF n d ↔ rsm (rtA N a) (n, d) := redF_eq (rtA_le h ha).2.1 hd
end
end Go.Abs.Seat
