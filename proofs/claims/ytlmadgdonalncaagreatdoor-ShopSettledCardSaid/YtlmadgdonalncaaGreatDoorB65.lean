/-
  Books of accounts: balances, as the document says.
-/
import Derived.Test.YtlmadgdonalncaaGreatDoorB64
/-! Books of accounts: balances, as the document says. -/
namespace Go.Abs.Seat
noncomputable section
open Go Go.Abs Go.Proofs.Tryz
set_option maxRecDepth 100000
set_option maxHeartbeats 40000000
attribute [local irreducible] IntKind.wrap pEq

theorem fl_bd {a : Int} {e : LkI} (h : 0 ≤ e.2.2 ∧ e.2.2 ≤ 1000000) : -1000000 ≤ fl a e ∧ fl a e ≤ 1000000 := by
 unfold fl
 split <;> split <;> omega
theorem sg_bd : ∀ {L : List LkI} {a : Int}, (∀ j, j < L.length → 0 ≤ (gL L j).2.2 ∧ (gL L j).2.2 ≤ 1000000) → -((L.length : Int) * 1000000) ≤ sg L a ∧ sg L a ≤ (L.length : Int) * 1000000
 | [], _, _ => ⟨by simp [sg], by simp [sg]⟩
 |e :: r, a, h => by
  have h0 := fl_bd (a := a) (h 0 (Nat.succ_pos _))
  have := sg_bd (L := r) (a := a) fun j hj => h (j + 1) (Nat.succ_lt_succ hj)
  rw [gL_zero] at h0
  rw [sg, List.length_cons, Int.natCast_add]
  omega
theorem sg_take (L : List LkI) {i : Nat} (h : i < L.length) (a : Int) : sg (L.take (i + 1)) a = sg (L.take i) a + fl a (gL L i) := by
 rw [take_gL L h, sg_app, sg, sg, Int.add_zero]
theorem gL_takeE (L : List LkI) {i j : Nat} (h : j < i) : gL (L.take i) j = gL L j := by
 simp [gL, List.getD, h]
theorem blL_len (L : List LkI) (k : Nat) : (blL L k).length = k := by unfold blL; rw [List.length_map, List.length_range]
theorem blL_get (L : List LkI) {k a : Nat} (h : a < k) : (blL L k).getD a 0 = sg L (Int.ofNat a) := by
 rw [← blI_sg]
 simp [blL, List.getD, h]
theorem list_ext {l r : List Int} (h : l.length = r.length) (k : ∀ a, a < l.length → l.getD a 0 = r.getD a 0) : l = r := by
 refine List.ext_getElem h fun i h1 h2 => ?_
 have := k i h1
 simpa [List.getD, h1, h2] using this
theorem sum_fl {n : Nat} {e : LkI} (h : 0 ≤ e.1 ∧ e.1 < (n : Int)) (h2 : 0 ≤ e.2.1 ∧ e.2.1 < (n : Int)) : sumN n (fun a => fl (Int.ofNat a) e) = 0 := by
 have e1 : ∀ a : Nat, fl (Int.ofNat a) e = (if a = e.2.1.toNat then e.2.2 else 0) + (if a = e.1.toNat then - e.2.2 else 0) := fun a => by
  unfold fl
  have d1 : (e.2.1 = Int.ofNat a) = (a = e.2.1.toNat) := propext ⟨fun z => by rw [z]; rfl, fun z => by rw [z]; exact (Int.toNat_of_nonneg h2.1).symm⟩
  have d2 : (e.1 = Int.ofNat a) = (a = e.1.toNat) := propext ⟨fun z => by rw [z]; rfl, fun z => by rw [z]; exact (Int.toNat_of_nonneg h.1).symm⟩
  simp only [d1, d2]
  split <;> split <;> omega
 rw [sumN_eq (g := fun a => (if a = e.2.1.toNat then e.2.2 else 0) + (if a = e.1.toNat then - e.2.2 else 0)) fun a _ => e1 a, sumN_add, sumN_at, sumN_at, if_pos (by omega), if_pos (by omega)]
 omega
theorem sum_sg {n : Nat} : ∀ {L : List LkI}, (∀ j, j < L.length → (0 ≤ (gL L j).1 ∧ (gL L j).1 < (n : Int)) ∧ (0 ≤ (gL L j).2.1 ∧ (gL L j).2.1 < (n : Int))) → sumN n (fun a => sg L (Int.ofNat a)) = 0
 | [], _ => sumN_z n
 |e :: r, h => by
  have h0 := h 0 (Nat.succ_pos _)
  rw [gL_zero] at h0
  have := sum_sg (L := r) fun j hj => h (j + 1) (Nat.succ_lt_succ hj)
  have e1 : sumN n (fun a => sg (e :: r) (Int.ofNat a)) = sumN n (fun a => fl (Int.ofNat a) e + sg r (Int.ofNat a)) := sumN_eq fun a _ => rfl
  rw [e1, sumN_add, this, sum_fl h0.1 h0.2]; rfl
theorem bk_sum {k : Nat} {L : List LkI} (h : bkOk (Int.ofNat k) L) : sumN (blL L k).length (fun a => (blL L k).getD a 0) = 0 := by
 rw [blL_len, sumN_eq (g := fun a => sg L (Int.ofNat a)) fun a ha => blL_get L ha]
 exact sum_sg fun j hj => ⟨(h.2.2 j hj).1, (h.2.2 j hj).2.1⟩
theorem bk_bd {k : Nat} {L : List LkI} (h : bkOk (Int.ofNat k) L) : ∀ a, a < (blL L k).length → - 8000000 ≤ (blL L k).getD a 0 ∧ (blL L k).getD a 0 ≤ 8000000 := fun a ha => by
 rw [blL_len] at ha
 rw [blL_get L ha]
 have := sg_bd (L := L) (a := Int.ofNat a) fun j hj => (h.2.2 j hj).2.2.2
 have := h.2.1
 omega
theorem bk_best {k : Nat} {L : List LkI} (h : bkOk (Int.ofNat k) L) : ∃ R, BkS (blL L k) R := by
 have hk : (blL L k).length ≤ 5 := by rw [blL_len]; exact Int.ofNat_le.1 h.1.2
 obtain ⟨x, r, _, hb⟩ := bst_all hk (bk_sum h) rfl
 exact ⟨_, hb⟩
structure BInv (L : List LkI) (k i : Nat) (lf : List Int) (t : Tr AV) : Prop where
 len : lf.length = k
 c : ∀ j, t.get j = (ivs lf)[j]?
 v : ∀ a, a < k → lf.getD a 0 = sg (L.take i) (Int.ofNat a)
theorem BInv.get {L : List LkI} {k i : Nat} {lf : List Int} {t : Tr AV} (h : BInv L k i lf t) {a : Nat} (ha : a < k) : t.get (0 + a * 1) = some (iv (lf.getD a 0)) := by
 rw [h.c, show 0 + a * 1 = a by omega, ivs_getD (by rw [h.len]; exact ha)]
theorem BInv.bd {L : List LkI} {k i : Nat} {lf : List Int} {t : Tr AV} (h : BInv L k i lf t) (hL : bkOk (Int.ofNat k) L) {a : Nat} (ha : a < k) : -8000000 ≤ lf.getD a 0 ∧ lf.getD a 0 ≤ 8000000 := by
 rw [h.v a ha]
 have h8 := hL.2.1
 have := sg_bd (L := L.take i) (a := Int.ofNat a) fun j hj => by
  rw [List.length_take] at hj
  rw [gL_takeE L (by omega)]
  exact (hL.2.2 j (by omega)).2.2.2
 have hl : (L.take i).length ≤ 8 := by rw [List.length_take]; omega
 omega
theorem BInv.step {L : List LkI} {k i : Nat} {lf : List Int} {t : Tr AV} (h : BInv L k i lf t) (hL : bkOk (Int.ofNat k) L) (hi : i < L.length) {f s : Nat} (hf : (gL L i).1 = Int.ofNat f) (hs : (gL L i).2.1 = Int.ofNat s) (hfk : f < k) (hsk : s < k) (hfs : f ≠ s) {t1 t2 : Tr AV} (e1 : t1 = tset (pathOf (0 + f * 1)) t (iv (IntKind.i64.wrap (lf.getD f 0 - (gL L i).2.2)))) (e2 : t2 = tset (pathOf (0 + s * 1)) t1 (iv (IntKind.i64.wrap (lf.getD s 0 + (gL L i).2.2)))) :
  t1.get (0 + s * 1) = some (iv (lf.getD s 0)) ∧ BInv L k (i + 1) ((lf.set f (lf.getD f 0 - (gL L i).2.2)).set s (lf.getD s 0 + (gL L i).2.2)) t2 := by
 have hc := (hL.2.2 i hi).2.2.2
 have b1 := h.bd hL hfk
 have b2 := h.bd hL hsk
 rw [show IntKind.i64.wrap (lf.getD f 0 - (gL L i).2.2) = lf.getD f 0 - (gL L i).2.2 from wrapI (by omega) (by omega)] at e1
 rw [show IntKind.i64.wrap (lf.getD s 0 + (gL L i).2.2) = lf.getD s 0 + (gL L i).2.2 from wrapI (by omega) (by omega)] at e2
 have hfl : f < lf.length := by rw [h.len]; exact hfk
 have g1 : ∀ j, t1.get j = (ivs (lf.set f (lf.getD f 0 - (gL L i).2.2)))[j]? := fun j => by
  rw [e1, tset_at (h.get hfk), ivs_set _ hfl, h.c, show 0 + f * 1 = f by omega]
 have hsl : s < (lf.set f (lf.getD f 0 - (gL L i).2.2)).length := by rw [List.length_set, h.len]; exact hsk
 have gs' : (lf.set f (lf.getD f 0 - (gL L i).2.2)).getD s 0 = lf.getD s 0 := by rw [getD_set _ _ hfl, if_neg (Ne.symm hfs)]
 have r1 : t1.get (0 + s * 1) = some (iv (lf.getD s 0)) := by rw [g1, show 0 + s * 1 = s by omega, ivs_getD hsl, gs']
 refine ⟨r1, by rw [List.length_set, List.length_set, h.len], fun j => ?_, fun a ha => ?_⟩
 ·rw [e2, tset_at r1, ivs_set _ hsl, g1, show 0 + s * 1 = s by omega]
 ·have hv := h.v a ha
  rw [getD_set _ _ hsl, getD_set _ _ hfl, sg_take L hi, ← hv]
  unfold fl
  rw [hf, hs]
  have d1 : (Int.ofNat s = Int.ofNat a) = (a = s) := propext ⟨fun z => (Int.ofNat.inj z).symm, fun z => by rw [z]⟩
  have d2 : (Int.ofNat f = Int.ofNat a) = (a = f) := propext ⟨fun z => (Int.ofNat.inj z).symm, fun z => by rw [z]⟩
  simp only [d1, d2]
  by_cases q1 : a = s
  ·subst q1
   rw [if_pos rfl, if_pos rfl, if_neg (Ne.symm hfs)]; omega
  ·rw [if_neg q1, if_neg q1]
   by_cases q2 : a = f
   ·subst q2
    rw [if_pos rfl, if_pos rfl]; omega
   ·rw [if_neg q2, if_neg q2]; omega
--STUB--
end
end Go.Abs.Seat
