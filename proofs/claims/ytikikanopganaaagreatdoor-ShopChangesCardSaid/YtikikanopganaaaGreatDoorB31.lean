/-
  All changes of a piece, as the document lists them.
-/
import Derived.Test.YtikikanopganaaaGreatDoorU11
import Derived.Test.YtikikanopganaaaGreatDoorB7
/-! All changes of a piece, as the document lists them. -/
namespace Go.Abs.Seat
noncomputable section
open Go Go.Abs Go.Proofs.Tryz
set_option maxRecDepth 100000
set_option maxHeartbeats 40000000
attribute [local irreducible] IntKind.wrap pEq

def cgB (N : List Lk) (i a lo : Nat) : Nat → List Lk
 | 0 => []
 |j + 1 => cgB N i a lo j ++ if (gN N i).2 = (a, lo + j) then [] else [(i, a, lo + j)]
def cgA (N : List Lk) (i lo w : Nat) : Nat → List Lk
 | 0 => []
 |s + 1 => cgA N i lo w s ++ cgB N i (lo + s) lo w
def cgF (N : List Lk) (lo w : Nat) : Nat → List Lk
 | 0 => []
 |k + 1 => cgF N lo w k ++ cgA N k lo w w
theorem cgB_len (N : List Lk) (i a lo : Nat) : ∀ j, (cgB N i a lo j).length ≤ j
 | 0 => Nat.zero_le _
 |j + 1 => by
  have := cgB_len N i a lo j
  rw [cgB, List.length_append]
  split
  ·simp only [List.length_nil]; omega
  ·simp only [List.length_cons, List.length_nil]; omega
theorem cgA_len (N : List Lk) (i lo w : Nat) : ∀ s, (cgA N i lo w s).length ≤ s * w
 | 0 => Nat.zero_le _
 |s + 1 => by
  have := cgA_len N i lo w s
  have := cgB_len N i (lo + s) lo w
  rw [cgA, List.length_append, Nat.succ_mul]; omega
theorem cgF_len (N : List Lk) (lo w : Nat) : ∀ k, (cgF N lo w k).length ≤ k * (w * w)
 | 0 => Nat.zero_le _
 |k + 1 => by
  have := cgF_len N lo w k
  have := cgA_len N k lo w w
  rw [cgF, List.length_append, Nat.succ_mul]; omega
def cgV (l : List Lk) : AV := match l with | [] => .nils | _ => nkA l
def grO (l : List Lk) (v : AV) (ux : List AObj) : Prop := l = [] ∧ v = .nils ∧ ux = [] ∨ l ≠ [] ∧ v = lkC l 1 ∧ ux = [.chain l.length 3 66]
theorem wk_cg (l : List Lk) (c : Nat) (h : l ≠ []) : Wk (lkC l c) (cgV l) := by
 cases l with
 |nil => exact absurd rfl h
 |cons x r => exact wk_own rfl
theorem cg_c {N : List Lk} {i a b : Nat} (hi : i < N.length) (ha : tN a) (hb : tN b) : decide (cgOk N (Int.ofNat i) (Int.ofNat a) (Int.ofNat b)) = !decide ((gN N i).2 = (a, b)) := by
 by_cases h : (gN N i).2 = (a, b)
 ·rw [decide_eq_true h]
  refine decide_eq_false fun z => z.2.2 ⟨?_, ?_⟩
  ·exact congrArg Int.ofNat (congrArg Prod.fst h).symm
  ·exact congrArg Int.ofNat (congrArg Prod.snd h).symm
 ·rw [decide_eq_false h]
  refine decide_eq_true ⟨⟨Int.natCast_nonneg _, Int.ofNat_lt.2 hi⟩, ⟨tN_i ha, tN_i hb⟩, fun z => h ?_⟩
  exact Prod.ext (Int.ofNat.inj z.1).symm (Int.ofNat.inj z.2).symm
theorem rnL {m : Nat} {rs : List Nat} {l : List Lk} {f a b : Nat} {j c e : Nat} (hj : j < rs.length) (h1 : rs.getD j 0 = c) (h2 : e = m + j) : RnV m rs (.lst (lks (cL l) ++ [nv f, nv a, nv b]) (l.length + (0 + 1)) (.ch c)) (lkC (l ++ [(f, a, b)]) e) := by
 rw [lkC_app]
 exact RnV.ch hj h1 h2 (bdl_no (lks_no _))
theorem after_pure {N : List Lk} {H : List Nat} (h : pcN N H) {lo hi : Nat} (hlo : 4 ≤ lo) (hle : lo ≤ hi) (hhi : hi ≤ 60) :
  Pure prog 115 [.agg [nkA N, nl (zl H)], iv 0, nv lo, nv hi] (cgV (cgF N lo (hi + 1 - lo) N.length)) := by
 have lN := lks_no (cL N)
 have lM := ivs_no (zl H)
 have lC : Live noL (cgV (cgF N lo (hi + 1 - lo) N.length)) := by
  cases cgF N lo (hi + 1 - lo) N.length with
  |nil => trivial
  |cons x r => exact ⟨lks_no _, fun _ h => nomatch h⟩
 have hw : 1 ≤ hi + 1 - lo ∧ hi + 1 - lo ≤ 57 ∧ lo + (hi + 1 - lo) = hi + 1 := by omega
 generalize hi + 1 - lo = w at hw lC
 have h5 := h.l5
 have ww : w * w ≤ 57 * 57 := Nat.mul_le_mul hw.2.1 hw.2.1
 refine pure_sym hE rfl (by repeat' (first | exact trivial | assumption | exact flat_no _ | exact (fun _ h => nomatch h) | apply And.intro)) (by repeat' (first | exact trivial | assumption | exact flat_no _ | exact (fun _ h => nomatch h) | apply And.intro)) fun S q pc hS hq hC hE => ?_
 conv => whnf
 refine sym_hideL fun K hK => ?_
 refine sym_loopR hE hS (A := Nat × AV × List AObj) [] (fun x hx => nomatch hx) [2, 3, 4] (fun (k, v, _) => [(9, v), (10, nv k)]) (fun _ => []) (fun a => a.2.2) (fun (k, v, ux) => k ≤ N.length ∧ grO (cgF N lo w k) v ux) (fun (k, _) => N.length - k) (0, .nils, []) (Nat.le_of_ble_eq_true rfl) trivial rfl (by repeat' (first | exact trivial | exact Nat.zero_le _ | exact bdl_no lN | exact bdl_no lM | exact Nat.le_of_ble_eq_true rfl | exact bdl_no (by assumption) | exact bdl_no (flat_no _) | exact bdl_no (ivs_no _) | exact bdl_no (svs_no _) | exact Nat.max_le.2 ⟨Nat.le_of_ble_eq_true rfl, bdl_no (ivs_no _)⟩ | exact Nat.max_le.2 ⟨Nat.le_of_ble_eq_true rfl, bdl_no (svs_no _)⟩ | apply And.intro)) (by refine ⟨rfl, rfl, rfl, rfl, rfl, rfl, by decide, ?_, ?_, ?_, by kernel_rfl, ?_, ?_⟩ <;> repeat' (first | exact trivial | exact rfl | exact ⟨_, rfl, RnV.wk (WkV.refl _) (Nat.zero_le _)⟩ | exact ⟨_, rfl, RnV.wk (WkV.refl _) (Nat.le_of_ble_eq_true rfl)⟩ | exact TrIw.refl _ _ _ _ _ | exact OWk.same _ | exact OWk.loop _ _ _ _ _ _ _ (by repeat' (first | exact trivial | exact WkV.refl _ | exact WkV.unk _ | apply And.intro)) | exact Nat.zero_le _ | exact bdl_no lN | exact bdl_no lM | exact Nat.le_of_ble_eq_true rfl | exact bdl_no (by assumption) | exact bdl_no (flat_no _) | exact bdl_no (ivs_no _) | exact bdl_no (svs_no _) | exact Nat.max_le.2 ⟨Nat.le_of_ble_eq_true rfl, bdl_no (ivs_no _)⟩ | exact Nat.max_le.2 ⟨Nat.le_of_ble_eq_true rfl, bdl_no (svs_no _)⟩ | apply And.intro)) ⟨Nat.zero_le _, .inl ⟨rfl, rfl, rfl⟩⟩ ?_
 rintro ⟨k, v, ux⟩ ⟨hk, ⟨he, rfl, rfl⟩ | ⟨he, rfl, rfl⟩⟩ Q hQ
 ·obtain rfl : Q = 1 := hQ
  conv => whnf
  by_cases hk2 : k < N.length
  ·refine bool_true (ltN_t hk2) ?_
   conv => whnf
   have hk1 : IntKind.i64.wrap (Int.ofNat k + 1) = Int.ofNat (k + 1) := wrapN (m := k + 1) (by omega)
   refine sym_hideL fun K hK => ?_
   refine sym_loopR hE hS (A := Nat × AV × List AObj) [] (fun x hx => nomatch hx) [2, 3, 4, 10] (fun (s, v, _) => [(9, v), (11, nv (lo + s))]) (fun _ => []) (fun a => a.2.2) (fun (s, v, ux) => s ≤ w ∧ grO (cgA N k lo w s) v ux) (fun (s, _) => w - s) (0, .nils, []) (Nat.le_of_ble_eq_true rfl) trivial rfl (by repeat' (first | exact trivial | exact Nat.zero_le _ | exact bdl_no lN | exact bdl_no lM | exact Nat.le_of_ble_eq_true rfl | exact bdl_no (by assumption) | exact bdl_no (flat_no _) | exact bdl_no (ivs_no _) | exact bdl_no (svs_no _) | exact Nat.max_le.2 ⟨Nat.le_of_ble_eq_true rfl, bdl_no (ivs_no _)⟩ | exact Nat.max_le.2 ⟨Nat.le_of_ble_eq_true rfl, bdl_no (svs_no _)⟩ | apply And.intro)) (by refine ⟨rfl, rfl, rfl, rfl, rfl, rfl, by decide, ?_, ?_, ?_, by kernel_rfl, ?_, ?_⟩ <;> repeat' (first | exact trivial | exact rfl | exact ⟨_, rfl, RnV.wk (WkV.refl _) (Nat.zero_le _)⟩ | exact ⟨_, rfl, RnV.wk (WkV.refl _) (Nat.le_of_ble_eq_true rfl)⟩ | exact TrIw.refl _ _ _ _ _ | exact OWk.same _ | exact OWk.loop _ _ _ _ _ _ _ (by repeat' (first | exact trivial | exact WkV.refl _ | exact WkV.unk _ | apply And.intro)) | exact Nat.zero_le _ | exact bdl_no lN | exact bdl_no lM | exact Nat.le_of_ble_eq_true rfl | exact bdl_no (by assumption) | exact bdl_no (flat_no _) | exact bdl_no (ivs_no _) | exact bdl_no (svs_no _) | exact Nat.max_le.2 ⟨Nat.le_of_ble_eq_true rfl, bdl_no (ivs_no _)⟩ | exact Nat.max_le.2 ⟨Nat.le_of_ble_eq_true rfl, bdl_no (svs_no _)⟩ | apply And.intro)) ⟨Nat.zero_le _, .inl ⟨rfl, rfl, rfl⟩⟩ ?_
   rintro ⟨s, v, ux⟩ ⟨hs, ⟨ha, rfl, rfl⟩ | ⟨ha, rfl, rfl⟩⟩ Q hQ
   ·obtain rfl : Q = 1 := hQ
    conv => whnf
    by_cases hs2 : s < w
    ·have hs1 : IntKind.i64.wrap (Int.ofNat (lo + s) + 1) = Int.ofNat (lo + (s + 1)) := wrapN (m := lo + s + 1) (by omega)
     refine bool_true (decide_eq_true (show Int.ofNat (lo + s) ≤ Int.ofNat hi from Int.ofNat_le.2 (by omega))) ?_
     conv => whnf
     refine sym_hideL fun K hK => ?_
     refine sym_loopR hE hS (A := Nat × AV × List AObj) [] (fun x hx => nomatch hx) [2, 3, 4, 10, 11] (fun (j, v, _) => [(9, v), (12, nv (lo + j))]) (fun _ => []) (fun a => a.2.2) (fun (j, v, ux) => j ≤ w ∧ grO (cgB N k (lo + s) lo j) v ux) (fun (j, _) => w - j) (0, .nils, []) (Nat.le_of_ble_eq_true rfl) trivial rfl (by repeat' (first | exact trivial | exact Nat.zero_le _ | exact bdl_no lN | exact bdl_no lM | exact Nat.le_of_ble_eq_true rfl | exact bdl_no (by assumption) | exact bdl_no (flat_no _) | exact bdl_no (ivs_no _) | exact bdl_no (svs_no _) | exact Nat.max_le.2 ⟨Nat.le_of_ble_eq_true rfl, bdl_no (ivs_no _)⟩ | exact Nat.max_le.2 ⟨Nat.le_of_ble_eq_true rfl, bdl_no (svs_no _)⟩ | apply And.intro)) (by refine ⟨rfl, rfl, rfl, rfl, rfl, rfl, by decide, ?_, ?_, ?_, by kernel_rfl, ?_, ?_⟩ <;> repeat' (first | exact trivial | exact rfl | exact ⟨_, rfl, RnV.wk (WkV.refl _) (Nat.zero_le _)⟩ | exact ⟨_, rfl, RnV.wk (WkV.refl _) (Nat.le_of_ble_eq_true rfl)⟩ | exact TrIw.refl _ _ _ _ _ | exact OWk.same _ | exact OWk.loop _ _ _ _ _ _ _ (by repeat' (first | exact trivial | exact WkV.refl _ | exact WkV.unk _ | apply And.intro)) | exact Nat.zero_le _ | exact bdl_no lN | exact bdl_no lM | exact Nat.le_of_ble_eq_true rfl | exact bdl_no (by assumption) | exact bdl_no (flat_no _) | exact bdl_no (ivs_no _) | exact bdl_no (svs_no _) | exact Nat.max_le.2 ⟨Nat.le_of_ble_eq_true rfl, bdl_no (ivs_no _)⟩ | exact Nat.max_le.2 ⟨Nat.le_of_ble_eq_true rfl, bdl_no (svs_no _)⟩ | apply And.intro)) ⟨Nat.zero_le _, .inl ⟨rfl, rfl, rfl⟩⟩ ?_
     rintro ⟨j, v, ux⟩ ⟨hj, ⟨hb, rfl, rfl⟩ | ⟨hb, rfl, rfl⟩⟩ Q hQ
     ·obtain rfl : Q = 1 := hQ
      conv => whnf
      by_cases hj2 : j < w
      ·have hj1 : IntKind.i64.wrap (Int.ofNat (lo + j) + 1) = Int.ofNat (lo + (j + 1)) := wrapN (m := lo + j + 1) (by omega)
       have pC := rChange_pure h (Int.ofNat k) (Int.ofNat (lo + s)) (Int.ofNat (lo + j))
       rw [cg_c hk2 ⟨by omega, by omega⟩ ⟨by omega, by omega⟩] at pC
       refine bool_true (decide_eq_true (show Int.ofNat (lo + j) ≤ Int.ofNat hi from Int.ofNat_le.2 (by omega))) ?_
       conv => whnf
       refine sym_pure hC (pC) ?_
       conv => whnf
       by_cases hc : (gN N k).2 = (lo + s, lo + j)
       ·have e1 : cgB N k (lo + s) lo (j + 1) = [] := by rw [cgB, if_pos hc, hb]; rfl
        refine bool_false (nt_t (decide_eq_true hc)) ?_
        conv => whnf
        exact ⟨(j + 1, .nils, []), [], ⟨hj2, .inl ⟨e1, rfl, rfl⟩⟩, by show w - (j + 1) < w - j; omega, (by refine ⟨rfl, rfl, rfl, rfl, rfl, rfl, by decide, ?_, ?_, ?_, by kernel_rfl, ?_, ?_⟩ <;> repeat' (first | exact trivial | exact rfl | exact ⟨_, rfl, RnV.wk (WkV.refl _) (Nat.zero_le _)⟩ | exact ⟨_, rfl, RnV.wk (WkV.refl _) (Nat.le_of_ble_eq_true rfl)⟩ | exact TrIw.refl _ _ _ _ _ | exact OWk.same _ | exact OWk.loop _ _ _ _ _ _ _ (by repeat' (first | exact trivial | exact WkV.refl _ | exact WkV.unk _ | apply And.intro)) | exact Nat.zero_le _ | exact ⟨_, rfl, RnV.wk (WkV.int hj1) (Nat.zero_le _)⟩ | exact bdl_no lN | exact bdl_no lM | exact bdl_no (lks_no _) | exact bd_lkC _ (by decide) | exact Nat.le_of_ble_eq_true rfl | exact bdl_no (by assumption) | exact bdl_no (flat_no _) | exact bdl_no (ivs_no _) | exact bdl_no (svs_no _) | exact Nat.max_le.2 ⟨Nat.le_of_ble_eq_true rfl, bdl_no (ivs_no _)⟩ | exact Nat.max_le.2 ⟨Nat.le_of_ble_eq_true rfl, bdl_no (svs_no _)⟩ | apply And.intro))⟩
       ·have e1 : cgB N k (lo + s) lo (j + 1) = [(k, lo + s, lo + j)] := by rw [cgB, if_neg hc, hb]; rfl
        refine bool_true (nt_f (decide_eq_false hc)) ?_
        conv => whnf
        exact ⟨(j + 1, lkC [(k, lo + s, lo + j)] 1, [.chain 1 3 66]), [2], ⟨hj2, .inr ⟨by rw [e1]; simp, by rw [e1], by rw [e1]; rfl⟩⟩, by show w - (j + 1) < w - j; omega, (by refine ⟨rfl, rfl, rfl, rfl, rfl, rfl, by decide, ?_, ?_, ?_, by kernel_rfl, ?_, ?_⟩ <;> repeat' (first | exact trivial | exact rfl | exact ⟨_, rfl, RnV.wk (WkV.refl _) (Nat.zero_le _)⟩ | exact ⟨_, rfl, RnV.wk (WkV.refl _) (Nat.le_of_ble_eq_true rfl)⟩ | exact TrIw.refl _ _ _ _ _ | exact OWk.same _ | exact OWk.loop _ _ _ _ _ _ _ (by repeat' (first | exact trivial | exact WkV.refl _ | exact WkV.unk _ | apply And.intro)) | exact Nat.zero_le _ | exact ⟨_, rfl, RnV.wk (WkV.int hj1) (Nat.zero_le _)⟩ | exact bdl_no lN | exact bdl_no lM | exact bdl_no (lks_no _) | exact bd_lkC _ (by decide) | exact ⟨_, rfl, rnC (j := 0) (by decide) rfl rfl ⟨trivial, trivial, trivial, trivial⟩⟩ | exact Nat.le_of_ble_eq_true rfl | exact bdl_no (by assumption) | exact bdl_no (flat_no _) | exact bdl_no (ivs_no _) | exact bdl_no (svs_no _) | exact Nat.max_le.2 ⟨Nat.le_of_ble_eq_true rfl, bdl_no (ivs_no _)⟩ | exact Nat.max_le.2 ⟨Nat.le_of_ble_eq_true rfl, bdl_no (svs_no _)⟩ | apply And.intro))⟩
      ·refine bool_false (decide_eq_false (show ¬ Int.ofNat (lo + j) ≤ Int.ofNat hi from fun z => by have := Int.ofNat_le.1 z; omega)) ?_
       conv => whnf
       refine hK _ _ ?_
       conv => whnf
       obtain rfl : w = j := by omega
       have e1 : cgA N k lo w (s + 1) = [] := by rw [cgA, ha, hb]; rfl
       exact ⟨(s + 1, .nils, []), [], ⟨hs2, .inl ⟨e1, rfl, rfl⟩⟩, by show w - (s + 1) < w - s; omega, (by refine ⟨rfl, rfl, rfl, rfl, rfl, rfl, by decide, ?_, ?_, ?_, by kernel_rfl, ?_, ?_⟩ <;> repeat' (first | exact trivial | exact rfl | exact ⟨_, rfl, RnV.wk (WkV.refl _) (Nat.zero_le _)⟩ | exact ⟨_, rfl, RnV.wk (WkV.refl _) (Nat.le_of_ble_eq_true rfl)⟩ | exact TrIw.refl _ _ _ _ _ | exact OWk.same _ | exact OWk.loop _ _ _ _ _ _ _ (by repeat' (first | exact trivial | exact WkV.refl _ | exact WkV.unk _ | apply And.intro)) | exact Nat.zero_le _ | exact ⟨_, rfl, RnV.wk (WkV.int hs1) (Nat.zero_le _)⟩ | exact bdl_no lN | exact bdl_no lM | exact bdl_no (lks_no _) | exact bd_lkC _ (by decide) | exact Nat.le_of_ble_eq_true rfl | exact bdl_no (by assumption) | exact bdl_no (flat_no _) | exact bdl_no (ivs_no _) | exact bdl_no (svs_no _) | exact Nat.max_le.2 ⟨Nat.le_of_ble_eq_true rfl, bdl_no (ivs_no _)⟩ | exact Nat.max_le.2 ⟨Nat.le_of_ble_eq_true rfl, bdl_no (svs_no _)⟩ | apply And.intro))⟩
     ·obtain rfl : Q = 2 := hQ
      conv => whnf
      by_cases hj2 : j < w
      ·have hj1 : IntKind.i64.wrap (Int.ofNat (lo + j) + 1) = Int.ofNat (lo + (j + 1)) := wrapN (m := lo + j + 1) (by omega)
       have pC := rChange_pure h (Int.ofNat k) (Int.ofNat (lo + s)) (Int.ofNat (lo + j))
       rw [cg_c hk2 ⟨by omega, by omega⟩ ⟨by omega, by omega⟩] at pC
       refine bool_true (decide_eq_true (show Int.ofNat (lo + j) ≤ Int.ofNat hi from Int.ofNat_le.2 (by omega))) ?_
       conv => whnf
       refine sym_pure hC (pC) ?_
       conv => whnf
       have hXl := cgB_len N k (lo + s) lo j
       by_cases hc : (gN N k).2 = (lo + s, lo + j)
       ·have e1 : cgB N k (lo + s) lo (j + 1) = cgB N k (lo + s) lo j := by rw [cgB, if_pos hc, List.append_nil]
        refine bool_false (nt_t (decide_eq_true hc)) ?_
        conv => whnf
        exact ⟨(j + 1, lkC (cgB N k (lo + s) lo j) 1, [.chain (cgB N k (lo + s) lo j).length 3 66]), [1], ⟨hj2, .inr ⟨by rw [e1]; exact hb, by rw [e1], by rw [e1]⟩⟩, by show w - (j + 1) < w - j; omega, (by refine ⟨rfl, rfl, rfl, rfl, rfl, rfl, by decide, ?_, ?_, ?_, by kernel_rfl, ?_, ?_⟩ <;> repeat' (first | exact trivial | exact rfl | exact ⟨_, rfl, RnV.wk (WkV.refl _) (Nat.zero_le _)⟩ | exact ⟨_, rfl, RnV.wk (WkV.refl _) (Nat.le_of_ble_eq_true rfl)⟩ | exact TrIw.refl _ _ _ _ _ | exact OWk.same _ | exact OWk.loop _ _ _ _ _ _ _ (by repeat' (first | exact trivial | exact WkV.refl _ | exact WkV.unk _ | apply And.intro)) | exact Nat.zero_le _ | exact ⟨_, rfl, RnV.wk (WkV.int hj1) (Nat.zero_le _)⟩ | exact bdl_no lN | exact bdl_no lM | exact bdl_no (lks_no _) | exact bd_lkC _ (by decide) | exact ⟨_, rfl, rnC (j := 0) (by decide) rfl rfl (lks_no _)⟩ | exact Nat.le_of_ble_eq_true rfl | exact bdl_no (by assumption) | exact bdl_no (flat_no _) | exact bdl_no (ivs_no _) | exact bdl_no (svs_no _) | exact Nat.max_le.2 ⟨Nat.le_of_ble_eq_true rfl, bdl_no (ivs_no _)⟩ | exact Nat.max_le.2 ⟨Nat.le_of_ble_eq_true rfl, bdl_no (svs_no _)⟩ | apply And.intro))⟩
       ·have e1 : cgB N k (lo + s) lo (j + 1) = cgB N k (lo + s) lo j ++ [(k, lo + s, lo + j)] := by rw [cgB, if_neg hc]
        refine bool_true (nt_f (decide_eq_false hc)) ?_
        conv => whnf
        refine bool_true (decide_eq_true (show ((cgB N k (lo + s) lo j).length + (0 + 1)) * 24 ≤ 140737488355328 by omega)) ?_
        conv => whnf
        refine bool_true (decide_eq_true (show (cgB N k (lo + s) lo j).length + (0 + 1) ≤ 9223372036854775807 by omega)) ?_
        conv => whnf
        refine bool_true (lenIs_lks (cgB N k (lo + s) lo j)) ?_
        conv => whnf
        refine bool_true (decide_eq_true rfl) ?_
        conv => whnf
        exact ⟨(j + 1, lkC (cgB N k (lo + s) lo j ++ [(k, lo + s, lo + j)]) 1, [.chain (cgB N k (lo + s) lo j ++ [(k, lo + s, lo + j)]).length 3 66]), [1], ⟨hj2, .inr ⟨by rw [e1]; simp, by rw [e1], by rw [e1]⟩⟩, by show w - (j + 1) < w - j; omega, (by refine ⟨rfl, rfl, rfl, rfl, rfl, rfl, by decide, ?_, ?_, ?_, by kernel_rfl, ?_, ?_⟩ <;> repeat' (first | exact trivial | exact rfl | exact ⟨_, rfl, RnV.wk (WkV.refl _) (Nat.zero_le _)⟩ | exact ⟨_, rfl, RnV.wk (WkV.refl _) (Nat.le_of_ble_eq_true rfl)⟩ | exact TrIw.refl _ _ _ _ _ | exact OWk.same _ | exact OWk.loop _ _ _ _ _ _ _ (by repeat' (first | exact trivial | exact WkV.refl _ | exact WkV.unk _ | apply And.intro)) | exact Nat.zero_le _ | exact ⟨_, rfl, RnV.wk (WkV.int hj1) (Nat.zero_le _)⟩ | exact bdl_no lN | exact bdl_no lM | exact bdl_no (lks_no _) | exact bd_lkC _ (by decide) | exact ⟨_, rfl, rnL (j := 0) (by decide) rfl rfl⟩ | exact lkH_app _ _ | exact Nat.le_of_ble_eq_true rfl | exact bdl_no (by assumption) | exact bdl_no (flat_no _) | exact bdl_no (ivs_no _) | exact bdl_no (svs_no _) | exact Nat.max_le.2 ⟨Nat.le_of_ble_eq_true rfl, bdl_no (ivs_no _)⟩ | exact Nat.max_le.2 ⟨Nat.le_of_ble_eq_true rfl, bdl_no (svs_no _)⟩ | apply And.intro))⟩
      ·refine bool_false (decide_eq_false (show ¬ Int.ofNat (lo + j) ≤ Int.ofNat hi from fun z => by have := Int.ofNat_le.1 z; omega)) ?_
       conv => whnf
       refine hK _ _ ?_
       conv => whnf
       obtain rfl : w = j := by omega
       have e1 : cgA N k lo w (s + 1) = cgB N k (lo + s) lo w := by rw [cgA, ha]; rfl
       exact ⟨(s + 1, lkC (cgB N k (lo + s) lo w) 1, [.chain (cgB N k (lo + s) lo w).length 3 66]), [1], ⟨hs2, .inr ⟨by rw [e1]; exact hb, by rw [e1], by rw [e1]⟩⟩, by show w - (s + 1) < w - s; omega, (by refine ⟨rfl, rfl, rfl, rfl, rfl, rfl, by decide, ?_, ?_, ?_, by kernel_rfl, ?_, ?_⟩ <;> repeat' (first | exact trivial | exact rfl | exact ⟨_, rfl, RnV.wk (WkV.refl _) (Nat.zero_le _)⟩ | exact ⟨_, rfl, RnV.wk (WkV.refl _) (Nat.le_of_ble_eq_true rfl)⟩ | exact TrIw.refl _ _ _ _ _ | exact OWk.same _ | exact OWk.loop _ _ _ _ _ _ _ (by repeat' (first | exact trivial | exact WkV.refl _ | exact WkV.unk _ | apply And.intro)) | exact Nat.zero_le _ | exact ⟨_, rfl, RnV.wk (WkV.int hs1) (Nat.zero_le _)⟩ | exact bdl_no lN | exact bdl_no lM | exact bdl_no (lks_no _) | exact bd_lkC _ (by decide) | exact ⟨_, rfl, rnC (j := 0) (by decide) rfl rfl (lks_no _)⟩ | exact Nat.le_of_ble_eq_true rfl | exact bdl_no (by assumption) | exact bdl_no (flat_no _) | exact bdl_no (ivs_no _) | exact bdl_no (svs_no _) | exact Nat.max_le.2 ⟨Nat.le_of_ble_eq_true rfl, bdl_no (ivs_no _)⟩ | exact Nat.max_le.2 ⟨Nat.le_of_ble_eq_true rfl, bdl_no (svs_no _)⟩ | apply And.intro))⟩
    ·refine bool_false (decide_eq_false (show ¬ Int.ofNat (lo + s) ≤ Int.ofNat hi from fun z => by have := Int.ofNat_le.1 z; omega)) ?_
     conv => whnf
     refine hK _ _ ?_
     conv => whnf
     obtain rfl : w = s := by omega
     have e1 : cgF N lo w (k + 1) = [] := by rw [cgF, he, ha]; rfl
     exact ⟨(k + 1, .nils, []), [], ⟨hk2, .inl ⟨e1, rfl, rfl⟩⟩, by show N.length - (k + 1) < N.length - k; omega, (by refine ⟨rfl, rfl, rfl, rfl, rfl, rfl, by decide, ?_, ?_, ?_, by kernel_rfl, ?_, ?_⟩ <;> repeat' (first | exact trivial | exact rfl | exact ⟨_, rfl, RnV.wk (WkV.refl _) (Nat.zero_le _)⟩ | exact ⟨_, rfl, RnV.wk (WkV.refl _) (Nat.le_of_ble_eq_true rfl)⟩ | exact TrIw.refl _ _ _ _ _ | exact OWk.same _ | exact OWk.loop _ _ _ _ _ _ _ (by repeat' (first | exact trivial | exact WkV.refl _ | exact WkV.unk _ | apply And.intro)) | exact Nat.zero_le _ | exact ⟨_, rfl, RnV.wk (WkV.int hk1) (Nat.zero_le _)⟩ | exact bdl_no lN | exact bdl_no lM | exact bdl_no (lks_no _) | exact bd_lkC _ (by decide) | exact Nat.le_of_ble_eq_true rfl | exact bdl_no (by assumption) | exact bdl_no (flat_no _) | exact bdl_no (ivs_no _) | exact bdl_no (svs_no _) | exact Nat.max_le.2 ⟨Nat.le_of_ble_eq_true rfl, bdl_no (ivs_no _)⟩ | exact Nat.max_le.2 ⟨Nat.le_of_ble_eq_true rfl, bdl_no (svs_no _)⟩ | apply And.intro))⟩
   ·obtain rfl : Q = 2 := hQ
    conv => whnf
    by_cases hs2 : s < w
    ·have hs1 : IntKind.i64.wrap (Int.ofNat (lo + s) + 1) = Int.ofNat (lo + (s + 1)) := wrapN (m := lo + s + 1) (by omega)
     refine bool_true (decide_eq_true (show Int.ofNat (lo + s) ≤ Int.ofNat hi from Int.ofNat_le.2 (by omega))) ?_
     conv => whnf
     refine sym_hideL fun K hK => ?_
     obtain ⟨X, hX⟩ : ∃ X, X = cgA N k lo w s := ⟨_, rfl⟩
     have hsw : s * w ≤ 57 * 57 := Nat.mul_le_mul (by omega) hw.2.1
     have hX0 : X.length ≤ 20000 := by have := cgA_len N k lo w s; rw [hX]; omega
     have eI1 := (congrArg (fun l => lkC l 1) hX.symm).trans (congrArg (fun l => lkC l 1) (List.append_nil X).symm)
     have eI2 := (congrArg (fun l => AObj.chain l.length 3 66) hX.symm).trans (congrArg (fun l => AObj.chain l.length 3 66) (List.append_nil X).symm)
     refine sym_loopG hE hS (A := Nat) [2, 3, 4, 10, 11] (fun j => [(9, lkC (X ++ cgB N k (lo + s) lo j) 1), (12, nv (lo + j))]) (fun j => [(1, .chain (X ++ cgB N k (lo + s) lo j).length 3 66)]) (fun _ => []) (fun j => j ≤ w) (fun j => w - j) 0 (Nat.le_of_ble_eq_true rfl) rfl (by refine ⟨rfl, rfl, rfl, rfl, rfl, rfl, 2, rfl, ?_, ?_⟩ <;> repeat' (first | exact trivial | exact rfl | exact ⟨_, rfl, WkV.refl _⟩ | exact ⟨_, rfl, WkV.own _ _ _⟩ | exact Nat.zero_le _ | exact ⟨_, rfl, WkV.eq eI1⟩ | exact eI2 | exact bdl_no lN | exact bdl_no lM | exact bdl_no (lks_no _) | exact bd_lkC _ (by decide) | exact Nat.le_of_ble_eq_true rfl | exact bdl_no (by assumption) | exact bdl_no (flat_no _) | exact bdl_no (ivs_no _) | exact bdl_no (svs_no _) | exact Nat.max_le.2 ⟨Nat.le_of_ble_eq_true rfl, bdl_no (ivs_no _)⟩ | exact Nat.max_le.2 ⟨Nat.le_of_ble_eq_true rfl, bdl_no (svs_no _)⟩ | apply And.intro)) (Nat.zero_le _) ?_
     intro j hj Q hQ
     obtain rfl : Q = 2 := hQ
     conv => whnf
     by_cases hj2 : j < w
     ·have hj1 : IntKind.i64.wrap (Int.ofNat (lo + j) + 1) = Int.ofNat (lo + (j + 1)) := wrapN (m := lo + j + 1) (by omega)
      have pC := rChange_pure h (Int.ofNat k) (Int.ofNat (lo + s)) (Int.ofNat (lo + j))
      rw [cg_c hk2 ⟨by omega, by omega⟩ ⟨by omega, by omega⟩] at pC
      refine bool_true (decide_eq_true (show Int.ofNat (lo + j) ≤ Int.ofNat hi from Int.ofNat_le.2 (by omega))) ?_
      conv => whnf
      refine sym_pure hC (pC) ?_
      conv => whnf
      have hXl : (X ++ cgB N k (lo + s) lo j).length ≤ 30000 := by have := cgB_len N k (lo + s) lo j; rw [List.length_append]; omega
      by_cases hc : (gN N k).2 = (lo + s, lo + j)
      ·have e1 : X ++ cgB N k (lo + s) lo (j + 1) = X ++ cgB N k (lo + s) lo j := by rw [cgB, if_pos hc, List.append_nil]
       have e2 := (congrArg (fun l => lkC l 1) e1).symm
       have e3 := (congrArg (fun l => AObj.chain l.length 3 66) e1).symm
       refine bool_false (nt_t (decide_eq_true hc)) ?_
       conv => whnf
       exact ⟨j + 1, hj2, by omega, Nat.le_refl _, (by refine ⟨rfl, rfl, rfl, rfl, rfl, rfl, 2, rfl, ?_, ?_⟩ <;> repeat' (first | exact trivial | exact rfl | exact ⟨_, rfl, WkV.refl _⟩ | exact ⟨_, rfl, WkV.own _ _ _⟩ | exact Nat.zero_le _ | exact ⟨_, rfl, WkV.int hj1⟩ | exact ⟨_, rfl, WkV.eq e2⟩ | exact e3 | exact bdl_no lN | exact bdl_no lM | exact bdl_no (lks_no _) | exact bd_lkC _ (by decide) | exact Nat.le_of_ble_eq_true rfl | exact bdl_no (by assumption) | exact bdl_no (flat_no _) | exact bdl_no (ivs_no _) | exact bdl_no (svs_no _) | exact Nat.max_le.2 ⟨Nat.le_of_ble_eq_true rfl, bdl_no (ivs_no _)⟩ | exact Nat.max_le.2 ⟨Nat.le_of_ble_eq_true rfl, bdl_no (svs_no _)⟩ | apply And.intro))⟩
      ·have e1 : X ++ cgB N k (lo + s) lo (j + 1) = X ++ cgB N k (lo + s) lo j ++ [(k, lo + s, lo + j)] := by rw [cgB, if_neg hc, List.append_assoc]
       have e2 := lkC_app (X ++ cgB N k (lo + s) lo j) k (lo + s) (lo + j) 1
       have e3 := lkH_app (ty := 66) (X ++ cgB N k (lo + s) lo j) (k, lo + s, lo + j)
       rw [← e1] at e2 e3
       refine bool_true (nt_f (decide_eq_false hc)) ?_
       conv => whnf
       refine bool_true (decide_eq_true (show ((X ++ cgB N k (lo + s) lo j).length + (0 + 1)) * 24 ≤ 140737488355328 by omega)) ?_
       conv => whnf
       refine bool_true (decide_eq_true (show (X ++ cgB N k (lo + s) lo j).length + (0 + 1) ≤ 9223372036854775807 by omega)) ?_
       conv => whnf
       refine bool_true (lenIs_lks (X ++ cgB N k (lo + s) lo j)) ?_
       conv => whnf
       refine bool_true (decide_eq_true rfl) ?_
       conv => whnf
       exact ⟨j + 1, hj2, by omega, Nat.le_refl _, (by refine ⟨rfl, rfl, rfl, rfl, rfl, rfl, 2, rfl, ?_, ?_⟩ <;> repeat' (first | exact trivial | exact rfl | exact ⟨_, rfl, WkV.refl _⟩ | exact ⟨_, rfl, WkV.own _ _ _⟩ | exact Nat.zero_le _ | exact ⟨_, rfl, WkV.int hj1⟩ | exact ⟨_, rfl, WkV.eq e2⟩ | exact e3 | exact bdl_no lN | exact bdl_no lM | exact bdl_no (lks_no _) | exact bd_lkC _ (by decide) | exact Nat.le_of_ble_eq_true rfl | exact bdl_no (by assumption) | exact bdl_no (flat_no _) | exact bdl_no (ivs_no _) | exact bdl_no (svs_no _) | exact Nat.max_le.2 ⟨Nat.le_of_ble_eq_true rfl, bdl_no (ivs_no _)⟩ | exact Nat.max_le.2 ⟨Nat.le_of_ble_eq_true rfl, bdl_no (svs_no _)⟩ | apply And.intro))⟩
     ·refine bool_false (decide_eq_false (show ¬ Int.ofNat (lo + j) ≤ Int.ofNat hi from fun z => by have := Int.ofNat_le.1 z; omega)) ?_
      conv => whnf
      refine .inl (hK _ _ ?_)
      conv => whnf
      obtain rfl : w = j := by omega
      have e1 : cgA N k lo w (s + 1) = X ++ cgB N k (lo + s) lo w := by rw [cgA, ← hX]
      exact ⟨(s + 1, lkC (X ++ cgB N k (lo + s) lo w) 1, [.chain (X ++ cgB N k (lo + s) lo w).length 3 66]), [1], ⟨hs2, .inr ⟨by rw [e1, hX]; simp [ha], by rw [e1], by rw [e1]⟩⟩, by show w - (s + 1) < w - s; omega, (by refine ⟨rfl, rfl, rfl, rfl, rfl, rfl, by decide, ?_, ?_, ?_, by kernel_rfl, ?_, ?_⟩ <;> repeat' (first | exact trivial | exact rfl | exact ⟨_, rfl, RnV.wk (WkV.refl _) (Nat.zero_le _)⟩ | exact ⟨_, rfl, RnV.wk (WkV.refl _) (Nat.le_of_ble_eq_true rfl)⟩ | exact TrIw.refl _ _ _ _ _ | exact OWk.same _ | exact OWk.loop _ _ _ _ _ _ _ (by repeat' (first | exact trivial | exact WkV.refl _ | exact WkV.unk _ | apply And.intro)) | exact Nat.zero_le _ | exact ⟨_, rfl, RnV.wk (WkV.int hs1) (Nat.zero_le _)⟩ | exact bdl_no lN | exact bdl_no lM | exact bdl_no (lks_no _) | exact bd_lkC _ (by decide) | exact ⟨_, rfl, rnC (j := 0) (by decide) rfl rfl (lks_no _)⟩ | exact Nat.le_of_ble_eq_true rfl | exact bdl_no (by assumption) | exact bdl_no (flat_no _) | exact bdl_no (ivs_no _) | exact bdl_no (svs_no _) | exact Nat.max_le.2 ⟨Nat.le_of_ble_eq_true rfl, bdl_no (ivs_no _)⟩ | exact Nat.max_le.2 ⟨Nat.le_of_ble_eq_true rfl, bdl_no (svs_no _)⟩ | apply And.intro))⟩
    ·refine bool_false (decide_eq_false (show ¬ Int.ofNat (lo + s) ≤ Int.ofNat hi from fun z => by have := Int.ofNat_le.1 z; omega)) ?_
     conv => whnf
     refine hK _ _ ?_
     conv => whnf
     obtain rfl : w = s := by omega
     have e1 : cgF N lo w (k + 1) = cgA N k lo w w := by rw [cgF, he]; rfl
     exact ⟨(k + 1, lkC (cgA N k lo w w) 1, [.chain (cgA N k lo w w).length 3 66]), [1], ⟨hk2, .inr ⟨by rw [e1]; exact ha, by rw [e1], by rw [e1]⟩⟩, by show N.length - (k + 1) < N.length - k; omega, (by refine ⟨rfl, rfl, rfl, rfl, rfl, rfl, by decide, ?_, ?_, ?_, by kernel_rfl, ?_, ?_⟩ <;> repeat' (first | exact trivial | exact rfl | exact ⟨_, rfl, RnV.wk (WkV.refl _) (Nat.zero_le _)⟩ | exact ⟨_, rfl, RnV.wk (WkV.refl _) (Nat.le_of_ble_eq_true rfl)⟩ | exact TrIw.refl _ _ _ _ _ | exact OWk.same _ | exact OWk.loop _ _ _ _ _ _ _ (by repeat' (first | exact trivial | exact WkV.refl _ | exact WkV.unk _ | apply And.intro)) | exact Nat.zero_le _ | exact ⟨_, rfl, RnV.wk (WkV.int hk1) (Nat.zero_le _)⟩ | exact bdl_no lN | exact bdl_no lM | exact bdl_no (lks_no _) | exact bd_lkC _ (by decide) | exact ⟨_, rfl, rnC (j := 0) (by decide) rfl rfl (lks_no _)⟩ | exact Nat.le_of_ble_eq_true rfl | exact bdl_no (by assumption) | exact bdl_no (flat_no _) | exact bdl_no (ivs_no _) | exact bdl_no (svs_no _) | exact Nat.max_le.2 ⟨Nat.le_of_ble_eq_true rfl, bdl_no (ivs_no _)⟩ | exact Nat.max_le.2 ⟨Nat.le_of_ble_eq_true rfl, bdl_no (svs_no _)⟩ | apply And.intro))⟩
  ·refine bool_false (ltN_f hk2) ?_
   conv => whnf
   obtain rfl : k = N.length := by omega
   refine hK _ _ ?_
   conv => whnf
   rw [he]
   exact ⟨_, rfl, Wk.refl _⟩
 ·obtain rfl : Q = 2 := hQ
  conv => whnf
  by_cases hk2 : k < N.length
  ·refine bool_true (ltN_t hk2) ?_
   conv => whnf
   have hk1 : IntKind.i64.wrap (Int.ofNat k + 1) = Int.ofNat (k + 1) := wrapN (m := k + 1) (by omega)
   refine sym_hideL fun K hK => ?_
   have eM1 := congrArg (fun l => lkC l 1) (List.append_nil (cgF N lo w k)).symm
   have eM2 := congrArg (fun l => AObj.chain l.length 3 66) (List.append_nil (cgF N lo w k)).symm
   refine sym_loopG hE hS (A := Nat) [2, 3, 4, 10] (fun s => [(9, lkC (cgF N lo w k ++ cgA N k lo w s) 1), (11, nv (lo + s))]) (fun s => [(1, .chain (cgF N lo w k ++ cgA N k lo w s).length 3 66)]) (fun _ => []) (fun s => s ≤ w) (fun s => w - s) 0 (Nat.le_of_ble_eq_true rfl) rfl (by refine ⟨rfl, rfl, rfl, rfl, rfl, rfl, 2, rfl, ?_, ?_⟩ <;> repeat' (first | exact trivial | exact rfl | exact ⟨_, rfl, WkV.refl _⟩ | exact ⟨_, rfl, WkV.own _ _ _⟩ | exact Nat.zero_le _ | exact ⟨_, rfl, WkV.eq eM1⟩ | exact eM2 | exact bdl_no lN | exact bdl_no lM | exact bdl_no (lks_no _) | exact bd_lkC _ (by decide) | exact Nat.le_of_ble_eq_true rfl | exact bdl_no (by assumption) | exact bdl_no (flat_no _) | exact bdl_no (ivs_no _) | exact bdl_no (svs_no _) | exact Nat.max_le.2 ⟨Nat.le_of_ble_eq_true rfl, bdl_no (ivs_no _)⟩ | exact Nat.max_le.2 ⟨Nat.le_of_ble_eq_true rfl, bdl_no (svs_no _)⟩ | apply And.intro)) (Nat.zero_le _) ?_
   intro s hs Q hQ
   obtain rfl : Q = 2 := hQ
   conv => whnf
   by_cases hs2 : s < w
   ·have hs1 : IntKind.i64.wrap (Int.ofNat (lo + s) + 1) = Int.ofNat (lo + (s + 1)) := wrapN (m := lo + s + 1) (by omega)
    refine bool_true (decide_eq_true (show Int.ofNat (lo + s) ≤ Int.ofNat hi from Int.ofNat_le.2 (by omega))) ?_
    conv => whnf
    refine sym_hideL fun K hK => ?_
    obtain ⟨X, hX⟩ : ∃ X, X = cgF N lo w k ++ cgA N k lo w s := ⟨_, rfl⟩
    have hsw : s * w ≤ 57 * 57 := Nat.mul_le_mul (by omega) hw.2.1
    have hX0 : X.length ≤ 20000 := by
     have g1 := cgA_len N k lo w s
     have g2 := cgF_len N lo w k
     have g3 : k * (w * w) ≤ 5 * (57 * 57) := Nat.mul_le_mul (by omega) ww
     rw [hX, List.length_append]; omega
    have eI1 := (congrArg (fun l => lkC l 1) hX.symm).trans (congrArg (fun l => lkC l 1) (List.append_nil X).symm)
    have eI2 := (congrArg (fun l => AObj.chain l.length 3 66) hX.symm).trans (congrArg (fun l => AObj.chain l.length 3 66) (List.append_nil X).symm)
    refine sym_loopG hE hS (A := Nat) [2, 3, 4, 10, 11] (fun j => [(9, lkC (X ++ cgB N k (lo + s) lo j) 1), (12, nv (lo + j))]) (fun j => [(1, .chain (X ++ cgB N k (lo + s) lo j).length 3 66)]) (fun _ => []) (fun j => j ≤ w) (fun j => w - j) 0 (Nat.le_of_ble_eq_true rfl) rfl (by refine ⟨rfl, rfl, rfl, rfl, rfl, rfl, 2, rfl, ?_, ?_⟩ <;> repeat' (first | exact trivial | exact rfl | exact ⟨_, rfl, WkV.refl _⟩ | exact ⟨_, rfl, WkV.own _ _ _⟩ | exact Nat.zero_le _ | exact ⟨_, rfl, WkV.eq eI1⟩ | exact eI2 | exact bdl_no lN | exact bdl_no lM | exact bdl_no (lks_no _) | exact bd_lkC _ (by decide) | exact Nat.le_of_ble_eq_true rfl | exact bdl_no (by assumption) | exact bdl_no (flat_no _) | exact bdl_no (ivs_no _) | exact bdl_no (svs_no _) | exact Nat.max_le.2 ⟨Nat.le_of_ble_eq_true rfl, bdl_no (ivs_no _)⟩ | exact Nat.max_le.2 ⟨Nat.le_of_ble_eq_true rfl, bdl_no (svs_no _)⟩ | apply And.intro)) (Nat.zero_le _) ?_
    intro j hj Q hQ
    obtain rfl : Q = 2 := hQ
    conv => whnf
    by_cases hj2 : j < w
    ·have hj1 : IntKind.i64.wrap (Int.ofNat (lo + j) + 1) = Int.ofNat (lo + (j + 1)) := wrapN (m := lo + j + 1) (by omega)
     have pC := rChange_pure h (Int.ofNat k) (Int.ofNat (lo + s)) (Int.ofNat (lo + j))
     rw [cg_c hk2 ⟨by omega, by omega⟩ ⟨by omega, by omega⟩] at pC
     refine bool_true (decide_eq_true (show Int.ofNat (lo + j) ≤ Int.ofNat hi from Int.ofNat_le.2 (by omega))) ?_
     conv => whnf
     refine sym_pure hC (pC) ?_
     conv => whnf
     have hXl : (X ++ cgB N k (lo + s) lo j).length ≤ 30000 := by have := cgB_len N k (lo + s) lo j; rw [List.length_append]; omega
     by_cases hc : (gN N k).2 = (lo + s, lo + j)
     ·have e1 : X ++ cgB N k (lo + s) lo (j + 1) = X ++ cgB N k (lo + s) lo j := by rw [cgB, if_pos hc, List.append_nil]
      have e2 := (congrArg (fun l => lkC l 1) e1).symm
      have e3 := (congrArg (fun l => AObj.chain l.length 3 66) e1).symm
      refine bool_false (nt_t (decide_eq_true hc)) ?_
      conv => whnf
      exact ⟨j + 1, hj2, by omega, Nat.le_refl _, (by refine ⟨rfl, rfl, rfl, rfl, rfl, rfl, 2, rfl, ?_, ?_⟩ <;> repeat' (first | exact trivial | exact rfl | exact ⟨_, rfl, WkV.refl _⟩ | exact ⟨_, rfl, WkV.own _ _ _⟩ | exact Nat.zero_le _ | exact ⟨_, rfl, WkV.int hj1⟩ | exact ⟨_, rfl, WkV.eq e2⟩ | exact e3 | exact bdl_no lN | exact bdl_no lM | exact bdl_no (lks_no _) | exact bd_lkC _ (by decide) | exact Nat.le_of_ble_eq_true rfl | exact bdl_no (by assumption) | exact bdl_no (flat_no _) | exact bdl_no (ivs_no _) | exact bdl_no (svs_no _) | exact Nat.max_le.2 ⟨Nat.le_of_ble_eq_true rfl, bdl_no (ivs_no _)⟩ | exact Nat.max_le.2 ⟨Nat.le_of_ble_eq_true rfl, bdl_no (svs_no _)⟩ | apply And.intro))⟩
     ·have e1 : X ++ cgB N k (lo + s) lo (j + 1) = X ++ cgB N k (lo + s) lo j ++ [(k, lo + s, lo + j)] := by rw [cgB, if_neg hc, List.append_assoc]
      have e2 := lkC_app (X ++ cgB N k (lo + s) lo j) k (lo + s) (lo + j) 1
      have e3 := lkH_app (ty := 66) (X ++ cgB N k (lo + s) lo j) (k, lo + s, lo + j)
      rw [← e1] at e2 e3
      refine bool_true (nt_f (decide_eq_false hc)) ?_
      conv => whnf
      refine bool_true (decide_eq_true (show ((X ++ cgB N k (lo + s) lo j).length + (0 + 1)) * 24 ≤ 140737488355328 by omega)) ?_
      conv => whnf
      refine bool_true (decide_eq_true (show (X ++ cgB N k (lo + s) lo j).length + (0 + 1) ≤ 9223372036854775807 by omega)) ?_
      conv => whnf
      refine bool_true (lenIs_lks (X ++ cgB N k (lo + s) lo j)) ?_
      conv => whnf
      refine bool_true (decide_eq_true rfl) ?_
      conv => whnf
      exact ⟨j + 1, hj2, by omega, Nat.le_refl _, (by refine ⟨rfl, rfl, rfl, rfl, rfl, rfl, 2, rfl, ?_, ?_⟩ <;> repeat' (first | exact trivial | exact rfl | exact ⟨_, rfl, WkV.refl _⟩ | exact ⟨_, rfl, WkV.own _ _ _⟩ | exact Nat.zero_le _ | exact ⟨_, rfl, WkV.int hj1⟩ | exact ⟨_, rfl, WkV.eq e2⟩ | exact e3 | exact bdl_no lN | exact bdl_no lM | exact bdl_no (lks_no _) | exact bd_lkC _ (by decide) | exact Nat.le_of_ble_eq_true rfl | exact bdl_no (by assumption) | exact bdl_no (flat_no _) | exact bdl_no (ivs_no _) | exact bdl_no (svs_no _) | exact Nat.max_le.2 ⟨Nat.le_of_ble_eq_true rfl, bdl_no (ivs_no _)⟩ | exact Nat.max_le.2 ⟨Nat.le_of_ble_eq_true rfl, bdl_no (svs_no _)⟩ | apply And.intro))⟩
    ·refine bool_false (decide_eq_false (show ¬ Int.ofNat (lo + j) ≤ Int.ofNat hi from fun z => by have := Int.ofNat_le.1 z; omega)) ?_
     conv => whnf
     refine .inl (hK _ _ ?_)
     conv => whnf
     obtain rfl : w = j := by omega
     have e1 : cgF N lo w k ++ cgA N k lo w (s + 1) = X ++ cgB N k (lo + s) lo w := by rw [cgA, hX, List.append_assoc]
     have e2 := (congrArg (fun l => lkC l 1) e1).symm
     have e3 := (congrArg (fun l => AObj.chain l.length 3 66) e1).symm
     exact ⟨s + 1, hs2, by omega, Nat.le_refl _, (by refine ⟨rfl, rfl, rfl, rfl, rfl, rfl, 2, rfl, ?_, ?_⟩ <;> repeat' (first | exact trivial | exact rfl | exact ⟨_, rfl, WkV.refl _⟩ | exact ⟨_, rfl, WkV.own _ _ _⟩ | exact Nat.zero_le _ | exact ⟨_, rfl, WkV.int hs1⟩ | exact ⟨_, rfl, WkV.eq e2⟩ | exact e3 | exact bdl_no lN | exact bdl_no lM | exact bdl_no (lks_no _) | exact bd_lkC _ (by decide) | exact Nat.le_of_ble_eq_true rfl | exact bdl_no (by assumption) | exact bdl_no (flat_no _) | exact bdl_no (ivs_no _) | exact bdl_no (svs_no _) | exact Nat.max_le.2 ⟨Nat.le_of_ble_eq_true rfl, bdl_no (ivs_no _)⟩ | exact Nat.max_le.2 ⟨Nat.le_of_ble_eq_true rfl, bdl_no (svs_no _)⟩ | apply And.intro))⟩
   ·refine bool_false (decide_eq_false (show ¬ Int.ofNat (lo + s) ≤ Int.ofNat hi from fun z => by have := Int.ofNat_le.1 z; omega)) ?_
    conv => whnf
    refine .inl (hK _ _ ?_)
    conv => whnf
    obtain rfl : w = s := by omega
    exact ⟨(k + 1, lkC (cgF N lo w k ++ cgA N k lo w w) 1, [.chain (cgF N lo w k ++ cgA N k lo w w).length 3 66]), [1], ⟨hk2, .inr ⟨by rw [cgF]; simp [he], by rw [cgF], by rw [cgF]⟩⟩, by show N.length - (k + 1) < N.length - k; omega, (by refine ⟨rfl, rfl, rfl, rfl, rfl, rfl, by decide, ?_, ?_, ?_, by kernel_rfl, ?_, ?_⟩ <;> repeat' (first | exact trivial | exact rfl | exact ⟨_, rfl, RnV.wk (WkV.refl _) (Nat.zero_le _)⟩ | exact ⟨_, rfl, RnV.wk (WkV.refl _) (Nat.le_of_ble_eq_true rfl)⟩ | exact TrIw.refl _ _ _ _ _ | exact OWk.same _ | exact OWk.loop _ _ _ _ _ _ _ (by repeat' (first | exact trivial | exact WkV.refl _ | exact WkV.unk _ | apply And.intro)) | exact Nat.zero_le _ | exact ⟨_, rfl, RnV.wk (WkV.int hk1) (Nat.zero_le _)⟩ | exact bdl_no lN | exact bdl_no lM | exact bdl_no (lks_no _) | exact bd_lkC _ (by decide) | exact ⟨_, rfl, rnC (j := 0) (by decide) rfl rfl (lks_no _)⟩ | exact Nat.le_of_ble_eq_true rfl | exact bdl_no (by assumption) | exact bdl_no (flat_no _) | exact bdl_no (ivs_no _) | exact bdl_no (svs_no _) | exact Nat.max_le.2 ⟨Nat.le_of_ble_eq_true rfl, bdl_no (ivs_no _)⟩ | exact Nat.max_le.2 ⟨Nat.le_of_ble_eq_true rfl, bdl_no (svs_no _)⟩ | apply And.intro))⟩
  ·refine bool_false (ltN_f hk2) ?_
   conv => whnf
   obtain rfl : k = N.length := by omega
   refine hK _ _ ?_
   conv => whnf
   exact ⟨_, rfl, wk_cg _ _ he⟩
end
end Go.Abs.Seat
