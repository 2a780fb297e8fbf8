/-
  Books of accounts: entries in another order; settlements that somebody proposes.
-/
import Derived.Test.YtlmadgdonalncaaGreatDoorB66
import Derived.Test.YtlmadgdonalncaaGreatDoorU10
/-! Books of accounts: entries in another order; settlements that somebody proposes. -/
namespace Go.Abs.Seat
noncomputable section
open Go Go.Abs Go.Proofs.Tryz
set_option maxRecDepth 100000
set_option maxHeartbeats 40000000
attribute [local irreducible] IntKind.wrap pEq

theorem slFrom {T : Tr TypeInfo} {t e : TypeId} {inf : TypeInfo} {xs ys : List AV} {n : Nat} {k : IntKind} {z : Int} {l : Nat} (hT : tyU T t = some (.slice e)) (hi : T.get e = some inf) (hz : z = Int.ofNat l) (hl : l ≤ n)
  (hy : takeN ((n - l) * inf.size) (dropN (l * inf.size) xs) = some ys) : pSlice T t (.lst xs n .no) (some (.int k z)) none = .chk (decide (l * inf.size ≤ xs.length)) (.ret (.lst ys (n - l) .no)) := by
 subst hz
 unfold pSlice
 have e1 : bnd (some (.int k (Int.ofNat l))) 0 n = some l := by
  unfold bnd
  simp only [Int.ofNat_eq_natCast]
  rw [decide_eq_true (show (0 : Int) ≤ (l : Int) by omega), decide_eq_true (show (l : Int) ≤ (n : Int) by omega)]
  rfl
 have e2 : bnd none n n = some n := rfl
 simp only [hT, hi, e1, e2, hy]
theorem tak_from (L : List LkI) (p : Nat) : takeN ((L.length - p) * 3) (dropN (p * 3) (lks L)) = some (lks (L.drop p)) := by
 rw [lks_drop, show L.length - p = (L.drop p).length by rw [List.length_drop]]
 exact takeN_lks _
def trn (L : List LkI) (p : Nat) : List LkI := L.drop p ++ L.take p
theorem trn_len (L : List LkI) (p : Nat) : (trn L p).length = L.length := by
 unfold trn
 rw [List.length_append, List.length_drop, List.length_take]; omega
theorem trn_sg (L : List LkI) (p : Nat) (a : Int) : sg (trn L p) a = sg L a := by
 have := sg_app (L.take p) (L.drop p) a
 rw [List.take_append_drop] at this
 unfold trn
 rw [sg_app, this]; omega
theorem trn_bal (L : List LkI) (p k : Nat) : blL (trn L p) k = blL L k := list_ext ((blL_len _ k).trans (blL_len _ k).symm) fun a ha => by
 rw [blL_len] at ha
 rw [blL_get _ ha, blL_get _ ha, trn_sg]
theorem trn_bk {k : Nat} {L : List LkI} (h : bkOk (Int.ofNat k) L) (p : Nat) : bkOk (Int.ofNat k) (trn L p) := by
 refine ⟨h.1, by rw [trn_len]; exact h.2.1, fun j hj => ?_⟩
 have hm := gL_mem' _ hj
 have hm2 : gL (trn L p) j ∈ L := by
  rcases List.mem_append.1 hm with q | q
  ·exact List.mem_of_mem_drop q
  ·exact List.mem_of_mem_take q
 obtain ⟨i, hi, e⟩ := mem_gL' hm2
 rw [← e]
 exact h.2.2 i hi
theorem sub_of {C : List LkI} : ∀ {X : List LkI}, X.Pairwise elP → C.Pairwise elP → (∀ x, x ∈ X → x ∈ C) → X.Sublist C := by
 induction C with
 |nil =>
  intro X _ _ h
  cases X with
  |nil => exact List.Sublist.refl _
  |cons x r => exact absurd (h x (List.mem_cons_self ..)) (by simp)
 |cons c C ih =>
  intro X hX hC h
  have hC2 := List.pairwise_cons.1 hC
  cases X with
  |nil => exact List.nil_sublist _
  |cons x r =>
   have hX2 := List.pairwise_cons.1 hX
   rcases List.mem_cons.1 (h x (List.mem_cons_self ..)) with e | e
   ·subst e
    refine (ih hX2.2 hC2.2 fun y hy => ?_).cons_cons x
    rcases List.mem_cons.1 (h y (List.mem_cons_of_mem _ hy)) with e | e
    ·have := hX2.1 y hy
     rw [e] at this
     unfold elP at this; omega
    ·exact e
   ·refine (ih hX hC2.2 fun y hy => ?_).cons c
    rcases List.mem_cons.1 (h y hy) with e2 | e2
    ·have h1 := hC2.1 x e
     rcases List.mem_cons.1 hy with e3 | e3
     ·rw [← e2, e3] at h1
      unfold elP at h1; omega
     ·have h2 := hX2.1 y e3
      rw [e2] at h2
      unfold elP at h1 h2; omega
    ·exact e2
theorem pw_of : ∀ {X : List LkI}, (∀ i, i < X.length → 0 < i → elP (gL X (i - 1)) (gL X i)) → X.Pairwise elP
 | [], _ => .nil
 | [x], _ => List.pairwise_singleton ..
 |x :: y :: r, h => by
  have ih := pw_of (X := y :: r) fun i hi h0 => by
   have := h (i + 1) (Nat.succ_lt_succ hi) (Nat.succ_pos _)
   rw [Nat.add_sub_cancel, gL_succ] at this
   rwa [show i = i - 1 + 1 by omega, gL_succ, show i - 1 + 1 = i by omega] at this
  have h1 : elP x y := h 1 (Nat.succ_lt_succ (Nat.succ_pos _)) Nat.one_pos
  refine List.pairwise_cons.2 ⟨fun z hz => ?_, ih⟩
  rcases List.mem_cons.1 hz with e | e
  ·rw [e]; exact h1
  ·exact h1.trans ((List.pairwise_cons.1 ih).1 z e)
theorem stP_st {b : List Int} {Z : List LkI} (h : stP b Z) : StL b (cnL b) Z := by
 refine ⟨sub_of ?_ (cnF_ord b _) fun x hx => ?_, fun e he => ?_, h.2⟩
 ·refine pw_of fun i hi h0 => ?_
  rw [zr_len] at hi
  rw [gL_zr, gL_zr]
  exact (h.1 i hi).2.2.2.2.2 h0
 ·obtain ⟨i, hi, rfl⟩ := mem_gL' hx
  rw [zr_len] at hi
  have hs := h.1 i hi
  rw [gL_zr]
  have h1 := hs.1
  have h2 := hs.2.1
  refine (cnF_mem b _ _).2 ⟨(gL Z i).1.toNat, (gL Z i).2.1.toNat, by omega, by omega, ⟨hs.2.2.1, hs.2.2.2.1⟩, ?_⟩
  refine Prod.ext (Int.toNat_of_nonneg h1.1).symm (Prod.ext (Int.toNat_of_nonneg h2.1).symm rfl)
 ·obtain ⟨i, hi, rfl⟩ := mem_gL' he
  have := (h.1 i hi).2.2.2.2.1
  omega
theorem sg_nonpos : ∀ {R : List LkI} {a : Int}, (∀ j, j < R.length → fl a (gL R j) ≤ 0) → sg R a ≤ 0 ∧ ∀ i, i < R.length → sg R a ≤ fl a (gL R i)
 | [], _, _ => ⟨Int.le_refl _, fun i hi => absurd hi (Nat.not_lt_zero i)⟩
 |e :: r, a, h => by
  have h0 := h 0 (Nat.succ_pos _)
  rw [gL_zero] at h0
  have ih := sg_nonpos (R := r) (a := a) fun j hj => h (j + 1) (Nat.succ_lt_succ hj)
  rw [sg]
  refine ⟨by omega, fun i hi => ?_⟩
  cases i with
  |zero => rw [gL_zero]; omega
  |succ i =>
   have := ih.2 i (Nat.lt_of_succ_lt_succ hi)
   rw [gL_succ]; omega
theorem st_stP {b : List Int} (hb : b.length ≤ 5) (hbd : ∀ a, a < b.length → - 8000000 ≤ b.getD a 0 ∧ b.getD a 0 ≤ 8000000) {R : List LkI} (h : StL b (cnL b) R) : stP b R := by
 refine ⟨fun i hi => ?_, h.2.2⟩
 obtain ⟨f, t, h1, h2, e1, e2⟩ := h.at (cn_can hb) hi
 have hpos := h.2.1 _ (gL_mem' R hi)
 have i1 : Int.ofNat f = (f : Int) := rfl
 have i2 : Int.ofNat t = (t : Int) := rfl
 refine ⟨by rw [e1]; omega, by rw [e2]; omega, by rw [e1]; exact h1.2, by rw [e2]; exact h2.2, ⟨by omega, ?_⟩, fun h0 => ?_⟩
 ·have hs := h.2.2 f h1.1
  have hn := (sg_nonpos (R := R) (a := Int.ofNat f) fun j hj => by
   obtain ⟨f', t', g1, g2, k1, k2⟩ := h.at (cn_can hb) hj
   have hp := h.2.1 _ (gL_mem' R hj)
   unfold fl
   rw [k1, k2, if_neg (fun z => by
    have : t' = f := Int.ofNat.inj z
    subst this; omega)]
   split <;> omega).2 i hi
  have hfl : fl (Int.ofNat f) (gL R i) = - (gL R i).2.2 := by
   unfold fl
   rw [e1, e2, if_pos rfl, if_neg (fun z => by
    have : t = f := Int.ofNat.inj z
    subst this; omega)]
   omega
  have := (hbd f h1.1).2
  omega
 ·have hp := (cnF_ord b b.length).sublist h.1
  have := pw_ix hp (i := i - 1) (j := i) (by rw [zr_len]; omega) (by rw [zr_len]; exact hi) (by omega)
  rw [gL_zr, gL_zr] at this
  exact this
theorem lxP_at : ∀ {A B : List LkI} {i : Nat}, i < A.length → i < B.length → (∀ j, j < i → (gL A j).1 = (gL B j).1 ∧ (gL A j).2.1 = (gL B j).2.1) → elP (gL A i) (gL B i) → lxP A B
 | [], _, _, h, _, _, _ => absurd h (Nat.not_lt_zero _)
 | _ :: _, [], _, _, h, _, _ => absurd h (Nat.not_lt_zero _)
 |x :: A, y :: B, 0, _, _, _, h => by
  rw [lxP]; exact .inl h
 |x :: A, y :: B, i + 1, h1, h2, h3, h => by
  rw [lxP]
  refine .inr ⟨h3 0 (Nat.succ_pos _), lxP_at (i := i) (Nat.lt_of_succ_lt_succ h1) (Nat.lt_of_succ_lt_succ h2) (fun j hj => h3 (j + 1) (Nat.succ_lt_succ hj)) ?_⟩
  rw [gL_succ, gL_succ] at h
  exact h
theorem prop_len {b : List Int} (hb : b.length ≤ 5) {R Z : List LkI} (hR : BkS b R) (hZ : stP b Z) : ¬ Z.length < R.length := fun z => (hR.least hb (stP_st hZ)).1 (.inl z)
theorem prop_lx {b : List Int} (hb : b.length ≤ 5) {R Z : List LkI} (hR : BkS b R) (hZ : stP b Z) (hl : Z.length = R.length) : ¬ lxP Z R := fun z => (hR.least hb (stP_st hZ)).1 (.inr ⟨hl, z⟩)
theorem prop_same {b : List Int} (hb : b.length ≤ 5) {R Z : List LkI} (hR : BkS b R) (hZ : stP b Z) (hl : Z.length = R.length) (hs : ∀ j, j < R.length → (gL Z j).1 = (gL R j).1 ∧ (gL Z j).2.1 = (gL R j).2.1) : Z = R := by
 refine hR.same hb (stP_st hZ) ?_
 have e : zr Z = zr R := gL_ext (by rw [zr_len, zr_len, hl]) fun j hj => by
  rw [zr_len, hl] at hj
  rw [gL_zr, gL_zr, (hs j hj).1, (hs j hj).2]
 rw [← erP_zr, e]
 exact erP.irr
end
end Go.Abs.Seat
