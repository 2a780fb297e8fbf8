/-
  Rules without teeth, prepared: printed by genE.py.
-/
import Derived.Test.YtpjclnoehlflcaaGreatDoorU9
/-! Rules without teeth, prepared: printed by genE.py. -/
namespace Go.Abs.Seat
noncomputable section
open Go Go.Abs Go.Proofs.Tryz
set_option maxRecDepth 100000
set_option maxHeartbeats 40000000
attribute [local irreducible] IntKind.wrap pEq

theorem wk_agg8 {a b c d e f x y u : AV} (h : Wk x y) : Wk (.agg [a, b, c, d, e, f, x, u]) (.agg [a, b, c, d, e, f, y, .unk]) := by
 intro g w u hu
 obtain ⟨vs, e0, u0, us0, e1, h0, u1, us1, e2, h1, u2, us2, e3, h2, u3, us3, e4, h3, u4, us4, e5, h4, u5, us5, e6, h5, u6, us6, e7, h6, u7, us7, e8, h7, h8⟩ := hu
 exact ⟨vs, e0, u0, us0, e1, h0, u1, us1, e2, h1, u2, us2, e3, h2, u3, us3, e4, h3, u4, us4, e5, h4, u5, us5, e6, h5, u6, us6, e7, h _ _ _ h6, u7, us7, e8, trivial, h8⟩
def eS : Nat → List AV
 | 0 => [.lst [nv 1] 1 .no]
 |k + 1 => eS k ++ [.nils]
theorem eS_no : ∀ k, Lives noL (eS k)
 | 0 => ⟨⟨⟨trivial, trivial⟩, fun _ h => nomatch h⟩, trivial⟩
 |k + 1 => lives_app (eS_no k) ⟨trivial, trivial⟩
def whE (a b : Int) (p : Nat) (s : Int) (N : AV) : AV := .agg [iv a, iv b, nv p, iv s, N, .nils, .lst (eS p) (p + 1) .no, .unk]
theorem whE_wk {a b s : Int} {p r : Nat} {N x u : AV} (hp : p = r) (h : wk x = .lst (eS r) (r + 1) .no) : Wk (.agg [iv a, iv b, nv p, iv s, N, .nils, x, u]) (whE a b p s N) := by
 subst hp
 unfold whE
 rw [← h]
 exact wk_agg8 (Wk.wk x)
theorem whE_no {a b : Int} {p : Nat} {s : Int} {N : AV} (h : Live noL N) : Live noL (whE a b p s N) :=
 show Live noL (.agg [_, _, _, _, _, _, _, _]) from ⟨trivial, trivial, trivial, trivial, h, trivial, ⟨eS_no p, fun _ e => nomatch e⟩, trivial, trivial⟩

theorem slG1 : AObj.cells (.node (.slc 26 0 (IntKind.i64.wrap (60 + 1)).toNat (IntKind.i64.wrap (60 + 1)).toNat) .nil .nil) 1 164 = AObj.cells (.node (.slc 26 0 61 61) .nil .nil) 1 164 := by
 rw [show IntKind.i64.wrap (60 + 1) = 61 from wrapI (by decide) (by decide)]; rfl
theorem slV1 : WkV (.slc 26 0 (IntKind.i64.wrap (60 + 1)).toNat (IntKind.i64.wrap (60 + 1)).toNat) (.slc 26 0 61 61) := by
 rw [show IntKind.i64.wrap (60 + 1) = 61 from wrapI (by decide) (by decide)]; exact WkV.refl _
theorem slW1 : WkV (.int .i64 (IntKind.i64.wrap (60 + 1))) (nv 61) := by
 rw [show IntKind.i64.wrap (60 + 1) = 61 from wrapI (by decide) (by decide)]; exact WkV.refl _
theorem slX1 : WkV (.int .i64 ((IntKind.i64.wrap (60 + 1)).toNat : Int)) (nv 61) := by
 rw [show IntKind.i64.wrap (60 + 1) = 61 from wrapI (by decide) (by decide)]; exact WkV.refl _
theorem slG2 : AObj.cells (.node (.slc 48 0 (IntKind.i64.wrap (3600 + 1)).toNat (IntKind.i64.wrap (3600 + 1)).toNat) .nil .nil) 1 164 = AObj.cells (.node (.slc 48 0 3601 3601) .nil .nil) 1 164 := by
 rw [show IntKind.i64.wrap (3600 + 1) = 3601 from wrapI (by decide) (by decide)]; rfl
theorem slV2 : WkV (.slc 48 0 (IntKind.i64.wrap (3600 + 1)).toNat (IntKind.i64.wrap (3600 + 1)).toNat) (.slc 48 0 3601 3601) := by
 rw [show IntKind.i64.wrap (3600 + 1) = 3601 from wrapI (by decide) (by decide)]; exact WkV.refl _
theorem slW2 : WkV (.int .i64 (IntKind.i64.wrap (3600 + 1))) (nv 3601) := by
 rw [show IntKind.i64.wrap (3600 + 1) = 3601 from wrapI (by decide) (by decide)]; exact WkV.refl _
theorem slX2 : WkV (.int .i64 ((IntKind.i64.wrap (3600 + 1)).toNat : Int)) (nv 3601) := by
 rw [show IntKind.i64.wrap (3600 + 1) = 3601 from wrapI (by decide) (by decide)]; exact WkV.refl _
theorem slG3 : AObj.cells (.node (.slc 70 0 (IntKind.i64.wrap (216000 + 1)).toNat (IntKind.i64.wrap (216000 + 1)).toNat) .nil .nil) 1 164 = AObj.cells (.node (.slc 70 0 216001 216001) .nil .nil) 1 164 := by
 rw [show IntKind.i64.wrap (216000 + 1) = 216001 from wrapI (by decide) (by decide)]; rfl
theorem slV3 : WkV (.slc 70 0 (IntKind.i64.wrap (216000 + 1)).toNat (IntKind.i64.wrap (216000 + 1)).toNat) (.slc 70 0 216001 216001) := by
 rw [show IntKind.i64.wrap (216000 + 1) = 216001 from wrapI (by decide) (by decide)]; exact WkV.refl _
theorem slW3 : WkV (.int .i64 (IntKind.i64.wrap (216000 + 1))) (nv 216001) := by
 rw [show IntKind.i64.wrap (216000 + 1) = 216001 from wrapI (by decide) (by decide)]; exact WkV.refl _
theorem slX3 : WkV (.int .i64 ((IntKind.i64.wrap (216000 + 1)).toNat : Int)) (nv 216001) := by
 rw [show IntKind.i64.wrap (216000 + 1) = 216001 from wrapI (by decide) (by decide)]; exact WkV.refl _
theorem prepE01 {N : AV} {l : List Int} (hN : IL N l) (a b : Nat) (s : Int) (p : Nat) (hp : 1 ≤ p ∧ p ≤ 3) :
  Pure prog 93 [ruv (Int.ofNat a) (Int.ofNat b) (Int.ofNat p) s N .nils] (whE (Int.ofNat a) (Int.ofNat b) p s N) := by
 have lN := hN.no
 have lU : Live noL (ruv (Int.ofNat a) (Int.ofNat b) (Int.ofNat p) s N .nils) := ⟨trivial, trivial, trivial, trivial, lN, trivial, trivial⟩
 have lU8 : Live noL (.agg [iv (Int.ofNat a), iv (Int.ofNat b), iv (Int.ofNat p), iv s, N, .nils, .nils, .nils]) := ⟨trivial, trivial, trivial, trivial, lN, trivial, trivial, trivial, trivial⟩
 have lE := whE_no (a := Int.ofNat a) (b := Int.ofNat b) (s := s) (p := p) lN
 have hp1 : IntKind.i64.wrap (Int.ofNat p + 1) = Int.ofNat (p + 1) := wrapN (m := p + 1) (by omega)
 rcases hN.cs with rfl | rfl
 all_goals
  refine pure_sym hE rfl (by repeat' (first | exact trivial | assumption | exact flat_no _ | exact (fun _ h => nomatch h) | apply And.intro)) lE fun S q pc hS hq hC hE => ?_
  conv => whnf
  repeat (first | (refine fcH0_mk ?_; conv => whnf) | (refine bool_true (by rcases hNs with rfl | rfl <;> exact rfl) ?_; conv => whnf))
  refine sym_unroll hE hS ?_
  conv => whnf
  refine bool_true ((show decide (0 < IntKind.i64.wrap (Int.ofNat p + 1)) = true by rw [hp1]; exact ltN_t (a := 0) (Nat.succ_pos p))) ?_
  conv => whnf
  refine sym_pure hC (rep0) ?_
  conv => whnf
  refine sym_pure hC (pro0) ?_
  conv => whnf
  rw [show IntKind.i64.wrap (1 + 1) = 2 from wrapI (by decide) (by decide)]
  conv => whnf
  repeat (first | (refine fcH0_mk ?_; conv => whnf) | (refine bool_true (by rcases hNs with rfl | rfl <;> exact rfl) ?_; conv => whnf))
  refine sym_call hC ?_
  conv => whnf
  refine sym_inline hE hS ?_
  conv => whnf
  repeat (first | (refine fcH0_mk ?_; conv => whnf) | (refine bool_true (by rcases hNs with rfl | rfl <;> exact rfl) ?_; conv => whnf))
  refine sym_inline hE hS ?_
  conv => whnf
  refine sym_call hC ?_
  conv => whnf
  refine sym_inline hE hS ?_
  conv => whnf
  refine sym_code hE hS ?_
  conv => whnf
  refine sym_code hE hS ?_
  conv => whnf
  refine sym_unroll hE hS ?_
  conv => whnf
  rw [show IntKind.i64.wrap (0 + 1) = 1 from wrapI (by decide) (by decide)]
  conv => whnf
  refine sym_unroll hE hS ?_
  conv => whnf
  rw [show IntKind.i64.wrap (1 + 1) = 2 from wrapI (by decide) (by decide)]
  conv => whnf
  refine sym_unroll hE hS ?_
  conv => whnf
  refine sym_drawn hS (by kernel_rfl) ?_
  conv => whnf
  refine loop_set 16 rfl (show AV.int .i64 (IntKind.i64.wrap (0 + 1)) = nv 1 from congrArg (AV.int .i64) (wrapI (by decide) (by decide))) ?_
  refine sym_unroll hE hS ?_
  conv => whnf
  refine bool_true ((show decide (1 < IntKind.i64.wrap (Int.ofNat p + 1)) = true by rw [hp1]; exact ltN_t (a := 1) (by omega))) ?_
  conv => whnf
  refine sym_pure hC (rep1) ?_
  conv => whnf
  refine sym_pure hC (pro1) ?_
  conv => whnf
  with_unfolding_all (conv => whnf)
  intro t ht
  have ht1 : ∀ j, t.get j = if j < 61 then some (.bool false) else none := ht
  conv => whnf
  repeat (first | (refine fcH0_mk ?_; conv => whnf) | (refine bool_true (by rcases hNs with rfl | rfl <;> exact rfl) ?_; conv => whnf))
  refine sym_call hC ?_
  conv => whnf
  refine sym_inline hE hS ?_
  conv => whnf
  repeat (first | (refine fcH0_mk ?_; conv => whnf) | (refine bool_true (by rcases hNs with rfl | rfl <;> exact rfl) ?_; conv => whnf))
  refine sym_inline hE hS ?_
  conv => whnf
  refine sym_call hC ?_
  conv => whnf
  refine sym_inline hE hS ?_
  conv => whnf
  refine sym_unroll hE hS ?_
  conv => whnf
  have hm1 := Mk.none ht1
  refine sym_loopQ hE hS (A := Nat × Nat) [] (fun x hx => hx) [1, 2, 3, 5, 15, 16] (fun (x, m) => [(7, .nils), (32, .slc 26 0 m m), (33, nv m), (34, nv x)]) (fun (_, m) => [(26, .cells t m 4), (27, .cells (.node (.slc 26 0 m m) .nil .nil) 1 164)]) (fun _ => []) (fun (x, m) => m = 61 ∧ x ≤ m) (fun (x, _) => 61 - x) (0, 61) (Nat.le_of_ble_eq_true rfl) (by repeat' (first | exact trivial | exact Nat.lt_of_lt_of_le (Nat.lt_succ_self _) (Nat.le_of_ble_eq_true rfl) | apply And.intro)) rfl (by refine ⟨rfl, rfl, rfl, rfl, rfl, rfl, 34, rfl, ?_, ?_, ?_, ?_, by kernel_rfl⟩ <;> repeat' (first | exact trivial | exact rfl | exact ⟨_, rfl, WkV.refl _⟩ | exact ⟨_, rfl, WkV.own _ _ _⟩ | exact TrIw.refl _ _ _ _ _ | exact OWk.same _ | exact OWk.loop _ _ _ _ _ _ _ (by repeat' (first | exact trivial | exact WkV.refl _ | exact WkV.unk _ | apply And.intro)) | exact Nat.zero_le _ | exact bdl_no lU | exact bz lU | exact bz lU8 | exact bz lN | exact Mk.bd hm1 | exact slG1 | exact OWk.eq slG1 | exact ⟨_, rfl, slV1⟩ | exact ⟨_, rfl, slW1⟩ | exact ⟨_, rfl, slX1⟩ | exact Nat.le_of_ble_eq_true rfl | exact bdl_no (by assumption) | exact bdl_no (flat_no _) | exact bdl_no (ivs_no _) | exact bdl_no (svs_no _) | exact Nat.max_le.2 ⟨Nat.le_of_ble_eq_true rfl, bdl_no (ivs_no _)⟩ | exact Nat.max_le.2 ⟨Nat.le_of_ble_eq_true rfl, bdl_no (svs_no _)⟩ | apply And.intro)) ⟨rfl, Nat.zero_le _⟩ ?_
  rintro ⟨x, m1⟩ ⟨em1, hx⟩ K hK
  obtain rfl : K = 34 := hK
  have hx1 : x ≤ 61 → IntKind.i64.wrap (Int.ofNat x + 1) = Int.ofNat (x + 1) := fun h => wrapN (m := x + 1) (by omega)
  conv => whnf
  by_cases hx2 : x < m1
  ·have hg : t.get (0 + x * 1) = some (.bool false) := by rw [show 0 + x * 1 = x by omega, ht1 x, if_pos (by omega)]
   refine bool_true (ltN_t hx2) ?_
   conv => whnf
   refine bool_true (inR_t hx2) ?_
   conv => whnf
   refine bool_true (decide_eq_true (show 0 + x * 1 < m1 by omega)) ?_
   conv => whnf
   refine plan_as (getP_as hg) ?_
   conv => whnf
   exact ⟨(x + 1, m1), ⟨em1, hx2⟩, by show 61 - (x + 1) < 61 - x; omega, Nat.le_refl _, (by refine ⟨rfl, rfl, rfl, rfl, rfl, rfl, 34, rfl, ?_, ?_, ?_, ?_, by kernel_rfl⟩ <;> repeat' (first | exact trivial | exact rfl | exact ⟨_, rfl, WkV.refl _⟩ | exact ⟨_, rfl, WkV.own _ _ _⟩ | exact TrIw.refl _ _ _ _ _ | exact OWk.same _ | exact OWk.loop _ _ _ _ _ _ _ (by repeat' (first | exact trivial | exact WkV.refl _ | exact WkV.unk _ | apply And.intro)) | exact Nat.zero_le _ | exact bdl_no lU | exact bz lU | exact bz lU8 | exact bz lN | exact Mk.bd hm1 | exact ⟨_, rfl, WkV.int (hx1 (by omega))⟩ | exact Nat.le_of_ble_eq_true rfl | exact bdl_no (by assumption) | exact bdl_no (flat_no _) | exact bdl_no (ivs_no _) | exact bdl_no (svs_no _) | exact Nat.max_le.2 ⟨Nat.le_of_ble_eq_true rfl, bdl_no (ivs_no _)⟩ | exact Nat.max_le.2 ⟨Nat.le_of_ble_eq_true rfl, bdl_no (svs_no _)⟩ | apply And.intro))⟩
  refine bool_false (ltN_f hx2) ?_
  conv => whnf
  refine .inl ?_
  conv => whnf
  refine sym_drawn hS (by kernel_rfl) ?_
  conv => whnf
  clear hx1 hx2 hx
  refine loop_set 16 rfl (show AV.int .i64 (IntKind.i64.wrap (1 + 1)) = nv 2 from congrArg (AV.int .i64) (wrapI (by decide) (by decide))) ?_
  refine sym_unroll hE hS ?_
  conv => whnf
  by_cases hp2 : 2 ≤ p
  ·refine bool_true ((show decide (2 < IntKind.i64.wrap (Int.ofNat p + 1)) = true by rw [hp1]; exact ltN_t (a := 2) (by omega))) ?_
   conv => whnf
   refine sym_pure hC (rep2) ?_
   conv => whnf
   refine sym_pure hC (pro2) ?_
   conv => whnf
   with_unfolding_all (conv => whnf)
   intro t ht
   have ht2 : ∀ j, t.get j = if j < 3601 then some (.bool false) else none := ht
   conv => whnf
   repeat (first | (refine fcH0_mk ?_; conv => whnf) | (refine bool_true (by rcases hNs with rfl | rfl <;> exact rfl) ?_; conv => whnf))
   refine sym_call hC ?_
   conv => whnf
   refine sym_inline hE hS ?_
   conv => whnf
   repeat (first | (refine fcH0_mk ?_; conv => whnf) | (refine bool_true (by rcases hNs with rfl | rfl <;> exact rfl) ?_; conv => whnf))
   refine sym_inline hE hS ?_
   conv => whnf
   refine sym_call hC ?_
   conv => whnf
   refine sym_inline hE hS ?_
   conv => whnf
   refine sym_unroll hE hS ?_
   conv => whnf
   have hm2 := Mk.none ht2
   refine sym_loopQ hE hS (A := Nat × Nat) [] (fun x hx => hx) [1, 2, 3, 5, 15, 16] (fun (x, m) => [(7, .nils), (32, .slc 48 0 m m), (33, nv m), (34, nv x)]) (fun (_, m) => [(48, .cells t m 4), (49, .cells (.node (.slc 48 0 m m) .nil .nil) 1 164)]) (fun _ => []) (fun (x, m) => m = 3601 ∧ x ≤ m) (fun (x, _) => 3601 - x) (0, 3601) (Nat.le_of_ble_eq_true rfl) (by repeat' (first | exact trivial | exact Nat.lt_of_lt_of_le (Nat.lt_succ_self _) (Nat.le_of_ble_eq_true rfl) | apply And.intro)) rfl (by refine ⟨rfl, rfl, rfl, rfl, rfl, rfl, 56, rfl, ?_, ?_, ?_, ?_, by kernel_rfl⟩ <;> repeat' (first | exact trivial | exact rfl | exact ⟨_, rfl, WkV.refl _⟩ | exact ⟨_, rfl, WkV.own _ _ _⟩ | exact TrIw.refl _ _ _ _ _ | exact OWk.same _ | exact OWk.loop _ _ _ _ _ _ _ (by repeat' (first | exact trivial | exact WkV.refl _ | exact WkV.unk _ | apply And.intro)) | exact Nat.zero_le _ | exact bdl_no lU | exact bz lU | exact bz lU8 | exact bz lN | exact Mk.bd hm1 | exact Mk.bd hm2 | exact slG2 | exact OWk.eq slG2 | exact ⟨_, rfl, slV2⟩ | exact ⟨_, rfl, slW2⟩ | exact ⟨_, rfl, slX2⟩ | exact Nat.le_of_ble_eq_true rfl | exact bdl_no (by assumption) | exact bdl_no (flat_no _) | exact bdl_no (ivs_no _) | exact bdl_no (svs_no _) | exact Nat.max_le.2 ⟨Nat.le_of_ble_eq_true rfl, bdl_no (ivs_no _)⟩ | exact Nat.max_le.2 ⟨Nat.le_of_ble_eq_true rfl, bdl_no (svs_no _)⟩ | apply And.intro)) ⟨rfl, Nat.zero_le _⟩ ?_
   rintro ⟨x, m2⟩ ⟨em2, hx⟩ K hK
   obtain rfl : K = 56 := hK
   have hx1 : x ≤ 3601 → IntKind.i64.wrap (Int.ofNat x + 1) = Int.ofNat (x + 1) := fun h => wrapN (m := x + 1) (by omega)
   conv => whnf
   by_cases hx2 : x < m2
   ·have hg : t.get (0 + x * 1) = some (.bool false) := by rw [show 0 + x * 1 = x by omega, ht2 x, if_pos (by omega)]
    refine bool_true (ltN_t hx2) ?_
    conv => whnf
    refine bool_true (inR_t hx2) ?_
    conv => whnf
    refine bool_true (decide_eq_true (show 0 + x * 1 < m2 by omega)) ?_
    conv => whnf
    refine plan_as (getP_as hg) ?_
    conv => whnf
    exact ⟨(x + 1, m2), ⟨em2, hx2⟩, by show 3601 - (x + 1) < 3601 - x; omega, Nat.le_refl _, (by refine ⟨rfl, rfl, rfl, rfl, rfl, rfl, 56, rfl, ?_, ?_, ?_, ?_, by kernel_rfl⟩ <;> repeat' (first | exact trivial | exact rfl | exact ⟨_, rfl, WkV.refl _⟩ | exact ⟨_, rfl, WkV.own _ _ _⟩ | exact TrIw.refl _ _ _ _ _ | exact OWk.same _ | exact OWk.loop _ _ _ _ _ _ _ (by repeat' (first | exact trivial | exact WkV.refl _ | exact WkV.unk _ | apply And.intro)) | exact Nat.zero_le _ | exact bdl_no lU | exact bz lU | exact bz lU8 | exact bz lN | exact Mk.bd hm1 | exact Mk.bd hm2 | exact ⟨_, rfl, WkV.int (hx1 (by omega))⟩ | exact Nat.le_of_ble_eq_true rfl | exact bdl_no (by assumption) | exact bdl_no (flat_no _) | exact bdl_no (ivs_no _) | exact bdl_no (svs_no _) | exact Nat.max_le.2 ⟨Nat.le_of_ble_eq_true rfl, bdl_no (ivs_no _)⟩ | exact Nat.max_le.2 ⟨Nat.le_of_ble_eq_true rfl, bdl_no (svs_no _)⟩ | apply And.intro))⟩
   refine bool_false (ltN_f hx2) ?_
   conv => whnf
   refine .inl ?_
   conv => whnf
   refine sym_drawn hS (by kernel_rfl) ?_
   conv => whnf
   clear hx1 hx2 hx
   refine loop_set 16 rfl (show AV.int .i64 (IntKind.i64.wrap (2 + 1)) = nv 3 from congrArg (AV.int .i64) (wrapI (by decide) (by decide))) ?_
   refine sym_unroll hE hS ?_
   conv => whnf
   by_cases hp3 : 3 ≤ p
   ·refine bool_true ((show decide (3 < IntKind.i64.wrap (Int.ofNat p + 1)) = true by rw [hp1]; exact ltN_t (a := 3) (by omega))) ?_
    conv => whnf
    refine sym_pure hC (rep3) ?_
    conv => whnf
    refine sym_pure hC (pro3) ?_
    conv => whnf
    with_unfolding_all (conv => whnf)
    intro t ht
    have ht3 : ∀ j, t.get j = if j < 216001 then some (.bool false) else none := ht
    conv => whnf
    repeat (first | (refine fcH0_mk ?_; conv => whnf) | (refine bool_true (by rcases hNs with rfl | rfl <;> exact rfl) ?_; conv => whnf))
    refine sym_call hC ?_
    conv => whnf
    refine sym_inline hE hS ?_
    conv => whnf
    repeat (first | (refine fcH0_mk ?_; conv => whnf) | (refine bool_true (by rcases hNs with rfl | rfl <;> exact rfl) ?_; conv => whnf))
    refine sym_inline hE hS ?_
    conv => whnf
    refine sym_call hC ?_
    conv => whnf
    refine sym_inline hE hS ?_
    conv => whnf
    refine sym_unroll hE hS ?_
    conv => whnf
    have hm3 := Mk.none ht3
    refine sym_loopQ hE hS (A := Nat × Nat) [] (fun x hx => hx) [1, 2, 3, 5, 15, 16] (fun (x, m) => [(7, .nils), (32, .slc 70 0 m m), (33, nv m), (34, nv x)]) (fun (_, m) => [(70, .cells t m 4), (71, .cells (.node (.slc 70 0 m m) .nil .nil) 1 164)]) (fun _ => []) (fun (x, m) => m = 216001 ∧ x ≤ m) (fun (x, _) => 216001 - x) (0, 216001) (Nat.le_of_ble_eq_true rfl) (by repeat' (first | exact trivial | exact Nat.lt_of_lt_of_le (Nat.lt_succ_self _) (Nat.le_of_ble_eq_true rfl) | apply And.intro)) rfl (by refine ⟨rfl, rfl, rfl, rfl, rfl, rfl, 78, rfl, ?_, ?_, ?_, ?_, by kernel_rfl⟩ <;> repeat' (first | exact trivial | exact rfl | exact ⟨_, rfl, WkV.refl _⟩ | exact ⟨_, rfl, WkV.own _ _ _⟩ | exact TrIw.refl _ _ _ _ _ | exact OWk.same _ | exact OWk.loop _ _ _ _ _ _ _ (by repeat' (first | exact trivial | exact WkV.refl _ | exact WkV.unk _ | apply And.intro)) | exact Nat.zero_le _ | exact bdl_no lU | exact bz lU | exact bz lU8 | exact bz lN | exact Mk.bd hm1 | exact Mk.bd hm2 | exact Mk.bd hm3 | exact slG3 | exact OWk.eq slG3 | exact ⟨_, rfl, slV3⟩ | exact ⟨_, rfl, slW3⟩ | exact ⟨_, rfl, slX3⟩ | exact Nat.le_of_ble_eq_true rfl | exact bdl_no (by assumption) | exact bdl_no (flat_no _) | exact bdl_no (ivs_no _) | exact bdl_no (svs_no _) | exact Nat.max_le.2 ⟨Nat.le_of_ble_eq_true rfl, bdl_no (ivs_no _)⟩ | exact Nat.max_le.2 ⟨Nat.le_of_ble_eq_true rfl, bdl_no (svs_no _)⟩ | apply And.intro)) ⟨rfl, Nat.zero_le _⟩ ?_
    rintro ⟨x, m3⟩ ⟨em3, hx⟩ K hK
    obtain rfl : K = 78 := hK
    have hx1 : x ≤ 216001 → IntKind.i64.wrap (Int.ofNat x + 1) = Int.ofNat (x + 1) := fun h => wrapN (m := x + 1) (by omega)
    conv => whnf
    by_cases hx2 : x < m3
    ·have hg : t.get (0 + x * 1) = some (.bool false) := by rw [show 0 + x * 1 = x by omega, ht3 x, if_pos (by omega)]
     refine bool_true (ltN_t hx2) ?_
     conv => whnf
     refine bool_true (inR_t hx2) ?_
     conv => whnf
     refine bool_true (decide_eq_true (show 0 + x * 1 < m3 by omega)) ?_
     conv => whnf
     refine plan_as (getP_as hg) ?_
     conv => whnf
     exact ⟨(x + 1, m3), ⟨em3, hx2⟩, by show 216001 - (x + 1) < 216001 - x; omega, Nat.le_refl _, (by refine ⟨rfl, rfl, rfl, rfl, rfl, rfl, 78, rfl, ?_, ?_, ?_, ?_, by kernel_rfl⟩ <;> repeat' (first | exact trivial | exact rfl | exact ⟨_, rfl, WkV.refl _⟩ | exact ⟨_, rfl, WkV.own _ _ _⟩ | exact TrIw.refl _ _ _ _ _ | exact OWk.same _ | exact OWk.loop _ _ _ _ _ _ _ (by repeat' (first | exact trivial | exact WkV.refl _ | exact WkV.unk _ | apply And.intro)) | exact Nat.zero_le _ | exact bdl_no lU | exact bz lU | exact bz lU8 | exact bz lN | exact Mk.bd hm1 | exact Mk.bd hm2 | exact Mk.bd hm3 | exact ⟨_, rfl, WkV.int (hx1 (by omega))⟩ | exact Nat.le_of_ble_eq_true rfl | exact bdl_no (by assumption) | exact bdl_no (flat_no _) | exact bdl_no (ivs_no _) | exact bdl_no (svs_no _) | exact Nat.max_le.2 ⟨Nat.le_of_ble_eq_true rfl, bdl_no (ivs_no _)⟩ | exact Nat.max_le.2 ⟨Nat.le_of_ble_eq_true rfl, bdl_no (svs_no _)⟩ | apply And.intro))⟩
    refine bool_false (ltN_f hx2) ?_
    conv => whnf
    refine .inl ?_
    conv => whnf
    refine sym_drawn hS (by kernel_rfl) ?_
    conv => whnf
    clear hx1 hx2 hx
    refine loop_set 16 rfl (show AV.int .i64 (IntKind.i64.wrap (3 + 1)) = nv 4 from congrArg (AV.int .i64) (wrapI (by decide) (by decide))) ?_
    refine sym_unroll hE hS ?_
    conv => whnf
    refine bool_false ((show decide (4 < IntKind.i64.wrap (Int.ofNat p + 1)) = false by rw [hp1]; exact ltN_f (a := 4) (by omega))) ?_
    conv => whnf
    exact ⟨_, rfl, whE_wk (show p = 3 by omega) rfl⟩
   ·refine bool_false ((show decide (3 < IntKind.i64.wrap (Int.ofNat p + 1)) = false by rw [hp1]; exact ltN_f (a := 3) (by omega))) ?_
    conv => whnf
    exact ⟨_, rfl, whE_wk (show p = 2 by omega) rfl⟩
  ·refine bool_false ((show decide (2 < IntKind.i64.wrap (Int.ofNat p + 1)) = false by rw [hp1]; exact ltN_f (a := 2) (by omega))) ?_
   conv => whnf
   exact ⟨_, rfl, whE_wk (show p = 1 by omega) rfl⟩
end
end Go.Abs.Seat
