/-
  The law ShopTrains.
-/
import Derived.Test.YtikikanopganaaaGreatDoorU14
/-! The law ShopTrains. -/
namespace Go.Abs.Seat
noncomputable section
open Go Go.Abs Go.Proofs.Tryz
set_option maxRecDepth 100000
set_option maxHeartbeats 40000000
attribute [local irreducible] IntKind.wrap pEq

theorem st_long (hk : Pure prog 14 [] (.bool true)) {x h : AV} {L : List LkI} {M : List Int} (hx : LL x L) (hh : IL h M) (hs : ¬ (L.length ≤ 7 ∧ M.length ≤ 6)) (a b n d t : Int) : Pure prog 5 [.agg [x, h], iv a, iv b, fv n d, iv t] (.bool true) := by
 have p1 := short_no hx hh hs
 have lx := hx.no
 have lh := hh.no
 rcases hx with ⟨rfl, rfl⟩ | rfl <;> rcases hh with ⟨rfl, rfl⟩ | rfl
 all_goals
  refine pure_sym hE rfl (by repeat' (first | exact trivial | assumption | exact flat_no _ | exact (fun _ h => nomatch h) | apply And.intro)) (by repeat' (first | exact trivial | assumption | exact flat_no _ | exact (fun _ h => nomatch h) | apply And.intro)) fun S q pc hS hq hC hE => ?_
  conv => whnf
  repeat ((first
   |refine sym_pure hC (p1) ?_
   |refine sym_pure hC (hk) ?_
   |refine sym_drawn hS (by kernel_rfl) ?_
   |refine sym_eq hq true (eqBool_same _ _) ?_
   |rw [beq_self_eq_true]
   |rw [bne_self_eq_false]); conv => whnf)
  exact ⟨_, rfl, Wk.refl _⟩
theorem st_no (hk : Pure prog 14 [] (.bool true)) {x h : AV} {L : List LkI} {M : List Int} (hx : LL x L) (hh : IL h M) (h1 : L.length ≤ 7) (h2 : M.length ≤ 6) (hp : ¬ pcOk L M) (a b n d t : Int) : Pure prog 5 [.agg [x, h], iv a, iv b, fv n d, iv t] (.bool true) := by
 have p1 := short_yes hx hh h1 h2
 have p3 := rPiece_pure hx hh
 rw [decide_eq_false hp] at p3
 have lx := hx.no
 have lh := hh.no
 rcases hx with ⟨rfl, rfl⟩ | rfl <;> rcases hh with ⟨rfl, rfl⟩ | rfl
 all_goals
  refine pure_sym hE rfl (by repeat' (first | exact trivial | assumption | exact flat_no _ | exact (fun _ h => nomatch h) | apply And.intro)) (by repeat' (first | exact trivial | assumption | exact flat_no _ | exact (fun _ h => nomatch h) | apply And.intro)) fun S q pc hS hq hC hE => ?_
  conv => whnf
  repeat ((first
   |refine sym_pure hC (p1) ?_
   |refine sym_pure hC (p3) ?_
   |refine sym_pure hC (hk) ?_
   |refine sym_drawn hS (by kernel_rfl) ?_
   |refine sym_eq hq true (eqBool_same _ _) ?_
   |rw [beq_self_eq_true]
   |rw [bne_self_eq_false]); conv => whnf)
  exact ⟨_, rfl, Wk.refl _⟩
theorem snL_get (N : List Lk) {k a : Nat} (h : a < k) : (snL N k).getD a false = snA N a := by simp [snL, List.getD, h]
theorem st_yes (hk : Pure prog 14 [] (.bool true)) {N : List Lk} {H : List Nat} (h : pcN N H) {a b n d t : Nat} (a1 : 1 ≤ a) (a2 : a ≤ N.length) (hb : b < H.length) (hn : n ≤ 50000) (hd : 1 ≤ d ∧ d ≤ 50000) (ht : t ≤ 10000)
  (pA : Pure prog 27 [.agg [nkA N, nl (zl H)], nv a] (.bool true)) (pH : Pure prog 30 [.agg [nkA N, nl (zl H)], nv b] (.bool true)) (pF : Pure prog 31 [fv (Int.ofNat n) (Int.ofNat d)] (.bool true)) (pN : Pure prog 32 [nv t] (.bool true)) :
  Pure prog 5 [.agg [nkA N, nl (zl H)], nv a, nv b, fv (Int.ofNat n) (Int.ofNat d), nv t] (.bool true) := by
 have lN := lks_no (cL N)
 have lM := ivs_no (zl H)
 have h5 := h.l5
 have hg := h.hd _ (gn_mem H hb)
 have ta := tvN h.ok a1 a2
 have tg := tvN h.ok hg.1 hg.2
 have p1 := h.sh
 have p3 := h.rP
 have p4 := sRates_yes h
 have pT := sTrain_yes h a1 a2
 have pU := sTrain_yes h hg.1 hg.2
 have po := off_pure tg n d t hn hd ht
 have pW := sWrong_yes h hb po
 have pt : Pure prog 35 [pv (zp (tr N a))] (.tup [fv (Int.ofNat (rdA N a).1) (Int.ofNat (rdA N a).2), .bool (snA N a), iv 0]) := sTurns_pure ta
 have r1 := ta.rT
 have r2 := tg.rT
 have lR := flat_no (zp (rdL N (N.length + 1)))
 have lS := bls_no (snL N (N.length + 1))
 have la := flat_no (zp (tr N a))
 have lg := flat_no (zp (tr N (gn H b)))
 have hz : (zp (rdL N (N.length + 1))).length = N.length + 1 := by rw [zp_len, rdL_len]
 have hy := snL_len N (N.length + 1)
 have hi : b < (zl H).length := by rw [zl_len]; exact hb
 have n1 : nth (ivs (zl H)) (b * 1) = some (nv (gn H b)) := by rw [nth_ivs1 hi, gi_zl H hb]
 have t1 := tak_zp (rdL N (N.length + 1)) (i := a) (by rw [rdL_len]; omega)
 rw [rdL_get N (by omega)] at t1
 have n2 := nth_bls (snL N (N.length + 1)) a (by rw [snL_len]; omega)
 rw [snL_get N (by omega)] at n2
 have i1 : inR (Int.ofNat a) (zp (rdL N (N.length + 1))).length = true := inR_t (by omega)
 have i2 : inR (Int.ofNat a) (snL N (N.length + 1)).length = true := inR_t (by omega)
 have c1 : (((zp (rdL N (N.length + 1))).length : Int) != IntKind.i64.wrap ((N.length : Int) + 1)) = false := by rw [hz, show IntKind.i64.wrap ((N.length : Int) + 1) = Int.ofNat (N.length + 1) from wrapN (m := N.length + 1) (by omega)]; exact bne_self_eq_false _
 have c2 : (((snL N (N.length + 1)).length : Int) != ((zp (rdL N (N.length + 1))).length : Int)) = false := by rw [hz, hy]; exact bne_self_eq_false _
 generalize zp (rdL N (N.length + 1)) = R at *
 generalize snL N (N.length + 1) = Sn at *
 refine pure_sym hE rfl (by repeat' (first | exact trivial | assumption | exact flat_no _ | exact (fun _ h => nomatch h) | apply And.intro)) (by repeat' (first | exact trivial | assumption | exact flat_no _ | exact (fun _ h => nomatch h) | apply And.intro)) fun S q pc hS hq hC hE => ?_
 conv => whnf
 repeat ((first
  |refine sym_pure hC (p1) ?_
  |refine sym_pure hC (p3) ?_
  |refine sym_pure hC (pA) ?_
  |refine sym_pure hC (pH) ?_
  |refine sym_pure hC (pF) ?_
  |refine sym_pure hC (pN) ?_
  |refine sym_pure hC (pT) ?_
  |refine sym_drawn hS (by kernel_rfl) ?_
  |refine sym_eq hq true (eqBool_same _ _) ?_
  |rw [beq_self_eq_true]
  |rw [bne_self_eq_false]); conv => whnf)
 refine bool_true (inR_t hi) ?_
 conv => whnf
 refine plan_as (nthP (n1)) ?_
 conv => whnf
 repeat ((first
  |refine sym_pure hC (pU) ?_
  |refine sym_pure hC (p4) ?_
  |refine sym_pure hC (pW) ?_
  |refine sym_pure hC (r1) ?_
  |refine sym_pure hC (r2) ?_
  |refine sym_drawn hS (by kernel_rfl) ?_
  |refine sym_eq hq true (eqBool_same _ _) ?_
  |rw [beq_self_eq_true]
  |rw [bne_self_eq_false]); conv => whnf)
 repeat ((first
  |refine plan_as (takP t1) ?_
  |refine ko_sT c1 ?_
  |refine ko_rF c1 ?_
  |refine plan_as (pick_f c1) ?_
  |refine bool_false c1 ?_
  |refine ko_sT c2 ?_
  |refine ko_rF c2 ?_
  |refine plan_as (pick_f c2) ?_
  |refine bool_false c2 ?_
  |refine ko_rT i1 ?_
  |refine ko_sF i1 ?_
  |refine plan_as (pick_t i1) ?_
  |refine bool_true i1 ?_
  |refine sym_pure hC (pt) ?_
  |refine sym_pure hC (po) ?_
  |refine sym_drawn hS (by kernel_rfl) ?_); conv => whnf)
 refine sym_eq hq true (eqQ_same (.inl rfl) _ _ _) ?_
 conv => whnf
 repeat ((first
  |refine plan_as (nthP n2) ?_
  |refine ko_rT i2 ?_
  |refine ko_sF i2 ?_
  |refine plan_as (pick_t i2) ?_
  |refine bool_true i2 ?_
  |refine sym_drawn hS (by kernel_rfl) ?_); conv => whnf)
 repeat ((first
  |refine sym_pure hC (po) ?_
  |refine sym_pure hC (hk) ?_
  |refine sym_drawn hS (by kernel_rfl) ?_
  |refine sym_eq hq true (eqBool_same _ _) ?_
  |rw [beq_self_eq_true]
  |rw [bne_self_eq_false]); conv => whnf)
 exact ⟨_, rfl, Wk.refl _⟩
theorem shopTrains (hk : Pure prog 14 [] (.bool true)) {x h : AV} {L : List LkI} {M : List Int} (hx : LL x L) (hh : IL h M) (a b n d t : Int) : Pure prog 5 [.agg [x, h], iv a, iv b, fv n d, iv t] (.bool true) := by
 rcases piece_cases hx hh with hs | ⟨h1, h2, hp⟩ | ⟨N, H, hN, rfl, rfl⟩
 ·exact st_long hk hx hh hs a b n d t
 ·exact st_no hk hx hh h1 h2 hp a b n d t
 ·clear hx hh
  have lN := lks_no (cL N)
  have lM := ivs_no (zl H)
  have p1 := hN.sh
  have p3 := hN.rP
  obtain ⟨bA, pA, iA⟩ := arbor_b hN a
  obtain ⟨bH, pH, iH⟩ := hand_b hN b
  obtain ⟨bF, pF, iF⟩ := fr_b n d
  obtain ⟨bN, pN, iN⟩ := nm_b t
  by_cases ha : bA = true ∧ bH = true ∧ bF = true ∧ bN = true
  ·obtain ⟨rfl, rfl, rfl, rfl⟩ := ha
   have iA := iA.1 rfl
   have iH := iH.1 rfl
   obtain ⟨a, rfl, _⟩ := int_nat (m := (N.length : Int)) (a := a) ⟨by omega, iA.2⟩
   obtain ⟨b, rfl, _⟩ := int_nat (m := (H.length : Int)) (a := b) ⟨by omega, by omega⟩
   obtain ⟨n, d, rfl, rfl, q1, q2, q3⟩ := isF_nat (iF.1 rfl)
   obtain ⟨t, rfl, q4⟩ := int_nat (iN.1 rfl)
   exact st_yes hk hN (Int.ofNat_le.1 iA.1) (Int.ofNat_le.1 iA.2) (Int.ofNat_lt.1 iH.2) q1 ⟨q2, q3⟩ (by omega) pA pH pF pN
  ·cases bA <;> cases bH <;> cases bF <;> cases bN
   all_goals first
    |exact absurd ⟨rfl, rfl, rfl, rfl⟩ ha
    |skip
   all_goals
    refine pure_sym hE rfl (by repeat' (first | exact trivial | assumption | exact flat_no _ | exact (fun _ h => nomatch h) | apply And.intro)) (by repeat' (first | exact trivial | assumption | exact flat_no _ | exact (fun _ h => nomatch h) | apply And.intro)) fun S q pc hS hq hC hE => ?_
    conv => whnf
    repeat ((first
     |refine sym_pure hC (p1) ?_
     |refine sym_pure hC (p3) ?_
     |refine sym_pure hC (pA) ?_
     |refine sym_pure hC (pH) ?_
     |refine sym_pure hC (pF) ?_
     |refine sym_pure hC (pN) ?_
     |refine sym_pure hC (hk) ?_
     |refine sym_drawn hS (by kernel_rfl) ?_
     |refine sym_eq hq true (eqBool_same _ _) ?_
     |rw [beq_self_eq_true]
     |rw [bne_self_eq_false]); conv => whnf)
    exact ⟨_, rfl, Wk.refl _⟩
end
end Go.Abs.Seat
