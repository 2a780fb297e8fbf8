/-
  Books of accounts: pairs of accounts, and what is chosen of them.
-/
import Derived.Test.YtlmadgdonalncaaGreatDoorU12
import Derived.Test.YtlmadgdonalncaaGreatDoorT44
/-! Books of accounts: pairs of accounts, and what is chosen of them. -/
namespace Go.Abs.Seat
noncomputable section
open Go Go.Abs Go.Proofs.Tryz
set_option maxRecDepth 100000
set_option maxHeartbeats 40000000
attribute [local irreducible] IntKind.wrap pEq

abbrev enC (l : List LkI) (c : Nat) : AV := .lst (lks l) l.length (.ch c)
theorem enC_app (l : List LkI) (x : LkI) (c : Nat) : AV.lst (lks l ++ [iv x.1, iv x.2.1, iv x.2.2]) (l.length + (0 + 1)) (.ch c) = enC (l ++ [x]) c := by
 unfold enC
 rw [lks_app, List.length_append]; rfl
theorem enH_app (l : List LkI) (x : LkI) {ty : Nat} : AObj.chain (l.length + (0 + 1)) 3 ty = .chain (l ++ [x]).length 3 ty := by rw [List.length_append]; rfl
theorem bd_enC (l : List LkI) {c n : Nat} (h : c + 1 ≤ n) : bd (enC l c) ≤ n := Nat.max_le.2 ⟨h, bdl_no (lks_no _)⟩
theorem rnE {m : Nat} {rs : List Nat} {l : List LkI} {x y z : Int} {j c e : Nat} (hj : j < rs.length) (h1 : rs.getD j 0 = c) (h2 : e = m + j) : RnV m rs (.lst (lks l ++ [iv x, iv y, iv z]) (l.length + (0 + 1)) (.ch c)) (enC (l ++ [(x, y, z)]) e) := by
 rw [enC_app l (x, y, z) c]
 exact RnV.ch hj h1 h2 (bdl_no (lks_no _))
theorem rnE0 {m : Nat} {rs : List Nat} {x y z : Int} {j c e : Nat} (hj : j < rs.length) (h1 : rs.getD j 0 = c) (h2 : e = m + j) : RnV m rs (.lst [iv x, iv y, iv z] (0 + 1) (.ch c)) (enC [(x, y, z)] e) := rnE (l := []) hj h1 h2
def grE (m : Nat) (l : List LkI) (v : AV) (ux : List AObj) : Prop := l = [] ∧ v = .nils ∧ ux = [] ∨ l ≠ [] ∧ v = enC l m ∧ ux = [.chain l.length 3 38]
theorem cnB_len (b : List Int) (f : Nat) : ∀ j, (cnB b f j).length ≤ j
 | 0 => Nat.zero_le _
 |j + 1 => by
  have := cnB_len b f j
  rw [cnB, List.length_append]
  split
  ·simp only [List.length_cons, List.length_nil]; omega
  ·simp only [List.length_nil]; omega
theorem cnF_len (b : List Int) : ∀ i, (cnF b i).length ≤ i * b.length
 | 0 => Nat.zero_le _
 |i + 1 => by
  have := cnF_len b i
  have := cnB_len b i b.length
  rw [cnF, List.length_append, Nat.succ_mul]; omega
theorem bd_nl (l : List Int) {n : Nat} : bd (nl l) ≤ n := Nat.le_trans (Nat.le_of_eq (bd_no (nl l) ⟨ivs_no l, fun _ h => nomatch h⟩)) (Nat.zero_le _)
theorem lenIs_en (l : List LkI) : lenIs (lks l) (l.length * 3) = true := by
 induction l with
 |nil => rfl
 |cons x r ih => rw [List.length_cons, show (r.length + 1) * 3 = r.length * 3 + 1 + 1 + 1 by omega]; exact ih
theorem sym_hideE {S : Sub} {c : Code} {f : AS → KE → Prop} {s : AS} {K : KE} (h : ∀ K0 : KE, (∀ e s', K e s' → K0 e s') → S.loop c f s K0) : S.loop c f s K := h K fun _ _ h => h
def cP (b : List Int) : Nat → Nat
 | 0 => 0
 |i + 1 => cP b i + if 0 < b.getD i 0 then 1 else 0
def cM (b : List Int) : Nat → Nat
 | 0 => 0
 |i + 1 => cM b i + if b.getD i 0 < 0 then 1 else 0
theorem cPM (b : List Int) : ∀ i, cP b i + cM b i ≤ i
 | 0 => Nat.le_refl _
 |i + 1 => by
  have := cPM b i
  rw [cP, cM]
  by_cases h : 0 < b.getD i 0
  ·rw [if_pos h, if_neg (by omega)]; omega
  ·rw [if_neg h]; split <;> omega
theorem cnB_n (b : List Int) (f : Nat) : ∀ j, (cnB b f j).length = (if 0 < b.getD f 0 then 1 else 0) * cM b j
 | 0 => by rw [cM, Nat.mul_zero]; rfl
 |j + 1 => by
  rw [cnB, List.length_append, cnB_n b f j, cM, Nat.mul_add]
  by_cases h : 0 < b.getD f 0
  ·by_cases k : b.getD j 0 < 0
   ·rw [if_pos (show 0 < b.getD f 0 ∧ b.getD j 0 < 0 from ⟨h, k⟩), if_pos h, if_pos k]; rfl
   ·rw [if_neg (show ¬ (0 < b.getD f 0 ∧ b.getD j 0 < 0) from fun z => k z.2), if_pos h, if_neg k]; rfl
  ·rw [if_neg (show ¬ (0 < b.getD f 0 ∧ b.getD j 0 < 0) from fun z => h z.1), if_neg h, Nat.zero_mul, Nat.zero_mul]; rfl
theorem cnF_n (b : List Int) : ∀ i, (cnF b i).length = cP b i * cM b b.length
 | 0 => by rw [cP, Nat.zero_mul]; rfl
 |i + 1 => by rw [cnF, List.length_append, cnF_n b i, cnB_n, cP, Nat.add_mul]
theorem cnL_6 {b : List Int} (hb : b.length ≤ 5) : (cnL b).length ≤ 6 := by
 have h := cPM b b.length
 rw [cnF_n]
 generalize cP b b.length = x at h ⊢
 generalize cM b b.length = y at h ⊢
 have hx : x = 0 ∨ x = 1 ∨ x = 2 ∨ x = 3 ∨ x = 4 ∨ x = 5 := by omega
 rcases hx with rfl | rfl | rfl | rfl | rfl | rfl <;> omega
theorem cn_nil {b : List Int} (hs : sumN b.length (fun a => b.getD a 0) = 0) (he : cnL b = []) : ∀ j, j < b.length → b.getD j 0 = 0 := by
 refine Classical.byContradiction fun hn => ?_
 obtain ⟨⟨f, hf, pf⟩, t, ht, pt⟩ := sumN_some hs hn
 have : (Int.ofNat f, Int.ofNat t, 0) ∈ cnL b := (cnF_mem b _ _).2 ⟨f, t, hf, ht, ⟨pf, pt⟩, rfl⟩
 rw [he] at this
 cases this
theorem cn_ne {b : List Int} (hne : cnL b ≠ []) : ¬ ∀ j, j < b.length → b.getD j 0 = 0 := fun h => by
 obtain ⟨x, hx⟩ := List.exists_mem_of_ne_nil _ hne
 obtain ⟨f, t, hf, _, hc, _⟩ := (cnF_mem b x _).1 hx
 have := h f hf
 omega
theorem slv_nil0 {b : List Int} (h : ∀ j, j < b.length → b.getD j 0 = 0) : slv b [] = some [] :=
 slv_some (fun i hi => absurd hi (Nat.not_lt_zero _)) (fun q ⟨i, hi, _⟩ => absurd hi (Nat.not_lt_zero _)) ⟨⟨rfl, fun i hi => absurd hi (Nat.not_lt_zero _)⟩, fun i hi => absurd hi (Nat.not_lt_zero _), fun a ha => by rw [h a ha]; rfl⟩
theorem slv_nil1 {b : List Int} (h : ¬ ∀ j, j < b.length → b.getD j 0 = 0) : slv b [] = none := slv_none.2 fun ⟨_, Y, hY⟩ => h fun j hj => by
 have := hY.2.2 j hj
 have e : Y = [] := List.length_eq_zero_iff.1 hY.1.1
 rw [e, sg] at this
 omega
def alS (b : List Int) (s : Nat) : List (List LkI) := (List.range s).filterMap fun s => slv b (sb s (cnL b))
theorem alS_succ (b : List Int) (s : Nat) : alS b (s + 1) = alS b s ++ (slv b (sb s (cnL b))).toList := by
 unfold alS
 rw [List.range_succ, List.filterMap_append]
 cases h : slv b (sb s (cnL b)) with
 |none => simp [h]
 |some x => simp [h]
theorem alS_len (b : List Int) (s : Nat) : (alS b s).length ≤ s := by
 unfold alS
 have := List.length_filterMap_le (fun s => slv b (sb s (cnL b))) (List.range s)
 rwa [List.length_range] at this
theorem evs_app (l r : List (List LkI)) : evs (l ++ r) = evs l ++ evs r := List.map_append
abbrev evC (l : List (List LkI)) (c : Nat) : AV := .lst (evs l) l.length (.ch c)
def grA (m : Nat) (l : List (List LkI)) (v : AV) (ux : List AObj) : Prop := l = [] ∧ v = .nils ∧ ux = [] ∨ l ≠ [] ∧ v = evC l m ∧ ux = [.chain l.length 1 22]
theorem bd_evC (l : List (List LkI)) {c n : Nat} (h : c + 1 ≤ n) : bd (evC l c) ≤ n := Nat.max_le.2 ⟨h, bdl_no (evs_no _)⟩
theorem lenIs_ev : ∀ l : List (List LkI), lenIs (evs l) (l.length * 1) = true
 | [] => rfl
 | _ :: r => lenIs_ev r
def enV (l : List LkI) : AV := if l = [] then .nils else lkA l
theorem shl_w {m : Nat} (h : m ≤ 6) : IntKind.i64.wrap (1 * 2 ^ min (Int.toNat (m : Int)) IntKind.i64.bits) = Int.ofNat (2 ^ m) := by
 have e : (1 * 2 ^ min (Int.toNat (m : Int)) IntKind.i64.bits : Int) = Int.ofNat (2 ^ m) := by
  have : m = 0 ∨ m = 1 ∨ m = 2 ∨ m = 3 ∨ m = 4 ∨ m = 5 ∨ m = 6 := by omega
  rcases this with rfl | rfl | rfl | rfl | rfl | rfl | rfl <;> rfl
 rw [e]
 have : 2 ^ m ≤ 2 ^ 6 := Nat.pow_le_pow_right (by decide) h
 exact wrapN (by omega)
def btx (s i : Nat) : Bool := (IntKind.i64.wrap ↑(BitVec.ofInt IntKind.i64.bits ((Int.ofNat s).fdiv (2 ^ min (Int.ofNat i).toNat IntKind.i64.bits)) &&& BitVec.ofInt IntKind.i64.bits 1).toNat == 1)
theorem bt_all : ((List.range 64).all fun s => (List.range 7).all fun i => btx s i == decide ((s >>> i) % 2 = 1)) = true := by decide +kernel
theorem bt_eq {s i : Nat} (hs : s < 64) (hi : i < 7) {c : Bool} (hc : decide ((s >>> i) % 2 = 1) = c) : (IntKind.i64.wrap ↑(BitVec.ofInt IntKind.i64.bits ((Int.ofNat s).fdiv (2 ^ min (Int.ofNat i).toNat IntKind.i64.bits)) &&& BitVec.ofInt IntKind.i64.bits 1).toNat == 1) = c := by
 have := List.all_eq_true.1 (List.all_eq_true.1 bt_all s (List.mem_range.2 hs)) i (List.mem_range.2 hi)
 exact (beq_iff_eq.1 this).trans hc
theorem sb_nil (s : Nat) : sb s [] = [] := rfl
theorem rnA {m : Nat} {rs : List Nat} {l : List (List LkI)} {X : List LkI} {j c e : Nat} (hj : j < rs.length) (h1 : rs.getD j 0 = c) (h2 : e = m + j) : RnV m rs (.lst (evs l ++ [lkA X]) (l.length + (0 + 1)) (.ch c)) (evC (l ++ [X]) e) := by
 have : evC (l ++ [X]) e = .lst (evs l ++ [lkA X]) (l.length + (0 + 1)) (.ch e) := by
  unfold evC
  rw [evs_app, List.length_append]; rfl
 rw [this]
 exact RnV.ch hj h1 h2 (bdl_no (Lives.append (evs_no l) (show Lives noL [lkA X] from ⟨lkA_no X, trivial⟩)))
theorem evH_app (l : List (List LkI)) (X : List LkI) {ty : Nat} : AObj.chain (l.length + (0 + 1)) 1 ty = .chain (l ++ [X]).length 1 ty := by rw [List.length_append]; rfl
theorem pure_wkl {f : FuncId} {xs ys : List AV} {v : AV} (h : wkl xs = ys) (p : Pure prog f ys v) : Pure prog f (wkl xs) v := h ▸ p
theorem wkl_be (b : List Int) (M : List LkI) (c : Nat) : wkl [nl b, enC M c] = [nl b, lkA M] := by
 show [AV.lst (wkl (ivs b)) b.length .no, .lst (wkl (lks M)) M.length .no] = _
 rw [wkl_ivs, wkl_lks]
theorem wkl_evs : ∀ l, wkl (evs l) = evs l
 | [] => rfl
 |x :: r => by
  show AV.lst (wkl (lks x)) x.length .no :: wkl (evs r) = _
  rw [wkl_lks, wkl_evs r]; rfl
theorem wkl_ev (l : List (List LkI)) (c : Nat) (g : AV) (hg : wk g = g) : wkl [evC l c, g] = [.lst (evs l) l.length .no, g] := by
 show [AV.lst (wkl (evs l)) l.length .no, wk g] = _
 rw [wkl_evs, hg]
--STUB--

theorem settle_run {k : Nat} {x : AV} {L : List LkI} (hx : LL x L) (h : bkOk (Int.ofNat k) L) {b : List Int} (hb : b = blL L k) (hs0 : sumN b.length (fun a => b.getD a 0) = 0) (hbd : ∀ a, a < b.length → - 8000000 ≤ b.getD a 0 ∧ b.getD a 0 ≤ 8000000) {R : List LkI} (hR : BkS b R) : Pure prog 15 [nv k, x] (.tup [enV R, iv 0]) := by
 have lx := hx.no
 have pB := isBook_pure hx (Int.ofNat k)
 rw [decide_eq_true h] at pB
 have pX := balances_pure hx h
 have hbl : b.length = k := by rw [hb]; unfold blL; rw [List.length_map, List.length_range]
 rw [show (Int.ofNat k).toNat = k from rfl, ← hb] at pX
 have lb := ivs_no b
 have hk5 : 2 ≤ k ∧ k ≤ 5 := ⟨Int.ofNat_le.1 h.1.1, Int.ofNat_le.1 h.1.2⟩
 have lR : Live noL (enV R) := by unfold enV; split; trivial; exact lkA_no R
 subst hbl
 have lL := lks_no L
 clear h hb
 rcases hx with ⟨rfl, rfl⟩ | rfl
 all_goals
  refine pure_sym hE rfl (by repeat' (first | exact trivial | assumption | exact flat_no _ | exact (fun _ h => nomatch h) | apply And.intro)) (by repeat' (first | exact trivial | assumption | exact flat_no _ | exact (fun _ h => nomatch h) | apply And.intro)) fun S q pc hS hq hC hE => ?_
  conv => whnf
  refine sym_pure hC (pB) ?_
  conv => whnf
  refine sym_pure hC (pX) ?_
  conv => whnf
  refine sym_hideE fun K hK => ?_
  refine sym_loopR hE hS (A := Nat × AV × List AObj) [] (fun x hx => nomatch hx) [0, 7, 28] (fun (i, v, _) => [(8, v), (29, nv i)]) (fun _ => []) (fun a => a.2.2) (fun (i, v, ux) => i ≤ b.length ∧ grE 1 (cnF b i) v ux) (fun (i, _) => b.length - i) (0, .nils, []) (Nat.le_of_ble_eq_true rfl) trivial rfl (by repeat' (first | exact trivial | exact Nat.zero_le _ | exact bdl_no lb | exact Nat.le_of_ble_eq_true rfl | exact bdl_no (by assumption) | exact bdl_no (flat_no _) | exact bdl_no (ivs_no _) | exact bdl_no (svs_no _) | exact Nat.max_le.2 ⟨Nat.le_of_ble_eq_true rfl, bdl_no (ivs_no _)⟩ | exact Nat.max_le.2 ⟨Nat.le_of_ble_eq_true rfl, bdl_no (svs_no _)⟩ | apply And.intro)) (by refine ⟨rfl, rfl, rfl, rfl, rfl, rfl, by decide, ?_, ?_, ?_, by kernel_rfl, ?_, ?_⟩ <;> repeat' (first | exact trivial | exact rfl | exact ⟨_, rfl, RnV.wk (WkV.refl _) (Nat.zero_le _)⟩ | exact ⟨_, rfl, RnV.wk (WkV.refl _) (Nat.le_of_ble_eq_true rfl)⟩ | exact TrIw.refl _ _ _ _ _ | exact OWk.same _ | exact OWk.loop _ _ _ _ _ _ _ (by repeat' (first | exact trivial | exact WkV.refl _ | exact WkV.unk _ | apply And.intro)) | exact Nat.zero_le _ | exact bdl_no lb | exact bdl_no lb | exact ⟨_, rfl, RnV.wk (WkV.refl _) (bd_nl b)⟩ | exact bd_enC _ (by decide) | exact Nat.le_of_ble_eq_true rfl | exact bdl_no (by assumption) | exact bdl_no (flat_no _) | exact bdl_no (ivs_no _) | exact bdl_no (svs_no _) | exact Nat.max_le.2 ⟨Nat.le_of_ble_eq_true rfl, bdl_no (ivs_no _)⟩ | exact Nat.max_le.2 ⟨Nat.le_of_ble_eq_true rfl, bdl_no (svs_no _)⟩ | apply And.intro)) ⟨Nat.zero_le _, .inl ⟨rfl, rfl, rfl⟩⟩ ?_
  rintro ⟨i, v, ux⟩ ⟨hi, ⟨he, rfl, rfl⟩ | ⟨he, rfl, rfl⟩⟩ Q hQ
  ·obtain rfl : Q = 1 := hQ
   conv => whnf
   by_cases hi2 : i < b.length
   ·refine bool_true (ltN_t hi2) ?_
    conv => whnf
    have gi := nth_ivs1 (l := b) (i := i) hi2
    have hi1 : IntKind.i64.wrap (Int.ofNat i + 1) = Int.ofNat (i + 1) := wrapN (m := i + 1) (by omega)
    refine sym_hideE fun K hK => ?_
    refine sym_loopR hE hS (A := Nat × AV × List AObj) [] (fun x hx => nomatch hx) [0, 7, 9, 28, 29, 32] (fun (j, v, _) => [(8, v), (33, nv j)]) (fun _ => []) (fun a => a.2.2) (fun (j, v, ux) => j ≤ b.length ∧ grE 1 (cnB b i j) v ux) (fun (j, _) => b.length - j) (0, .nils, []) (Nat.le_of_ble_eq_true rfl) trivial rfl (by repeat' (first | exact trivial | exact Nat.zero_le _ | exact bdl_no lb | exact Nat.le_of_ble_eq_true rfl | exact bdl_no (by assumption) | exact bdl_no (flat_no _) | exact bdl_no (ivs_no _) | exact bdl_no (svs_no _) | exact Nat.max_le.2 ⟨Nat.le_of_ble_eq_true rfl, bdl_no (ivs_no _)⟩ | exact Nat.max_le.2 ⟨Nat.le_of_ble_eq_true rfl, bdl_no (svs_no _)⟩ | apply And.intro)) (by refine ⟨rfl, rfl, rfl, rfl, rfl, rfl, by decide, ?_, ?_, ?_, by kernel_rfl, ?_, ?_⟩ <;> repeat' (first | exact trivial | exact rfl | exact ⟨_, rfl, RnV.wk (WkV.refl _) (Nat.zero_le _)⟩ | exact ⟨_, rfl, RnV.wk (WkV.refl _) (Nat.le_of_ble_eq_true rfl)⟩ | exact TrIw.refl _ _ _ _ _ | exact OWk.same _ | exact OWk.loop _ _ _ _ _ _ _ (by repeat' (first | exact trivial | exact WkV.refl _ | exact WkV.unk _ | apply And.intro)) | exact Nat.zero_le _ | exact bdl_no lb | exact bdl_no lb | exact ⟨_, rfl, RnV.wk (WkV.refl _) (bd_nl b)⟩ | exact bd_enC _ (by decide) | exact Nat.le_of_ble_eq_true rfl | exact bdl_no (by assumption) | exact bdl_no (flat_no _) | exact bdl_no (ivs_no _) | exact bdl_no (svs_no _) | exact Nat.max_le.2 ⟨Nat.le_of_ble_eq_true rfl, bdl_no (ivs_no _)⟩ | exact Nat.max_le.2 ⟨Nat.le_of_ble_eq_true rfl, bdl_no (svs_no _)⟩ | apply And.intro)) ⟨Nat.zero_le _, .inl ⟨rfl, rfl, rfl⟩⟩ ?_
    rintro ⟨j, v, ux⟩ ⟨hj, ⟨hb0, rfl, rfl⟩ | ⟨hb0, rfl, rfl⟩⟩ Q hQ
    ·obtain rfl : Q = 1 := hQ
     conv => whnf
     by_cases hj2 : j < b.length
     ·refine bool_true (ltN_t hj2) ?_
      conv => whnf
      have gj := nth_ivs1 (l := b) (i := j) hj2
      have hj1 : IntKind.i64.wrap (Int.ofNat j + 1) = Int.ofNat (j + 1) := wrapN (m := j + 1) (by omega)
      by_cases p1 : b.getD i 0 > 0
      ·have c1 : decide (b.getD i 0 > 0) = true := decide_eq_true p1
       by_cases p2 : b.getD j 0 < 0
       ·have c2 : decide (b.getD j 0 < 0) = true := decide_eq_true p2
        have hc : 0 < b.getD i 0 ∧ b.getD j 0 < 0 := ⟨p1, p2⟩
        repeat ((first
         |refine plan_as (nthP gi) ?_
         |refine plan_as (nthP gj) ?_
         |refine ko_rT (inR_t hi2) ?_
         |refine ko_sF (inR_t hi2) ?_
         |refine plan_as (pick_t (inR_t hi2)) ?_
         |refine bool_true (inR_t hi2) ?_
         |refine ko_rT (inR_t hj2) ?_
         |refine ko_sF (inR_t hj2) ?_
         |refine plan_as (pick_t (inR_t hj2)) ?_
         |refine bool_true (inR_t hj2) ?_
         |refine ko_rT c1 ?_
         |refine ko_sF c1 ?_
         |refine plan_as (pick_t c1) ?_
         |refine bool_true c1 ?_
         |refine ko_rT (gd_tt c1) ?_
         |refine ko_sF (gd_tt c1) ?_
         |refine plan_as (pick_t (gd_tt c1)) ?_
         |refine bool_true (gd_tt c1) ?_
         |refine ko_rT c2 ?_
         |refine ko_sF c2 ?_
         |refine plan_as (pick_t c2) ?_
         |refine bool_true c2 ?_
         |refine sym_drawn hS (by kernel_rfl) ?_); conv => whnf)
        have e1 : cnB b i (j + 1) = [(Int.ofNat i, Int.ofNat j, 0)] := by rw [cnB, if_pos hc, hb0]; rfl
        exact ⟨(j + 1, enC [(Int.ofNat i, Int.ofNat j, 0)] 1, [.chain 1 3 38]), [1], ⟨hj2, .inr ⟨by rw [e1]; simp, by rw [e1], by rw [e1]; rfl⟩⟩, by show b.length - (j + 1) < b.length - j; omega, (by refine ⟨rfl, rfl, rfl, rfl, rfl, rfl, by decide, ?_, ?_, ?_, by kernel_rfl, ?_, ?_⟩ <;> repeat' (first | exact trivial | exact rfl | exact ⟨_, rfl, RnV.wk (WkV.refl _) (Nat.zero_le _)⟩ | exact ⟨_, rfl, RnV.wk (WkV.refl _) (Nat.le_of_ble_eq_true rfl)⟩ | exact TrIw.refl _ _ _ _ _ | exact OWk.same _ | exact OWk.loop _ _ _ _ _ _ _ (by repeat' (first | exact trivial | exact WkV.refl _ | exact WkV.unk _ | apply And.intro)) | exact Nat.zero_le _ | exact ⟨_, rfl, RnV.wk (WkV.int hj1) (Nat.zero_le _)⟩ | exact ⟨_, rfl, rnE0 (j := 0) (by decide) rfl rfl⟩ | exact bdl_no lb | exact ⟨_, rfl, RnV.wk (WkV.refl _) (bd_nl b)⟩ | exact bd_enC _ (by decide) | exact Nat.le_of_ble_eq_true rfl | exact bdl_no (by assumption) | exact bdl_no (flat_no _) | exact bdl_no (ivs_no _) | exact bdl_no (svs_no _) | exact Nat.max_le.2 ⟨Nat.le_of_ble_eq_true rfl, bdl_no (ivs_no _)⟩ | exact Nat.max_le.2 ⟨Nat.le_of_ble_eq_true rfl, bdl_no (svs_no _)⟩ | apply And.intro))⟩
       ·have c2 : decide (b.getD j 0 < 0) = false := decide_eq_false p2
        have hc : ¬ (0 < b.getD i 0 ∧ b.getD j 0 < 0) := fun z => p2 z.2
        repeat ((first
         |refine plan_as (nthP gi) ?_
         |refine plan_as (nthP gj) ?_
         |refine ko_rT (inR_t hi2) ?_
         |refine ko_sF (inR_t hi2) ?_
         |refine plan_as (pick_t (inR_t hi2)) ?_
         |refine bool_true (inR_t hi2) ?_
         |refine ko_rT (inR_t hj2) ?_
         |refine ko_sF (inR_t hj2) ?_
         |refine plan_as (pick_t (inR_t hj2)) ?_
         |refine bool_true (inR_t hj2) ?_
         |refine ko_rT c1 ?_
         |refine ko_sF c1 ?_
         |refine plan_as (pick_t c1) ?_
         |refine bool_true c1 ?_
         |refine ko_rT (gd_tt c1) ?_
         |refine ko_sF (gd_tt c1) ?_
         |refine plan_as (pick_t (gd_tt c1)) ?_
         |refine bool_true (gd_tt c1) ?_
         |refine ko_sT c2 ?_
         |refine ko_rF c2 ?_
         |refine plan_as (pick_f c2) ?_
         |refine bool_false c2 ?_
         |refine sym_drawn hS (by kernel_rfl) ?_); conv => whnf)
        have e1 : cnB b i (j + 1) = [] := by rw [cnB, if_neg hc, hb0]; rfl
        exact ⟨(j + 1, .nils, []), [], ⟨hj2, .inl ⟨e1, rfl, rfl⟩⟩, by show b.length - (j + 1) < b.length - j; omega, (by refine ⟨rfl, rfl, rfl, rfl, rfl, rfl, by decide, ?_, ?_, ?_, by kernel_rfl, ?_, ?_⟩ <;> repeat' (first | exact trivial | exact rfl | exact ⟨_, rfl, RnV.wk (WkV.refl _) (Nat.zero_le _)⟩ | exact ⟨_, rfl, RnV.wk (WkV.refl _) (Nat.le_of_ble_eq_true rfl)⟩ | exact TrIw.refl _ _ _ _ _ | exact OWk.same _ | exact OWk.loop _ _ _ _ _ _ _ (by repeat' (first | exact trivial | exact WkV.refl _ | exact WkV.unk _ | apply And.intro)) | exact Nat.zero_le _ | exact ⟨_, rfl, RnV.wk (WkV.int hj1) (Nat.zero_le _)⟩ | exact bdl_no lb | exact ⟨_, rfl, RnV.wk (WkV.refl _) (bd_nl b)⟩ | exact bd_enC _ (by decide) | exact Nat.le_of_ble_eq_true rfl | exact bdl_no (by assumption) | exact bdl_no (flat_no _) | exact bdl_no (ivs_no _) | exact bdl_no (svs_no _) | exact Nat.max_le.2 ⟨Nat.le_of_ble_eq_true rfl, bdl_no (ivs_no _)⟩ | exact Nat.max_le.2 ⟨Nat.le_of_ble_eq_true rfl, bdl_no (svs_no _)⟩ | apply And.intro))⟩
      ·have c1 : decide (b.getD i 0 > 0) = false := decide_eq_false p1
       have hc : ¬ (0 < b.getD i 0 ∧ b.getD j 0 < 0) := fun z => p1 z.1
       repeat ((first
        |refine plan_as (nthP gi) ?_
        |refine ko_rT (inR_t hi2) ?_
        |refine ko_sF (inR_t hi2) ?_
        |refine plan_as (pick_t (inR_t hi2)) ?_
        |refine bool_true (inR_t hi2) ?_
        |refine ko_sT c1 ?_
        |refine ko_rF c1 ?_
        |refine plan_as (pick_f c1) ?_
        |refine bool_false c1 ?_
        |refine ko_sT (gd_tf c1) ?_
        |refine ko_rF (gd_tf c1) ?_
        |refine plan_as (pick_f (gd_tf c1)) ?_
        |refine bool_false (gd_tf c1) ?_
        |refine sym_drawn hS (by kernel_rfl) ?_); conv => whnf)
       have e1 : cnB b i (j + 1) = [] := by rw [cnB, if_neg hc, hb0]; rfl
       exact ⟨(j + 1, .nils, []), [], ⟨hj2, .inl ⟨e1, rfl, rfl⟩⟩, by show b.length - (j + 1) < b.length - j; omega, (by refine ⟨rfl, rfl, rfl, rfl, rfl, rfl, by decide, ?_, ?_, ?_, by kernel_rfl, ?_, ?_⟩ <;> repeat' (first | exact trivial | exact rfl | exact ⟨_, rfl, RnV.wk (WkV.refl _) (Nat.zero_le _)⟩ | exact ⟨_, rfl, RnV.wk (WkV.refl _) (Nat.le_of_ble_eq_true rfl)⟩ | exact TrIw.refl _ _ _ _ _ | exact OWk.same _ | exact OWk.loop _ _ _ _ _ _ _ (by repeat' (first | exact trivial | exact WkV.refl _ | exact WkV.unk _ | apply And.intro)) | exact Nat.zero_le _ | exact ⟨_, rfl, RnV.wk (WkV.int hj1) (Nat.zero_le _)⟩ | exact bdl_no lb | exact ⟨_, rfl, RnV.wk (WkV.refl _) (bd_nl b)⟩ | exact bd_enC _ (by decide) | exact Nat.le_of_ble_eq_true rfl | exact bdl_no (by assumption) | exact bdl_no (flat_no _) | exact bdl_no (ivs_no _) | exact bdl_no (svs_no _) | exact Nat.max_le.2 ⟨Nat.le_of_ble_eq_true rfl, bdl_no (ivs_no _)⟩ | exact Nat.max_le.2 ⟨Nat.le_of_ble_eq_true rfl, bdl_no (svs_no _)⟩ | apply And.intro))⟩
     ·refine bool_false (ltN_f hj2) ?_
      conv => whnf
      refine hK _ _ ?_
      conv => whnf
      have ej : b.length = j := by omega
      have e1 : cnF b (i + 1) = [] := by rw [cnF, ej, he, hb0]; rfl
      exact ⟨(i + 1, .nils, []), [], ⟨hi2, .inl ⟨e1, rfl, rfl⟩⟩, by show b.length - (i + 1) < b.length - i; omega, (by refine ⟨rfl, rfl, rfl, rfl, rfl, rfl, by decide, ?_, ?_, ?_, by kernel_rfl, ?_, ?_⟩ <;> repeat' (first | exact trivial | exact rfl | exact ⟨_, rfl, RnV.wk (WkV.refl _) (Nat.zero_le _)⟩ | exact ⟨_, rfl, RnV.wk (WkV.refl _) (Nat.le_of_ble_eq_true rfl)⟩ | exact TrIw.refl _ _ _ _ _ | exact OWk.same _ | exact OWk.loop _ _ _ _ _ _ _ (by repeat' (first | exact trivial | exact WkV.refl _ | exact WkV.unk _ | apply And.intro)) | exact Nat.zero_le _ | exact ⟨_, rfl, RnV.wk (WkV.int hi1) (Nat.zero_le _)⟩ | exact bdl_no lb | exact ⟨_, rfl, RnV.wk (WkV.refl _) (bd_nl b)⟩ | exact bd_enC _ (by decide) | exact Nat.le_of_ble_eq_true rfl | exact bdl_no (by assumption) | exact bdl_no (flat_no _) | exact bdl_no (ivs_no _) | exact bdl_no (svs_no _) | exact Nat.max_le.2 ⟨Nat.le_of_ble_eq_true rfl, bdl_no (ivs_no _)⟩ | exact Nat.max_le.2 ⟨Nat.le_of_ble_eq_true rfl, bdl_no (svs_no _)⟩ | apply And.intro))⟩
    ·obtain rfl : Q = 2 := hQ
     conv => whnf
     have hXl : (cnB b i j).length ≤ 1000 := by have := cnB_len b i j; omega
     by_cases hj2 : j < b.length
     ·refine bool_true (ltN_t hj2) ?_
      conv => whnf
      have gj := nth_ivs1 (l := b) (i := j) hj2
      have hj1 : IntKind.i64.wrap (Int.ofNat j + 1) = Int.ofNat (j + 1) := wrapN (m := j + 1) (by omega)
      by_cases p1 : b.getD i 0 > 0
      ·have c1 : decide (b.getD i 0 > 0) = true := decide_eq_true p1
       by_cases p2 : b.getD j 0 < 0
       ·have c2 : decide (b.getD j 0 < 0) = true := decide_eq_true p2
        have hc : 0 < b.getD i 0 ∧ b.getD j 0 < 0 := ⟨p1, p2⟩
        repeat ((first
         |refine plan_as (nthP gi) ?_
         |refine plan_as (nthP gj) ?_
         |refine ko_rT (inR_t hi2) ?_
         |refine ko_sF (inR_t hi2) ?_
         |refine plan_as (pick_t (inR_t hi2)) ?_
         |refine bool_true (inR_t hi2) ?_
         |refine ko_rT (inR_t hj2) ?_
         |refine ko_sF (inR_t hj2) ?_
         |refine plan_as (pick_t (inR_t hj2)) ?_
         |refine bool_true (inR_t hj2) ?_
         |refine ko_rT c1 ?_
         |refine ko_sF c1 ?_
         |refine plan_as (pick_t c1) ?_
         |refine bool_true c1 ?_
         |refine ko_rT (gd_tt c1) ?_
         |refine ko_sF (gd_tt c1) ?_
         |refine plan_as (pick_t (gd_tt c1)) ?_
         |refine bool_true (gd_tt c1) ?_
         |refine ko_rT c2 ?_
         |refine ko_sF c2 ?_
         |refine plan_as (pick_t c2) ?_
         |refine bool_true c2 ?_
         |refine sym_drawn hS (by kernel_rfl) ?_); conv => whnf)
        refine bool_true (decide_eq_true (show ((cnB b i j).length + (0 + 1)) * 24 ≤ 140737488355328 by omega)) ?_
        conv => whnf
        refine bool_true (decide_eq_true (show (cnB b i j).length + (0 + 1) ≤ 9223372036854775807 by omega)) ?_
        conv => whnf
        refine bool_true (lenIs_en (cnB b i j)) ?_
        conv => whnf
        refine bool_true (decide_eq_true rfl) ?_
        conv => whnf
        have e1 : cnB b i (j + 1) = cnB b i j ++ [(Int.ofNat i, Int.ofNat j, 0)] := by rw [cnB, if_pos hc]
        exact ⟨(j + 1, enC (cnB b i j ++ [(Int.ofNat i, Int.ofNat j, 0)]) 1, [.chain (cnB b i j ++ [(Int.ofNat i, Int.ofNat j, 0)]).length 3 38]), [1], ⟨hj2, .inr ⟨by rw [e1]; simp, by rw [e1], by rw [e1]⟩⟩, by show b.length - (j + 1) < b.length - j; omega, (by refine ⟨rfl, rfl, rfl, rfl, rfl, rfl, by decide, ?_, ?_, ?_, by kernel_rfl, ?_, ?_⟩ <;> repeat' (first | exact trivial | exact rfl | exact ⟨_, rfl, RnV.wk (WkV.refl _) (Nat.zero_le _)⟩ | exact ⟨_, rfl, RnV.wk (WkV.refl _) (Nat.le_of_ble_eq_true rfl)⟩ | exact TrIw.refl _ _ _ _ _ | exact OWk.same _ | exact OWk.loop _ _ _ _ _ _ _ (by repeat' (first | exact trivial | exact WkV.refl _ | exact WkV.unk _ | apply And.intro)) | exact Nat.zero_le _ | exact ⟨_, rfl, RnV.wk (WkV.int hj1) (Nat.zero_le _)⟩ | exact ⟨_, rfl, rnE (j := 0) (by decide) rfl rfl⟩ | exact enH_app _ _ | exact bdl_no lb | exact ⟨_, rfl, RnV.wk (WkV.refl _) (bd_nl b)⟩ | exact bd_enC _ (by decide) | exact Nat.le_of_ble_eq_true rfl | exact bdl_no (by assumption) | exact bdl_no (flat_no _) | exact bdl_no (ivs_no _) | exact bdl_no (svs_no _) | exact Nat.max_le.2 ⟨Nat.le_of_ble_eq_true rfl, bdl_no (ivs_no _)⟩ | exact Nat.max_le.2 ⟨Nat.le_of_ble_eq_true rfl, bdl_no (svs_no _)⟩ | apply And.intro))⟩
       ·have c2 : decide (b.getD j 0 < 0) = false := decide_eq_false p2
        have hc : ¬ (0 < b.getD i 0 ∧ b.getD j 0 < 0) := fun z => p2 z.2
        repeat ((first
         |refine plan_as (nthP gi) ?_
         |refine plan_as (nthP gj) ?_
         |refine ko_rT (inR_t hi2) ?_
         |refine ko_sF (inR_t hi2) ?_
         |refine plan_as (pick_t (inR_t hi2)) ?_
         |refine bool_true (inR_t hi2) ?_
         |refine ko_rT (inR_t hj2) ?_
         |refine ko_sF (inR_t hj2) ?_
         |refine plan_as (pick_t (inR_t hj2)) ?_
         |refine bool_true (inR_t hj2) ?_
         |refine ko_rT c1 ?_
         |refine ko_sF c1 ?_
         |refine plan_as (pick_t c1) ?_
         |refine bool_true c1 ?_
         |refine ko_rT (gd_tt c1) ?_
         |refine ko_sF (gd_tt c1) ?_
         |refine plan_as (pick_t (gd_tt c1)) ?_
         |refine bool_true (gd_tt c1) ?_
         |refine ko_sT c2 ?_
         |refine ko_rF c2 ?_
         |refine plan_as (pick_f c2) ?_
         |refine bool_false c2 ?_
         |refine sym_drawn hS (by kernel_rfl) ?_); conv => whnf)
        have e1 : cnB b i (j + 1) = cnB b i j := by rw [cnB, if_neg hc, List.append_nil]
        exact ⟨(j + 1, enC (cnB b i j) 1, [.chain (cnB b i j).length 3 38]), [1], ⟨hj2, .inr ⟨by rw [e1]; exact hb0, by rw [e1], by rw [e1]⟩⟩, by show b.length - (j + 1) < b.length - j; omega, (by refine ⟨rfl, rfl, rfl, rfl, rfl, rfl, by decide, ?_, ?_, ?_, by kernel_rfl, ?_, ?_⟩ <;> repeat' (first | exact trivial | exact rfl | exact ⟨_, rfl, RnV.wk (WkV.refl _) (Nat.zero_le _)⟩ | exact ⟨_, rfl, RnV.wk (WkV.refl _) (Nat.le_of_ble_eq_true rfl)⟩ | exact TrIw.refl _ _ _ _ _ | exact OWk.same _ | exact OWk.loop _ _ _ _ _ _ _ (by repeat' (first | exact trivial | exact WkV.refl _ | exact WkV.unk _ | apply And.intro)) | exact Nat.zero_le _ | exact ⟨_, rfl, RnV.wk (WkV.int hj1) (Nat.zero_le _)⟩ | exact ⟨_, rfl, rnC (j := 0) (by decide) rfl rfl (lks_no _)⟩ | exact bdl_no lb | exact ⟨_, rfl, RnV.wk (WkV.refl _) (bd_nl b)⟩ | exact bd_enC _ (by decide) | exact Nat.le_of_ble_eq_true rfl | exact bdl_no (by assumption) | exact bdl_no (flat_no _) | exact bdl_no (ivs_no _) | exact bdl_no (svs_no _) | exact Nat.max_le.2 ⟨Nat.le_of_ble_eq_true rfl, bdl_no (ivs_no _)⟩ | exact Nat.max_le.2 ⟨Nat.le_of_ble_eq_true rfl, bdl_no (svs_no _)⟩ | apply And.intro))⟩
      ·have c1 : decide (b.getD i 0 > 0) = false := decide_eq_false p1
       have hc : ¬ (0 < b.getD i 0 ∧ b.getD j 0 < 0) := fun z => p1 z.1
       repeat ((first
        |refine plan_as (nthP gi) ?_
        |refine ko_rT (inR_t hi2) ?_
        |refine ko_sF (inR_t hi2) ?_
        |refine plan_as (pick_t (inR_t hi2)) ?_
        |refine bool_true (inR_t hi2) ?_
        |refine ko_sT c1 ?_
        |refine ko_rF c1 ?_
        |refine plan_as (pick_f c1) ?_
        |refine bool_false c1 ?_
        |refine ko_sT (gd_tf c1) ?_
        |refine ko_rF (gd_tf c1) ?_
        |refine plan_as (pick_f (gd_tf c1)) ?_
        |refine bool_false (gd_tf c1) ?_
        |refine sym_drawn hS (by kernel_rfl) ?_); conv => whnf)
       have e1 : cnB b i (j + 1) = cnB b i j := by rw [cnB, if_neg hc, List.append_nil]
       exact ⟨(j + 1, enC (cnB b i j) 1, [.chain (cnB b i j).length 3 38]), [1], ⟨hj2, .inr ⟨by rw [e1]; exact hb0, by rw [e1], by rw [e1]⟩⟩, by show b.length - (j + 1) < b.length - j; omega, (by refine ⟨rfl, rfl, rfl, rfl, rfl, rfl, by decide, ?_, ?_, ?_, by kernel_rfl, ?_, ?_⟩ <;> repeat' (first | exact trivial | exact rfl | exact ⟨_, rfl, RnV.wk (WkV.refl _) (Nat.zero_le _)⟩ | exact ⟨_, rfl, RnV.wk (WkV.refl _) (Nat.le_of_ble_eq_true rfl)⟩ | exact TrIw.refl _ _ _ _ _ | exact OWk.same _ | exact OWk.loop _ _ _ _ _ _ _ (by repeat' (first | exact trivial | exact WkV.refl _ | exact WkV.unk _ | apply And.intro)) | exact Nat.zero_le _ | exact ⟨_, rfl, RnV.wk (WkV.int hj1) (Nat.zero_le _)⟩ | exact ⟨_, rfl, rnC (j := 0) (by decide) rfl rfl (lks_no _)⟩ | exact bdl_no lb | exact ⟨_, rfl, RnV.wk (WkV.refl _) (bd_nl b)⟩ | exact bd_enC _ (by decide) | exact Nat.le_of_ble_eq_true rfl | exact bdl_no (by assumption) | exact bdl_no (flat_no _) | exact bdl_no (ivs_no _) | exact bdl_no (svs_no _) | exact Nat.max_le.2 ⟨Nat.le_of_ble_eq_true rfl, bdl_no (ivs_no _)⟩ | exact Nat.max_le.2 ⟨Nat.le_of_ble_eq_true rfl, bdl_no (svs_no _)⟩ | apply And.intro))⟩
     ·refine bool_false (ltN_f hj2) ?_
      conv => whnf
      refine hK _ _ ?_
      conv => whnf
      have ej : b.length = j := by omega
      have e1 : cnF b (i + 1) = cnB b i j := by rw [cnF, ej, he]; rfl
      exact ⟨(i + 1, enC (cnB b i j) 1, [.chain (cnB b i j).length 3 38]), [1], ⟨hi2, .inr ⟨by rw [e1]; exact hb0, by rw [e1], by rw [e1]⟩⟩, by show b.length - (i + 1) < b.length - i; omega, (by refine ⟨rfl, rfl, rfl, rfl, rfl, rfl, by decide, ?_, ?_, ?_, by kernel_rfl, ?_, ?_⟩ <;> repeat' (first | exact trivial | exact rfl | exact ⟨_, rfl, RnV.wk (WkV.refl _) (Nat.zero_le _)⟩ | exact ⟨_, rfl, RnV.wk (WkV.refl _) (Nat.le_of_ble_eq_true rfl)⟩ | exact TrIw.refl _ _ _ _ _ | exact OWk.same _ | exact OWk.loop _ _ _ _ _ _ _ (by repeat' (first | exact trivial | exact WkV.refl _ | exact WkV.unk _ | apply And.intro)) | exact Nat.zero_le _ | exact ⟨_, rfl, RnV.wk (WkV.int hi1) (Nat.zero_le _)⟩ | exact ⟨_, rfl, rnC (j := 0) (by decide) rfl rfl (lks_no _)⟩ | exact bdl_no lb | exact ⟨_, rfl, RnV.wk (WkV.refl _) (bd_nl b)⟩ | exact bd_enC _ (by decide) | exact Nat.le_of_ble_eq_true rfl | exact bdl_no (by assumption) | exact bdl_no (flat_no _) | exact bdl_no (ivs_no _) | exact bdl_no (svs_no _) | exact Nat.max_le.2 ⟨Nat.le_of_ble_eq_true rfl, bdl_no (ivs_no _)⟩ | exact Nat.max_le.2 ⟨Nat.le_of_ble_eq_true rfl, bdl_no (svs_no _)⟩ | apply And.intro))⟩
   ·refine bool_false (ltN_f hi2) ?_
    conv => whnf
    have ei : b.length = i := by omega
    rw [← ei] at he
    clear ei hi hi2
    refine hK _ _ ?_
    conv => whnf
    have hz := cn_nil hs0 he
    have pS := settled_nil hk5.2 hk5.1 (z := true) ⟨fun _ => hz, fun _ => rfl⟩
    have r0 : R = [] := by
     obtain ⟨E, e1, e2, _⟩ := hR
     have e0 : E = [] := List.sublist_nil.1 (he ▸ e1)
     rw [e0] at e2
     have e3 := (slv_nil0 hz).symm.trans e2
     injection e3 with e3
     exact e3.symm
    rw [r0]
    refine sym_unroll hE hS ?_
    with_unfolding_all (conv => whnf)
    refine sym_unroll hE hS ?_
    with_unfolding_all (conv => whnf)
    refine sym_pure hC (pS) ?_
    with_unfolding_all (conv => whnf)
    refine sym_unroll hE hS ?_
    with_unfolding_all (conv => whnf)
    refine sym_pureW hC best_nil ?_
    with_unfolding_all (conv => whnf)
    exact ⟨_, rfl, Wk.refl _⟩
  ·obtain rfl : Q = 2 := hQ
   conv => whnf
   by_cases hi2 : i < b.length
   ·refine bool_true (ltN_t hi2) ?_
    conv => whnf
    have gi := nth_ivs1 (l := b) (i := i) hi2
    have hi1 : IntKind.i64.wrap (Int.ofNat i + 1) = Int.ofNat (i + 1) := wrapN (m := i + 1) (by omega)
    refine sym_hideE fun K hK => ?_
    have eM1 := congrArg (fun l => enC l 1) (List.append_nil (cnF b i)).symm
    have eM2 := congrArg (fun l => AObj.chain l.length 3 38) (List.append_nil (cnF b i)).symm
    refine sym_loopG hE hS (A := Nat) [0, 7, 9, 28, 29, 32] (fun j => [(8, enC (cnF b i ++ cnB b i j) 1), (33, nv j)]) (fun j => [(1, .chain (cnF b i ++ cnB b i j).length 3 38)]) (fun _ => []) (fun j => j ≤ b.length) (fun j => b.length - j) 0 (Nat.le_of_ble_eq_true rfl) rfl (by refine ⟨rfl, rfl, rfl, rfl, rfl, rfl, 2, rfl, ?_, ?_⟩ <;> repeat' (first | exact trivial | exact rfl | exact ⟨_, rfl, WkV.refl _⟩ | exact ⟨_, rfl, WkV.own _ _ _⟩ | exact Nat.zero_le _ | exact ⟨_, rfl, WkV.eq eM1⟩ | exact eM2 | exact bdl_no lb | exact bd_enC _ (by decide) | exact Nat.le_of_ble_eq_true rfl | exact bdl_no (by assumption) | exact bdl_no (flat_no _) | exact bdl_no (ivs_no _) | exact bdl_no (svs_no _) | exact Nat.max_le.2 ⟨Nat.le_of_ble_eq_true rfl, bdl_no (ivs_no _)⟩ | exact Nat.max_le.2 ⟨Nat.le_of_ble_eq_true rfl, bdl_no (svs_no _)⟩ | apply And.intro)) (Nat.zero_le _) ?_
    intro j hj Q hQ
    obtain rfl : Q = 2 := hQ
    conv => whnf
    have hXl : (cnF b i ++ cnB b i j).length ≤ 1000 := by
     have g1 := cnF_len b i
     have g2 := cnB_len b i j
     have g3 : i * b.length ≤ 5 * 5 := Nat.mul_le_mul (by omega) (by omega)
     rw [List.length_append]; omega
    by_cases hj2 : j < b.length
    ·refine bool_true (ltN_t hj2) ?_
     conv => whnf
     have gj := nth_ivs1 (l := b) (i := j) hj2
     have hj1 : IntKind.i64.wrap (Int.ofNat j + 1) = Int.ofNat (j + 1) := wrapN (m := j + 1) (by omega)
     by_cases p1 : b.getD i 0 > 0
     ·have c1 : decide (b.getD i 0 > 0) = true := decide_eq_true p1
      by_cases p2 : b.getD j 0 < 0
      ·have c2 : decide (b.getD j 0 < 0) = true := decide_eq_true p2
       have hc : 0 < b.getD i 0 ∧ b.getD j 0 < 0 := ⟨p1, p2⟩
       repeat ((first
        |refine plan_as (nthP gi) ?_
        |refine plan_as (nthP gj) ?_
        |refine ko_rT (inR_t hi2) ?_
        |refine ko_sF (inR_t hi2) ?_
        |refine plan_as (pick_t (inR_t hi2)) ?_
        |refine bool_true (inR_t hi2) ?_
        |refine ko_rT (inR_t hj2) ?_
        |refine ko_sF (inR_t hj2) ?_
        |refine plan_as (pick_t (inR_t hj2)) ?_
        |refine bool_true (inR_t hj2) ?_
        |refine ko_rT c1 ?_
        |refine ko_sF c1 ?_
        |refine plan_as (pick_t c1) ?_
        |refine bool_true c1 ?_
        |refine ko_rT (gd_tt c1) ?_
        |refine ko_sF (gd_tt c1) ?_
        |refine plan_as (pick_t (gd_tt c1)) ?_
        |refine bool_true (gd_tt c1) ?_
        |refine ko_rT c2 ?_
        |refine ko_sF c2 ?_
        |refine plan_as (pick_t c2) ?_
        |refine bool_true c2 ?_
        |refine sym_drawn hS (by kernel_rfl) ?_); conv => whnf)
       refine bool_true (decide_eq_true (show ((cnF b i ++ cnB b i j).length + (0 + 1)) * 24 ≤ 140737488355328 by omega)) ?_
       conv => whnf
       refine bool_true (decide_eq_true (show (cnF b i ++ cnB b i j).length + (0 + 1) ≤ 9223372036854775807 by omega)) ?_
       conv => whnf
       refine bool_true (lenIs_en (cnF b i ++ cnB b i j)) ?_
       conv => whnf
       refine bool_true (decide_eq_true rfl) ?_
       conv => whnf
       have e1 : cnF b i ++ cnB b i (j + 1) = cnF b i ++ cnB b i j ++ [(Int.ofNat i, Int.ofNat j, 0)] := by rw [cnB, if_pos hc, List.append_assoc]
       have e2 := enC_app (cnF b i ++ cnB b i j) (Int.ofNat i, Int.ofNat j, 0) 1
       have e3 := enH_app (ty := 38) (cnF b i ++ cnB b i j) (Int.ofNat i, Int.ofNat j, 0)
       rw [← e1] at e2 e3
       exact ⟨j + 1, hj2, by show b.length - (j + 1) < b.length - j; omega, Nat.le_refl _, (by refine ⟨rfl, rfl, rfl, rfl, rfl, rfl, 2, rfl, ?_, ?_⟩ <;> repeat' (first | exact trivial | exact rfl | exact ⟨_, rfl, WkV.refl _⟩ | exact ⟨_, rfl, WkV.own _ _ _⟩ | exact Nat.zero_le _ | exact ⟨_, rfl, WkV.int hj1⟩ | exact ⟨_, rfl, WkV.eq e2⟩ | exact e3 | exact bdl_no lb | exact bd_enC _ (by decide) | exact Nat.le_of_ble_eq_true rfl | exact bdl_no (by assumption) | exact bdl_no (flat_no _) | exact bdl_no (ivs_no _) | exact bdl_no (svs_no _) | exact Nat.max_le.2 ⟨Nat.le_of_ble_eq_true rfl, bdl_no (ivs_no _)⟩ | exact Nat.max_le.2 ⟨Nat.le_of_ble_eq_true rfl, bdl_no (svs_no _)⟩ | apply And.intro))⟩
      ·have c2 : decide (b.getD j 0 < 0) = false := decide_eq_false p2
       have hc : ¬ (0 < b.getD i 0 ∧ b.getD j 0 < 0) := fun z => p2 z.2
       repeat ((first
        |refine plan_as (nthP gi) ?_
        |refine plan_as (nthP gj) ?_
        |refine ko_rT (inR_t hi2) ?_
        |refine ko_sF (inR_t hi2) ?_
        |refine plan_as (pick_t (inR_t hi2)) ?_
        |refine bool_true (inR_t hi2) ?_
        |refine ko_rT (inR_t hj2) ?_
        |refine ko_sF (inR_t hj2) ?_
        |refine plan_as (pick_t (inR_t hj2)) ?_
        |refine bool_true (inR_t hj2) ?_
        |refine ko_rT c1 ?_
        |refine ko_sF c1 ?_
        |refine plan_as (pick_t c1) ?_
        |refine bool_true c1 ?_
        |refine ko_rT (gd_tt c1) ?_
        |refine ko_sF (gd_tt c1) ?_
        |refine plan_as (pick_t (gd_tt c1)) ?_
        |refine bool_true (gd_tt c1) ?_
        |refine ko_sT c2 ?_
        |refine ko_rF c2 ?_
        |refine plan_as (pick_f c2) ?_
        |refine bool_false c2 ?_
        |refine sym_drawn hS (by kernel_rfl) ?_); conv => whnf)
       have e1 : cnF b i ++ cnB b i (j + 1) = cnF b i ++ cnB b i j := by rw [cnB, if_neg hc, List.append_nil]
       have e2 := (congrArg (fun l => enC l 1) e1).symm
       have e3 := (congrArg (fun l => AObj.chain l.length 3 38) e1).symm
       exact ⟨j + 1, hj2, by show b.length - (j + 1) < b.length - j; omega, Nat.le_refl _, (by refine ⟨rfl, rfl, rfl, rfl, rfl, rfl, 2, rfl, ?_, ?_⟩ <;> repeat' (first | exact trivial | exact rfl | exact ⟨_, rfl, WkV.refl _⟩ | exact ⟨_, rfl, WkV.own _ _ _⟩ | exact Nat.zero_le _ | exact ⟨_, rfl, WkV.int hj1⟩ | exact ⟨_, rfl, WkV.eq e2⟩ | exact e3 | exact bdl_no lb | exact bd_enC _ (by decide) | exact Nat.le_of_ble_eq_true rfl | exact bdl_no (by assumption) | exact bdl_no (flat_no _) | exact bdl_no (ivs_no _) | exact bdl_no (svs_no _) | exact Nat.max_le.2 ⟨Nat.le_of_ble_eq_true rfl, bdl_no (ivs_no _)⟩ | exact Nat.max_le.2 ⟨Nat.le_of_ble_eq_true rfl, bdl_no (svs_no _)⟩ | apply And.intro))⟩
     ·have c1 : decide (b.getD i 0 > 0) = false := decide_eq_false p1
      have hc : ¬ (0 < b.getD i 0 ∧ b.getD j 0 < 0) := fun z => p1 z.1
      repeat ((first
       |refine plan_as (nthP gi) ?_
       |refine ko_rT (inR_t hi2) ?_
       |refine ko_sF (inR_t hi2) ?_
       |refine plan_as (pick_t (inR_t hi2)) ?_
       |refine bool_true (inR_t hi2) ?_
       |refine ko_sT c1 ?_
       |refine ko_rF c1 ?_
       |refine plan_as (pick_f c1) ?_
       |refine bool_false c1 ?_
       |refine ko_sT (gd_tf c1) ?_
       |refine ko_rF (gd_tf c1) ?_
       |refine plan_as (pick_f (gd_tf c1)) ?_
       |refine bool_false (gd_tf c1) ?_
       |refine sym_drawn hS (by kernel_rfl) ?_); conv => whnf)
      have e1 : cnF b i ++ cnB b i (j + 1) = cnF b i ++ cnB b i j := by rw [cnB, if_neg hc, List.append_nil]
      have e2 := (congrArg (fun l => enC l 1) e1).symm
      have e3 := (congrArg (fun l => AObj.chain l.length 3 38) e1).symm
      exact ⟨j + 1, hj2, by show b.length - (j + 1) < b.length - j; omega, Nat.le_refl _, (by refine ⟨rfl, rfl, rfl, rfl, rfl, rfl, 2, rfl, ?_, ?_⟩ <;> repeat' (first | exact trivial | exact rfl | exact ⟨_, rfl, WkV.refl _⟩ | exact ⟨_, rfl, WkV.own _ _ _⟩ | exact Nat.zero_le _ | exact ⟨_, rfl, WkV.int hj1⟩ | exact ⟨_, rfl, WkV.eq e2⟩ | exact e3 | exact bdl_no lb | exact bd_enC _ (by decide) | exact Nat.le_of_ble_eq_true rfl | exact bdl_no (by assumption) | exact bdl_no (flat_no _) | exact bdl_no (ivs_no _) | exact bdl_no (svs_no _) | exact Nat.max_le.2 ⟨Nat.le_of_ble_eq_true rfl, bdl_no (ivs_no _)⟩ | exact Nat.max_le.2 ⟨Nat.le_of_ble_eq_true rfl, bdl_no (svs_no _)⟩ | apply And.intro))⟩
    ·refine bool_false (ltN_f hj2) ?_
     conv => whnf
     refine .inl (hK _ _ ?_)
     conv => whnf
     have ej : j = b.length := by omega
     rw [ej]
     exact ⟨(i + 1, enC (cnF b i ++ cnB b i b.length) 1, [.chain (cnF b i ++ cnB b i b.length).length 3 38]), [1], ⟨hi2, .inr ⟨by rw [cnF]; simp [he], by rw [cnF], by rw [cnF]⟩⟩, by show b.length - (i + 1) < b.length - i; omega, (by refine ⟨rfl, rfl, rfl, rfl, rfl, rfl, by decide, ?_, ?_, ?_, by kernel_rfl, ?_, ?_⟩ <;> repeat' (first | exact trivial | exact rfl | exact ⟨_, rfl, RnV.wk (WkV.refl _) (Nat.zero_le _)⟩ | exact ⟨_, rfl, RnV.wk (WkV.refl _) (Nat.le_of_ble_eq_true rfl)⟩ | exact TrIw.refl _ _ _ _ _ | exact OWk.same _ | exact OWk.loop _ _ _ _ _ _ _ (by repeat' (first | exact trivial | exact WkV.refl _ | exact WkV.unk _ | apply And.intro)) | exact Nat.zero_le _ | exact ⟨_, rfl, RnV.wk (WkV.int hi1) (Nat.zero_le _)⟩ | exact ⟨_, rfl, rnC (j := 0) (by decide) rfl rfl (lks_no _)⟩ | exact bdl_no lb | exact ⟨_, rfl, RnV.wk (WkV.refl _) (bd_nl b)⟩ | exact bd_enC _ (by decide) | exact Nat.le_of_ble_eq_true rfl | exact bdl_no (by assumption) | exact bdl_no (flat_no _) | exact bdl_no (ivs_no _) | exact bdl_no (svs_no _) | exact Nat.max_le.2 ⟨Nat.le_of_ble_eq_true rfl, bdl_no (ivs_no _)⟩ | exact Nat.max_le.2 ⟨Nat.le_of_ble_eq_true rfl, bdl_no (svs_no _)⟩ | apply And.intro))⟩
   ·refine bool_false (ltN_f hi2) ?_
    conv => whnf
    have ei : i = b.length := by omega
    rw [ei] at he ⊢
    clear hi hi2
    refine hK _ _ ?_
    conv => whnf
    have hC6 := cnL_6 hk5.2
    have w2 := shl_w hC6
    have hP6 : 2 ^ (cnL b).length ≤ 2 ^ 6 := Nat.pow_le_pow_right (by decide) hC6
    have nz := cn_ne he
    have lC := lks_no (cnL b)
    have pN := settled_nil hk5.2 hk5.1 (z := false) ⟨fun z => (nomatch z), fun z => absurd z nz⟩
    refine sym_hideE fun K hK => ?_
    refine sym_loopR hE hS (A := Nat × AV × List AObj) [] (fun x hx => nomatch hx) [7, 8, 58] (fun (s, v, _) => [(11, v), (59, nv s)]) (fun _ => []) (fun a => a.2.2) (fun (s, v, ux) => s ≤ 2 ^ (cnL b).length ∧ grA 2 (alS b s) v ux) (fun (s, _) => 2 ^ (cnL b).length - s) (0, .nils, []) (Nat.le_of_ble_eq_true rfl) trivial rfl (by repeat' (first | exact trivial | exact Nat.zero_le _ | exact bdl_no lb | exact bdl_no lC | exact bd_enC _ (by decide) | exact bd_evC _ (by decide) | exact Nat.le_of_ble_eq_true rfl | exact bdl_no (by assumption) | exact bdl_no (flat_no _) | exact bdl_no (ivs_no _) | exact bdl_no (svs_no _) | exact Nat.max_le.2 ⟨Nat.le_of_ble_eq_true rfl, bdl_no (ivs_no _)⟩ | exact Nat.max_le.2 ⟨Nat.le_of_ble_eq_true rfl, bdl_no (svs_no _)⟩ | apply And.intro)) (by refine ⟨rfl, rfl, rfl, rfl, rfl, rfl, by decide, ?_, ?_, ?_, by kernel_rfl, ?_, ?_⟩ <;> repeat' (first | exact trivial | exact rfl | exact ⟨_, rfl, RnV.wk (WkV.refl _) (Nat.zero_le _)⟩ | exact ⟨_, rfl, RnV.wk (WkV.refl _) (Nat.le_of_ble_eq_true rfl)⟩ | exact TrIw.refl _ _ _ _ _ | exact OWk.same _ | exact OWk.loop _ _ _ _ _ _ _ (by repeat' (first | exact trivial | exact WkV.refl _ | exact WkV.unk _ | apply And.intro)) | exact Nat.zero_le _ | exact bdl_no lb | exact ⟨_, rfl, RnV.wk (WkV.refl _) (bd_nl b)⟩ | exact ⟨_, rfl, RnV.wk (WkV.refl _) (bd_enC _ (by decide))⟩ | exact ⟨_, rfl, RnV.wk (WkV.refl _) (bd_evC _ (by decide))⟩ | exact bd_enC _ (by decide) | exact bd_evC _ (by decide) | exact bdl_no lA | exact Nat.le_of_ble_eq_true rfl | exact bdl_no (by assumption) | exact bdl_no (flat_no _) | exact bdl_no (ivs_no _) | exact bdl_no (svs_no _) | exact Nat.max_le.2 ⟨Nat.le_of_ble_eq_true rfl, bdl_no (ivs_no _)⟩ | exact Nat.max_le.2 ⟨Nat.le_of_ble_eq_true rfl, bdl_no (svs_no _)⟩ | apply And.intro)) ⟨Nat.zero_le _, .inl ⟨rfl, rfl, rfl⟩⟩ ?_
    rintro ⟨s, v, ux⟩ ⟨hs, ⟨ha, rfl, rfl⟩ | ⟨ha, rfl, rfl⟩⟩ Q hQ
    ·obtain rfl : Q = 2 := hQ
     conv => whnf
     by_cases hs2 : s < 2 ^ (cnL b).length
     ·have c0 : decide (Int.ofNat s < IntKind.i64.wrap (1 * 2 ^ min (Int.toNat ((cnL b).length : Int)) IntKind.i64.bits)) = true := decide_eq_true (by rw [w2]; exact Int.ofNat_lt.2 hs2)
      have hs6 : s < 64 := by omega
      have hs1 : IntKind.i64.wrap (Int.ofNat s + 1) = Int.ofNat (s + 1) := wrapN (m := s + 1) (by omega)
      refine bool_true (c0) ?_
      conv => whnf
      refine sym_hideE fun K hK => ?_
      refine sym_loopR hE hS (A := Nat × List LkI × AV × List AObj) [] (fun x hx => nomatch hx) [7, 8, 11, 12, 58, 59, 62, 63] (fun (i, _, v, _) => [(13, v), (64, nv i)]) (fun _ => []) (fun a => a.2.2.2) (fun (i, M, v, ux) => i ≤ (cnL b).length ∧ (M ++ sb (s >>> i) ((cnL b).drop i) = sb s (cnL b) ∧ M.length ≤ i) ∧ grE 2 M v ux) (fun (i, _) => (cnL b).length - i) (0, [], .nils, []) (Nat.le_of_ble_eq_true rfl) trivial rfl (by repeat' (first | exact trivial | exact Nat.zero_le _ | exact bdl_no lb | exact bdl_no lC | exact bd_enC _ (by decide) | exact bd_evC _ (by decide) | exact Nat.le_of_ble_eq_true rfl | exact bdl_no (by assumption) | exact bdl_no (flat_no _) | exact bdl_no (ivs_no _) | exact bdl_no (svs_no _) | exact Nat.max_le.2 ⟨Nat.le_of_ble_eq_true rfl, bdl_no (ivs_no _)⟩ | exact Nat.max_le.2 ⟨Nat.le_of_ble_eq_true rfl, bdl_no (svs_no _)⟩ | apply And.intro)) (by refine ⟨rfl, rfl, rfl, rfl, rfl, rfl, by decide, ?_, ?_, ?_, by kernel_rfl, ?_, ?_⟩ <;> repeat' (first | exact trivial | exact rfl | exact ⟨_, rfl, RnV.wk (WkV.refl _) (Nat.zero_le _)⟩ | exact ⟨_, rfl, RnV.wk (WkV.refl _) (Nat.le_of_ble_eq_true rfl)⟩ | exact TrIw.refl _ _ _ _ _ | exact OWk.same _ | exact OWk.loop _ _ _ _ _ _ _ (by repeat' (first | exact trivial | exact WkV.refl _ | exact WkV.unk _ | apply And.intro)) | exact Nat.zero_le _ | exact bdl_no lb | exact ⟨_, rfl, RnV.wk (WkV.refl _) (bd_nl b)⟩ | exact ⟨_, rfl, RnV.wk (WkV.refl _) (bd_enC _ (by decide))⟩ | exact ⟨_, rfl, RnV.wk (WkV.refl _) (bd_evC _ (by decide))⟩ | exact bd_enC _ (by decide) | exact bd_evC _ (by decide) | exact bdl_no lA | exact Nat.le_of_ble_eq_true rfl | exact bdl_no (by assumption) | exact bdl_no (flat_no _) | exact bdl_no (ivs_no _) | exact bdl_no (svs_no _) | exact Nat.max_le.2 ⟨Nat.le_of_ble_eq_true rfl, bdl_no (ivs_no _)⟩ | exact Nat.max_le.2 ⟨Nat.le_of_ble_eq_true rfl, bdl_no (svs_no _)⟩ | apply And.intro)) ⟨Nat.zero_le _, ⟨rfl, Nat.le_refl _⟩, .inl ⟨rfl, rfl, rfl⟩⟩ ?_
      rintro ⟨i, M, v, ux⟩ ⟨hi, hM, ⟨he2, rfl, rfl⟩ | ⟨he2, rfl, rfl⟩⟩ Q hQ
      ·obtain rfl : Q = 2 := hQ
       conv => whnf
       by_cases hi2 : i < (cnL b).length
       ·refine bool_true (ltN_t hi2) ?_
        conv => whnf
        refine bool_true (inR_t hi2) ?_
        conv => whnf
        refine plan_as (takP (tak_lk (cnL b) hi2)) ?_
        conv => whnf
        have hi6 : i < 7 := by omega
        have hi1 : IntKind.i64.wrap (Int.ofNat i + 1) = Int.ofNat (i + 1) := wrapN (m := i + 1) (by omega)
        have hd := hM.1
        rw [sb_drop (cnL b) s hi2] at hd
        by_cases hp : (s >>> i) % 2 = 1
        ·refine bool_true (bt_eq hs6 hi6 (decide_eq_true hp)) ?_
         conv => whnf
         rw [if_pos hp, he2] at hd
         exact ⟨(i + 1, [((gL (cnL b) i).1, (gL (cnL b) i).2.1, (gL (cnL b) i).2.2)], enC [((gL (cnL b) i).1, (gL (cnL b) i).2.1, (gL (cnL b) i).2.2)] 2, [.chain 1 3 38]), [3], ⟨hi2, ⟨hd, Nat.succ_le_succ (Nat.zero_le i)⟩, .inr ⟨by simp, rfl, rfl⟩⟩, by show (cnL b).length - (i + 1) < (cnL b).length - i; omega, (by refine ⟨rfl, rfl, rfl, rfl, rfl, rfl, by decide, ?_, ?_, ?_, by kernel_rfl, ?_, ?_⟩ <;> repeat' (first | exact trivial | exact rfl | exact ⟨_, rfl, RnV.wk (WkV.refl _) (Nat.zero_le _)⟩ | exact ⟨_, rfl, RnV.wk (WkV.refl _) (Nat.le_of_ble_eq_true rfl)⟩ | exact TrIw.refl _ _ _ _ _ | exact OWk.same _ | exact OWk.loop _ _ _ _ _ _ _ (by repeat' (first | exact trivial | exact WkV.refl _ | exact WkV.unk _ | apply And.intro)) | exact Nat.zero_le _ | exact ⟨_, rfl, RnV.wk (WkV.int hi1) (Nat.zero_le _)⟩ | exact ⟨_, rfl, rnE0 (j := 0) (by decide) rfl rfl⟩ | exact bdl_no lb | exact ⟨_, rfl, RnV.wk (WkV.refl _) (bd_nl b)⟩ | exact ⟨_, rfl, RnV.wk (WkV.refl _) (bd_enC _ (by decide))⟩ | exact ⟨_, rfl, RnV.wk (WkV.refl _) (bd_evC _ (by decide))⟩ | exact bd_enC _ (by decide) | exact bd_evC _ (by decide) | exact bdl_no lA | exact Nat.le_of_ble_eq_true rfl | exact bdl_no (by assumption) | exact bdl_no (flat_no _) | exact bdl_no (ivs_no _) | exact bdl_no (svs_no _) | exact Nat.max_le.2 ⟨Nat.le_of_ble_eq_true rfl, bdl_no (ivs_no _)⟩ | exact Nat.max_le.2 ⟨Nat.le_of_ble_eq_true rfl, bdl_no (svs_no _)⟩ | apply And.intro))⟩
        ·refine bool_false (bt_eq hs6 hi6 (decide_eq_false hp)) ?_
         conv => whnf
         rw [if_neg hp, he2] at hd
         exact ⟨(i + 1, [], .nils, []), [], ⟨hi2, ⟨hd, Nat.zero_le _⟩, .inl ⟨rfl, rfl, rfl⟩⟩, by show (cnL b).length - (i + 1) < (cnL b).length - i; omega, (by refine ⟨rfl, rfl, rfl, rfl, rfl, rfl, by decide, ?_, ?_, ?_, by kernel_rfl, ?_, ?_⟩ <;> repeat' (first | exact trivial | exact rfl | exact ⟨_, rfl, RnV.wk (WkV.refl _) (Nat.zero_le _)⟩ | exact ⟨_, rfl, RnV.wk (WkV.refl _) (Nat.le_of_ble_eq_true rfl)⟩ | exact TrIw.refl _ _ _ _ _ | exact OWk.same _ | exact OWk.loop _ _ _ _ _ _ _ (by repeat' (first | exact trivial | exact WkV.refl _ | exact WkV.unk _ | apply And.intro)) | exact Nat.zero_le _ | exact ⟨_, rfl, RnV.wk (WkV.int hi1) (Nat.zero_le _)⟩ | exact bdl_no lb | exact ⟨_, rfl, RnV.wk (WkV.refl _) (bd_nl b)⟩ | exact ⟨_, rfl, RnV.wk (WkV.refl _) (bd_enC _ (by decide))⟩ | exact ⟨_, rfl, RnV.wk (WkV.refl _) (bd_evC _ (by decide))⟩ | exact bd_enC _ (by decide) | exact bd_evC _ (by decide) | exact bdl_no lA | exact Nat.le_of_ble_eq_true rfl | exact bdl_no (by assumption) | exact bdl_no (flat_no _) | exact bdl_no (ivs_no _) | exact bdl_no (svs_no _) | exact Nat.max_le.2 ⟨Nat.le_of_ble_eq_true rfl, bdl_no (ivs_no _)⟩ | exact Nat.max_le.2 ⟨Nat.le_of_ble_eq_true rfl, bdl_no (svs_no _)⟩ | apply And.intro))⟩
       ·refine bool_false (ltN_f hi2) ?_
        conv => whnf
        refine hK _ _ ?_
        conv => whnf
        have hE0 := hM.1
        rw [List.drop_eq_nil_of_le (by omega), sb_nil, List.append_nil] at hE0
        rw [he2] at hE0
        have hall : alS b (s + 1) = [] := by rw [alS_succ, ← hE0, slv_nil1 nz, ha]; rfl
        refine sym_pure hC (pN) ?_
        conv => whnf
        exact ⟨(s + 1, .nils, []), [], ⟨hs2, .inl ⟨hall, rfl, rfl⟩⟩, by show 2 ^ (cnL b).length - (s + 1) < 2 ^ (cnL b).length - s; omega, (by refine ⟨rfl, rfl, rfl, rfl, rfl, rfl, by decide, ?_, ?_, ?_, by kernel_rfl, ?_, ?_⟩ <;> repeat' (first | exact trivial | exact rfl | exact ⟨_, rfl, RnV.wk (WkV.refl _) (Nat.zero_le _)⟩ | exact ⟨_, rfl, RnV.wk (WkV.refl _) (Nat.le_of_ble_eq_true rfl)⟩ | exact TrIw.refl _ _ _ _ _ | exact OWk.same _ | exact OWk.loop _ _ _ _ _ _ _ (by repeat' (first | exact trivial | exact WkV.refl _ | exact WkV.unk _ | apply And.intro)) | exact Nat.zero_le _ | exact ⟨_, rfl, RnV.wk (WkV.int hs1) (Nat.zero_le _)⟩ | exact bdl_no lb | exact ⟨_, rfl, RnV.wk (WkV.refl _) (bd_nl b)⟩ | exact ⟨_, rfl, RnV.wk (WkV.refl _) (bd_enC _ (by decide))⟩ | exact ⟨_, rfl, RnV.wk (WkV.refl _) (bd_evC _ (by decide))⟩ | exact bd_enC _ (by decide) | exact bd_evC _ (by decide) | exact bdl_no lA | exact Nat.le_of_ble_eq_true rfl | exact bdl_no (by assumption) | exact bdl_no (flat_no _) | exact bdl_no (ivs_no _) | exact bdl_no (svs_no _) | exact Nat.max_le.2 ⟨Nat.le_of_ble_eq_true rfl, bdl_no (ivs_no _)⟩ | exact Nat.max_le.2 ⟨Nat.le_of_ble_eq_true rfl, bdl_no (svs_no _)⟩ | apply And.intro))⟩
      ·obtain rfl : Q = 3 := hQ
       conv => whnf
       have hMl := hM.2
       by_cases hi2 : i < (cnL b).length
       ·refine bool_true (ltN_t hi2) ?_
        conv => whnf
        refine bool_true (inR_t hi2) ?_
        conv => whnf
        refine plan_as (takP (tak_lk (cnL b) hi2)) ?_
        conv => whnf
        have hi6 : i < 7 := by omega
        have hi1 : IntKind.i64.wrap (Int.ofNat i + 1) = Int.ofNat (i + 1) := wrapN (m := i + 1) (by omega)
        have hd := hM.1
        rw [sb_drop (cnL b) s hi2] at hd
        by_cases hp : (s >>> i) % 2 = 1
        ·refine bool_true (bt_eq hs6 hi6 (decide_eq_true hp)) ?_
         conv => whnf
         rw [if_pos hp] at hd
         refine bool_true (decide_eq_true (show ((M).length + (0 + 1)) * 24 ≤ 140737488355328 by omega)) ?_
         conv => whnf
         refine bool_true (decide_eq_true (show (M).length + (0 + 1) ≤ 9223372036854775807 by omega)) ?_
         conv => whnf
         refine bool_true (lenIs_en (M)) ?_
         conv => whnf
         refine bool_true (decide_eq_true rfl) ?_
         conv => whnf
         exact ⟨(i + 1, M ++ [((gL (cnL b) i).1, (gL (cnL b) i).2.1, (gL (cnL b) i).2.2)], enC (M ++ [((gL (cnL b) i).1, (gL (cnL b) i).2.1, (gL (cnL b) i).2.2)]) 2, [.chain (M ++ [((gL (cnL b) i).1, (gL (cnL b) i).2.1, (gL (cnL b) i).2.2)]).length 3 38]), [2], ⟨hi2, ⟨by rw [List.append_assoc]; exact hd, by rw [List.length_append]; exact Nat.succ_le_succ hMl⟩, .inr ⟨by simp, rfl, rfl⟩⟩, by show (cnL b).length - (i + 1) < (cnL b).length - i; omega, (by refine ⟨rfl, rfl, rfl, rfl, rfl, rfl, by decide, ?_, ?_, ?_, by kernel_rfl, ?_, ?_⟩ <;> repeat' (first | exact trivial | exact rfl | exact ⟨_, rfl, RnV.wk (WkV.refl _) (Nat.zero_le _)⟩ | exact ⟨_, rfl, RnV.wk (WkV.refl _) (Nat.le_of_ble_eq_true rfl)⟩ | exact TrIw.refl _ _ _ _ _ | exact OWk.same _ | exact OWk.loop _ _ _ _ _ _ _ (by repeat' (first | exact trivial | exact WkV.refl _ | exact WkV.unk _ | apply And.intro)) | exact Nat.zero_le _ | exact ⟨_, rfl, RnV.wk (WkV.int hi1) (Nat.zero_le _)⟩ | exact ⟨_, rfl, rnE (j := 0) (by decide) rfl rfl⟩ | exact enH_app _ _ | exact bdl_no lb | exact ⟨_, rfl, RnV.wk (WkV.refl _) (bd_nl b)⟩ | exact ⟨_, rfl, RnV.wk (WkV.refl _) (bd_enC _ (by decide))⟩ | exact ⟨_, rfl, RnV.wk (WkV.refl _) (bd_evC _ (by decide))⟩ | exact bd_enC _ (by decide) | exact bd_evC _ (by decide) | exact bdl_no lA | exact Nat.le_of_ble_eq_true rfl | exact bdl_no (by assumption) | exact bdl_no (flat_no _) | exact bdl_no (ivs_no _) | exact bdl_no (svs_no _) | exact Nat.max_le.2 ⟨Nat.le_of_ble_eq_true rfl, bdl_no (ivs_no _)⟩ | exact Nat.max_le.2 ⟨Nat.le_of_ble_eq_true rfl, bdl_no (svs_no _)⟩ | apply And.intro))⟩
        ·refine bool_false (bt_eq hs6 hi6 (decide_eq_false hp)) ?_
         conv => whnf
         rw [if_neg hp] at hd
         exact ⟨(i + 1, M, enC M 2, [.chain M.length 3 38]), [2], ⟨hi2, ⟨hd, Nat.le_succ_of_le hMl⟩, .inr ⟨he2, rfl, rfl⟩⟩, by show (cnL b).length - (i + 1) < (cnL b).length - i; omega, (by refine ⟨rfl, rfl, rfl, rfl, rfl, rfl, by decide, ?_, ?_, ?_, by kernel_rfl, ?_, ?_⟩ <;> repeat' (first | exact trivial | exact rfl | exact ⟨_, rfl, RnV.wk (WkV.refl _) (Nat.zero_le _)⟩ | exact ⟨_, rfl, RnV.wk (WkV.refl _) (Nat.le_of_ble_eq_true rfl)⟩ | exact TrIw.refl _ _ _ _ _ | exact OWk.same _ | exact OWk.loop _ _ _ _ _ _ _ (by repeat' (first | exact trivial | exact WkV.refl _ | exact WkV.unk _ | apply And.intro)) | exact Nat.zero_le _ | exact ⟨_, rfl, RnV.wk (WkV.int hi1) (Nat.zero_le _)⟩ | exact ⟨_, rfl, rnC (j := 0) (by decide) rfl rfl (lks_no _)⟩ | exact bdl_no lb | exact ⟨_, rfl, RnV.wk (WkV.refl _) (bd_nl b)⟩ | exact ⟨_, rfl, RnV.wk (WkV.refl _) (bd_enC _ (by decide))⟩ | exact ⟨_, rfl, RnV.wk (WkV.refl _) (bd_evC _ (by decide))⟩ | exact bd_enC _ (by decide) | exact bd_evC _ (by decide) | exact bdl_no lA | exact Nat.le_of_ble_eq_true rfl | exact bdl_no (by assumption) | exact bdl_no (flat_no _) | exact bdl_no (ivs_no _) | exact bdl_no (svs_no _) | exact Nat.max_le.2 ⟨Nat.le_of_ble_eq_true rfl, bdl_no (ivs_no _)⟩ | exact Nat.max_le.2 ⟨Nat.le_of_ble_eq_true rfl, bdl_no (svs_no _)⟩ | apply And.intro))⟩
       ·refine bool_false (ltN_f hi2) ?_
        conv => whnf
        refine hK _ _ ?_
        conv => whnf
        have hE0 := hM.1
        rw [List.drop_eq_nil_of_le (by omega), sb_nil, List.append_nil] at hE0
        have hsub : M.Sublist (cnL b) := by rw [hE0]; exact sb_sub _ _
        have hM1 : 1 ≤ M.length := Nat.pos_of_ne_zero fun z => he2 (List.length_eq_zero_iff.1 z)
        have hM8 : M.length ≤ 8 := by have := hsub.length_le; omega
    
        cases hv : slv b M with
        |none =>
         have hall : alS b (s + 1) = [] := by rw [alS_succ, ← hE0, hv, ha]; rfl
         refine sym_pureW hC (pure_wkl (wkl_be b M _) (settled_none hk5.2 hk5.1 hM8 hM1 (sub_z hsub) (sub_r hsub) hbd hv)) ?_
         conv => whnf
         exact ⟨(s + 1, .nils, []), [], ⟨hs2, .inl ⟨hall, rfl, rfl⟩⟩, by show 2 ^ (cnL b).length - (s + 1) < 2 ^ (cnL b).length - s; omega, (by refine ⟨rfl, rfl, rfl, rfl, rfl, rfl, by decide, ?_, ?_, ?_, by kernel_rfl, ?_, ?_⟩ <;> repeat' (first | exact trivial | exact rfl | exact ⟨_, rfl, RnV.wk (WkV.refl _) (Nat.zero_le _)⟩ | exact ⟨_, rfl, RnV.wk (WkV.refl _) (Nat.le_of_ble_eq_true rfl)⟩ | exact TrIw.refl _ _ _ _ _ | exact OWk.same _ | exact OWk.loop _ _ _ _ _ _ _ (by repeat' (first | exact trivial | exact WkV.refl _ | exact WkV.unk _ | apply And.intro)) | exact Nat.zero_le _ | exact ⟨_, rfl, RnV.wk (WkV.int hs1) (Nat.zero_le _)⟩ | exact bdl_no lb | exact ⟨_, rfl, RnV.wk (WkV.refl _) (bd_nl b)⟩ | exact ⟨_, rfl, RnV.wk (WkV.refl _) (bd_enC _ (by decide))⟩ | exact ⟨_, rfl, RnV.wk (WkV.refl _) (bd_evC _ (by decide))⟩ | exact bd_enC _ (by decide) | exact bd_evC _ (by decide) | exact bdl_no lA | exact Nat.le_of_ble_eq_true rfl | exact bdl_no (by assumption) | exact bdl_no (flat_no _) | exact bdl_no (ivs_no _) | exact bdl_no (svs_no _) | exact Nat.max_le.2 ⟨Nat.le_of_ble_eq_true rfl, bdl_no (ivs_no _)⟩ | exact Nat.max_le.2 ⟨Nat.le_of_ble_eq_true rfl, bdl_no (svs_no _)⟩ | apply And.intro))⟩
        |some X =>
         have hall : alS b (s + 1) = [X] := by rw [alS_succ, ← hE0, hv, ha]; rfl
         refine sym_pureW hC (pure_wkl (wkl_be b M _) (settled_some hk5.2 hk5.1 hM8 hM1 (sub_z hsub) (sub_r hsub) hbd hv)) ?_
         conv => whnf
         exact ⟨(s + 1, evC [X] 2, [.chain 1 1 22]), [3], ⟨hs2, .inr ⟨by rw [hall]; simp, by rw [hall], by rw [hall]; rfl⟩⟩, by show 2 ^ (cnL b).length - (s + 1) < 2 ^ (cnL b).length - s; omega, (by refine ⟨rfl, rfl, rfl, rfl, rfl, rfl, by decide, ?_, ?_, ?_, by kernel_rfl, ?_, ?_⟩ <;> repeat' (first | exact trivial | exact rfl | exact ⟨_, rfl, RnV.wk (WkV.refl _) (Nat.zero_le _)⟩ | exact ⟨_, rfl, RnV.wk (WkV.refl _) (Nat.le_of_ble_eq_true rfl)⟩ | exact TrIw.refl _ _ _ _ _ | exact OWk.same _ | exact OWk.loop _ _ _ _ _ _ _ (by repeat' (first | exact trivial | exact WkV.refl _ | exact WkV.unk _ | apply And.intro)) | exact Nat.zero_le _ | exact ⟨_, rfl, RnV.wk (WkV.int hs1) (Nat.zero_le _)⟩ | exact ⟨_, rfl, rnC (j := 0) (by decide) rfl rfl (evs_no [X])⟩ | exact bdl_no lb | exact ⟨_, rfl, RnV.wk (WkV.refl _) (bd_nl b)⟩ | exact ⟨_, rfl, RnV.wk (WkV.refl _) (bd_enC _ (by decide))⟩ | exact ⟨_, rfl, RnV.wk (WkV.refl _) (bd_evC _ (by decide))⟩ | exact bd_enC _ (by decide) | exact bd_evC _ (by decide) | exact bdl_no lA | exact Nat.le_of_ble_eq_true rfl | exact bdl_no (by assumption) | exact bdl_no (flat_no _) | exact bdl_no (ivs_no _) | exact bdl_no (svs_no _) | exact Nat.max_le.2 ⟨Nat.le_of_ble_eq_true rfl, bdl_no (ivs_no _)⟩ | exact Nat.max_le.2 ⟨Nat.le_of_ble_eq_true rfl, bdl_no (svs_no _)⟩ | apply And.intro))⟩
     ·exfalso
      have es : s = 2 ^ (cnL b).length := by omega
      obtain ⟨x, r, hxr, _⟩ := bst_all (b := b) hk5.2 hs0 (all := alS b s) (by rw [es]; rfl)
      rw [ha] at hxr
      cases hxr
    ·obtain rfl : Q = 3 := hQ
     conv => whnf
     by_cases hs2 : s < 2 ^ (cnL b).length
     ·have c0 : decide (Int.ofNat s < IntKind.i64.wrap (1 * 2 ^ min (Int.toNat ((cnL b).length : Int)) IntKind.i64.bits)) = true := decide_eq_true (by rw [w2]; exact Int.ofNat_lt.2 hs2)
      have hs6 : s < 64 := by omega
      have hs1 : IntKind.i64.wrap (Int.ofNat s + 1) = Int.ofNat (s + 1) := wrapN (m := s + 1) (by omega)
      refine bool_true (c0) ?_
      conv => whnf
      have lA := evs_no (alS b s)
      refine sym_hideE fun K hK => ?_
      refine sym_loopR hE hS (A := Nat × List LkI × AV × List AObj) [] (fun x hx => nomatch hx) [7, 8, 11, 12, 58, 59, 62, 63] (fun (i, _, v, _) => [(13, v), (64, nv i)]) (fun _ => []) (fun a => a.2.2.2) (fun (i, M, v, ux) => i ≤ (cnL b).length ∧ (M ++ sb (s >>> i) ((cnL b).drop i) = sb s (cnL b) ∧ M.length ≤ i) ∧ grE 3 M v ux) (fun (i, _) => (cnL b).length - i) (0, [], .nils, []) (Nat.le_of_ble_eq_true rfl) trivial rfl (by repeat' (first | exact trivial | exact Nat.zero_le _ | exact bdl_no lb | exact bdl_no lC | exact bd_enC _ (by decide) | exact bd_evC _ (by decide) | exact Nat.le_of_ble_eq_true rfl | exact bdl_no (by assumption) | exact bdl_no (flat_no _) | exact bdl_no (ivs_no _) | exact bdl_no (svs_no _) | exact Nat.max_le.2 ⟨Nat.le_of_ble_eq_true rfl, bdl_no (ivs_no _)⟩ | exact Nat.max_le.2 ⟨Nat.le_of_ble_eq_true rfl, bdl_no (svs_no _)⟩ | apply And.intro)) (by refine ⟨rfl, rfl, rfl, rfl, rfl, rfl, by decide, ?_, ?_, ?_, by kernel_rfl, ?_, ?_⟩ <;> repeat' (first | exact trivial | exact rfl | exact ⟨_, rfl, RnV.wk (WkV.refl _) (Nat.zero_le _)⟩ | exact ⟨_, rfl, RnV.wk (WkV.refl _) (Nat.le_of_ble_eq_true rfl)⟩ | exact TrIw.refl _ _ _ _ _ | exact OWk.same _ | exact OWk.loop _ _ _ _ _ _ _ (by repeat' (first | exact trivial | exact WkV.refl _ | exact WkV.unk _ | apply And.intro)) | exact Nat.zero_le _ | exact bdl_no lb | exact ⟨_, rfl, RnV.wk (WkV.refl _) (bd_nl b)⟩ | exact ⟨_, rfl, RnV.wk (WkV.refl _) (bd_enC _ (by decide))⟩ | exact ⟨_, rfl, RnV.wk (WkV.refl _) (bd_evC _ (by decide))⟩ | exact bd_enC _ (by decide) | exact bd_evC _ (by decide) | exact bdl_no lA | exact Nat.le_of_ble_eq_true rfl | exact bdl_no (by assumption) | exact bdl_no (flat_no _) | exact bdl_no (ivs_no _) | exact bdl_no (svs_no _) | exact Nat.max_le.2 ⟨Nat.le_of_ble_eq_true rfl, bdl_no (ivs_no _)⟩ | exact Nat.max_le.2 ⟨Nat.le_of_ble_eq_true rfl, bdl_no (svs_no _)⟩ | apply And.intro)) ⟨Nat.zero_le _, ⟨rfl, Nat.le_refl _⟩, .inl ⟨rfl, rfl, rfl⟩⟩ ?_
      rintro ⟨i, M, v, ux⟩ ⟨hi, hM, ⟨he2, rfl, rfl⟩ | ⟨he2, rfl, rfl⟩⟩ Q hQ
      ·obtain rfl : Q = 3 := hQ
       conv => whnf
       by_cases hi2 : i < (cnL b).length
       ·refine bool_true (ltN_t hi2) ?_
        conv => whnf
        refine bool_true (inR_t hi2) ?_
        conv => whnf
        refine plan_as (takP (tak_lk (cnL b) hi2)) ?_
        conv => whnf
        have hi6 : i < 7 := by omega
        have hi1 : IntKind.i64.wrap (Int.ofNat i + 1) = Int.ofNat (i + 1) := wrapN (m := i + 1) (by omega)
        have hd := hM.1
        rw [sb_drop (cnL b) s hi2] at hd
        by_cases hp : (s >>> i) % 2 = 1
        ·refine bool_true (bt_eq hs6 hi6 (decide_eq_true hp)) ?_
         conv => whnf
         rw [if_pos hp, he2] at hd
         exact ⟨(i + 1, [((gL (cnL b) i).1, (gL (cnL b) i).2.1, (gL (cnL b) i).2.2)], enC [((gL (cnL b) i).1, (gL (cnL b) i).2.1, (gL (cnL b) i).2.2)] 3, [.chain 1 3 38]), [4], ⟨hi2, ⟨hd, Nat.succ_le_succ (Nat.zero_le i)⟩, .inr ⟨by simp, rfl, rfl⟩⟩, by show (cnL b).length - (i + 1) < (cnL b).length - i; omega, (by refine ⟨rfl, rfl, rfl, rfl, rfl, rfl, by decide, ?_, ?_, ?_, by kernel_rfl, ?_, ?_⟩ <;> repeat' (first | exact trivial | exact rfl | exact ⟨_, rfl, RnV.wk (WkV.refl _) (Nat.zero_le _)⟩ | exact ⟨_, rfl, RnV.wk (WkV.refl _) (Nat.le_of_ble_eq_true rfl)⟩ | exact TrIw.refl _ _ _ _ _ | exact OWk.same _ | exact OWk.loop _ _ _ _ _ _ _ (by repeat' (first | exact trivial | exact WkV.refl _ | exact WkV.unk _ | apply And.intro)) | exact Nat.zero_le _ | exact ⟨_, rfl, RnV.wk (WkV.int hi1) (Nat.zero_le _)⟩ | exact ⟨_, rfl, rnE0 (j := 0) (by decide) rfl rfl⟩ | exact bdl_no lb | exact ⟨_, rfl, RnV.wk (WkV.refl _) (bd_nl b)⟩ | exact ⟨_, rfl, RnV.wk (WkV.refl _) (bd_enC _ (by decide))⟩ | exact ⟨_, rfl, RnV.wk (WkV.refl _) (bd_evC _ (by decide))⟩ | exact bd_enC _ (by decide) | exact bd_evC _ (by decide) | exact bdl_no lA | exact Nat.le_of_ble_eq_true rfl | exact bdl_no (by assumption) | exact bdl_no (flat_no _) | exact bdl_no (ivs_no _) | exact bdl_no (svs_no _) | exact Nat.max_le.2 ⟨Nat.le_of_ble_eq_true rfl, bdl_no (ivs_no _)⟩ | exact Nat.max_le.2 ⟨Nat.le_of_ble_eq_true rfl, bdl_no (svs_no _)⟩ | apply And.intro))⟩
        ·refine bool_false (bt_eq hs6 hi6 (decide_eq_false hp)) ?_
         conv => whnf
         rw [if_neg hp, he2] at hd
         exact ⟨(i + 1, [], .nils, []), [], ⟨hi2, ⟨hd, Nat.zero_le _⟩, .inl ⟨rfl, rfl, rfl⟩⟩, by show (cnL b).length - (i + 1) < (cnL b).length - i; omega, (by refine ⟨rfl, rfl, rfl, rfl, rfl, rfl, by decide, ?_, ?_, ?_, by kernel_rfl, ?_, ?_⟩ <;> repeat' (first | exact trivial | exact rfl | exact ⟨_, rfl, RnV.wk (WkV.refl _) (Nat.zero_le _)⟩ | exact ⟨_, rfl, RnV.wk (WkV.refl _) (Nat.le_of_ble_eq_true rfl)⟩ | exact TrIw.refl _ _ _ _ _ | exact OWk.same _ | exact OWk.loop _ _ _ _ _ _ _ (by repeat' (first | exact trivial | exact WkV.refl _ | exact WkV.unk _ | apply And.intro)) | exact Nat.zero_le _ | exact ⟨_, rfl, RnV.wk (WkV.int hi1) (Nat.zero_le _)⟩ | exact bdl_no lb | exact ⟨_, rfl, RnV.wk (WkV.refl _) (bd_nl b)⟩ | exact ⟨_, rfl, RnV.wk (WkV.refl _) (bd_enC _ (by decide))⟩ | exact ⟨_, rfl, RnV.wk (WkV.refl _) (bd_evC _ (by decide))⟩ | exact bd_enC _ (by decide) | exact bd_evC _ (by decide) | exact bdl_no lA | exact Nat.le_of_ble_eq_true rfl | exact bdl_no (by assumption) | exact bdl_no (flat_no _) | exact bdl_no (ivs_no _) | exact bdl_no (svs_no _) | exact Nat.max_le.2 ⟨Nat.le_of_ble_eq_true rfl, bdl_no (ivs_no _)⟩ | exact Nat.max_le.2 ⟨Nat.le_of_ble_eq_true rfl, bdl_no (svs_no _)⟩ | apply And.intro))⟩
       ·refine bool_false (ltN_f hi2) ?_
        conv => whnf
        refine hK _ _ ?_
        conv => whnf
        have hE0 := hM.1
        rw [List.drop_eq_nil_of_le (by omega), sb_nil, List.append_nil] at hE0
        rw [he2] at hE0
        have hall : alS b (s + 1) = alS b s := by rw [alS_succ, ← hE0, slv_nil1 nz]; exact List.append_nil _
        refine sym_pure hC (pN) ?_
        conv => whnf
        exact ⟨(s + 1, evC (alS b s) 2, [.chain (alS b s).length 1 22]), [2], ⟨hs2, .inr ⟨by rw [hall]; exact ha, by rw [hall], by rw [hall]⟩⟩, by show 2 ^ (cnL b).length - (s + 1) < 2 ^ (cnL b).length - s; omega, (by refine ⟨rfl, rfl, rfl, rfl, rfl, rfl, by decide, ?_, ?_, ?_, by kernel_rfl, ?_, ?_⟩ <;> repeat' (first | exact trivial | exact rfl | exact ⟨_, rfl, RnV.wk (WkV.refl _) (Nat.zero_le _)⟩ | exact ⟨_, rfl, RnV.wk (WkV.refl _) (Nat.le_of_ble_eq_true rfl)⟩ | exact TrIw.refl _ _ _ _ _ | exact OWk.same _ | exact OWk.loop _ _ _ _ _ _ _ (by repeat' (first | exact trivial | exact WkV.refl _ | exact WkV.unk _ | apply And.intro)) | exact Nat.zero_le _ | exact ⟨_, rfl, RnV.wk (WkV.int hs1) (Nat.zero_le _)⟩ | exact ⟨_, rfl, rnC (j := 0) (by decide) rfl rfl (evs_no _)⟩ | exact bdl_no lb | exact ⟨_, rfl, RnV.wk (WkV.refl _) (bd_nl b)⟩ | exact ⟨_, rfl, RnV.wk (WkV.refl _) (bd_enC _ (by decide))⟩ | exact ⟨_, rfl, RnV.wk (WkV.refl _) (bd_evC _ (by decide))⟩ | exact bd_enC _ (by decide) | exact bd_evC _ (by decide) | exact bdl_no lA | exact Nat.le_of_ble_eq_true rfl | exact bdl_no (by assumption) | exact bdl_no (flat_no _) | exact bdl_no (ivs_no _) | exact bdl_no (svs_no _) | exact Nat.max_le.2 ⟨Nat.le_of_ble_eq_true rfl, bdl_no (ivs_no _)⟩ | exact Nat.max_le.2 ⟨Nat.le_of_ble_eq_true rfl, bdl_no (svs_no _)⟩ | apply And.intro))⟩
      ·obtain rfl : Q = 4 := hQ
       conv => whnf
       have hMl := hM.2
       by_cases hi2 : i < (cnL b).length
       ·refine bool_true (ltN_t hi2) ?_
        conv => whnf
        refine bool_true (inR_t hi2) ?_
        conv => whnf
        refine plan_as (takP (tak_lk (cnL b) hi2)) ?_
        conv => whnf
        have hi6 : i < 7 := by omega
        have hi1 : IntKind.i64.wrap (Int.ofNat i + 1) = Int.ofNat (i + 1) := wrapN (m := i + 1) (by omega)
        have hd := hM.1
        rw [sb_drop (cnL b) s hi2] at hd
        by_cases hp : (s >>> i) % 2 = 1
        ·refine bool_true (bt_eq hs6 hi6 (decide_eq_true hp)) ?_
         conv => whnf
         rw [if_pos hp] at hd
         refine bool_true (decide_eq_true (show ((M).length + (0 + 1)) * 24 ≤ 140737488355328 by omega)) ?_
         conv => whnf
         refine bool_true (decide_eq_true (show (M).length + (0 + 1) ≤ 9223372036854775807 by omega)) ?_
         conv => whnf
         refine bool_true (lenIs_en (M)) ?_
         conv => whnf
         refine bool_true (decide_eq_true rfl) ?_
         conv => whnf
         exact ⟨(i + 1, M ++ [((gL (cnL b) i).1, (gL (cnL b) i).2.1, (gL (cnL b) i).2.2)], enC (M ++ [((gL (cnL b) i).1, (gL (cnL b) i).2.1, (gL (cnL b) i).2.2)]) 3, [.chain (M ++ [((gL (cnL b) i).1, (gL (cnL b) i).2.1, (gL (cnL b) i).2.2)]).length 3 38]), [3], ⟨hi2, ⟨by rw [List.append_assoc]; exact hd, by rw [List.length_append]; exact Nat.succ_le_succ hMl⟩, .inr ⟨by simp, rfl, rfl⟩⟩, by show (cnL b).length - (i + 1) < (cnL b).length - i; omega, (by refine ⟨rfl, rfl, rfl, rfl, rfl, rfl, by decide, ?_, ?_, ?_, by kernel_rfl, ?_, ?_⟩ <;> repeat' (first | exact trivial | exact rfl | exact ⟨_, rfl, RnV.wk (WkV.refl _) (Nat.zero_le _)⟩ | exact ⟨_, rfl, RnV.wk (WkV.refl _) (Nat.le_of_ble_eq_true rfl)⟩ | exact TrIw.refl _ _ _ _ _ | exact OWk.same _ | exact OWk.loop _ _ _ _ _ _ _ (by repeat' (first | exact trivial | exact WkV.refl _ | exact WkV.unk _ | apply And.intro)) | exact Nat.zero_le _ | exact ⟨_, rfl, RnV.wk (WkV.int hi1) (Nat.zero_le _)⟩ | exact ⟨_, rfl, rnE (j := 0) (by decide) rfl rfl⟩ | exact enH_app _ _ | exact bdl_no lb | exact ⟨_, rfl, RnV.wk (WkV.refl _) (bd_nl b)⟩ | exact ⟨_, rfl, RnV.wk (WkV.refl _) (bd_enC _ (by decide))⟩ | exact ⟨_, rfl, RnV.wk (WkV.refl _) (bd_evC _ (by decide))⟩ | exact bd_enC _ (by decide) | exact bd_evC _ (by decide) | exact bdl_no lA | exact Nat.le_of_ble_eq_true rfl | exact bdl_no (by assumption) | exact bdl_no (flat_no _) | exact bdl_no (ivs_no _) | exact bdl_no (svs_no _) | exact Nat.max_le.2 ⟨Nat.le_of_ble_eq_true rfl, bdl_no (ivs_no _)⟩ | exact Nat.max_le.2 ⟨Nat.le_of_ble_eq_true rfl, bdl_no (svs_no _)⟩ | apply And.intro))⟩
        ·refine bool_false (bt_eq hs6 hi6 (decide_eq_false hp)) ?_
         conv => whnf
         rw [if_neg hp] at hd
         exact ⟨(i + 1, M, enC M 3, [.chain M.length 3 38]), [3], ⟨hi2, ⟨hd, Nat.le_succ_of_le hMl⟩, .inr ⟨he2, rfl, rfl⟩⟩, by show (cnL b).length - (i + 1) < (cnL b).length - i; omega, (by refine ⟨rfl, rfl, rfl, rfl, rfl, rfl, by decide, ?_, ?_, ?_, by kernel_rfl, ?_, ?_⟩ <;> repeat' (first | exact trivial | exact rfl | exact ⟨_, rfl, RnV.wk (WkV.refl _) (Nat.zero_le _)⟩ | exact ⟨_, rfl, RnV.wk (WkV.refl _) (Nat.le_of_ble_eq_true rfl)⟩ | exact TrIw.refl _ _ _ _ _ | exact OWk.same _ | exact OWk.loop _ _ _ _ _ _ _ (by repeat' (first | exact trivial | exact WkV.refl _ | exact WkV.unk _ | apply And.intro)) | exact Nat.zero_le _ | exact ⟨_, rfl, RnV.wk (WkV.int hi1) (Nat.zero_le _)⟩ | exact ⟨_, rfl, rnC (j := 0) (by decide) rfl rfl (lks_no _)⟩ | exact bdl_no lb | exact ⟨_, rfl, RnV.wk (WkV.refl _) (bd_nl b)⟩ | exact ⟨_, rfl, RnV.wk (WkV.refl _) (bd_enC _ (by decide))⟩ | exact ⟨_, rfl, RnV.wk (WkV.refl _) (bd_evC _ (by decide))⟩ | exact bd_enC _ (by decide) | exact bd_evC _ (by decide) | exact bdl_no lA | exact Nat.le_of_ble_eq_true rfl | exact bdl_no (by assumption) | exact bdl_no (flat_no _) | exact bdl_no (ivs_no _) | exact bdl_no (svs_no _) | exact Nat.max_le.2 ⟨Nat.le_of_ble_eq_true rfl, bdl_no (ivs_no _)⟩ | exact Nat.max_le.2 ⟨Nat.le_of_ble_eq_true rfl, bdl_no (svs_no _)⟩ | apply And.intro))⟩
       ·refine bool_false (ltN_f hi2) ?_
        conv => whnf
        refine hK _ _ ?_
        conv => whnf
        have hE0 := hM.1
        rw [List.drop_eq_nil_of_le (by omega), sb_nil, List.append_nil] at hE0
        have hsub : M.Sublist (cnL b) := by rw [hE0]; exact sb_sub _ _
        have hM1 : 1 ≤ M.length := Nat.pos_of_ne_zero fun z => he2 (List.length_eq_zero_iff.1 z)
        have hM8 : M.length ≤ 8 := by have := hsub.length_le; omega
    
        have hal := alS_len b s
        cases hv : slv b M with
        |none =>
         have hall : alS b (s + 1) = alS b s := by rw [alS_succ, ← hE0, hv]; exact List.append_nil _
         refine sym_pureW hC (pure_wkl (wkl_be b M _) (settled_none hk5.2 hk5.1 hM8 hM1 (sub_z hsub) (sub_r hsub) hbd hv)) ?_
         conv => whnf
         exact ⟨(s + 1, evC (alS b s) 2, [.chain (alS b s).length 1 22]), [2], ⟨hs2, .inr ⟨by rw [hall]; exact ha, by rw [hall], by rw [hall]⟩⟩, by show 2 ^ (cnL b).length - (s + 1) < 2 ^ (cnL b).length - s; omega, (by refine ⟨rfl, rfl, rfl, rfl, rfl, rfl, by decide, ?_, ?_, ?_, by kernel_rfl, ?_, ?_⟩ <;> repeat' (first | exact trivial | exact rfl | exact ⟨_, rfl, RnV.wk (WkV.refl _) (Nat.zero_le _)⟩ | exact ⟨_, rfl, RnV.wk (WkV.refl _) (Nat.le_of_ble_eq_true rfl)⟩ | exact TrIw.refl _ _ _ _ _ | exact OWk.same _ | exact OWk.loop _ _ _ _ _ _ _ (by repeat' (first | exact trivial | exact WkV.refl _ | exact WkV.unk _ | apply And.intro)) | exact Nat.zero_le _ | exact ⟨_, rfl, RnV.wk (WkV.int hs1) (Nat.zero_le _)⟩ | exact ⟨_, rfl, rnC (j := 0) (by decide) rfl rfl (evs_no _)⟩ | exact bdl_no lb | exact ⟨_, rfl, RnV.wk (WkV.refl _) (bd_nl b)⟩ | exact ⟨_, rfl, RnV.wk (WkV.refl _) (bd_enC _ (by decide))⟩ | exact ⟨_, rfl, RnV.wk (WkV.refl _) (bd_evC _ (by decide))⟩ | exact bd_enC _ (by decide) | exact bd_evC _ (by decide) | exact bdl_no lA | exact Nat.le_of_ble_eq_true rfl | exact bdl_no (by assumption) | exact bdl_no (flat_no _) | exact bdl_no (ivs_no _) | exact bdl_no (svs_no _) | exact Nat.max_le.2 ⟨Nat.le_of_ble_eq_true rfl, bdl_no (ivs_no _)⟩ | exact Nat.max_le.2 ⟨Nat.le_of_ble_eq_true rfl, bdl_no (svs_no _)⟩ | apply And.intro))⟩
        |some X =>
         have hall : alS b (s + 1) = alS b s ++ [X] := by rw [alS_succ, ← hE0, hv]; rfl
         refine sym_pureW hC (pure_wkl (wkl_be b M _) (settled_some hk5.2 hk5.1 hM8 hM1 (sub_z hsub) (sub_r hsub) hbd hv)) ?_
         conv => whnf
         refine bool_true (decide_eq_true (show ((alS b s).length + (0 + 1)) * 24 ≤ 140737488355328 by omega)) ?_
         conv => whnf
         refine bool_true (decide_eq_true (show (alS b s).length + (0 + 1) ≤ 9223372036854775807 by omega)) ?_
         conv => whnf
         refine bool_true (lenIs_ev (alS b s)) ?_
         conv => whnf
         refine bool_true (decide_eq_true rfl) ?_
         conv => whnf
         exact ⟨(s + 1, evC (alS b s ++ [X]) 2, [.chain (alS b s ++ [X]).length 1 22]), [2], ⟨hs2, .inr ⟨by rw [hall]; simp, by rw [hall], by rw [hall]⟩⟩, by show 2 ^ (cnL b).length - (s + 1) < 2 ^ (cnL b).length - s; omega, (by refine ⟨rfl, rfl, rfl, rfl, rfl, rfl, by decide, ?_, ?_, ?_, by kernel_rfl, ?_, ?_⟩ <;> repeat' (first | exact trivial | exact rfl | exact ⟨_, rfl, RnV.wk (WkV.refl _) (Nat.zero_le _)⟩ | exact ⟨_, rfl, RnV.wk (WkV.refl _) (Nat.le_of_ble_eq_true rfl)⟩ | exact TrIw.refl _ _ _ _ _ | exact OWk.same _ | exact OWk.loop _ _ _ _ _ _ _ (by repeat' (first | exact trivial | exact WkV.refl _ | exact WkV.unk _ | apply And.intro)) | exact Nat.zero_le _ | exact ⟨_, rfl, RnV.wk (WkV.int hs1) (Nat.zero_le _)⟩ | exact ⟨_, rfl, rnA (j := 0) (by decide) rfl rfl⟩ | exact evH_app _ _ | exact bdl_no lb | exact ⟨_, rfl, RnV.wk (WkV.refl _) (bd_nl b)⟩ | exact ⟨_, rfl, RnV.wk (WkV.refl _) (bd_enC _ (by decide))⟩ | exact ⟨_, rfl, RnV.wk (WkV.refl _) (bd_evC _ (by decide))⟩ | exact bd_enC _ (by decide) | exact bd_evC _ (by decide) | exact bdl_no lA | exact Nat.le_of_ble_eq_true rfl | exact bdl_no (by assumption) | exact bdl_no (flat_no _) | exact bdl_no (ivs_no _) | exact bdl_no (svs_no _) | exact Nat.max_le.2 ⟨Nat.le_of_ble_eq_true rfl, bdl_no (ivs_no _)⟩ | exact Nat.max_le.2 ⟨Nat.le_of_ble_eq_true rfl, bdl_no (svs_no _)⟩ | apply And.intro))⟩
     ·have c0 : decide (Int.ofNat s < IntKind.i64.wrap (1 * 2 ^ min (Int.toNat ((cnL b).length : Int)) IntKind.i64.bits)) = false := decide_eq_false (by rw [w2]; exact fun z => hs2 (Int.ofNat_lt.1 z))
      refine bool_false (c0) ?_
      conv => whnf
      refine hK _ _ ?_
      conv => whnf
      have es : s = 2 ^ (cnL b).length := by omega
      obtain ⟨x, r, hxr, hbs⟩ := bst_all (b := b) hk5.2 hs0 (all := alS b s) (by rw [es]; rfl)
      have hxl : ∀ y, y ∈ x :: r → y.length ≤ 1000 := fun y hy => by
       rw [← hxr] at hy
       obtain ⟨t, _, h2⟩ := List.mem_filterMap.1 hy
       obtain ⟨g1, g2⟩ := slv_st (sb_sub (cnL b) t) h2
       have := (sb_sub (cnL b) t).length_le
       rw [← g2, zr_len] at this
       omega
      have hal := alS_len b s
      rw [hxr] at hal ⊢
      have hrl : r.length ≤ 1073741824 := by rw [List.length_cons] at hal; omega
      refine sym_pureW hC (pure_wkl (wkl_ev (x :: r) _ _ rfl) (bestE_pure hrl hxl)) ?_
      conv => whnf
      rw [hR.uniq hbs]
      have rne : bsE x r ≠ [] := fun z => by
       obtain ⟨E, e1, e2, _⟩ := hbs
       obtain ⟨_, g2⟩ := slv_st e1 e2
       rw [z] at g2 e2
       rw [← g2] at e2
       exact absurd (slv_nil1 nz) (by rw [show ([] : List LkI) = zr [] from rfl, e2]; exact fun h => nomatch h)
      show ∃ u, _
      rw [enV, if_neg rne]
      exact ⟨_, rfl, Wk.refl _⟩
end
end Go.Abs.Seat
