/-
  The law TrainFolds.
-/
import Derived.Test.YtgojpjbbahljeaaGreatDoorT20
/-! The law TrainFolds. -/
namespace Go.Abs.Seat
open Go Go.Abs Go.Proofs.Tryz
set_option maxRecDepth 100000
set_option maxHeartbeats 4000000
attribute [local irreducible] IntKind.wrap pEq

theorem chNat {l : List Int} (hc : chOk l) : ∃ ns, l = zl ns := by
  refine ⟨l.map Int.toNat, list_ext_gi (by simp [zl]) fun i hi => ?_⟩
  have h1 := (hc.1 i hi).1
  rw [zl_gi _ (by simpa using hi)]
  have e : (l.map Int.toNat).getD i 0 = (gi l i).toNat := by simp [gi, List.getD, hi]
  rw [e]
  show gi l i = (((gi l i).toNat : Nat) : Int)
  have : 0 ≤ gi l i := by split at h1 <;> omega
  omega

theorem lastNe_of : ∀ (r : List Nat) (x : Nat), (x :: r).getD r.length 0 ≠ 1 → r ≠ [] → lastNe r
  | [], _, _, h => absurd rfl h
  | [y], _, h, _ => h
  | y :: z :: r, x, h, _ => lastNe_of (z :: r) y h (by simp)

/-- A chain whose last number is not 1, or that is short, is that of its fraction. -/
theorem chain_back {ns : List Nat} (c : ChN ns) (h : ¬ (1 < ns.length ∧ ns.getD (ns.length - 1) 0 = 1)) : ech ((foS ns).2 + 1) (foS ns).1 (foS ns).2 = ns := by
  cases ns with
  | nil => have := c.h1; simp at this
  | cons x r =>
    refine ech_fo r x _ (fun y hy => ?_) (fun hr => lastNe_of r x (fun e => h ⟨?_, ?_⟩) hr) (Nat.lt_succ_self _)
    · obtain ⟨i, hi, e⟩ := List.mem_iff_getElem.1 hy
      have := c.hp (i + 1) (by omega) (by simpa using hi)
      simp [List.getD, hi] at this
      omega
    · cases r with
      | nil => exact absurd rfl hr
      | cons y r => simp
    · simpa using e

theorem trainFolds_yes (hk : Pure prog 19 [] (.bool true)) (ns : List Nat) (hc : chOk (zl ns)) : Pure prog 7 [nl (zl ns)] (.bool true) := by
  have c := ChN.of hc
  have hz := zl_len ns
  have h24 := c.h1
  have p1 := isChain_pure (zl ns) (by omega) (b := true) ⟨fun _ => hc, fun _ => rfl⟩
  by_cases ho : foOk ns
  · have p2 := fold_ok ns hc ho
    have p3 := rFold_ok ns c ho
    have hn : (foS ns).1 ≤ 50000 := by have := ho 0 (by omega); exact this
    have hd : (foS ns).2 ≤ 50000 := foS_den ns 0 fun j _ h => ho j h
    have hd1 : 1 ≤ (foS ns).2 := by
      have := foS_drop ns (i := 0) (by omega)
      have e : (foS ns).2 = (foS (ns.drop 1)).1 := by
        have e2 : foS ns = foS (ns.drop 0) := rfl
        rw [e2, this]
      rw [e]
      exact foS_pos ns c.hp (ns.length - 1) 1 (Nat.le_refl 1) (by omega)
    have p4 := chain_pure (foS ns).1 (foS ns).2 hn ⟨hd1, hd⟩
    have p5 := chain_back c
    have pn : nth (ivs (zl ns)) ((((zl ns).length : Int) - 1).toNat * 1) = some (nv (ns.getD (ns.length - 1) 0)) := nth_last (k := ns.length - 1) (by omega) rfl
    have ps : ech ((foS ns).2 + 1) (foS ns).1 (foS ns).2 = ns → Pure prog 26 [nl (zl (ech ((foS ns).2 + 1) (foS ns).1 (foS ns).2)), nl (zl ns)] (.bool true) := fun e => by
      rw [e]; exact same_pure _ _ (by omega) ⟨fun _ => rfl, fun _ => rfl⟩
    have ln := ivs_no (zl ns)
    generalize ech ((foS ns).2 + 1) (foS ns).1 (foS ns).2 = ec at *
    generalize foS ns = fo at *
    refine pure_sym hE rfl (by repeat' (first | exact trivial | assumption | exact flat_no _ | exact (fun _ h => nomatch h) | apply And.intro)) (by repeat' (first | exact trivial | assumption | exact flat_no _ | exact (fun _ h => nomatch h) | apply And.intro)) fun S q pc hS hq hC hE => ?_
    conv => whnf
    rw [show decide (((zl ns).length : Int) > 30) = false from decide_eq_false (by omega)]
    conv => whnf
    repeat ((first
      | refine sym_pure hC (p2) ?_
      | refine sym_pure hC (p1) ?_
      | refine sym_pure hC (p3) ?_
      | refine sym_drawn hS (by kernel_rfl) ?_
      | refine sym_eq hq true (eqBool_same _ _) ?_
      | rw [beq_self_eq_true]
      | rw [bne_self_eq_false]); conv => whnf)
    refine sym_eq hq true (eqFr_same _ _ _) ?_
    conv => whnf
    refine sym_pure hC (p4) ?_
    conv => whnf
    by_cases h1 : 1 < ns.length
    · rw [show decide (((zl ns).length : Int) > 1) = true from decide_eq_true (by omega)]
      conv => whnf
      rw [wrapLen (n := (zl ns).length) (by omega)]
      conv => whnf
      refine bool_true (inR_i (show (0 : Int) ≤ ((zl ns).length : Int) - 1 ∧ ((zl ns).length : Int) - 1 < ((zl ns).length : Int) by omega)) ?_
      conv => whnf
      refine plan_as (nthP (pn)) ?_
      conv => whnf
      by_cases h2 : ns.getD (ns.length - 1) 0 = 1
      · rw [show (Int.ofNat (ns.getD (ns.length - 1) 0) == 1) = true from eqN_t (b := 1) h2]
        conv => whnf
        repeat ((first
          | refine sym_pure hC (hk) ?_
          | refine sym_drawn hS (by kernel_rfl) ?_
          | refine sym_eq hq true (eqBool_same _ _) ?_
          | rw [beq_self_eq_true]
          | rw [bne_self_eq_false]); conv => whnf)
        exact ⟨_, rfl, Wk.refl _⟩
      · rw [show (Int.ofNat (ns.getD (ns.length - 1) 0) == 1) = false from eqN_f (b := 1) h2]
        conv => whnf
        repeat ((first
          | refine sym_pure hC (ps (p5 fun k => h2 k.2)) ?_
          | refine sym_pure hC (hk) ?_
          | refine sym_drawn hS (by kernel_rfl) ?_
          | refine sym_eq hq true (eqBool_same _ _) ?_
          | rw [beq_self_eq_true]
          | rw [bne_self_eq_false]); conv => whnf)
        exact ⟨_, rfl, Wk.refl _⟩
    · rw [show decide (((zl ns).length : Int) > 1) = false from decide_eq_false (by omega)]
      conv => whnf
      repeat ((first
        | refine sym_pure hC (ps (p5 fun k => h1 k.1)) ?_
        | refine sym_pure hC (hk) ?_
        | refine sym_drawn hS (by kernel_rfl) ?_
        | refine sym_eq hq true (eqBool_same _ _) ?_
        | rw [beq_self_eq_true]
        | rw [bne_self_eq_false]); conv => whnf)
      exact ⟨_, rfl, Wk.refl _⟩
  · have p2 := fold_big ns hc ho
    have p3 := rFold_big ns c ho
    have ln := ivs_no (zl ns)
    refine pure_sym hE rfl (by repeat' (first | exact trivial | assumption | exact flat_no _ | exact (fun _ h => nomatch h) | apply And.intro)) (by repeat' (first | exact trivial | assumption | exact flat_no _ | exact (fun _ h => nomatch h) | apply And.intro)) fun S q pc hS hq hC hE => ?_
    conv => whnf
    rw [show decide (((zl ns).length : Int) > 30) = false from decide_eq_false (by omega)]
    conv => whnf
    repeat ((first
      | refine sym_pure hC (p2) ?_
      | refine sym_pure hC (p1) ?_
      | refine sym_pure hC (p3) ?_
      | refine sym_drawn hS (by kernel_rfl) ?_
      | refine sym_eq hq true (eqBool_same _ _) ?_
      | rw [beq_self_eq_true]
      | rw [bne_self_eq_false]); conv => whnf)
    refine sym_eq hq true (eqFr_same _ _ _) ?_
    conv => whnf
    repeat ((first
      | refine sym_pure hC (hk) ?_
      | refine sym_drawn hS (by kernel_rfl) ?_
      | refine sym_eq hq true (eqBool_same _ _) ?_
      | rw [beq_self_eq_true]
      | rw [bne_self_eq_false]); conv => whnf)
    exact ⟨_, rfl, Wk.refl _⟩

theorem trainFolds_no (hk : Pure prog 19 [] (.bool true)) {v : AV} {l : List Int} (h : IL v l) (hl : l.length ≤ 30) (hc : ¬ chOk l) : Pure prog 7 [v] (.bool true) := by
  have lv := h.no
  have p2 := fold_no h (by omega) hc
  have p1 : Pure prog 30 [v] (.bool false) := by
    rcases h with ⟨rfl, rfl⟩ | rfl
    · exact isChain_nil
    · exact isChain_pure l (by omega) (iff_of_false Bool.false_ne_true hc)
  rcases h with ⟨rfl, rfl⟩ | rfl
  · refine pure_sym hE rfl (by repeat' (first | exact trivial | assumption | exact flat_no _ | exact (fun _ h => nomatch h) | apply And.intro)) (by repeat' (first | exact trivial | assumption | exact flat_no _ | exact (fun _ h => nomatch h) | apply And.intro)) fun S q pc hS hq hC hE => ?_
    conv => whnf
    repeat ((first
      | refine sym_pure hC (p2) ?_
      | refine sym_pure hC (p1) ?_
      | refine sym_drawn hS (by kernel_rfl) ?_
      | refine sym_eq hq true (eqBool_same _ _) ?_
      | rw [beq_self_eq_true]
      | rw [bne_self_eq_false]); conv => whnf)
    refine sym_eq hq true (eqFr_same _ _ _) ?_
    conv => whnf
    repeat ((first
      | refine sym_pure hC (hk) ?_
      | refine sym_drawn hS (by kernel_rfl) ?_
      | refine sym_eq hq true (eqBool_same _ _) ?_
      | rw [beq_self_eq_true]
      | rw [bne_self_eq_false]); conv => whnf)
    exact ⟨_, rfl, Wk.refl _⟩
  · refine pure_sym hE rfl (by repeat' (first | exact trivial | assumption | exact flat_no _ | exact (fun _ h => nomatch h) | apply And.intro)) (by repeat' (first | exact trivial | assumption | exact flat_no _ | exact (fun _ h => nomatch h) | apply And.intro)) fun S q pc hS hq hC hE => ?_
    conv => whnf
    rw [show decide ((l.length : Int) > 30) = false from decide_eq_false (by omega)]
    conv => whnf
    repeat ((first
      | refine sym_pure hC (p2) ?_
      | refine sym_pure hC (p1) ?_
      | refine sym_drawn hS (by kernel_rfl) ?_
      | refine sym_eq hq true (eqBool_same _ _) ?_
      | rw [beq_self_eq_true]
      | rw [bne_self_eq_false]); conv => whnf)
    refine sym_eq hq true (eqFr_same _ _ _) ?_
    conv => whnf
    repeat ((first
      | refine sym_pure hC (hk) ?_
      | refine sym_drawn hS (by kernel_rfl) ?_
      | refine sym_eq hq true (eqBool_same _ _) ?_
      | rw [beq_self_eq_true]
      | rw [bne_self_eq_false]); conv => whnf)
    exact ⟨_, rfl, Wk.refl _⟩

/-- TrainFolds, of whatever list. -/
theorem trainFolds (hk : Pure prog 19 [] (.bool true)) {v : AV} {l : List Int} (h : IL v l) : Pure prog 7 [v] (.bool true) := by
  by_cases hl : l.length ≤ 30
  · by_cases hc : chOk l
    · rcases h with ⟨rfl, rfl⟩ | rfl
      · exact absurd hc.2.1 (by simp)
      · obtain ⟨ns, rfl⟩ := chNat hc
        exact trainFolds_yes hk ns hc
    · exact trainFolds_no hk h hl hc
  · rcases h with ⟨rfl, rfl⟩ | rfl
    · exact absurd (Nat.zero_le _) hl
    · have ln := ivs_no l
      refine pure_sym hE rfl (by repeat' (first | exact trivial | assumption | exact flat_no _ | exact (fun _ h => nomatch h) | apply And.intro)) (by repeat' (first | exact trivial | assumption | exact flat_no _ | exact (fun _ h => nomatch h) | apply And.intro)) fun S q pc hS hq hC hE => ?_
      conv => whnf
      rw [show decide ((l.length : Int) > 30) = true from decide_eq_true (by omega)]
      conv => whnf
      repeat ((first
        | refine sym_pure hC (hk) ?_
        | refine sym_drawn hS (by kernel_rfl) ?_
        | refine sym_eq hq true (eqBool_same _ _) ?_
        | rw [beq_self_eq_true]
        | rw [bne_self_eq_false]); conv => whnf)
      exact ⟨_, rfl, Wk.refl _⟩
end Go.Abs.Seat
