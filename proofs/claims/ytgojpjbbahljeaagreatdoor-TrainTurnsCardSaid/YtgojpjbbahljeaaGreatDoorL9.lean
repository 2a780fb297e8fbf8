/-
  The laws TrainTurns and TrainWhole.
-/
import Derived.Test.YtgojpjbbahljeaaGreatDoorT15
/-! The laws TrainTurns and TrainWhole. -/
namespace Go.Abs.Seat
open Go Go.Abs Go.Proofs.Tryz
set_option maxRecDepth 100000
set_option maxHeartbeats 4000000
attribute [local irreducible] pEq

theorem trainTurns (hk : Pure prog 19 [] (.bool true)) {v : AV} {l : List (Int × Int)} (h : PL v l) : Pure prog 8 [v] (.bool true) := by
  have lv := h.no
  by_cases h8 : l.length ≤ 8
  · rcases train_all h with ⟨x, y, N, tv, aw⟩ | tn
    · obtain ⟨b, p1, rfl⟩ := turnsE_pure tv
      have p2 := aw.pa
      have p3 := aw.pr
      have p4 := tv.rT
      have p5 := tv.rtu
      have k3 := tv.k1
      obtain ⟨xs, rfl, lx⟩ := tv.sh
      generalize l.length = k at *
      obtain rfl | rfl | rfl : k = 1 ∨ k = 2 ∨ k = 3 := by omega
      all_goals
        refine pure_sym hE rfl (by repeat' (first | exact trivial | assumption | exact flat_no _ | exact (fun _ h => nomatch h) | apply And.intro)) (by repeat' (first | exact trivial | assumption | exact flat_no _ | exact (fun _ h => nomatch h) | apply And.intro)) fun S q pc hS hq hC hE => ?_
        conv => whnf
        repeat ((first
          | refine sym_pure hC (slim_yes (by decide)) ?_
          | refine sym_pure hC (p1) ?_
          | refine sym_pure hC (p2) ?_
          | refine sym_pure hC (p3) ?_
          | refine sym_pure hC (p4) ?_
          | refine sym_pure hC (p5) ?_
          | refine sym_drawn hS (by kernel_rfl) ?_
          | refine sym_eq hq true (eqBool_same _ _) ?_
          | rw [beq_self_eq_true]
          | rw [bne_self_eq_false]); conv => whnf)
        refine sym_eq hq true (eqFr_same _ _ _) ?_
        conv => whnf
        refine sym_eq hq true (eqBool_same _ _) ?_
        conv => whnf
        repeat ((first
          | refine sym_pure hC (p3) ?_
          | refine sym_pure hC (hk) ?_
          | refine sym_drawn hS (by kernel_rfl) ?_
          | refine sym_eq hq true (eqBool_same _ _) ?_
          | rw [beq_self_eq_true]
          | rw [bne_self_eq_false]); conv => whnf)
        exact ⟨_, rfl, Wk.refl _⟩
    · have p1 := turnsE_no tn
      have p2 := againE_no tn
      have p4 := tn.rT h8
      rcases tn.sh with ⟨rfl, _⟩ | ⟨xs, rfl, lx⟩
      all_goals
        refine pure_sym hE rfl (by repeat' (first | exact trivial | assumption | exact flat_no _ | exact (fun _ h => nomatch h) | apply And.intro)) (by repeat' (first | exact trivial | assumption | exact flat_no _ | exact (fun _ h => nomatch h) | apply And.intro)) fun S q pc hS hq hC hE => ?_
        conv => whnf
        repeat ((first
          | refine sym_pure hC (slim_yes (by omega)) ?_
          | refine sym_pure hC (p1) ?_
          | refine sym_pure hC (p2) ?_
          | refine sym_pure hC (p4) ?_
          | refine sym_drawn hS (by kernel_rfl) ?_
          | refine sym_eq hq true (eqBool_same _ _) ?_
          | rw [beq_self_eq_true]
          | rw [bne_self_eq_false]); conv => whnf)
        refine sym_eq hq true (eqFr_same _ _ _) ?_
        conv => whnf
        repeat ((first
          | refine sym_pure hC (hk) ?_
          | refine sym_drawn hS (by kernel_rfl) ?_
          | refine sym_eq hq true (eqBool_same _ _) ?_
          | rw [beq_self_eq_true]
          | rw [bne_self_eq_false]); conv => whnf)
        exact ⟨_, rfl, Wk.refl _⟩
  · rcases h with ⟨rfl, rfl⟩ | rfl
    · exact absurd (Nat.zero_le _) h8
    · refine pure_sym hE rfl (by repeat' (first | exact trivial | assumption | exact flat_no _ | exact (fun _ h => nomatch h) | apply And.intro)) (by repeat' (first | exact trivial | assumption | exact flat_no _ | exact (fun _ h => nomatch h) | apply And.intro)) fun S q pc hS hq hC hE => ?_
      conv => whnf
      repeat ((first
        | refine sym_pure hC (slim_not (by omega)) ?_
        | refine sym_pure hC (hk) ?_
        | refine sym_drawn hS (by kernel_rfl) ?_
        | refine sym_eq hq true (eqBool_same _ _) ?_
        | rw [beq_self_eq_true]
        | rw [bne_self_eq_false]); conv => whnf)
      exact ⟨_, rfl, Wk.refl _⟩

theorem trainWhole (hk : Pure prog 19 [] (.bool true)) {v : AV} {l : List (Int × Int)} (h : PL v l) (t : Int) : Pure prog 9 [v, iv t] (.bool true) := by
  have lv := h.no
  by_cases h8 : l.length ≤ 8
  · rcases train_all h with ⟨x, y, N, tv, aw⟩ | tn
    · have p2 := aw.pa
      have p4 := tv.rT
      have k3 := tv.k1
      have hN := aw.n1
      have p5 := aw.pw N hN.2 true ⟨fun _ => Nat.dvd_refl N, fun _ => rfl⟩
      have p6 := fun (n : Nat) (h1 : 1 ≤ n) (h2 : n < N) => aw.pw n (by omega) false (iff_of_false Bool.false_ne_true fun q => by have := Nat.le_of_dvd h1 q; omega)
      obtain ⟨xs, rfl, lx⟩ := tv.sh
      generalize l.length = k at *
      refine pure_sym hE rfl (by repeat' (first | exact trivial | assumption | exact flat_no _ | exact (fun _ h => nomatch h) | apply And.intro)) (by repeat' (first | exact trivial | assumption | exact flat_no _ | exact (fun _ h => nomatch h) | apply And.intro)) fun S q pc hS hq hC hE => ?_
      conv => whnf
      repeat ((first
        | refine sym_pure hC (slim_yes (by omega)) ?_
        | refine sym_pure hC (p4) ?_
        | refine sym_pure hC (p2) ?_
        | refine sym_drawn hS (by kernel_rfl) ?_
        | refine sym_eq hq true (eqBool_same _ _) ?_
        | rw [beq_self_eq_true]
        | rw [bne_self_eq_false]); conv => whnf)
      rw [show decide (Int.ofNat N < 1) = false from ltN_f (b := 1) (by omega)]
      conv => whnf
      rw [show decide (Int.ofNat N > 216000) = false from gtN_f (b := 216000) (by omega)]
      conv => whnf
      repeat ((first
        | refine sym_pure hC (p5) ?_
        | refine sym_drawn hS (by kernel_rfl) ?_
        | refine sym_eq hq true (eqBool_same _ _) ?_
        | rw [beq_self_eq_true]
        | rw [bne_self_eq_false]); conv => whnf)
      by_cases h1 : t < 1
      · rw [decide_eq_true h1]
        conv => whnf
        repeat ((first
          | refine sym_pure hC (hk) ?_
          | refine sym_drawn hS (by kernel_rfl) ?_
          | refine sym_eq hq true (eqBool_same _ _) ?_
          | rw [beq_self_eq_true]
          | rw [bne_self_eq_false]); conv => whnf)
        exact ⟨_, rfl, Wk.refl _⟩
      · rw [decide_eq_false h1]
        conv => whnf
        by_cases h2 : t ≥ Int.ofNat N
        · rw [decide_eq_true h2]
          conv => whnf
          repeat ((first
            | refine sym_pure hC (hk) ?_
            | refine sym_drawn hS (by kernel_rfl) ?_
            | refine sym_eq hq true (eqBool_same _ _) ?_
            | rw [beq_self_eq_true]
            | rw [bne_self_eq_false]); conv => whnf)
          exact ⟨_, rfl, Wk.refl _⟩
        · rw [decide_eq_false h2]
          conv => whnf
          obtain ⟨n, rfl, hn⟩ : ∃ n : Nat, t = Int.ofNat n ∧ 1 ≤ n := ⟨t.toNat, by show t = ((t.toNat : Nat) : Int); omega, by omega⟩
          have h2 : ¬ (N : Int) ≤ (n : Int) := h2
          refine sym_pure hC (p6 n hn (by omega)) ?_
          conv => whnf
          repeat ((first
            | refine sym_pure hC (hk) ?_
            | refine sym_drawn hS (by kernel_rfl) ?_
            | refine sym_eq hq true (eqBool_same _ _) ?_
            | rw [beq_self_eq_true]
            | rw [bne_self_eq_false]); conv => whnf)
          exact ⟨_, rfl, Wk.refl _⟩
    · have p4 := tn.rT h8
      rcases tn.sh with ⟨rfl, _⟩ | ⟨xs, rfl, lx⟩
      all_goals
        refine pure_sym hE rfl (by repeat' (first | exact trivial | assumption | exact flat_no _ | exact (fun _ h => nomatch h) | apply And.intro)) (by repeat' (first | exact trivial | assumption | exact flat_no _ | exact (fun _ h => nomatch h) | apply And.intro)) fun S q pc hS hq hC hE => ?_
        conv => whnf
        repeat ((first
          | refine sym_pure hC (slim_yes (by omega)) ?_
          | refine sym_pure hC (p4) ?_
          | refine sym_pure hC (hk) ?_
          | refine sym_drawn hS (by kernel_rfl) ?_
          | refine sym_eq hq true (eqBool_same _ _) ?_
          | rw [beq_self_eq_true]
          | rw [bne_self_eq_false]); conv => whnf)
        exact ⟨_, rfl, Wk.refl _⟩
  · rcases h with ⟨rfl, rfl⟩ | rfl
    · exact absurd (Nat.zero_le _) h8
    · refine pure_sym hE rfl (by repeat' (first | exact trivial | assumption | exact flat_no _ | exact (fun _ h => nomatch h) | apply And.intro)) (by repeat' (first | exact trivial | assumption | exact flat_no _ | exact (fun _ h => nomatch h) | apply And.intro)) fun S q pc hS hq hC hE => ?_
      conv => whnf
      repeat ((first
        | refine sym_pure hC (slim_not (by omega)) ?_
        | refine sym_pure hC (hk) ?_
        | refine sym_drawn hS (by kernel_rfl) ?_
        | refine sym_eq hq true (eqBool_same _ _) ?_
        | rw [beq_self_eq_true]
        | rw [bne_self_eq_false]); conv => whnf)
      exact ⟨_, rfl, Wk.refl _⟩
end Go.Abs.Seat
