/-
  The law TrainMore.
-/
import Derived.Test.YtpjclnoehlflcaaGreatDoorU14
/-! The law TrainMore. -/
namespace Go.Abs.Seat
open Go Go.Abs Go.Proofs.Tryz
set_option maxRecDepth 100000
set_option maxHeartbeats 40000000
attribute [local irreducible] IntKind.wrap pEq pSlice

theorem takeN_ivT : ∀ (l : List Int) (i : Nat), i ≤ l.length → takeN i (ivs l) = some (ivs (l.take i))
 | _, 0, _ => by rw [List.take_zero]; rfl
 | [], i + 1, h => absurd h (by simp)
 |x :: l, i + 1, h => by
  have := takeN_ivT l i (by simpa using h)
  show (match takeN i (ivs l) with | some r => some (iv x :: r) | none => none) = _
  rw [this]; rfl
abbrev widP (p a b : Int) (k : Nat) (pairs least most never : Int) : Prop := p ≤ pairs ∧ least ≤ a ∧ b ≤ most ∧ 0 ≤ never ∧ never ≤ (k : Int)
theorem wider_no {N : AV} {l : List Int} (hN : IL N l) (a b p s pairs least most never : Int) (h : ¬ widP p a b l.length pairs least most never) : Pure prog 42 [rv a b p s N, iv pairs, iv least, iv most, iv never] (.tup [rv 0 0 0 0 .nils, .bool false]) := by
 have lN := hN.no
 rcases hN with ⟨rfl, rfl⟩ | rfl
 ·refine pure_sym hE rfl (by repeat' (first | exact trivial | assumption | exact flat_no _ | exact (fun _ h => nomatch h) | apply And.intro)) (by repeat' (first | exact trivial | assumption | exact flat_no _ | exact (fun _ h => nomatch h) | apply And.intro)) fun S q pc hS hq hC hE => ?_
  conv => whnf
  by_cases h1 : pairs < p
  ·repeat ((first
    |refine ko_rT (decide_eq_true h1) ?_
    |refine ko_sF (decide_eq_true h1) ?_
    |refine plan_as (pick_t (decide_eq_true h1)) ?_
    |refine bool_true (decide_eq_true h1) ?_
    |refine sym_drawn hS (by kernel_rfl) ?_); conv => whnf)
   exact ⟨_, rfl, Wk.refl _⟩
  by_cases h2 : least > a
  ·have c1 : decide (pairs < p) = false := decide_eq_false h1
   repeat ((first
    |refine ko_sT c1 ?_
    |refine ko_rF c1 ?_
    |refine plan_as (pick_f c1) ?_
    |refine bool_false c1 ?_
    |refine ko_rT (decide_eq_true h2) ?_
    |refine ko_sF (decide_eq_true h2) ?_
    |refine plan_as (pick_t (decide_eq_true h2)) ?_
    |refine bool_true (decide_eq_true h2) ?_
    |refine sym_drawn hS (by kernel_rfl) ?_); conv => whnf)
   exact ⟨_, rfl, Wk.refl _⟩
  by_cases h3 : most < b
  ·have c1 : decide (pairs < p) = false := decide_eq_false h1
   have c2 : decide (least > a) = false := decide_eq_false h2
   repeat ((first
    |refine ko_sT c1 ?_
    |refine ko_rF c1 ?_
    |refine plan_as (pick_f c1) ?_
    |refine bool_false c1 ?_
    |refine ko_sT c2 ?_
    |refine ko_rF c2 ?_
    |refine plan_as (pick_f c2) ?_
    |refine bool_false c2 ?_
    |refine ko_rT (decide_eq_true h3) ?_
    |refine ko_sF (decide_eq_true h3) ?_
    |refine plan_as (pick_t (decide_eq_true h3)) ?_
    |refine bool_true (decide_eq_true h3) ?_
    |refine sym_drawn hS (by kernel_rfl) ?_); conv => whnf)
   exact ⟨_, rfl, Wk.refl _⟩
  by_cases h4 : never < 0
  ·have c1 : decide (pairs < p) = false := decide_eq_false h1
   have c2 : decide (least > a) = false := decide_eq_false h2
   have c3 : decide (most < b) = false := decide_eq_false h3
   repeat ((first
    |refine ko_sT c1 ?_
    |refine ko_rF c1 ?_
    |refine plan_as (pick_f c1) ?_
    |refine bool_false c1 ?_
    |refine ko_sT c2 ?_
    |refine ko_rF c2 ?_
    |refine plan_as (pick_f c2) ?_
    |refine bool_false c2 ?_
    |refine ko_sT c3 ?_
    |refine ko_rF c3 ?_
    |refine plan_as (pick_f c3) ?_
    |refine bool_false c3 ?_
    |refine ko_rT (decide_eq_true h4) ?_
    |refine ko_sF (decide_eq_true h4) ?_
    |refine plan_as (pick_t (decide_eq_true h4)) ?_
    |refine bool_true (decide_eq_true h4) ?_
    |refine sym_drawn hS (by kernel_rfl) ?_); conv => whnf)
   exact ⟨_, rfl, Wk.refl _⟩
  have c1 : decide (pairs < p) = false := decide_eq_false h1
  have c2 : decide (least > a) = false := decide_eq_false h2
  have c3 : decide (most < b) = false := decide_eq_false h3
  have c4 : decide (never < 0) = false := decide_eq_false h4
  have c5 : decide (never > 0) = true := decide_eq_true (by
   apply Classical.byContradiction
   intro h5
   exact h ⟨by omega, by omega, by omega, by omega, by show never ≤ 0; omega⟩)
  repeat ((first
   |refine ko_sT c1 ?_
   |refine ko_rF c1 ?_
   |refine plan_as (pick_f c1) ?_
   |refine bool_false c1 ?_
   |refine ko_sT c2 ?_
   |refine ko_rF c2 ?_
   |refine plan_as (pick_f c2) ?_
   |refine bool_false c2 ?_
   |refine ko_sT c3 ?_
   |refine ko_rF c3 ?_
   |refine plan_as (pick_f c3) ?_
   |refine bool_false c3 ?_
   |refine ko_sT c4 ?_
   |refine ko_rF c4 ?_
   |refine plan_as (pick_f c4) ?_
   |refine bool_false c4 ?_
   |refine ko_rT c5 ?_
   |refine ko_sF c5 ?_
   |refine plan_as (pick_t c5) ?_
   |refine bool_true c5 ?_
   |refine sym_drawn hS (by kernel_rfl) ?_); conv => whnf)
  exact ⟨_, rfl, Wk.refl _⟩
 ·refine pure_sym hE rfl (by repeat' (first | exact trivial | assumption | exact flat_no _ | exact (fun _ h => nomatch h) | apply And.intro)) (by repeat' (first | exact trivial | assumption | exact flat_no _ | exact (fun _ h => nomatch h) | apply And.intro)) fun S q pc hS hq hC hE => ?_
  conv => whnf
  by_cases h1 : pairs < p
  ·repeat ((first
    |refine ko_rT (decide_eq_true h1) ?_
    |refine ko_sF (decide_eq_true h1) ?_
    |refine plan_as (pick_t (decide_eq_true h1)) ?_
    |refine bool_true (decide_eq_true h1) ?_
    |refine sym_drawn hS (by kernel_rfl) ?_); conv => whnf)
   exact ⟨_, rfl, Wk.refl _⟩
  by_cases h2 : least > a
  ·have c1 : decide (pairs < p) = false := decide_eq_false h1
   repeat ((first
    |refine ko_sT c1 ?_
    |refine ko_rF c1 ?_
    |refine plan_as (pick_f c1) ?_
    |refine bool_false c1 ?_
    |refine ko_rT (decide_eq_true h2) ?_
    |refine ko_sF (decide_eq_true h2) ?_
    |refine plan_as (pick_t (decide_eq_true h2)) ?_
    |refine bool_true (decide_eq_true h2) ?_
    |refine sym_drawn hS (by kernel_rfl) ?_); conv => whnf)
   exact ⟨_, rfl, Wk.refl _⟩
  by_cases h3 : most < b
  ·have c1 : decide (pairs < p) = false := decide_eq_false h1
   have c2 : decide (least > a) = false := decide_eq_false h2
   repeat ((first
    |refine ko_sT c1 ?_
    |refine ko_rF c1 ?_
    |refine plan_as (pick_f c1) ?_
    |refine bool_false c1 ?_
    |refine ko_sT c2 ?_
    |refine ko_rF c2 ?_
    |refine plan_as (pick_f c2) ?_
    |refine bool_false c2 ?_
    |refine ko_rT (decide_eq_true h3) ?_
    |refine ko_sF (decide_eq_true h3) ?_
    |refine plan_as (pick_t (decide_eq_true h3)) ?_
    |refine bool_true (decide_eq_true h3) ?_
    |refine sym_drawn hS (by kernel_rfl) ?_); conv => whnf)
   exact ⟨_, rfl, Wk.refl _⟩
  by_cases h4 : never < 0
  ·have c1 : decide (pairs < p) = false := decide_eq_false h1
   have c2 : decide (least > a) = false := decide_eq_false h2
   have c3 : decide (most < b) = false := decide_eq_false h3
   repeat ((first
    |refine ko_sT c1 ?_
    |refine ko_rF c1 ?_
    |refine plan_as (pick_f c1) ?_
    |refine bool_false c1 ?_
    |refine ko_sT c2 ?_
    |refine ko_rF c2 ?_
    |refine plan_as (pick_f c2) ?_
    |refine bool_false c2 ?_
    |refine ko_sT c3 ?_
    |refine ko_rF c3 ?_
    |refine plan_as (pick_f c3) ?_
    |refine bool_false c3 ?_
    |refine ko_rT (decide_eq_true h4) ?_
    |refine ko_sF (decide_eq_true h4) ?_
    |refine plan_as (pick_t (decide_eq_true h4)) ?_
    |refine bool_true (decide_eq_true h4) ?_
    |refine sym_drawn hS (by kernel_rfl) ?_); conv => whnf)
   exact ⟨_, rfl, Wk.refl _⟩
  have c1 : decide (pairs < p) = false := decide_eq_false h1
  have c2 : decide (least > a) = false := decide_eq_false h2
  have c3 : decide (most < b) = false := decide_eq_false h3
  have c4 : decide (never < 0) = false := decide_eq_false h4
  have c5 : decide (never > (l.length : Int)) = true := decide_eq_true (by
   apply Classical.byContradiction
   intro h5
   exact h ⟨by omega, by omega, by omega, by omega, by omega⟩)
  repeat ((first
   |refine ko_sT c1 ?_
   |refine ko_rF c1 ?_
   |refine plan_as (pick_f c1) ?_
   |refine bool_false c1 ?_
   |refine ko_sT c2 ?_
   |refine ko_rF c2 ?_
   |refine plan_as (pick_f c2) ?_
   |refine bool_false c2 ?_
   |refine ko_sT c3 ?_
   |refine ko_rF c3 ?_
   |refine plan_as (pick_f c3) ?_
   |refine bool_false c3 ?_
   |refine ko_sT c4 ?_
   |refine ko_rF c4 ?_
   |refine plan_as (pick_f c4) ?_
   |refine bool_false c4 ?_
   |refine ko_rT c5 ?_
   |refine ko_sF c5 ?_
   |refine plan_as (pick_t c5) ?_
   |refine bool_true c5 ?_
   |refine sym_drawn hS (by kernel_rfl) ?_); conv => whnf)
  exact ⟨_, rfl, Wk.refl _⟩
theorem wider_yes {N : AV} {l : List Int} (hN : IL N l) (a b p s pairs least most : Int) (k : Nat) (h : widP p a b l.length pairs least most (Int.ofNat k)) {r : Bool} (hr : ∀ N', IL N' (l.take k) → Pure prog 32 [rv least most pairs s N'] (.bool r)) : ∃ N', IL N' (l.take k) ∧ Pure prog 42 [rv a b p s N, iv pairs, iv least, iv most, nv k] (.tup [rv least most pairs s N', .bool r]) := by
 obtain ⟨g1, g2, g3, g4, g5⟩ := h
 have lN := hN.no
 have hk : k ≤ l.length := by
  have g5 : (k : Int) ≤ (l.length : Int) := g5
  omega
 have c1 : decide (pairs < p) = false := decide_eq_false (by omega)
 have c2 : decide (least > a) = false := decide_eq_false (by omega)
 have c3 : decide (most < b) = false := decide_eq_false (by omega)
 have c4 : decide (Int.ofNat k < 0) = false := decide_eq_false (by omega)
 rcases hN with ⟨rfl, rfl⟩ | rfl
 ·have hk0 : k = 0 := by simpa using hk
  subst hk0
  have hr := hr .nils (.inl ⟨rfl, rfl⟩)
  refine ⟨.nils, .inl ⟨rfl, rfl⟩, ?_⟩
  refine pure_sym hE rfl (by repeat' (first | exact trivial | assumption | exact flat_no _ | exact (fun _ h => nomatch h) | apply And.intro)) (by repeat' (first | exact trivial | assumption | exact flat_no _ | exact (fun _ h => nomatch h) | apply And.intro)) fun S q pc hS hq hC hE => ?_
  conv => whnf
  repeat ((first
   |refine ko_sT c1 ?_
   |refine ko_rF c1 ?_
   |refine plan_as (pick_f c1) ?_
   |refine bool_false c1 ?_
   |refine ko_sT c2 ?_
   |refine ko_rF c2 ?_
   |refine plan_as (pick_f c2) ?_
   |refine bool_false c2 ?_
   |refine ko_sT c3 ?_
   |refine ko_rF c3 ?_
   |refine plan_as (pick_f c3) ?_
   |refine bool_false c3 ?_
   |refine sym_drawn hS (by kernel_rfl) ?_); conv => whnf)
  with_unfolding_all (conv => whnf)
  repeat ((first
   |refine sym_pure hC (hr) ?_
   |refine sym_drawn hS (by kernel_rfl) ?_
   |refine sym_eq hq true (eqBool_same _ _) ?_
   |rw [beq_self_eq_true]
   |rw [bne_self_eq_false]); conv => whnf)
  exact ⟨_, rfl, Wk.refl _⟩
 ·have e : nl (l.take k) = .lst (ivs (l.take k)) k .no := by show AV.lst _ (l.take k).length .no = _; rw [List.length_take, Nat.min_eq_left hk]
  have hr := hr (nl (l.take k)) (.inr rfl)
  have ht := takeN_ivT l k hk
  have lk := ivs_no (l.take k)
  refine ⟨nl (l.take k), .inr rfl, ?_⟩
  rw [e] at hr ⊢
  have c5 : decide (Int.ofNat k > (l.length : Int)) = false := decide_eq_false (by show ¬ (k : Int) > _; omega)
  refine pure_sym hE rfl (by repeat' (first | exact trivial | assumption | exact flat_no _ | exact (fun _ h => nomatch h) | apply And.intro)) (by repeat' (first | exact trivial | assumption | exact flat_no _ | exact (fun _ h => nomatch h) | apply And.intro)) fun S q pc hS hq hC hE => ?_
  conv => whnf
  repeat ((first
   |refine ko_sT c1 ?_
   |refine ko_rF c1 ?_
   |refine plan_as (pick_f c1) ?_
   |refine bool_false c1 ?_
   |refine ko_sT c2 ?_
   |refine ko_rF c2 ?_
   |refine plan_as (pick_f c2) ?_
   |refine bool_false c2 ?_
   |refine ko_sT c3 ?_
   |refine ko_rF c3 ?_
   |refine plan_as (pick_f c3) ?_
   |refine bool_false c3 ?_
   |refine ko_sT c4 ?_
   |refine ko_rF c4 ?_
   |refine plan_as (pick_f c4) ?_
   |refine bool_false c4 ?_
   |refine ko_sT c5 ?_
   |refine ko_rF c5 ?_
   |refine plan_as (pick_f c5) ?_
   |refine bool_false c5 ?_
   |refine sym_drawn hS (by kernel_rfl) ?_); conv => whnf)
  refine plan_as (slice_to (e := 3) (inf := t3) (h := k) (ys := ivs (l.take k)) (by kernel_rfl) (by kernel_rfl) rfl hk (by rw [show t3.size = 1 from rfl, Nat.mul_one]; exact ht)) ?_
  conv => whnf
  repeat ((first
   |refine sym_pure hC (hr) ?_
   |refine sym_drawn hS (by kernel_rfl) ?_
   |refine sym_eq hq true (eqBool_same _ _) ?_
   |rw [beq_self_eq_true]
   |rw [bne_self_eq_false]); conv => whnf)
  exact ⟨_, rfl, Wk.refl _⟩
theorem RT_wide {a b p a' b' p' k : Nat} {s : Int} {l : List Int} (h1 : p ≤ p') (h2 : a' ≤ a) (h3 : b ≤ b') {t : List (Nat × Nat)} (h : RT (tp a b l) p (mny p s) t) : RT (tp a' b' (l.take k)) p' (mny p' s) t := by
 have ht : ∀ n, tp a b l n → tp a' b' (l.take k) n := fun n hn => by
  have hg := tp_ge hn
  exact ⟨fun e => hn.1 (List.mem_of_mem_take e), by show (a' : Int) ≤ (n : Int); omega, by show (n : Int) ≤ (b' : Int); omega⟩
 obtain ⟨⟨g1, g2⟩, g3, g4⟩ := h
 refine ⟨⟨g1, by omega⟩, ⟨⟨by omega, by show (t.length : Int) ≤ (p' : Int); omega⟩, g3.2⟩, rfl, ?_, g4.ch⟩
 have := g4.all
 clear g1 g2 g3 g4
 induction t with
 |nil => trivial
 |cons q r ih => exact ⟨⟨ht _ this.1.1, ht _ this.1.2⟩, ih this.2⟩
theorem trainMore_yes (hk : Pure prog 16 [] (.bool true)) (a b p n d : Nat) (s pairs least most never : Int) {N : AV} {l : List Int} (hN : IL N l) (h8 : l.length ≤ 8) (ho : rOk (Int.ofNat a) (Int.ofNat b) (Int.ofNat p) s l) (hf : isF (Int.ofNat n) (Int.ofNat d)) :
  Pure prog 10 [rv (Int.ofNat a) (Int.ofNat b) (Int.ofNat p) s N, fv (Int.ofNat n) (Int.ofNat d), iv pairs, iv least, iv most, iv never] (.bool true) := by
 obtain ⟨a', b', p', n', d', e1, e2, e3, e4, e5, h1, h2, h3, h4, h5, h6, h7⟩ := rf_nat ho hf
 cases e1; cases e2; cases e3; cases e4; cases e5
 have hs : -9223372036854775808 ≤ s ∧ s < 9223372036854775808 := by omega
 obtain ⟨pP, _⟩ := near_both hN (by omega) a b p n d s ho hf
 have hbo := nrT_bo (lets := mny p s) (N := n) (fun x hx => tp_le (a := a) (b := b) (l := l) (by omega) h3 hx) h7.1 p
 have rR := rRule_pure hN (by omega) (Int.ofNat a) (Int.ofNat b) (Int.ofNat p) s (r := true) ⟨fun _ => ho, fun _ => rfl⟩
 have rF := rFraction_pure (Int.ofNat n) (Int.ofNat d)
 rw [decide_eq_true hf] at rF
 have lN := hN.no
 have lO := nV_no (nrT (tp a b l) p (mny p s) n d)
 by_cases hW : widP (Int.ofNat p) (Int.ofNat a) (Int.ofNat b) l.length pairs least most never
 ·obtain ⟨k, rfl⟩ : ∃ k : Nat, never = Int.ofNat k := ⟨never.toNat, by have := hW.2.2.2.1; show never = ((never.toNat : Nat) : Int); omega⟩
  have hcl := Classical.propDecidable (rOk least most pairs s (l.take k))
  obtain ⟨N', hN', pW⟩ := wider_yes hN _ _ _ s pairs least most k hW (r := decide (rOk least most pairs s (l.take k))) (fun N' hN' => rRule_pure hN' (by rw [List.length_take]; omega) least most pairs s decide_eq_true_iff)
  have lN' := hN'.no
  by_cases hx : rOk least most pairs s (l.take k)
  ·rw [decide_eq_true hx] at pW
   obtain ⟨a', b', p', n', d', rfl, rfl, rfl, e4, e5, g1, g2, g3, g4, _⟩ := rf_nat hx hf
   clear e4 e5 hcl
   obtain ⟨pX, _⟩ := near_both hN' (by rw [List.length_take]; omega) a' b' p' n d s hx hf
   have hbx := nrT_bo (lets := mny p' s) (N := n) (fun x hx => tp_le (a := a') (b := b') (l := l.take k) (by omega) g3 hx) h7.1 p'
   generalize nrT (tp a b l) p (mny p s) n d = o at *
   generalize nrT (tp a' b' (l.take k)) p' (mny p' s) n d = o' at *
   rcases o with _ | t
   ·rcases o' with _ | _ | ⟨q', r'⟩
    all_goals
     rcases hN.cs with rfl | rfl <;> rcases hN'.cs with rfl | rfl
     all_goals
      refine pure_sym hE rfl (by repeat' (first | exact trivial | assumption | exact flat_no _ | exact (fun _ h => nomatch h) | apply And.intro)) (by repeat' (first | exact trivial | assumption | exact flat_no _ | exact (fun _ h => nomatch h) | apply And.intro)) fun S q pc hS hq hC hE => ?_
      conv => whnf
      repeat ((first
       |refine sym_pure hC (slim_yes (by omega)) ?_
       |refine sym_pure hC (rR) ?_
       |refine sym_pure hC (rF) ?_
       |refine sym_pure hC (pW) ?_
       |refine sym_pure hC (pP) ?_
       |refine sym_pure hC (hk) ?_
       |refine sym_drawn hS (by kernel_rfl) ?_
       |refine sym_eq hq true (eqBool_same _ _) ?_
       |rw [beq_self_eq_true]
       |rw [bne_self_eq_false]); conv => whnf)
      exact ⟨_, rfl, Wk.refl _⟩
   ·have hB : Bst (tp a b l) p (mny p s) n d t := hbo
    have hT := hB.1
    have hTx : RT (tp a' b' (l.take k)) p' (mny p' s) t := RT_wide (Int.ofNat_le.1 hW.1) (Int.ofNat_le.1 hW.2.1) (Int.ofNat_le.1 hW.2.2.1) hT
    rcases o' with _ | u
    ·exact absurd hTx (hbx t)
    ·have hX : Bst (tp a' b' (l.take k)) p' (mny p' s) n d u := hbx
     have hU := hX.1
     have lu3 := hU.1
     have lt3 := hT.1
     have hpos : ∀ x, tp a b l x → 1 ≤ x := fun x hx => by have := tp_ge hx; omega
     have hpos' : ∀ x, tp a' b' (l.take k) x → 1 ≤ x := fun x hx => by have := tp_ge hx; omega
     have tt := tv_zp (tq := tp a b l) (fun x hx => (⟨Nat.le_trans h1 (tp_ge hx).1, Nat.le_trans (tp_ge hx).2 h3⟩ : 4 ≤ x ∧ x ≤ 60)) (by omega) hT.2.2.all
     have tu := tv_zp (tq := tp a' b' (l.take k)) (fun x hx => (⟨Nat.le_trans g1 (tp_ge hx).1, Nat.le_trans (tp_ge hx).2 g3⟩ : 4 ≤ x ∧ x ≤ 60)) (by omega) hU.2.2.all
     have yt := yP_pos hpos hT.2.2.all
     have yu := yP_pos hpos' hU.2.2.all
     have pN := nearer_pure tu tt n d h6 h7
     have hle : farN n d (redF (xP u) (yP u)).1 (redF (xP u) (yP u)).2 (redF (xP t) (yP t)).2 ≤ farN n d (redF (xP t) (yP t)).1 (redF (xP t) (yP t)).2 (redF (xP u) (yP u)).2 := (near_fle (N := n) (D := d) yu yt).2 (hX.fle hTx)
     clear tt tu
     have lu := flat_no (zp u)
     have ltt := flat_no (zp t)
     have eT : trA t = pv (zp t) := trA_ne (fun e => by rw [e] at lt3; exact absurd lt3.1 (by decide))
     have eU : trA u = pv (zp u) := trA_ne (fun e => by rw [e] at lu3; exact absurd lu3.1 (by decide))
     have pP : Pure prog 34 [rv (Int.ofNat a) (Int.ofNat b) (Int.ofNat p) s N, fv (Int.ofNat n) (Int.ofNat d)] (.tup [trA t, iv 0]) := pP
     have pX : Pure prog 34 [rv (Int.ofNat a') (Int.ofNat b') (Int.ofNat p') s N', fv (Int.ofNat n) (Int.ofNat d)] (.tup [trA u, iv 0]) := pX
     rw [eT] at pP
     rw [eU] at pX
     generalize farN n d (redF (xP u) (yP u)).1 (redF (xP u) (yP u)).2 (redF (xP t) (yP t)).2 = A at *
     generalize farN n d (redF (xP t) (yP t)).1 (redF (xP t) (yP t)).2 (redF (xP u) (yP u)).2 = B at *
     by_cases h : A < B
     ·rw [ordI_m h] at pN
      rcases hN.cs with rfl | rfl <;> rcases hN'.cs with rfl | rfl
      all_goals
       refine pure_sym hE rfl (by repeat' (first | exact trivial | assumption | exact flat_no _ | exact (fun _ h => nomatch h) | apply And.intro)) (by repeat' (first | exact trivial | assumption | exact flat_no _ | exact (fun _ h => nomatch h) | apply And.intro)) fun S q pc hS hq hC hE => ?_
       conv => whnf
       repeat ((first
        |refine sym_pure hC (slim_yes (by omega)) ?_
        |refine sym_pure hC (rR) ?_
        |refine sym_pure hC (rF) ?_
        |refine sym_pure hC (pW) ?_
        |refine sym_pure hC (pP) ?_
        |refine sym_pure hC (pX) ?_
        |refine sym_pure hC (pN) ?_
        |refine sym_pure hC (hk) ?_
        |refine sym_drawn hS (by kernel_rfl) ?_
        |refine sym_eq hq true (eqBool_same _ _) ?_
        |rw [beq_self_eq_true]
        |rw [bne_self_eq_false]); conv => whnf)
       exact ⟨_, rfl, Wk.refl _⟩
     ·rw [ordI_z (show A = B by omega)] at pN
      rcases hN.cs with rfl | rfl <;> rcases hN'.cs with rfl | rfl
      all_goals
       refine pure_sym hE rfl (by repeat' (first | exact trivial | assumption | exact flat_no _ | exact (fun _ h => nomatch h) | apply And.intro)) (by repeat' (first | exact trivial | assumption | exact flat_no _ | exact (fun _ h => nomatch h) | apply And.intro)) fun S q pc hS hq hC hE => ?_
       conv => whnf
       repeat ((first
        |refine sym_pure hC (slim_yes (by omega)) ?_
        |refine sym_pure hC (rR) ?_
        |refine sym_pure hC (rF) ?_
        |refine sym_pure hC (pW) ?_
        |refine sym_pure hC (pP) ?_
        |refine sym_pure hC (pX) ?_
        |refine sym_pure hC (pN) ?_
        |refine sym_pure hC (hk) ?_
        |refine sym_drawn hS (by kernel_rfl) ?_
        |refine sym_eq hq true (eqBool_same _ _) ?_
        |rw [beq_self_eq_true]
        |rw [bne_self_eq_false]); conv => whnf)
       exact ⟨_, rfl, Wk.refl _⟩
  ·rw [decide_eq_false hx] at pW
   clear hcl
   generalize nrT (tp a b l) p (mny p s) n d = o at *
   rcases o with _ | _ | ⟨q, r⟩
   all_goals
    rcases hN.cs with rfl | rfl <;> rcases hN'.cs with rfl | rfl
    all_goals
     refine pure_sym hE rfl (by repeat' (first | exact trivial | assumption | exact flat_no _ | exact (fun _ h => nomatch h) | apply And.intro)) (by repeat' (first | exact trivial | assumption | exact flat_no _ | exact (fun _ h => nomatch h) | apply And.intro)) fun S q pc hS hq hC hE => ?_
     conv => whnf
     repeat ((first
      |refine sym_pure hC (slim_yes (by omega)) ?_
      |refine sym_pure hC (rR) ?_
      |refine sym_pure hC (rF) ?_
      |refine sym_pure hC (pW) ?_
      |refine sym_pure hC (pP) ?_
      |refine sym_pure hC (hk) ?_
      |refine sym_drawn hS (by kernel_rfl) ?_
      |refine sym_eq hq true (eqBool_same _ _) ?_
      |rw [beq_self_eq_true]
      |rw [bne_self_eq_false]); conv => whnf)
     exact ⟨_, rfl, Wk.refl _⟩
 ·have pW := wider_no hN _ _ _ s pairs least most never hW
  generalize nrT (tp a b l) p (mny p s) n d = o at *
  rcases o with _ | _ | ⟨q, r⟩
  all_goals
   rcases hN.cs with rfl | rfl
   all_goals
    refine pure_sym hE rfl (by repeat' (first | exact trivial | assumption | exact flat_no _ | exact (fun _ h => nomatch h) | apply And.intro)) (by repeat' (first | exact trivial | assumption | exact flat_no _ | exact (fun _ h => nomatch h) | apply And.intro)) fun S q pc hS hq hC hE => ?_
    conv => whnf
    repeat ((first
     |refine sym_pure hC (slim_yes (by omega)) ?_
     |refine sym_pure hC (rR) ?_
     |refine sym_pure hC (rF) ?_
     |refine sym_pure hC (pW) ?_
     |refine sym_pure hC (pP) ?_
     |refine sym_pure hC (hk) ?_
     |refine sym_drawn hS (by kernel_rfl) ?_
     |refine sym_eq hq true (eqBool_same _ _) ?_
     |rw [beq_self_eq_true]
     |rw [bne_self_eq_false]); conv => whnf)
    exact ⟨_, rfl, Wk.refl _⟩
theorem trainMore (hk : Pure prog 16 [] (.bool true)) (a b p s : Int) (hs : -9223372036854775808 ≤ s ∧ s < 9223372036854775808) {N : AV} {l : List Int} (hN : IL N l) (n d pairs least most never : Int) :
  Pure prog 10 [rv a b p s N, fv n d, iv pairs, iv least, iv most, iv never] (.bool true) := by
 have lN := hN.no
 by_cases h8 : l.length ≤ 8
 ·obtain ⟨bR, iR, rR, eR⟩ := rule_b hN (by omega) a b p s hs
  obtain ⟨bF, eF, rF⟩ : ∃ bF, (bF = true ↔ isF n d) ∧ Pure prog 19 [fv n d] (.bool bF) := ⟨decide (isF n d), decide_eq_true_iff, rFraction_pure n d⟩
  by_cases hall : (bR && bF) = true
  ·simp only [Bool.and_eq_true] at hall
   obtain ⟨rfl, rfl⟩ := hall
   have ho := eR.1 rfl
   have hf := eF.1 rfl
   obtain ⟨a, b, p, n, d, rfl, rfl, rfl, rfl, rfl, _⟩ := rf_nat ho hf
   exact trainMore_yes hk a b p n d s pairs least most never hN h8 ho hf
  ·have pW := hk
   have pP := hk
   clear eR eF iR
   rcases hN with ⟨rfl, rfl⟩ | rfl <;> cases bR <;> cases bF
   all_goals first
    |exact absurd rfl hall
    |skip
     refine pure_sym hE rfl (by repeat' (first | exact trivial | assumption | exact flat_no _ | exact (fun _ h => nomatch h) | apply And.intro)) (by repeat' (first | exact trivial | assumption | exact flat_no _ | exact (fun _ h => nomatch h) | apply And.intro)) fun S q pc hS hq hC hE => ?_
     conv => whnf
     repeat ((first
      |refine sym_pure hC (slim_yes (by omega)) ?_
      |refine sym_pure hC (rR) ?_
      |refine sym_pure hC (rF) ?_
      |refine sym_pure hC (pW) ?_
      |refine sym_pure hC (pP) ?_
      |refine sym_pure hC (hk) ?_
      |refine sym_drawn hS (by kernel_rfl) ?_
      |refine sym_eq hq true (eqBool_same _ _) ?_
      |rw [beq_self_eq_true]
      |rw [bne_self_eq_false]); conv => whnf)
     exact ⟨_, rfl, Wk.refl _⟩
 ·rcases hN with ⟨rfl, rfl⟩ | rfl
  ·exact absurd (Nat.zero_le _) h8
  ·refine pure_sym hE rfl (by repeat' (first | exact trivial | assumption | exact flat_no _ | exact (fun _ h => nomatch h) | apply And.intro)) (by repeat' (first | exact trivial | assumption | exact flat_no _ | exact (fun _ h => nomatch h) | apply And.intro)) fun S q pc hS hq hC hE => ?_
   conv => whnf
   repeat ((first
    |refine sym_pure hC (slim_not (by omega)) ?_
    |refine sym_pure hC (hk) ?_
    |refine sym_drawn hS (by kernel_rfl) ?_
    |refine sym_eq hq true (eqBool_same _ _) ?_
    |rw [beq_self_eq_true]
    |rw [bne_self_eq_false]); conv => whnf)
   exact ⟨_, rfl, Wk.refl _⟩
end Go.Abs.Seat
