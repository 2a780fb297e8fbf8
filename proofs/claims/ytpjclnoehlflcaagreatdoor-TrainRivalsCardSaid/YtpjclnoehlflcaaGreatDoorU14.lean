/-
  The program's nearest train, whatever the rule.
  The law TrainFits.
  The nearest train: what both sides return, of whatever rules and fractions.
-/
import Derived.Test.YtpjclnoehlflcaaGreatDoorT60
import Derived.Test.YtpjclnoehlflcaaGreatDoorT53
import Derived.Test.YtpjclnoehlflcaaGreatDoorT59
import Derived.Test.YtpjclnoehlflcaaGreatDoorU8
import Derived.Test.YtpjclnoehlflcaaGreatDoorU7
/-! The program's nearest train, whatever the rule. -/
namespace Go.Abs.Seat
noncomputable section
open Go Go.Abs Go.Proofs.Tryz
set_option maxRecDepth 100000
set_option maxHeartbeats 40000000
attribute [local irreducible] IntKind.wrap pEq

theorem eS_len : ∀ p, (eS p).length = p + 1
 | 0 => rfl
 |p + 1 => by rw [eS, List.length_append, eS_len p]; rfl
theorem eS_nth : ∀ (p k : Nat), k < p → nth (eS p) (k + 1) = some .nils
 |p + 1, k, h => by
  rw [nth_eq, eS]
  by_cases e : k = p
  ·subst e
   rw [List.getElem?_append_right (by rw [eS_len]; omega), eS_len, Nat.sub_self]
   rfl
  ·rw [List.getElem?_append_left (by rw [eS_len]; omega), ← nth_eq]
   exact eS_nth p k (by omega)
theorem nearE_pure {N : AV} {l : List Int} (hN : IL N l) (a b s : Int) (p k : Nat) (hk : k < p) (n d : Int) : Pure prog 134 [whE a b p s N, nv (k + 1), fv n d] (.tup [.nils, fv 0 0]) := by
 have lN := hN.no
 have lE := whE_no (a := a) (b := b) (s := s) (p := p) lN
 have lS := eS_no p
 unfold whE at lE ⊢
 rcases hN.cs with rfl | rfl
 all_goals
  refine pure_sym hE rfl (by repeat' (first | exact trivial | assumption | exact flat_no _ | exact (fun _ h => nomatch h) | apply And.intro)) (by repeat' (first | exact trivial | assumption | exact flat_no _ | exact (fun _ h => nomatch h) | apply And.intro)) fun S q pc hS hq hC hE => ?_
  conv => whnf
  refine bool_true (inR_t (show k + 1 < p + 1 by omega)) ?_
  conv => whnf
  refine plan_as (nthP (show nth (eS p) ((k + 1) * 1) = some .nils by rw [Nat.mul_one]; exact eS_nth p k hk)) ?_
  conv => whnf
  refine sym_unroll hE hS ?_
  conv => whnf
  refine sym_drawn hS (by kernel_rfl) ?_
  conv => whnf
  exact ⟨_, rfl, Wk.refl _⟩
theorem nearestE_pure {N : AV} {l : List Int} (hN : IL N l) (a b s : Int) (p : Nat) (hp : p ≤ 3) (n d : Int) : Pure prog 94 [whE a b p s N, fv n d] (.tup [.nils, .bool false]) := by
 have lN := hN.no
 have lE := whE_no (a := a) (b := b) (s := s) (p := p) lN
 have lS := eS_no p
 have pn := fun k (hk : k < p) => nearE_pure hN a b s p k hk n d
 unfold whE at lE pn ⊢
 rcases hN.cs with rfl | rfl
 all_goals
  refine pure_sym hE rfl (by repeat' (first | exact trivial | assumption | exact flat_no _ | exact (fun _ h => nomatch h) | apply And.intro)) (by repeat' (first | exact trivial | assumption | exact flat_no _ | exact (fun _ h => nomatch h) | apply And.intro)) fun S q pc hS hq hC hE => ?_
  conv => whnf
  refine sym_loopG hE hS (A := Nat) [2, 3] (fun k => [(6, .nils), (7, nv (k + 1))]) (fun _ => []) (fun _ => []) (fun k => k ≤ p) (fun k => p - k) 0 (Nat.le_of_ble_eq_true rfl) rfl (by refine ⟨rfl, rfl, rfl, rfl, rfl, rfl, 2, rfl, ?_, ?_⟩ <;> repeat' (first | exact trivial | exact rfl | exact ⟨_, rfl, WkV.refl _⟩ | exact ⟨_, rfl, WkV.own _ _ _⟩ | exact Nat.zero_le _ | exact bdl_no lS | exact Nat.le_of_ble_eq_true rfl | exact bdl_no (by assumption) | exact bdl_no (flat_no _) | exact bdl_no (ivs_no _) | exact bdl_no (svs_no _) | exact Nat.max_le.2 ⟨Nat.le_of_ble_eq_true rfl, bdl_no (ivs_no _)⟩ | exact Nat.max_le.2 ⟨Nat.le_of_ble_eq_true rfl, bdl_no (svs_no _)⟩ | apply And.intro)) (Nat.zero_le _) ?_
  intro k hk M hM
  obtain rfl : M = 2 := hM
  have hi1 : k < p → IntKind.i64.wrap (Int.ofNat (k + 1) + 1) = Int.ofNat (k + 1 + 1) := fun h => wrapN (m := k + 1 + 1) (by omega)
  conv => whnf
  by_cases hk2 : k < p
  ·have c1 : decide (Int.ofNat (k + 1) ≤ Int.ofNat p) = true := decide_eq_true (by show ((k + 1 : Nat) : Int) ≤ (p : Int); omega)
   have pk := pn k hk2
   repeat ((first
    |refine ko_rT c1 ?_
    |refine ko_sF c1 ?_
    |refine plan_as (pick_t c1) ?_
    |refine bool_true c1 ?_
    |refine sym_pure hC (pk) ?_
    |refine sym_drawn hS (by kernel_rfl) ?_); conv => whnf)
   exact ⟨k + 1, hk2, by omega, Nat.le_refl _, (by refine ⟨rfl, rfl, rfl, rfl, rfl, rfl, 2, rfl, ?_, ?_⟩ <;> repeat' (first | exact trivial | exact rfl | exact ⟨_, rfl, WkV.refl _⟩ | exact ⟨_, rfl, WkV.own _ _ _⟩ | exact Nat.zero_le _ | exact ⟨_, rfl, WkV.int (hi1 hk2)⟩ | exact bdl_no lS | exact Nat.le_of_ble_eq_true rfl | exact bdl_no (by assumption) | exact bdl_no (flat_no _) | exact bdl_no (ivs_no _) | exact bdl_no (svs_no _) | exact Nat.max_le.2 ⟨Nat.le_of_ble_eq_true rfl, bdl_no (ivs_no _)⟩ | exact Nat.max_le.2 ⟨Nat.le_of_ble_eq_true rfl, bdl_no (svs_no _)⟩ | apply And.intro))⟩
  ·have c1 : decide (Int.ofNat (k + 1) ≤ Int.ofNat p) = false := decide_eq_false (by show ¬ ((k + 1 : Nat) : Int) ≤ (p : Int); omega)
   repeat ((first
    |refine ko_sT c1 ?_
    |refine ko_rF c1 ?_
    |refine plan_as (pick_f c1) ?_
    |refine bool_false c1 ?_
    |refine sym_drawn hS (by kernel_rfl) ?_); conv => whnf)
   refine .inl ?_
   conv => whnf
   repeat ((first
    |refine ko_sT c1 ?_
    |refine ko_rF c1 ?_
    |refine plan_as (pick_f c1) ?_
    |refine bool_false c1 ?_
    |refine sym_pure hC (bestF_nils) ?_
    |refine sym_drawn hS (by kernel_rfl) ?_); conv => whnf)
   exact ⟨_, rfl, Wk.refl _⟩

theorem zl_snoc (l : List Nat) (q : Nat) : zl (l ++ [q]) = zl l ++ [Int.ofNat q] := by
 unfold zl
 rw [List.map_append]; rfl
theorem lstP_tth (a b : Nat) (l : List Int) : ∀ k, k ≤ b + 1 - a → a ≤ b → zl (lstP (tp a b l) (a + k)) = tth_l l a k
 | 0, _, _ => by
  have : lstP (tp a b l) (a + 0) = [] := by
   rw [List.eq_nil_iff_forall_not_mem]
   intro x hx
   have h := (lstP_mem _ _ _).1 hx
   have := tp_ge h.2
   omega
  rw [this]; rfl
 |k + 1, hk, hab => by
  have ih := lstP_tth a b l k (by omega) hab
  rw [show a + (k + 1) = a + k + 1 by omega, show lstP (tp a b l) (a + k + 1) = @ite _ (tp a b l (a + k)) (Classical.propDecidable _) (lstP (tp a b l) (a + k) ++ [a + k]) (lstP (tp a b l) (a + k)) from rfl, tth_l]
  by_cases h : Int.ofNat (a + k) ∈ l
  ·rw [if_pos h, if_neg (fun z : tp a b l (a + k) => z.1 h)]
   exact ih
  ·rw [if_neg h, if_pos (show tp a b l (a + k) from ⟨h, by show (a : Int) ≤ ((a + k : Nat) : Int); omega, by show ((a + k : Nat) : Int) ≤ (b : Int); omega⟩), zl_snoc, ih]
abbrev tL (a b : Nat) (l : List Int) : List Nat := lstP (tp a b l) (b + 1)
theorem tL_zl {a b : Nat} (l : List Int) (hab : a ≤ b) : zl (tL a b l) = tth_l l a (b + 1 - a) := by
 have := lstP_tth a b l (b + 1 - a) (Nat.le_refl _) hab
 rwa [show a + (b + 1 - a) = b + 1 by omega] at this
theorem tL_mem {a b : Nat} {l : List Int} : (fun n => n ∈ tL a b l) = tp a b l := funext fun n => propext ⟨fun h => ((lstP_mem _ _ _).1 h).2, fun h => (lstP_mem _ _ _).2 ⟨by have := tp_ge h; omega, h⟩⟩
theorem tL_len {a b : Nat} (l : List Int) (hab : a ≤ b) (ha : 4 ≤ a) (hb : b ≤ 60) : (tL a b l).length ≤ 60 := by
 have h := congrArg List.length (tL_zl l hab)
 rw [zl_len] at h
 have := tth_len l a (b + 1 - a)
 omega
theorem RT_lets {tq : Nat → Prop} {P : Nat} {f g : Nat → Prop} (h : ∀ k, 1 ≤ k → k ≤ P → (f k ↔ g k)) : RT tq P f = RT tq P g := funext fun _ => propext ⟨fun ⟨h1, h2, h3⟩ => ⟨h1, (h _ h1.1 h1.2).1 h2, h3⟩, fun ⟨h1, h2, h3⟩ => ⟨h1, (h _ h1.1 h1.2).2 h2, h3⟩⟩
theorem nrT_lets {tq : Nat → Prop} {P : Nat} {f g : Nat → Prop} {n d : Nat} (h : ∀ k, 1 ≤ k → k ≤ P → (f k ↔ g k)) : nrT tq P f n d = nrT tq P g n d := by
 have e := RT_lets (tq := tq) h
 have : BO tq P f n d = BO tq P g n d := by
  funext o
  cases o with
  |none => show (∀ t, ¬ RT tq P f t) = (∀ t, ¬ RT tq P g t); rw [e]
  |some t => show Bst tq P f n d t = Bst tq P g n d t; unfold Bst; rw [e]
 unfold nrT
 rw [this]
theorem nrT_none {tq : Nat → Prop} {P : Nat} {f : Nat → Prop} {n d : Nat} (h : ∀ x, ¬ tq x) : nrT tq P f n d = none := nrT_eq (o := none) fun t ht => by
 have h1 := ht.1
 have h2 := ht.2.2.all
 cases t with
 |nil => exact absurd h1.1 (by decide)
 |cons p r => exact h _ h2.1.1

def nV : Option (List (Nat × Nat)) → AV
 |none => .tup [.nils, iv 5]
 |some t => .tup [trA t, iv 0]
theorem nV_no (o : Option (List (Nat × Nat))) : Live noL (nV o) := by
 cases o with
 |none => exact ⟨trivial, trivial, trivial⟩
 |some t => exact ⟨trA_no t, trivial, trivial⟩
theorem pNearest_pure {N : AV} {l : List Int} (hN : IL N l) (hl : l.length < 4611686018427387904) (a b : Nat) (ha : 4 ≤ a) (hab : a ≤ b) (hb : b ≤ 60) (p : Nat) (hp : 1 ≤ p ∧ p ≤ 3) (s : Int) (hs : 1 ≤ s ∧ s ≤ 3) (pr : Pure prog 82 [rv (Int.ofNat a) (Int.ofNat b) (Int.ofNat p) s N] (.bool true)) (n d : Nat) (hn : n ≤ 50000) (hd : 1 ≤ d ∧ d ≤ 50000) :
  Pure prog 34 [rv (Int.ofNat a) (Int.ofNat b) (Int.ofNat p) s N, fv (Int.ofNat n) (Int.ofNat d)] (nV (nrT (tp a b l) p (fun k => manyP (Int.ofNat p) s k) n d)) := by
 have pf := isFraction_pure (Int.ofNat n) (Int.ofNat d)
 rw [decide_eq_true (isF_N hn hd.1 hd.2)] at pf
 have pu := ruled_pure hN hl a b hab hb (Int.ofNat p) s
 rw [← tL_zl l hab] at pu
 have lN := hN.no
 have el : nrT (tp a b l) p (letsP s) n d = nrT (tp a b l) p (fun k => manyP (Int.ofNat p) s k) n d := nrT_lets fun k h1 h2 => ⟨fun h => ⟨⟨by omega, by show (k : Int) ≤ (p : Int); omega⟩, h⟩, fun h => h.2⟩
 rw [← el]
 clear el
 by_cases hT : tL a b l = []
 ·have en : nrT (tp a b l) p (letsP s) n d = none := nrT_none fun x hx => by
   rw [← tL_mem (l := l), hT] at hx
   cases hx
  rw [en]
  rw [hT] at pu
  have pn := nearestE_pure hN (Int.ofNat a) (Int.ofNat b) s p hp.2 (Int.ofNat n) (Int.ofNat d)
  have lE := whE_no (a := Int.ofNat a) (b := Int.ofNat b) (s := s) (p := p) lN
  have pp := prepE01 hN a b s p hp
  unfold whE at pp pn lE
  rcases hN.cs with rfl | rfl
  all_goals
   refine pure_sym hE rfl (by repeat' (first | exact trivial | assumption | exact flat_no _ | exact (fun _ h => nomatch h) | apply And.intro)) (by repeat' (first | exact trivial | assumption | exact flat_no _ | exact (fun _ h => nomatch h) | apply And.intro)) fun S q pc hS hq hC hE => ?_
   conv => whnf
   repeat ((first
    |refine sym_pure hC (pr) ?_
    |refine sym_pure hC (pf) ?_
    |refine sym_pure hC (pu) ?_
    |refine sym_pure hC (pp) ?_
    |refine sym_pure hC (pn) ?_
    |refine sym_drawn hS (by kernel_rfl) ?_); conv => whnf)
   exact ⟨_, rfl, Wk.refl _⟩
 ·have h60 : ∀ x, x ∈ tL a b l → 1 ≤ x ∧ x ≤ 60 := fun x hx => tp_le (by omega) hb ((lstP_mem _ _ _).1 hx).2
  have hTl := tL_len l hab ha hb
  have hsr := lstP_srt (tp a b l) (b + 1)
  have pn := nearest_pure hN (Int.ofNat a) (Int.ofNat b) s hs p hp (tL a b l) hT hsr h60 hTl n d hn hd
  rw [tL_mem] at pn
  have eT : sv (zl (tL a b l)) = nl (zl (tL a b l)) := by
   rcases sv_cases (zl (tL a b l)) with ⟨z, _⟩ | z
   ·exact absurd (List.map_eq_nil_iff.1 z) hT
   ·exact z
  rw [eT] at pu
  have lv := nV_no (nrT (tp a b l) p (letsP s) n d)
  have lT : Live noL (nl (zl (tL a b l))) := nl_no _
  have pp := prep01 hN a b s p hp (tL a b l) hT (fun x hx => (h60 x hx).2) hTl
  rw [tL_mem] at pp
  unfold prV at pp
  generalize nrT (tp a b l) p (letsP s) n d = o at *
  rcases o with _ | _ | ⟨q, r⟩
  all_goals
   rcases hN.cs with rfl | rfl
   all_goals
    refine pure_sym hE rfl (by repeat' (first | exact trivial | assumption | exact flat_no _ | exact (fun _ h => nomatch h) | apply And.intro)) (by repeat' (first | exact trivial | assumption | exact flat_no _ | exact (fun _ h => nomatch h) | apply And.intro)) fun S q pc hS hq hC hE => ?_
    conv => whnf
    repeat ((first
     |refine sym_pure hC (pr) ?_
     |refine sym_pure hC (pf) ?_
     |refine sym_pure hC (pu) ?_
     |refine sym_pure hC (pp) ?_
     |refine sym_pure hC (pn) ?_
     |refine sym_drawn hS (by kernel_rfl) ?_); conv => whnf)
    exact ⟨_, rfl, Wk.refl _⟩
end
end Go.Abs.Seat

/-! The law TrainFits. -/
namespace Go.Abs.Seat
open Go Go.Abs Go.Proofs.Tryz
set_option maxRecDepth 100000
set_option maxHeartbeats 40000000
attribute [local irreducible] IntKind.wrap pEq

end Go.Abs.Seat

/-! The nearest train: what both sides return, of whatever rules and fractions. -/
namespace Go.Abs.Seat
noncomputable section
open Go Go.Abs Go.Proofs.Tryz
set_option maxRecDepth 100000
set_option maxHeartbeats 40000000
attribute [local irreducible] IntKind.wrap pEq

theorem nrT_bo {tq : Nat → Prop} (h1 : ∀ n, tq n → 1 ≤ n ∧ n ≤ 60) {lets : Nat → Prop} {N D : Nat} (hD : 1 ≤ D) (P : Nat) : BO tq P lets N D (nrT tq P lets N D) := by
 have key : ∀ o, BO tq P lets N D o → BO tq P lets N D (nrT tq P lets N D) := fun o h => by rw [nrT_eq h]; exact h
 by_cases hx : ∃ n, tq n
 ·rcases fdl_bo (lets := lets) (N := N) h1 hx hD P with ⟨_, h⟩ | ⟨_, _, h⟩
  ·exact key _ h
  ·exact key _ h
 ·have e : nrT tq P lets N D = none := nrT_none fun n h => hx ⟨n, h⟩
  rw [e]
  intro t ht
  have h1 := ht.1
  have h2 := ht.2.2.all
  cases t with
  |nil => exact absurd h1.1 (by decide)
  |cons p r => exact hx ⟨_, h2.1.1⟩

theorem rf_nat {a b p s n d : Int} {l : List Int} (h : rOk a b p s l) (hf : isF n d) : ∃ a' b' p' n' d' : Nat, a = Int.ofNat a' ∧ b = Int.ofNat b' ∧ p = Int.ofNat p' ∧ n = Int.ofNat n' ∧ d = Int.ofNat d' ∧ 4 ≤ a' ∧ a' ≤ b' ∧ b' ≤ 60 ∧ (1 ≤ p' ∧ p' ≤ 3) ∧ (1 ≤ s ∧ s ≤ 3) ∧ n' ≤ 50000 ∧ 1 ≤ d' ∧ d' ≤ 50000 := by
 obtain ⟨⟨h1, h2⟩, ⟨h3, h4⟩, h5, ⟨h6, h7⟩, h8, _⟩ := h
 obtain ⟨⟨g1, g2⟩, g3, g4⟩ := hf
 refine ⟨a.toNat, b.toNat, p.toNat, n.toNat, d.toNat, ?_, ?_, ?_, ?_, ?_, ?_, ?_, ?_, ⟨?_, ?_⟩, h8, ?_, ?_, ?_⟩
 ·show a = ((a.toNat : Nat) : Int); omega
 ·show b = ((b.toNat : Nat) : Int); omega
 ·show p = ((p.toNat : Nat) : Int); omega
 ·show n = ((n.toNat : Nat) : Int); omega
 ·show d = ((d.toNat : Nat) : Int); omega
 all_goals omega

theorem near_both {N : AV} {l : List Int} (hN : IL N l) (hl : l.length < 4611686018427387904) (a b p n d : Nat) (s : Int) (ho : rOk (Int.ofNat a) (Int.ofNat b) (Int.ofNat p) s l) (hf : isF (Int.ofNat n) (Int.ofNat d)) :
  Pure prog 34 [rv (Int.ofNat a) (Int.ofNat b) (Int.ofNat p) s N, fv (Int.ofNat n) (Int.ofNat d)] (nV (nrT (tp a b l) p (mny p s) n d)) ∧ Pure prog 35 [rv (Int.ofNat a) (Int.ofNat b) (Int.ofNat p) s N, fv (Int.ofNat n) (Int.ofNat d)] (fV (nrT (tp a b l) p (mny p s) n d)) := by
 obtain ⟨a', b', p', n', d', e1, e2, e3, e4, e5, h1, h2, h3, h4, h5, h6, h7⟩ := rf_nat ho hf
 cases e1; cases e2; cases e3; cases e4; cases e5
 have pr := isRule_pure hN hl (Int.ofNat a) (Int.ofNat b) (Int.ofNat p) s (by omega) (r := true) ⟨fun _ => ho, fun _ => rfl⟩
 exact ⟨pNearest_pure hN hl a b h1 h2 h3 p h4 s h5 pr n d h6 h7, rNearest_pure hN hl a b h1 h2 h3 p h4 s h5 n d h6 h7⟩

theorem sorted_ch : ∀ (r : List (Nat × Nat)) (q : Nat × Nat), sortedP (zp (q :: r)) ↔ Ch q r
 | [], _ => ⟨fun _ => trivial, fun _ => trivial⟩
 |x :: r, q => by
  have ih := sorted_ch r x
  show (¬ ordP (Int.ofNat x.1) (Int.ofNat x.2) (Int.ofNat q.1) (Int.ofNat q.2) < 0 ∧ sortedP (zp (x :: r))) ↔ (¬ ltQ x q ∧ Ch x r)
  rw [ih, ltQ_ord]
theorem RT.fits {a b p : Nat} {s : Int} {l : List Int} {t : List (Nat × Nat)} (h : RT (tp a b l) p (mny p s) t) : fitsP (Int.ofNat a) (Int.ofNat b) (Int.ofNat p) s l (zp t) := by
 refine ⟨by rw [zp_len]; exact h.2.1, ?_, ?_⟩
 ·have := h.2.2.all
  clear h
  induction t with
  |nil => trivial
  |cons q r ih => exact ⟨this.1.1, this.1.2, ih this.2⟩
 ·have := h.2.2.ch
  cases t with
  |nil => trivial
  |cons q r => exact (sorted_ch r q).2 this.2
theorem okL_nat {a b : Nat} {l : List Int} : ∀ {L : List (Int × Int)}, okL (Int.ofNat a) (Int.ofNat b) l L → ∃ u, L = zp u ∧ AllT (tp a b l) u
 | [], _ => ⟨[], rfl, trivial⟩
 |(x, y) :: r, h => by
  obtain ⟨u, e, hu⟩ := okL_nat h.2.2
  have hx := h.1
  have hy := h.2.1
  have ex : x = Int.ofNat x.toNat := by
   have h1 : (a : Int) ≤ x := hx.2.1
   show x = ((x.toNat : Nat) : Int); omega
  have ey : y = Int.ofNat y.toNat := by
   have h1 : (a : Int) ≤ y := hy.2.1
   show y = ((y.toNat : Nat) : Int); omega
  refine ⟨(x.toNat, y.toNat) :: u, ?_, ⟨?_, ?_⟩, hu⟩
  ·show (x, y) :: r = (Int.ofNat x.toNat, Int.ofNat y.toNat) :: zp u
   rw [← ex, ← ey, e]
  ·show cutP _ _ _ _
   rw [← ex]; exact hx
  ·show cutP _ _ _ _
   rw [← ey]; exact hy
theorem fits_nat {a b p : Nat} {s : Int} {l : List Int} {L : List (Int × Int)} (h : fitsP (Int.ofNat a) (Int.ofNat b) (Int.ofNat p) s l L) : ∃ u, L = zp u ∧ RT (tp a b l) p (mny p s) u := by
 obtain ⟨h1, h2, h3⟩ := h
 obtain ⟨u, rfl, hu⟩ := okL_nat h2
 rw [zp_len] at h1
 have h4 : 1 ≤ u.length ∧ u.length ≤ p := by
  have h5 : (1 : Int) ≤ (u.length : Int) := h1.1.1
  have h6 : (u.length : Int) ≤ (p : Int) := h1.1.2
  omega
 refine ⟨u, rfl, h4, h1, rfl, hu, ?_⟩
 cases u with
 |nil => trivial
 |cons q r => exact ⟨by unfold ltQ; simp, (sorted_ch r q).1 h3⟩
theorem Bst.fle {tq : Nat → Prop} {P : Nat} {lets : Nat → Prop} {N D : Nat} {t u : List (Nat × Nat)} (h : Bst tq P lets N D t) (hu : RT tq P lets u) : fle (dT N D t) (dT N D u) := Classical.byContradiction fun e => h.2 u hu (.inl e)
theorem Bst.tie {tq : Nat → Prop} {P : Nat} {lets : Nat → Prop} {N D : Nat} {t u : List (Nat × Nat)} (h : Bst tq P lets N D t) (hu : RT tq P lets u) (hf : Go.Abs.Seat.fle (dT N D u) (dT N D t)) : t.length < u.length ∨ u.length = t.length ∧ ¬ ltL u t := by
 have h1 : ¬ (u.length < t.length ∨ u.length = t.length ∧ ltL u t) := fun e => h.2 u hu (.inr ⟨hf, e⟩)
 by_cases h2 : t.length < u.length
 ·exact .inl h2
 ·have h3 : ¬ u.length < t.length := fun e => h1 (.inl e)
  have h4 : u.length = t.length := by omega
  exact .inr ⟨h4, fun e => h1 (.inr ⟨h4, e⟩)⟩
theorem ordI_m {A B : Nat} (h : A < B) : ordI (Int.ofNat A) (Int.ofNat B) = -1 := by
 unfold ordI
 rw [if_pos (show Int.ofNat A < Int.ofNat B from Int.ofNat_lt.2 h)]
theorem ordI_z {A B : Nat} (h : A = B) : ordI (Int.ofNat A) (Int.ofNat B) = 0 := by
 subst h
 unfold ordI
 rw [if_neg (Int.lt_irrefl _), if_neg (Int.lt_irrefl _)]

end
end Go.Abs.Seat
