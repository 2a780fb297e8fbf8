/-
  Off, Lasts, Between: the program's and the document's.
-/
import Derived.Test.YtpjclnoehlflcaaGreatDoorMU
import Derived.Test.YtpjclnoehlflcaaGreatDoorL4
/-! Off, Lasts, Between: the program's and the document's. -/
namespace Go.Abs.Seat
open Go Go.Abs Go.Proofs.Tryz
set_option maxRecDepth 100000
set_option maxHeartbeats 4000000
attribute [local irreducible] IntKind.wrap pEq

mutual
theorem bd_no : ∀ (v : AV), Live noL v → bd v = 0
  | .unk, _ => rfl
  | .int _ _, _ => rfl
  | .bool _, _ => rfl
  | .str _, _ => rfl
  | .nilp, _ => rfl
  | .ptr _ _, h => h.elim
  | .lptr xs _, h => bdl_no0 xs h
  | .gp _ _, _ => rfl
  | .nils, _ => rfl
  | .slc _ _ _ _, h => h.elim
  | .lst xs _ .no, h => bdl_no0 xs h.1
  | .lst xs _ .full, h => bdl_no0 xs h.1
  | .lst xs _ (.ch c), h => (h.2 c rfl).elim
  | .nilm, _ => rfl
  | .map _, h => h.elim
  | .nilf, _ => rfl
  | .func _ f c, h => by show Nat.max (bdl f) (bdl c) = 0; rw [bdl_no0 f h.1, bdl_no0 c h.2]; rfl
  | .yld _, h => h.elim
  | .nili, _ => rfl
  | .iface _ a, h => bd_no a h
  | .agg cs, h => bdl_no0 cs h
  | .tup cs, h => bdl_no0 cs h
theorem bdl_no0 : ∀ (xs : List AV), Lives noL xs → bdl xs = 0
  | [], _ => rfl
  | x :: xs, h => by show Nat.max (bd x) (bdl xs) = 0; rw [bd_no x h.1, bdl_no0 xs h.2]; rfl
end
theorem bdl_no {xs : List AV} (h : Lives noL xs) {n : Nat} : bdl xs ≤ n := by rw [bdl_no0 xs h]; exact Nat.zero_le _

theorem plan_as {p p' : Plan} {y : Bool} {s n : Nat} {h : Tr AObj} {K : KP} (e : p = p') (k : runP p' y s h n K) : runP p y s h n K := e ▸ k
theorem nthP {xs : List AV} {o : Nat} {v : AV} (e : nth xs o = some v) : (match nth xs o with | some v => Plan.ret v | none => Plan.fail) = Plan.ret v := by rw [e]

theorem rng {t : Nat} {m : Int} (h : (t : Int) ≤ m) : (0 : Int) ≤ Int.ofNat t ∧ Int.ofNat t ≤ m := by simp only [Int.ofNat_eq_natCast]; omega

theorem off_no {v : AV} {k : Nat} {b : Bool} (hv : TS v k b) (n d t : Int) (h : ¬ (b = true ∧ isF n d ∧ 0 ≤ t ∧ t ≤ 10000)) :
    Pure prog 27 [v, fv n d, iv t] (.tup [iv 0, iv 2]) := by
  have lv := hv.no
  have iv := hv.isT
  rcases hv.sh with ⟨rfl, _⟩ | ⟨xs, rfl, _⟩
  all_goals
    refine pure_sym hE rfl (by repeat' (first | exact trivial | assumption | exact flat_no _ | exact (fun _ h => nomatch h) | apply And.intro)) (by repeat' (first | exact trivial | assumption | exact flat_no _ | exact (fun _ h => nomatch h) | apply And.intro)) fun S q pc hS hq hC hE => ?_
    conv => whnf
    refine sym_pure hC (iv) ?_
    conv => whnf
    cases b with
    | false =>
      conv => whnf
      exact ⟨_, rfl, Wk.refl _⟩
    | true =>
      conv => whnf
      refine sym_pure hC (isFraction_pure _ _) ?_
      conv => whnf
      by_cases h1 : isF n d
      · rw [decide_eq_true h1]
        conv => whnf
        refine sym_pure hC (isTurn_pure _) ?_
        conv => whnf
        rw [decide_eq_false fun k => h ⟨rfl, h1, k⟩]
        conv => whnf
        exact ⟨_, rfl, Wk.refl _⟩
      · rw [decide_eq_false h1]
        conv => whnf
        exact ⟨_, rfl, Wk.refl _⟩

/-- A hand is off by at most a limit after t turns. -/
abbrev wi (x y n d m t : Nat) : Prop := gapN (offP x d t) (offQ y n t) ≤ m * (y * d)

theorem gapN_mul (a b c : Nat) : gapN (a * c) (b * c) = gapN a b * c := by
  unfold gapN
  rw [← Nat.sub_mul, ← Nat.sub_mul, ← Nat.add_mul]

theorem minI_T (b : Nat) : minI 10000 (Int.ofNat b) = Int.ofNat (min 10000 b) := by
  unfold minI
  show (if ((b : Nat) : Int) < 10000 then ((b : Nat) : Int) else 10000) = ((min 10000 b : Nat) : Int)
  split <;> omega

theorem minI_nat (a b : Nat) : minI (Int.ofNat a) (Int.ofNat b) = Int.ofNat (min a b) := by
  unfold minI
  show (if ((b : Nat) : Int) < ((a : Nat) : Int) then ((b : Nat) : Int) else ((a : Nat) : Int)) = ((min a b : Nat) : Int)
  split <;> omega

/-- For how many turns. -/
def lastV (x y n d m : Nat) : Nat := if gapN (x * d) (n * y) = 0 then 10000 else min 10000 (m * (y * d) / (gapN (x * d) (n * y) * 21600))

theorem lastV_le (x y n d m : Nat) : lastV x y n d m ≤ 10000 := by unfold lastV; split <;> omega

theorem wi_iff (x y n d m t : Nat) (ht : t ≤ 10000) : wi x y n d m t ↔ t ≤ lastV x y n d m := by
  unfold wi lastV offP offQ
  rw [gapN_mul, gapN_mul]
  generalize gapN (x * d) (n * y) = g
  generalize m * (y * d) = M
  split
  · rename_i h
    subst h
    simp
    exact ht
  · rename_i h
    rw [Nat.le_min, Nat.le_div_iff_mul_le (by omega), show t * (g * 21600) = g * t * 21600 by rw [← Nat.mul_assoc, Nat.mul_comm t g]]
    exact ⟨fun k => ⟨ht, k⟩, fun k => k.2⟩

theorem within_pure {v : AV} {k x y : Nat} (hv : TV v k x y) (n d m t : Nat) (hn : n ≤ 50000) (hd : 1 ≤ d ∧ d ≤ 50000) (hm : m ≤ 10800) (ht : t ≤ 10000) :
    Pure prog 125 [v, fv (Int.ofNat n) (Int.ofNat d), nv m, nv t] (.bool (decide (wi x y n d m t))) := by
  have p1 := roff_pure hv n d t hn hd ht
  have b := off_le hn hd.2 hv.bx.2 hv.by_.2 ht
  have b2 : m * (y * d) ≤ 10800 * 10800000000 := Nat.mul_le_mul hm b.2.2.2.2
  obtain ⟨xs, rfl, lx⟩ := hv.sh
  refine pure_sym hE rfl (by repeat' (first | exact trivial | assumption | exact flat_no _ | exact (fun _ h => nomatch h) | apply And.intro)) (by repeat' (first | exact trivial | assumption | exact flat_no _ | exact (fun _ h => nomatch h) | apply And.intro)) fun S q pc hS hq hC hE => ?_
  conv => whnf
  refine sym_pure hC (p1) ?_
  conv => whnf
  rw [mulN (a := m) (b := y * d) (by omega), maxI_neg (by omega) (by omega)]
  refine ⟨_, rfl, wkb ?_⟩
  by_cases h : wi x y n d m t
  · rw [decide_eq_true h]; exact leN_t h
  · rw [decide_eq_false h]; exact leN_f h

theorem wlasts_pure (x y n d m : Nat) (h1 : x * d ≤ 10800000000) (h2 : n * y ≤ 10800000000) (h3 : y * d ≤ 10800000000) (hm : m ≤ 10800) :
    Pure prog 69 [.agg [iv (dN (x * d * 21600) (n * y * 21600)), nv (y * d)], nv m] (nv (lastV x y n d m)) := by
  have b2 : m * (y * d) ≤ 10800 * 10800000000 := Nat.mul_le_mul hm h3
  refine pure_sym hE rfl (by repeat' (first | exact trivial | assumption | exact flat_no _ | exact (fun _ h => nomatch h) | apply And.intro)) (by repeat' (first | exact trivial | assumption | exact flat_no _ | exact (fun _ h => nomatch h) | apply And.intro)) fun S q pc hS hq hC hE => ?_
  conv => whnf
  rw [maxI_neg (by omega) (by omega), gapN_mul]
  by_cases h : gapN (x * d) (n * y) = 0
  · rw [show (Int.ofNat (gapN (x * d) (n * y) * 21600) == 0) = true by rw [h]; rfl]
    conv => whnf
    refine ⟨_, rfl, ?_⟩
    rw [show lastV x y n d m = 10000 from if_pos h]
    exact Wk.refl _
  · have hg : 1 ≤ gapN (x * d) (n * y) * 21600 := by omega
    rw [show (Int.ofNat (gapN (x * d) (n * y) * 21600) == 0) = false from by simpa using ne0 hg]
    conv => whnf
    refine bool_true (ne0 hg) ?_
    conv => whnf
    rw [mulN (a := m) (b := y * d) (by omega), quoN (by omega), minI_T]
    refine ⟨_, rfl, ?_⟩
    rw [show lastV x y n d m = min 10000 (m * (y * d) / (gapN (x * d) (n * y) * 21600)) from if_neg h]
    exact Wk.refl _

end Go.Abs.Seat
