/-
  The document's settings.
-/
import Derived.Test.YtpjclnoehlflcaaGreatDoorT26
/-! The document's settings. -/
namespace Go.Abs.Seat
noncomputable section
open Go Go.Abs Go.Proofs.Tryz
set_option maxRecDepth 100000
set_option maxHeartbeats 40000000
attribute [local irreducible] IntKind.wrap pEq

/-- What the document's settings are, of those that keep the hand. -/
def rsV (l : List (List Int)) : AV := .tup [if l = [] then .nils else sv (bstS l), .bool (if l = [] then false else true)]
theorem rsV_no (l : List (List Int)) : Live noL (if l = [] then .nils else sv (bstS l)) := setV_no l

theorem rSettings_pure {v : AV} {k x y : Nat} (hv : TV v k x y) (n d m : Nat) (hn : n ≤ 50000) (hnd : 1 ≤ d ∧ d ≤ 50000) (hm : m ≤ 10800) (f : List Int) (of : feOk f) (u : Nat) (hu : u ≤ 10000) :
    Pure prog 23 [v, fv (Int.ofNat n) (Int.ofNat d), nv m, nl f, nv u] (rsV (okS f (lastV x y n d m) u (2 ^ f.length))) := by
  have hk : ∀ (q : Nat) (L : List (List Int)), L = lsts q 0 f.length → ∀ i, i < L.length → Pure prog 79 [v, fv (Int.ofNat n) (Int.ofNat d), nv m, nl f, sv (gs L i), nv u] (.bool (decide (kp (lastV x y n d m) u 0 (days f (gs L i))))) := fun q L hL i hi => by
    subst hL
    have os : seOk f.length (gs (lsts q 0 f.length) i) := asc_ok (by simpa using ((lsts_mem _ _ _ _).1 (gs_mem _ hi)).2)
    have hs : IL (sv (gs (lsts q 0 f.length) i)) (gs (lsts q 0 f.length) i) := by
      rcases sv_cases (gs (lsts q 0 f.length) i) with ⟨e, e'⟩ | e'
      · exact .inl ⟨e', e⟩
      · exact .inr e'
    exact (keeps_both hv n d m hn hnd hm (.inr rfl) hs of os u hu decide_eq_true_iff).2
  have lf := ivs_no f
  have fl := of.2
  have lv := rsV_no (okS f (lastV x y n d m) u (2 ^ f.length))
  generalize lastV x y n d m = T at *
  obtain ⟨xs, rfl, lx⟩ := hv.sh
  refine pure_sym hE rfl (by repeat' (first | exact trivial | assumption | exact flat_no _ | exact (fun _ h => nomatch h) | apply And.intro)) (by repeat' (first | exact trivial | assumption | exact flat_no _ | exact (fun _ h => nomatch h) | apply And.intro)) fun S q pc hS hq hC hE => ?_
  conv => whnf
  refine sym_loop hE hS (A := Nat) [0, 2, 3, 4, 6] (fun q => [(12, nv q)]) (fun _ => []) (fun q => q ≤ f.length + 1 ∧ ∀ m, m < q → ∀ x, x ∈ lsts m 0 f.length → ¬ kp T u 0 (days f x)) (fun q => f.length + 1 - q) 0 rfl rfl ⟨rfl, rfl, rfl, rfl, by repeat' (first | exact trivial | exact rfl | exact Nat.zero_le _ | exact Nat.le_of_ble_eq_true rfl | exact bdl_no (by assumption) | exact bdl_no (flat_no _) | exact bdl_no (ivs_no _) | exact Nat.max_le.2 ⟨Nat.le_of_ble_eq_true rfl, bdl_no (ivs_no _)⟩ | apply And.intro), by repeat' (first | exact trivial | exact rfl | exact Nat.zero_le _ | exact Nat.le_of_ble_eq_true rfl | exact bdl_no (by assumption) | exact bdl_no (flat_no _) | exact bdl_no (ivs_no _) | exact Nat.max_le.2 ⟨Nat.le_of_ble_eq_true rfl, bdl_no (ivs_no _)⟩ | apply And.intro)⟩ ⟨Nat.zero_le _, fun _ h => absurd h (Nat.not_lt_zero _)⟩ ?_
  intro q ⟨hq1, hno⟩
  conv => whnf
  by_cases h : q ≤ f.length
  · rw [show decide (Int.ofNat q ≤ ↑f.length) = true from decide_eq_true (by show (q : Int) ≤ (f.length : Int); omega)]
    conv => whnf
    have p := lists_pure q (by omega) 0 f.length (by omega)
    rw [Nat.zero_add] at p
    obtain ⟨L, hL⟩ : ∃ L, lsts q 0 f.length = L := ⟨_, rfl⟩
    have hkL := hk q L hL.symm
    have ll := lsts_len f.length q 0
    have kp8 : 2 ^ f.length ≤ 2 ^ 8 := Nat.pow_le_pow_right (by omega) (by omega)
    have nx : (∀ x, x ∈ L → ¬ kp T u 0 (days f x)) → ∀ m, m < q + 1 → ∀ x, x ∈ lsts m 0 f.length → ¬ kp T u 0 (days f x) := fun hx m hm x hxm => by
      by_cases e : m = q
      · subst e; rw [hL] at hxm; exact hx x hxm
      · exact hno m (by omega) x hxm
    have fb := fun i => first_best (f := f) (L := T) (u := u) (n := q) (i := i)
    rw [hL] at p ll fb
    have hq1 : IntKind.i64.wrap (Int.ofNat q + 1) = Int.ofNat (q + 1) := wrapN (m := q + 1) (by omega)
    by_cases hl0 : L = []
    · rw [lV, if_pos hl0] at p
      refine sym_pure hC (p) ?_
      conv => whnf
      refine sym_unroll hE hS ?_
      conv => whnf
      rw [hq1]
      exact ⟨q + 1, ⟨by omega, nx fun x hx => by rw [hl0] at hx; cases hx⟩, by omega, ⟨rfl, rfl, rfl, rfl, by repeat' (first | exact trivial | exact rfl | exact Nat.zero_le _ | exact Nat.le_of_ble_eq_true rfl | exact bdl_no (by assumption) | exact bdl_no (flat_no _) | exact bdl_no (ivs_no _) | exact Nat.max_le.2 ⟨Nat.le_of_ble_eq_true rfl, bdl_no (ivs_no _)⟩ | apply And.intro), by repeat' (first | exact trivial | exact rfl | exact Nat.zero_le _ | exact Nat.le_of_ble_eq_true rfl | exact bdl_no (by assumption) | exact bdl_no (flat_no _) | exact bdl_no (ivs_no _) | exact Nat.max_le.2 ⟨Nat.le_of_ble_eq_true rfl, bdl_no (ivs_no _)⟩ | apply And.intro)⟩⟩
    · rw [lV, if_neg hl0] at p
      have ls := svs_no L
      refine sym_pure hC (p) ?_
      conv => whnf
      refine sym_loop hE hS (A := Nat) [0, 2, 3, 4, 6, 12, 13] (fun i => [(14, nv i)]) (fun _ => []) (fun i => i ≤ L.length ∧ ∀ j, j < i → ¬ kp T u 0 (days f (gs L j))) (fun i => L.length - i) 0 rfl rfl ⟨rfl, rfl, rfl, rfl, by repeat' (first | exact trivial | exact rfl | exact Nat.zero_le _ | exact Nat.le_of_ble_eq_true rfl | exact bdl_no (by assumption) | exact bdl_no (flat_no _) | exact bdl_no (ivs_no _) | exact Nat.max_le.2 ⟨Nat.le_of_ble_eq_true rfl, bdl_no (ivs_no _)⟩ | apply And.intro), by repeat' (first | exact trivial | exact rfl | exact Nat.zero_le _ | exact Nat.le_of_ble_eq_true rfl | exact bdl_no (by assumption) | exact bdl_no (flat_no _) | exact bdl_no (ivs_no _) | exact Nat.max_le.2 ⟨Nat.le_of_ble_eq_true rfl, bdl_no (ivs_no _)⟩ | apply And.intro)⟩ ⟨Nat.zero_le _, fun _ h => absurd h (Nat.not_lt_zero _)⟩ ?_
      intro i ⟨hi, hnj⟩
      conv => whnf
      by_cases h2 : i < L.length
      · refine bool_true (ltN_t h2) ?_
        conv => whnf
        have hn3 := nth_svs1 (l := L) h2
        have pk := hkL i h2
        have hi1 : IntKind.i64.wrap (Int.ofNat i + 1) = Int.ofNat (i + 1) := wrapN (m := i + 1) (by omega)
        have fbi := fb i h2
        rcases sv_cases (gs L i) with ⟨e, e'⟩ | e'
        · rw [e'] at hn3 pk
          refine bool_true (inR_t (i := i) (n := L.length) h2) ?_
          conv => whnf
          refine plan_as (nthP (hn3)) ?_
          conv => whnf
          refine sym_pure hC (pk) ?_
          conv => whnf
          refine sym_drawn hS (by kernel_rfl) ?_
          conv => whnf
          by_cases h3 : kp T u 0 (days f (gs L i))
          · refine bool_true (decide_eq_true h3) ?_
            conv => whnf
            refine bool_true (inR_t (i := i) (n := L.length) h2) ?_
            conv => whnf
            refine plan_as (nthP (hn3)) ?_
            conv => whnf
            obtain ⟨h4, h5⟩ := fbi h3 hnj hno
            rw [rsV, if_neg h4, if_neg h4, h5, e']
            exact ⟨_, rfl, Wk.refl _⟩
          · refine bool_false (decide_eq_false h3) ?_
            conv => whnf
            exact ⟨i + 1, ⟨h2, upto hnj h3⟩, by show L.length - (i + 1) < L.length - i; omega, ⟨rfl, rfl, rfl, rfl, by repeat' (first | exact trivial | exact rfl | exact Nat.zero_le _ | exact congrArg (fun z => some (AV.int .i64 z)) hi1 | exact Nat.le_of_ble_eq_true rfl | exact bdl_no (by assumption) | exact bdl_no (flat_no _) | exact bdl_no (ivs_no _) | exact Nat.max_le.2 ⟨Nat.le_of_ble_eq_true rfl, bdl_no (ivs_no _)⟩ | apply And.intro), by repeat' (first | exact trivial | exact rfl | exact Nat.zero_le _ | exact congrArg (fun z => some (AV.int .i64 z)) hi1 | exact Nat.le_of_ble_eq_true rfl | exact bdl_no (by assumption) | exact bdl_no (flat_no _) | exact bdl_no (ivs_no _) | exact Nat.max_le.2 ⟨Nat.le_of_ble_eq_true rfl, bdl_no (ivs_no _)⟩ | apply And.intro)⟩⟩
        · have lq := ivs_no (gs L i)
          rw [e'] at hn3 pk
          refine bool_true (inR_t (i := i) (n := L.length) h2) ?_
          conv => whnf
          refine plan_as (nthP (hn3)) ?_
          conv => whnf
          refine sym_pure hC (pk) ?_
          conv => whnf
          refine sym_drawn hS (by kernel_rfl) ?_
          conv => whnf
          by_cases h3 : kp T u 0 (days f (gs L i))
          · refine bool_true (decide_eq_true h3) ?_
            conv => whnf
            refine bool_true (inR_t (i := i) (n := L.length) h2) ?_
            conv => whnf
            refine plan_as (nthP (hn3)) ?_
            conv => whnf
            obtain ⟨h4, h5⟩ := fbi h3 hnj hno
            rw [rsV, if_neg h4, if_neg h4, h5, e']
            exact ⟨_, rfl, Wk.refl _⟩
          · refine bool_false (decide_eq_false h3) ?_
            conv => whnf
            exact ⟨i + 1, ⟨h2, upto hnj h3⟩, by show L.length - (i + 1) < L.length - i; omega, ⟨rfl, rfl, rfl, rfl, by repeat' (first | exact trivial | exact rfl | exact Nat.zero_le _ | exact congrArg (fun z => some (AV.int .i64 z)) hi1 | exact Nat.le_of_ble_eq_true rfl | exact bdl_no (by assumption) | exact bdl_no (flat_no _) | exact bdl_no (ivs_no _) | exact Nat.max_le.2 ⟨Nat.le_of_ble_eq_true rfl, bdl_no (ivs_no _)⟩ | apply And.intro), by repeat' (first | exact trivial | exact rfl | exact Nat.zero_le _ | exact congrArg (fun z => some (AV.int .i64 z)) hi1 | exact Nat.le_of_ble_eq_true rfl | exact bdl_no (by assumption) | exact bdl_no (flat_no _) | exact bdl_no (ivs_no _) | exact Nat.max_le.2 ⟨Nat.le_of_ble_eq_true rfl, bdl_no (ivs_no _)⟩ | apply And.intro)⟩⟩
      · refine bool_false (ltN_f h2) ?_
        conv => whnf
        refine ⟨q + 1, ⟨by omega, nx fun x hx => ?_⟩, by show f.length + 1 - (q + 1) < f.length + 1 - q; omega, ⟨rfl, rfl, rfl, rfl, by repeat' (first | exact trivial | exact rfl | exact Nat.zero_le _ | exact congrArg (fun z => some (AV.int .i64 z)) hq1 | exact Nat.le_of_ble_eq_true rfl | exact bdl_no (by assumption) | exact bdl_no (flat_no _) | exact bdl_no (ivs_no _) | exact Nat.max_le.2 ⟨Nat.le_of_ble_eq_true rfl, bdl_no (ivs_no _)⟩ | apply And.intro), by repeat' (first | exact trivial | exact rfl | exact Nat.zero_le _ | exact congrArg (fun z => some (AV.int .i64 z)) hq1 | exact Nat.le_of_ble_eq_true rfl | exact bdl_no (by assumption) | exact bdl_no (flat_no _) | exact bdl_no (ivs_no _) | exact Nat.max_le.2 ⟨Nat.le_of_ble_eq_true rfl, bdl_no (ivs_no _)⟩ | apply And.intro)⟩⟩
        obtain ⟨j, hj, e⟩ := List.mem_iff_getElem.1 hx
        have := hnj j (by omega)
        rwa [show gs L j = x by rw [← e]; simp [gs, List.getD, hj]] at this
  · rw [show decide (Int.ofNat q ≤ ↑f.length) = false from decide_eq_false (by show ¬ (q : Int) ≤ (f.length : Int); omega)]
    conv => whnf
    have e := none_best (f := f) (L := T) (u := u) fun m hm => hno m (by omega)
    rw [rsV, if_pos e, if_pos e]
    exact ⟨_, rfl, Wk.refl _⟩
end
end Go.Abs.Seat
