/-
  The best of some settings.
-/
import Derived.Test.YtpjclnoehlflcaaGreatDoorT10
/-! The best of some settings. -/
namespace Go.Abs.Seat
open Go Go.Abs Go.Proofs.Tryz
set_option maxRecDepth 100000
set_option maxHeartbeats 4000000
attribute [local irreducible] pEq
section
attribute [local irreducible] IntKind.wrap

/-- How two lists stand, number for number. -/
def lexI : List Int → List Int → Int
  | [], [] => 0
  | [], _ :: _ => -1
  | _ :: _, [] => 1
  | a :: r, b :: s => if ordI a b = 0 then lexI r s else ordI a b

/-- A setting, as the program makes it: nil if it has no feast. -/
def sv : List Int → AV
  | [] => .nils
  | x :: r => nl (x :: r)
theorem sv_no (l : List Int) : Live noL (sv l) := by
  cases l with
  | nil => trivial
  | cons x r => exact nl_no _

theorem lexI_end (a b : List Int) {i : Nat} (hi : i = a.length) (h2 : i ≤ b.length) : lexI (a.drop i) (b.drop i) = if (a.length : Int) < b.length then -1 else 0 := by
  subst hi
  rw [List.drop_eq_nil_of_le (Nat.le_refl _)]
  by_cases h : a.length < b.length
  · rw [if_pos (by omega), drop_gi b h]; rfl
  · rw [if_neg (by omega), List.drop_eq_nil_of_le (by omega)]; rfl

theorem lex_pure (a b : List Int) (ha : a.length < 4611686018427387904) (_hb : b.length < 4611686018427387904) : Pure prog 75 [nl a, nl b] (iv (lexI a b)) := by
  have la := ivs_no a
  have lb := ivs_no b
  refine pure_sym hE rfl (by repeat' (first | exact trivial | assumption | exact flat_no _ | exact (fun _ h => nomatch h) | apply And.intro)) (by repeat' (first | exact trivial | assumption | exact flat_no _ | exact (fun _ h => nomatch h) | apply And.intro)) fun S q pc hS hq hC hE => ?_
  conv => whnf
  refine sym_loop hE hS (A := Nat) [0, 1, 9, 10] (fun i => [(11, nv i)]) (fun _ => []) (fun i => i ≤ a.length ∧ i ≤ b.length ∧ lexI (a.drop i) (b.drop i) = lexI a b) (fun i => a.length - i) 0 rfl rfl ⟨rfl, rfl, rfl, rfl, by repeat' (first | exact trivial | exact rfl | exact Nat.zero_le _ | exact Nat.le_of_ble_eq_true rfl | exact bdl_no (by assumption) | exact bdl_no (flat_no _) | exact bdl_no (ivs_no _) | exact Nat.max_le.2 ⟨Nat.le_of_ble_eq_true rfl, bdl_no (ivs_no _)⟩ | apply And.intro), by repeat' (first | exact trivial | exact rfl | exact Nat.zero_le _ | exact Nat.le_of_ble_eq_true rfl | exact bdl_no (by assumption) | exact bdl_no (flat_no _) | exact bdl_no (ivs_no _) | exact Nat.max_le.2 ⟨Nat.le_of_ble_eq_true rfl, bdl_no (ivs_no _)⟩ | apply And.intro)⟩ ⟨Nat.zero_le _, Nat.zero_le _, rfl⟩ ?_
  intro i ⟨hi, hj, he⟩
  conv => whnf
  by_cases h : i < a.length
  · rw [show decide (Int.ofNat i < ↑a.length) = true from ltN_t h]
    conv => whnf
    refine bool_true (inR_t (i := i) (n := a.length) h) ?_
    conv => whnf
    refine plan_as (nthP (nth_ivs1 (l := a) (i := i) h)) ?_
    conv => whnf
    by_cases h2 : i < b.length
    · rw [show decide ((b.length : Int) ≤ Int.ofNat i) = false from decide_eq_false (by show ¬ (b.length : Int) ≤ (i : Int); omega)]
      conv => whnf
      refine bool_true (inR_t (i := i) (n := b.length) h2) ?_
      conv => whnf
      refine plan_as (nthP (nth_ivs1 (l := b) (i := i) h2)) ?_
      conv => whnf
      refine sym_pure hC (cmp_pure (gi a i) (gi b i)) ?_
      conv => whnf
      rw [drop_gi a h, drop_gi b h2, lexI] at he
      by_cases h3 : ordI (gi a i) (gi b i) = 0
      · rw [if_pos h3] at he
        rw [show ((ordI (gi a i) (gi b i)) != 0) = false by rw [h3]; rfl]
        conv => whnf
        rw [show IntKind.i64.wrap (Int.ofNat i + 1) = Int.ofNat (i + 1) from wrapN (m := i + 1) (by omega)]
        exact ⟨i + 1, ⟨h, h2, he⟩, by omega, ⟨rfl, rfl, rfl, rfl, by repeat' (first | exact trivial | exact rfl | exact Nat.zero_le _ | exact Nat.le_of_ble_eq_true rfl | exact bdl_no (by assumption) | exact bdl_no (flat_no _) | exact bdl_no (ivs_no _) | exact Nat.max_le.2 ⟨Nat.le_of_ble_eq_true rfl, bdl_no (ivs_no _)⟩ | apply And.intro), by repeat' (first | exact trivial | exact rfl | exact Nat.zero_le _ | exact Nat.le_of_ble_eq_true rfl | exact bdl_no (by assumption) | exact bdl_no (flat_no _) | exact bdl_no (ivs_no _) | exact Nat.max_le.2 ⟨Nat.le_of_ble_eq_true rfl, bdl_no (ivs_no _)⟩ | apply And.intro)⟩⟩
      · rw [if_neg h3] at he
        rw [show ((ordI (gi a i) (gi b i)) != 0) = true from bne_iff_ne.2 h3]
        conv => whnf
        rw [he]
        exact ⟨_, rfl, Wk.refl _⟩
    · rw [show decide ((b.length : Int) ≤ Int.ofNat i) = true from decide_eq_true (by show (b.length : Int) ≤ (i : Int); omega)]
      conv => whnf
      have e0 : b.drop i = [] := List.drop_eq_nil_of_le (by omega)
      rw [drop_gi a h, e0] at he
      rw [← he]
      exact ⟨_, rfl, Wk.refl _⟩
  · rw [show decide (Int.ofNat i < ↑a.length) = false from ltN_f h]
    conv => whnf
    rw [lexI_end a b (by omega) hj] at he
    by_cases h2 : (a.length : Int) < b.length
    · rw [if_pos h2] at he
      rw [decide_eq_true h2]
      conv => whnf
      rw [← he]
      exact ⟨_, rfl, Wk.refl _⟩
    · rw [if_neg h2] at he
      rw [decide_eq_false h2]
      conv => whnf
      rw [← he]
      exact ⟨_, rfl, Wk.refl _⟩

theorem lex_sv (a b : List Int) (ha : a.length < 4611686018427387904) (hb : b.length < 4611686018427387904) : Pure prog 75 [sv a, sv b] (iv (lexI a b)) := by
  have la := ivs_no a
  have lb := ivs_no b
  cases a with
  | nil =>
    cases b with
    | nil =>
      show Pure prog _ [.nils, .nils] _
      refine pure_sym hE rfl (by repeat' (first | exact trivial | assumption | exact flat_no _ | exact (fun _ h => nomatch h) | apply And.intro)) (by repeat' (first | exact trivial | assumption | exact flat_no _ | exact (fun _ h => nomatch h) | apply And.intro)) fun S q pc hS hq hC hE => ?_
      conv => whnf
      refine sym_unroll hE hS ?_
      conv => whnf
      exact ⟨_, rfl, Wk.refl _⟩
    | cons y s =>
      show Pure prog _ [.nils, nl (y :: s)] _
      refine pure_sym hE rfl (by repeat' (first | exact trivial | assumption | exact flat_no _ | exact (fun _ h => nomatch h) | apply And.intro)) (by repeat' (first | exact trivial | assumption | exact flat_no _ | exact (fun _ h => nomatch h) | apply And.intro)) fun S q pc hS hq hC hE => ?_
      conv => whnf
      refine sym_unroll hE hS ?_
      conv => whnf
      rw [show decide ((0 : Int) < ((y :: s).length : Nat)) = true from decide_eq_true (by simp only [List.length_cons]; omega)]
      conv => whnf
      exact ⟨_, rfl, Wk.refl _⟩
  | cons x r =>
    cases b with
    | nil =>
      show Pure prog _ [nl (x :: r), .nils] _
      refine pure_sym hE rfl (by repeat' (first | exact trivial | assumption | exact flat_no _ | exact (fun _ h => nomatch h) | apply And.intro)) (by repeat' (first | exact trivial | assumption | exact flat_no _ | exact (fun _ h => nomatch h) | apply And.intro)) fun S q pc hS hq hC hE => ?_
      conv => whnf
      refine sym_unroll hE hS ?_
      conv => whnf
      rw [show decide ((0 : Int) < ((x :: r).length : Nat)) = true from decide_eq_true (by simp only [List.length_cons]; omega)]
      conv => whnf
      refine bool_true (inR_t (i := 0) (n := (x :: r).length) (Nat.succ_pos _)) ?_
      conv => whnf
      exact ⟨_, rfl, Wk.refl _⟩
    | cons y s => exact lex_pure (x :: r) (y :: s) ha hb

theorem or_pure (x y : Int) : Pure prog 73 [.lst [iv x, iv y] 2 .full] (iv (if x = 0 then y else x)) := by
  refine pure_sym hE rfl (by repeat' (first | exact trivial | assumption | exact flat_no _ | exact (fun _ h => nomatch h) | apply And.intro)) (by repeat' (first | exact trivial | assumption | exact flat_no _ | exact (fun _ h => nomatch h) | apply And.intro)) fun S q pc hS hq hC hE => ?_
  conv => whnf
  refine sym_unroll hE hS ?_
  conv => whnf
  by_cases h : x = 0
  · rw [show (x != 0) = false by rw [h]; rfl]
    conv => whnf
    rw [show IntKind.i64.wrap (0 + 1) = 1 from wrapI (by decide) (by decide)]
    conv => whnf
    refine sym_unroll hE hS ?_
    conv => whnf
    rw [if_pos h]
    by_cases h2 : y = 0
    · rw [show (y != 0) = false by rw [h2]; rfl]
      conv => whnf
      rw [show IntKind.i64.wrap (1 + 1) = 2 from wrapI (by decide) (by decide)]
      conv => whnf
      refine sym_unroll hE hS ?_
      conv => whnf
      rw [h2]
      exact ⟨_, rfl, Wk.refl _⟩
    · rw [show (y != 0) = true from bne_iff_ne.2 h2]
      conv => whnf
      exact ⟨_, rfl, Wk.refl _⟩
  · rw [show (x != 0) = true from bne_iff_ne.2 h]
    conv => whnf
    rw [if_neg h]
    exact ⟨_, rfl, Wk.refl _⟩

/-- How two settings stand. -/
def seI (a b : List Int) : Int := if ordI a.length b.length = 0 then lexI a b else ordI a.length b.length


end

theorem less_pure (a b : List Int) (ha : a.length < 4611686018427387904) (hb : b.length < 4611686018427387904) : Pure prog 72 [sv a, sv b] (.bool (decide (seI a b < 0))) := by
  have la := ivs_no a
  have lb := ivs_no b
  have hx := lex_sv a b ha hb
  cases a with
  | nil =>
    cases b with
    | nil =>
      have hx : Pure prog _ [.nils, .nils] _ := hx
      show Pure prog _ [.nils, .nils] _
      refine pure_sym hE rfl (by repeat' (first | exact trivial | assumption | exact flat_no _ | exact (fun _ h => nomatch h) | apply And.intro)) (by repeat' (first | exact trivial | assumption | exact flat_no _ | exact (fun _ h => nomatch h) | apply And.intro)) fun S q pc hS hq hC hE => ?_
      conv => whnf
      refine sym_pure hC (cmp_pure 0 0) ?_
      conv => whnf
      refine sym_pure hC (hx) ?_
      conv => whnf
      refine sym_pureW hC (or_pure (ordI 0 0) (lexI [] [])) ?_
      conv => whnf
      exact ⟨_, rfl, Wk.refl _⟩
    | cons y s =>
      have hx : Pure prog _ [.nils, nl (y :: s)] _ := hx
      show Pure prog _ [.nils, nl (y :: s)] _
      refine pure_sym hE rfl (by repeat' (first | exact trivial | assumption | exact flat_no _ | exact (fun _ h => nomatch h) | apply And.intro)) (by repeat' (first | exact trivial | assumption | exact flat_no _ | exact (fun _ h => nomatch h) | apply And.intro)) fun S q pc hS hq hC hE => ?_
      conv => whnf
      refine sym_pure hC (cmp_pure 0 (y :: s).length) ?_
      conv => whnf
      refine sym_pure hC (hx) ?_
      conv => whnf
      refine sym_pureW hC (or_pure (ordI 0 (y :: s).length) (lexI [] (y :: s))) ?_
      conv => whnf
      exact ⟨_, rfl, Wk.refl _⟩
  | cons x r =>
    cases b with
    | nil =>
      have hx : Pure prog _ [nl (x :: r), .nils] _ := hx
      show Pure prog _ [nl (x :: r), .nils] _
      refine pure_sym hE rfl (by repeat' (first | exact trivial | assumption | exact flat_no _ | exact (fun _ h => nomatch h) | apply And.intro)) (by repeat' (first | exact trivial | assumption | exact flat_no _ | exact (fun _ h => nomatch h) | apply And.intro)) fun S q pc hS hq hC hE => ?_
      conv => whnf
      refine sym_pure hC (cmp_pure (x :: r).length 0) ?_
      conv => whnf
      refine sym_pure hC (hx) ?_
      conv => whnf
      refine sym_pureW hC (or_pure (ordI (x :: r).length 0) (lexI (x :: r) [])) ?_
      conv => whnf
      exact ⟨_, rfl, Wk.refl _⟩
    | cons y s =>
      have hx : Pure prog _ [nl (x :: r), nl (y :: s)] _ := hx
      show Pure prog _ [nl (x :: r), nl (y :: s)] _
      refine pure_sym hE rfl (by repeat' (first | exact trivial | assumption | exact flat_no _ | exact (fun _ h => nomatch h) | apply And.intro)) (by repeat' (first | exact trivial | assumption | exact flat_no _ | exact (fun _ h => nomatch h) | apply And.intro)) fun S q pc hS hq hC hE => ?_
      conv => whnf
      refine sym_pure hC (cmp_pure (x :: r).length (y :: s).length) ?_
      conv => whnf
      refine sym_pure hC (hx) ?_
      conv => whnf
      refine sym_pureW hC (or_pure (ordI (x :: r).length (y :: s).length) (lexI (x :: r) (y :: s))) ?_
      conv => whnf
      exact ⟨_, rfl, Wk.refl _⟩

/-- Settings, as the program lists them. -/
def svs : List (List Int) → List AV
  | [] => []
  | x :: r => sv x :: svs r
theorem svs_no : ∀ l, Lives noL (svs l)
  | [] => trivial
  | x :: r => ⟨sv_no x, svs_no r⟩
theorem svs_len : ∀ l, (svs l).length = l.length
  | [] => rfl
  | _ :: r => by simp only [svs, List.length_cons, svs_len r]
abbrev gs (l : List (List Int)) (i : Nat) : List Int := l.getD i []
theorem nth_svs : ∀ (l : List (List Int)) (i : Nat), i < l.length → nth (svs l) i = some (sv (gs l i))
  | x :: r, 0, _ => rfl
  | x :: r, i + 1, h => nth_svs r i (by simpa using h)
  | [], i, h => absurd h (Nat.not_lt_zero _)

/-- The best of some settings: the first one that none is better than. -/
def bstS : List (List Int) → List Int
  | [] => []
  | x :: r => r.foldl (fun o y => if seI y o < 0 then y else o) x

theorem bstS_snoc (l : List (List Int)) (y : List Int) : bstS (l ++ [y]) = if l = [] ∨ seI y (bstS l) < 0 then y else bstS l := by
  cases l with
  | nil => rw [if_pos (.inl rfl)]; rfl
  | cons x r =>
    show (r ++ [y]).foldl _ x = _
    rw [List.foldl_append]
    show (if seI y (bstS (x :: r)) < 0 then y else bstS (x :: r)) = _
    by_cases h : seI y (bstS (x :: r)) < 0
    · rw [if_pos h, if_pos (.inr h)]
    · rw [if_neg h, if_neg (by rintro (k | k); cases k; exact h k)]
theorem bstS_len {n : Nat} (hn : 0 < n) : ∀ (l : List (List Int)), (∀ x, x ∈ l → x.length < n) → (bstS l).length < n
  | [], _ => hn
  | x :: r, h => by
    have : ∀ (r : List (List Int)) (o : List Int), o.length < n → (∀ x, x ∈ r → x.length < n) → (r.foldl (fun o y => if seI y o < 0 then y else o) o).length < n := by
      intro r
      induction r with
      | nil => intro o ho _; exact ho
      | cons y r ih =>
        intro o ho hr
        refine ih _ ?_ fun x hx => hr x (List.mem_cons_of_mem _ hx)
        show (if seI y o < 0 then y else o).length < n
        split
        · exact hr y List.mem_cons_self
        · exact ho
    exact this r x (h x List.mem_cons_self) fun x hx => h x (List.mem_cons_of_mem _ hx)
end Go.Abs.Seat
