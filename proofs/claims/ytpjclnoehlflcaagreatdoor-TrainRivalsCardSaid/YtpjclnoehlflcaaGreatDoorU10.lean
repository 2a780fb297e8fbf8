/-
  Lists of fractions.
  Trains held against each other.
  The best of some trains.
  The program's search for a product.
-/
import Derived.Test.YtpjclnoehlflcaaGreatDoorU8
import Derived.Test.YtpjclnoehlflcaaGreatDoorU4
import Derived.Test.YtpjclnoehlflcaaGreatDoorU9
/-! Lists of fractions. -/
namespace Go.Abs.Seat
noncomputable section
open Go Go.Abs Go.Proofs.Tryz
set_option maxRecDepth 100000
set_option maxHeartbeats 40000000
attribute [local irreducible] IntKind.wrap pEq

def fidq : List (Nat × Nat) → Nat × Nat → Int → Int
 | [], _, _ => -1
 |y :: r, x, i => if x = y then i else fidq r x (i + 1)
theorem fidq_ge : ∀ (l : List (Nat × Nat)) (x : Nat × Nat) (i : Int), 0 ≤ i → decide (fidq l x i ≥ 0) = decide (x ∈ l)
 | [], x, i, _ => by rw [decide_eq_false (show ¬ x ∈ [] from List.not_mem_nil)]; rfl
 |y :: r, x, i, h => by
  rw [fidq]
  by_cases hx : x = y
  ·rw [if_pos hx, decide_eq_true h, decide_eq_true (by rw [hx]; exact List.mem_cons_self)]
  ·rw [if_neg hx, fidq_ge r x (i + 1) (by omega)]
   exact decide_eq_decide.2 ⟨List.mem_cons_of_mem _, fun k => (List.mem_cons.1 k).resolve_left hx⟩
abbrev qf (q : Nat × Nat) : AV := fv (Int.ofNat q.1) (Int.ofNat q.2)
def gq (l : List (Nat × Nat)) (i : Nat) : Nat × Nat := l.getD i (0, 0)
theorem drop_gq (l : List (Nat × Nat)) {i : Nat} (h : i < l.length) : l.drop i = gq l i :: l.drop (i + 1) := by
 rw [List.drop_eq_getElem_cons h]
 simp [gq, List.getD, h]

theorem eqQ (ty : TypeId) (hty : ty = 24 ∨ ty = 97) (cst : Bool) (a b c d : Int) : q0 ty cst (fv a b) (fv c d) = @Bool.rec (fun _ => Option Bool) (some false) (@Bool.rec (fun _ => Option Bool) (some false) (some true) (b == d)) (a == c) := by
 rcases hty with rfl | rfl
 ·kernel_rfl
 ·kernel_rfl
theorem eqQ_same {ty : TypeId} (hty : ty = 24 ∨ ty = 97) (cst : Bool) (a b : Int) : q0 ty cst (fv a b) (fv a b) = some true := by
 rw [eqQ ty hty, show (a == a) = true from beq_self_eq_true a, show (b == b) = true from beq_self_eq_true b]
theorem eqQ_ne {ty : TypeId} (hty : ty = 24 ∨ ty = 97) (cst : Bool) (a b c d : Int) (h : ¬ (a = c ∧ b = d)) : q0 ty cst (fv a b) (fv c d) = some false := by
 rw [eqQ ty hty]
 by_cases h1 : a = c
 ·rw [show (a == c) = true from beq_iff_eq.2 h1, show (b == d) = false from beq_eq_false_iff_ne.2 fun e => h ⟨h1, e⟩]
 ·rw [show (a == c) = false from beq_eq_false_iff_ne.2 h1]
theorem takP {xs : List AV} {k o : Nat} {v : List AV} (e : takeN k (dropN o xs) = some v) : (match takeN k (dropN o xs) with | some l => Plan.ret (.agg l) | none => Plan.fail) = Plan.ret (.agg v) := by rw [e]
theorem flat_drop : ∀ (l : List (Int × Int)) (i : Nat), dropN (i * 2) (flat l) = flat (l.drop i)
 | _, 0 => rfl
 | [], i + 1 => by rw [dropN_eq, List.drop_eq_nil_of_le (Nat.zero_le _), List.drop_eq_nil_of_le (Nat.zero_le _)]; rfl
 |p :: r, i + 1 => by
  rw [show (i + 1) * 2 = i * 2 + 2 by omega, List.drop_succ_cons, ← flat_drop r i]
  rfl
theorem tak_zp (l : List (Nat × Nat)) {i : Nat} (h : i < l.length) : takeN 2 (dropN (i * 2) (flat (zp l))) = some [nv (gq l i).1, nv (gq l i).2] := by
 rw [flat_drop, zp, ← List.map_drop, drop_gq l h]
 rfl
theorem indexQ_pure (l : List (Nat × Nat)) (x : Nat × Nat) (hl : l.length < 4611686018427387904) : Pure prog 170 [pv (zp l), qf x] (iv (fidq l x 0)) := by
 have ll := flat_no (zp l)
 have hz := zp_len l
 refine pure_sym hE rfl (by repeat' (first | exact trivial | assumption | exact flat_no _ | exact (fun _ h => nomatch h) | apply And.intro)) (by repeat' (first | exact trivial | assumption | exact flat_no _ | exact (fun _ h => nomatch h) | apply And.intro)) fun S q pc hS hq hC hE => ?_
 conv => whnf
 refine sym_loop hE hS (A := Nat) [0, 3, 7] (fun i => [(8, nv i)]) (fun _ => []) (fun i => i ≤ l.length ∧ fidq (l.drop i) x i = fidq l x 0) (fun i => l.length - i) 0 rfl rfl (by refine ⟨rfl, rfl, rfl, rfl, ?_, ?_⟩ <;> repeat' (first | exact trivial | exact rfl | exact Nat.zero_le _ | exact Nat.le_of_ble_eq_true rfl | exact bdl_no (by assumption) | exact bdl_no (flat_no _) | exact bdl_no (ivs_no _) | exact Nat.max_le.2 ⟨Nat.le_of_ble_eq_true rfl, bdl_no (ivs_no _)⟩ | apply And.intro)) ⟨Nat.zero_le _, rfl⟩ ?_
 intro i ⟨hi, he⟩
 conv => whnf
 by_cases h : i < l.length
 ·refine bool_true ((show decide (Int.ofNat i < ((zp l).length : Int)) = true from decide_eq_true (by rw [hz]; show (i : Int) < _; omega))) ?_
  conv => whnf
  refine bool_true (inR_t (show i < (zp l).length by omega)) ?_
  conv => whnf
  refine plan_as (takP (tak_zp l h)) ?_
  conv => whnf
  rw [drop_gq l h, fidq] at he
  have hi1 : IntKind.i64.wrap (Int.ofNat i + 1) = Int.ofNat (i + 1) := wrapN (m := i + 1) (by omega)
  by_cases h1 : x = gq l i
  ·rw [if_pos h1] at he
   subst h1
   refine sym_eq hq true (eqQ_same (.inl rfl) _ _ _) ?_
   conv => whnf
   refine sym_drawn hS (by kernel_rfl) ?_
   conv => whnf
   rw [← he]
   exact ⟨_, rfl, Wk.refl _⟩
  ·rw [if_neg h1] at he
   refine sym_eq hq false (eqQ_ne (.inl rfl) _ _ _ _ _ fun k => h1 (Prod.ext (Int.ofNat.inj k.1) (Int.ofNat.inj k.2))) ?_
   conv => whnf
   refine sym_drawn hS (by kernel_rfl) ?_
   conv => whnf
   exact ⟨i + 1, ⟨h, he⟩, by omega, (by refine ⟨rfl, rfl, rfl, rfl, ?_, ?_⟩ <;> repeat' (first | exact trivial | exact rfl | exact Nat.zero_le _ | exact congrArg (fun z => some (AV.int .i64 z)) hi1 | exact Nat.le_of_ble_eq_true rfl | exact bdl_no (by assumption) | exact bdl_no (flat_no _) | exact bdl_no (ivs_no _) | exact Nat.max_le.2 ⟨Nat.le_of_ble_eq_true rfl, bdl_no (ivs_no _)⟩ | apply And.intro))⟩
 ·refine bool_false ((show decide (Int.ofNat i < ((zp l).length : Int)) = false from decide_eq_false (by rw [hz]; show ¬ (i : Int) < _; omega))) ?_
  conv => whnf
  rw [List.drop_eq_nil_of_le (by omega), fidq] at he
  rw [← he]
  exact ⟨_, rfl, Wk.refl _⟩
theorem indexQ_nils (x : Nat × Nat) : Pure prog 170 [.nils, qf x] (iv (-1)) := by
 refine pure_sym hE rfl (by repeat' (first | exact trivial | assumption | exact flat_no _ | exact (fun _ h => nomatch h) | apply And.intro)) (by repeat' (first | exact trivial | assumption | exact flat_no _ | exact (fun _ h => nomatch h) | apply And.intro)) fun S q pc hS hq hC hE => ?_
 conv => whnf
 refine sym_unroll hE hS ?_
 conv => whnf
 exact ⟨_, rfl, Wk.refl _⟩
theorem containsQ_pure (l : List (Nat × Nat)) (hl : l.length < 4611686018427387904) (x : Nat × Nat) : Pure prog 161 [pv (zp l), qf x] (.bool (decide (x ∈ l))) := by
 have ll := flat_no (zp l)
 refine pure_sym hE rfl (by repeat' (first | exact trivial | assumption | exact flat_no _ | exact (fun _ h => nomatch h) | apply And.intro)) (by repeat' (first | exact trivial | assumption | exact flat_no _ | exact (fun _ h => nomatch h) | apply And.intro)) fun S q pc hS hq hC hE => ?_
 conv => whnf
 refine sym_pure hC (indexQ_pure l x hl) ?_
 conv => whnf
 exact ⟨_, rfl, wkb (fidq_ge l x 0 (Int.le_refl _))⟩
theorem containsQ_nils (x : Nat × Nat) : Pure prog 161 [.nils, qf x] (.bool false) := by
 refine pure_sym hE rfl (by repeat' (first | exact trivial | assumption | exact flat_no _ | exact (fun _ h => nomatch h) | apply And.intro)) (by repeat' (first | exact trivial | assumption | exact flat_no _ | exact (fun _ h => nomatch h) | apply And.intro)) fun S q pc hS hq hC hE => ?_
 conv => whnf
 refine sym_pure hC (indexQ_nils x) ?_
 conv => whnf
 exact ⟨_, rfl, Wk.refl _⟩
end
end Go.Abs.Seat

/-! Trains held against each other. -/
namespace Go.Abs.Seat
noncomputable section
open Go Go.Abs Go.Proofs.Tryz
set_option maxRecDepth 100000
set_option maxHeartbeats 40000000
attribute [local irreducible] IntKind.wrap pEq

def lexQ : List (Nat × Nat) → List (Nat × Nat) → Int
 | [], [] => 0
 | [], _ :: _ => -1
 | _ :: _, [] => 1
 |p :: r, q :: s => if ordP (Int.ofNat p.1) (Int.ofNat p.2) (Int.ofNat q.1) (Int.ofNat q.2) = 0 then lexQ r s else ordP (Int.ofNat p.1) (Int.ofNat p.2) (Int.ofNat q.1) (Int.ofNat q.2)
theorem ordQ_lt {p q : Nat × Nat} : ordP (Int.ofNat p.1) (Int.ofNat p.2) (Int.ofNat q.1) (Int.ofNat q.2) < 0 ↔ ltQ p q := by
 rw [ordP_lt]
 unfold ltQ
 simp only [Int.ofNat_eq_natCast]
 omega
theorem ordQ_eq {p q : Nat × Nat} : ordP (Int.ofNat p.1) (Int.ofNat p.2) (Int.ofNat q.1) (Int.ofNat q.2) = 0 ↔ p = q := by
 obtain ⟨a, b⟩ := p
 obtain ⟨c, d⟩ := q
 unfold ordP ordI
 simp only [Int.ofNat_eq_natCast, Prod.mk.injEq]
 repeat' split
 all_goals omega
theorem lexQ_lt : ∀ {u v : List (Nat × Nat)}, u.length = v.length → (lexQ u v < 0 ↔ ltL u v)
 | [], [], _ => by simp [lexQ, ltL]
 | [], _ :: _, h => by cases h
 | _ :: _, [], h => by cases h
 |p :: r, q :: s, h => by
  rw [lexQ, ltL]
  by_cases e : p = q
  ·rw [if_pos (ordQ_eq.2 e), lexQ_lt (by simpa using h)]
   exact ⟨fun k => .inr ⟨e, k⟩, fun k => k.elim (fun k => absurd (e ▸ k) (ltQ_irr _)) (·.2)⟩
  ·rw [if_neg fun k => e (ordQ_eq.1 k), ordQ_lt]
   exact ⟨.inl, fun k => k.elim id fun k => absurd k.1 e⟩
theorem drop_nil_gq {l : List (Nat × Nat)} {i : Nat} (h : l.length ≤ i) : l.drop i = [] := List.drop_eq_nil_of_le h

theorem cmpF_pure (u v : List (Nat × Nat)) (hu : u.length < 4611686018427387904) : Pure prog 112 [pv (zp u), pv (zp v), .func (.func 86) [] []] (iv (lexQ u v)) := by
 have lu := flat_no (zp u)
 have lw := flat_no (zp v)
 have hzu := zp_len u
 have hzv := zp_len v
 refine pure_sym hE rfl (by repeat' (first | exact trivial | assumption | exact flat_no _ | exact (fun _ h => nomatch h) | apply And.intro)) (by repeat' (first | exact trivial | assumption | exact flat_no _ | exact (fun _ h => nomatch h) | apply And.intro)) fun S q pc hS hq hC hE => ?_
 conv => whnf
 refine sym_loop hE hS (A := Nat) [0, 1, 2, 11, 12] (fun i => [(13, nv i)]) (fun _ => []) (fun i => i ≤ u.length ∧ i ≤ v.length ∧ lexQ (u.drop i) (v.drop i) = lexQ u v) (fun i => u.length - i) 0 rfl rfl (by refine ⟨rfl, rfl, rfl, rfl, ?_, ?_⟩ <;> repeat' (first | exact trivial | exact rfl | exact Nat.zero_le _ | exact Nat.le_of_ble_eq_true rfl | exact bdl_no (by assumption) | exact bdl_no (flat_no _) | exact bdl_no (ivs_no _) | exact Nat.max_le.2 ⟨Nat.le_of_ble_eq_true rfl, bdl_no (ivs_no _)⟩ | apply And.intro)) ⟨Nat.zero_le _, Nat.zero_le _, rfl⟩ ?_
 intro i ⟨hi, hi2, he⟩
 have hi1 : i < u.length → IntKind.i64.wrap (Int.ofNat i + 1) = Int.ofNat (i + 1) := fun h => wrapN (m := i + 1) (by omega)
 conv => whnf
 by_cases h : i < u.length
 ·refine bool_true ((show decide (Int.ofNat i < ((zp u).length : Int)) = true from decide_eq_true (by rw [hzu]; show (i : Int) < _; omega))) ?_
  conv => whnf
  refine bool_true (inR_t (show i < (zp u).length by omega)) ?_
  conv => whnf
  refine plan_as (takP (tak_zp u h)) ?_
  conv => whnf
  rw [drop_gq u h] at he
  by_cases h2 : i < v.length
  ·refine bool_false ((show decide (Int.ofNat i ≥ ((zp v).length : Int)) = false from decide_eq_false (by rw [hzv]; show ¬ ((v.length : Int) ≤ (i : Int)); omega))) ?_
   conv => whnf
   refine bool_true (inR_t (show i < (zp v).length by omega)) ?_
   conv => whnf
   refine plan_as (takP (tak_zp v h2)) ?_
   conv => whnf
   rw [drop_gq v h2, lexQ] at he
   refine sym_pure hC (inOrder_pure (Int.ofNat (gq u i).1) (Int.ofNat (gq u i).2) (Int.ofNat (gq v i).1) (Int.ofNat (gq v i).2)) ?_
   conv => whnf
   by_cases h3 : ordP (Int.ofNat (gq u i).1) (Int.ofNat (gq u i).2) (Int.ofNat (gq v i).1) (Int.ofNat (gq v i).2) = 0
   ·refine bool_false ((show (ordP (Int.ofNat (gq u i).1) (Int.ofNat (gq u i).2) (Int.ofNat (gq v i).1) (Int.ofNat (gq v i).2) != 0) = false by rw [h3]; rfl)) ?_
    conv => whnf
    rw [if_pos h3] at he
    exact ⟨i + 1, ⟨h, h2, he⟩, by omega, (by refine ⟨rfl, rfl, rfl, rfl, ?_, ?_⟩ <;> repeat' (first | exact trivial | exact rfl | exact Nat.zero_le _ | exact congrArg (fun z => some (AV.int .i64 z)) (hi1 h) | exact Nat.le_of_ble_eq_true rfl | exact bdl_no (by assumption) | exact bdl_no (flat_no _) | exact bdl_no (ivs_no _) | exact Nat.max_le.2 ⟨Nat.le_of_ble_eq_true rfl, bdl_no (ivs_no _)⟩ | apply And.intro))⟩
   ·refine bool_true ((show (ordP (Int.ofNat (gq u i).1) (Int.ofNat (gq u i).2) (Int.ofNat (gq v i).1) (Int.ofNat (gq v i).2) != 0) = true from bne_iff_ne.2 h3)) ?_
    conv => whnf
    rw [if_neg h3] at he
    rw [← he]
    exact ⟨_, rfl, Wk.refl _⟩
  ·refine bool_true ((show decide (Int.ofNat i ≥ ((zp v).length : Int)) = true from decide_eq_true (by rw [hzv]; show ((v.length : Int) ≤ (i : Int)); omega))) ?_
   conv => whnf
   rw [drop_nil_gq (l := v) (by omega), lexQ] at he
   rw [← he]
   exact ⟨_, rfl, Wk.refl _⟩
 ·refine bool_false ((show decide (Int.ofNat i < ((zp u).length : Int)) = false from decide_eq_false (by rw [hzu]; show ¬ (i : Int) < _; omega))) ?_
  conv => whnf
  rw [drop_nil_gq (l := u) (by omega)] at he
  by_cases h2 : u.length < v.length
  ·refine bool_true ((show decide (((zp u).length : Int) < ((zp v).length : Int)) = true from decide_eq_true (by rw [hzu, hzv]; omega))) ?_
   conv => whnf
   rw [drop_gq v (by omega), lexQ] at he
   rw [← he]
   exact ⟨_, rfl, Wk.refl _⟩
  ·refine bool_false ((show decide (((zp u).length : Int) < ((zp v).length : Int)) = false from decide_eq_false (by rw [hzu, hzv]; omega))) ?_
   conv => whnf
   rw [drop_nil_gq (l := v) (by omega), lexQ] at he
   rw [← he]
   exact ⟨_, rfl, Wk.refl _⟩
theorem lessT_pure (u v : List (Nat × Nat)) (hu : u.length < 4611686018427387904) : Pure prog 139 [pv (zp u), pv (zp v)] (.bool (decide (lexQ u v < 0))) := by
 have lu := flat_no (zp u)
 have lw := flat_no (zp v)
 refine pure_sym hE rfl (by repeat' (first | exact trivial | assumption | exact flat_no _ | exact (fun _ h => nomatch h) | apply And.intro)) (by repeat' (first | exact trivial | assumption | exact flat_no _ | exact (fun _ h => nomatch h) | apply And.intro)) fun S q pc hS hq hC hE => ?_
 conv => whnf
 refine sym_pure hC (cmpF_pure u v hu) ?_
 conv => whnf
 exact ⟨_, rfl, Wk.refl _⟩
end
end Go.Abs.Seat

/-! The best of some trains. -/
namespace Go.Abs.Seat
noncomputable section
open Go Go.Abs Go.Proofs.Tryz
set_option maxRecDepth 100000
set_option maxHeartbeats 40000000
attribute [local irreducible] IntKind.wrap pEq

def tls : List (List (Nat × Nat)) → List AV
 | [] => []
 |t :: r => pv (zp t) :: tls r
theorem tls_no : ∀ l, Lives noL (tls l)
 | [] => trivial
 | _ :: r => ⟨pv_no _, tls_no r⟩
theorem tls_len : ∀ l, (tls l).length = l.length
 | [] => rfl
 | _ :: r => by simp only [tls, List.length_cons, tls_len r]
abbrev gt (l : List (List (Nat × Nat))) (i : Nat) : List (Nat × Nat) := l.getD i []
theorem nth_tls : ∀ (l : List (List (Nat × Nat))) (i : Nat), i < l.length → nth (tls l) i = some (pv (zp (gt l i)))
 | _ :: _, 0, _ => rfl
 | _ :: r, i + 1, h => nth_tls r i (by simpa using h)
 | [], _, h => absurd h (Nat.not_lt_zero _)
theorem take_gt (l : List (List (Nat × Nat))) {i : Nat} (h : i < l.length) : l.take (i + 1) = l.take i ++ [gt l i] := by
 rw [List.take_succ_eq_append_getElem h]
 simp [gt, List.getD, h]
theorem gt_mem (l : List (List (Nat × Nat))) {i : Nat} (h : i < l.length) : gt l i ∈ l := by
 have e : gt l i = l[i] := by simp [gt, List.getD, h]
 rw [e]; exact List.getElem_mem h
def bstT : List (List (Nat × Nat)) → List (Nat × Nat)
 | [] => []
 |x :: r => r.foldl (fun o y => if lexQ y o < 0 then y else o) x
theorem bstT_snoc (l : List (List (Nat × Nat))) (y : List (Nat × Nat)) : bstT (l ++ [y]) = if l = [] ∨ lexQ y (bstT l) < 0 then y else bstT l := by
 cases l with
 |nil => rw [if_pos (.inl rfl)]; rfl
 |cons x r =>
  show (r ++ [y]).foldl _ x = _
  rw [List.foldl_append]
  show (if lexQ y (bstT (x :: r)) < 0 then y else bstT (x :: r)) = _
  by_cases h : lexQ y (bstT (x :: r)) < 0
  ·rw [if_pos h, if_pos (.inr h)]
  ·rw [if_neg h, if_neg (by rintro (k | k); cases k; exact h k)]
theorem bstT_ok {n : Nat} : ∀ {l : List (List (Nat × Nat))}, l ≠ [] → (∀ t, t ∈ l → t.length = n) → bstT l ∈ l ∧ ∀ t, t ∈ l → ¬ ltL t (bstT l) := by
 intro l
 cases l with
 |nil => exact fun h => absurd rfl h
 |cons x r =>
  intro _ hl
  suffices ∀ (r S : List (List (Nat × Nat))) (o : List (Nat × Nat)), (∀ t, t ∈ S → t.length = n) → (∀ t, t ∈ r → t.length = n) → o ∈ S → (∀ t, t ∈ S → ¬ ltL t o) → r.foldl (fun o y => if lexQ y o < 0 then y else o) o ∈ S ++ r ∧ ∀ t, t ∈ S ++ r → ¬ ltL t (r.foldl (fun o y => if lexQ y o < 0 then y else o) o) by
   exact this r [x] x (fun t h => hl t (by rw [List.mem_singleton.1 h]; simp)) (fun t h => hl t (by simp [h])) (by simp) (fun t h => by rw [List.mem_singleton.1 h]; exact ltL_irr x)
  intro r
  induction r with
  |nil => intro S o _ _ ho hm; rw [List.append_nil]; exact ⟨ho, hm⟩
  |cons y r ih =>
   intro S o hS hr ho hm
   have hy := hr y (by simp)
   rw [show S ++ y :: r = (S ++ [y]) ++ r by simp]
   refine ih (S ++ [y]) _ (fun t h => ?_) (fun t h => hr t (by simp [h])) ?_ fun t h => ?_
   ·rcases List.mem_append.1 h with h | h
    ·exact hS t h
    ·rw [List.mem_singleton.1 h]; exact hy
   ·show (if lexQ y o < 0 then y else o) ∈ S ++ [y]
    split
    ·simp
    ·exact List.mem_append_left _ ho
   ·show ¬ ltL t (if lexQ y o < 0 then y else o)
    have hyo := lexQ_lt (u := y) (v := o) (by rw [hy, hS o ho])
    split
    ·rename_i k
     have k := hyo.1 k
     rcases List.mem_append.1 h with h | h
     ·exact fun e => hm t h (ltL_trans e k)
     ·rw [List.mem_singleton.1 h]; exact ltL_irr y
    ·rename_i k
     rcases List.mem_append.1 h with h | h
     ·exact hm t h
     ·rw [List.mem_singleton.1 h]; exact fun e => k (hyo.2 e)

theorem wkT2 {x : AV} {b b' : Bool} (h : b = b') : Wk (.tup [x, .bool b]) (.tup [x, .bool b']) := by subst h; exact Wk.refl _
theorem bestT_pure (l : List (List (Nat × Nat))) (hne : l ≠ []) (hl : l.length < 4611686018427387904) (hx : ∀ x, x ∈ l → x.length < 4611686018427387904) :
  Pure prog 138 [.lst (tls l) l.length .no, .func (.func 139) [] []] (.tup [pv (zp (bstT l)), .bool true]) := by
 have ls := tls_no l
 have lo := pv_no (zp (bstT l))
 have h0 : 0 < l.length := by
  cases l with
  |nil => exact absurd rfl hne
  |cons => rw [List.length_cons]; omega
 refine pure_sym hE rfl (by repeat' (first | exact trivial | assumption | exact flat_no _ | exact (fun _ h => nomatch h) | apply And.intro)) (by repeat' (first | exact trivial | assumption | exact flat_no _ | exact (fun _ h => nomatch h) | apply And.intro)) fun S q pc hS hq hC hE => ?_
 conv => whnf
 refine sym_loop hE hS (A := Nat × AV) [0, 1, 9, 10] (fun (i, v) => [(6, v), (11, nv i)]) (fun _ => []) (fun (i, v) => i ≤ l.length ∧ (i = 0 ∧ v = .nils ∨ 1 ≤ i ∧ v = pv (zp (bstT (l.take i))))) (fun (i, _) => l.length - i) (0, .nils) rfl rfl (by refine ⟨rfl, rfl, rfl, rfl, ?_, ?_⟩ <;> repeat' (first | exact trivial | exact rfl | exact Nat.zero_le _ | exact Nat.le_of_ble_eq_true rfl | exact bdl_no (by assumption) | exact bdl_no (flat_no _) | exact bdl_no (ivs_no _) | exact Nat.max_le.2 ⟨Nat.le_of_ble_eq_true rfl, bdl_no (ivs_no _)⟩ | apply And.intro)) ⟨Nat.zero_le _, .inl ⟨rfl, rfl⟩⟩ ?_
 rintro ⟨i, v⟩ ⟨hi, hR⟩
 have hi1 : i < l.length → IntKind.i64.wrap (Int.ofNat i + 1) = Int.ofNat (i + 1) := fun h => wrapN (m := i + 1) (by omega)
 rcases hR with ⟨rfl, rfl⟩ | ⟨h1, rfl⟩
 ·have lg := flat_no (zp (gt l 0))
  conv => whnf
  refine bool_true ((show decide (Int.ofNat 0 < (l.length : Int)) = true from decide_eq_true (by show (0 : Int) < _; omega))) ?_
  conv => whnf
  refine bool_true (inR_t (show 0 < l.length from h0)) ?_
  conv => whnf
  refine plan_as (nthP (show nth (tls l) (0 * 1) = some (pv (zp (gt l 0))) from nth_tls l 0 h0)) ?_
  conv => whnf
  have ht : bstT (l.take 1) = gt l 0 := by rw [show l.take 1 = l.take 0 ++ [gt l 0] from take_gt l h0]; rfl
  exact ⟨(1, pv (zp (gt l 0))), ⟨h0, .inr ⟨Nat.le_refl _, by rw [ht]⟩⟩, by show l.length - 1 < l.length - 0; omega, (by refine ⟨rfl, rfl, rfl, rfl, ?_, ?_⟩ <;> repeat' (first | exact trivial | exact rfl | exact Nat.zero_le _ | exact congrArg (fun z => some (AV.int .i64 z)) (hi1 h0) | exact Nat.le_of_ble_eq_true rfl | exact bdl_no (by assumption) | exact bdl_no (flat_no _) | exact bdl_no (ivs_no _) | exact Nat.max_le.2 ⟨Nat.le_of_ble_eq_true rfl, bdl_no (ivs_no _)⟩ | apply And.intro))⟩
 ·have lq := flat_no (zp (bstT (l.take i)))
  have lg := flat_no (zp (gt l i))
  conv => whnf
  by_cases h : i < l.length
  ·refine bool_true ((show decide (Int.ofNat i < (l.length : Int)) = true from decide_eq_true (by show (i : Int) < _; omega))) ?_
   conv => whnf
   refine bool_true (inR_t (show i < l.length from h)) ?_
   conv => whnf
   refine plan_as (nthP (show nth (tls l) (i * 1) = some (pv (zp (gt l i))) by rw [Nat.mul_one]; exact nth_tls l i h)) ?_
   conv => whnf
   have hz : (Int.ofNat i == 0) = false := eqN_f (b := 0) (by omega)
   have hc := lessT_pure (gt l i) (bstT (l.take i)) (hx _ (gt_mem l h))
   have hsn : bstT (l.take (i + 1)) = _ := (congrArg bstT (take_gt l h)).trans (bstT_snoc _ _)
   have htn : l.take i ≠ [] := fun e => by
    have := congrArg List.length e
    rw [List.length_take, List.length_nil] at this
    omega
   repeat ((first
    |refine ko_sT hz ?_
    |refine ko_rF hz ?_
    |refine plan_as (pick_f hz) ?_
    |refine bool_false hz ?_
    |refine sym_pure hC (hc) ?_
    |refine sym_drawn hS (by kernel_rfl) ?_); conv => whnf)
   by_cases h3 : lexQ (gt l i) (bstT (l.take i)) < 0
   ·refine bool_true (decide_eq_true h3) ?_
    conv => whnf
    rw [if_pos (.inr h3)] at hsn
    exact ⟨(i + 1, pv (zp (gt l i))), ⟨h, .inr ⟨by omega, by rw [hsn]⟩⟩, by show l.length - (i + 1) < l.length - i; omega, (by refine ⟨rfl, rfl, rfl, rfl, ?_, ?_⟩ <;> repeat' (first | exact trivial | exact rfl | exact Nat.zero_le _ | exact congrArg (fun z => some (AV.int .i64 z)) (hi1 h) | exact Nat.le_of_ble_eq_true rfl | exact bdl_no (by assumption) | exact bdl_no (flat_no _) | exact bdl_no (ivs_no _) | exact Nat.max_le.2 ⟨Nat.le_of_ble_eq_true rfl, bdl_no (ivs_no _)⟩ | apply And.intro))⟩
   ·refine bool_false (decide_eq_false h3) ?_
    conv => whnf
    rw [if_neg (by rintro (k | k); exact htn k; exact h3 k)] at hsn
    exact ⟨(i + 1, pv (zp (bstT (l.take i)))), ⟨h, .inr ⟨by omega, by rw [hsn]⟩⟩, by show l.length - (i + 1) < l.length - i; omega, (by refine ⟨rfl, rfl, rfl, rfl, ?_, ?_⟩ <;> repeat' (first | exact trivial | exact rfl | exact Nat.zero_le _ | exact congrArg (fun z => some (AV.int .i64 z)) (hi1 h) | exact Nat.le_of_ble_eq_true rfl | exact bdl_no (by assumption) | exact bdl_no (flat_no _) | exact bdl_no (ivs_no _) | exact Nat.max_le.2 ⟨Nat.le_of_ble_eq_true rfl, bdl_no (ivs_no _)⟩ | apply And.intro))⟩
  ·refine bool_false ((show decide (Int.ofNat i < (l.length : Int)) = false from decide_eq_false (by show ¬ (i : Int) < _; omega))) ?_
   conv => whnf
   rw [List.take_of_length_le (by omega)]
   exact ⟨_, rfl, wkT2 (decide_eq_true (show (l.length : Int) > 0 by omega))⟩
end
end Go.Abs.Seat

/-! The program's search for a product. -/
namespace Go.Abs.Seat
noncomputable section
open Go Go.Abs Go.Proofs.Tryz
set_option maxRecDepth 100000
set_option maxHeartbeats 40000000
attribute [local irreducible] IntKind.wrap pEq

abbrev midA (i j : Nat) : Int := IntKind.i64.wrap ((IntKind.u64.wrap (IntKind.i64.wrap (Int.ofNat i + Int.ofNat j))).fdiv (2 ^ min (Int.toNat 1) IntKind.u64.bits))
theorem wrapU {m : Nat} (h : m < 18446744073709551616) : IntKind.u64.wrap (Int.ofNat m) = Int.ofNat m := by
 unfold IntKind.wrap
 have e1 : (2 : Int) ^ IntKind.u64.bits = 18446744073709551616 := rfl
 simp only [e1]
 rw [if_neg (by simp only [Bool.and_eq_true]; exact fun e => absurd e.1 (by decide))]
 show ((m : Int)) % 18446744073709551616 = m
 omega
theorem midA_eq (i j : Nat) (h : i + j ≤ 9223372036854775807) : midA i j = Int.ofNat ((i + j) / 2) := by
 unfold midA
 rw [show IntKind.i64.wrap (Int.ofNat i + Int.ofNat j) = Int.ofNat (i + j) from wrapN (m := i + j) (by omega), wrapU (by omega), show (2 : Int) ^ min (Int.toNat 1) IntKind.u64.bits = 2 by decide, show (Int.ofNat (i + j)).fdiv 2 = Int.ofNat ((i + j) / 2) by rw [Int.fdiv_eq_ediv_of_nonneg _ (by decide)]; show ((i + j : Nat) : Int) / 2 = (((i + j) / 2 : Nat) : Int); omega]
 exact wrapN (m := (i + j) / 2) (by omega)
theorem ordN_lt {a b : Nat} : ordI (Int.ofNat a) (Int.ofNat b) < 0 ↔ a < b := by
 unfold ordI
 simp only [Int.ofNat_eq_natCast]
 split
 ·omega
 ·split <;> omega
theorem wkv_tup2 (x y : AV) : WkV (.tup [x, y]) (.tup [x, .unk]) := by
 refine ⟨fun g w u hu => ?_, fun L h => ⟨h.1, trivial, trivial⟩⟩
 simp only [VRel] at hu ⊢
 obtain ⟨vs, h1, v0, us0, e0, h0, v1, us1, e1, h2, h3⟩ := hu
 exact ⟨vs, h1, v0, us0, e0, h0, v1, us1, e1, trivial, h3⟩
abbrev hpW (W0 : AObj) (N D : Nat) : Tr AObj := .node W0 (.node (.cells (.node (nv N) (.node (nv D) .nil .nil) .nil) 2 24) .nil .nil) .nil
theorem hpW_end (W0 : AObj) (N D : Nat) : HEnd (hpW W0 N D) 2 := fun i hi => by
 match i, hi with
 |i + 2, _ =>
  unfold Tr.get
  by_cases hp : (i + 1) % 2 = 0
  ·rw [Tr.pathOf_odd hp]
   have h2 : (i + 1) / 2 = (i + 1) / 2 - 1 + 1 := by omega
   rw [h2]
   by_cases hq : ((i + 1) / 2 - 1) % 2 = 0
   ·rw [Tr.pathOf_odd hq]; exact getP_nil _
   ·rw [Tr.pathOf_even hq]; exact getP_nil _
  ·rw [Tr.pathOf_even hp]; exact getP_nil _

theorem bs_h {W0 : AObj} (hW : BdO 2 W0) (N D : Nat) (hN : N ≤ 50000) (l : List Nat) (hs : Srt l) (hl : l.length ≤ 216001) (hb : ∀ x, x ∈ l → x ≤ 216000) (w : Nat) :
  HFun prog 159 [nl (zl l), nv w, .func (.func 160) [] [.ptr 1 0]] (hv (hpW W0 N D)) 2 (.tup [nv (cntB N w l), .unk]) (hv (hpW W0 N D)) := by
 have ll := ivs_no (zl l)
 have hz := zl_len l
 have hcl := cnt_le N w l
 refine hfun_sym hE rfl (hpW_end W0 N D) (by repeat' (first | exact Nat.zero_le _ | exact Nat.le_of_ble_eq_true rfl | exact Nat.max_le.2 ⟨bdl_no (flat_no _), Nat.zero_le _⟩ | apply Nat.max_le.2 | apply And.intro | exact bdl_no ll)) (Nat.zero_le _) ⟨⟨Nat.zero_le _, ⟨Nat.zero_le _, trivial, trivial⟩, trivial⟩, hW, trivial⟩ ⟨⟨Nat.zero_le _, ⟨Nat.zero_le _, trivial, trivial⟩, trivial⟩, hW, trivial⟩ fun S q pc hS hq hC hE => ?_
 conv => whnf
 refine sym_loopZ hE hS (A := Nat × Nat) [] (fun x hx => hx) [0, 1, 2, 8] (fun (i, j) => [(9, nv i), (10, nv j)]) (fun _ => []) (fun _ => []) (fun (i, j) => i ≤ cntB N w l ∧ cntB N w l ≤ j ∧ j ≤ l.length) (fun (i, j) => j - i) (0, l.length) (Nat.le_of_ble_eq_true rfl) trivial rfl (by repeat' (first | exact trivial | exact Nat.zero_le _ | exact hW | exact Nat.le_of_ble_eq_true rfl | exact bdl_no (by assumption) | exact bdl_no (flat_no _) | exact bdl_no (ivs_no _) | exact bdl_no (svs_no _) | exact Nat.max_le.2 ⟨Nat.le_of_ble_eq_true rfl, bdl_no (ivs_no _)⟩ | exact Nat.max_le.2 ⟨Nat.le_of_ble_eq_true rfl, bdl_no (svs_no _)⟩ | apply And.intro)) (by refine ⟨rfl, rfl, rfl, rfl, rfl, rfl, 2, rfl, ?_, ?_, ?_, ?_, by kernel_rfl⟩ <;> repeat' (first | exact trivial | exact rfl | exact ⟨_, rfl, WkV.refl _⟩ | exact ⟨_, rfl, WkV.own _ _ _⟩ | exact TrIw.refl _ _ _ _ _ | exact OWk.same _ | exact OWk.loop _ _ _ _ _ _ _ (by repeat' (first | exact trivial | exact WkV.refl _ | exact WkV.unk _ | apply And.intro)) | exact Nat.zero_le _ | exact hW | exact ⟨_, rfl, WkV.int (congrArg Int.ofNat hz)⟩ | exact Nat.le_of_ble_eq_true rfl | exact bdl_no (by assumption) | exact bdl_no (flat_no _) | exact bdl_no (ivs_no _) | exact bdl_no (svs_no _) | exact Nat.max_le.2 ⟨Nat.le_of_ble_eq_true rfl, bdl_no (ivs_no _)⟩ | exact Nat.max_le.2 ⟨Nat.le_of_ble_eq_true rfl, bdl_no (svs_no _)⟩ | apply And.intro)) ⟨Nat.zero_le _, hcl, Nat.le_refl _⟩ ?_
 rintro ⟨i, j⟩ ⟨h1, h2, h3⟩ M hM
 obtain rfl : M = 2 := hM
 conv => whnf
 have hm1 : cntB N w l = cntB N w l := rfl
 by_cases hij : i < j
 ·have hmid := midA_eq i j (by omega)
  have hml : (i + j) / 2 < l.length := by omega
  have hmi : i ≤ (i + j) / 2 := by omega
  have hmj : (i + j) / 2 < j := by omega
  generalize (i + j) / 2 = m at hmid hml hmi hmj
  have hgm := hb _ (gn_mem l hml)
  have hmul : gn l m * N ≤ 216000 * 50000 := Nat.mul_le_mul hgm hN
  have hw : IntKind.i64.wrap (Int.ofNat (gn l m) * Int.ofNat N) = Int.ofNat (gn l m * N) := mulN (by omega)
  have hm1w : IntKind.i64.wrap (midA i j + 1) = Int.ofNat (m + 1) := by rw [hmid]; exact wrapN (m := m + 1) (by omega)
  refine bool_true (ltN_t hij) ?_
  conv => whnf
  refine bool_true ((show inR (midA i j) (zl l).length = true by rw [hmid]; exact inR_t (by omega))) ?_
  conv => whnf
  refine plan_as (nthP (show nth (ivs (zl l)) ((midA i j).toNat * 1) = some (nv (gn l m)) by rw [hmid]; show nth (ivs (zl l)) (m * 1) = _; rw [nth_ivs1 (by omega), gi_zl l hml])) ?_
  conv => whnf
  refine sym_call hC ?_
  conv => whnf
  refine sym_inline hE hS ?_
  conv => whnf
  refine sym_pure hC (cmp_pure (IntKind.i64.wrap (Int.ofNat (gn l m) * Int.ofNat N)) (Int.ofNat w)) ?_
  conv => whnf
  by_cases hc : gn l m * N < w
  ·refine bool_true ((show decide (ordI (IntKind.i64.wrap (Int.ofNat (gn l m) * Int.ofNat N)) (Int.ofNat w) < 0) = true by rw [hw]; exact decide_eq_true (ordN_lt.2 hc))) ?_
   conv => whnf
   exact ⟨(m + 1, j), ⟨Nat.lt_of_not_le fun k => cnt_ge hs k hml hc, h2, h3⟩, by show j - (m + 1) < j - i; omega, Nat.le_refl _, (by refine ⟨rfl, rfl, rfl, rfl, rfl, rfl, 2, rfl, ?_, ?_, ?_, ?_, by kernel_rfl⟩ <;> repeat' (first | exact trivial | exact rfl | exact ⟨_, rfl, WkV.refl _⟩ | exact ⟨_, rfl, WkV.own _ _ _⟩ | exact TrIw.refl _ _ _ _ _ | exact OWk.same _ | exact OWk.loop _ _ _ _ _ _ _ (by repeat' (first | exact trivial | exact WkV.refl _ | exact WkV.unk _ | apply And.intro)) | exact Nat.zero_le _ | exact hW | exact ⟨_, rfl, WkV.int hm1w⟩ | exact Nat.le_of_ble_eq_true rfl | exact bdl_no (by assumption) | exact bdl_no (flat_no _) | exact bdl_no (ivs_no _) | exact bdl_no (svs_no _) | exact Nat.max_le.2 ⟨Nat.le_of_ble_eq_true rfl, bdl_no (ivs_no _)⟩ | exact Nat.max_le.2 ⟨Nat.le_of_ble_eq_true rfl, bdl_no (svs_no _)⟩ | apply And.intro))⟩
  ·refine bool_false ((show decide (ordI (IntKind.i64.wrap (Int.ofNat (gn l m) * Int.ofNat N)) (Int.ofNat w) < 0) = false by rw [hw]; exact decide_eq_false fun k => hc (ordN_lt.1 k))) ?_
   conv => whnf
   exact ⟨(i, m), ⟨h1, Nat.le_of_not_lt fun k => hc (cnt_lt N w l m k), by show m ≤ l.length; omega⟩, by show m - i < j - i; omega, Nat.le_refl _, (by refine ⟨rfl, rfl, rfl, rfl, rfl, rfl, 2, rfl, ?_, ?_, ?_, ?_, by kernel_rfl⟩ <;> repeat' (first | exact trivial | exact rfl | exact ⟨_, rfl, WkV.refl _⟩ | exact ⟨_, rfl, WkV.own _ _ _⟩ | exact TrIw.refl _ _ _ _ _ | exact OWk.same _ | exact OWk.loop _ _ _ _ _ _ _ (by repeat' (first | exact trivial | exact WkV.refl _ | exact WkV.unk _ | apply And.intro)) | exact Nat.zero_le _ | exact hW | exact ⟨_, rfl, WkV.int hmid⟩ | exact Nat.le_of_ble_eq_true rfl | exact bdl_no (by assumption) | exact bdl_no (flat_no _) | exact bdl_no (ivs_no _) | exact bdl_no (svs_no _) | exact Nat.max_le.2 ⟨Nat.le_of_ble_eq_true rfl, bdl_no (ivs_no _)⟩ | exact Nat.max_le.2 ⟨Nat.le_of_ble_eq_true rfl, bdl_no (svs_no _)⟩ | apply And.intro))⟩
 ·refine bool_false (ltN_f hij) ?_
  conv => whnf
  refine .inl ?_
  conv => whnf
  have ei : i = cntB N w l := by omega
  by_cases hil : i < l.length
  ·have hlt2 : decide (Int.ofNat i < ((zl l).length : Int)) = true := decide_eq_true (by rw [hz]; show (i : Int) < _; omega)
   repeat ((first
    |refine ko_rT hlt2 ?_
    |refine ko_sF hlt2 ?_
    |refine plan_as (pick_t hlt2) ?_
    |refine bool_true hlt2 ?_
    |refine sym_drawn hS (by kernel_rfl) ?_); conv => whnf)
   refine plan_as (nthP (show nth (ivs (zl l)) (i * 1) = some (nv (gn l i)) by rw [nth_ivs1 (by omega), gi_zl l hil])) ?_
   conv => whnf
   repeat ((first
    |refine ko_rT hlt2 ?_
    |refine ko_sF hlt2 ?_
    |refine plan_as (pick_t hlt2) ?_
    |refine bool_true hlt2 ?_
    |refine sym_drawn hS (by kernel_rfl) ?_); conv => whnf)
   refine sym_call hC ?_
   conv => whnf
   refine sym_inline hE hS ?_
   conv => whnf
   refine sym_pure hC (cmp_pure (IntKind.i64.wrap (Int.ofNat (gn l i) * Int.ofNat N)) (Int.ofNat w)) ?_
   conv => whnf
   repeat ((first
    |refine ko_rT hlt2 ?_
    |refine ko_sF hlt2 ?_
    |refine plan_as (pick_t hlt2) ?_
    |refine bool_true hlt2 ?_
    |refine sym_drawn hS (by kernel_rfl) ?_); conv => whnf)
   exact ⟨_, rfl, by rw [← ei]; exact wkv_tup2 _ _, ⟨rfl, rfl, trivial⟩⟩
  ·have hlt2 : decide (Int.ofNat i < ((zl l).length : Int)) = false := decide_eq_false (by rw [hz]; show ¬ (i : Int) < _; omega)
   repeat ((first
    |refine ko_sT hlt2 ?_
    |refine ko_rF hlt2 ?_
    |refine plan_as (pick_f hlt2) ?_
    |refine bool_false hlt2 ?_
    |refine sym_drawn hS (by kernel_rfl) ?_); conv => whnf)
   exact ⟨_, rfl, by rw [← ei]; exact wkv_tup2 _ _, ⟨rfl, rfl, trivial⟩⟩
end
end Go.Abs.Seat
