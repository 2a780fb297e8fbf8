/-
  Books of accounts: what must be paid.
-/
import Derived.Test.YtlmadgdonalncaaGreatDoorU11
import Derived.Test.YtlmadgdonalncaaGreatDoorU5
/-! Books of accounts: what must be paid. -/
namespace Go.Abs.Seat
noncomputable section
open Go Go.Abs Go.Proofs.Tryz
set_option maxRecDepth 100000
set_option maxHeartbeats 40000000
attribute [local irreducible] IntKind.wrap pEq

theorem ivs_at : ∀ (l : List Int) (j : Nat), (ivs l)[j]? = (l[j]?).map iv
 | [], j => rfl
 |x :: r, 0 => rfl
 |x :: r, j + 1 => by
  have := ivs_at r j
  simpa [ivs] using this
theorem ivs_getD {l : List Int} {i : Nat} (h : i < l.length) : (ivs l)[i]? = some (iv (l.getD i 0)) := by
 rw [ivs_at]
 simp [List.getD, h]
theorem ivs_set {l : List Int} {i : Nat} (x : Int) (h : i < l.length) (j : Nat) : (ivs (l.set i x))[j]? = if j = i then some (iv x) else (ivs l)[j]? := by
 rw [ivs_at, ivs_at, List.getElem?_set]
 by_cases e : i = j
 ·subst e
  rw [if_pos rfl, if_pos rfl, if_pos h]; rfl
 ·rw [if_neg e, if_neg (Ne.symm e)]
theorem lks_at : ∀ (X : List LkI) {i : Nat}, i < X.length → (lks X)[i * 3]? = some (iv (gL X i).1) ∧ (lks X)[i * 3 + 1]? = some (iv (gL X i).2.1) ∧ (lks X)[i * 3 + 2]? = some (iv (gL X i).2.2)
 | [], _, h => absurd h (Nat.not_lt_zero _)
 |x :: r, 0, _ => ⟨rfl, rfl, rfl⟩
 |x :: r, i + 1, h => by
  have := lks_at r (i := i) (Nat.lt_of_succ_lt_succ h)
  rw [show (i + 1) * 3 = i * 3 + 3 by omega, show i * 3 + 3 + 1 = i * 3 + 1 + 3 by omega, show i * 3 + 3 + 2 = i * 3 + 2 + 3 by omega]
  exact this
theorem lks_set : ∀ (X : List LkI) {i : Nat} (c : Int), i < X.length → ∀ j, (lks (X.set i ((gL X i).1, (gL X i).2.1, c)))[j]? = if j = i * 3 + 2 then some (iv c) else (lks X)[j]?
 | [], _, _, h, _ => absurd h (Nat.not_lt_zero _)
 |x :: r, 0, c, _, j => by
  rcases j with _ | _ | _ | j
  ·rfl
  ·rfl
  ·rfl
  ·rw [if_neg (by omega)]; rfl
 |x :: r, i + 1, c, h, j => by
  have ih := lks_set r (i := i) c (Nat.lt_of_succ_lt_succ h)
  rcases j with _ | _ | _ | j
  ·rw [if_neg (by omega)]; rfl
  ·rw [if_neg (by omega)]; rfl
  ·rw [if_neg (by omega)]; rfl
  ·have h1 : (lks ((x :: r).set (i + 1) ((gL (x :: r) (i + 1)).1, (gL (x :: r) (i + 1)).2.1, c)))[j + 3]? = (lks (r.set i ((gL r i).1, (gL r i).2.1, c)))[j]? := rfl
   have h2 : (lks (x :: r))[j + 3]? = (lks r)[j]? := rfl
   rw [h1, h2, ih]
   by_cases e : j = i * 3 + 2
   ·rw [if_pos e, if_pos (by omega)]
   ·rw [if_neg e, if_neg (by omega)]
def muS : Option Tmp → TypeId → Bool := fun d t => match d with
 |some 7 => t == 24 || t == 22
 | _ => false
theorem takeN_lks (L : List LkI) : takeN (L.length * 3) (lks L) = some (lks L) := by
 have := takN_lks L L.length (Nat.le_refl _)
 rwa [List.take_length] at this
theorem allCells_lks : ∀ l : List LkI, allCells (lks l) = true
 | [] => rfl
 | _ :: r => allCells_lks r
def oc : List LkI → Nat
 | [] => 0
 |e :: r => (if e.2.2 = 0 then 1 else 0) + oc r
theorem oc_all : ∀ {X : List LkI}, (∀ i, i < X.length → opn X i) → oc X = X.length
 | [], _ => rfl
 |e :: r, h => by
  have h0 : e.2.2 = 0 := h 0 (Nat.succ_pos _)
  have := oc_all (X := r) fun i hi => h (i + 1) (Nat.succ_lt_succ hi)
  rw [oc, if_pos h0, this, List.length_cons]; omega
theorem oc_zero : ∀ {X : List LkI}, oc X = 0 → ∀ i, i < X.length → ¬ opn X i
 | [], _, i, hi => absurd hi (Nat.not_lt_zero i)
 |e :: r, h, i, hi => by
  rw [oc] at h
  cases i with
  |zero =>
   intro z
   have z : e.2.2 = 0 := z
   rw [if_pos z] at h; omega
  |succ i => exact oc_zero (X := r) (by omega) i (Nat.lt_of_succ_lt_succ hi)
theorem oc_some : ∀ {X : List LkI}, 0 < oc X → ∃ i, i < X.length ∧ opn X i
 | [], h => absurd h (Nat.lt_irrefl 0)
 |e :: r, h => by
  by_cases z : e.2.2 = 0
  ·exact ⟨0, Nat.succ_pos _, z⟩
  ·rw [oc, if_neg z] at h
   obtain ⟨i, h1, h2⟩ := oc_some (X := r) (by omega)
   exact ⟨i + 1, Nat.succ_lt_succ h1, h2⟩
theorem oc_set : ∀ {X : List LkI} {i : Nat} {y : LkI}, i < X.length → opn X i → y.2.2 ≠ 0 → oc (X.set i y) + 1 = oc X
 | [], _, _, h, _, _ => absurd h (Nat.not_lt_zero _)
 |e :: r, 0, y, _, o, hy => by
  have o : e.2.2 = 0 := o
  show oc (y :: r) + 1 = _
  rw [oc, oc, if_pos o, if_neg hy]; omega
 |e :: r, i + 1, y, h, o, hy => by
  have := oc_set (X := r) (i := i) (y := y) (Nat.lt_of_succ_lt_succ h) o hy
  show oc (e :: r.set i y) + 1 = _
  rw [oc, oc]; omega
theorem oc_le : ∀ X : List LkI, oc X ≤ X.length
 | [] => Nat.le_refl _
 |e :: r => by
  have := oc_le r
  rw [oc, List.length_cons]; split <;> omega
def bd8 (o : Nat) : Int := 8000000 * 2 ^ (8 - o)
theorem bd8_step {o : Nat} (h : o + 1 ≤ 8) : bd8 o = 2 * bd8 (o + 1) := by
 unfold bd8
 rw [show 8 - o = (8 - (o + 1)) + 1 by omega, Int.pow_succ]; omega
theorem bd8_le {o : Nat} : 8000000 ≤ bd8 o ∧ bd8 o ≤ 2048000000 := by
 have h1 : (2 : Nat) ^ (8 - o) ≤ 2 ^ 8 := Nat.pow_le_pow_right (by decide) (by omega)
 have h2 : 1 ≤ (2 : Nat) ^ (8 - o) := Nat.one_le_two_pow
 unfold bd8
 have e : ((2 : Int) ^ (8 - o)) = ((2 ^ (8 - o) : Nat) : Int) := by rw [Int.natCast_pow]; rfl
 rw [e]; omega
structure SInv (b : List Int) (E X : List LkI) (lf : List Int) (t1 t2 : Tr AV) (o : Nat) : Prop where
 inv : Inv b E X lf
 c1 : ∀ j, t1.get j = (ivs lf)[j]?
 c2 : ∀ j, t2.get j = (lks X)[j]?
 oc : o = oc X
 bd : ∀ a, a < b.length → - bd8 o ≤ lf.getD a 0 ∧ lf.getD a 0 ≤ bd8 o
theorem bdT_ivs {n : Nat} {t : Tr AV} {l : List Int} (h : ∀ j, t.get j = (ivs l)[j]?) : BdT n t := bdT_get fun j a e => by
 rw [h, ivs_at] at e
 cases hj : l[j]? with
 |none => rw [hj] at e; cases e
 |some x => rw [hj] at e; cases e; exact Nat.zero_le _
theorem bdT_lks {n : Nat} {t : Tr AV} {l : List LkI} (h : ∀ j, t.get j = (lks l)[j]?) : BdT n t := bdT_get fun j a e => by
 rw [h] at e
 have := Lives.mem (L := noL) _ a (lks_no l) (List.mem_of_getElem? e)
 rw [bd_no a this]; exact Nat.zero_le _
theorem load3_as {t : Tr AV} {o : Nat} {x y z : AV} (h1 : t.get o = some x) (h2 : t.get (o + 1) = some y) (h3 : t.get (o + 2) = some z) : (match loadN t o 3 with | some l => Plan.ret (.agg l) | none => Plan.fail) = Plan.ret (.agg [x, y, z]) := by
 have e : loadN t o 3 = some [x, y, z] := by
  simp only [loadN, h1, h2, h3, show o + 1 + 1 = o + 2 from rfl]
 rw [e]
theorem SInv.ent {b : List Int} {E X : List LkI} {lf : List Int} {t1 t2 : Tr AV} {o : Nat} (h : SInv b E X lf t1 t2 o) {i : Nat} (hi : i < E.length) : t2.get (0 + i * 3) = some (iv (gL E i).1) ∧ t2.get (0 + i * 3 + 1) = some (iv (gL E i).2.1) ∧ t2.get (0 + i * 3 + 2) = some (iv (gL X i).2.2) := by
 have hx := lks_at X (i := i) (by rw [h.inv.ft.1]; exact hi)
 have hf := h.inv.ft.2 i hi
 rw [Nat.zero_add, h.c2, h.c2, h.c2, ← hf.1, ← hf.2]
 exact hx
structure LfI (E X : List LkI) (a : Int) (i : Nat) (at' : Int) (many : Nat) : Prop where
 le : many ≤ i
 z : many = 0 → ∀ j, j < i → opn X j → ¬ tch (gL E j) a
 o : many = 1 → ∃ p, at' = Int.ofNat p ∧ (p < i ∧ opn X p ∧ tch (gL E p) a) ∧ ∀ j, j < i → opn X j → tch (gL E j) a → j = p
 t : 2 ≤ many → ∃ p q, p < q ∧ q < i ∧ (opn X p ∧ tch (gL E p) a) ∧ opn X q ∧ tch (gL E q) a
theorem LfI.init {E X : List LkI} {a : Int} : LfI E X a 0 (-1) 0 := ⟨Nat.le_refl _, fun _ _ h => absurd h (Nat.not_lt_zero _), fun h => absurd h (by decide), fun h => absurd h (by decide)⟩
theorem LfI.yes {E X : List LkI} {a : Int} {i : Nat} {at' : Int} {many : Nat} (h : LfI E X a i at' many) (ho : opn X i) (ht : tch (gL E i) a) : LfI E X a (i + 1) (Int.ofNat i) (many + 1) := by
 refine ⟨by have := h.le; omega, fun z => absurd z (Nat.succ_ne_zero _), fun z => ⟨i, rfl, ⟨Nat.lt_succ_self i, ho, ht⟩, fun j hj oj tj => ?_⟩, fun z => ?_⟩
 ·by_cases e : j = i
  ·exact e
  ·exact absurd tj (h.z (by omega) j (by omega) oj)
 ·by_cases e : many = 1
  ·obtain ⟨p, _, ⟨h1, h2⟩, _⟩ := h.o e
   exact ⟨p, i, h1, Nat.lt_succ_self i, h2, ho, ht⟩
  ·obtain ⟨p, q, h1, h2, h3⟩ := h.t (by omega)
   exact ⟨p, q, h1, by omega, h3⟩
theorem LfI.no {E X : List LkI} {a : Int} {i : Nat} {at' : Int} {many : Nat} (h : LfI E X a i at' many) (hn : ¬ (opn X i ∧ tch (gL E i) a)) : LfI E X a (i + 1) at' many := by
 have ne : ∀ j, opn X j → tch (gL E j) a → j ≠ i := fun j oj tj e => hn (by subst e; exact ⟨oj, tj⟩)
 refine ⟨by have := h.le; omega, fun z j hj oj tj => h.z z j (by have := ne j oj tj; omega) oj tj, fun z => ?_, fun z => ?_⟩
 ·obtain ⟨p, h1, ⟨h2, h3⟩, h4⟩ := h.o z
  exact ⟨p, h1, ⟨by omega, h3⟩, fun j hj oj tj => h4 j (by have := ne j oj tj; omega) oj tj⟩
 ·obtain ⟨p, q, h1, h2, h3⟩ := h.t z
  exact ⟨p, q, h1, by omega, h3⟩
theorem LfI.leaf {E X : List LkI} {a at' : Int} {i many : Nat} (h : LfI E X a i at' many) (hi : i = E.length) (hm : many = 1) : at' = Int.ofNat at'.toNat ∧ Leaf E (opn X) a at'.toNat := by
 subst hi
 obtain ⟨p, rfl, ⟨h2, h3, h4⟩, h5⟩ := h.o hm
 exact ⟨rfl, h2, h3, h4, h5⟩
theorem LfI.none {E X : List LkI} {a at' : Int} {k many : Nat} (h : LfI E X a k at' many) (hk : k = E.length) (hn : many ≠ 1) : ∀ i, ¬ Leaf E (opn X) a i := fun i hl => by
 subst hk
 by_cases z : many = 0
 ·exact h.z z i hl.1 hl.2.1 hl.2.2.1
 ·obtain ⟨p, q, h1, h2, h3, h4⟩ := h.t (by omega)
  have e1 := hl.2.2.2 p (by omega) h3.1 h3.2
  have e2 := hl.2.2.2 q h2 h4.1 h4.2
  omega
theorem SInv.acc {b : List Int} {E X : List LkI} {lf : List Int} {t1 t2 : Tr AV} {o : Nat} (h : SInv b E X lf t1 t2 o) {a : Nat} (ha : a < b.length) : t1.get (0 + a * 1) = some (iv (lf.getD a 0)) := by
 rw [Nat.zero_add, Nat.mul_one, h.c1]
 exact ivs_getD (by rw [h.inv.len]; exact ha)
theorem mx_abs {x : Int} (h : -2048000000 ≤ x ∧ x ≤ 2048000000) : maxI x (IntKind.i64.wrap (0 - x)) = if 0 < x then x else -x := by
 rw [show IntKind.i64.wrap (0 - x) = 0 - x from wrapI (by omega) (by omega)]
 unfold maxI
 split <;> split <;> omega
theorem SInv.leaf {b : List Int} {E X : List LkI} {lf : List Int} {t1 t2 : Tr AV} {o : Nat} (h : SInv b E X lf t1 t2 o) {a p : Nat} (ha : a < b.length) (hl : Leaf E (opn X) (Int.ofNat a) p) (hn : (gL E p).1 ≠ (gL E p).2.1) {Y : List LkI} (hY : SolL b E Y) :
  maxI (lf.getD a 0) (IntKind.i64.wrap (0 - lf.getD a 0)) = (gL Y p).2.2 ∧ 0 < (gL Y p).2.2 ∧ (decide (lf.getD a 0 > 0) == ((gL E p).1 == Int.ofNat a)) = true := by
 have hb := h.bd a ha
 have h8 := (bd8_le (o := o)).2
 have hv := h.inv.val hY ha hl hn
 have hp := hY.2.1 p hl.1
 rw [mx_abs (by omega)]
 by_cases e : (gL E p).1 = Int.ofNat a
 ·rw [if_pos e] at hv
  refine ⟨by rw [hv, if_pos hp], hp, ?_⟩
  rw [beq_iff_eq.2 e, decide_eq_true (by omega : lf.getD a 0 > 0)]; rfl
 ·rw [if_neg e] at hv
  refine ⟨by rw [hv, if_neg (by omega)]; omega, hp, ?_⟩
  rw [beq_eq_false_iff_ne.2 e, decide_eq_false (by omega : ¬ lf.getD a 0 > 0)]; rfl
theorem SInv.pay {b : List Int} {E X : List LkI} {lf : List Int} {t1 t2 : Tr AV} {o : Nat} (h : SInv b E X lf t1 t2 o) (hk : E.length ≤ 8) {a p f t : Nat} (ha : a < b.length) (hl : Leaf E (opn X) (Int.ofNat a) p) (hf : (gL E p).1 = Int.ofNat f) (ht : (gL E p).2.1 = Int.ofNat t) (hfb : f < b.length) (htb : t < b.length) (hft : f ≠ t)
  (hc : maxI (lf.getD a 0) (IntKind.i64.wrap (0 - lf.getD a 0)) ≠ 0) {c : Int} (ec : maxI (lf.getD a 0) (IntKind.i64.wrap (0 - lf.getD a 0)) = c) {t3 t4 t5 : Tr AV} (e3 : t3 = tset (pathOf (0 + f * 1)) t1 (iv (IntKind.i64.wrap (lf.getD f 0 - c)))) (e4 : t4 = tset (pathOf (0 + t * 1)) t3 (iv (IntKind.i64.wrap (lf.getD t 0 + c)))) (e5 : t5 = tset (pathOf (0 + p * 3 + 2)) t2 (iv c)) :
  t3.get (0 + t * 1) = some (iv (lf.getD t 0)) ∧ (∀ j, j ≠ p * 3 + 2 → t5.get j = t2.get j) ∧ SInv b E (X.set p ((gL E p).1, (gL E p).2.1, c)) ((lf.set f (lf.getD f 0 - c)).set t (lf.getD t 0 + c)) t4 t5 (o - 1) := by
 have hb := h.bd a ha
 have hbf := h.bd f hfb
 have hbt := h.bd t htb
 have h8 := (bd8_le (o := o)).2
 have hpX : p < X.length := by rw [h.inv.ft.1]; exact hl.1
 have hop := hl.2.1
 have hne : (gL E p).1 ≠ (gL E p).2.1 := by rw [hf, ht]; exact fun z => hft (Int.ofNat.inj z)
 have ho : 0 < o := by
  rw [h.oc]
  refine Nat.pos_of_ne_zero fun z => oc_zero z p hpX hop
 have ho8 : o ≤ 8 := by
  have := oc_le X
  rw [← h.oc, h.inv.ft.1] at this
  omega
 have hst := bd8_step (o := o - 1) (by omega)
 rw [show o - 1 + 1 = o by omega] at hst
 have hleaf := fun Y hY => (h.leaf ha hl hne (Y := Y) hY).1
 rw [ec] at hleaf hc
 have hc0 : 0 < c ∧ c ≤ bd8 o := by
  rw [mx_abs (by omega)] at ec
  split at ec <;> omega
 have w1 : IntKind.i64.wrap (lf.getD f 0 - c) = lf.getD f 0 - c := wrapI (by omega) (by omega)
 have w2 : IntKind.i64.wrap (lf.getD t 0 + c) = lf.getD t 0 + c := wrapI (by omega) (by omega)
 rw [w1] at e3
 rw [w2] at e4
 have g3 : ∀ j, t3.get j = (ivs (lf.set f (lf.getD f 0 - c)))[j]? := fun j => by
  rw [e3, tset_at (h.acc hfb), ivs_set _ (by rw [h.inv.len]; exact hfb), h.c1, show 0 + f * 1 = f by omega]
 have htf : (lf.set f (lf.getD f 0 - c)).getD t 0 = lf.getD t 0 := by rw [getD_set _ _ (by rw [h.inv.len]; exact hfb), if_neg (Ne.symm hft)]
 have htl : t < (lf.set f (lf.getD f 0 - c)).length := by rw [List.length_set, h.inv.len]; exact htb
 have r3 : t3.get (0 + t * 1) = some (iv (lf.getD t 0)) := by
  rw [g3, show 0 + t * 1 = t by omega, ivs_getD htl, htf]
 have hent := (h.ent hl.1).2.2
 have g5 : ∀ j, t5.get j = if j = p * 3 + 2 then some (iv c) else t2.get j := fun j => by
  rw [e5, tset_at hent, show 0 + p * 3 + 2 = p * 3 + 2 by omega]
 refine ⟨r3, fun j hj => by rw [g5, if_neg hj], h.inv.step hl hc0.1 hleaf (by rw [List.length_set, List.length_set, h.inv.len]) fun d hd => ?_, fun j => ?_, fun j => ?_, ?_, fun d hd => ?_⟩
 ·rw [getD_set _ _ htl, getD_set _ _ (by rw [h.inv.len]; exact hfb), hf, ht]
  show _ = lf.getD d 0 + ((if Int.ofNat t = Int.ofNat d then c else 0) - (if Int.ofNat f = Int.ofNat d then c else 0))
  by_cases d1 : d = t
  ·subst d1
   rw [if_pos rfl, if_pos rfl, if_neg fun z => hft (Int.ofNat.inj z)]; omega
  ·rw [if_neg d1, if_neg (fun z => d1 (Int.ofNat.inj z).symm)]
   by_cases d2 : d = f
   ·subst d2
    rw [if_pos rfl, if_pos rfl]; omega
   ·rw [if_neg d2, if_neg (fun z => d2 (Int.ofNat.inj z).symm)]; omega
 ·rw [e4, tset_at r3, ivs_set _ htl, g3, show 0 + t * 1 = t by omega]
 ·have hfx := h.inv.ft.2 p hl.1
  rw [g5, h.c2, ← hfx.1, ← hfx.2, lks_set X c hpX]
 ·have := oc_set (X := X) (i := p) (y := ((gL E p).1, (gL E p).2.1, c)) hpX hop (by show c ≠ 0; omega)
  rw [h.oc]; omega
 ·have hbd := h.bd d hd
  rw [getD_set _ _ htl, getD_set _ _ (by rw [h.inv.len]; exact hfb)]
  split
  ·omega
  ·split <;> omega
theorem fz_no (o : Nat → AObj) : FzV o (.tup [.nils, .bool false]) (.tup [.unk, .bool false]) := FzV.tup (xs := [.nils, .bool false]) (ys := [.unk, .bool false]) ⟨fun _ _ _ _ _ _ _ _ => trivial, .no trivial, trivial⟩
theorem settled_run {b : List Int} {E0 : List LkI} (hb : b.length ≤ 5) (hb2 : 2 ≤ b.length) (hk8 : E0.length ≤ 8) (hk1 : 1 ≤ E0.length) (hz : ∀ i, i < E0.length → (gL E0 i).2.2 = 0) (hr : ∀ i, i < E0.length → (gL E0 i).1 ≠ (gL E0 i).2.1 ∧ ∀ a, tch (gL E0 i) a → 0 ≤ a ∧ a < (b.length : Int)) (hbd : ∀ a, a < b.length → - 8000000 ≤ b.getD a 0 ∧ b.getD a 0 ≤ 8000000)
  {v : AV} (lv : Live noL v) (hbad : ¬ (FR E0 ∧ ∃ Y, SolL b E0 Y) → v = .tup [.unk, .bool false]) (hyes : ∀ Y, FR E0 → SolL b E0 Y → v = .tup [lkA Y, .bool true]) : Pure prog 64 [nl b, lkA E0] v := by
 have ll := ivs_no b
 have lL := lks_no E0
 have l1 := ivs_len b
 have l2 := lks_len E0
 obtain ⟨m, hm⟩ : ∃ m, b.length = m + 1 := ⟨b.length - 1, by omega⟩
 obtain ⟨k, hk⟩ : ∃ k, E0.length = k + 1 := ⟨E0.length - 1, by omega⟩
 refine pure_symF (hEM muS) rfl (by repeat' (first | exact trivial | assumption | exact flat_no _ | exact (fun _ h => nomatch h) | apply And.intro)) (by repeat' (first | exact trivial | assumption | exact flat_no _ | exact (fun _ h => nomatch h) | apply And.intro)) fun S q pc hS hq hC hE => ?_
 conv => whnf
 refine sym_call hC ?_
 conv => whnf
 refine sym_inline hE hS ?_
 conv => whnf
 refine sym_eq hq false rfl ?_
 conv => whnf
 refine plan_as (pSrc_eq (e := 3) (ys := ivs b) (m := b.length) (own := .no) (l := ivs b) (by kernel_rfl) rfl (takeN_ivs _)) ?_
 rw [hm]
 conv => whnf
 refine bool_true (allCells_ivs b) ?_
 conv => whnf
 refine bool_true (decide_eq_true (show (0 + (m + 1)) * 8 ≤ 140737488355328 by omega)) ?_
 conv => whnf
 refine bool_true (decide_eq_true (show 0 + (m + 1) ≤ 9223372036854775807 by omega)) ?_
 conv => whnf
 refine newl_sym (l1.trans hm) ?_
 intro t1 ht1
 conv => whnf
 refine sym_call hC ?_
 conv => whnf
 refine sym_inline hE hS ?_
 conv => whnf
 refine sym_eq hq false rfl ?_
 conv => whnf
 refine plan_as (pSrc_eq (e := 38) (ys := lks E0) (m := E0.length) (own := .no) (l := lks E0) (by kernel_rfl) rfl (takeN_lks _)) ?_
 rw [hk]
 conv => whnf
 refine bool_true (allCells_lks E0) ?_
 conv => whnf
 refine bool_true (decide_eq_true (show (0 + (k + 1)) * 24 ≤ 140737488355328 by omega)) ?_
 conv => whnf
 refine bool_true (decide_eq_true (show 0 + (k + 1) ≤ 9223372036854775807 by omega)) ?_
 conv => whnf
 refine newl_sym (l2.trans (congrArg (· * 3) hk)) ?_
 intro t2 ht2
 conv => whnf
 have hoc : oc E0 = 0 + (k + 1) := by rw [oc_all hz, hk, Nat.zero_add]
 refine sym_loopG hE hS (A := List LkI × List Int × Tr AV × Tr AV × Nat) [6, 7] (fun (_, _, _, _, o) => [(8, nv o)]) (fun (_, _, t1, t2, _) => [(0, .cells t1 (m + 1) 3), (1, .cells t2 ((k + 1) * 3) 38)]) (fun _ => []) (fun (X, lf, t1, t2, o) => SInv b E0 X lf t1 t2 o) (fun (_, _, _, _, o) => o) (E0, b, t1, t2, 0 + (k + 1)) (Nat.le_of_ble_eq_true rfl) rfl (by refine ⟨rfl, rfl, rfl, rfl, rfl, rfl, 2, rfl, ?_, ?_⟩ <;> repeat' (first | exact trivial | exact rfl | exact ⟨_, rfl, WkV.refl _⟩ | exact ⟨_, rfl, WkV.own _ _ _⟩ | exact Nat.zero_le _ | exact bdT_ivs ht1 | exact bdT_lks ht2 | exact Nat.le_of_ble_eq_true rfl | exact bdl_no (by assumption) | exact bdl_no (flat_no _) | exact bdl_no (ivs_no _) | exact bdl_no (svs_no _) | exact Nat.max_le.2 ⟨Nat.le_of_ble_eq_true rfl, bdl_no (ivs_no _)⟩ | exact Nat.max_le.2 ⟨Nat.le_of_ble_eq_true rfl, bdl_no (svs_no _)⟩ | apply And.intro)) ⟨Inv.init hz, ht1, ht2, hoc.symm, fun a ha => by have := hbd a ha; have := (bd8_le (o := 0 + (k + 1))).1; omega⟩ ?_
 rintro ⟨X, lf, t3, t4, o⟩ hI K hK
 obtain rfl : K = 2 := hK
 conv => whnf
 by_cases ho : 0 < o
 ·refine bool_true (decide_eq_true (show Int.ofNat o > 0 from Int.ofNat_lt.2 ho)) ?_
  conv => whnf
  refine sym_loopG hE hS (A := Nat) [6, 7, 8, 24] (fun a => [(25, nv a)]) (fun _ => []) (fun _ => []) (fun a => a ≤ 0 + (m + 1) ∧ ∀ c, c < a → ∀ i, ¬ Leaf E0 (opn X) (Int.ofNat c) i) (fun a => 0 + (m + 1) - a) 0 (Nat.le_of_ble_eq_true rfl) rfl (by refine ⟨rfl, rfl, rfl, rfl, rfl, rfl, 2, rfl, ?_, ?_⟩ <;> repeat' (first | exact trivial | exact rfl | exact ⟨_, rfl, WkV.refl _⟩ | exact ⟨_, rfl, WkV.own _ _ _⟩ | exact Nat.zero_le _ | exact bdT_ivs hI.c1 | exact bdT_lks hI.c2 | exact Nat.le_of_ble_eq_true rfl | exact bdl_no (by assumption) | exact bdl_no (flat_no _) | exact bdl_no (ivs_no _) | exact bdl_no (svs_no _) | exact Nat.max_le.2 ⟨Nat.le_of_ble_eq_true rfl, bdl_no (ivs_no _)⟩ | exact Nat.max_le.2 ⟨Nat.le_of_ble_eq_true rfl, bdl_no (svs_no _)⟩ | apply And.intro)) ⟨Nat.zero_le _, fun _ h => absurd h (Nat.not_lt_zero _)⟩ ?_
  rintro a ⟨ha, hno⟩ K hK
  obtain rfl : K = 2 := hK
  conv => whnf
  by_cases ha2 : a < 0 + (m + 1)
  ·refine bool_true (ltN_t ha2) ?_
   conv => whnf
   refine sym_loopG hE hS (A := Nat × Int × Nat) [6, 7, 8, 9, 24, 25, 28, 29] (fun (i, at', many) => [(10, iv at'), (11, nv many), (30, nv i)]) (fun _ => []) (fun _ => []) (fun (i, at', many) => i ≤ 0 + (k + 1) ∧ LfI E0 X (Int.ofNat a) i at' many) (fun (i, _, _) => 0 + (k + 1) - i) (0, -1, 0) (Nat.le_of_ble_eq_true rfl) rfl (by refine ⟨rfl, rfl, rfl, rfl, rfl, rfl, 2, rfl, ?_, ?_⟩ <;> repeat' (first | exact trivial | exact rfl | exact ⟨_, rfl, WkV.refl _⟩ | exact ⟨_, rfl, WkV.own _ _ _⟩ | exact Nat.zero_le _ | exact bdT_ivs hI.c1 | exact bdT_lks hI.c2 | exact Nat.le_of_ble_eq_true rfl | exact bdl_no (by assumption) | exact bdl_no (flat_no _) | exact bdl_no (ivs_no _) | exact bdl_no (svs_no _) | exact Nat.max_le.2 ⟨Nat.le_of_ble_eq_true rfl, bdl_no (ivs_no _)⟩ | exact Nat.max_le.2 ⟨Nat.le_of_ble_eq_true rfl, bdl_no (svs_no _)⟩ | apply And.intro)) ⟨Nat.zero_le _, .init⟩ ?_
   rintro ⟨i, at', many⟩ ⟨hi, hJ⟩ K hK
   obtain rfl : K = 2 := hK
   conv => whnf
   by_cases hi2 : i < 0 + (k + 1)
   ·refine bool_true (ltN_t hi2) ?_
    conv => whnf
    refine bool_true (inR_t hi2) ?_
    conv => whnf
    refine bool_true (decide_eq_true (show 0 + i * 3 + 3 ≤ (k + 1) * 3 by omega)) ?_
    conv => whnf
    have hent := hI.ent (i := i) (by omega)
    have hmi := hJ.le
    have hi1 : IntKind.i64.wrap (Int.ofNat i + 1) = Int.ofNat (i + 1) := wrapN (m := i + 1) (by omega)
    have hm1 : IntKind.i64.wrap (Int.ofNat many + 1) = Int.ofNat (many + 1) := wrapN (m := many + 1) (by omega)
    refine plan_as (load3_as hent.1 hent.2.1 hent.2.2) ?_
    conv => whnf
    by_cases p0 : (gL X i).2.2 = 0
    ·have c0 : ((gL X i).2.2 == 0) = true := beq_iff_eq.2 p0
     by_cases p1 : (gL E0 i).1 = Int.ofNat a
     ·have c1 : ((gL E0 i).1 == Int.ofNat a) = true := beq_iff_eq.2 p1
      repeat ((first
       |refine ko_rT c0 ?_
       |refine ko_sF c0 ?_
       |refine plan_as (pick_t c0) ?_
       |refine bool_true c0 ?_
       |refine ko_rT (gd_tt c0) ?_
       |refine ko_sF (gd_tt c0) ?_
       |refine plan_as (pick_t (gd_tt c0)) ?_
       |refine bool_true (gd_tt c0) ?_
       |refine ko_rT c1 ?_
       |refine ko_sF c1 ?_
       |refine plan_as (pick_t c1) ?_
       |refine bool_true c1 ?_
       |refine ko_rT (gd_tt c1) ?_
       |refine ko_sF (gd_tt c1) ?_
       |refine plan_as (pick_t (gd_tt c1)) ?_
       |refine bool_true (gd_tt c1) ?_
       |refine ko_sT (gft c1) ?_
       |refine ko_rF (gft c1) ?_
       |refine plan_as (pick_f (gft c1)) ?_
       |refine bool_false (gft c1) ?_
       |refine sym_drawn hS (by kernel_rfl) ?_); conv => whnf)
      exact ⟨(i + 1, Int.ofNat i, many + 1), ⟨by omega, hJ.yes p0 (.inl p1)⟩, by show 0 + (k + 1) - (i + 1) < 0 + (k + 1) - i; omega, Nat.le_refl _, (by refine ⟨rfl, rfl, rfl, rfl, rfl, rfl, 2, rfl, ?_, ?_⟩ <;> repeat' (first | exact trivial | exact rfl | exact ⟨_, rfl, WkV.refl _⟩ | exact ⟨_, rfl, WkV.own _ _ _⟩ | exact Nat.zero_le _ | exact ⟨_, rfl, WkV.int hi1⟩ | exact ⟨_, rfl, WkV.int hm1⟩ | exact bdT_ivs hI.c1 | exact bdT_lks hI.c2 | exact Nat.le_of_ble_eq_true rfl | exact bdl_no (by assumption) | exact bdl_no (flat_no _) | exact bdl_no (ivs_no _) | exact bdl_no (svs_no _) | exact Nat.max_le.2 ⟨Nat.le_of_ble_eq_true rfl, bdl_no (ivs_no _)⟩ | exact Nat.max_le.2 ⟨Nat.le_of_ble_eq_true rfl, bdl_no (svs_no _)⟩ | apply And.intro))⟩
     ·have c1 : ((gL E0 i).1 == Int.ofNat a) = false := beq_eq_false_iff_ne.2 p1
      by_cases p2 : (gL E0 i).2.1 = Int.ofNat a
      ·have c2 : ((gL E0 i).2.1 == Int.ofNat a) = true := beq_iff_eq.2 p2
       repeat ((first
        |refine ko_rT c0 ?_
        |refine ko_sF c0 ?_
        |refine plan_as (pick_t c0) ?_
        |refine bool_true c0 ?_
        |refine ko_rT (gd_tt c0) ?_
        |refine ko_sF (gd_tt c0) ?_
        |refine plan_as (pick_t (gd_tt c0)) ?_
        |refine bool_true (gd_tt c0) ?_
        |refine ko_sT c1 ?_
        |refine ko_rF c1 ?_
        |refine plan_as (pick_f c1) ?_
        |refine bool_false c1 ?_
        |refine ko_rT (gff c1) ?_
        |refine ko_sF (gff c1) ?_
        |refine plan_as (pick_t (gff c1)) ?_
        |refine bool_true (gff c1) ?_
        |refine ko_rT c2 ?_
        |refine ko_sF c2 ?_
        |refine plan_as (pick_t c2) ?_
        |refine bool_true c2 ?_
        |refine sym_drawn hS (by kernel_rfl) ?_); conv => whnf)
       exact ⟨(i + 1, Int.ofNat i, many + 1), ⟨by omega, hJ.yes p0 (.inr p2)⟩, by show 0 + (k + 1) - (i + 1) < 0 + (k + 1) - i; omega, Nat.le_refl _, (by refine ⟨rfl, rfl, rfl, rfl, rfl, rfl, 2, rfl, ?_, ?_⟩ <;> repeat' (first | exact trivial | exact rfl | exact ⟨_, rfl, WkV.refl _⟩ | exact ⟨_, rfl, WkV.own _ _ _⟩ | exact Nat.zero_le _ | exact ⟨_, rfl, WkV.int hi1⟩ | exact ⟨_, rfl, WkV.int hm1⟩ | exact bdT_ivs hI.c1 | exact bdT_lks hI.c2 | exact Nat.le_of_ble_eq_true rfl | exact bdl_no (by assumption) | exact bdl_no (flat_no _) | exact bdl_no (ivs_no _) | exact bdl_no (svs_no _) | exact Nat.max_le.2 ⟨Nat.le_of_ble_eq_true rfl, bdl_no (ivs_no _)⟩ | exact Nat.max_le.2 ⟨Nat.le_of_ble_eq_true rfl, bdl_no (svs_no _)⟩ | apply And.intro))⟩
      ·have c2 : ((gL E0 i).2.1 == Int.ofNat a) = false := beq_eq_false_iff_ne.2 p2
       repeat ((first
        |refine ko_rT c0 ?_
        |refine ko_sF c0 ?_
        |refine plan_as (pick_t c0) ?_
        |refine bool_true c0 ?_
        |refine ko_rT (gd_tt c0) ?_
        |refine ko_sF (gd_tt c0) ?_
        |refine plan_as (pick_t (gd_tt c0)) ?_
        |refine bool_true (gd_tt c0) ?_
        |refine ko_sT c1 ?_
        |refine ko_rF c1 ?_
        |refine plan_as (pick_f c1) ?_
        |refine bool_false c1 ?_
        |refine ko_rT (gff c1) ?_
        |refine ko_sF (gff c1) ?_
        |refine plan_as (pick_t (gff c1)) ?_
        |refine bool_true (gff c1) ?_
        |refine ko_sT c2 ?_
        |refine ko_rF c2 ?_
        |refine plan_as (pick_f c2) ?_
        |refine bool_false c2 ?_
        |refine sym_drawn hS (by kernel_rfl) ?_); conv => whnf)
       exact ⟨(i + 1, at', many), ⟨by omega, hJ.no fun z => z.2.elim p1 p2⟩, by show 0 + (k + 1) - (i + 1) < 0 + (k + 1) - i; omega, Nat.le_refl _, (by refine ⟨rfl, rfl, rfl, rfl, rfl, rfl, 2, rfl, ?_, ?_⟩ <;> repeat' (first | exact trivial | exact rfl | exact ⟨_, rfl, WkV.refl _⟩ | exact ⟨_, rfl, WkV.own _ _ _⟩ | exact Nat.zero_le _ | exact ⟨_, rfl, WkV.int hi1⟩ | exact bdT_ivs hI.c1 | exact bdT_lks hI.c2 | exact Nat.le_of_ble_eq_true rfl | exact bdl_no (by assumption) | exact bdl_no (flat_no _) | exact bdl_no (ivs_no _) | exact bdl_no (svs_no _) | exact Nat.max_le.2 ⟨Nat.le_of_ble_eq_true rfl, bdl_no (ivs_no _)⟩ | exact Nat.max_le.2 ⟨Nat.le_of_ble_eq_true rfl, bdl_no (svs_no _)⟩ | apply And.intro))⟩
    ·have c0 : ((gL X i).2.2 == 0) = false := beq_eq_false_iff_ne.2 p0
     repeat ((first
      |refine ko_sT c0 ?_
      |refine ko_rF c0 ?_
      |refine plan_as (pick_f c0) ?_
      |refine bool_false c0 ?_
      |refine ko_sT (gd_tf c0) ?_
      |refine ko_rF (gd_tf c0) ?_
      |refine plan_as (pick_f (gd_tf c0)) ?_
      |refine bool_false (gd_tf c0) ?_
      |refine sym_drawn hS (by kernel_rfl) ?_); conv => whnf)
     exact ⟨(i + 1, at', many), ⟨by omega, hJ.no fun z => p0 z.1⟩, by show 0 + (k + 1) - (i + 1) < 0 + (k + 1) - i; omega, Nat.le_refl _, (by refine ⟨rfl, rfl, rfl, rfl, rfl, rfl, 2, rfl, ?_, ?_⟩ <;> repeat' (first | exact trivial | exact rfl | exact ⟨_, rfl, WkV.refl _⟩ | exact ⟨_, rfl, WkV.own _ _ _⟩ | exact Nat.zero_le _ | exact ⟨_, rfl, WkV.int hi1⟩ | exact bdT_ivs hI.c1 | exact bdT_lks hI.c2 | exact Nat.le_of_ble_eq_true rfl | exact bdl_no (by assumption) | exact bdl_no (flat_no _) | exact bdl_no (ivs_no _) | exact bdl_no (svs_no _) | exact Nat.max_le.2 ⟨Nat.le_of_ble_eq_true rfl, bdl_no (ivs_no _)⟩ | exact Nat.max_le.2 ⟨Nat.le_of_ble_eq_true rfl, bdl_no (svs_no _)⟩ | apply And.intro))⟩
   ·refine bool_false (ltN_f hi2) ?_
    conv => whnf
    refine .inl ?_
    conv => whnf
    have ei : i = E0.length := by omega
    by_cases hm : many = 1
    ·have hl := hJ.leaf ei hm
     refine bool_false ((show (Int.ofNat many != (1 : Int)) = false by rw [hm]; rfl)) ?_
     conv => whnf
     have hga := hI.acc (a := a) (by omega)
     repeat ((first
      |refine plan_as (getP_as hga) ?_
      |refine ko_rT (inR_t ha2) ?_
      |refine ko_sF (inR_t ha2) ?_
      |refine plan_as (pick_t (inR_t ha2)) ?_
      |refine bool_true (inR_t ha2) ?_
      |refine ko_rT (decide_eq_true (show 0 + a * 1 < m + 1 by omega)) ?_
      |refine ko_sF (decide_eq_true (show 0 + a * 1 < m + 1 by omega)) ?_
      |refine plan_as (pick_t (decide_eq_true (show 0 + a * 1 < m + 1 by omega))) ?_
      |refine bool_true (decide_eq_true (show 0 + a * 1 < m + 1 by omega)) ?_
      |refine sym_drawn hS (by kernel_rfl) ?_); conv => whnf)
     by_cases hc : maxI (lf.getD a 0) (IntKind.i64.wrap (0 - lf.getD a 0)) = 0
     ·have c0 : (maxI (lf.getD a 0) (IntKind.i64.wrap (0 - lf.getD a 0)) == 0) = true := beq_iff_eq.2 hc
      repeat ((first
       |refine ko_rT c0 ?_
       |refine ko_sF c0 ?_
       |refine plan_as (pick_t c0) ?_
       |refine bool_true c0 ?_
       |refine ko_sT (gft c0) ?_
       |refine ko_rF (gft c0) ?_
       |refine plan_as (pick_f (gft c0)) ?_
       |refine bool_false (gft c0) ?_
       |refine sym_drawn hS (by kernel_rfl) ?_); conv => whnf)
      refine ⟨_, rfl, ?_⟩
      rw [hbad fun z => by
       obtain ⟨_, Y, hY⟩ := z
       have := hI.leaf (by omega) hl.2 (hr _ hl.2.1).1 hY
       omega]
      exact fz_no _
     ·have c0 : (maxI (lf.getD a 0) (IntKind.i64.wrap (0 - lf.getD a 0)) == 0) = false := beq_eq_false_iff_ne.2 hc
      have hat := hl.1
      have hai : inR at' (0 + (k + 1)) = true := by rw [hat]; exact inR_t (by have := hl.2.1; omega)
      have hlt := hl.2.1
      have hent := hI.ent hlt
      have hin1 : decide (0 + a * 1 < m + 1) = true := decide_eq_true (by omega)
      have hin3 : decide (0 + at'.toNat * 3 < (k + 1) * 3) = true := decide_eq_true (by omega)
      repeat ((first
       |refine plan_as (getP_as hga) ?_
       |refine plan_as (getP_as hent.1) ?_
       |refine ko_sT c0 ?_
       |refine ko_rF c0 ?_
       |refine plan_as (pick_f c0) ?_
       |refine bool_false c0 ?_
       |refine ko_rT (gff c0) ?_
       |refine ko_sF (gff c0) ?_
       |refine plan_as (pick_t (gff c0)) ?_
       |refine bool_true (gff c0) ?_
       |refine ko_rT (inR_t ha2) ?_
       |refine ko_sF (inR_t ha2) ?_
       |refine plan_as (pick_t (inR_t ha2)) ?_
       |refine bool_true (inR_t ha2) ?_
       |refine ko_rT hai ?_
       |refine ko_sF hai ?_
       |refine plan_as (pick_t hai) ?_
       |refine bool_true hai ?_
       |refine ko_rT hin1 ?_
       |refine ko_sF hin1 ?_
       |refine plan_as (pick_t hin1) ?_
       |refine bool_true hin1 ?_
       |refine ko_rT hin3 ?_
       |refine ko_sF hin3 ?_
       |refine plan_as (pick_t hin3) ?_
       |refine bool_true hin3 ?_
       |refine sym_drawn hS (by kernel_rfl) ?_); conv => whnf)
      by_cases hs : (decide (lf.getD a 0 > 0) == ((gL E0 at'.toNat).1 == Int.ofNat a)) = true
      ·refine sym_eq hq true ((eqBool _ _ _).trans (congrArg some hs)) ?_
       conv => whnf
       repeat ((first
        |refine ko_sT c0 ?_
        |refine ko_rF c0 ?_
        |refine plan_as (pick_f c0) ?_
        |refine bool_false c0 ?_
        |refine ko_sT (gft c0) ?_
        |refine ko_rF (gft c0) ?_
        |refine plan_as (pick_f (gft c0)) ?_
        |refine bool_false (gft c0) ?_
        |refine ko_rT (gff c0) ?_
        |refine ko_sF (gff c0) ?_
        |refine plan_as (pick_t (gff c0)) ?_
        |refine bool_true (gff c0) ?_
        |refine sym_drawn hS (by kernel_rfl) ?_); conv => whnf)
       have hF : (gL E0 at'.toNat).1 = Int.ofNat (gL E0 at'.toNat).1.toNat := (Int.toNat_of_nonneg ((hr _ hlt).2 _ (.inl rfl)).1).symm
       have hT : (gL E0 at'.toNat).2.1 = Int.ofNat (gL E0 at'.toNat).2.1.toNat := (Int.toNat_of_nonneg ((hr _ hlt).2 _ (.inr rfl)).1).symm
       have hFb : (gL E0 at'.toNat).1.toNat < b.length := by have := (hr _ hlt).2 _ (.inl rfl); omega
       have hTb : (gL E0 at'.toNat).2.1.toNat < b.length := by have := (hr _ hlt).2 _ (.inr rfl); omega
       have hFT : (gL E0 at'.toNat).1.toNat ≠ (gL E0 at'.toNat).2.1.toNat := fun z => (hr _ hlt).1 (by rw [hF, hT, z])
       have P := hI.pay hk8 (by omega) hl.2 hF hT hFb hTb hFT hc rfl rfl rfl rfl
       have gF := hI.acc hFb
       have g5a := (P.2.1 (0 + at'.toNat * 3) (by omega)).trans hent.1
       have g5b := (P.2.1 (0 + at'.toNat * 3 + 1) (by omega)).trans hent.2.1
       have iF : inR (gL E0 at'.toNat).1 (0 + (m + 1)) = true := by rw [hF]; exact inR_t (by omega)
       have iT : inR (gL E0 at'.toNat).2.1 (0 + (m + 1)) = true := by rw [hT]; exact inR_t (by omega)
       have b5 : Nat.ble (0 + at'.toNat * 3 + 2 + 1) ((k + 1) * 3) = true := Nat.ble_eq_true_of_le (by omega)
       have bF : Nat.ble (0 + (gL E0 at'.toNat).1.toNat * 1 + 1) (m + 1) = true := Nat.ble_eq_true_of_le (by omega)
       have bT : Nat.ble (0 + (gL E0 at'.toNat).2.1.toNat * 1 + 1) (m + 1) = true := Nat.ble_eq_true_of_le (by omega)
       have dF : decide (0 + (gL E0 at'.toNat).1.toNat * 1 < m + 1) = true := decide_eq_true (by omega)
       have dT : decide (0 + (gL E0 at'.toNat).2.1.toNat * 1 < m + 1) = true := decide_eq_true (by omega)
       have d5 : decide (0 + at'.toNat * 3 + 1 < (k + 1) * 3) = true := decide_eq_true (by omega)
       repeat ((first
        |refine ko_rT hai ?_
        |refine ko_sF hai ?_
        |refine plan_as (pick_t hai) ?_
        |refine bool_true hai ?_
        |refine ko_rT b5 ?_
        |refine ko_sF b5 ?_
        |refine plan_as (pick_t b5) ?_
        |refine bool_true b5 ?_
        |refine sym_drawn hS (by kernel_rfl) ?_); conv => whnf)
       refine set_sym hent.2.2 ?_
       conv => whnf
       repeat ((first
        |refine plan_as (getP_as g5a) ?_
        |refine plan_as (getP_as gF) ?_
        |refine ko_rT hai ?_
        |refine ko_sF hai ?_
        |refine plan_as (pick_t hai) ?_
        |refine bool_true hai ?_
        |refine ko_rT hin3 ?_
        |refine ko_sF hin3 ?_
        |refine plan_as (pick_t hin3) ?_
        |refine bool_true hin3 ?_
        |refine ko_rT iF ?_
        |refine ko_sF iF ?_
        |refine plan_as (pick_t iF) ?_
        |refine bool_true iF ?_
        |refine ko_rT dF ?_
        |refine ko_sF dF ?_
        |refine plan_as (pick_t dF) ?_
        |refine bool_true dF ?_
        |refine ko_rT bF ?_
        |refine ko_sF bF ?_
        |refine plan_as (pick_t bF) ?_
        |refine bool_true bF ?_
        |refine sym_drawn hS (by kernel_rfl) ?_); conv => whnf)
       refine set_sym gF ?_
       conv => whnf
       repeat ((first
        |refine plan_as (getP_as g5b) ?_
        |refine plan_as (getP_as P.1) ?_
        |refine ko_rT hai ?_
        |refine ko_sF hai ?_
        |refine plan_as (pick_t hai) ?_
        |refine bool_true hai ?_
        |refine ko_rT d5 ?_
        |refine ko_sF d5 ?_
        |refine plan_as (pick_t d5) ?_
        |refine bool_true d5 ?_
        |refine ko_rT iT ?_
        |refine ko_sF iT ?_
        |refine plan_as (pick_t iT) ?_
        |refine bool_true iT ?_
        |refine ko_rT dT ?_
        |refine ko_sF dT ?_
        |refine plan_as (pick_t dT) ?_
        |refine bool_true dT ?_
        |refine ko_rT bT ?_
        |refine ko_sF bT ?_
        |refine plan_as (pick_t bT) ?_
        |refine bool_true bT ?_
        |refine sym_drawn hS (by kernel_rfl) ?_); conv => whnf)
       refine set_sym P.1 ?_
       conv => whnf
       refine .inl ?_
       conv => whnf
       have wo : IntKind.i64.wrap (Int.ofNat o - 1) = Int.ofNat (o - 1) := by
        have := oc_le X
        rw [← hI.oc, hI.inv.ft.1] at this
        have e : Int.ofNat o - 1 = Int.ofNat (o - 1) := by show (o : Int) - 1 = ((o - 1 : Nat) : Int); omega
        rw [e]
        exact wrapN (m := o - 1) (by omega)
       exact ⟨(_, _, _, _, o - 1), P.2.2, by show o - 1 < o; omega, Nat.le_refl _, (by refine ⟨rfl, rfl, rfl, rfl, rfl, rfl, 2, rfl, ?_, ?_⟩ <;> repeat' (first | exact trivial | exact rfl | exact ⟨_, rfl, WkV.refl _⟩ | exact ⟨_, rfl, WkV.own _ _ _⟩ | exact Nat.zero_le _ | exact ⟨_, rfl, WkV.int wo⟩ | exact bdT_ivs P.2.2.c1 | exact bdT_lks P.2.2.c2 | exact Nat.le_of_ble_eq_true rfl | exact bdl_no (by assumption) | exact bdl_no (flat_no _) | exact bdl_no (ivs_no _) | exact bdl_no (svs_no _) | exact Nat.max_le.2 ⟨Nat.le_of_ble_eq_true rfl, bdl_no (ivs_no _)⟩ | exact Nat.max_le.2 ⟨Nat.le_of_ble_eq_true rfl, bdl_no (svs_no _)⟩ | apply And.intro))⟩
      ·have hs := Bool.eq_false_iff.2 hs
       refine sym_eq hq false ((eqBool _ _ _).trans (congrArg some hs)) ?_
       conv => whnf
       repeat ((first
        |refine ko_sT c0 ?_
        |refine ko_rF c0 ?_
        |refine plan_as (pick_f c0) ?_
        |refine bool_false c0 ?_
        |refine ko_sT (gft c0) ?_
        |refine ko_rF (gft c0) ?_
        |refine plan_as (pick_f (gft c0)) ?_
        |refine bool_false (gft c0) ?_
        |refine ko_rT (gff c0) ?_
        |refine ko_sF (gff c0) ?_
        |refine plan_as (pick_t (gff c0)) ?_
        |refine bool_true (gff c0) ?_
        |refine sym_drawn hS (by kernel_rfl) ?_); conv => whnf)
       refine ⟨_, rfl, ?_⟩
       rw [hbad fun z => by
        obtain ⟨_, Y, hY⟩ := z
        have := (hI.leaf (by omega) hl.2 (hr _ hl.2.1).1 hY).2.2
        rw [hs] at this
        cases this]
       exact fz_no _
    ·have hl := hJ.none ei hm
     refine bool_true ((show (Int.ofNat many != (1 : Int)) = true from bne_iff_ne.2 fun z => hm (Int.ofNat.inj z))) ?_
     conv => whnf
     exact ⟨a + 1, ⟨by omega, fun c hc i => by
      by_cases e : c = a
      ·rw [e]; exact hl i
      ·exact hno c (by omega) i⟩, by omega, Nat.le_refl _, (by refine ⟨rfl, rfl, rfl, rfl, rfl, rfl, 2, rfl, ?_, ?_⟩ <;> repeat' (first | exact trivial | exact rfl | exact ⟨_, rfl, WkV.refl _⟩ | exact ⟨_, rfl, WkV.own _ _ _⟩ | exact Nat.zero_le _ | exact ⟨_, rfl, WkV.int (show IntKind.i64.wrap (Int.ofNat a + 1) = Int.ofNat (a + 1) from wrapN (m := a + 1) (by omega))⟩ | exact bdT_ivs hI.c1 | exact bdT_lks hI.c2 | exact Nat.le_of_ble_eq_true rfl | exact bdl_no (by assumption) | exact bdl_no (flat_no _) | exact bdl_no (ivs_no _) | exact bdl_no (svs_no _) | exact Nat.max_le.2 ⟨Nat.le_of_ble_eq_true rfl, bdl_no (ivs_no _)⟩ | exact Nat.max_le.2 ⟨Nat.le_of_ble_eq_true rfl, bdl_no (svs_no _)⟩ | apply And.intro))⟩
  ·refine bool_false (ltN_f ha2) ?_
   conv => whnf
   refine .inl ?_
   conv => whnf
   refine ⟨_, rfl, ?_⟩
   rw [hbad fun z => hI.inv.stuck (fun i hi => (hr i hi).2) (by
    obtain ⟨i, h1, h2⟩ := oc_some (X := X) (by rw [← hI.oc]; exact ho)
    exact ⟨i, by rw [← hI.inv.ft.1]; exact h1, h2⟩) (fun c hc i => hno c (by omega) i) z.1]
   exact fz_no _
 ·refine bool_false (decide_eq_false (show ¬ Int.ofNat o > 0 from fun z => ho (Int.ofNat_lt.1 z))) ?_
  conv => whnf
  refine .inl ?_
  conv => whnf
  refine sym_call hC ?_
  conv => whnf
  refine sym_inline hE hS ?_
  conv => whnf
  refine sym_call hC ?_
  conv => whnf
  refine sym_inline hE hS ?_
  conv => whnf
  have o0 : o = 0 := by omega
  have hall : ∀ i, i < E0.length → 0 < (gL X i).2.2 := fun i hi => by
   have h1 := hI.inv.nn i hi
   have h2 := oc_zero (hI.oc.symm.trans o0) i (by rw [hI.inv.ft.1]; exact hi)
   unfold opn at h2
   omega
  have hXl : X.length = 0 + (k + 1) := by rw [hI.inv.ft.1]; omega
  have hlX := lks_len X
  refine sym_loopG hE hS (A := Nat) [0, 1, 6, 7] (fun i => [(8, nv i)]) (fun _ => []) (fun _ => []) (fun i => i ≤ 0 + (m + 1) ∧ ∀ j, j < i → lf.getD j 0 = 0) (fun i => 0 + (m + 1) - i) 0 (Nat.le_of_ble_eq_true rfl) rfl (by refine ⟨rfl, rfl, rfl, rfl, rfl, rfl, 2, rfl, ?_, ?_⟩ <;> repeat' (first | exact trivial | exact rfl | exact ⟨_, rfl, WkV.refl _⟩ | exact ⟨_, rfl, WkV.own _ _ _⟩ | exact Nat.zero_le _ | exact bdT_ivs hI.c1 | exact bdT_lks hI.c2 | exact Nat.le_of_ble_eq_true rfl | exact bdl_no (by assumption) | exact bdl_no (flat_no _) | exact bdl_no (ivs_no _) | exact bdl_no (svs_no _) | exact Nat.max_le.2 ⟨Nat.le_of_ble_eq_true rfl, bdl_no (ivs_no _)⟩ | exact Nat.max_le.2 ⟨Nat.le_of_ble_eq_true rfl, bdl_no (svs_no _)⟩ | apply And.intro)) ⟨Nat.zero_le _, fun _ h => absurd h (Nat.not_lt_zero _)⟩ ?_
  rintro i ⟨hi, hj⟩ K hK
  obtain rfl : K = 2 := hK
  conv => whnf
  by_cases hi2 : i < 0 + (m + 1)
  ·have gi := hI.acc (a := i) (by omega)
   repeat ((first
    |refine plan_as (getP_as gi) ?_
    |refine ko_rT (ltN_t hi2) ?_
    |refine ko_sF (ltN_t hi2) ?_
    |refine plan_as (pick_t (ltN_t hi2)) ?_
    |refine bool_true (ltN_t hi2) ?_
    |refine ko_sT (ltN_t hi2) ?_
    |refine ko_rF (ltN_t hi2) ?_
    |refine plan_as (pick_f (ltN_t hi2)) ?_
    |refine bool_false (ltN_t hi2) ?_
    |refine ko_rT (inR_t hi2) ?_
    |refine ko_sF (inR_t hi2) ?_
    |refine plan_as (pick_t (inR_t hi2)) ?_
    |refine bool_true (inR_t hi2) ?_
    |refine ko_rT (decide_eq_true (show 0 + i * 1 < m + 1 by omega)) ?_
    |refine ko_sF (decide_eq_true (show 0 + i * 1 < m + 1 by omega)) ?_
    |refine plan_as (pick_t (decide_eq_true (show 0 + i * 1 < m + 1 by omega))) ?_
    |refine bool_true (decide_eq_true (show 0 + i * 1 < m + 1 by omega)) ?_
    |refine sym_drawn hS (by kernel_rfl) ?_); conv => whnf)
   refine sym_call hC ?_
   conv => whnf
   refine sym_inline hE hS ?_
   conv => whnf
   by_cases c : lf.getD i 0 = 0
   ·have c0 : (lf.getD i 0 != 0) = false := by rw [c]; rfl
    repeat ((first
     |refine ko_sT c0 ?_
     |refine ko_rF c0 ?_
     |refine plan_as (pick_f c0) ?_
     |refine bool_false c0 ?_
     |refine sym_drawn hS (by kernel_rfl) ?_); conv => whnf)
    exact ⟨i + 1, ⟨by omega, fun j h => by
     by_cases e : j = i
     ·rw [e]; exact c
     ·exact hj j (by omega)⟩, by omega, Nat.le_refl _, (by refine ⟨rfl, rfl, rfl, rfl, rfl, rfl, 2, rfl, ?_, ?_⟩ <;> repeat' (first | exact trivial | exact rfl | exact ⟨_, rfl, WkV.refl _⟩ | exact ⟨_, rfl, WkV.own _ _ _⟩ | exact Nat.zero_le _ | exact ⟨_, rfl, WkV.int (show IntKind.i64.wrap (Int.ofNat i + 1) = Int.ofNat (i + 1) from wrapN (m := i + 1) (by omega))⟩ | exact bdT_ivs hI.c1 | exact bdT_lks hI.c2 | exact Nat.le_of_ble_eq_true rfl | exact bdl_no (by assumption) | exact bdl_no (flat_no _) | exact bdl_no (ivs_no _) | exact bdl_no (svs_no _) | exact Nat.max_le.2 ⟨Nat.le_of_ble_eq_true rfl, bdl_no (ivs_no _)⟩ | exact Nat.max_le.2 ⟨Nat.le_of_ble_eq_true rfl, bdl_no (svs_no _)⟩ | apply And.intro))⟩
   ·have c0 : (lf.getD i 0 != 0) = true := bne_iff_ne.2 c
    repeat ((first
     |refine ko_rT c0 ?_
     |refine ko_sF c0 ?_
     |refine plan_as (pick_t c0) ?_
     |refine bool_true c0 ?_
     |refine sym_drawn hS (by kernel_rfl) ?_); conv => whnf)
    refine ⟨_, rfl, ?_⟩
    rw [hbad fun z => by
     obtain ⟨_, Y, hY⟩ := z
     exact c (hI.inv.zero hall hY i (by omega)), decide_eq_true (show Int.ofNat i ≥ 0 from Int.natCast_nonneg i)]
    exact FzV.tup (xs := [_, .bool false]) (ys := [.unk, .bool false]) ⟨fun _ _ _ _ _ _ _ _ => trivial, .no trivial, trivial⟩
  ·refine bool_false (ltN_f hi2) ?_
   conv => whnf
   refine .inl ?_
   conv => whnf
   refine ⟨_, rfl, ?_⟩
   rw [hyes X (hI.inv.forest hall) (hI.inv.solved hall fun a ha => hj a (by omega))]
   refine FzV.tup (xs := [_, .bool true]) (ys := [lkA X, .bool true]) ⟨?_, .no trivial, trivial⟩
   show FzV _ (.slc 1 0 (0 + (k + 1)) 0) (.lst (lks X) X.length .no)
   rw [hXl]
   exact FzV.slcN (n := (k + 1) * 3) rfl (by omega) (fun j _ => hI.c2 j) (lks_no X)
theorem settled_some {b : List Int} {E0 Y : List LkI} (hb : b.length ≤ 5) (hb2 : 2 ≤ b.length) (hk8 : E0.length ≤ 8) (hk1 : 1 ≤ E0.length) (hz : ∀ i, i < E0.length → (gL E0 i).2.2 = 0) (hr : ∀ i, i < E0.length → (gL E0 i).1 ≠ (gL E0 i).2.1 ∧ ∀ a, tch (gL E0 i) a → 0 ≤ a ∧ a < (b.length : Int)) (hbd : ∀ a, a < b.length → - 8000000 ≤ b.getD a 0 ∧ b.getD a 0 ≤ 8000000)
  (h : slv b E0 = some Y) : Pure prog 64 [nl b, lkA E0] (.tup [lkA Y, .bool true]) := by
 have hs := slv_sol h
 have lY := lks_no Y
 refine settled_run hb hb2 hk8 hk1 hz hr hbd ⟨⟨lY, fun _ h => nomatch h⟩, trivial, trivial⟩ (fun z => absurd ⟨hs.1, Y, hs.2⟩ z) fun Y' hf hY' => ?_
 rw [hf.uniq hr hY' hs.2]
theorem settled_none {b : List Int} {E0 : List LkI} (hb : b.length ≤ 5) (hb2 : 2 ≤ b.length) (hk8 : E0.length ≤ 8) (hk1 : 1 ≤ E0.length) (hz : ∀ i, i < E0.length → (gL E0 i).2.2 = 0) (hr : ∀ i, i < E0.length → (gL E0 i).1 ≠ (gL E0 i).2.1 ∧ ∀ a, tch (gL E0 i) a → 0 ≤ a ∧ a < (b.length : Int)) (hbd : ∀ a, a < b.length → - 8000000 ≤ b.getD a 0 ∧ b.getD a 0 ≤ 8000000)
  (h : slv b E0 = none) : Pure prog 64 [nl b, lkA E0] (.tup [.unk, .bool false]) :=
 settled_run hb hb2 hk8 hk1 hz hr hbd ⟨trivial, trivial, trivial⟩ (fun _ => rfl) fun Y hf hY => absurd ⟨hf, Y, hY⟩ (slv_none.1 h)
end
end Go.Abs.Seat
