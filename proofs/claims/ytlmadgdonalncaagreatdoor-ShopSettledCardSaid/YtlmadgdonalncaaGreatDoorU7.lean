/-
  What a train turns its hand by.
  Lists of pairs as arguments: trains, and what is none.
  Which one of two trains is nearer.
  By how much a hand is off, and for how long it lasts: parts.
  By how much a hand is off: rounded towards 0, down and up.
  The law TrainNearers.
  Off, Lasts, Between: the program's and the document's.
  The law TrainOffs.
  Feasts and settings: lists of numbers.
  Hands that are set: whether they are kept, and where they are.
  The best of some settings.
  Chains as fractions.
  The fraction of a chain: Fold.
  The fraction of a chain: the document's.
  Where a hand that is set is.
  Chains of fractions.
  Lists held against each other; a chain's fraction has that chain.
  The document's chain.
  Rules: whether they are as defined, and their numbers of teeth.
  The best of some settings.
-/
import Derived.Test.YtlmadgdonalncaaGreatDoorT2
import Derived.Test.YtlmadgdonalncaaGreatDoorU4
/-! What a train turns its hand by. -/
namespace Go.Abs.Seat
open Go Go.Abs Go.Proofs.Tryz
set_option maxRecDepth 100000
set_option maxHeartbeats 4000000
attribute [local irreducible] IntKind.wrap pEq

end Go.Abs.Seat

/-! Lists of pairs as arguments: trains, and what is none. -/
namespace Go.Abs.Seat
open Go Go.Abs Go.Proofs.Tryz
set_option maxRecDepth 100000
set_option maxHeartbeats 4000000
attribute [local irreducible] IntKind.wrap pEq

def flat : List (Int × Int) → List AV
 | [] => []
 |p :: r => iv p.1 :: iv p.2 :: flat r
abbrev pv (l : List (Int × Int)) : AV := .lst (flat l) l.length .no

theorem flat_len : ∀ l, (flat l).length = l.length * 2
 | [] => rfl
 |p :: r => by simp only [flat, List.length_cons, flat_len r]; omega
theorem flat_no : ∀ l, Lives noL (flat l)
 | [] => trivial
 | _ :: r => ⟨trivial, trivial, flat_no r⟩
end Go.Abs.Seat

/-! Which one of two trains is nearer. -/
namespace Go.Abs.Seat
open Go Go.Abs Go.Proofs.Tryz
set_option maxRecDepth 100000
set_option maxHeartbeats 4000000
attribute [local irreducible] IntKind.wrap pEq

theorem maxI_neg {a b : Nat} (h1 : a < 4611686018427387904) (h2 : b < 4611686018427387904) :
  maxI (Int.ofNat a - Int.ofNat b) (IntKind.i64.wrap (0 - (Int.ofNat a - Int.ofNat b))) = Int.ofNat (gapN a b) := by
 rw [wrapI (by show _ ≤ (0 : Int) - ((a : Int) - (b : Int)); omega) (by show (0 : Int) - ((a : Int) - (b : Int)) < _; omega)]
 unfold maxI gapN
 show (if (0 : Int) - ((a : Int) - (b : Int)) > (a : Int) - (b : Int) then (0 : Int) - ((a : Int) - (b : Int)) else (a : Int) - (b : Int)) = (((a - b) + (b - a) : Nat) : Int)
 split <;> omega

theorem isNaN_pure (a : Int) : Pure prog 152 [iv a] (.bool false) := by
 refine pure_sym hE rfl ⟨trivial, trivial⟩ trivial fun S q pc hS hq hC hE => ?_
 conv => whnf
 exact ⟨_, rfl, wkb (by rw [bne_self_eq_false])⟩

def ordI (a b : Int) : Int := if a < b then -1 else if b < a then 1 else 0

theorem cmp_pure (a b : Int) : Pure prog 125 [iv a, iv b] (iv (ordI a b)) := by
 refine pure_sym hE rfl ⟨trivial, trivial, trivial⟩ trivial fun S q pc hS hq hC hE => ?_
 conv => whnf
 refine sym_pure hC (isNaN_pure a) ?_
 conv => whnf
 refine sym_pure hC (isNaN_pure b) ?_
 conv => whnf
 by_cases h1 : a < b
 ·rw [show decide (a < b) = true from decide_eq_true h1]
  conv => whnf
  exact ⟨_, rfl, by rw [show ordI a b = -1 from if_pos h1]; exact Wk.refl _⟩
 ·rw [show decide (a < b) = false from decide_eq_false h1]
  conv => whnf
  by_cases h2 : b < a
  ·rw [show decide (a > b) = true from decide_eq_true h2]
   conv => whnf
   exact ⟨_, rfl, by rw [show ordI a b = 1 from (if_neg h1).trans (if_pos h2)]; exact Wk.refl _⟩
  ·rw [show decide (a > b) = false from decide_eq_false h2]
   conv => whnf
   exact ⟨_, rfl, by rw [show ordI a b = 0 from (if_neg h1).trans (if_neg h2)]; exact Wk.refl _⟩
end Go.Abs.Seat

/-! By how much a hand is off, and for how long it lasts: parts. -/
namespace Go.Abs.Seat
open Go Go.Abs Go.Proofs.Tryz
set_option maxRecDepth 100000
set_option maxHeartbeats 4000000
attribute [local irreducible] IntKind.wrap pEq

end Go.Abs.Seat

/-! By how much a hand is off: rounded towards 0, down and up. -/
namespace Go.Abs.Seat
open Go Go.Abs Go.Proofs.Tryz
set_option maxRecDepth 100000
set_option maxHeartbeats 4000000
attribute [local irreducible] IntKind.wrap pEq

end Go.Abs.Seat

/-! The law TrainNearers. -/
namespace Go.Abs.Seat
open Go Go.Abs Go.Proofs.Tryz
set_option maxRecDepth 100000
set_option maxHeartbeats 4000000
attribute [local irreducible] IntKind.wrap pEq

end Go.Abs.Seat

/-! Off, Lasts, Between: the program's and the document's. -/
namespace Go.Abs.Seat
open Go Go.Abs Go.Proofs.Tryz
set_option maxRecDepth 100000
set_option maxHeartbeats 4000000
attribute [local irreducible] IntKind.wrap pEq

mutual
theorem bd_no : ∀ (v : AV), Live noL v → bd v = 0
 | .unk, _ => rfl
 | .int _ _, _ => rfl
 | .bool _, _ => rfl
 | .str _, _ => rfl
 | .nilp, _ => rfl
 | .ptr _ _, h => h.elim
 | .lptr xs _, h => bdl_no0 xs h
 | .gp _ _, _ => rfl
 | .nils, _ => rfl
 | .slc _ _ _ _, h => h.elim
 | .lst xs _ .no, h => bdl_no0 xs h.1
 | .lst xs _ .full, h => bdl_no0 xs h.1
 | .lst xs _ (.ch c), h => (h.2 c rfl).elim
 | .nilm, _ => rfl
 | .map _, h => h.elim
 | .nilf, _ => rfl
 | .func _ f c, h => by show Nat.max (bdl f) (bdl c) = 0; rw [bdl_no0 f h.1, bdl_no0 c h.2]; rfl
 | .yld _, h => h.elim
 | .nili, _ => rfl
 | .iface _ a, h => bd_no a h
 | .agg cs, h => bdl_no0 cs h
 | .tup cs, h => bdl_no0 cs h
theorem bdl_no0 : ∀ (xs : List AV), Lives noL xs → bdl xs = 0
 | [], _ => rfl
 |x :: xs, h => by show Nat.max (bd x) (bdl xs) = 0; rw [bd_no x h.1, bdl_no0 xs h.2]; rfl
end
theorem bdl_no {xs : List AV} (h : Lives noL xs) {n : Nat} : bdl xs ≤ n := by rw [bdl_no0 xs h]; exact Nat.zero_le _
theorem bz {v : AV} (h : Live noL v) {n : Nat} : bd v ≤ n := by rw [bd_no v h]; exact Nat.zero_le _

theorem plan_as {p p' : Plan} {y : Bool} {s n : Nat} {h : Tr AObj} {K : KP} (e : p = p') (k : runP p' y s h n K) : runP p y s h n K := e ▸ k
theorem nthP {xs : List AV} {o : Nat} {v : AV} (e : nth xs o = some v) : (match nth xs o with | some v => Plan.ret v | none => Plan.fail) = Plan.ret v := by rw [e]

end Go.Abs.Seat

/-! The law TrainOffs. -/
namespace Go.Abs.Seat
open Go Go.Abs Go.Proofs.Tryz
set_option maxRecDepth 100000
set_option maxHeartbeats 4000000
attribute [local irreducible] IntKind.wrap pEq

end Go.Abs.Seat

/-! Feasts and settings: lists of numbers. -/
namespace Go.Abs.Seat
open Go Go.Abs Go.Proofs.Tryz
set_option maxRecDepth 100000
set_option maxHeartbeats 4000000
attribute [local irreducible] IntKind.wrap pEq

def ivs : List Int → List AV
 | [] => []
 |x :: r => iv x :: ivs r
abbrev nl (l : List Int) : AV := .lst (ivs l) l.length .no
abbrev gi (l : List Int) (i : Nat) : Int := l.getD i 0

theorem ivs_len : ∀ l, (ivs l).length = l.length
 | [] => rfl
 | _ :: r => by simp only [ivs, List.length_cons, ivs_len r]
theorem ivs_no : ∀ l, Lives noL (ivs l)
 | [] => trivial
 | _ :: r => ⟨trivial, ivs_no r⟩
theorem nl_no (l : List Int) : Live noL (nl l) := ⟨ivs_no l, fun _ h => nomatch h⟩
theorem nth_ivs : ∀ (l : List Int) (i : Nat), i < l.length → nth (ivs l) i = some (iv (gi l i))
 |x :: r, 0, _ => rfl
 |x :: r, i + 1, h => nth_ivs r i (by simpa using h)
 | [], i, h => absurd h (Nat.not_lt_zero _)
theorem nth_ivs1 {l : List Int} {i : Nat} (h : i < l.length) : nth (ivs l) (i * 1) = some (iv (gi l i)) := by rw [Nat.mul_one]; exact nth_ivs l i h
theorem inR_t {i n : Nat} (h : i < n) : inR (Int.ofNat i) n = true := by
 unfold inR
 rw [decide_eq_true (show (0 : Int) ≤ Int.ofNat i by show (0 : Int) ≤ (i : Int); omega), decide_eq_true (show Int.ofNat i < (n : Int) by show (i : Int) < (n : Int); omega)]
 rfl

def feAt (l : List Int) (i : Nat) : Prop := (1 ≤ gi l i ∧ gi l i ≤ 10000) ∧ (0 < i → gi l (i - 1) < gi l i)
def feOk (l : List Int) : Prop := (∀ i, i < l.length → feAt l i) ∧ l.length ≤ 8

theorem bfalse {b : Bool} {p : Prop} (h : b = true ↔ p) (hp : ¬ p) : b = false := Bool.eq_false_iff.2 fun e => hp (h.1 e)
theorem btrue {b : Bool} {p : Prop} (h : b = true ↔ p) (hp : p) : b = true := h.2 hp
theorem upto {p : Nat → Prop} {i : Nat} (h : ∀ j, j < i → p j) (hi : p i) : ∀ j, j < i + 1 → p j := fun j hj => by
 by_cases e : j = i
 ·subst e; exact hi
 ·exact h j (by omega)

def IL (v : AV) (l : List Int) : Prop := v = .nils ∧ l = [] ∨ v = nl l
theorem IL.no {v : AV} {l : List Int} (h : IL v l) : Live noL v := by
 rcases h with ⟨rfl, _⟩ | rfl
 ·trivial
 ·exact nl_no l

def seAt (n : Nat) (l : List Int) (i : Nat) : Prop := (0 ≤ gi l i ∧ gi l i ≤ (n : Int) - 1) ∧ (0 < i → gi l (i - 1) < gi l i)
def seOk (n : Nat) (l : List Int) : Prop := ∀ i, i < l.length → seAt n l i

end Go.Abs.Seat

/-! Hands that are set: whether they are kept, and where they are. -/
namespace Go.Abs.Seat
open Go Go.Abs Go.Proofs.Tryz
set_option maxRecDepth 100000
set_option maxHeartbeats 4000000
attribute [local irreducible] IntKind.wrap pEq

structure Days (f s : List Int) : Prop where
 fl : f.length ≤ 8
 ix : ∀ i, i < s.length → (0 ≤ gi s i ∧ gi s i < f.length)
 rg : ∀ i, i < s.length → (1 ≤ gi f (gi s i).toNat ∧ gi f (gi s i).toNat ≤ 10000)
 up : ∀ i, i + 1 < s.length → gi f (gi s i).toNat < gi f (gi s (i + 1)).toNat
 sl : s.length ≤ f.length

theorem fe_up {f : List Int} (h : feOk f) : ∀ (k i : Nat), i + k < f.length → 0 < k → gi f i < gi f (i + k)
 | 0, _, _, hk => absurd hk (Nat.lt_irrefl _)
 |k + 1, i, hi, _ => by
  have h1 := (h.1 (i + (k + 1)) hi).2 (by omega)
  have e : i + (k + 1) - 1 = i + k := by omega
  rw [e] at h1
  by_cases k0 : k = 0
  ·subst k0; exact h1
  ·have := fe_up h k i (by omega) (by omega)
   omega

theorem se_ge {n : Nat} {s : List Int} (h : seOk n s) : ∀ i, i < s.length → (i : Int) ≤ gi s i
 | 0, hi => (h 0 hi).1.1
 |i + 1, hi => by
  have h1 := (h (i + 1) hi).2 (by omega)
  have h2 := se_ge h i (by omega)
  simp only [Nat.add_sub_cancel] at h1
  omega

theorem Days.of {f s : List Int} (hf : feOk f) (hs : seOk f.length s) : Days f s where
 fl := hf.2
 ix := fun i hi => by have := (hs i hi).1; omega
 rg := fun i hi => by
  have := (hs i hi).1
  exact (hf.1 _ (by omega)).1
 up := fun i hi => by
  have h1 := (hs i (by omega)).1
  have h2 := (hs (i + 1) hi).1
  have h3 := (hs (i + 1) hi).2 (by omega)
  simp only [Nat.add_sub_cancel] at h3
  have e : (gi s (i + 1)).toNat = (gi s i).toNat + ((gi s (i + 1)).toNat - (gi s i).toNat) := by omega
  rw [e]
  exact fe_up hf _ _ (by omega) (by omega)
 sl := by
  by_cases h : s.length = 0
  ·omega
  ·have h1 := se_ge hs (s.length - 1) (by omega)
   have h2 := (hs (s.length - 1) (by omega)).1
   omega

def kp (L u : Int) : Int → List Int → Prop
 |last, [] => u - last ≤ L
 |last, x :: r => if x < u then x - last ≤ L ∧ kp L u x r else u - last ≤ L

end Go.Abs.Seat

/-! The best of some settings. -/
namespace Go.Abs.Seat
open Go Go.Abs Go.Proofs.Tryz
set_option maxRecDepth 100000
set_option maxHeartbeats 4000000
attribute [local irreducible] pEq
section
attribute [local irreducible] IntKind.wrap

def sv : List Int → AV
 | [] => .nils
 |x :: r => nl (x :: r)
theorem sv_no (l : List Int) : Live noL (sv l) := by
 cases l with
 |nil => trivial
 |cons x r => exact nl_no _

theorem or_pure (x y : Int) : Pure prog 124 [.lst [iv x, iv y] 2 .full] (iv (if x = 0 then y else x)) := by
 refine pure_sym hE rfl (by repeat' (first | exact trivial | assumption | exact flat_no _ | exact (fun _ h => nomatch h) | apply And.intro)) (by repeat' (first | exact trivial | assumption | exact flat_no _ | exact (fun _ h => nomatch h) | apply And.intro)) fun S q pc hS hq hC hE => ?_
 conv => whnf
 refine sym_unroll hE hS ?_
 conv => whnf
 by_cases h : x = 0
 ·rw [show (x != 0) = false by rw [h]; rfl]
  conv => whnf
  rw [show IntKind.i64.wrap (0 + 1) = 1 from wrapI (by decide) (by decide)]
  conv => whnf
  refine sym_unroll hE hS ?_
  conv => whnf
  rw [if_pos h]
  by_cases h2 : y = 0
  ·rw [show (y != 0) = false by rw [h2]; rfl]
   conv => whnf
   rw [show IntKind.i64.wrap (1 + 1) = 2 from wrapI (by decide) (by decide)]
   conv => whnf
   refine sym_unroll hE hS ?_
   conv => whnf
   rw [h2]
   exact ⟨_, rfl, Wk.refl _⟩
  ·rw [show (y != 0) = true from bne_iff_ne.2 h2]
   conv => whnf
   exact ⟨_, rfl, Wk.refl _⟩
 ·rw [show (x != 0) = true from bne_iff_ne.2 h]
  conv => whnf
  rw [if_neg h]
  exact ⟨_, rfl, Wk.refl _⟩

end

def svs : List (List Int) → List AV
 | [] => []
 |x :: r => sv x :: svs r
theorem svs_no : ∀ l, Lives noL (svs l)
 | [] => trivial
 |x :: r => ⟨sv_no x, svs_no r⟩
abbrev gs (l : List (List Int)) (i : Nat) : List Int := l.getD i []
end Go.Abs.Seat

/-! Chains as fractions. -/
namespace Go.Abs.Seat
open Go Go.Abs Go.Proofs.Tryz
set_option maxRecDepth 100000
set_option maxHeartbeats 4000000
attribute [local irreducible] IntKind.wrap pEq

def zl (l : List Nat) : List Int := l.map Int.ofNat
theorem zl_len (l : List Nat) : (zl l).length = l.length := List.length_map _
theorem zl_gi (l : List Nat) {i : Nat} (h : i < l.length) : gi (zl l) i = Int.ofNat (l.getD i 0) := by
 simp [gi, zl, List.getD, h]

def chAt (l : List Int) (i : Nat) : Prop := (if i = 0 then 0 else 1) ≤ gi l i ∧ gi l i ≤ 50000
def chOk (l : List Int) : Prop := (∀ i, i < l.length → chAt l i) ∧ 1 ≤ l.length ∧ l.length ≤ 24

end Go.Abs.Seat

/-! The fraction of a chain: Fold. -/
namespace Go.Abs.Seat
open Go Go.Abs Go.Proofs.Tryz
set_option maxRecDepth 100000
set_option maxHeartbeats 4000000
attribute [local irreducible] IntKind.wrap pEq

end Go.Abs.Seat

/-! The fraction of a chain: the document's. -/
namespace Go.Abs.Seat
open Go Go.Abs Go.Proofs.Tryz
set_option maxRecDepth 100000
set_option maxHeartbeats 4000000
attribute [local irreducible] IntKind.wrap pEq

structure ChN (l : List Nat) : Prop where
 hx : ∀ i, i < l.length → l.getD i 0 ≤ 50000
 hp : ∀ i, 1 ≤ i → i < l.length → 1 ≤ l.getD i 0
 h1 : 1 ≤ l.length ∧ l.length ≤ 24
theorem ChN.of {l : List Nat} (hc : chOk (zl l)) : ChN l := by
 have hz := zl_len l
 refine ⟨fun i hi => ?_, fun i h1 hi => ?_, by have := hc.2; omega⟩
 ·have := (hc.1 i (by omega)).2
  rw [zl_gi l hi] at this
  exact Int.ofNat_le.1 this
 ·have := (hc.1 i (by omega)).1
  rw [zl_gi l hi, if_neg (by omega)] at this
  exact Int.ofNat_le.1 this

end Go.Abs.Seat

/-! Where a hand that is set is. -/
namespace Go.Abs.Seat
open Go Go.Abs Go.Proofs.Tryz
set_option maxRecDepth 100000
set_option maxHeartbeats 4000000
attribute [local irreducible] IntKind.wrap pEq

end Go.Abs.Seat

/-! Chains of fractions. -/
namespace Go.Abs.Seat
open Go Go.Abs Go.Proofs.Tryz
set_option maxRecDepth 100000
set_option maxHeartbeats 4000000
attribute [local irreducible] IntKind.wrap pEq

theorem zl_app (l : List Nat) (q : Nat) : ivs (zl (l ++ [q])) = ivs (zl l) ++ [nv q] := by
 induction l with
 |nil => rfl
 |cons x l ih => simp only [List.cons_append, zl, List.map_cons, ivs]; exact congrArg _ ih
theorem app_ok (l : List Nat) (q c : Nat) : AV.lst (ivs (zl l) ++ [nv q]) (l.length + (0 + 1)) (.ch c) = .lst (ivs (zl (l ++ [q]))) (l ++ [q]).length (.ch c) := by
 rw [zl_app, List.length_append]; rfl
theorem app_ch (l : List Nat) (q : Nat) : AObj.chain (l.length + (0 + 1)) 1 3 = .chain (l ++ [q]).length 1 3 := by
 rw [List.length_append]; rfl
theorem lenIs_eq : ∀ (l : List AV), lenIs l l.length = true
 | [] => rfl
 | _ :: r => lenIs_eq r
theorem lenIs_zl (l : List Nat) : lenIs (ivs (zl l)) (l.length * 1) = true := by
 have := lenIs_eq (ivs (zl l))
 rw [ivs_len, zl_len] at this
 rw [Nat.mul_one]; exact this

theorem wkl_ivs : ∀ l : List Int, wkl (ivs l) = ivs l
 | [] => rfl
 |x :: r => by simp only [ivs, wkl, wk, wkl_ivs r]
theorem wk_zl (l : List Nat) (c : Nat) : Wk (.lst (ivs (zl l)) l.length (.ch c)) (nl (zl l)) := by
 have := Wk.wk (.lst (ivs (zl l)) l.length (.ch c))
 simp only [wk, wkl_ivs] at this
 rw [nl, zl_len]
 exact this
end Go.Abs.Seat

/-! Lists held against each other; a chain's fraction has that chain. -/
namespace Go.Abs.Seat
open Go Go.Abs Go.Proofs.Tryz
set_option maxRecDepth 100000
set_option maxHeartbeats 4000000
attribute [local irreducible] IntKind.wrap pEq

theorem list_ext_gi {a b : List Int} (h : a.length = b.length) (hg : ∀ i, i < a.length → gi a i = gi b i) : a = b := by
 apply List.ext_getElem h
 intro i h1 h2
 have := hg i h1
 simp only [gi, List.getD, List.getElem?_eq_getElem h1, List.getElem?_eq_getElem h2, Option.getD_some] at this
 exact this

theorem same_pure (a c : List Int) (ha : a.length < 4611686018427387904) {b : Bool} (hb : b = true ↔ a = c) : Pure prog 18 [nl a, nl c] (.bool b) := by
 have la := ivs_no a
 have lc := ivs_no c
 refine pure_sym hE rfl (by repeat' (first | exact trivial | assumption | exact flat_no _ | exact (fun _ h => nomatch h) | apply And.intro)) (by repeat' (first | exact trivial | assumption | exact flat_no _ | exact (fun _ h => nomatch h) | apply And.intro)) fun S q pc hS hq hC hE => ?_
 conv => whnf
 by_cases h0 : a.length = c.length
 ·rw [show ((a.length : Int) != (c.length : Int)) = false from by rw [h0]; exact bne_self_eq_false _]
  conv => whnf
  refine sym_loop hE hS (A := Nat) [0, 1] (fun i => [(5, nv i)]) (fun _ => []) (fun i => i ≤ a.length ∧ ∀ j, j < i → gi a j = gi c j) (fun i => a.length - i) 0 rfl rfl (by refine ⟨rfl, rfl, rfl, rfl, ?_, ?_⟩ <;> repeat' (first | exact trivial | exact rfl | exact Nat.zero_le _ | exact Nat.le_of_ble_eq_true rfl | exact bdl_no (by assumption) | exact bdl_no (flat_no _) | exact bdl_no (ivs_no _) | exact Nat.max_le.2 ⟨Nat.le_of_ble_eq_true rfl, bdl_no (ivs_no _)⟩ | apply And.intro)) ⟨Nat.zero_le _, fun j h => absurd h (Nat.not_lt_zero _)⟩ ?_
  intro i ⟨hi, hf⟩
  conv => whnf
  by_cases h : i < a.length
  ·rw [show decide (Int.ofNat i < ↑a.length) = true from ltN_t h]
   conv => whnf
   refine bool_true (inR_t (i := i) (n := a.length) h) ?_
   conv => whnf
   refine plan_as (nthP (nth_ivs1 (l := a) (i := i) h)) ?_
   conv => whnf
   refine bool_true (inR_t (i := i) (n := c.length) (by omega)) ?_
   conv => whnf
   refine plan_as (nthP (nth_ivs1 (l := c) (i := i) (by omega))) ?_
   conv => whnf
   refine sym_drawn hS (by kernel_rfl) ?_
   conv => whnf
   by_cases h1 : gi a i = gi c i
   ·rw [show (gi a i != gi c i) = false from by rw [h1]; exact bne_self_eq_false _]
    conv => whnf
    rw [show IntKind.i64.wrap (Int.ofNat i + 1) = Int.ofNat (i + 1) from wrapN (m := i + 1) (by omega)]
    exact ⟨i + 1, ⟨h, upto hf h1⟩, by omega, (by refine ⟨rfl, rfl, rfl, rfl, ?_, ?_⟩ <;> repeat' (first | exact trivial | exact rfl | exact Nat.zero_le _ | exact Nat.le_of_ble_eq_true rfl | exact bdl_no (by assumption) | exact bdl_no (flat_no _) | exact bdl_no (ivs_no _) | exact Nat.max_le.2 ⟨Nat.le_of_ble_eq_true rfl, bdl_no (ivs_no _)⟩ | apply And.intro))⟩
   ·rw [show (gi a i != gi c i) = true from bne_iff_ne.2 h1]
    conv => whnf
    rw [bfalse hb fun k => h1 (by rw [k])]
    exact ⟨_, rfl, Wk.refl _⟩
  ·rw [show decide (Int.ofNat i < ↑a.length) = false from ltN_f h]
   conv => whnf
   exact ⟨_, rfl, wkb (btrue hb (list_ext_gi h0 fun j hj => hf j (by omega))).symm⟩
 ·rw [show ((a.length : Int) != (c.length : Int)) = true from bne_iff_ne.2 (by omega)]
  conv => whnf
  rw [bfalse hb fun k => h0 (by rw [k])]
  exact ⟨_, rfl, Wk.refl _⟩

end Go.Abs.Seat

/-! The document's chain. -/
namespace Go.Abs.Seat
open Go Go.Abs Go.Proofs.Tryz
set_option maxRecDepth 100000
set_option maxHeartbeats 4000000
attribute [local irreducible] IntKind.wrap pEq

theorem wk_own {xs : List AV} {n m : Nat} {own : Own} (e : n = m) : Wk (.lst xs n own) (.lst xs m .no) := by
 subst e
 intro g w u hu
 simp only [VRel] at hu ⊢
 obtain ⟨b, off, cap, h1, h2, h3, h4, _⟩ := hu
 exact ⟨b, off, cap, h1, h2, h3, h4, trivial⟩

theorem pSrc_eq {T : Tr TypeInfo} {tx e : TypeId} {sz : Nat} {x : AV} {k : List AV → Nat → Plan} {ys l : List AV} {m : Nat} {own : Own} (hT : tyU T tx = some (.slice e)) (hx : x = .lst ys m own) (ht : takeN (m * sz) ys = some l) : pSrc T tx sz x k = .chk (allCells l) (k l m) := by
 subst hx
 unfold pSrc
 simp only [hT, ht]
theorem allCells_ivs : ∀ l : List Int, allCells (ivs l) = true
 | [] => rfl
 | _ :: r => allCells_ivs r
theorem takeN_all : ∀ l : List AV, takeN l.length l = some l
 | [] => rfl
 |x :: r => by rw [List.length_cons, takeN, takeN_all r]
theorem takeN_ivs (l : List Int) : takeN (l.length * 1) (ivs l) = some (ivs l) := by
 have := takeN_all (ivs l)
 rwa [ivs_len, ← Nat.mul_one l.length] at this

end Go.Abs.Seat

/-! Rules: whether they are as defined, and their numbers of teeth. -/
namespace Go.Abs.Seat
noncomputable section
open Go Go.Abs Go.Proofs.Tryz
set_option maxRecDepth 100000
set_option maxHeartbeats 40000000

attribute [local irreducible] IntKind.wrap pEq

def allT (l : List Int) : Prop := ∀ i, i < l.length → tth (gi l i)
instance (l : List Int) : Decidable (allT l) := Classical.propDecidable _
end
end Go.Abs.Seat

/-! The best of some settings. -/
namespace Go.Abs.Seat
open Go Go.Abs Go.Proofs.Tryz
set_option maxRecDepth 100000
set_option maxHeartbeats 4000000
attribute [local irreducible] IntKind.wrap pEq

abbrev sl (l : List (List Int)) : AV := .lst (svs l) l.length .no
end Go.Abs.Seat
