/-
  What a train turns its hand by.
-/
import Derived.Test.YtlmadgdonalncaaGreatDoorT2
import Derived.Test.YtlmadgdonalncaaGreatDoorU4
namespace Go.Abs.Seat
open Go Go.Abs Go.Proofs.Tryz
set_option maxRecDepth 100000
set_option maxHeartbeats 4000000
attribute [local irreducible] IntKind.wrap pEq

def flat:List (Int × Int) → List AV
 | [] => []
 |p :: r => iv p.1 :: iv p.2 :: flat r
abbrev pv (l:List (Int × Int)):AV :=.lst (flat l) l.length .no
theorem flat_len:∀ l,(flat l).length = l.length * 2
 | [] => rfl
 |p :: r => by simp only [flat,List.length_cons,flat_len r];omega
theorem qaf:∀ l,Lives noL (flat l)
 | [] => trivial
 | _ :: r => ⟨trivial,trivial,qaf r⟩
theorem qvd {a b:Nat} (h1:a < 4611686018427387904) (h2:b < 4611686018427387904) :
  maxI (Int.ofNat a - Int.ofNat b) (IntKind.i64.wrap (0 - (Int.ofNat a - Int.ofNat b))) = Int.ofNat (gapN a b) :=by
 rw [qd7 (by show _ ≤ (0:Int) - ((a:Int) - (b:Int));omega) (by show (0:Int) - ((a:Int) - (b:Int)) < _;omega)]
 unfold maxI gapN
 show (if (0:Int) - ((a:Int) - (b:Int)) > (a:Int) - (b:Int) then (0:Int) - ((a:Int) - (b:Int)) else (a:Int) - (b:Int)) = (((a - b) + (b - a):Nat):Int)
 split <;> omega
theorem qjf (a:Int):Pure prog 152 [iv a] (.bool false) :=by
 refine qan hE rfl ⟨trivial,trivial⟩ trivial fun S q pc hS hq hC hE => ?_
 conv => whnf
 exact ⟨_,rfl,wkb (by rw [bne_self_eq_false])⟩
def ordI (a b:Int):Int :=if a < b then -1 else if b < a then 1 else 0
theorem qbf (a b:Int):Pure prog 125 [iv a,iv b] (iv (ordI a b)) :=by
 refine qan hE rfl ⟨trivial,trivial,trivial⟩ trivial fun S q pc hS hq hC hE => ?_
 conv => whnf
 refine qac hC (qjf a) ?_
 conv => whnf
 refine qac hC (qjf b) ?_
 conv => whnf
 by_cases h1:a < b
 ·rw [show decide (a < b) = true from decide_eq_true h1]
  conv => whnf
  exact ⟨_,rfl,by rw [show ordI a b = -1 from if_pos h1];exact Wk.refl _⟩
 ·rw [show decide (a < b) = false from decide_eq_false h1]
  conv => whnf
  by_cases h2:b < a
  ·rw [show decide (a > b) = true from decide_eq_true h2]
   conv => whnf
   exact ⟨_,rfl,by rw [show ordI a b = 1 from (if_neg h1).trans (if_pos h2)];exact Wk.refl _⟩
  ·rw [show decide (a > b) = false from decide_eq_false h2]
   conv => whnf
   exact ⟨_,rfl,by rw [show ordI a b = 0 from (if_neg h1).trans (if_neg h2)];exact Wk.refl _⟩


theorem qva (a b:Int):ordI b a = -ordI a b :=by unfold ordI;split <;> split <;> omega
end Go.Abs.Seat
/-! Off, Lasts, Between: the program's and the document's. -/
namespace Go.Abs.Seat
open Go Go.Abs Go.Proofs.Tryz
set_option maxRecDepth 100000
set_option maxHeartbeats 4000000
attribute [local irreducible] IntKind.wrap pEq
mutual
theorem qv6:∀ (v:AV),Live noL v → bd v = 0
 | .unk,_ => rfl
 | .int _ _,_ => rfl
 | .bool _,_ => rfl
 | .str _,_ => rfl
 | .nilp,_ => rfl
 | .ptr _ _,h => h.elim
 | .lptr xs _,h => qc7 xs h
 | .gp _ _,_ => rfl
 | .nils,_ => rfl
 | .slc _ _ _ _,h => h.elim
 | .lst xs _ .no,h => qc7 xs h.1
 | .lst xs _ .full,h => qc7 xs h.1
 | .lst xs _ (.ch c),h => (h.2 c rfl).elim
 | .nilm,_ => rfl
 | .map _,h => h.elim
 | .nilf,_ => rfl
 | .func _ f c,h => by show Nat.max (bdl f) (bdl c) = 0;rw [qc7 f h.1,qc7 c h.2];rfl
 | .yld _,h => h.elim
 | .nili,_ => rfl
 | .iface _ a,h => qv6 a h
 | .agg cs,h => qc7 cs h
 | .tup cs,h => qc7 cs h
theorem qc7:∀ (xs:List AV),Lives noL xs → bdl xs = 0
 | [],_ => rfl
 |x :: xs,h => by show Nat.max (bd x) (bdl xs) = 0;rw [qv6 x h.1,qc7 xs h.2];rfl
end
theorem qag {xs:List AV} (h:Lives noL xs) {n:Nat}:bdl xs ≤ n :=by rw [qc7 xs h];exact Nat.zero_le _
theorem bz {v:AV} (h:Live noL v) {n:Nat}:bd v ≤ n :=by rw [qv6 v h];exact Nat.zero_le _
theorem qae {p p':Plan} {y:Bool} {s n:Nat} {h:Tr AObj} {K:KP} (e:p = p') (k:runP p' y s h n K):runP p y s h n K :=e ▸ k
theorem nthP {xs:List AV} {o:Nat} {v:AV} (e:nth xs o = some v):(match nth xs o with | some v => Plan.ret v | none => Plan.fail) = Plan.ret v :=by rw [e]
theorem bdq {xs:List AV} {n:Nat} (h:Lives noL xs := by first|assumption|exact qat _|exact qa4 _|exact qaf _|exact qa0 _):bdl xs ≤ n :=qag h
end Go.Abs.Seat

namespace Go.Abs.Seat
open Go Go.Abs Go.Proofs.Tryz
set_option maxRecDepth 100000
set_option maxHeartbeats 4000000
attribute [local irreducible] IntKind.wrap pEq

def ivs:List Int → List AV
 | [] => []
 |x :: r => iv x :: ivs r
abbrev nl (l:List Int):AV :=.lst (ivs l) l.length .no
abbrev gi (l:List Int) (i:Nat):Int :=l.getD i 0
theorem ivs_len:∀ l,(ivs l).length = l.length
 | [] => rfl
 | _ :: r => by simp only [ivs,List.length_cons,ivs_len r]
theorem qat:∀ l,Lives noL (ivs l)
 | [] => trivial
 | _ :: r => ⟨trivial,qat r⟩
theorem nl_no (l:List Int):Live noL (nl l) :=⟨qat l,fun _ h => nomatch h⟩
theorem qsl:∀ (l:List Int) (i:Nat),i < l.length → nth (ivs l) i = some (iv (gi l i))
 |x :: r,0,_ => rfl
 |x :: r,i + 1,h => qsl r i (by simpa using h)
 | [],i,h => absurd h (Nat.not_lt_zero _)
theorem qa8 {l:List Int} {i:Nat} (h:i < l.length):nth (ivs l) (i * 1) = some (iv (gi l i)) :=by rw [Nat.mul_one];exact qsl l i h
theorem qal {i n:Nat} (h:i < n):inR (Int.ofNat i) n = true :=by
 unfold inR
 rw [decide_eq_true (show (0:Int) ≤ Int.ofNat i by show (0:Int) ≤ (i:Int);omega),decide_eq_true (show Int.ofNat i < (n:Int) by show (i:Int) < (n:Int);omega)]
 rfl
def feAt (l:List Int) (i:Nat):Prop :=(1 ≤ gi l i ∧ gi l i ≤ 10000) ∧ (0 < i → gi l (i - 1) < gi l i)
def feOk (l:List Int):Prop :=(∀ i,i < l.length → feAt l i) ∧ l.length ≤ 8
theorem qxc {b:Bool} {p:Prop} (h:b = true ↔ p) (hp:¬ p):b = false :=Bool.eq_false_iff.2 fun e => hp (h.1 e)
theorem q02 {b:Bool} {p:Prop} (h:b = true ↔ p) (hp:p):b = true :=h.2 hp
theorem upto {p:Nat → Prop} {i:Nat} (h:∀ j,j < i → p j) (hi:p i):∀ j,j < i + 1 → p j :=fun j hj => by
 by_cases e:j = i
 ·subst e;exact hi
 ·exact h j (by omega)
def IL (v:AV) (l:List Int):Prop :=v = .nils ∧ l = [] ∨ v = nl l
theorem IL.no {v:AV} {l:List Int} (h:IL v l):Live noL v :=by
 rcases h with ⟨rfl,_⟩ | rfl
 ·trivial
 ·exact nl_no l
def seAt (n:Nat) (l:List Int) (i:Nat):Prop :=(0 ≤ gi l i ∧ gi l i ≤ (n:Int) - 1) ∧ (0 < i → gi l (i - 1) < gi l i)
def seOk (n:Nat) (l:List Int):Prop :=∀ i,i < l.length → seAt n l i
theorem mxI {a n:Nat} {l:List Int} (h:Nat.ble a n = true):Nat.max a (bdl (ivs l)) ≤ n :=Nat.max_le.2 ⟨Nat.le_of_ble_eq_true h,qag (qat l)⟩
theorem qk7 (l:List Int) {i:Nat} (h:i < l.length):l.drop i = gi l i :: l.drop (i + 1) :=by
 rw [List.drop_eq_getElem_cons h]
 simp [gi,List.getD,h]
structure Days (f s:List Int):Prop where
 fl:f.length ≤ 8
 ix:∀ i,i < s.length → (0 ≤ gi s i ∧ gi s i < f.length)
 rg:∀ i,i < s.length → (1 ≤ gi f (gi s i).toNat ∧ gi f (gi s i).toNat ≤ 10000)
 up:∀ i,i + 1 < s.length → gi f (gi s i).toNat < gi f (gi s (i + 1)).toNat
 sl:s.length ≤ f.length
theorem q0d {f:List Int} (h:feOk f):∀ (k i:Nat),i + k < f.length → 0 < k → gi f i < gi f (i + k)
 | 0,_,_,hk => absurd hk (Nat.lt_irrefl _)
 |k + 1,i,hi,_ => by
  have h1 :=(h.1 (i + (k + 1)) hi).2 (by omega)
  have e:i + (k + 1) - 1 = i + k :=by omega
  rw [e] at h1
  by_cases k0:k = 0
  ·subst k0;exact h1
  ·have :=q0d h k i (by omega) (by omega)
   omega
theorem qzo {n:Nat} {s:List Int} (h:seOk n s):∀ i,i < s.length → (i:Int) ≤ gi s i
 | 0,hi => (h 0 hi).1.1
 |i + 1,hi => by
  have h1 :=(h (i + 1) hi).2 (by omega)
  have h2 :=qzo h i (by omega)
  simp only [Nat.add_sub_cancel] at h1
  omega
theorem Days.of {f s:List Int} (hf:feOk f) (hs:seOk f.length s):Days f s where
 fl :=hf.2
 ix :=fun i hi => by have :=(hs i hi).1;omega
 rg :=fun i hi => by
  have :=(hs i hi).1
  exact (hf.1 _ (by omega)).1
 up :=fun i hi => by
  have h1 :=(hs i (by omega)).1
  have h2 :=(hs (i + 1) hi).1
  have h3 :=(hs (i + 1) hi).2 (by omega)
  simp only [Nat.add_sub_cancel] at h3
  have e:(gi s (i + 1)).toNat = (gi s i).toNat + ((gi s (i + 1)).toNat - (gi s i).toNat) :=by omega
  rw [e]
  exact q0d hf _ _ (by omega) (by omega)
 sl :=by
  by_cases h:s.length = 0
  ·omega
  ·have h1 :=qzo hs (s.length - 1) (by omega)
   have h2 :=(hs (s.length - 1) (by omega)).1
   omega
def kp (L u:Int):Int → List Int → Prop
 |last,[] => u - last ≤ L
 |last,x :: r => if x < u then x - last ≤ L ∧ kp L u x r else u - last ≤ L
end Go.Abs.Seat
/-! The best of some settings. -/
namespace Go.Abs.Seat
open Go Go.Abs Go.Proofs.Tryz
set_option maxRecDepth 100000
set_option maxHeartbeats 4000000
attribute [local irreducible] pEq
section
attribute [local irreducible] IntKind.wrap
def lexI:List Int → List Int → Int
 | [],[] => 0
 | [],_ :: _ => -1
 | _ :: _,[] => 1
 |a :: r,b :: s => if ordI a b = 0 then lexI r s else ordI a b
def sv:List Int → AV
 | [] => .nils
 |x :: r => nl (x :: r)
theorem qrc (l:List Int):Live noL (sv l) :=by
 cases l with
 |nil => trivial
 |cons x r => exact nl_no _
theorem qvh (a b:List Int) {i:Nat} (hi:i = a.length) (h2:i ≤ b.length):lexI (a.drop i) (b.drop i) = if (a.length:Int) < b.length then -1 else 0 :=by
 subst hi
 rw [List.drop_eq_nil_of_le (Nat.le_refl _)]
 by_cases h:a.length < b.length
 ·rw [if_pos (by omega),qk7 b h];rfl
 ·rw [if_neg (by omega),List.drop_eq_nil_of_le (by omega)];rfl
theorem qvg (a b:List Int) (ha:a.length < 4611686018427387904) (_hb:b.length < 4611686018427387904):Pure prog 135 [nl a,nl b] (iv (lexI a b)) :=by
 have la :=qat a
 have lb :=qat b
 refine qan hE rfl (by repeat' first|exact trivial|assumption|exact qaf _|exact fun _ h => nomatch h|apply And.intro) (by repeat' first|exact trivial|assumption|exact qaf _|exact fun _ h => nomatch h|apply And.intro) fun S q pc hS hq hC hE => ?_
 conv => whnf
 refine qfv hE hS (A :=Nat) [0,1,9,10] (fun i => [(11,nv i)]) (fun _ => []) (fun i => i ≤ a.length ∧ i ≤ b.length ∧ lexI (a.drop i) (b.drop i) = lexI a b) (fun i => a.length - i) 0 rfl rfl (by refine ⟨rfl,rfl,rfl,rfl,?_,?_⟩ <;> repeat' (first|exact trivial|exact rfl|exact Nat.zero_le _|exact kle rfl|exact qag (by assumption)|exact qag (qaf _)|exact qag (qat _)|exact mxI rfl|apply And.intro)) ⟨Nat.zero_le _,Nat.zero_le _,rfl⟩ ?_
 intro i ⟨hi,hj,he⟩
 conv => whnf
 by_cases h:i < a.length
 ·rw [show decide (Int.ofNat i < ↑a.length) = true from qau h]
  conv => whnf
  refine qaa (qal (i :=i) (n :=a.length) h) ?_
  conv => whnf
  refine qae (nthP (qa8 (l :=a) (i :=i) h)) ?_
  conv => whnf
  by_cases h2:i < b.length
  ·rw [show decide ((b.length:Int) ≤ Int.ofNat i) = false from decide_eq_false (by show ¬ (b.length:Int) ≤ (i:Int);omega)]
   conv => whnf
   refine qaa (qal (i :=i) (n :=b.length) h2) ?_
   conv => whnf
   refine qae (nthP (qa8 (l :=b) (i :=i) h2)) ?_
   conv => whnf
   refine qac hC (qbf (gi a i) (gi b i)) ?_
   conv => whnf
   rw [qk7 a h,qk7 b h2,lexI] at he
   by_cases h3:ordI (gi a i) (gi b i) = 0
   ·rw [if_pos h3] at he
    rw [show ((ordI (gi a i) (gi b i)) != 0) = false by rw [h3];rfl]
    conv => whnf
    rw [show IntKind.i64.wrap (Int.ofNat i + 1) = Int.ofNat (i + 1) from qa1 (m :=i + 1) (by omega)]
    exact ⟨i + 1,⟨h,h2,he⟩,by omega,(by refine ⟨rfl,rfl,rfl,rfl,?_,?_⟩ <;> repeat' (first|exact trivial|exact rfl|exact Nat.zero_le _|exact kle rfl|exact qag (by assumption)|exact qag (qaf _)|exact qag (qat _)|exact mxI rfl|apply And.intro))⟩
   ·rw [if_neg h3] at he
    rw [show ((ordI (gi a i) (gi b i)) != 0) = true from bne_iff_ne.2 h3]
    conv => whnf
    rw [he]
    exact ⟨_,rfl,Wk.refl _⟩
  ·rw [show decide ((b.length:Int) ≤ Int.ofNat i) = true from decide_eq_true (by show (b.length:Int) ≤ (i:Int);omega)]
   conv => whnf
   have e0:b.drop i = [] :=List.drop_eq_nil_of_le (by omega)
   rw [qk7 a h,e0] at he
   rw [← he]
   exact ⟨_,rfl,Wk.refl _⟩
 ·rw [show decide (Int.ofNat i < ↑a.length) = false from qa6 h]
  conv => whnf
  rw [qvh a b (by omega) hj] at he
  by_cases h2:(a.length:Int) < b.length
  ·rw [if_pos h2] at he
   rw [decide_eq_true h2]
   conv => whnf
   rw [← he]
   exact ⟨_,rfl,Wk.refl _⟩
  ·rw [if_neg h2] at he
   rw [decide_eq_false h2]
   conv => whnf
   rw [← he]
   exact ⟨_,rfl,Wk.refl _⟩
theorem qz5 (a b:List Int) (ha:a.length < 4611686018427387904) (hb:b.length < 4611686018427387904):Pure prog 135 [sv a,sv b] (iv (lexI a b)) :=by
 have la :=qat a
 have lb :=qat b
 cases a with
 |nil =>
  cases b with
  |nil =>
   show Pure prog _ [.nils,.nils] _
   refine qan hE rfl (by repeat' first|exact trivial|assumption|exact qaf _|exact fun _ h => nomatch h|apply And.intro) (by repeat' first|exact trivial|assumption|exact qaf _|exact fun _ h => nomatch h|apply And.intro) fun S q pc hS hq hC hE => ?_
   conv => whnf
   refine qah hE hS ?_
   conv => whnf
   exact ⟨_,rfl,Wk.refl _⟩
  |cons y s =>
   show Pure prog _ [.nils,nl (y :: s)] _
   refine qan hE rfl (by repeat' first|exact trivial|assumption|exact qaf _|exact fun _ h => nomatch h|apply And.intro) (by repeat' first|exact trivial|assumption|exact qaf _|exact fun _ h => nomatch h|apply And.intro) fun S q pc hS hq hC hE => ?_
   conv => whnf
   refine qah hE hS ?_
   conv => whnf
   rw [show decide ((0:Int) < ((y :: s).length:Nat)) = true from decide_eq_true (by simp only [List.length_cons];omega)]
   conv => whnf
   exact ⟨_,rfl,Wk.refl _⟩
 |cons x r =>
  cases b with
  |nil =>
   show Pure prog _ [nl (x :: r),.nils] _
   refine qan hE rfl (by repeat' first|exact trivial|assumption|exact qaf _|exact fun _ h => nomatch h|apply And.intro) (by repeat' first|exact trivial|assumption|exact qaf _|exact fun _ h => nomatch h|apply And.intro) fun S q pc hS hq hC hE => ?_
   conv => whnf
   refine qah hE hS ?_
   conv => whnf
   rw [show decide ((0:Int) < ((x :: r).length:Nat)) = true from decide_eq_true (by simp only [List.length_cons];omega)]
   conv => whnf
   refine qaa (qal (i :=0) (n :=(x :: r).length) (Nat.succ_pos _)) ?_
   conv => whnf
   exact ⟨_,rfl,Wk.refl _⟩
  |cons y s => exact qvg (x :: r) (y :: s) ha hb
theorem qkm (x y:Int):Pure prog 124 [.lst [iv x,iv y] 2 .full] (iv (if x = 0 then y else x)) :=by
 refine qan hE rfl (by repeat' first|exact trivial|assumption|exact qaf _|exact fun _ h => nomatch h|apply And.intro) (by repeat' first|exact trivial|assumption|exact qaf _|exact fun _ h => nomatch h|apply And.intro) fun S q pc hS hq hC hE => ?_
 conv => whnf
 refine qah hE hS ?_
 conv => whnf
 by_cases h:x = 0
 ·rw [show (x != 0) = false by rw [h];rfl]
  conv => whnf
  rw [show IntKind.i64.wrap (0 + 1) = 1 from qd7 (by decide) (by decide)]
  conv => whnf
  refine qah hE hS ?_
  conv => whnf
  rw [if_pos h]
  by_cases h2:y = 0
  ·rw [show (y != 0) = false by rw [h2];rfl]
   conv => whnf
   rw [show IntKind.i64.wrap (1 + 1) = 2 from qd7 (by decide) (by decide)]
   conv => whnf
   refine qah hE hS ?_
   conv => whnf
   rw [h2]
   exact ⟨_,rfl,Wk.refl _⟩
  ·rw [show (y != 0) = true from bne_iff_ne.2 h2]
   conv => whnf
   exact ⟨_,rfl,Wk.refl _⟩
 ·rw [show (x != 0) = true from bne_iff_ne.2 h]
  conv => whnf
  rw [if_neg h]
  exact ⟨_,rfl,Wk.refl _⟩
end
def svs:List (List Int) → List AV
 | [] => []
 |x :: r => sv x :: svs r
theorem qa4:∀ l,Lives noL (svs l)
 | [] => trivial
 |x :: r => ⟨qrc x,qa4 r⟩
theorem qrb:∀ l,(svs l).length = l.length
 | [] => rfl
 | _ :: r => by simp only [svs,List.length_cons,qrb r]
abbrev gs (l:List (List Int)) (i:Nat):List Int :=l.getD i []
theorem qsi:∀ (l:List (List Int)) (i:Nat),i < l.length → nth (svs l) i = some (sv (gs l i))
 |x :: r,0,_ => rfl
 |x :: r,i + 1,h => qsi r i (by simpa using h)
 | [],i,h => absurd h (Nat.not_lt_zero _)
theorem mxS {a n:Nat} {l:List (List Int)} (h:Nat.ble a n = true):Nat.max a (bdl (svs l)) ≤ n :=Nat.max_le.2 ⟨Nat.le_of_ble_eq_true h,qag (qa4 l)⟩
end Go.Abs.Seat

namespace Go.Abs.Seat
open Go Go.Abs Go.Proofs.Tryz
set_option maxRecDepth 100000
set_option maxHeartbeats 4000000
attribute [local irreducible] IntKind.wrap pEq
def zl (l:List Nat):List Int :=l.map Int.ofNat
theorem qem (l:List Nat):(zl l).length = l.length :=List.length_map _
theorem qzi (l:List Nat) {i:Nat} (h:i < l.length):gi (zl l) i = Int.ofNat (l.getD i 0) :=by
 simp [gi,zl,List.getD,h]
def chAt (l:List Int) (i:Nat):Prop :=(if i = 0 then 0 else 1) ≤ gi l i ∧ gi l i ≤ 50000
def chOk (l:List Int):Prop :=(∀ i,i < l.length → chAt l i) ∧ 1 ≤ l.length ∧ l.length ≤ 24

structure ChN (l:List Nat):Prop where
 hx:∀ i,i < l.length → l.getD i 0 ≤ 50000
 hp:∀ i,1 ≤ i → i < l.length → 1 ≤ l.getD i 0
 h1:1 ≤ l.length ∧ l.length ≤ 24
theorem ChN.of {l:List Nat} (hc:chOk (zl l)):ChN l :=by
 have hz :=qem l
 refine ⟨fun i hi => ?_,fun i h1 hi => ?_,by have :=hc.2;omega⟩
 ·have :=(hc.1 i (by omega)).2
  rw [qzi l hi] at this
  exact Int.ofNat_le.1 this
 ·have :=(hc.1 i (by omega)).1
  rw [qzi l hi,if_neg (by omega)] at this
  exact Int.ofNat_le.1 this

theorem qwd (l:List Nat) (q:Nat):ivs (zl (l ++ [q])) = ivs (zl l) ++ [nv q] :=by
 induction l with
 |nil => rfl
 |cons x l ih => simp only [List.cons_append,zl,List.map_cons,ivs];exact congrArg _ ih
theorem q0s (l:List Nat) (q c:Nat):AV.lst (ivs (zl l) ++ [nv q]) (l.length + (0 + 1)) (.ch c) = .lst (ivs (zl (l ++ [q]))) (l ++ [q]).length (.ch c) :=by
 rw [qwd,List.length_append];rfl
theorem qxh (l:List Nat) (q:Nat):AObj.chain (l.length + (0 + 1)) 1 3 = .chain (l ++ [q]).length 1 3 :=by
 rw [List.length_append];rfl
theorem qds:∀ (l:List AV),qby l l.length = true
 | [] => rfl
 | _ :: r => qds r
theorem qvi (l:List Nat):qby (ivs (zl l)) (l.length * 1) = true :=by
 have :=qds (ivs (zl l))
 rw [ivs_len,qem] at this
 rw [Nat.mul_one];exact this
theorem qhm:∀ l:List Int,wkl (ivs l) = ivs l
 | [] => rfl
 |x :: r => by simp only [ivs,wkl,wk,qhm r]
theorem q0u (l:List Nat) (c:Nat):Wk (.lst (ivs (zl l)) l.length (.ch c)) (nl (zl l)) :=by
 have :=Wk.wk (.lst (ivs (zl l)) l.length (.ch c))
 simp only [wk,qhm] at this
 rw [nl,qem]
 exact this
theorem qnl {a b:List Int} (h:a.length = b.length) (hg:∀ i,i < a.length → gi a i = gi b i):a = b :=by
 apply List.ext_getElem h
 intro i h1 h2
 have :=hg i h1
 simp only [gi,List.getD,List.getElem?_eq_getElem h1,List.getElem?_eq_getElem h2,Option.getD_some] at this
 exact this
theorem qrk (a c:List Int) (ha:a.length < 4611686018427387904) {b:Bool} (hb:b = true ↔ a = c):Pure prog 18 [nl a,nl c] (.bool b) :=by
 have la :=qat a
 have lc :=qat c
 refine qan hE rfl (by repeat' first|exact trivial|assumption|exact qaf _|exact fun _ h => nomatch h|apply And.intro) (by repeat' first|exact trivial|assumption|exact qaf _|exact fun _ h => nomatch h|apply And.intro) fun S q pc hS hq hC hE => ?_
 conv => whnf
 by_cases h0:a.length = c.length
 ·rw [show ((a.length:Int) != (c.length:Int)) = false from by rw [h0];exact bne_self_eq_false _]
  conv => whnf
  refine qfv hE hS (A :=Nat) [0,1] (fun i => [(5,nv i)]) (fun _ => []) (fun i => i ≤ a.length ∧ ∀ j,j < i → gi a j = gi c j) (fun i => a.length - i) 0 rfl rfl (by refine ⟨rfl,rfl,rfl,rfl,?_,?_⟩ <;> repeat' (first|exact trivial|exact rfl|exact Nat.zero_le _|exact kle rfl|exact qag (by assumption)|exact qag (qaf _)|exact qag (qat _)|exact mxI rfl|apply And.intro)) ⟨Nat.zero_le _,fun j h => absurd h (Nat.not_lt_zero _)⟩ ?_
  intro i ⟨hi,hf⟩
  conv => whnf
  by_cases h:i < a.length
  ·rw [show decide (Int.ofNat i < ↑a.length) = true from qau h]
   conv => whnf
   refine qaa (qal (i :=i) (n :=a.length) h) ?_
   conv => whnf
   refine qae (nthP (qa8 (l :=a) (i :=i) h)) ?_
   conv => whnf
   refine qaa (qal (i :=i) (n :=c.length) (by omega)) ?_
   conv => whnf
   refine qae (nthP (qa8 (l :=c) (i :=i) (by omega))) ?_
   conv => whnf
   refine qad hS (by kernel_rfl) ?_
   conv => whnf
   by_cases h1:gi a i = gi c i
   ·rw [show (gi a i != gi c i) = false from by rw [h1];exact bne_self_eq_false _]
    conv => whnf
    rw [show IntKind.i64.wrap (Int.ofNat i + 1) = Int.ofNat (i + 1) from qa1 (m :=i + 1) (by omega)]
    exact ⟨i + 1,⟨h,upto hf h1⟩,by omega,(by refine ⟨rfl,rfl,rfl,rfl,?_,?_⟩ <;> repeat' (first|exact trivial|exact rfl|exact Nat.zero_le _|exact kle rfl|exact qag (by assumption)|exact qag (qaf _)|exact qag (qat _)|exact mxI rfl|apply And.intro))⟩
   ·rw [show (gi a i != gi c i) = true from bne_iff_ne.2 h1]
    conv => whnf
    rw [qxc hb fun k => h1 (by rw [k])]
    exact ⟨_,rfl,Wk.refl _⟩
  ·rw [show decide (Int.ofNat i < ↑a.length) = false from qa6 h]
   conv => whnf
   exact ⟨_,rfl,wkb (q02 hb (qnl h0 fun j hj => hf j (by omega))).symm⟩
 ·rw [show ((a.length:Int) != (c.length:Int)) = true from bne_iff_ne.2 (by omega)]
  conv => whnf
  rw [qxc hb fun k => h0 (by rw [k])]
  exact ⟨_,rfl,Wk.refl _⟩
theorem qi0 {xs:List AV} {n m:Nat} {own:Own} (e:n = m):Wk (.lst xs n own) (.lst xs m .no) :=by
 subst e
 intro g w u hu
 simp only [VRel] at hu ⊢
 obtain ⟨b,off,cap,h1,h2,h3,h4,_⟩ :=hu
 exact ⟨b,off,cap,h1,h2,h3,h4,trivial⟩
theorem qdw {T:Tr TypeInfo} {tx e:TypeId} {sz:Nat} {x:AV} {k:List AV → Nat → Plan} {ys l:List AV} {m:Nat} {own:Own} (hT:tyU T tx = some (.slice e)) (hx:x = .lst ys m own) (ht:qb2 (m * sz) ys = some l):pSrc T tx sz x k = .chk (qda l) (k l m) :=by
 subst hx
 unfold pSrc
 simp only [hT,ht]
theorem qbi:∀ l:List Int,qda (ivs l) = true
 | [] => rfl
 | _ :: r => qbi r
theorem qlj:∀ l:List AV,qb2 l.length l = some l
 | [] => rfl
 |x :: r => by rw [List.length_cons,qb2,qlj r]
theorem qcd (l:List Int):qb2 (l.length * 1) (ivs l) = some (ivs l) :=by
 have :=qlj (ivs l)
 rwa [ivs_len,← Nat.mul_one l.length] at this
end Go.Abs.Seat
namespace Go.Abs.Seat
noncomputable section
open Go Go.Abs Go.Proofs.Tryz
set_option maxRecDepth 100000
set_option maxHeartbeats 40000000
attribute [local irreducible] IntKind.wrap pEq

end
end Go.Abs.Seat
namespace Go.Abs.Seat
open Go Go.Abs Go.Proofs.Tryz
set_option maxRecDepth 100000
set_option maxHeartbeats 4000000
attribute [local irreducible] IntKind.wrap pEq
abbrev sl (l:List (List Int)):AV :=.lst (svs l) l.length .no
theorem qcw {l:List (List Int)} {i:Nat} (h:i < l.length):nth (svs l) (i * 1) = some (sv (gs l i)) :=by rw [Nat.mul_one];exact qsi l i h
theorem qxo (l:List (List Int)) {i:Nat} (h:i < l.length):l.take (i + 1) = l.take i ++ [gs l i] :=by
 rw [List.take_succ_eq_append_getElem h]
 simp [gs,List.getD,h]
theorem qie (l:List (List Int)) {i:Nat} (h:i < l.length):gs l i ∈ l :=by
 have e:gs l i = l[i] :=by simp [gs,List.getD,h]
 rw [e];exact List.getElem_mem h
end Go.Abs.Seat
