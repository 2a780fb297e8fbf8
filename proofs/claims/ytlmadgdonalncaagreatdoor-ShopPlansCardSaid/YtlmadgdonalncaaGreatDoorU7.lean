/-
  What a train turns its hand by.
-/
import Derived.Test.YtlmadgdonalncaaGreatDoorT2
import Derived.Test.YtlmadgdonalncaaGreatDoorU4
namespace Go.Abs.Seat
open Go Go.Abs Go.Proofs.Tryz
set_option maxRecDepth 100000
set_option maxHeartbeats 4000000
attribute [local irreducible] IntKind.wrap pEq

def flat:List (Int × Int) → List AV
 | [] => []
 |p :: r => iv p.1 :: iv p.2 :: flat r
abbrev pv (l:List (Int × Int)):AV :=.lst (flat l) l.length .no
theorem flat_len:∀ l,(flat l).length = l.length * 2
 | [] => rfl
 |p :: r => by simp only [flat,List.length_cons,flat_len r];omega
theorem qag:∀ l,Lives noL (flat l)
 | [] => trivial
 | _ :: r => ⟨trivial,trivial,qag r⟩
theorem qtx {a b:Nat} (h1:a < 4611686018427387904) (h2:b < 4611686018427387904) :
  maxI (Int.ofNat a - Int.ofNat b) (IntKind.i64.wrap (0 - (Int.ofNat a - Int.ofNat b))) = Int.ofNat (gapN a b) :=by
 rw [qd8 (by show _ ≤ (0:Int) - ((a:Int) - (b:Int));omega) (by show (0:Int) - ((a:Int) - (b:Int)) < _;omega)]
 unfold maxI gapN
 show (if (0:Int) - ((a:Int) - (b:Int)) > (a:Int) - (b:Int) then (0:Int) - ((a:Int) - (b:Int)) else (a:Int) - (b:Int)) = (((a - b) + (b - a):Nat):Int)
 split <;> omega
theorem qit (a:Int):Pure prog 152 [iv a] (.bool false) :=by
 refine qar hE rfl ⟨trivial,trivial⟩ trivial fun S q pc hS hq hC hE => ?_
 conv => whnf
 exact ⟨_,rfl,wkb (by rw [bne_self_eq_false])⟩
def ordI (a b:Int):Int :=if a < b then -1 else if b < a then 1 else 0
theorem qbs (a b:Int):Pure prog 125 [iv a,iv b] (iv (ordI a b)) :=by
 refine qar hE rfl ⟨trivial,trivial,trivial⟩ trivial fun S q pc hS hq hC hE => ?_
 conv => whnf
 refine qab hC (qit a) ?_
 conv => whnf
 refine qab hC (qit b) ?_
 conv => whnf
 by_cases h1:a < b
 ·rw [show decide (a < b) = true from decide_eq_true h1]
  conv => whnf
  exact ⟨_,rfl,by rw [show ordI a b = -1 from if_pos h1];exact Wk.refl _⟩
 ·rw [show decide (a < b) = false from decide_eq_false h1]
  conv => whnf
  by_cases h2:b < a
  ·rw [show decide (a > b) = true from decide_eq_true h2]
   conv => whnf
   exact ⟨_,rfl,by rw [show ordI a b = 1 from (if_neg h1).trans (if_pos h2)];exact Wk.refl _⟩
  ·rw [show decide (a > b) = false from decide_eq_false h2]
   conv => whnf
   exact ⟨_,rfl,by rw [show ordI a b = 0 from (if_neg h1).trans (if_neg h2)];exact Wk.refl _⟩



end Go.Abs.Seat
/-! Off, Lasts, Between: the program's and the document's. -/
namespace Go.Abs.Seat
open Go Go.Abs Go.Proofs.Tryz
set_option maxRecDepth 100000
set_option maxHeartbeats 4000000
attribute [local irreducible] IntKind.wrap pEq
mutual
theorem qul:∀ (v:AV),Live noL v → bd v = 0
 | .unk,_ => rfl
 | .int _ _,_ => rfl
 | .bool _,_ => rfl
 | .str _,_ => rfl
 | .nilp,_ => rfl
 | .ptr _ _,h => h.elim
 | .lptr xs _,h => qc9 xs h
 | .gp _ _,_ => rfl
 | .nils,_ => rfl
 | .slc _ _ _ _,h => h.elim
 | .lst xs _ .no,h => qc9 xs h.1
 | .lst xs _ .full,h => qc9 xs h.1
 | .lst xs _ (.ch c),h => (h.2 c rfl).elim
 | .nilm,_ => rfl
 | .map _,h => h.elim
 | .nilf,_ => rfl
 | .func _ f c,h => by show Nat.max (bdl f) (bdl c) = 0;rw [qc9 f h.1,qc9 c h.2];rfl
 | .yld _,h => h.elim
 | .nili,_ => rfl
 | .iface _ a,h => qul a h
 | .agg cs,h => qc9 cs h
 | .tup cs,h => qc9 cs h
theorem qc9:∀ (xs:List AV),Lives noL xs → bdl xs = 0
 | [],_ => rfl
 |x :: xs,h => by show Nat.max (bd x) (bdl xs) = 0;rw [qul x h.1,qc9 xs h.2];rfl
end
theorem qad {xs:List AV} (h:Lives noL xs) {n:Nat}:bdl xs ≤ n :=by rw [qc9 xs h];exact Nat.zero_le _
theorem bz {v:AV} (h:Live noL v) {n:Nat}:bd v ≤ n :=by rw [qul v h];exact Nat.zero_le _
theorem qaf {p p':Plan} {y:Bool} {s n:Nat} {h:Tr AObj} {K:KP} (e:p = p') (k:runP p' y s h n K):runP p y s h n K :=e ▸ k
theorem nthP {xs:List AV} {o:Nat} {v:AV} (e:nth xs o = some v):(match nth xs o with | some v => Plan.ret v | none => Plan.fail) = Plan.ret v :=by rw [e]
theorem bdq {xs:List AV} {n:Nat} (h:Lives noL xs := by first|assumption|exact qat _|exact qa6 _|exact qag _):bdl xs ≤ n :=qad h
end Go.Abs.Seat

namespace Go.Abs.Seat
open Go Go.Abs Go.Proofs.Tryz
set_option maxRecDepth 100000
set_option maxHeartbeats 4000000
attribute [local irreducible] IntKind.wrap pEq

def ivs:List Int → List AV
 | [] => []
 |x :: r => iv x :: ivs r
abbrev nl (l:List Int):AV :=.lst (ivs l) l.length .no
abbrev gi (l:List Int) (i:Nat):Int :=l.getD i 0
theorem ivs_len:∀ l,(ivs l).length = l.length
 | [] => rfl
 | _ :: r => by simp only [ivs,List.length_cons,ivs_len r]
theorem qat:∀ l,Lives noL (ivs l)
 | [] => trivial
 | _ :: r => ⟨trivial,qat r⟩
theorem nl_no (l:List Int):Live noL (nl l) :=⟨qat l,fun _ h => nomatch h⟩
theorem qra:∀ (l:List Int) (i:Nat),i < l.length → nth (ivs l) i = some (iv (gi l i))
 |x :: r,0,_ => rfl
 |x :: r,i + 1,h => qra r i (by simpa using h)
 | [],i,h => absurd h (Nat.not_lt_zero _)
theorem qbb {l:List Int} {i:Nat} (h:i < l.length):nth (ivs l) (i * 1) = some (iv (gi l i)) :=by rw [Nat.mul_one];exact qra l i h
theorem qaj {i n:Nat} (h:i < n):inR (Int.ofNat i) n = true :=by
 unfold inR
 rw [decide_eq_true (show (0:Int) ≤ Int.ofNat i by show (0:Int) ≤ (i:Int);omega),decide_eq_true (show Int.ofNat i < (n:Int) by show (i:Int) < (n:Int);omega)]
 rfl
def feAt (l:List Int) (i:Nat):Prop :=(1 ≤ gi l i ∧ gi l i ≤ 10000) ∧ (0 < i → gi l (i - 1) < gi l i)
def feOk (l:List Int):Prop :=(∀ i,i < l.length → feAt l i) ∧ l.length ≤ 8
theorem qvs {b:Bool} {p:Prop} (h:b = true ↔ p) (hp:¬ p):b = false :=Bool.eq_false_iff.2 fun e => hp (h.1 e)
theorem qy8 {b:Bool} {p:Prop} (h:b = true ↔ p) (hp:p):b = true :=h.2 hp
theorem upto {p:Nat → Prop} {i:Nat} (h:∀ j,j < i → p j) (hi:p i):∀ j,j < i + 1 → p j :=fun j hj => by
 by_cases e:j = i
 ·subst e;exact hi
 ·exact h j (by omega)
def IL (v:AV) (l:List Int):Prop :=v = .nils ∧ l = [] ∨ v = nl l
theorem IL.no {v:AV} {l:List Int} (h:IL v l):Live noL v :=by
 rcases h with ⟨rfl,_⟩ | rfl
 ·trivial
 ·exact nl_no l
def seAt (n:Nat) (l:List Int) (i:Nat):Prop :=(0 ≤ gi l i ∧ gi l i ≤ (n:Int) - 1) ∧ (0 < i → gi l (i - 1) < gi l i)
def seOk (n:Nat) (l:List Int):Prop :=∀ i,i < l.length → seAt n l i
theorem mxI {a n:Nat} {l:List Int} (h:Nat.ble a n = true):Nat.max a (bdl (ivs l)) ≤ n :=Nat.max_le.2 ⟨Nat.le_of_ble_eq_true h,qad (qat l)⟩
structure Days (f s:List Int):Prop where
 fl:f.length ≤ 8
 ix:∀ i,i < s.length → (0 ≤ gi s i ∧ gi s i < f.length)
 rg:∀ i,i < s.length → (1 ≤ gi f (gi s i).toNat ∧ gi f (gi s i).toNat ≤ 10000)
 up:∀ i,i + 1 < s.length → gi f (gi s i).toNat < gi f (gi s (i + 1)).toNat
 sl:s.length ≤ f.length
theorem qyl {f:List Int} (h:feOk f):∀ (k i:Nat),i + k < f.length → 0 < k → gi f i < gi f (i + k)
 | 0,_,_,hk => absurd hk (Nat.lt_irrefl _)
 |k + 1,i,hi,_ => by
  have h1 :=(h.1 (i + (k + 1)) hi).2 (by omega)
  have e:i + (k + 1) - 1 = i + k :=by omega
  rw [e] at h1
  by_cases k0:k = 0
  ·subst k0;exact h1
  ·have :=qyl h k i (by omega) (by omega)
   omega
theorem qx0 {n:Nat} {s:List Int} (h:seOk n s):∀ i,i < s.length → (i:Int) ≤ gi s i
 | 0,hi => (h 0 hi).1.1
 |i + 1,hi => by
  have h1 :=(h (i + 1) hi).2 (by omega)
  have h2 :=qx0 h i (by omega)
  simp only [Nat.add_sub_cancel] at h1
  omega
theorem Days.of {f s:List Int} (hf:feOk f) (hs:seOk f.length s):Days f s where
 fl :=hf.2
 ix :=fun i hi => by have :=(hs i hi).1;omega
 rg :=fun i hi => by
  have :=(hs i hi).1
  exact (hf.1 _ (by omega)).1
 up :=fun i hi => by
  have h1 :=(hs i (by omega)).1
  have h2 :=(hs (i + 1) hi).1
  have h3 :=(hs (i + 1) hi).2 (by omega)
  simp only [Nat.add_sub_cancel] at h3
  have e:(gi s (i + 1)).toNat = (gi s i).toNat + ((gi s (i + 1)).toNat - (gi s i).toNat) :=by omega
  rw [e]
  exact qyl hf _ _ (by omega) (by omega)
 sl :=by
  by_cases h:s.length = 0
  ·omega
  ·have h1 :=qx0 hs (s.length - 1) (by omega)
   have h2 :=(hs (s.length - 1) (by omega)).1
   omega
def kp (L u:Int):Int → List Int → Prop
 |last,[] => u - last ≤ L
 |last,x :: r => if x < u then x - last ≤ L ∧ kp L u x r else u - last ≤ L
end Go.Abs.Seat
/-! The best of some settings. -/
namespace Go.Abs.Seat
open Go Go.Abs Go.Proofs.Tryz
set_option maxRecDepth 100000
set_option maxHeartbeats 4000000
attribute [local irreducible] pEq
section
attribute [local irreducible] IntKind.wrap
def lexI:List Int → List Int → Int
 | [],[] => 0
 | [],_ :: _ => -1
 | _ :: _,[] => 1
 |a :: r,b :: s => if ordI a b = 0 then lexI r s else ordI a b
def sv:List Int → AV
 | [] => .nils
 |x :: r => nl (x :: r)
theorem qxw (l:List Int):Live noL (sv l) :=by
 cases l with
 |nil => trivial
 |cons x r => exact nl_no _
end
def svs:List (List Int) → List AV
 | [] => []
 |x :: r => sv x :: svs r
theorem qa6:∀ l,Lives noL (svs l)
 | [] => trivial
 |x :: r => ⟨qxw x,qa6 r⟩
theorem qp2:∀ l,(svs l).length = l.length
 | [] => rfl
 | _ :: r => by simp only [svs,List.length_cons,qp2 r]
abbrev gs (l:List (List Int)) (i:Nat):List Int :=l.getD i []
theorem qq7:∀ (l:List (List Int)) (i:Nat),i < l.length → nth (svs l) i = some (sv (gs l i))
 |x :: r,0,_ => rfl
 |x :: r,i + 1,h => qq7 r i (by simpa using h)
 | [],i,h => absurd h (Nat.not_lt_zero _)
theorem mxS {a n:Nat} {l:List (List Int)} (h:Nat.ble a n = true):Nat.max a (bdl (svs l)) ≤ n :=Nat.max_le.2 ⟨Nat.le_of_ble_eq_true h,qad (qa6 l)⟩
end Go.Abs.Seat

namespace Go.Abs.Seat
open Go Go.Abs Go.Proofs.Tryz
set_option maxRecDepth 100000
set_option maxHeartbeats 4000000
attribute [local irreducible] IntKind.wrap pEq
def zl (l:List Nat):List Int :=l.map Int.ofNat
theorem qdz (l:List Nat):(zl l).length = l.length :=List.length_map _
theorem qxq (l:List Nat) {i:Nat} (h:i < l.length):gi (zl l) i = Int.ofNat (l.getD i 0) :=by
 simp [gi,zl,List.getD,h]
def chAt (l:List Int) (i:Nat):Prop :=(if i = 0 then 0 else 1) ≤ gi l i ∧ gi l i ≤ 50000
def chOk (l:List Int):Prop :=(∀ i,i < l.length → chAt l i) ∧ 1 ≤ l.length ∧ l.length ≤ 24
theorem que:q0 20 true .nili .nili = some true :=by kernel_rfl
structure ChN (l:List Nat):Prop where
 hx:∀ i,i < l.length → l.getD i 0 ≤ 50000
 hp:∀ i,1 ≤ i → i < l.length → 1 ≤ l.getD i 0
 h1:1 ≤ l.length ∧ l.length ≤ 24
theorem ChN.of {l:List Nat} (hc:chOk (zl l)):ChN l :=by
 have hz :=qdz l
 refine ⟨fun i hi => ?_,fun i h1 hi => ?_,by have :=hc.2;omega⟩
 ·have :=(hc.1 i (by omega)).2
  rw [qxq l hi] at this
  exact Int.ofNat_le.1 this
 ·have :=(hc.1 i (by omega)).1
  rw [qxq l hi,if_neg (by omega)] at this
  exact Int.ofNat_le.1 this

theorem qus (l:List Nat) (q:Nat):ivs (zl (l ++ [q])) = ivs (zl l) ++ [nv q] :=by
 induction l with
 |nil => rfl
 |cons x l ih => simp only [List.cons_append,zl,List.map_cons,ivs];exact congrArg _ ih
theorem qy1 (l:List Nat) (q c:Nat):AV.lst (ivs (zl l) ++ [nv q]) (l.length + (0 + 1)) (.ch c) = .lst (ivs (zl (l ++ [q]))) (l ++ [q]).length (.ch c) :=by
 rw [qus,List.length_append];rfl
theorem qy2 (l:List Nat) (q:Nat):AObj.chain (l.length + (0 + 1)) 1 3 = .chain (l ++ [q]).length 1 3 :=by
 rw [List.length_append];rfl
theorem qdt:∀ (l:List AV),qca l l.length = true
 | [] => rfl
 | _ :: r => qdt r
theorem qtz (l:List Nat):qca (ivs (zl l)) (l.length * 1) = true :=by
 have :=qdt (ivs (zl l))
 rw [ivs_len,qdz] at this
 rw [Nat.mul_one];exact this
theorem qi3:∀ l:List Int,wkl (ivs l) = ivs l
 | [] => rfl
 |x :: r => by simp only [ivs,wkl,wk,qi3 r]
theorem qy3 (l:List Nat) (c:Nat):Wk (.lst (ivs (zl l)) l.length (.ch c)) (nl (zl l)) :=by
 have :=Wk.wk (.lst (ivs (zl l)) l.length (.ch c))
 simp only [wk,qi3] at this
 rw [nl,qdz]
 exact this
theorem qml {a b:List Int} (h:a.length = b.length) (hg:∀ i,i < a.length → gi a i = gi b i):a = b :=by
 apply List.ext_getElem h
 intro i h1 h2
 have :=hg i h1
 simp only [gi,List.getD,List.getElem?_eq_getElem h1,List.getElem?_eq_getElem h2,Option.getD_some] at this
 exact this
theorem qhg (a c:List Int) (ha:a.length < 4611686018427387904) {b:Bool} (hb:b = true ↔ a = c):Pure prog 18 [nl a,nl c] (.bool b) :=by
 have la :=qat a
 have lc :=qat c
 refine qar hE rfl (by repeat' first|exact trivial|assumption|exact qag _|exact fun _ h => nomatch h|apply And.intro) (by repeat' first|exact trivial|assumption|exact qag _|exact fun _ h => nomatch h|apply And.intro) fun S q pc hS hq hC hE => ?_
 conv => whnf
 by_cases h0:a.length = c.length
 ·rw [show ((a.length:Int) != (c.length:Int)) = false from by rw [h0];exact bne_self_eq_false _]
  conv => whnf
  refine qgy hE hS (A :=Nat) [0,1] (fun i => [(5,nv i)]) (fun _ => []) (fun i => i ≤ a.length ∧ ∀ j,j < i → gi a j = gi c j) (fun i => a.length - i) 0 rfl rfl (by refine ⟨rfl,rfl,rfl,rfl,?_,?_⟩ <;> repeat' (first|exact trivial|exact rfl|exact Nat.zero_le _|exact kle rfl|exact qad (by assumption)|exact qad (qag _)|exact qad (qat _)|exact mxI rfl|apply And.intro)) ⟨Nat.zero_le _,fun j h => absurd h (Nat.not_lt_zero _)⟩ ?_
  intro i ⟨hi,hf⟩
  conv => whnf
  by_cases h:i < a.length
  ·rw [show decide (Int.ofNat i < ↑a.length) = true from qav h]
   conv => whnf
   refine qaa (qaj (i :=i) (n :=a.length) h) ?_
   conv => whnf
   refine qaf (nthP (qbb (l :=a) (i :=i) h)) ?_
   conv => whnf
   refine qaa (qaj (i :=i) (n :=c.length) (by omega)) ?_
   conv => whnf
   refine qaf (nthP (qbb (l :=c) (i :=i) (by omega))) ?_
   conv => whnf
   refine qae hS (by kernel_rfl) ?_
   conv => whnf
   by_cases h1:gi a i = gi c i
   ·rw [show (gi a i != gi c i) = false from by rw [h1];exact bne_self_eq_false _]
    conv => whnf
    rw [show IntKind.i64.wrap (Int.ofNat i + 1) = Int.ofNat (i + 1) from qa5 (m :=i + 1) (by omega)]
    exact ⟨i + 1,⟨h,upto hf h1⟩,by omega,(by refine ⟨rfl,rfl,rfl,rfl,?_,?_⟩ <;> repeat' (first|exact trivial|exact rfl|exact Nat.zero_le _|exact kle rfl|exact qad (by assumption)|exact qad (qag _)|exact qad (qat _)|exact mxI rfl|apply And.intro))⟩
   ·rw [show (gi a i != gi c i) = true from bne_iff_ne.2 h1]
    conv => whnf
    rw [qvs hb fun k => h1 (by rw [k])]
    exact ⟨_,rfl,Wk.refl _⟩
  ·rw [show decide (Int.ofNat i < ↑a.length) = false from qbh h]
   conv => whnf
   exact ⟨_,rfl,wkb (qy8 hb (qml h0 fun j hj => hf j (by omega))).symm⟩
 ·rw [show ((a.length:Int) != (c.length:Int)) = true from bne_iff_ne.2 (by omega)]
  conv => whnf
  rw [qvs hb fun k => h0 (by rw [k])]
  exact ⟨_,rfl,Wk.refl _⟩
theorem qxs {xs:List AV} {n m:Nat} {own:Own} (e:n = m):Wk (.lst xs n own) (.lst xs m .no) :=by
 subst e
 intro g w u hu
 simp only [VRel] at hu ⊢
 obtain ⟨b,off,cap,h1,h2,h3,h4,_⟩ :=hu
 exact ⟨b,off,cap,h1,h2,h3,h4,trivial⟩
theorem qfi {T:Tr TypeInfo} {tx e:TypeId} {sz:Nat} {x:AV} {k:List AV → Nat → Plan} {ys l:List AV} {m:Nat} {own:Own} (hT:tyU T tx = some (.slice e)) (hx:x = .lst ys m own) (ht:qb6 (m * sz) ys = some l):pSrc T tx sz x k = .chk (qdb l) (k l m) :=by
 subst hx
 unfold pSrc
 simp only [hT,ht]
theorem qbz:∀ l:List Int,qdb (ivs l) = true
 | [] => rfl
 | _ :: r => qbz r
theorem qkr:∀ l:List AV,qb6 l.length l = some l
 | [] => rfl
 |x :: r => by rw [List.length_cons,qb6,qkr r]
theorem qdf (l:List Int):qb6 (l.length * 1) (ivs l) = some (ivs l) :=by
 have :=qkr (ivs l)
 rwa [ivs_len,← Nat.mul_one l.length] at this
end Go.Abs.Seat
namespace Go.Abs.Seat
noncomputable section
open Go Go.Abs Go.Proofs.Tryz
set_option maxRecDepth 100000
set_option maxHeartbeats 40000000
attribute [local irreducible] IntKind.wrap pEq
def allT (l:List Int):Prop :=∀ i,i < l.length → tth (gi l i)
instance (l:List Int):Decidable (allT l) :=Classical.propDecidable _
end
end Go.Abs.Seat
namespace Go.Abs.Seat
open Go Go.Abs Go.Proofs.Tryz
set_option maxRecDepth 100000
set_option maxHeartbeats 4000000
attribute [local irreducible] IntKind.wrap pEq
abbrev sl (l:List (List Int)):AV :=.lst (svs l) l.length .no
theorem qjy {l:List (List Int)} {i:Nat} (h:i < l.length):nth (svs l) (i * 1) = some (sv (gs l i)) :=by rw [Nat.mul_one];exact qq7 l i h
theorem qrz (l:List (List Int)) {i:Nat} (h:i < l.length):gs l i ∈ l :=by
 have e:gs l i = l[i] :=by simp [gs,List.getD,h]
 rw [e];exact List.getElem_mem h
end Go.Abs.Seat
