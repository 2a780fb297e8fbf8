/-
  What a train turns its hand by.
-/
import Derived.Test.YtlmadgdonalncaaGreatDoorT2
import Derived.Test.YtlmadgdonalncaaGreatDoorU4
namespace Go.Abs.Seat
open Go Go.Abs Go.Proofs.Tryz
set_option maxRecDepth 100000
set_option maxHeartbeats 4000000
attribute [local irreducible] IntKind.wrap pEq

def flat:List (Int × Int) → List AV
 | [] => []
 |p :: r => iv p.1 :: iv p.2 :: flat r
abbrev pv (l:List (Int × Int)):AV :=.lst (flat l) l.length .no
theorem flat_len:∀ l,(flat l).length = l.length * 2
 | [] => rfl
 |p :: r => by simp only [flat,List.length_cons,flat_len r];omega
theorem qah:∀ l,Lives noL (flat l)
 | [] => trivial
 | _ :: r => ⟨trivial,trivial,qah r⟩
theorem qtl {a b:Nat} (h1:a < 4611686018427387904) (h2:b < 4611686018427387904) :
  maxI (Int.ofNat a - Int.ofNat b) (IntKind.i64.wrap (0 - (Int.ofNat a - Int.ofNat b))) = Int.ofNat (gapN a b) :=by
 rw [qel (by show _ ≤ (0:Int) - ((a:Int) - (b:Int));omega) (by show (0:Int) - ((a:Int) - (b:Int)) < _;omega)]
 unfold maxI gapN
 show (if (0:Int) - ((a:Int) - (b:Int)) > (a:Int) - (b:Int) then (0:Int) - ((a:Int) - (b:Int)) else (a:Int) - (b:Int)) = (((a - b) + (b - a):Nat):Int)
 split <;> omega
theorem qiz (a:Int):Pure prog 152 [iv a] (.bool false) :=by
 refine qas hE rfl ⟨trivial,trivial⟩ trivial fun S q pc hS hq hC hE => ?_
 conv => whnf
 exact ⟨_,rfl,wkb (by rw [bne_self_eq_false])⟩
def ordI (a b:Int):Int :=if a < b then -1 else if b < a then 1 else 0
theorem qbv (a b:Int):Pure prog 125 [iv a,iv b] (iv (ordI a b)) :=by
 refine qas hE rfl ⟨trivial,trivial,trivial⟩ trivial fun S q pc hS hq hC hE => ?_
 conv => whnf
 refine qac hC (qiz a) ?_
 conv => whnf
 refine qac hC (qiz b) ?_
 conv => whnf
 by_cases h1:a < b
 ·rw [show decide (a < b) = true from decide_eq_true h1]
  conv => whnf
  exact ⟨_,rfl,by rw [show ordI a b = -1 from if_pos h1];exact Wk.refl _⟩
 ·rw [show decide (a < b) = false from decide_eq_false h1]
  conv => whnf
  by_cases h2:b < a
  ·rw [show decide (a > b) = true from decide_eq_true h2]
   conv => whnf
   exact ⟨_,rfl,by rw [show ordI a b = 1 from (if_neg h1).trans (if_pos h2)];exact Wk.refl _⟩
  ·rw [show decide (a > b) = false from decide_eq_false h2]
   conv => whnf
   exact ⟨_,rfl,by rw [show ordI a b = 0 from (if_neg h1).trans (if_neg h2)];exact Wk.refl _⟩



end Go.Abs.Seat
/-! Off, Lasts, Between: the program's and the document's. -/
namespace Go.Abs.Seat
open Go Go.Abs Go.Proofs.Tryz
set_option maxRecDepth 100000
set_option maxHeartbeats 4000000
attribute [local irreducible] IntKind.wrap pEq
mutual
theorem qwn:∀ (v:AV),Live noL v → bd v = 0
 | .unk,_ => rfl
 | .int _ _,_ => rfl
 | .bool _,_ => rfl
 | .str _,_ => rfl
 | .nilp,_ => rfl
 | .ptr _ _,h => h.elim
 | .lptr xs _,h => qeh xs h
 | .gp _ _,_ => rfl
 | .nils,_ => rfl
 | .slc _ _ _ _,h => h.elim
 | .lst xs _ .no,h => qeh xs h.1
 | .lst xs _ .full,h => qeh xs h.1
 | .lst xs _ (.ch c),h => (h.2 c rfl).elim
 | .nilm,_ => rfl
 | .map _,h => h.elim
 | .nilf,_ => rfl
 | .func _ f c,h => by show Nat.max (bdl f) (bdl c) = 0;rw [qeh f h.1,qeh c h.2];rfl
 | .yld _,h => h.elim
 | .nili,_ => rfl
 | .iface _ a,h => qwn a h
 | .agg cs,h => qeh cs h
 | .tup cs,h => qeh cs h
theorem qeh:∀ (xs:List AV),Lives noL xs → bdl xs = 0
 | [],_ => rfl
 |x :: xs,h => by show Nat.max (bd x) (bdl xs) = 0;rw [qwn x h.1,qeh xs h.2];rfl
end
theorem qai {xs:List AV} (h:Lives noL xs) {n:Nat}:bdl xs ≤ n :=by rw [qeh xs h];exact Nat.zero_le _
theorem bz {v:AV} (h:Live noL v) {n:Nat}:bd v ≤ n :=by rw [qwn v h];exact Nat.zero_le _
theorem qak {p p':Plan} {y:Bool} {s n:Nat} {h:Tr AObj} {K:KP} (e:p = p') (k:runP p' y s h n K):runP p y s h n K :=e ▸ k
theorem nthP {xs:List AV} {o:Nat} {v:AV} (e:nth xs o = some v):(match nth xs o with | some v => Plan.ret v | none => Plan.fail) = Plan.ret v :=by rw [e]
theorem bdq {xs:List AV} {n:Nat} (h:Lives noL xs := by first|assumption|exact qav _|exact qa3 _|exact qah _|exact qa5 _):bdl xs ≤ n :=qai h
end Go.Abs.Seat

namespace Go.Abs.Seat
open Go Go.Abs Go.Proofs.Tryz
set_option maxRecDepth 100000
set_option maxHeartbeats 4000000
attribute [local irreducible] IntKind.wrap pEq

def ivs:List Int → List AV
 | [] => []
 |x :: r => iv x :: ivs r
abbrev nl (l:List Int):AV :=.lst (ivs l) l.length .no
abbrev gi (l:List Int) (i:Nat):Int :=l.getD i 0
theorem ivs_len:∀ l,(ivs l).length = l.length
 | [] => rfl
 | _ :: r => by simp only [ivs,List.length_cons,ivs_len r]
theorem qav:∀ l,Lives noL (ivs l)
 | [] => trivial
 | _ :: r => ⟨trivial,qav r⟩
theorem qq9 (l:List Int):Live noL (nl l) :=⟨qav l,fun _ h => nomatch h⟩
theorem qq7:∀ (l:List Int) (i:Nat),i < l.length → nth (ivs l) i = some (iv (gi l i))
 |x :: r,0,_ => rfl
 |x :: r,i + 1,h => qq7 r i (by simpa using h)
 | [],i,h => absurd h (Nat.not_lt_zero _)
theorem qb5 {l:List Int} {i:Nat} (h:i < l.length):nth (ivs l) (i * 1) = some (iv (gi l i)) :=by rw [Nat.mul_one];exact qq7 l i h
theorem qaj {i n:Nat} (h:i < n):inR (Int.ofNat i) n = true :=by
 unfold inR
 rw [decide_eq_true (show (0:Int) ≤ Int.ofNat i by show (0:Int) ≤ (i:Int);omega),decide_eq_true (show Int.ofNat i < (n:Int) by show (i:Int) < (n:Int);omega)]
 rfl
theorem qu3 {b:Bool} {p:Prop} (h:b = true ↔ p) (hp:¬ p):b = false :=Bool.eq_false_iff.2 fun e => hp (h.1 e)
theorem qyz {b:Bool} {p:Prop} (h:b = true ↔ p) (hp:p):b = true :=h.2 hp
theorem upto {p:Nat → Prop} {i:Nat} (h:∀ j,j < i → p j) (hi:p i):∀ j,j < i + 1 → p j :=fun j hj => by
 by_cases e:j = i
 ·subst e;exact hi
 ·exact h j (by omega)
def IL (v:AV) (l:List Int):Prop :=v = .nils ∧ l = [] ∨ v = nl l
theorem IL.no {v:AV} {l:List Int} (h:IL v l):Live noL v :=by
 rcases h with ⟨rfl,_⟩ | rfl
 ·trivial
 ·exact qq9 l
theorem mxI {a n:Nat} {l:List Int} (h:Nat.ble a n = true):Nat.max a (bdl (ivs l)) ≤ n :=Nat.max_le.2 ⟨Nat.le_of_ble_eq_true h,qai (qav l)⟩
def kp (L u:Int):Int → List Int → Prop
 |last,[] => u - last ≤ L
 |last,x :: r => if x < u then x - last ≤ L ∧ kp L u x r else u - last ≤ L
end Go.Abs.Seat
/-! The best of some settings. -/
namespace Go.Abs.Seat
open Go Go.Abs Go.Proofs.Tryz
set_option maxRecDepth 100000
set_option maxHeartbeats 4000000
attribute [local irreducible] pEq
section
attribute [local irreducible] IntKind.wrap
def sv:List Int → AV
 | [] => .nils
 |x :: r => nl (x :: r)
theorem qw6 (l:List Int):Live noL (sv l) :=by
 cases l with
 |nil => trivial
 |cons x r => exact qq9 _
end
def svs:List (List Int) → List AV
 | [] => []
 |x :: r => sv x :: svs r
theorem qa3:∀ l,Lives noL (svs l)
 | [] => trivial
 |x :: r => ⟨qw6 x,qa3 r⟩
abbrev gs (l:List (List Int)) (i:Nat):List Int :=l.getD i []
theorem mxS {a n:Nat} {l:List (List Int)} (h:Nat.ble a n = true):Nat.max a (bdl (svs l)) ≤ n :=Nat.max_le.2 ⟨Nat.le_of_ble_eq_true h,qai (qa3 l)⟩
end Go.Abs.Seat

namespace Go.Abs.Seat
open Go Go.Abs Go.Proofs.Tryz
set_option maxRecDepth 100000
set_option maxHeartbeats 4000000
attribute [local irreducible] IntKind.wrap pEq
def zl (l:List Nat):List Int :=l.map Int.ofNat
theorem qbs (l:List Nat):(zl l).length = l.length :=List.length_map _
theorem qn1:q0 20 true .nili .nili = some true :=by kernel_rfl


theorem qpb (l:List Nat) (q:Nat):ivs (zl (l ++ [q])) = ivs (zl l) ++ [nv q] :=by
 induction l with
 |nil => rfl
 |cons x l ih => simp only [List.cons_append,zl,List.map_cons,ivs];exact congrArg _ ih
theorem qyf (l:List Nat) (q c:Nat):AV.lst (ivs (zl l) ++ [nv q]) (l.length + (0 + 1)) (.ch c) = .lst (ivs (zl (l ++ [q]))) (l ++ [q]).length (.ch c) :=by
 rw [qpb,List.length_append];rfl
theorem qu6 (l:List Nat) (q:Nat):AObj.chain (l.length + (0 + 1)) 1 3 = .chain (l ++ [q]).length 1 3 :=by
 rw [List.length_append];rfl
theorem qcp:∀ (l:List AV),qc6 l l.length = true
 | [] => rfl
 | _ :: r => qcp r
theorem qtn (l:List Nat):qc6 (ivs (zl l)) (l.length * 1) = true :=by
 have :=qcp (ivs (zl l))
 rw [ivs_len,qbs] at this
 rw [Nat.mul_one];exact this
theorem qfi:∀ l:List Int,wkl (ivs l) = ivs l
 | [] => rfl
 |x :: r => by simp only [ivs,wkl,wk,qfi r]
theorem qyh (l:List Nat) (c:Nat):Wk (.lst (ivs (zl l)) l.length (.ch c)) (nl (zl l)) :=by
 have :=Wk.wk (.lst (ivs (zl l)) l.length (.ch c))
 simp only [wk,qfi] at this
 rw [nl,qbs]
 exact this
theorem qmc {a b:List Int} (h:a.length = b.length) (hg:∀ i,i < a.length → gi a i = gi b i):a = b :=by
 apply List.ext_getElem h
 intro i h1 h2
 have :=hg i h1
 simp only [gi,List.getD,List.getElem?_eq_getElem h1,List.getElem?_eq_getElem h2,Option.getD_some] at this
 exact this
theorem qkt (a c:List Int) (ha:a.length < 4611686018427387904) {b:Bool} (hb:b = true ↔ a = c):Pure prog 18 [nl a,nl c] (.bool b) :=by
 have la :=qav a
 have lc :=qav c
 refine qas hE rfl (by repeat' first|exact trivial|assumption|exact qah _|exact fun _ h => nomatch h|apply And.intro) (by repeat' first|exact trivial|assumption|exact qah _|exact fun _ h => nomatch h|apply And.intro) fun S q pc hS hq hC hE => ?_
 conv => whnf
 by_cases h0:a.length = c.length
 ·rw [show ((a.length:Int) != (c.length:Int)) = false from by rw [h0];exact bne_self_eq_false _]
  conv => whnf
  refine qfq hE hS (A :=Nat) [0,1] (fun i => [(5,nv i)]) (fun _ => []) (fun i => i ≤ a.length ∧ ∀ j,j < i → gi a j = gi c j) (fun i => a.length - i) 0 rfl rfl (by refine ⟨rfl,rfl,rfl,rfl,?_,?_⟩ <;> repeat' (first|exact trivial|exact rfl|exact Nat.zero_le _|exact kle rfl|exact qai (by assumption)|exact qai (qah _)|exact qai (qav _)|exact mxI rfl|apply And.intro)) ⟨Nat.zero_le _,fun j h => absurd h (Nat.not_lt_zero _)⟩ ?_
  intro i ⟨hi,hf⟩
  conv => whnf
  by_cases h:i < a.length
  ·rw [show decide (Int.ofNat i < ↑a.length) = true from qae h]
   conv => whnf
   refine qaa (qaj (i :=i) (n :=a.length) h) ?_
   conv => whnf
   refine qak (nthP (qb5 (l :=a) (i :=i) h)) ?_
   conv => whnf
   refine qaa (qaj (i :=i) (n :=c.length) (by omega)) ?_
   conv => whnf
   refine qak (nthP (qb5 (l :=c) (i :=i) (by omega))) ?_
   conv => whnf
   refine qad hS (by kernel_rfl) ?_
   conv => whnf
   by_cases h1:gi a i = gi c i
   ·rw [show (gi a i != gi c i) = false from by rw [h1];exact bne_self_eq_false _]
    conv => whnf
    rw [show IntKind.i64.wrap (Int.ofNat i + 1) = Int.ofNat (i + 1) from qaz (m :=i + 1) (by omega)]
    exact ⟨i + 1,⟨h,upto hf h1⟩,by omega,(by refine ⟨rfl,rfl,rfl,rfl,?_,?_⟩ <;> repeat' (first|exact trivial|exact rfl|exact Nat.zero_le _|exact kle rfl|exact qai (by assumption)|exact qai (qah _)|exact qai (qav _)|exact mxI rfl|apply And.intro))⟩
   ·rw [show (gi a i != gi c i) = true from bne_iff_ne.2 h1]
    conv => whnf
    rw [qu3 hb fun k => h1 (by rw [k])]
    exact ⟨_,rfl,Wk.refl _⟩
  ·rw [show decide (Int.ofNat i < ↑a.length) = false from qbe h]
   conv => whnf
   exact ⟨_,rfl,wkb (qyz hb (qmc h0 fun j hj => hf j (by omega))).symm⟩
 ·rw [show ((a.length:Int) != (c.length:Int)) = true from bne_iff_ne.2 (by omega)]
  conv => whnf
  rw [qu3 hb fun k => h0 (by rw [k])]
  exact ⟨_,rfl,Wk.refl _⟩
theorem qww {xs:List AV} {n m:Nat} {own:Own} (e:n = m):Wk (.lst xs n own) (.lst xs m .no) :=by
 subst e
 intro g w u hu
 simp only [VRel] at hu ⊢
 obtain ⟨b,off,cap,h1,h2,h3,h4,_⟩ :=hu
 exact ⟨b,off,cap,h1,h2,h3,h4,trivial⟩
theorem qvq {T:Tr TypeInfo} {tx e:TypeId} {sz:Nat} {x:AV} {k:List AV → Nat → Plan} {ys l:List AV} {m:Nat} {own:Own} (hT:tyU T tx = some (.slice e)) (hx:x = .lst ys m own) (ht:qbz (m * sz) ys = some l):pSrc T tx sz x k = .chk (qdc l) (k l m) :=by
 subst hx
 unfold pSrc
 simp only [hT,ht]
theorem qko:∀ l:List AV,qbz l.length l = some l
 | [] => rfl
 |x :: r => by rw [List.length_cons,qbz,qko r]
end Go.Abs.Seat
namespace Go.Abs.Seat
noncomputable section
open Go Go.Abs Go.Proofs.Tryz
set_option maxRecDepth 100000
set_option maxHeartbeats 40000000
attribute [local irreducible] IntKind.wrap pEq

end
end Go.Abs.Seat
namespace Go.Abs.Seat
open Go Go.Abs Go.Proofs.Tryz
set_option maxRecDepth 100000
set_option maxHeartbeats 4000000
attribute [local irreducible] IntKind.wrap pEq

end Go.Abs.Seat
