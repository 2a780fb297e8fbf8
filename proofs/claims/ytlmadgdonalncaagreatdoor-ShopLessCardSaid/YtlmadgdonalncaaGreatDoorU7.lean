/-
  What a train turns its hand by.
-/
import Derived.Test.YtlmadgdonalncaaGreatDoorT2
import Derived.Test.YtlmadgdonalncaaGreatDoorU4
namespace Go.Abs.Seat
open Go Go.Abs Go.Proofs.Tryz
set_option maxRecDepth 100000
set_option maxHeartbeats 4000000
attribute [local irreducible] IntKind.wrap pEq

def flat:List (Int × Int) → List AV
 | [] => []
 |p :: r => iv p.1 :: iv p.2 :: flat r
abbrev pv (l:List (Int × Int)):AV :=.lst (flat l) l.length .no
theorem flat_len:∀ l,(flat l).length = l.length * 2
 | [] => rfl
 |p :: r => by simp only [flat,List.length_cons,flat_len r];omega
theorem qag:∀ l,Lives noL (flat l)
 | [] => trivial
 | _ :: r => ⟨trivial,trivial,qag r⟩
theorem qu3 {a b:Nat} (h1:a < 4611686018427387904) (h2:b < 4611686018427387904) :
  maxI (Int.ofNat a - Int.ofNat b) (IntKind.i64.wrap (0 - (Int.ofNat a - Int.ofNat b))) = Int.ofNat (gapN a b) :=by
 rw [qdp (by show _ ≤ (0:Int) - ((a:Int) - (b:Int));omega) (by show (0:Int) - ((a:Int) - (b:Int)) < _;omega)]
 unfold maxI gapN
 show (if (0:Int) - ((a:Int) - (b:Int)) > (a:Int) - (b:Int) then (0:Int) - ((a:Int) - (b:Int)) else (a:Int) - (b:Int)) = (((a - b) + (b - a):Nat):Int)
 split <;> omega
theorem qi2 (a:Int):Pure prog 152 [iv a] (.bool false) :=by
 refine qas hE rfl ⟨trivial,trivial⟩ trivial fun S q pc hS hq hC hE => ?_
 conv => whnf
 exact ⟨_,rfl,wkb (by rw [bne_self_eq_false])⟩
def ordI (a b:Int):Int :=if a < b then -1 else if b < a then 1 else 0
theorem qbm (a b:Int):Pure prog 125 [iv a,iv b] (iv (ordI a b)) :=by
 refine qas hE rfl ⟨trivial,trivial,trivial⟩ trivial fun S q pc hS hq hC hE => ?_
 conv => whnf
 refine qab hC (qi2 a) ?_
 conv => whnf
 refine qab hC (qi2 b) ?_
 conv => whnf
 by_cases h1:a < b
 ·rw [show decide (a < b) = true from decide_eq_true h1]
  conv => whnf
  exact ⟨_,rfl,by rw [show ordI a b = -1 from if_pos h1];exact Wk.refl _⟩
 ·rw [show decide (a < b) = false from decide_eq_false h1]
  conv => whnf
  by_cases h2:b < a
  ·rw [show decide (a > b) = true from decide_eq_true h2]
   conv => whnf
   exact ⟨_,rfl,by rw [show ordI a b = 1 from (if_neg h1).trans (if_pos h2)];exact Wk.refl _⟩
  ·rw [show decide (a > b) = false from decide_eq_false h2]
   conv => whnf
   exact ⟨_,rfl,by rw [show ordI a b = 0 from (if_neg h1).trans (if_neg h2)];exact Wk.refl _⟩



end Go.Abs.Seat
/-! Off, Lasts, Between: the program's and the document's. -/
namespace Go.Abs.Seat
open Go Go.Abs Go.Proofs.Tryz
set_option maxRecDepth 100000
set_option maxHeartbeats 4000000
attribute [local irreducible] IntKind.wrap pEq
mutual
theorem qvr:∀ (v:AV),Live noL v → bd v = 0
 | .unk,_ => rfl
 | .int _ _,_ => rfl
 | .bool _,_ => rfl
 | .str _,_ => rfl
 | .nilp,_ => rfl
 | .ptr _ _,h => h.elim
 | .lptr xs _,h => qc6 xs h
 | .gp _ _,_ => rfl
 | .nils,_ => rfl
 | .slc _ _ _ _,h => h.elim
 | .lst xs _ .no,h => qc6 xs h.1
 | .lst xs _ .full,h => qc6 xs h.1
 | .lst xs _ (.ch c),h => (h.2 c rfl).elim
 | .nilm,_ => rfl
 | .map _,h => h.elim
 | .nilf,_ => rfl
 | .func _ f c,h => by show Nat.max (bdl f) (bdl c) = 0;rw [qc6 f h.1,qc6 c h.2];rfl
 | .yld _,h => h.elim
 | .nili,_ => rfl
 | .iface _ a,h => qvr a h
 | .agg cs,h => qc6 cs h
 | .tup cs,h => qc6 cs h
theorem qc6:∀ (xs:List AV),Lives noL xs → bdl xs = 0
 | [],_ => rfl
 |x :: xs,h => by show Nat.max (bd x) (bdl xs) = 0;rw [qvr x h.1,qc6 xs h.2];rfl
end
theorem qae {xs:List AV} (h:Lives noL xs) {n:Nat}:bdl xs ≤ n :=by rw [qc6 xs h];exact Nat.zero_le _
theorem bz {v:AV} (h:Live noL v) {n:Nat}:bd v ≤ n :=by rw [qvr v h];exact Nat.zero_le _
theorem qaf {p p':Plan} {y:Bool} {s n:Nat} {h:Tr AObj} {K:KP} (e:p = p') (k:runP p' y s h n K):runP p y s h n K :=e ▸ k
theorem nthP {xs:List AV} {o:Nat} {v:AV} (e:nth xs o = some v):(match nth xs o with | some v => Plan.ret v | none => Plan.fail) = Plan.ret v :=by rw [e]
theorem bdq {xs:List AV} {n:Nat} (h:Lives noL xs := by first|assumption|exact qal _|exact qa0 _|exact qag _|exact qau _):bdl xs ≤ n :=qae h
end Go.Abs.Seat

namespace Go.Abs.Seat
open Go Go.Abs Go.Proofs.Tryz
set_option maxRecDepth 100000
set_option maxHeartbeats 4000000
attribute [local irreducible] IntKind.wrap pEq
theorem qsv {a:Int} {m:Int} (h:0 ≤ a ∧ a ≤ m):∃ x:Nat,a = Int.ofNat x ∧ (x:Int) ≤ m :=⟨a.toNat,by show a = ((a.toNat:Nat):Int);omega,by omega⟩
def ivs:List Int → List AV
 | [] => []
 |x :: r => iv x :: ivs r
abbrev nl (l:List Int):AV :=.lst (ivs l) l.length .no
abbrev gi (l:List Int) (i:Nat):Int :=l.getD i 0
theorem ivs_len:∀ l,(ivs l).length = l.length
 | [] => rfl
 | _ :: r => by simp only [ivs,List.length_cons,ivs_len r]
theorem qal:∀ l,Lives noL (ivs l)
 | [] => trivial
 | _ :: r => ⟨trivial,qal r⟩
theorem nl_no (l:List Int):Live noL (nl l) :=⟨qal l,fun _ h => nomatch h⟩
theorem qsc:∀ (l:List Int) (i:Nat),i < l.length → nth (ivs l) i = some (iv (gi l i))
 |x :: r,0,_ => rfl
 |x :: r,i + 1,h => qsc r i (by simpa using h)
 | [],i,h => absurd h (Nat.not_lt_zero _)
theorem qbp {l:List Int} {i:Nat} (h:i < l.length):nth (ivs l) (i * 1) = some (iv (gi l i)) :=by rw [Nat.mul_one];exact qsc l i h
theorem qav {i n:Nat} (h:i < n):inR (Int.ofNat i) n = true :=by
 unfold inR
 rw [decide_eq_true (show (0:Int) ≤ Int.ofNat i by show (0:Int) ≤ (i:Int);omega),decide_eq_true (show Int.ofNat i < (n:Int) by show (i:Int) < (n:Int);omega)]
 rfl
def IL (v:AV) (l:List Int):Prop :=v = .nils ∧ l = [] ∨ v = nl l
theorem IL.no {v:AV} {l:List Int} (h:IL v l):Live noL v :=by
 rcases h with ⟨rfl,_⟩ | rfl
 ·trivial
 ·exact nl_no l
theorem mxI {a n:Nat} {l:List Int} (h:Nat.ble a n = true):Nat.max a (bdl (ivs l)) ≤ n :=Nat.max_le.2 ⟨Nat.le_of_ble_eq_true h,qae (qal l)⟩
theorem qyn (l:List Int) {i:Nat} (h:i < l.length):l.drop i = gi l i :: l.drop (i + 1) :=by
 rw [List.drop_eq_getElem_cons h]
 simp [gi,List.getD,h]
def kp (L u:Int):Int → List Int → Prop
 |last,[] => u - last ≤ L
 |last,x :: r => if x < u then x - last ≤ L ∧ kp L u x r else u - last ≤ L
end Go.Abs.Seat
/-! The best of some settings. -/
namespace Go.Abs.Seat
open Go Go.Abs Go.Proofs.Tryz
set_option maxRecDepth 100000
set_option maxHeartbeats 4000000
attribute [local irreducible] pEq
section
attribute [local irreducible] IntKind.wrap
def sv:List Int → AV
 | [] => .nils
 |x :: r => nl (x :: r)
theorem qy3 (l:List Int):Live noL (sv l) :=by
 cases l with
 |nil => trivial
 |cons x r => exact nl_no _
end
def svs:List (List Int) → List AV
 | [] => []
 |x :: r => sv x :: svs r
theorem qa0:∀ l,Lives noL (svs l)
 | [] => trivial
 |x :: r => ⟨qy3 x,qa0 r⟩
abbrev gs (l:List (List Int)) (i:Nat):List Int :=l.getD i []
theorem mxS {a n:Nat} {l:List (List Int)} (h:Nat.ble a n = true):Nat.max a (bdl (svs l)) ≤ n :=Nat.max_le.2 ⟨Nat.le_of_ble_eq_true h,qae (qa0 l)⟩
end Go.Abs.Seat

namespace Go.Abs.Seat
open Go Go.Abs Go.Proofs.Tryz
set_option maxRecDepth 100000
set_option maxHeartbeats 4000000
attribute [local irreducible] IntKind.wrap pEq
def zl (l:List Nat):List Int :=l.map Int.ofNat
theorem qct (l:List Nat):(zl l).length = l.length :=List.length_map _



theorem qqm (l:List Nat) (q:Nat):ivs (zl (l ++ [q])) = ivs (zl l) ++ [nv q] :=by
 induction l with
 |nil => rfl
 |cons x l ih => simp only [List.cons_append,zl,List.map_cons,ivs];exact congrArg _ ih
theorem qz7 (l:List Nat) (q c:Nat):AV.lst (ivs (zl l) ++ [nv q]) (l.length + (0 + 1)) (.ch c) = .lst (ivs (zl (l ++ [q]))) (l ++ [q]).length (.ch c) :=by
 rw [qqm,List.length_append];rfl
theorem qw1 (l:List Nat) (q:Nat):AObj.chain (l.length + (0 + 1)) 1 3 = .chain (l ++ [q]).length 1 3 :=by
 rw [List.length_append];rfl
theorem qec:∀ (l:List AV),qcf l l.length = true
 | [] => rfl
 | _ :: r => qec r
theorem qu5 (l:List Nat):qcf (ivs (zl l)) (l.length * 1) = true :=by
 have :=qec (ivs (zl l))
 rw [ivs_len,qct] at this
 rw [Nat.mul_one];exact this
theorem qhi:∀ l:List Int,wkl (ivs l) = ivs l
 | [] => rfl
 |x :: r => by simp only [ivs,wkl,wk,qhi r]
theorem q0a (l:List Nat) (c:Nat):Wk (.lst (ivs (zl l)) l.length (.ch c)) (nl (zl l)) :=by
 have :=Wk.wk (.lst (ivs (zl l)) l.length (.ch c))
 simp only [wk,qhi] at this
 rw [nl,qct]
 exact this

theorem qd9 {T:Tr TypeInfo} {tx e:TypeId} {sz:Nat} {x:AV} {k:List AV → Nat → Plan} {ys l:List AV} {m:Nat} {own:Own} (hT:tyU T tx = some (.slice e)) (hx:x = .lst ys m own) (ht:qb0 (m * sz) ys = some l):pSrc T tx sz x k = .chk (qc2 l) (k l m) :=by
 subst hx
 unfold pSrc
 simp only [hT,ht]
theorem qco:∀ l:List Int,qc2 (ivs l) = true
 | [] => rfl
 | _ :: r => qco r
theorem qk5:∀ l:List AV,qb0 l.length l = some l
 | [] => rfl
 |x :: r => by rw [List.length_cons,qb0,qk5 r]
theorem qen (l:List Int):qb0 (l.length * 1) (ivs l) = some (ivs l) :=by
 have :=qk5 (ivs l)
 rwa [ivs_len,← Nat.mul_one l.length] at this
end Go.Abs.Seat
namespace Go.Abs.Seat
noncomputable section
open Go Go.Abs Go.Proofs.Tryz
set_option maxRecDepth 100000
set_option maxHeartbeats 40000000
attribute [local irreducible] IntKind.wrap pEq
def allT (l:List Int):Prop :=∀ i,i < l.length → tth (gi l i)
instance (l:List Int):Decidable (allT l) :=Classical.propDecidable _
theorem qtz {x:Int} {r:List Int}:allT (x :: r) ↔ tth x ∧ allT r :=
 ⟨fun h => ⟨h 0 (Nat.succ_pos _),fun i hi => h (i + 1) (by simpa using hi)⟩,fun h i hi => by
  cases i with
  |zero => exact h.1
  |succ i => exact h.2 i (by simpa using hi)⟩
end
end Go.Abs.Seat
namespace Go.Abs.Seat
open Go Go.Abs Go.Proofs.Tryz
set_option maxRecDepth 100000
set_option maxHeartbeats 4000000
attribute [local irreducible] IntKind.wrap pEq
abbrev sl (l:List (List Int)):AV :=.lst (svs l) l.length .no
end Go.Abs.Seat
