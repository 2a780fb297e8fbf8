/-
  What a train turns its hand by.
-/
import Derived.Test.YtnimgfkggbnjoaaGreatDoorXT2
import Derived.Test.YtnimgfkggbnjoaaGreatDoorXU4
namespace Go.Abs.Seat
open Go Go.Abs Go.Proofs.Tryz
set_option maxRecDepth 100000
set_option maxHeartbeats 4000000
attribute [local irreducible] IntKind.wrap pEq

def flat:List (Int × Int) → List AV
 | [] => []
 |p :: r => iv p.1 :: iv p.2 :: flat r
abbrev pv (l:List (Int × Int)):AV :=.lst (flat l) l.length .no
theorem flat_len:∀ l,(flat l).length = l.length * 2
 | [] => rfl
 |p :: r => by simp only [flat,List.length_cons,flat_len r];omega
theorem qa3:∀ l,Lives noL (flat l)
 | [] => trivial
 | _ :: r => ⟨trivial,trivial,qa3 r⟩
theorem qyv (l:List (Int × Int)):Live noL (pv l) :=⟨qa3 l,fun _ h => nomatch h⟩
theorem qlr:Pure prog 51 [.nils] (.bool false) :=by
 refine qbg hE rfl ⟨trivial,trivial⟩ trivial fun S q pc hS hq hC hE => ?_
 conv => whnf
 refine qav hC (qep 0 1 3) ?_
 conv => whnf
 exact ⟨_,rfl,Wk.refl _⟩
theorem qml:Pure prog 37 [.nils] (.bool false) :=by
 refine qbg hE rfl ⟨trivial,trivial⟩ trivial fun S q pc hS hq hC hE => ?_
 conv => whnf
 refine qa6 hE hS ?_
 conv => whnf
 refine qav hC (qf5 0 1 3) ?_
 conv => whnf
 exact ⟨_,rfl,Wk.refl _⟩
theorem qm5 (xs:List AV) (k:Nat) (hl:Lives noL xs) (h:¬ (1 ≤ k ∧ k ≤ 3)):Pure prog 51 [.lst xs k .no] (.bool false) :=by
 refine qbg hE rfl ⟨⟨hl,fun _ h => nomatch h⟩,trivial⟩ trivial fun S q pc hS hq hC hE => ?_
 conv => whnf
 refine qav hC (qep _ 1 3) ?_
 rw [decide_eq_false (show ¬ ((1:Int) ≤ ((k:Nat):Int) ∧ ((k:Nat):Int) ≤ 3) by omega)]
 conv => whnf
 exact ⟨_,rfl,Wk.refl _⟩



structure TS (v:AV) (k:Nat) (b:Bool):Prop where
 sh:v = .nils ∧ k = 0 ∨ ∃ xs,v = .lst xs k .no ∧ Lives noL xs
 isT:Pure prog 51 [v] (.bool b)
 rT:k ≤ 8 → Pure prog 37 [v] (.bool b)
theorem TS.no {v:AV} {k:Nat} {b:Bool} (h:TS v k b):Live noL v :=by
 rcases h.sh with ⟨rfl,_⟩ | ⟨xs,rfl,hl⟩
 ·trivial
 ·exact ⟨hl,fun _ h => nomatch h⟩
end Go.Abs.Seat
/-! Off, Lasts, Between: the program's and the document's. -/
namespace Go.Abs.Seat
open Go Go.Abs Go.Proofs.Tryz
set_option maxRecDepth 100000
set_option maxHeartbeats 4000000
attribute [local irreducible] IntKind.wrap pEq
mutual
theorem qzs:∀ (v:AV),Live noL v → bd v = 0
 | .unk,_ => rfl
 | .int _ _,_ => rfl
 | .bool _,_ => rfl
 | .str _,_ => rfl
 | .nilp,_ => rfl
 | .ptr _ _,h => h.elim
 | .lptr xs _,h => qfn xs h
 | .gp _ _,_ => rfl
 | .nils,_ => rfl
 | .slc _ _ _ _,h => h.elim
 | .lst xs _ .no,h => qfn xs h.1
 | .lst xs _ .full,h => qfn xs h.1
 | .lst xs _ (.ch c),h => (h.2 c rfl).elim
 | .nilm,_ => rfl
 | .map _,h => h.elim
 | .nilf,_ => rfl
 | .func _ f c,h => by show Nat.max (bdl f) (bdl c) = 0;rw [qfn f h.1,qfn c h.2];rfl
 | .yld _,h => h.elim
 | .nili,_ => rfl
 | .iface _ a,h => qzs a h
 | .agg cs,h => qfn cs h
 | .tup cs,h => qfn cs h
theorem qfn:∀ (xs:List AV),Lives noL xs → bdl xs = 0
 | [],_ => rfl
 |x :: xs,h => by show Nat.max (bd x) (bdl xs) = 0;rw [qzs x h.1,qfn xs h.2];rfl
end
theorem qc1 {xs:List AV} (h:Lives noL xs) {n:Nat}:bdl xs ≤ n :=by rw [qfn xs h];exact Nat.zero_le _
theorem qa2 {p p':Plan} {y:Bool} {s n:Nat} {h:Tr AObj} {K:KP} (e:p = p') (k:runP p' y s h n K):runP p y s h n K :=e ▸ k
theorem nthP {xs:List AV} {o:Nat} {v:AV} (e:nth xs o = some v):(match nth xs o with | some v => Plan.ret v | none => Plan.fail) = Plan.ret v :=by rw [e]
theorem bdq {xs:List AV} {n:Nat} (h:Lives noL xs := by first|assumption|exact qby _|exact qqs _|exact qa3 _|exact qr9 _):bdl xs ≤ n :=qc1 h
end Go.Abs.Seat

namespace Go.Abs.Seat
open Go Go.Abs Go.Proofs.Tryz
set_option maxRecDepth 100000
set_option maxHeartbeats 4000000
attribute [local irreducible] IntKind.wrap pEq

def ivs:List Int → List AV
 | [] => []
 |x :: r => iv x :: ivs r
abbrev nl (l:List Int):AV :=.lst (ivs l) l.length .no
abbrev gi (l:List Int) (i:Nat):Int :=l.getD i 0
theorem ivs_len:∀ l,(ivs l).length = l.length
 | [] => rfl
 | _ :: r => by simp only [ivs,List.length_cons,ivs_len r]
theorem qby:∀ l,Lives noL (ivs l)
 | [] => trivial
 | _ :: r => ⟨trivial,qby r⟩
theorem qy5 (l:List Int):Live noL (nl l) :=⟨qby l,fun _ h => nomatch h⟩
theorem qr2:∀ (l:List Int) (i:Nat),i < l.length → nth (ivs l) i = some (iv (gi l i))
 |x :: r,0,_ => rfl
 |x :: r,i + 1,h => qr2 r i (by simpa using h)
 | [],i,h => absurd h (Nat.not_lt_zero _)
theorem qbq {l:List Int} {i:Nat} (h:i < l.length):nth (ivs l) (i * 1) = some (iv (gi l i)) :=by rw [Nat.mul_one];exact qr2 l i h
theorem qbf {i n:Nat} (h:i < n):inR (Int.ofNat i) n = true :=by
 unfold inR
 rw [decide_eq_true (show (0:Int) ≤ Int.ofNat i by show (0:Int) ≤ (i:Int);omega),decide_eq_true (show Int.ofNat i < (n:Int) by show (i:Int) < (n:Int);omega)]
 rfl
theorem qwk {b:Bool} {p:Prop} (h:b = true ↔ p) (hp:¬ p):b = false :=Bool.eq_false_iff.2 fun e => hp (h.1 e)
theorem upto {p:Nat → Prop} {i:Nat} (h:∀ j,j < i → p j) (hi:p i):∀ j,j < i + 1 → p j :=fun j hj => by
 by_cases e:j = i
 ·subst e;exact hi
 ·exact h j (by omega)
def IL (v:AV) (l:List Int):Prop :=v = .nils ∧ l = [] ∨ v = nl l
theorem IL.no {v:AV} {l:List Int} (h:IL v l):Live noL v :=by
 rcases h with ⟨rfl,_⟩ | rfl
 ·trivial
 ·exact qy5 l
theorem mxI {a n:Nat} {l:List Int} (h:Nat.ble a n = true):Nat.max a (bdl (ivs l)) ≤ n :=Nat.max_le.2 ⟨Nat.le_of_ble_eq_true h,qc1 (qby l)⟩
theorem qx7 (l:List Int) {i:Nat} (h:i < l.length):l.drop i = gi l i :: l.drop (i + 1) :=by
 rw [List.drop_eq_getElem_cons h]
 simp [gi,List.getD,h]
def kp (L u:Int):Int → List Int → Prop
 |last,[] => u - last ≤ L
 |last,x :: r => if x < u then x - last ≤ L ∧ kp L u x r else u - last ≤ L
end Go.Abs.Seat
/-! The best of some settings. -/
namespace Go.Abs.Seat
open Go Go.Abs Go.Proofs.Tryz
set_option maxRecDepth 100000
set_option maxHeartbeats 4000000
attribute [local irreducible] pEq
section
attribute [local irreducible] IntKind.wrap
def sv:List Int → AV
 | [] => .nils
 |x :: r => nl (x :: r)
theorem qzw (l:List Int):Live noL (sv l) :=by
 cases l with
 |nil => trivial
 |cons x r => exact qy5 _
end
def svs:List (List Int) → List AV
 | [] => []
 |x :: r => sv x :: svs r
theorem qqs:∀ l,Lives noL (svs l)
 | [] => trivial
 |x :: r => ⟨qzw x,qqs r⟩
abbrev gs (l:List (List Int)) (i:Nat):List Int :=l.getD i []
theorem mxS {a n:Nat} {l:List (List Int)} (h:Nat.ble a n = true):Nat.max a (bdl (svs l)) ≤ n :=Nat.max_le.2 ⟨Nat.le_of_ble_eq_true h,qc1 (qqs l)⟩
end Go.Abs.Seat

namespace Go.Abs.Seat
open Go Go.Abs Go.Proofs.Tryz
set_option maxRecDepth 100000
set_option maxHeartbeats 4000000
attribute [local irreducible] IntKind.wrap pEq
def zl (l:List Nat):List Int :=l.map Int.ofNat
theorem qcd (l:List Nat):(zl l).length = l.length :=List.length_map _
theorem qk1:q0 20 true .nili .nili = some true :=by kernel_rfl

theorem qei {a b:Nat}:(Int.ofNat a).tmod (Int.ofNat b) = Int.ofNat (a % b) :=rfl
theorem qqf (l:List Nat) (q:Nat):ivs (zl (l ++ [q])) = ivs (zl l) ++ [nv q] :=by
 induction l with
 |nil => rfl
 |cons x l ih => simp only [List.cons_append,zl,List.map_cons,ivs];exact congrArg _ ih
theorem qe1:∀ (l:List AV),qen l l.length = true
 | [] => rfl
 | _ :: r => qe1 r
theorem ql3:∀ l:List Int,wkl (ivs l) = ivs l
 | [] => rfl
 |x :: r => by simp only [ivs,wkl,wk,ql3 r]


end Go.Abs.Seat
/-! Rules: whether they are as defined, and their numbers of teeth. -/
namespace Go.Abs.Seat
noncomputable section
open Go Go.Abs Go.Proofs.Tryz
set_option maxRecDepth 100000
set_option maxHeartbeats 40000000
theorem qpe (s:Int) (hs:-9223372036854775808 ≤ s ∧ s < 9223372036854775808):decide (0 ≤ IntKind.i64.wrap (s - 1) ∧ IntKind.i64.wrap (s - 1) ≤ 2) = decide (1 ≤ s ∧ s ≤ 3) :=by
 by_cases k:s = -9223372036854775808
 ·subst k;decide
 ·rw [qfs (by omega) (by omega)]
  exact decide_eq_decide.2 (by omega)
attribute [local irreducible] IntKind.wrap pEq
def fbad:List Int → Int → Int
 | [],_ => -1
 |x :: r,i => if tth x then fbad r (i + 1) else i
def allT (l:List Int):Prop :=∀ i,i < l.length → tth (gi l i)
instance (l:List Int):Decidable (allT l) :=Classical.propDecidable _
theorem qiv {x:Int} {r:List Int}:allT (x :: r) ↔ tth x ∧ allT r :=
 ⟨fun h => ⟨h 0 (Nat.succ_pos _),fun i hi => h (i + 1) (by simpa using hi)⟩,fun h i hi => by
  cases i with
  |zero => exact h.1
  |succ i => exact h.2 i (by simpa using hi)⟩
theorem qsx:∀ (l:List Int) (i:Int),0 ≤ i → decide (fbad l i ≥ 0) = !(decide (allT l))
 | [],i,_ => by
  rw [decide_eq_true (show allT [] from fun _ h => absurd h (Nat.not_lt_zero _))]
  rfl
 |x :: r,i,h => by
  rw [fbad]
  by_cases hx:tth x
  ·rw [if_pos hx,qsx r (i + 1) (by omega)]
   by_cases hr:allT r
   ·rw [decide_eq_true hr,decide_eq_true (qiv.2 ⟨hx,hr⟩)]
   ·rw [decide_eq_false hr,decide_eq_false fun k => hr (qiv.1 k).2]
  ·rw [if_neg hx,decide_eq_true h,decide_eq_false fun k => hx (qiv.1 k).1];rfl
theorem qp7 (a:Int):Pure prog 79 [iv a] (.bool (!(decide (tth a)))) :=by
 refine qbg hE rfl (by repeat' first|exact trivial|assumption|exact qa3 _|exact fun _ h => nomatch h|apply And.intro) (by repeat' first|exact trivial|assumption|exact qa3 _|exact fun _ h => nomatch h|apply And.intro) fun S q pc hS hq hC hE => ?_
 conv => whnf
 refine qav hC (qdl a) ?_
 conv => whnf
 exact ⟨_,rfl,Wk.refl _⟩
theorem qm6 (l:List Int) (hl:l.length < 4611686018427387904):Pure prog 109 [nl l,.func (.func 79) [] []] (iv (fbad l 0)) :=by
 have ll :=qby l
 refine qbg hE rfl (by repeat' first|exact trivial|assumption|exact qa3 _|exact fun _ h => nomatch h|apply And.intro) (by repeat' first|exact trivial|assumption|exact qa3 _|exact fun _ h => nomatch h|apply And.intro) fun S q pc hS hq hC hE => ?_
 conv => whnf
 refine qj0 hE hS (A :=Nat) [0,1,7] (fun i => [(8,nv i)]) (fun _ => []) (fun i => i ≤ l.length ∧ fbad (l.drop i) i = fbad l 0) (fun i => l.length - i) 0 rfl rfl (by refine ⟨rfl,rfl,rfl,rfl,?_,?_⟩ <;> repeat' (first|exact trivial|exact rfl|exact Nat.zero_le _|exact kle rfl|exact qc1 (by assumption)|exact qc1 (qa3 _)|exact qc1 (qby _)|exact mxI rfl|apply And.intro)) ⟨Nat.zero_le _,rfl⟩ ?_
 intro i ⟨hi,he⟩
 conv => whnf
 by_cases h:i < l.length
 ·rw [show decide (Int.ofNat i < ↑l.length) = true from qbk h]
  conv => whnf
  refine qax (qbf (i :=i) (n :=l.length) h) ?_
  conv => whnf
  refine qa2 (nthP (qbq (l :=l) (i :=i) h)) ?_
  conv => whnf
  refine qav hC (qp7 (gi l i)) ?_
  conv => whnf
  rw [qx7 l h,fbad] at he
  by_cases h1:tth (gi l i)
  ·rw [decide_eq_true h1]
   rw [if_pos h1] at he
   conv => whnf
   rw [show IntKind.i64.wrap (Int.ofNat i + 1) = Int.ofNat (i + 1) from qbr (m :=i + 1) (by omega)]
   exact ⟨i + 1,⟨h,he⟩,by omega,(by refine ⟨rfl,rfl,rfl,rfl,?_,?_⟩ <;> repeat' (first|exact trivial|exact rfl|exact Nat.zero_le _|exact kle rfl|exact qc1 (by assumption)|exact qc1 (qa3 _)|exact qc1 (qby _)|exact mxI rfl|apply And.intro))⟩
  ·rw [decide_eq_false h1]
   rw [if_neg h1] at he
   conv => whnf
   rw [← he]
   exact ⟨_,rfl,Wk.refl _⟩
 ·rw [show decide (Int.ofNat i < ↑l.length) = false from qb9 h]
  conv => whnf
  rw [List.drop_eq_nil_of_le (by omega),fbad] at he
  rw [← he]
  exact ⟨_,rfl,Wk.refl _⟩
theorem qm7:Pure prog 109 [.nils,.func (.func 79) [] []] (iv (-1)) :=by
 refine qbg hE rfl (by repeat' first|exact trivial|assumption|exact qa3 _|exact fun _ h => nomatch h|apply And.intro) (by repeat' first|exact trivial|assumption|exact qa3 _|exact fun _ h => nomatch h|apply And.intro) fun S q pc hS hq hC hE => ?_
 conv => whnf
 refine qa6 hE hS ?_
 conv => whnf
 exact ⟨_,rfl,Wk.refl _⟩
theorem qm8 {v:AV} {l:List Int} (h:IL v l) (hl:l.length < 4611686018427387904):Pure prog 78 [v,.func (.func 79) [] []] (.bool (!(decide (allT l)))) :=by
 have lv :=h.no
 rcases h with ⟨rfl,rfl⟩ | rfl
 ·rw [decide_eq_true (show allT [] from fun _ h => absurd h (Nat.not_lt_zero _))]
  refine qbg hE rfl (by repeat' first|exact trivial|assumption|exact qa3 _|exact fun _ h => nomatch h|apply And.intro) (by repeat' first|exact trivial|assumption|exact qa3 _|exact fun _ h => nomatch h|apply And.intro) fun S q pc hS hq hC hE => ?_
  conv => whnf
  refine qav hC (qm7) ?_
  conv => whnf
  exact ⟨_,rfl,Wk.refl _⟩
 ·refine qbg hE rfl (by repeat' first|exact trivial|assumption|exact qa3 _|exact fun _ h => nomatch h|apply And.intro) (by repeat' first|exact trivial|assumption|exact qa3 _|exact fun _ h => nomatch h|apply And.intro) fun S q pc hS hq hC hE => ?_
  conv => whnf
  refine qav hC (qm6 l hl) ?_
  conv => whnf
  rw [qsx l 0 (Int.le_refl _)]
  exact ⟨_,rfl,Wk.refl _⟩
abbrev rv (a b p s:Int) (N:AV):AV :=.agg [iv a,iv b,iv p,iv s,N]
def rOk (a b p s:Int) (l:List Int):Prop :=tth a ∧ tth b ∧ a ≤ b ∧ (1 ≤ p ∧ p ≤ 3) ∧ (1 ≤ s ∧ s ≤ 3) ∧ l.length ≤ 6 ∧ allT l
theorem qfm {N:AV} {l:List Int} (h:IL N l) (hl:l.length < 4611686018427387904) (a b p s:Int) (hs:-9223372036854775808 ≤ s ∧ s < 9223372036854775808) {r:Bool} (hr:r = true ↔ rOk a b p s l) :
  Pure prog 32 [rv a b p s N] (.bool r) :=by
 have lv :=h.no
 have hb :=qm8 h hl
 have hw :=qpe s hs
 have nx:¬ rOk a b p s l → r = false :=fun k => qwk hr k
 have h6:∀ (h1:tth a) (h2:tth b) (h3:a ≤ b) (h4:1 ≤ p ∧ p ≤ 3) (h5:1 ≤ s ∧ s ≤ 3) (h6:l.length ≤ 6),r = decide (allT l) :=fun h1 h2 h3 h4 h5 h6 => by
  by_cases h7:allT l
  ·rw [hr.2 ⟨h1,h2,h3,h4,h5,h6,h7⟩,decide_eq_true h7]
  ·rw [nx fun k => h7 k.2.2.2.2.2.2,decide_eq_false h7]
 rcases h with ⟨rfl,rfl⟩ | rfl
 ·refine qbg hE rfl (by repeat' first|exact trivial|assumption|exact qa3 _|exact fun _ h => nomatch h|apply And.intro) (by repeat' first|exact trivial|assumption|exact qa3 _|exact fun _ h => nomatch h|apply And.intro) fun S q pc hS hq hC hE => ?_
  conv => whnf
  refine qav hC (qdl a) ?_
  conv => whnf
  by_cases h1:tth a
  ·rw [decide_eq_true h1]
   conv => whnf
   refine qav hC (qdl b) ?_
   conv => whnf
   by_cases h2:tth b
   ·rw [decide_eq_true h2]
    conv => whnf
    by_cases h3:a ≤ b
    ·rw [decide_eq_true h3]
     conv => whnf
     refine qav hC (qep p 1 3) ?_
     conv => whnf
     by_cases h4:1 ≤ p ∧ p ≤ 3
     ·rw [decide_eq_true h4]
      conv => whnf
      refine qav hC (qep (IntKind.i64.wrap (s - 1)) 0 2) ?_
      conv => whnf
      rw [hw]
      by_cases h5:1 ≤ s ∧ s ≤ 3
      ·rw [decide_eq_true h5]
       conv => whnf
       refine qav hC (hb) ?_
       conv => whnf
       rw [h6 h1 h2 h3 h4 h5 (by decide)]
       cases decide (allT [])
       ·conv => whnf
        exact ⟨_,rfl,Wk.refl _⟩
       ·conv => whnf
        exact ⟨_,rfl,Wk.refl _⟩
      ·rw [decide_eq_false h5]
       conv => whnf
       rw [nx fun k => h5 k.2.2.2.2.1]
       exact ⟨_,rfl,Wk.refl _⟩
     ·rw [decide_eq_false h4]
      conv => whnf
      rw [nx fun k => h4 k.2.2.2.1]
      exact ⟨_,rfl,Wk.refl _⟩
    ·rw [decide_eq_false h3]
     conv => whnf
     rw [nx fun k => h3 k.2.2.1]
     exact ⟨_,rfl,Wk.refl _⟩
   ·rw [decide_eq_false h2]
    conv => whnf
    rw [nx fun k => h2 k.2.1]
    exact ⟨_,rfl,Wk.refl _⟩
  ·rw [decide_eq_false h1]
   conv => whnf
   rw [nx fun k => h1 k.1]
   exact ⟨_,rfl,Wk.refl _⟩
 ·refine qbg hE rfl (by repeat' first|exact trivial|assumption|exact qa3 _|exact fun _ h => nomatch h|apply And.intro) (by repeat' first|exact trivial|assumption|exact qa3 _|exact fun _ h => nomatch h|apply And.intro) fun S q pc hS hq hC hE => ?_
  conv => whnf
  refine qav hC (qdl a) ?_
  conv => whnf
  by_cases h1:tth a
  ·rw [decide_eq_true h1]
   conv => whnf
   refine qav hC (qdl b) ?_
   conv => whnf
   by_cases h2:tth b
   ·rw [decide_eq_true h2]
    conv => whnf
    by_cases h3:a ≤ b
    ·rw [decide_eq_true h3]
     conv => whnf
     refine qav hC (qep p 1 3) ?_
     conv => whnf
     by_cases h4:1 ≤ p ∧ p ≤ 3
     ·rw [decide_eq_true h4]
      conv => whnf
      refine qav hC (qep (IntKind.i64.wrap (s - 1)) 0 2) ?_
      conv => whnf
      rw [hw]
      by_cases h5:1 ≤ s ∧ s ≤ 3
      ·rw [decide_eq_true h5]
       conv => whnf
       by_cases h7:l.length ≤ 6
       ·rw [decide_eq_true (show (l.length:Int) ≤ 6 by omega)]
        conv => whnf
        refine qav hC (hb) ?_
        conv => whnf
        rw [h6 h1 h2 h3 h4 h5 h7]
        cases decide (allT l)
        ·conv => whnf
         exact ⟨_,rfl,Wk.refl _⟩
        ·conv => whnf
         exact ⟨_,rfl,Wk.refl _⟩
       ·rw [decide_eq_false (show ¬ (l.length:Int) ≤ 6 by omega)]
        conv => whnf
        rw [nx fun k => h7 k.2.2.2.2.2.1]
        exact ⟨_,rfl,Wk.refl _⟩
      ·rw [decide_eq_false h5]
       conv => whnf
       rw [nx fun k => h5 k.2.2.2.2.1]
       exact ⟨_,rfl,Wk.refl _⟩
     ·rw [decide_eq_false h4]
      conv => whnf
      rw [nx fun k => h4 k.2.2.2.1]
      exact ⟨_,rfl,Wk.refl _⟩
    ·rw [decide_eq_false h3]
     conv => whnf
     rw [nx fun k => h3 k.2.2.1]
     exact ⟨_,rfl,Wk.refl _⟩
   ·rw [decide_eq_false h2]
    conv => whnf
    rw [nx fun k => h2 k.2.1]
    exact ⟨_,rfl,Wk.refl _⟩
  ·rw [decide_eq_false h1]
   conv => whnf
   rw [nx fun k => h1 k.1]
   exact ⟨_,rfl,Wk.refl _⟩
end
end Go.Abs.Seat

namespace Go.Abs.Seat
open Go Go.Abs Go.Proofs.Tryz
set_option maxRecDepth 100000
set_option maxHeartbeats 4000000
attribute [local irreducible] IntKind.wrap pEq
abbrev sl (l:List (List Int)):AV :=.lst (svs l) l.length .no
end Go.Abs.Seat
