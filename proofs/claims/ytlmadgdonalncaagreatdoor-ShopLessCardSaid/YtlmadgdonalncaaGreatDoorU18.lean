/-
  Whether a list is a packing, as the document tells it.
-/
import Derived.Test.YtlmadgdonalncaaGreatDoorU17
import Derived.Test.YtlmadgdonalncaaGreatDoorB7
import Derived.Test.YtlmadgdonalncaaGreatDoorU12
namespace Go.Abs.Seat
noncomputable section
open Go Go.Abs Go.Proofs.Tryz
set_option maxRecDepth 100000
set_option maxHeartbeats 40000000
attribute [local irreducible] IntKind.wrap pEq qd1
theorem qx1 (x y:Nat):maxI (Int.ofNat x) (Int.ofNat y) = Int.ofNat (max x y) :=by
 unfold maxI
 by_cases h:Int.ofNat y > Int.ofNat x
 ·have h2:x < y :=Int.ofNat_lt.1 h
  rw [if_pos h,Nat.max_eq_right (by omega)]
 ·have h2:¬ x < y :=fun k => h (Int.ofNat_lt.2 k)
  rw [if_neg h,Nat.max_eq_left (by omega)]
def mnA:Nat → List Nat → Nat
 |a,[] => a
 |a,x :: r => mnA (max a (x + 1)) r
theorem qvm (l:List Nat) {i:Nat} (h:i < l.length):l.drop i = gn l i :: l.drop (i + 1) :=by
 rw [List.drop_eq_getElem_cons h]
 simp [gn,List.getD,h]
def ldI (saw s:Nat):List (Nat × Nat) → Int → Int
 | [],a => a
 |x :: r,a => ldI saw s r (if x.1 = s then a + Int.ofNat saw + Int.ofNat (2 * x.2) else a)
def pkP (long saw:Nat) (T sh:List Nat):Prop :=(∀ i,i < sh.length → gn sh i ≤ mnA 0 (sh.take i)) ∧ ∀ s,s < mnA 0 sh → ldI saw s (sh.zip T) (-Int.ofNat saw) ≤ Int.ofNat long
instance (long saw:Nat) (T sh:List Nat):Decidable (pkP long saw T sh) :=Classical.propDecidable _
end
end Go.Abs.Seat
namespace Go.Abs.Seat
noncomputable section
open Go Go.Abs Go.Proofs.Tryz
set_option maxRecDepth 100000
set_option maxHeartbeats 40000000
attribute [local irreducible] IntKind.wrap pEq
def orE {α:Type} (o p:Option α):Option α :=match o with | some x => some x | none => p
def fstO {α:Type} (f:Nat → Option α):Nat → Nat → Option α
 | _,0 => none
 |k,n + 1 => orE (f k) (fstO f (k + 1) n)
def sr0 (N:List Lk) (H:List Nat) (hand:Nat) (t:Nat × Nat) (now:List Lk) (_:Nat):Option (List Lk) :=if suP N now H hand t then some [] else none
def stC (g:List Lk → Nat → Option (List Lk)) (N now:List Lk) (i a b:Nat):Option (List Lk) :=if (gN N i).2 = (a,b) then none else (g (chN now i a b) (i + 1)).map ((i,a,b) :: ·)
def srS (g:List Lk → Nat → Option (List Lk)) (N:List Lk) (lo hi:Nat) (now:List Lk) (fr:Nat):Option (List Lk) :=
 fstO (fun i => fstO (fun a => fstO (fun b => stC g N now i a b) lo (hi + 1 - lo)) lo (hi + 1 - lo)) fr (N.length - fr)
def srV:Option (List Lk) → AV
 |none => .tup [.nils,.bool false]
 |some [] => .tup [.nils,.bool true]
 |some (c :: r) => .tup [nkA (c :: r),.bool true]
theorem qyc (N:List Lk) (i a b j:Nat) (hi:i < N.length):gN (chN N i a b) j = if j = i then ((gN N i).1,a,b) else gN N j :=by
 unfold chN gN
 by_cases e:j = i
 ·subst e
  rw [if_pos rfl,List.getD,List.getElem?_set_self hi];rfl
 ·rw [if_neg e,List.getD,List.getElem?_set_ne (fun z => e z.symm)];rfl
theorem qid (N:List Lk) (i a b:Nat):(chN N i a b).length = N.length :=List.length_set
theorem qws (N:List Lk) (i a b j:Nat) (hi:i < N.length):(gN (chN N i a b) j).1 = (gN N j).1 :=by
 rw [qyc N i a b j hi]
 split
 ·rename_i e;subst e;rfl
 ·rfl
theorem qvx {N:List Lk} {i a b:Nat} (hi:i < N.length):∀ (f x:Nat),(trF (chN N i a b) f x).length = (trF N f x).length
 | _,0 => by cases ‹Nat› <;> rfl
 | 0,_ + 1 => rfl
 |f + 1,x + 1 => by rw [trF,trF,List.length_append,List.length_append,qws N i a b x hi,qvx hi f];rfl
theorem okN.ch {N:List Lk} (h:okN N) {i a b:Nat} (hi:i < N.length) (ha:tN a) (hb:tN b):okN (chN N i a b) :=by
 refine ⟨fun j hj => ?_,fun j hj => ?_,fun j hj => ?_,fun j hj => ?_⟩
 ·rw [qws N i a b j hi];exact h.wf j (by rw [qid] at hj;exact hj)
 ·rw [qid] at hj
  rw [qyc N i a b j hi]
  split
  ·exact ha
  ·exact h.t1 j hj
 ·rw [qid] at hj
  rw [qyc N i a b j hi]
  split
  ·exact hb
  ·exact h.t2 j hj
 ·rw [qid] at hj
  unfold tr
  rw [qvx hi]
  exact h.d j hj
theorem eqPr (cst:Bool) (a b c d:Int):q0 86 cst (fv a b) (fv c d) = @Bool.rec (fun _ => Option Bool) (some false) (@Bool.rec (fun _ => Option Bool) (some false) (some true) (b == d)) (a == c) :=by kernel_rfl
theorem qwq (cst:Bool) (a b c d:Nat):q0 86 cst (fv (Int.ofNat a) (Int.ofNat b)) (fv (Int.ofNat c) (Int.ofNat d)) = some (decide ((c,d) = (a,b))) :=by
 rw [eqPr]
 by_cases h1:a = c
 ·subst h1
  rw [beq_self_eq_true]
  by_cases h2:b = d
  ·subst h2
   rw [beq_self_eq_true,decide_eq_true rfl]
  ·rw [show (Int.ofNat b == Int.ofNat d) = false from beq_eq_false_iff_ne.2 fun z => h2 (Int.ofNat.inj z),decide_eq_false fun z => h2 (Prod.mk.inj z).2.symm]
 ·rw [show (Int.ofNat a == Int.ofNat c) = false from beq_eq_false_iff_ne.2 fun z => h1 (Int.ofNat.inj z),decide_eq_false fun z => h1 (Prod.mk.inj z).1.symm]
abbrev hpC (N:List Lk) (H:List Nat) (lo hi hand:Nat) (t:Nat × Nat):Tr AObj :=
 .node (.cells (.node (nkA N) (.node (nl (zl H)) .nil .nil) .nil) 2 64) (.node (.cells (.node (nv lo) .nil .nil) 1 3) (.node (.cells (.node (nv hand) .nil .nil) 1 3) (.node .hole (.node .hole (.nil) (.nil)) (.nil)) (.node .hole (.nil) (.nil))) (.node .hole (.node .hole (.nil) (.nil)) (.node (.cells (.node (nv t.1) (.node (nv t.2) .nil .nil) .nil) 2 161) (.nil) (.nil)))) (.node (.cells (.node (nv hi) .nil .nil) 1 3) (.node (.cells (.node (nv t.1) (.node (nv t.2) .nil .nil) .nil) 2 78) (.node .hole (.node (.cells (.node (.func (.func 108) [] [.ptr 12 0,.ptr 3 0,.ptr 13 0,.ptr 0 0,.ptr 1 0,.ptr 2 0,.ptr 16 0]) .nil .nil) 1 162) (.nil) (.nil)) (.nil)) (.node (.cells (.node (nkA N) (.node (nl (zl H)) .nil .nil) (.node (pv (zp (rtL N (N.length + 1)))) .nil .nil)) 3 155) (.nil) (.nil))) (.node .hole (.node .hole (.nil) (.nil)) (.node .hole (.nil) (.nil))))
theorem qs3 (N:List Lk) (H:List Nat) (lo hi hand:Nat) (t:Nat × Nat):HEnd (hpC N H lo hi hand t) 17 :=qcq [(.cells (.node (nkA N) (.node (nl (zl H)) .nil .nil) .nil) 2 64),(.cells (.node (nv lo) .nil .nil) 1 3),(.cells (.node (nv hi) .nil .nil) 1 3),(.cells (.node (nv hand) .nil .nil) 1 3),(.cells (.node (nv t.1) (.node (nv t.2) .nil .nil) .nil) 2 78),.hole,.hole,.hole,.hole,.hole,.hole,.hole,(.cells (.node (nkA N) (.node (nl (zl H)) .nil .nil) (.node (pv (zp (rtL N (N.length + 1)))) .nil .nil)) 3 155),(.cells (.node (nv t.1) (.node (nv t.2) .nil .nil) .nil) 2 161),.hole,.hole,(.cells (.node (.func (.func 108) [] [.ptr 12 0,.ptr 3 0,.ptr 13 0,.ptr 0 0,.ptr 1 0,.ptr 2 0,.ptr 16 0]) .nil .nil) 1 162)] 0 .nil qcr
abbrev scA (now:List Lk) (H:List Nat) (fr k:Nat):List AV :=[.agg [nkA now,nl (zl H)],nv fr,nv k,.ptr 12 0,.ptr 3 0,.ptr 13 0,.ptr 0 0,.ptr 1 0,.ptr 2 0,.ptr 16 0]
theorem qwd (N:List Lk) (H:List Nat) (lo hi hand:Nat) (t:Nat × Nat):ObBd 17 (hpC N H lo hi hand t) 17 :=by
 have lN :=qau (cL N)
 have lM :=qal (zl H)
 have lR :=qag (zp (rtL N (N.length + 1)))
 repeat' (first|exact trivial|exact Nat.zero_le _|exact qae lN|exact qae lM|exact qae lR|exact kle rfl|apply And.intro|exact Nat.max_le.2 ⟨Nat.zero_le _,qae lN⟩)
theorem qk8 {N now:List Lk} (h:okN N) (h2:okN now) (h1:1 ≤ N.length) (hN:N.length ≤ 5) (hl:now.length = N.length) {H:List Nat} (hH:hdN N.length H) (lo hi:Nat) {hand:Nat} (hh:hand < H.length) {t:Nat × Nat} (t1:t.1 ≤ 50000) (t2:t.2 ≤ 50000) (fr:Nat) :
  HFun prog 108 (scA now H fr 0) (hv (hpC N H lo hi hand t)) 17 (srV (sr0 N H hand t now fr)) (hv (hpC N H lo hi hand t)) :=by
 have lN :=qau (cL N)
 have lN2 :=qau (cL now)
 have lM :=qal (zl H)
 have lR :=qag (zp (rtL N (N.length + 1)))
 have pw :=qhj h2 (by omega) (by omega) (zl H)
 have ps :=qpu h h2 hN hl hH hh t1 t2
 have lR2 :=qag (zp (rtL now (now.length + 1)))
 have hb :=qwd N H lo hi hand t
 unfold wiV at pw ps
 have ev:srV (sr0 N H hand t now fr) = .tup [.nils,.bool (decide (suP N now H hand t))] :=by
  unfold sr0
  by_cases e:suP N now H hand t
  ·rw [if_pos e,decide_eq_true e];rfl
  ·rw [if_neg e,decide_eq_false e];rfl
 rw [ev]
 refine qdb hE rfl (qs3 N H lo hi hand t) (Nat.max_le.2 ⟨Nat.max_le.2 ⟨Nat.max_le.2 ⟨Nat.zero_le _,qae lN2⟩,Nat.max_le.2 ⟨Nat.max_le.2 ⟨Nat.zero_le _,qae lM⟩,Nat.zero_le _⟩⟩,kle rfl⟩) (Nat.zero_le _) hb hb fun S q pc hS hq hC hE => ?_
 conv => whnf
 refine qab hC (pw) ?_
 conv => whnf
 refine qab hC (ps) ?_
 conv => whnf
 refine qad hS (by kernel_rfl) ?_
 conv => whnf
 exact ⟨_,rfl,WkV.refl _,rfl,rfl,rfl,rfl,rfl,rfl,rfl,rfl,rfl,rfl,rfl,rfl,rfl,rfl,rfl,rfl,rfl,trivial⟩
end
end Go.Abs.Seat
