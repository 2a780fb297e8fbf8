/-
  The document's rules; numbers of teeth; the sense.
  Which settings are the best: the first ones, by how many they are, then in order.
  Trains of a rule: the parts.
  Trains of a rule: the document's parts.
  The first train of some pairs: plain.
  Products of teeth; which fractions of such products are nearest: plain.
-/
import Derived.Test.YtpjclnoehlflcaaGreatDoorU7
import Derived.Test.YtpjclnoehlflcaaGreatDoorU4
import Derived.Test.YtpjclnoehlflcaaGreatDoorT24
import Derived.Laws.CopyRow
namespace Go.Abs.Seat
noncomputable section
open Go Go.Abs Go.Proofs.Tryz
set_option maxRecDepth 100000
set_option maxHeartbeats 40000000
attribute [local irreducible] IntKind.wrap pEq
theorem qrd {N:AV} {l:List Int} (h:IL N l) (hl:l.length < 4611686018427387904) (a b p s:Int) {r:Bool} (hr:r = true ↔ rOk a b p s l) :
  Pure prog 32 [rv a b p s N] (.bool r) :=by
 have lv :=h.no
 have nx:¬ rOk a b p s l → r = false :=fun k => qyf hr k
 rcases h with ⟨rfl,rfl⟩ | rfl
 ·refine zA fun S q pc hS hq hC hE => ?_
  conv=>whnf
  refine qae hE hS ?_
  conv=>whnf
  refine qab hC (qai a) ?_
  conv=>whnf
  by_cases h1:tth a
  ·rw [zT h1]
   conv=>whnf
   refine qab hC (qai b) ?_
   conv=>whnf
   by_cases h2:tth b
   ·rw [zT h2]
    conv=>whnf
    by_cases h3:a ≤ b
    ·rw [zT h3]
     conv=>whnf
     refine qab hC (qbg p 1 3) ?_
     conv=>whnf
     by_cases h4:1 ≤ p ∧ p ≤ 3
     ·rw [zT h4]
      conv=>whnf
      by_cases h5:1 ≤ s
      ·rw [show decide (s ≥ 1) = true from zT h5]
       conv=>whnf
       by_cases h6:s ≤ 3
       ·rw [zT h6]
        conv=>whnf
        rw [hr.2 ⟨h1,h2,h3,h4,⟨h5,h6⟩,by decide,fun _ h => absurd h (Nat.not_lt_zero _)⟩]
        exact ⟨_,rfl,Wk.refl _⟩
       ·rw [zF h6]
        conv=>whnf
        rw [nx fun k => h6 k.2.2.2.2.1.2]
        exact ⟨_,rfl,Wk.refl _⟩
      ·rw [show decide (s ≥ 1) = false from zF h5]
       conv=>whnf
       rw [nx fun k => h5 k.2.2.2.2.1.1]
       exact ⟨_,rfl,Wk.refl _⟩
     ·rw [zF h4]
      conv=>whnf
      rw [nx fun k => h4 k.2.2.2.1]
      exact ⟨_,rfl,Wk.refl _⟩
    ·rw [zF h3]
     conv=>whnf
     rw [nx fun k => h3 k.2.2.1]
     exact ⟨_,rfl,Wk.refl _⟩
   ·rw [zF h2]
    conv=>whnf
    rw [nx fun k => h2 k.2.1]
    exact ⟨_,rfl,Wk.refl _⟩
  ·rw [zF h1]
   conv=>whnf
   rw [nx fun k => h1 k.1]
   exact ⟨_,rfl,Wk.refl _⟩
 ·have ll :=qd4 l
  refine zA fun S q pc hS hq hC hE => ?_
  conv=>whnf
  refine qbh hE hS (A :=Nat) [1] (fun i => [(3,nv i)]) (fun _ => []) (fun i => i ≤ l.length ∧ ∀ j,j < i → tth (gi l j)) (fun i => l.length - i) 0 rfl rfl zD ⟨Nat.zero_le _,fun _ h => absurd h (Nat.not_lt_zero _)⟩ ?_
  intro i ⟨hi,hT⟩
  conv=>whnf
  by_cases h:i < l.length
  ·rw [show decide (Int.ofNat i < ↑l.length) = true from qch h]
   conv=>whnf
   refine qaa (qaf (i :=i) (n :=l.length) h) ?_
   conv=>whnf
   refine qac (nthP (qa4 (l :=l) (i :=i) h)) ?_
   conv=>whnf
   refine qab hC (qai (gi l i)) ?_
   conv=>whnf
   by_cases h1:tth (gi l i)
   ·rw [zT h1]
    conv=>whnf
    rw [show IntKind.i64.wrap (Int.ofNat i + 1) = Int.ofNat (i + 1) from qa2 (m :=i + 1) (by omega)]
    exact ⟨i + 1,⟨h,upto hT h1⟩,by omega,zD⟩
   ·rw [zF h1]
    conv=>whnf
    rw [nx fun k => h1 (k.2.2.2.2.2.2 i h)]
    exact ⟨_,rfl,Wk.refl _⟩
  ·rw [show decide (Int.ofNat i < ↑l.length) = false from qcl h]
   conv=>whnf
   have hi0:i = l.length :=by omega
   refine qab hC (qai a) ?_
   conv=>whnf
   by_cases h1:tth a
   ·rw [zT h1]
    conv=>whnf
    refine qab hC (qai b) ?_
    conv=>whnf
    by_cases h2:tth b
    ·rw [zT h2]
     conv=>whnf
     by_cases h3:a ≤ b
     ·rw [zT h3]
      conv=>whnf
      refine qab hC (qbg p 1 3) ?_
      conv=>whnf
      by_cases h4:1 ≤ p ∧ p ≤ 3
      ·rw [zT h4]
       conv=>whnf
       by_cases h5:1 ≤ s
       ·rw [show decide (s ≥ 1) = true from zT h5]
        conv=>whnf
        by_cases h6:s ≤ 3
        ·rw [zT h6]
         conv=>whnf
         refine ⟨_,rfl,wkb ?_⟩
         by_cases h7:l.length ≤ 6
         ·rw [hr.2 ⟨h1,h2,h3,h4,⟨h5,h6⟩,h7,fun j hj => hT j (by omega)⟩]
          exact zT (show (l.length:Int) ≤ 6 by omega)
         ·rw [nx fun k => h7 k.2.2.2.2.2.1]
          exact zF (show ¬ (l.length:Int) ≤ 6 by omega)
        ·rw [zF h6]
         conv=>whnf
         rw [nx fun k => h6 k.2.2.2.2.1.2]
         exact ⟨_,rfl,Wk.refl _⟩
       ·rw [show decide (s ≥ 1) = false from zF h5]
        conv=>whnf
        rw [nx fun k => h5 k.2.2.2.2.1.1]
        exact ⟨_,rfl,Wk.refl _⟩
      ·rw [zF h4]
       conv=>whnf
       rw [nx fun k => h4 k.2.2.2.1]
       exact ⟨_,rfl,Wk.refl _⟩
     ·rw [zF h3]
      conv=>whnf
      rw [nx fun k => h3 k.2.2.1]
      exact ⟨_,rfl,Wk.refl _⟩
    ·rw [zF h2]
     conv=>whnf
     rw [nx fun k => h2 k.2.1]
     exact ⟨_,rfl,Wk.refl _⟩
   ·rw [zF h1]
    conv=>whnf
    rw [nx fun k => h1 k.1]
    exact ⟨_,rfl,Wk.refl _⟩
def qcd (l:List Int) (a:Nat):Nat → List Int
 | 0 => []
 |k + 1 => if Int.ofNat (a + k) ∈ l then qcd l a k else qcd l a k ++ [Int.ofNat (a + k)]
theorem qni (l:List Int) (a:Nat):∀ k,(qcd l a k).length ≤ k
 | 0 => Nat.le_refl 0
 |k + 1 => by
  have :=qni l a k
  rw [qcd]
  split
  ·omega
  ·rw [List.length_append,List.length_singleton];omega
abbrev ruv (a b p s:Int) (N T:AV):AV :=.agg [iv a,iv b,iv p,iv s,N,T]
theorem qyl {a b c d e x y:AV} (h:Wk x y):Wk (.agg [a,b,c,d,e,x]) (.agg [a,b,c,d,e,y]) :=by
 intro g w u hu
 obtain ⟨vs,e0,u0,us0,e1,h0,u1,us1,e2,h1,u2,us2,e3,h2,u3,us3,e4,h3,u4,us4,e5,h4,u5,us5,e6,h5,h6⟩ :=hu
 exact ⟨vs,e0,u0,us0,e1,h0,u1,us1,e2,h1,u2,us2,e3,h2,u3,us3,e4,h3,u4,us4,e5,h4,u5,us5,e6,h g w u5 h5,h6⟩
theorem qxc {a b p s N v v':AV} {t:TypeId} (e:v = v'):AObj.cells (.node a (.node b (.node s .nil .nil) (.node v .nil .nil)) (.node p (.node N .nil .nil) .nil)) 6 t = AObj.cells (.node a (.node b (.node s .nil .nil) (.node v' .nil .nil)) (.node p (.node N .nil .nil) .nil)) 6 t :=by rw [e]
theorem qq8 {N:AV} {l:List Int} (h:IL N l) (hl:l.length < 4611686018427387904) (a b:Nat) (hab:a ≤ b) (hb:b ≤ 60) (p s:Int) :
  Pure prog 83 [rv (Int.ofNat a) (Int.ofNat b) p s N] (ruv (Int.ofNat a) (Int.ofNat b) p s N (sv (qcd l a (b + 1 - a)))) :=by
 have lN :=h.no
 have lT :=ql7 (qcd l a (b + 1 - a))
 have pc1 :=qlw h hl
 have hs:N = .nils ∨ N = nl l :=by
  rcases h with ⟨e,_⟩ | e
  ·exact .inl e
  ·exact .inr e
 clear h
 rcases hs with rfl | rfl
 all_goals
  refine zA fun S q pc hS hq hC hE => ?_
  conv=>whnf
  refine qbe hE hS (A :=Nat × AV × List AObj) [1,2,3] (fun (x,_,_) => [(4,nv x)]) (fun (_,v,_) => [(2,.cells (.node (nv a) (.node (nv b) (.node (iv s) .nil .nil) (.node v .nil .nil)) (.node (iv p) (.node _ .nil .nil) .nil)) 6 112)]) (fun a => a.2.2) (fun (x,v,ux) => a ≤ x ∧ x ≤ b + 1 ∧ (qcd l a (x - a) = [] ∧ v = .nils ∧ ux = [] ∨ qcd l a (x - a) ≠ [] ∧ v = .lst (ivs (qcd l a (x - a))) (qcd l a (x - a)).length (.ch 3) ∧ ux = [.chain (qcd l a (x - a)).length 1 3])) (fun (x,_,_) => b + 1 - x) (a,.nils,[]) (Nat.le_of_ble_eq_true rfl) rfl zG3 ⟨Nat.le_refl _,by omega,.inl ⟨by rw [Nat.sub_self];rfl,rfl,rfl⟩⟩ ?_
  rintro ⟨x,v,ux⟩ ⟨hx,hx2,⟨e0,rfl,rfl⟩ | ⟨hne,rfl,rfl⟩⟩ M hM
  ·obtain rfl:M = 3 :=hM
   conv=>whnf
   by_cases h:x ≤ b
   ·refine qaa (zT (show Int.ofNat x ≤ Int.ofNat b by show (x:Int) ≤ (b:Int);omega)) ?_
    conv=>whnf
    refine qab hC (pc1 (Int.ofNat x)) ?_
    conv=>whnf
    have e2:qcd l a (x + 1 - a) = if Int.ofNat x ∈ l then qcd l a (x - a) else qcd l a (x - a) ++ [Int.ofNat x] :=by
     rw [show x + 1 - a = (x - a) + 1 by omega,qcd,show a + (x - a) = x by omega]
    have hx1:IntKind.i64.wrap (Int.ofNat x + 1) = Int.ofNat (x + 1) :=qa2 (m :=x + 1) (by omega)
    by_cases hm:Int.ofNat x ∈ l
    ·rw [if_pos hm,e0] at e2
     rw [zT hm]
     conv=>whnf
     exact ⟨(x + 1,.nils,[]),⟨by omega,by omega,.inl ⟨e2,rfl,rfl⟩⟩,by show b + 1 - (x + 1) < b + 1 - x;omega,Nat.le_refl _,zG3⟩
    ·rw [if_neg hm,e0] at e2
     rw [zF hm]
     conv=>whnf
     exact ⟨(x + 1,.lst (ivs [Int.ofNat x]) 1 (.ch 3),[.chain 1 1 3]),⟨by omega,by omega,.inr ⟨by rw [e2];simp,by rw [e2];rfl,by rw [e2];rfl⟩⟩,by show b + 1 - (x + 1) < b + 1 - x;omega,Nat.zero_le _,zG4⟩
   ·refine qad (zF (show ¬ Int.ofNat x ≤ Int.ofNat b by show ¬ (x:Int) ≤ (b:Int);omega)) ?_
    conv=>whnf
    refine .inl ?_
    conv=>whnf
    rw [show b + 1 - a = x - a by omega,e0]
    exact ⟨_,rfl,Wk.refl _⟩
  ·obtain rfl:M = 4 :=hM
   have tl :=qni l a (x - a)
   conv=>whnf
   by_cases h:x ≤ b
   ·refine qaa (zT (show Int.ofNat x ≤ Int.ofNat b by show (x:Int) ≤ (b:Int);omega)) ?_
    conv=>whnf
    refine qab hC (pc1 (Int.ofNat x)) ?_
    conv=>whnf
    have e2:qcd l a (x + 1 - a) = if Int.ofNat x ∈ l then qcd l a (x - a) else qcd l a (x - a) ++ [Int.ofNat x] :=by
     rw [show x + 1 - a = (x - a) + 1 by omega,qcd,show a + (x - a) = x by omega]
    have hx1:IntKind.i64.wrap (Int.ofNat x + 1) = Int.ofNat (x + 1) :=qa2 (m :=x + 1) (by omega)
    by_cases hm:Int.ofNat x ∈ l
    ·rw [if_pos hm] at e2
     rw [zT hm]
     conv=>whnf
     exact ⟨(x + 1,.lst (ivs (qcd l a (x - a))) (qcd l a (x - a)).length (.ch 3),[.chain (qcd l a (x - a)).length 1 3]),⟨by omega,by omega,.inr ⟨by rw [e2];exact hne,by rw [e2],by rw [e2]⟩⟩,by show b + 1 - (x + 1) < b + 1 - x;omega,Nat.le_refl _,zG4⟩
    ·rw [if_neg hm] at e2
     rw [zF hm]
     conv=>whnf
     refine qaa (zT (show ((qcd l a (x - a)).length + (0 + 1)) * 8 ≤ 140737488355328 by omega)) ?_
     conv=>whnf
     refine qaa (zT (show (qcd l a (x - a)).length + (0 + 1) ≤ 9223372036854775807 by omega)) ?_
     conv=>whnf
     refine qaa (qub (qcd l a (x - a))) ?_
     conv=>whnf
     refine qaa (zT rfl) ?_
     conv=>whnf
     exact ⟨(x + 1,.lst (ivs (qcd l a (x - a) ++ [Int.ofNat x])) (qcd l a (x - a) ++ [Int.ofNat x]).length (.ch 3),[.chain (qcd l a (x - a) ++ [Int.ofNat x]).length 1 3]),⟨by omega,by omega,.inr ⟨by rw [e2];simp,by rw [e2],by rw [e2]⟩⟩,by show b + 1 - (x + 1) < b + 1 - x;omega,Nat.le_refl _,(by refine ⟨rfl,rfl,rfl,rfl,rfl,rfl,4,rfl,?_,?_⟩ <;> repeat' (first | exact qxc (q2l _ _ _) | exact q2k _ _ | exact zZ | apply And.intro))⟩
   ·refine qad (zF (show ¬ Int.ofNat x ≤ Int.ofNat b by show ¬ (x:Int) ≤ (b:Int);omega)) ?_
    conv=>whnf
    refine .inl ?_
    conv=>whnf
    have e5:sv (qcd l a (x - a)) = nl (qcd l a (x - a)) :=by
     rcases qco (qcd l a (x - a)) with ⟨k,_⟩ | k
     ·exact absurd k hne
     ·exact k
    rw [show b + 1 - a = x - a by omega,e5]
    exact ⟨_,rfl,qyl (qo5 rfl)⟩
end
end Go.Abs.Seat
namespace Go.Abs.Seat
open Go Go.Abs
set_option maxRecDepth 100000
theorem qts {a b:Int}:ordI a b < 0 ↔ a < b :=by
 unfold ordI;split
 ·exact ⟨fun _ => by assumption,fun _ => by omega⟩
 ·split <;> exact ⟨fun _ => by omega,fun _ => by omega⟩
theorem qmm {a b:Int}:ordI a b = 0 ↔ a = b :=by
 unfold ordI;split
 ·exact ⟨fun _ => by omega,fun _ => by omega⟩
 ·split
  ·exact ⟨fun _ => by omega,fun _ => by omega⟩
  ·exact ⟨fun _ => by omega,fun _ => rfl⟩
def Asc (lo hi:Int):List Int → Prop
 | [] => True
 |x :: r => lo ≤ x ∧ x < hi ∧ Asc (x + 1) hi r
theorem Asc.snoc {hi:Int}:∀ {l:List Int} {lo:Int},Asc lo (hi + 1) l → Asc lo hi l ∨ ∃ r,l = r ++ [hi] ∧ Asc lo hi r
 | [],_,_ => .inl trivial
 |x :: r,lo,h => by
  rcases Asc.snoc h.2.2 with k | ⟨q,rfl,k⟩
  ·by_cases e:x = hi
   ·subst e
    cases r with
    |nil => exact .inr ⟨[],rfl,trivial⟩
    |cons y r => have :=k.1;have :=k.2.1;omega
   ·exact .inl ⟨h.1,by have :=h.2.1;omega,k⟩
  ·refine .inr ⟨x :: q,rfl,h.1,?_,k⟩
   cases q with
   |nil => have :=h.2.2.1;omega
   |cons y q => have :=k.1;have :=k.2.1;omega
end Go.Abs.Seat
/-! Trains of a rule: the parts. -/
namespace Go.Abs.Seat
noncomputable section
open Go Go.Abs Go.Proofs.Tryz
set_option maxRecDepth 100000
set_option maxHeartbeats 40000000
def qav (s:Int) (k:Nat):Prop :=s = 1 ∨ s = 2 ∧ k % 2 = 0 ∨ s = 3 ∧ k % 2 = 1
instance (s k):Decidable (qav s k) :=by unfold qav;infer_instance
theorem qxy {s:Int} (h:1 ≤ s ∧ s ≤ 3):s = 1 ∨ s = 2 ∨ s = 3 :=by omega
theorem qc7 (k c:Nat):(Int.ofNat k == Int.ofNat c) = decide (k = c) :=by
 by_cases h:k = c
 ·rw [zT h,h];exact beq_self_eq_true _
 ·rw [zF h];exact beq_eq_false_iff_ne.2 fun e => h (by exact_mod_cast Int.ofNat.inj e)
section
attribute [local irreducible] IntKind.wrap pEq
theorem IL.cs {N:AV} {l:List Int} (h:IL N l):N = .nils ∨ N = nl l :=by
 rcases h with ⟨e,_⟩ | e
 ·exact .inl e
 ·exact .inr e
theorem qt9 {N:AV} {l:List Int} (hN:IL N l) (T:List Int) (a b p s:Int) (hs:1 ≤ s ∧ s ≤ 3) (k:Nat):Pure prog 84 [ruv a b p s N (sv T),nv k] (.bool (decide (qav s k))) :=by
 have lN :=hN.no
 have lT :=ql7 T
 rcases qxy hs with rfl | rfl | rfl <;> rcases hN.cs with rfl | rfl <;> rcases qco T with ⟨_,e⟩ | e <;> rw [e] at lT ⊢
 ·rw [zT (.inl rfl)]
  refine zA fun S q pc hS hq hC hE => ?_
  conv=>whnf
  rw [show IntKind.i64.wrap (1 - 1) = 0 from qas (by decide) (by decide)]
  conv=>whnf
  exact ⟨_,rfl,Wk.refl _⟩
 ·rw [zT (.inl rfl)]
  refine zA fun S q pc hS hq hC hE => ?_
  conv=>whnf
  rw [show IntKind.i64.wrap (1 - 1) = 0 from qas (by decide) (by decide)]
  conv=>whnf
  exact ⟨_,rfl,Wk.refl _⟩
 ·rw [zT (.inl rfl)]
  refine zA fun S q pc hS hq hC hE => ?_
  conv=>whnf
  rw [show IntKind.i64.wrap (1 - 1) = 0 from qas (by decide) (by decide)]
  conv=>whnf
  exact ⟨_,rfl,Wk.refl _⟩
 ·rw [zT (.inl rfl)]
  refine zA fun S q pc hS hq hC hE => ?_
  conv=>whnf
  rw [show IntKind.i64.wrap (1 - 1) = 0 from qas (by decide) (by decide)]
  conv=>whnf
  exact ⟨_,rfl,Wk.refl _⟩
 ·refine zA fun S q pc hS hq hC hE => ?_
  conv=>whnf
  rw [show IntKind.i64.wrap (2 - 1) = 1 from qas (by decide) (by decide)]
  conv=>whnf
  refine ⟨_,rfl,wkb ?_⟩
  rw [show (Int.ofNat k).tmod 2 = Int.ofNat (k % 2) from rfl]
  exact (qc7 (k % 2) 0).trans (decide_eq_decide.2 ⟨fun h => .inr (.inl ⟨rfl,h⟩),fun h => by rcases h with h | ⟨_,h⟩ | ⟨h,_⟩ <;> first | exact h | cases h⟩)
 ·refine zA fun S q pc hS hq hC hE => ?_
  conv=>whnf
  rw [show IntKind.i64.wrap (2 - 1) = 1 from qas (by decide) (by decide)]
  conv=>whnf
  refine ⟨_,rfl,wkb ?_⟩
  rw [show (Int.ofNat k).tmod 2 = Int.ofNat (k % 2) from rfl]
  exact (qc7 (k % 2) 0).trans (decide_eq_decide.2 ⟨fun h => .inr (.inl ⟨rfl,h⟩),fun h => by rcases h with h | ⟨_,h⟩ | ⟨h,_⟩ <;> first | exact h | cases h⟩)
 ·refine zA fun S q pc hS hq hC hE => ?_
  conv=>whnf
  rw [show IntKind.i64.wrap (2 - 1) = 1 from qas (by decide) (by decide)]
  conv=>whnf
  refine ⟨_,rfl,wkb ?_⟩
  rw [show (Int.ofNat k).tmod 2 = Int.ofNat (k % 2) from rfl]
  exact (qc7 (k % 2) 0).trans (decide_eq_decide.2 ⟨fun h => .inr (.inl ⟨rfl,h⟩),fun h => by rcases h with h | ⟨_,h⟩ | ⟨h,_⟩ <;> first | exact h | cases h⟩)
 ·refine zA fun S q pc hS hq hC hE => ?_
  conv=>whnf
  rw [show IntKind.i64.wrap (2 - 1) = 1 from qas (by decide) (by decide)]
  conv=>whnf
  refine ⟨_,rfl,wkb ?_⟩
  rw [show (Int.ofNat k).tmod 2 = Int.ofNat (k % 2) from rfl]
  exact (qc7 (k % 2) 0).trans (decide_eq_decide.2 ⟨fun h => .inr (.inl ⟨rfl,h⟩),fun h => by rcases h with h | ⟨_,h⟩ | ⟨h,_⟩ <;> first | exact h | cases h⟩)
 ·refine zA fun S q pc hS hq hC hE => ?_
  conv=>whnf
  rw [show IntKind.i64.wrap (3 - 1) = 2 from qas (by decide) (by decide)]
  conv=>whnf
  refine ⟨_,rfl,wkb ?_⟩
  rw [show (Int.ofNat k).tmod 2 = Int.ofNat (k % 2) from rfl]
  exact (qc7 (k % 2) 1).trans (decide_eq_decide.2 ⟨fun h => .inr (.inr ⟨rfl,h⟩),fun h => by rcases h with h | ⟨h,_⟩ | ⟨_,h⟩ <;> first | exact h | cases h⟩)
 ·refine zA fun S q pc hS hq hC hE => ?_
  conv=>whnf
  rw [show IntKind.i64.wrap (3 - 1) = 2 from qas (by decide) (by decide)]
  conv=>whnf
  refine ⟨_,rfl,wkb ?_⟩
  rw [show (Int.ofNat k).tmod 2 = Int.ofNat (k % 2) from rfl]
  exact (qc7 (k % 2) 1).trans (decide_eq_decide.2 ⟨fun h => .inr (.inr ⟨rfl,h⟩),fun h => by rcases h with h | ⟨h,_⟩ | ⟨_,h⟩ <;> first | exact h | cases h⟩)
 ·refine zA fun S q pc hS hq hC hE => ?_
  conv=>whnf
  rw [show IntKind.i64.wrap (3 - 1) = 2 from qas (by decide) (by decide)]
  conv=>whnf
  refine ⟨_,rfl,wkb ?_⟩
  rw [show (Int.ofNat k).tmod 2 = Int.ofNat (k % 2) from rfl]
  exact (qc7 (k % 2) 1).trans (decide_eq_decide.2 ⟨fun h => .inr (.inr ⟨rfl,h⟩),fun h => by rcases h with h | ⟨h,_⟩ | ⟨_,h⟩ <;> first | exact h | cases h⟩)
 ·refine zA fun S q pc hS hq hC hE => ?_
  conv=>whnf
  rw [show IntKind.i64.wrap (3 - 1) = 2 from qas (by decide) (by decide)]
  conv=>whnf
  refine ⟨_,rfl,wkb ?_⟩
  rw [show (Int.ofNat k).tmod 2 = Int.ofNat (k % 2) from rfl]
  exact (qc7 (k % 2) 1).trans (decide_eq_decide.2 ⟨fun h => .inr (.inr ⟨rfl,h⟩),fun h => by rcases h with h | ⟨h,_⟩ | ⟨_,h⟩ <;> first | exact h | cases h⟩)
def ordP (a b c d:Int):Int :=if ordI a c = 0 then ordI b d else ordI a c
theorem qgz {a b c d:Int}:ordP a b c d < 0 ↔ a < c ∨ a = c ∧ b < d :=by
 unfold ordP
 split
 ·rename_i h
  have :=qmm.1 h
  rw [qts];omega
 ·rename_i h
  have h1:¬ a = c :=fun k => h (qmm.2 k)
  rw [qts];omega
theorem qe8 (a b c d:Int):Pure prog 86 [fv a b,fv c d] (iv (ordP a b c d)) :=by
 refine zA fun S q pc hS hq hC hE => ?_
 conv=>whnf
 refine qab hC (qfm a c) ?_
 conv=>whnf
 refine qab hC (qfm b d) ?_
 conv=>whnf
 refine qab hC (qzl (ordI a c) (ordI b d)) ?_
 conv=>whnf
 refine zd hS ?_
 conv=>whnf
 exact ⟨_,rfl,Wk.refl _⟩
theorem qf1 (a b c d:Int):Pure prog 91 [fv a b,fv c d] (.bool (decide (ordP a b c d < 0))) :=by
 rw [show decide (ordP a b c d < 0) = decide (a < c ∨ a = c ∧ b < d) from decide_eq_decide.2 qgz]
 refine zA fun S q pc hS hq hC hE => ?_
 conv=>whnf
 by_cases h:a < c
 ·rw [zT h]
  conv=>whnf
  rw [zT (.inl h)]
  exact ⟨_,rfl,Wk.refl _⟩
 ·rw [zF h]
  conv=>whnf
  by_cases h2:a = c
  ·rw [show (a == c) = true from beq_iff_eq.2 h2]
   conv=>whnf
   exact ⟨_,rfl,wkb (decide_eq_decide.2 (by omega))⟩
  ·rw [show (a == c) = false from beq_eq_false_iff_ne.2 h2]
   conv=>whnf
   rw [zF (by omega)]
   exact ⟨_,rfl,Wk.refl _⟩
def qsp:List (Int × Int) → Prop
 | [] => True
 | [_] => True
 |(a,b) :: (c,d) :: r => ¬ ordP c d a b < 0 ∧ qsp ((c,d) :: r)
instance decSorted:∀ l,Decidable (qsp l)
 | [] => isTrue trivial
 | [_] => isTrue trivial
 |(_,_) :: (c,d) :: r => have :=decSorted ((c,d) :: r);inferInstanceAs (Decidable (_ ∧ _))
end
section
attribute [local irreducible] pEq
end
end
end Go.Abs.Seat

namespace Go.Abs.Seat
noncomputable section
open Go Go.Abs Go.Proofs.Tryz
set_option maxRecDepth 100000
set_option maxHeartbeats 40000000
attribute [local irreducible] IntKind.wrap pEq
def cutP (a b:Int) (l:List Int) (x:Int):Prop :=¬ x ∈ l ∧ a ≤ x ∧ x ≤ b
instance (a b l x):Decidable (cutP a b l x) :=by unfold cutP;infer_instance
theorem qx4 {l:List Int} {x:Int}:x ∈ l ↔ ∃ i,i < l.length ∧ gi l i = x :=by
 constructor
 ·intro h
  obtain ⟨i,hi,e⟩ :=List.mem_iff_getElem.1 h
  exact ⟨i,hi,by simp [gi,List.getD,hi,e]⟩
 ·rintro ⟨i,hi,e⟩
  exact List.mem_iff_getElem.2 ⟨i,hi,by rw [← e];simp [gi,List.getD,hi]⟩
theorem qqo {N:AV} {l:List Int} (h:IL N l) (hl:l.length < 4611686018427387904) (a b p s x:Int) :
  Pure prog 90 [rv a b p s N,iv x] (.bool (decide (cutP a b l x))) :=by
 have lv :=h.no
 rcases h with ⟨rfl,rfl⟩ | rfl
 ·rw [show decide (cutP a b [] x) = decide (a ≤ x ∧ x ≤ b) from decide_eq_decide.2 ⟨fun h => h.2,fun h => ⟨List.not_mem_nil,h⟩⟩]
  refine zA fun S q pc hS hq hC hE => ?_
  conv=>whnf
  refine qae hE hS ?_
  conv=>whnf
  refine qab hC (qbg x a b) ?_
  conv=>whnf
  exact ⟨_,rfl,Wk.refl _⟩
 ·have ll :=qd4 l
  refine zA fun S q pc hS hq hC hE => ?_
  conv=>whnf
  refine qbh hE hS (A :=Nat) [1,2] (fun i => [(5,nv i)]) (fun _ => []) (fun i => i ≤ l.length ∧ ∀ j,j < i → ¬ gi l j = x) (fun i => l.length - i) 0 rfl rfl zD ⟨Nat.zero_le _,fun _ h => absurd h (Nat.not_lt_zero _)⟩ ?_
  intro i ⟨hi,hT⟩
  conv=>whnf
  by_cases h:i < l.length
  ·rw [show decide (Int.ofNat i < ↑l.length) = true from qch h]
   conv=>whnf
   refine qaa (qaf (i :=i) (n :=l.length) h) ?_
   conv=>whnf
   refine qac (nthP (qa4 (l :=l) (i :=i) h)) ?_
   conv=>whnf
   by_cases h1:gi l i = x
   ·rw [show (gi l i == x) = true from beq_iff_eq.2 h1]
    conv=>whnf
    rw [zF fun k => k.1 (qx4.2 ⟨i,h,h1⟩)]
    exact ⟨_,rfl,Wk.refl _⟩
   ·rw [show (gi l i == x) = false from beq_eq_false_iff_ne.2 h1]
    conv=>whnf
    rw [show IntKind.i64.wrap (Int.ofNat i + 1) = Int.ofNat (i + 1) from qa2 (m :=i + 1) (by omega)]
    exact ⟨i + 1,⟨h,upto hT h1⟩,by omega,zD⟩
  ·rw [show decide (Int.ofNat i < ↑l.length) = false from qcl h]
   conv=>whnf
   refine qab hC (qbg x a b) ?_
   conv=>whnf
   rw [show decide (cutP a b l x) = decide (a ≤ x ∧ x ≤ b) from decide_eq_decide.2 ⟨fun h => h.2,fun h => ⟨fun k => by
    obtain ⟨j,hj,e⟩ :=qx4.1 k
    exact hT j (by omega) e,h⟩⟩]
   exact ⟨_,rfl,Wk.refl _⟩
def qt4 (p s:Int) (k:Nat):Prop :=(1 ≤ (k:Int) ∧ (k:Int) ≤ p) ∧ qav s k
instance (p s k):Decidable (qt4 p s k) :=by unfold qt4;infer_instance
theorem qt3 {N:AV} {l:List Int} (h:IL N l) (a b p s:Int) (hs:1 ≤ s ∧ s ≤ 3) (k:Nat):Pure prog 92 [rv a b p s N,nv k] (.bool (decide (qt4 p s k))) :=by
 have lv :=h.no
 rcases h.cs with rfl | rfl
 all_goals
  refine zA fun S q pc hS hq hC hE => ?_
  conv=>whnf
  refine qab hC (qbg (Int.ofNat k) 1 p) ?_
  conv=>whnf
  by_cases h1:1 ≤ (k:Int) ∧ (k:Int) ≤ p
  ·rw [show decide (1 ≤ Int.ofNat k ∧ Int.ofNat k ≤ p) = true from zT h1]
   conv=>whnf
   rw [show decide (qt4 p s k) = decide (qav s k) from decide_eq_decide.2 ⟨fun h => h.2,fun h => ⟨h1,h⟩⟩]
   rcases qxy hs with rfl | rfl | rfl
   ·conv=>whnf
    exact ⟨_,rfl,Wk.refl _⟩
   ·conv=>whnf
    refine qa7 hq _ (qu5 _ _ _) ?_
    conv=>whnf
    refine ⟨_,rfl,wkb ?_⟩
    rw [show (Int.ofNat k).tmod 2 = Int.ofNat (k % 2) from rfl,show (Int.ofNat (k % 2) == 0) = decide (k % 2 = 0) from qc7 (k % 2) 0]
    show (true == decide (k % 2 = 0)) = _
    rw [Bool.true_beq]
    exact decide_eq_decide.2 ⟨fun h => .inr (.inl ⟨rfl,h⟩),fun h => by rcases h with h | ⟨_,h⟩ | ⟨h,_⟩ <;> first | exact h | cases h⟩
   ·conv=>whnf
    refine qa7 hq _ (qu5 _ _ _) ?_
    conv=>whnf
    refine ⟨_,rfl,wkb ?_⟩
    rw [show (Int.ofNat k).tmod 2 = Int.ofNat (k % 2) from rfl,show (Int.ofNat (k % 2) == 0) = decide (k % 2 = 0) from qc7 (k % 2) 0]
    show (false == decide (k % 2 = 0)) = _
    rw [Bool.false_beq]
    by_cases h:k % 2 = 0
    ·rw [zT h,zF (fun h' => by rcases h' with h' | ⟨h',_⟩ | ⟨_,h'⟩ <;> first | cases h' | omega)];rfl
    ·rw [zF h,zT (show qav 3 k from .inr (.inr ⟨rfl,by omega⟩))];rfl
  ·rw [show decide (1 ≤ Int.ofNat k ∧ Int.ofNat k ≤ p) = false from zF h1]
   conv=>whnf
   rw [zF fun k => h1 k.1]
   exact ⟨_,rfl,Wk.refl _⟩
end
end Go.Abs.Seat
namespace Go.Abs.Seat
def ltQ (p q:Nat × Nat):Prop :=p.1 < q.1 ∨ p.1 = q.1 ∧ p.2 < q.2
instance (p q):Decidable (ltQ p q) :=by unfold ltQ;infer_instance
theorem qle (p):¬ ltQ p p :=by unfold ltQ;omega
theorem qmq {p q r} (h:ltQ p q) (k:ltQ q r):ltQ p r :=by unfold ltQ at *;omega
theorem qzs (p q:Nat × Nat):ltQ p q ∨ p = q ∨ ltQ q p :=by
 obtain ⟨a,b⟩ :=p
 obtain ⟨c,d⟩ :=q
 unfold ltQ
 simp only [Prod.mk.injEq]
 omega
def ltL:List (Nat × Nat) → List (Nat × Nat) → Prop
 |p :: r,q :: s => ltQ p q ∨ p = q ∧ ltL r s
 | _,_ => False
theorem qe6:∀ {a b c:List (Nat × Nat)},ltL a b → ltL b c → ltL a c
 |p :: r,q :: s,o :: t,h,k => by
  rcases h with h | ⟨rfl,h⟩
  ·rcases k with k | ⟨rfl,_⟩
   ·exact .inl (qmq h k)
   ·exact .inl h
  ·rcases k with k | ⟨rfl,k⟩
   ·exact .inl k
   ·exact .inr ⟨rfl,qe6 h k⟩
 | [],_,_,h,_ => by simp [ltL] at h
 | _ :: _,[],_,h,_ => by simp [ltL] at h
 | _ :: _,_ :: _,[],_,k => by simp [ltL] at k
theorem qg3:∀ {a b:List (Nat × Nat)},a.length = b.length → ltL a b ∨ a = b ∨ ltL b a
 | [],[],_ => .inr (.inl rfl)
 |p :: r,q :: s,h => by
  rcases qzs p q with k | rfl | k
  ·exact .inl (.inl k)
  ·rcases qg3 (a :=r) (b :=s) (by simpa using h) with k | rfl | k
   ·exact .inl (.inr ⟨rfl,k⟩)
   ·exact .inr (.inl rfl)
   ·exact .inr (.inr (.inr ⟨rfl,k⟩))
  ·exact .inr (.inr (.inl k))
 | [],_ :: _,h => by cases h
 | _ :: _,[],h => by cases h
theorem qis:∀ a,¬ ltL a a
 | [],h => h
 |p :: r,h => by
  rcases h with h | ⟨_,h⟩
  ·exact qle p h
  ·exact qis r h
def Vt (tp:Nat → Prop):Nat → Nat → Nat → Nat × Nat → List (Nat × Nat) → Prop
 | 0,X,Y,_,[] => X = 1 ∧ Y = 1
 | 0,_,_,_,_ :: _ => False
 | _ + 1,_,_,_,[] => False
 |k + 1,X,Y,f,p :: t => (tp p.1 ∧ tp p.2 ∧ ¬ ltQ p f) ∧ (X % p.1 = 0 ∧ Y % p.2 = 0) ∧ Vt tp k (X / p.1) (Y / p.2) p t
theorem qhj {tp:Nat → Prop}:∀ {k X Y:Nat} {f:Nat × Nat} {t:List (Nat × Nat)},Vt tp k X Y f t → t.length = k
 | 0,_,_,_,[],_ => rfl
 | 0,_,_,_,_ :: _,h => by simp [Vt] at h
 | _ + 1,_,_,_,[],h => by simp [Vt] at h
 |k + 1,_,_,_,p :: t,h => by
  rw [Vt] at h
  rw [List.length_cons,qhj h.2.2]
def Vmin (tp:Nat → Prop) (k X Y:Nat) (f:Nat × Nat) (t:List (Nat × Nat)):Prop :=Vt tp k X Y f t ∧ ∀ u,Vt tp k X Y f u → ¬ ltL u t
theorem qvn {tp:Nat → Prop} {k X Y:Nat} {f:Nat × Nat} {t u:List (Nat × Nat)} (h:Vmin tp k X Y f t) (g:Vmin tp k X Y f u):t = u :=by
 rcases qg3 (a :=t) (b :=u) ((qhj h.1).trans (qhj g.1).symm) with e | e | e
 ·exact absurd e (g.2 t h.1)
 ·exact e
 ·exact absurd e (h.2 u g.1)
theorem qjy {q:Nat × Nat → Prop} (hq:∀ p,q p → p.2 ≤ 60):∀ (n:Nat) (p:Nat × Nat),q p → p.1 * 61 + p.2 ≤ n → ∃ m,q m ∧ ∀ u,q u → ¬ ltQ u m :=by
 intro n
 induction n using Nat.strongRecOn with
 |ind n ih =>
  intro p hp hn
  by_cases h:∃ u,q u ∧ ltQ u p
  ·obtain ⟨u,h1,h2⟩ :=h
   have h3 :=hq u h1
   have:u.1 * 61 + u.2 < p.1 * 61 + p.2 :=by unfold ltQ at h2;omega
   exact ih (u.1 * 61 + u.2) (by omega) u h1 (Nat.le_refl _)
  ·exact ⟨p,hp,fun u h1 h2 => h ⟨u,h1,h2⟩⟩
theorem ql2 {tp:Nat → Prop} (ht:∀ n,tp n → n ≤ 60):∀ {k X Y:Nat} {f:Nat × Nat} {t:List (Nat × Nat)},Vt tp k X Y f t → ∃ m,Vmin tp k X Y f m
 | 0,_,_,_,[],h => ⟨[],h,fun u _ k => by cases u <;> simp [ltL] at k⟩
 | 0,_,_,_,_ :: _,h => by simp [Vt] at h
 | _ + 1,_,_,_,[],h => by simp [Vt] at h
 |k + 1,X,Y,f,p :: t,h => by
  obtain ⟨m,⟨s,hm⟩,hmin⟩ :=qjy (q :=fun p => ∃ s,Vt tp (k + 1) X Y f (p :: s)) (fun p ⟨s,h⟩ => by rw [Vt] at h;exact ht _ h.1.2.1) _ p ⟨t,h⟩ (Nat.le_refl _)
  have hm2 :=hm
  rw [Vt] at hm2
  obtain ⟨r,hr1,hr2⟩ :=ql2 ht hm2.2.2
  refine ⟨m :: r,by rw [Vt];exact ⟨hm2.1,hm2.2.1,hr1⟩,fun u hu hlt => ?_⟩
  cases u with
  |nil => simp [Vt] at hu
  |cons q u =>
   rcases hlt with h1 | ⟨rfl,h1⟩
   ·exact hmin q ⟨u,hu⟩ h1
   ·rw [Vt] at hu
    exact hr2 u hu.2.2 h1
noncomputable def fstT (tp:Nat → Prop) (k X Y:Nat) (f:Nat × Nat):Option (List (Nat × Nat)) :=
 @dite _ (∃ t,Vmin tp k X Y f t) (Classical.propDecidable _) (fun h => some h.choose) (fun _ => none)
theorem qe9 {tp:Nat → Prop} {k X Y:Nat} {f:Nat × Nat} {t:List (Nat × Nat)} (h:Vmin tp k X Y f t):fstT tp k X Y f = some t :=by
 unfold fstT
 rw [dif_pos ⟨t,h⟩,qvn (Exists.choose_spec (⟨t,h⟩ : ∃ t,Vmin tp k X Y f t)) h]
theorem qm3 {tp:Nat → Prop} {k X Y:Nat} {f:Nat × Nat} (h:∀ t,¬ Vt tp k X Y f t):fstT tp k X Y f = none :=by
 unfold fstT
 rw [dif_neg fun ⟨t,ht⟩ => h t ht.1]
theorem qde {tp:Nat → Prop} {k X Y:Nat} {f:Nat × Nat} {t:List (Nat × Nat)} (h:fstT tp k X Y f = some t):Vmin tp k X Y f t :=by
 unfold fstT at h
 by_cases e:∃ t,Vmin tp k X Y f t
 ·rw [dif_pos e] at h
  cases h
  exact e.choose_spec
 ·rw [dif_neg e] at h;cases h
theorem qm2 {tp:Nat → Prop} (ht:∀ n,tp n → n ≤ 60) {k X Y:Nat} {f:Nat × Nat} (h:fstT tp k X Y f = none) (t:List (Nat × Nat)):¬ Vt tp k X Y f t :=fun hv => by
 obtain ⟨m,hm⟩ :=ql2 ht hv
 rw [qe9 hm] at h
 cases h
theorem qm1 {tp:Nat → Prop} {k X Y:Nat} {f p:Nat × Nat} {t:List (Nat × Nat)} (h1:(tp p.1 ∧ tp p.2 ∧ ¬ ltQ p f) ∧ (X % p.1 = 0 ∧ Y % p.2 = 0)) (h2:fstT tp k (X / p.1) (Y / p.2) p = some t)
  (hno:∀ q u,ltQ q p → ¬ Vt tp (k + 1) X Y f (q :: u)):fstT tp (k + 1) X Y f = some (p :: t) :=by
 have hm :=qde h2
 apply qe9
 refine ⟨by rw [Vt];exact ⟨h1.1,h1.2,hm.1⟩,fun u hu hlt => ?_⟩
 cases u with
 |nil => simp [Vt] at hu
 |cons q u =>
  rcases hlt with h | ⟨rfl,h⟩
  ·exact hno q u h hu
  ·rw [Vt] at hu
   exact hm.2 u hu.2.2 h
theorem qz4 {tp:Nat → Prop} (ht:∀ n,tp n → n ≤ 60) {k X Y:Nat} {f p:Nat × Nat} (h2:fstT tp k (X / p.1) (Y / p.2) p = none) (u:List (Nat × Nat)):¬ Vt tp (k + 1) X Y f (p :: u) :=fun h => by
 rw [Vt] at h
 exact qm2 ht h2 u h.2.2
def qak (p:Nat → Prop):Nat → Nat → Prop
 | 0,x => x = 1
 |k + 1,x => ∃ y n,qak p k y ∧ p n ∧ x = y * n
noncomputable def lstP (p:Nat → Prop):Nat → List Nat
 | 0 => []
 |n + 1 => @ite _ (p n) (Classical.propDecidable _) (lstP p n ++ [n]) (lstP p n)
theorem qbc (p:Nat → Prop) (x:Nat):∀ n,x ∈ lstP p n ↔ x < n ∧ p x
 | 0 => ⟨fun h => (nomatch h),fun h => absurd h.1 (Nat.not_lt_zero _)⟩
 |n + 1 => by
  have ih :=qbc p x n
  rw [lstP]
  split
  ·rename_i hp
   rw [List.mem_append,ih,List.mem_singleton]
   constructor
   ·rintro (⟨h1,h2⟩ | rfl)
    ·exact ⟨by omega,h2⟩
    ·exact ⟨by omega,hp⟩
   ·rintro ⟨h1,h2⟩
    by_cases e:x = n
    ·exact .inr e
    ·exact .inl ⟨by omega,h2⟩
  ·rename_i hp
   rw [ih]
   constructor
   ·rintro ⟨h1,h2⟩;exact ⟨by omega,h2⟩
   ·rintro ⟨h1,h2⟩
    exact ⟨by have:x ≠ n :=fun e => hp (e ▸ h2);omega,h2⟩
theorem qc1 (p:Nat → Prop):∀ n,(lstP p n).length ≤ n
 | 0 => Nat.le_refl 0
 |n + 1 => by
  have :=qc1 p n
  rw [lstP]
  split
  ·rw [List.length_append,List.length_singleton];omega
  ·omega
theorem qlf:∀ n,lstP (fun x => x = 1) (n + 2) = [1]
 | 0 => by rw [lstP,lstP,lstP,if_pos rfl,if_neg (by decide)];rfl
 |n + 1 => by rw [lstP,qlf n,if_neg (by omega)]
theorem qig (p:Nat → Prop):qak p 0 = fun x => x = 1 :=by funext x;rw [qak]
theorem qbq {p:Nat → Prop} (hp:∀ n,p n → 1 ≤ n ∧ n ≤ 60):∀ (k x:Nat),qak p k x → 1 ≤ x ∧ x ≤ 60 ^ k
 | 0,x,h => by rw [qak] at h;subst h;exact ⟨Nat.le_refl _,Nat.le_refl _⟩
 |k + 1,x,h => by
  rw [qak] at h
  obtain ⟨y,n,h1,h2,rfl⟩ :=h
  have h3 :=qbq hp k y h1
  have h4 :=hp n h2
  refine ⟨Nat.mul_pos h3.1 h4.1,?_⟩
  rw [Nat.pow_succ]
  exact Nat.mul_le_mul h3.2 h4.2
def gn (l:List Nat) (i:Nat):Nat :=l.getD i 0
theorem qnm (l:List Nat) {i:Nat} (h:i < l.length):l.take (i + 1) = l.take i ++ [gn l i] :=by
 rw [List.take_succ_eq_append_getElem h]
 simp [gn,List.getD,h]
theorem qbd (l:List Nat) {i:Nat} (h:i < l.length):gn l i ∈ l :=by
 have e:gn l i = l[i] :=by simp [gn,List.getD,h]
 rw [e];exact List.getElem_mem h
theorem qdu {l:List Nat} {x:Nat} (h:x ∈ l):∃ i,i < l.length ∧ gn l i = x :=by
 obtain ⟨i,hi,e⟩ :=List.getElem_of_mem h
 exact ⟨i,hi,by simp [gn,List.getD,hi,e]⟩
theorem qum (l m:List Nat) {i:Nat} (h:i < l.length):gn (l ++ m) i = gn l i :=by
 simp [gn,List.getD,List.getElem?_append_left h]
theorem qz1 (l:List Nat) (x:Nat):gn (l ++ [x]) l.length = x :=by
 simp [gn,List.getD]
def Srt (l:List Nat):Prop :=∀ i j,i < j → j < l.length → gn l i < gn l j
theorem qcf (p:Nat → Prop):∀ n,Srt (lstP p n)
 | 0 => fun i j _ h => absurd h (Nat.not_lt_zero _)
 |n + 1 => by
  have ih :=qcf p n
  rw [lstP]
  split
  ·intro i j hij hj
   rw [List.length_append,List.length_singleton] at hj
   rw [qum _ _ (by omega)]
   by_cases e:j = (lstP p n).length
   ·subst e
    rw [qz1]
    have :=qbd (lstP p n) (i :=i) hij
    exact ((qbc p _ n).1 this).1
   ·rw [qum _ _ (by omega)]
    exact ih i j hij (by omega)
  ·exact ih
theorem Srt.le {l:List Nat} (h:Srt l) {i j:Nat} (hij:i ≤ j) (hj:j < l.length):gn l i ≤ gn l j :=by
 by_cases e:i = j
 ·subst e;exact Nat.le_refl _
 ·exact Nat.le_of_lt (h i j (by omega) hj)
def cntB (n w:Nat):List Nat → Nat
 | [] => 0
 |y :: r => if y * n < w then cntB n w r + 1 else 0
theorem qi4 (n w:Nat):∀ l,cntB n w l ≤ l.length
 | [] => Nat.le_refl 0
 |y :: r => by
  have :=qi4 n w r
  rw [cntB,List.length_cons]
  split <;> omega
theorem qj7 (n w:Nat):∀ (l:List Nat) (i:Nat),i < cntB n w l → gn l i * n < w
 | [],_,h => absurd h (Nat.not_lt_zero _)
 |y :: r,i,h => by
  rw [cntB] at h
  split at h
  ·rename_i k
   cases i with
   |zero => exact k
   |succ i => exact qj7 n w r i (by omega)
  ·omega
theorem qye (n w:Nat):∀ (l:List Nat),cntB n w l < l.length → ¬ gn l (cntB n w l) * n < w
 | [],h => absurd h (Nat.not_lt_zero _)
 |y :: r,h => by
  rw [cntB] at h ⊢
  split
  ·rename_i k
   rw [if_pos k,List.length_cons] at h
   exact qye n w r (by omega)
  ·rename_i k
   exact k
theorem qm7 {n w:Nat} {l:List Nat} (hs:Srt l) {i:Nat} (h1:cntB n w l ≤ i) (h2:i < l.length):¬ gn l i * n < w :=by
 have h3 :=qye n w l (by omega)
 have h4 :=Nat.mul_le_mul_right n (hs.le h1 h2)
 omega
def gp (a b:Nat):Nat :=(a - b) + (b - a)
theorem q1f (g a b:Nat):gp (g * a) (g * b) = g * gp a b :=by
 unfold gp
 rw [Nat.mul_add,Nat.mul_sub,Nat.mul_sub]
def dQ (N D:Nat) (q:Nat × Nat):Nat × Nat :=(gp (q.1 * D) (N * q.2),q.2)
def fle (e e':Nat × Nat):Prop :=e.1 * e'.2 ≤ e'.1 * e.2
instance (e e'):Decidable (fle e e') :=by unfold fle;infer_instance
theorem qiz (e:Nat × Nat):fle e e :=Nat.le_refl _
theorem qop (e f:Nat × Nat):fle e f ∨ fle f e :=Nat.le_total _ _
theorem qb5 {a b c:Nat × Nat} (hb:1 ≤ b.2) (h:fle a b) (k:fle b c):fle a c :=by
 unfold fle at *
 have h1 :=Nat.mul_le_mul_right c.2 h
 have h2 :=Nat.mul_le_mul_right a.2 k
 have e1:a.1 * b.2 * c.2 = b.2 * (a.1 * c.2) :=by ac_rfl
 have e2:b.1 * a.2 * c.2 = b.1 * c.2 * a.2 :=by ac_rfl
 have e3:c.1 * b.2 * a.2 = b.2 * (c.1 * a.2) :=by ac_rfl
 rw [e1,e2] at h1
 rw [e3] at h2
 exact Nat.le_of_mul_le_mul_left (Nat.le_trans h1 h2) hb
def redF (x y:Nat):Nat × Nat :=(x / Nat.gcd x y,y / Nat.gcd x y)
theorem qf7 {x y:Nat} (hy:1 ≤ y):1 ≤ Nat.gcd x y ∧ x = Nat.gcd x y * (redF x y).1 ∧ y = Nat.gcd x y * (redF x y).2 :=by
 refine ⟨Nat.gcd_pos_of_pos_right _ hy,?_,?_⟩
 ·exact (Nat.mul_div_cancel' (Nat.gcd_dvd_left x y)).symm
 ·exact (Nat.mul_div_cancel' (Nat.gcd_dvd_right x y)).symm
theorem qd2 {x y:Nat} (hy:1 ≤ y):1 ≤ (redF x y).2 :=by
 obtain ⟨_,_,h⟩ :=qf7 (x :=x) hy
 apply Nat.pos_of_ne_zero
 intro e
 rw [e,Nat.mul_zero] at h
 omega
theorem qpn {N D x y:Nat} (hy:1 ≤ y):fle (dQ N D (redF x y)) (dQ N D (x,y)) ∧ fle (dQ N D (x,y)) (dQ N D (redF x y)) :=by
 obtain ⟨_,h1,h2⟩ :=qf7 (x :=x) hy
 have e:gp (x * D) (N * y) = Nat.gcd x y * gp ((redF x y).1 * D) (N * (redF x y).2) :=by
  rw [← q1f]
  congr 1
  ·rw [← Nat.mul_assoc,← h1]
  ·rw [Nat.mul_left_comm,← h2]
 have e2:gp ((redF x y).1 * D) (N * (redF x y).2) * y = gp (x * D) (N * y) * (redF x y).2 :=by
  rw [e,Nat.mul_comm (Nat.gcd x y),Nat.mul_assoc,← h2]
 exact ⟨Nat.le_of_eq e2,Nat.le_of_eq e2.symm⟩
abbrev NS :=List (Nat × Nat) × (Nat × Nat)
def cand (N D:Nat) (s:NS) (q:Nat × Nat):NS :=
 if s.1 = [] ∨ (dQ N D q).1 * s.2.2 < s.2.1 * (dQ N D q).2 then ([q],dQ N D q)
 else if (dQ N D q).1 * s.2.2 = s.2.1 * (dQ N D q).2 ∧ q ∉ s.1 then (s.1 ++ [q],s.2) else s
def qfo (N D:Nat) (l:List (Nat × Nat)):NS :=l.foldl (cand N D) ([],(0,0))
structure CInv (N D:Nat) (L:List (Nat × Nat)) (s:NS):Prop where
 lp:∀ q,q ∈ L → 1 ≤ q.2
 nil:s.1 = [] ↔ L = []
 mem:∀ q,q ∈ s.1 → q ∈ L ∧ fle (dQ N D q) s.2 ∧ fle s.2 (dQ N D q)
 all:∀ q,q ∈ L → fle s.2 (dQ N D q) ∧ (fle (dQ N D q) s.2 → q ∈ s.1)
 pos:s.1 ≠ [] → 1 ≤ s.2.2
theorem CInv.step {N D:Nat} {L:List (Nat × Nat)} {s:NS} (h:CInv N D L s) {q:Nat × Nat} (hq:1 ≤ q.2):CInv N D (L ++ [q]) (cand N D s q) :=by
 have hlp:∀ p,p ∈ L ++ [q] → 1 ≤ p.2 :=fun p hp => by
  rw [List.mem_append,List.mem_singleton] at hp
  rcases hp with hp | rfl
  ·exact h.lp p hp
  ·exact hq
 unfold cand
 split
 ·rename_i hc
  refine ⟨hlp,⟨fun e => (by cases e),fun e => (by simp at e)⟩,fun p hp => ?_,fun p hp => ?_,fun _ => hq⟩
  ·rw [List.mem_singleton] at hp
   subst hp
   exact ⟨by simp,qiz _,qiz _⟩
  ·rw [List.mem_append,List.mem_singleton] at hp
   rcases hp with hp | rfl
   ·have hs:s.1 ≠ [] :=fun e => by rw [h.nil.1 e] at hp;cases hp
    have hlt :=hc.resolve_left hs
    have h1 :=h.all p hp
    have h2:fle (dQ N D q) s.2 :=Nat.le_of_lt hlt
    exact ⟨qb5 (h.pos hs) h2 h1.1,fun k => absurd (qb5 (b :=dQ N D p) (h.lp p hp) h1.1 k) (Nat.not_le.2 hlt)⟩
   ·exact ⟨qiz _,fun _ => (by simp)⟩
 ·rename_i hc
  have hs:s.1 ≠ [] :=fun e => hc (.inl e)
  have hle:fle s.2 (dQ N D q) :=Nat.not_lt.1 fun e => hc (.inr e)
  have hL:L ≠ [] :=fun e => hs (h.nil.2 e)
  split
  ·rename_i he
   have he1:fle (dQ N D q) s.2 :=Nat.le_of_eq he.1
   refine ⟨hlp,⟨fun e => (by simp at e),fun e => (by simp at e)⟩,fun p hp => ?_,fun p hp => ?_,fun _ => h.pos hs⟩
   ·rw [List.mem_append,List.mem_singleton] at hp
    rcases hp with hp | rfl
    ·exact ⟨List.mem_append_left _ (h.mem p hp).1,(h.mem p hp).2⟩
    ·exact ⟨by simp,he1,hle⟩
   ·rw [List.mem_append,List.mem_singleton] at hp
    rcases hp with hp | rfl
    ·exact ⟨(h.all p hp).1,fun k => List.mem_append_left _ ((h.all p hp).2 k)⟩
    ·exact ⟨hle,fun _ => (by simp)⟩
  ·rename_i he
   refine ⟨hlp,⟨fun e => absurd e hs,fun e => (by simp at e)⟩,fun p hp => ⟨List.mem_append_left _ (h.mem p hp).1,(h.mem p hp).2⟩,fun p hp => ?_,h.pos⟩
   rw [List.mem_append,List.mem_singleton] at hp
   rcases hp with hp | rfl
   ·exact h.all p hp
   ·refine ⟨hle,fun k => ?_⟩
    apply Classical.byContradiction
    intro hn
    exact he ⟨Nat.le_antisymm k hle,hn⟩
theorem qvd (N D:Nat) (L M:List (Nat × Nat)):qfo N D (L ++ M) = M.foldl (cand N D) (qfo N D L) :=by
 unfold qfo;rw [List.foldl_append]
theorem qvc {N D:Nat} {L:List (Nat × Nat)}:(∀ q,q ∈ L → 1 ≤ q.2) → CInv N D L (qfo N D L) :=by
 suffices ∀ (M L:List (Nat × Nat)) (s:NS),CInv N D L s → (∀ q,q ∈ M → 1 ≤ q.2) → CInv N D (L ++ M) (M.foldl (cand N D) s) by
  intro h
  exact this L [] ([],(0,0)) ⟨fun _ h => (by cases h),Iff.rfl.trans ⟨fun _ => rfl,fun _ => rfl⟩,fun _ h => (by cases h),fun _ h => (by cases h),fun h => absurd rfl h⟩ h
 intro M
 induction M with
 |nil => intro L s h _;rw [List.append_nil];exact h
 |cons q M ih =>
  intro L s h hM
  have :=ih (L ++ [q]) (cand N D s q) (h.step (hM q (by simp))) fun p hp => hM p (by simp [hp])
  rwa [List.append_assoc] at this
def qbv (all:List Nat) (N D x:Nat):List (Nat × Nat) :=
 (if 1 ≤ cntB N (x * D) all then [redF x (gn all (cntB N (x * D) all - 1))] else []) ++ (if cntB N (x * D) all < all.length then [redF x (gn all (cntB N (x * D) all))] else [])
def qdt (all:List Nat) (N D:Nat):NS :=qfo N D (all.flatMap (qbv all N D))
theorem qwv {a b:Nat} (h:a ≤ b):gp a b = b - a :=by unfold gp;omega
theorem qww {a b:Nat} (h:a ≤ b):gp b a = b - a :=by unfold gp;omega
theorem q1n {N D x y z:Nat} (hx:1 ≤ x * D) (h1:z * N ≤ x * D) (h2:y < z):¬ fle (dQ N D (x,y)) (dQ N D (x,z)) :=by
 unfold fle dQ
 simp only
 rw [Nat.mul_comm z N] at h1
 have h3:N * y ≤ N * z :=Nat.mul_le_mul_left _ (by omega)
 rw [qww h1,qww (Nat.le_trans h3 h1),Nat.sub_mul,Nat.sub_mul]
 have e:N * y * z = N * z * y :=by ac_rfl
 rw [e]
 have h4:x * D * y < x * D * z :=(Nat.mul_lt_mul_left (by omega)).2 h2
 have h5:N * z * y ≤ x * D * y :=Nat.mul_le_mul_right _ h1
 omega
theorem q1o {N D x y z:Nat} (hx:1 ≤ x * D) (h1:x * D ≤ y * N) (h2:y < z):¬ fle (dQ N D (x,z)) (dQ N D (x,y)) :=by
 unfold fle dQ
 simp only
 rw [Nat.mul_comm y N] at h1
 have h3:N * y ≤ N * z :=Nat.mul_le_mul_left _ (by omega)
 rw [qwv h1,qwv (Nat.le_trans h1 h3),Nat.sub_mul,Nat.sub_mul]
 have e:N * y * z = N * z * y :=by ac_rfl
 rw [e]
 have h4:x * D * y < x * D * z :=(Nat.mul_lt_mul_left (by omega)).2 h2
 have h5:x * D * z ≤ N * y * z :=Nat.mul_le_mul_right _ h1
 rw [e] at h5
 omega
theorem qej {all:List Nat} (hs:Srt all) (hp:∀ x,x ∈ all → 1 ≤ x) {N D x:Nat} (hD:1 ≤ D) (hx:x ∈ all) :
  (∀ q,q ∈ qbv all N D x → ∃ y,y ∈ all ∧ q = redF x y) ∧
  ∀ y,y ∈ all → redF x y ∈ qbv all N D x ∨ ∃ z,z ∈ all ∧ redF x z ∈ qbv all N D x ∧ ¬ fle (dQ N D (x,y)) (dQ N D (x,z)) :=by
 have hc :=qi4 N (x * D) all
 have hlt :=qj7 N (x * D) all
 have hge :=fun i => qm7 (n :=N) (w :=x * D) hs (i :=i)
 have hxD:1 ≤ x * D :=Nat.mul_pos (hp x hx) hD
 unfold qbv
 generalize cntB N (x * D) all = c at *
 refine ⟨fun q hq => ?_,fun y hy => ?_⟩
 ·rw [List.mem_append] at hq
  rcases hq with hq | hq
  ·split at hq
   ·rw [List.mem_singleton] at hq
    exact ⟨_,qbd _ (by omega),hq⟩
   ·cases hq
  ·split at hq
   ·rw [List.mem_singleton] at hq
    exact ⟨_,qbd _ (by omega),hq⟩
   ·cases hq
 ·obtain ⟨j,hj,rfl⟩ :=qdu hy
  by_cases h:j < c
  ·rw [if_pos (by omega)]
   by_cases e:j = c - 1
   ·left;rw [← e];simp
   ·right
    refine ⟨gn all (c - 1),qbd _ (by omega),by simp,q1n hxD ?_ (hs _ _ (by omega) (by omega))⟩
    have :=hlt (c - 1) (by omega)
    omega
  ·rw [if_pos (show c < all.length by omega)]
   by_cases e:j = c
   ·left;rw [← e];simp
   ·right
    refine ⟨gn all c,qbd _ (by omega),by simp,q1o hxD ?_ (hs _ _ (by omega) (by omega))⟩
    have :=hge c (Nat.le_refl _) (by omega)
    omega
structure NearOk (all:List Nat) (N D:Nat) (s:NS):Prop where
 nil:s.1 = [] ↔ all = []
 pos:s.1 ≠ [] → 1 ≤ s.2.2
 mem:∀ q,q ∈ s.1 → 1 ≤ q.2 ∧ ∃ x y,x ∈ all ∧ y ∈ all ∧ q = redF x y
 eq:∀ q,q ∈ s.1 → fle (dQ N D q) s.2 ∧ fle s.2 (dQ N D q)
 least:∀ x y,x ∈ all → y ∈ all → fle s.2 (dQ N D (x,y))
 all:∀ x y,x ∈ all → y ∈ all → fle (dQ N D (x,y)) s.2 → redF x y ∈ s.1
theorem qga {all:List Nat} (hs:Srt all) (hp:∀ x,x ∈ all → 1 ≤ x) {N D:Nat} (hD:1 ≤ D):NearOk all N D (qdt all N D) :=by
 have hL:∀ q,q ∈ all.flatMap (qbv all N D) → ∃ x y,x ∈ all ∧ y ∈ all ∧ q = redF x y :=fun q hq => by
  obtain ⟨x,hx,hq⟩ :=List.mem_flatMap.1 hq
  obtain ⟨y,hy,e⟩ :=(qej hs hp hD hx).1 q hq
  exact ⟨x,y,hx,hy,e⟩
 have hinv :=qvc (N :=N) (D :=D) (L :=all.flatMap (qbv all N D)) fun q hq => by
  obtain ⟨x,y,hx,hy,rfl⟩ :=hL q hq
  exact qd2 (hp y hy)
 have hcan:∀ x y,x ∈ all → y ∈ all → redF x y ∈ all.flatMap (qbv all N D) ∨ ∃ z,z ∈ all ∧ redF x z ∈ all.flatMap (qbv all N D) ∧ ¬ fle (dQ N D (x,y)) (dQ N D (x,z)) :=fun x y hx hy => by
  rcases (qej hs hp hD hx).2 y hy with h | ⟨z,hz,h,k⟩
  ·exact .inl (List.mem_flatMap.2 ⟨x,hx,h⟩)
  ·exact .inr ⟨z,hz,List.mem_flatMap.2 ⟨x,hx,h⟩,k⟩
 unfold qdt
 generalize all.flatMap (qbv all N D) = L at *
 have hle:∀ x y,x ∈ all → y ∈ all → redF x y ∈ L → fle (qfo N D L).2 (dQ N D (x,y)) ∧ (fle (dQ N D (x,y)) (qfo N D L).2 → redF x y ∈ (qfo N D L).1) :=fun x y hx hy h => by
  have h1 :=hinv.all _ h
  have h2 :=qpn (N :=N) (D :=D) (x :=x) (hp y hy)
  exact ⟨qb5 (b :=dQ N D (redF x y)) (qd2 (hp y hy)) h1.1 h2.1,fun k => h1.2 (qb5 (b :=dQ N D (x,y)) (hp y hy) h2.1 k)⟩
 refine ⟨?_,hinv.pos,fun q hq => ⟨hinv.lp q (hinv.mem q hq).1,hL q (hinv.mem q hq).1⟩,fun q hq => (hinv.mem q hq).2,fun x y hx hy => ?_,fun x y hx hy k => ?_⟩
 ·rw [hinv.nil]
  constructor
  ·intro e
   cases all with
   |nil => rfl
   |cons x r =>
    rcases hcan x x (by simp) (by simp) with h | ⟨z,_,h,_⟩
    ·rw [e] at h;cases h
    ·rw [e] at h;cases h
  ·intro e
   cases L with
   |nil => rfl
   |cons q r =>
    obtain ⟨x,_,hx,_⟩ :=hL q (by simp)
    rw [e] at hx;cases hx
 ·rcases hcan x y hx hy with h | ⟨z,hz,h,k⟩
  ·exact (hle x y hx hy h).1
  ·exact qb5 (b :=dQ N D (x,z)) (hp z hz) (hle x z hx hz h).1 ((qop _ _).resolve_left k)
 ·rcases hcan x y hx hy with h | ⟨z,hz,h,k2⟩
  ·exact (hle x y hx hy h).2 k
  ·have h1 :=(hle x z hx hz h).1
   have hpos:1 ≤ (qfo N D L).2.2 :=hinv.pos fun e => by rw [hinv.nil.1 e] at h;cases h
   exact absurd (qb5 hpos k h1) k2
end Go.Abs.Seat
