/-
  The law ShopBills.
-/
import Derived.Test.YtlmadgdonalncaaGreatDoorB9
import Derived.Test.YtlmadgdonalncaaGreatDoorU21
import Derived.Test.YtlmadgdonalncaaGreatDoorU18
namespace Go.Abs.Seat
noncomputable section
open Go Go.Abs Go.Proofs.Tryz
set_option maxRecDepth 100000
set_option maxHeartbeats 40000000
attribute [local irreducible] IntKind.wrap pEq


theorem qv4 {a b:List Nat} {i:Nat} (h1:i < a.length) (h2:i < b.length):bfr (a.drop i) (b.drop i) = if gn a i = gn b i then bfr (a.drop (i + 1)) (b.drop (i + 1)) else decide (gn a i < gn b i) :=by
 rw [qpu a h1,qpu b h2,bfr]
theorem ql1 (a b:List Nat) (hl:b.length = a.length) (h8:a.length ≤ 10):Pure prog 32 [nl (zl a),nl (zl b)] (.bool (bfr a b)) :=by
 have la :=qat (zl a)
 have lb :=qat (zl b)
 have za :=qem a
 have zb :=qem b
 refine qan hE rfl (by repeat' first|exact trivial|assumption|exact qaf _|exact fun _ h => nomatch h|apply And.intro) (by repeat' first|exact trivial|assumption|exact qaf _|exact fun _ h => nomatch h|apply And.intro) fun S q pc hS hq hC hE => ?_
 conv => whnf
 refine qfv hE hS (A :=Nat) [0,1] (fun i => [(5,nv i)]) (fun _ => []) (fun i => i ≤ a.length ∧ bfr (a.drop i) (b.drop i) = bfr a b) (fun i => a.length - i) 0 rfl rfl (by refine ⟨rfl,rfl,rfl,rfl,?_,?_⟩ <;> repeat' (first|exact trivial|exact rfl|exact Nat.zero_le _|exact qag la|exact qag lb|exact kle rfl|exact qag (by assumption)|exact qag (qaf _)|exact qag (qat _)|exact mxI rfl|apply And.intro)) ⟨Nat.zero_le _,rfl⟩ ?_
 intro i ⟨hi,he⟩
 conv => whnf
 by_cases hi2:i < a.length
 ·rw [qv4 hi2 (by omega)] at he
  have g0:nth (ivs (zl a)) (i * 1) = some (nv (gn a i)) :=by rw [qa8 (by omega),qqt a hi2]
  have g1:nth (ivs (zl b)) (i * 1) = some (nv (gn b i)) :=by rw [qa8 (by omega),qqt b (by omega)]
  have ja:i < (zl a).length :=by omega
  have jb:i < (zl b).length :=by omega
  generalize gn a i = x at *
  generalize gn b i = y at *
  refine qaa (qau ja) ?_
  conv => whnf
  refine qaa (qal ja) ?_
  conv => whnf
  refine qae (nthP (g0)) ?_
  conv => whnf
  refine qaa (qal jb) ?_
  conv => whnf
  refine qae (nthP (g1)) ?_
  conv => whnf
  refine qad hS (by kernel_rfl) ?_
  conv => whnf
  by_cases q:x = y
  ·rw [if_pos q] at he
   refine qab ((show (Int.ofNat x != Int.ofNat y) = false by rw [q];exact bne_self_eq_false _)) ?_
   conv => whnf
   exact ⟨i + 1,⟨by omega,he⟩,by omega,(by refine ⟨rfl,rfl,rfl,rfl,?_,?_⟩ <;> repeat' (first|exact trivial|exact rfl|exact Nat.zero_le _|exact congrArg (fun z => some (AV.int .i64 z)) (show IntKind.i64.wrap (Int.ofNat i + 1) = Int.ofNat (i + 1) from qa1 (m :=i + 1) (by omega))|exact qag la|exact qag lb|exact kle rfl|exact qag (by assumption)|exact qag (qaf _)|exact qag (qat _)|exact mxI rfl|apply And.intro))⟩
  ·rw [if_neg q] at he
   refine qaa ((show (Int.ofNat x != Int.ofNat y) = true from bne_iff_ne.2 fun z => q (Int.ofNat.inj z))) ?_
   conv => whnf
   refine qaa (qal ja) ?_
   conv => whnf
   refine qae (nthP (g0)) ?_
   conv => whnf
   refine qaa (qal jb) ?_
   conv => whnf
   refine qae (nthP (g1)) ?_
   conv => whnf
   refine qad hS (by kernel_rfl) ?_
   conv => whnf
   exact ⟨_,rfl,wkb (by rw [← he];exact decide_eq_decide.2 Int.ofNat_lt)⟩
 ·refine qab (qa6 (show ¬ i < (zl a).length by omega)) ?_
  conv => whnf
  rw [List.drop_eq_nil_of_le (by omega)] at he
  rw [← he]
  exact ⟨_,rfl,Wk.refl _⟩
def qro (J:List LkI) (G:List Int) (i:Nat):Prop :=0 ≤ gi G i ∧ gi G i < (J.length:Int) ∧ (0 < i → gi G (i - 1) < gi G i)
theorem qsv {J:List LkI} {G:List Int} (hG:G.length ≤ 8) {B:Bool} (hB:B = true ↔ ∀ i,i < G.length → qro J G i):Pure prog 35 [lkA J,nl G] (.bool B) :=by
 have lJ :=qa0 J
 have lG :=qat G
 refine qan hE rfl (by repeat' first|exact trivial|assumption|exact qaf _|exact fun _ h => nomatch h|apply And.intro) (by repeat' first|exact trivial|assumption|exact qaf _|exact fun _ h => nomatch h|apply And.intro) fun S q pc hS hq hC hE => ?_
 conv => whnf
 refine qaw hE hS (A :=Nat) [0,1] (fun i => [(5,nv i)]) (fun _ => []) (fun _ => []) (fun i => i ≤ G.length ∧ ∀ j,j < i → qro J G j) (fun i => G.length - i) 0 (kle rfl) rfl (zhg 0) ⟨Nat.zero_le _,fun _ h => absurd h (Nat.not_lt_zero _)⟩ ?_
 intro i ⟨hi,hj⟩ K hK
 obtain rfl:K = 0 :=hK
 conv => whnf
 by_cases hi2:i < G.length
 ·have hi1:IntKind.i64.wrap (Int.ofNat i + 1) = Int.ofNat (i + 1) :=qa1 (m :=i + 1) (by omega)
  have gk :=qa8 (l :=G) (i :=i) hi2
  have bad:¬ qro J G i → B = false :=fun z => Bool.eq_false_iff.2 fun k => z (hB.1 k i hi2)
  by_cases q0:gi G i < 0
  ·have c0:decide (gi G i < 0) = true :=decide_eq_true q0
   try have z142:=qau hi2
   try have z143:=qal hi2
   repeat ((first|refine qae (nthP gk) ?_|refine qak ‹_› ?_|refine qaj ‹_› ?_|refine pkT ‹_› ?_|refine qaa ‹_› ?_|refine qap ‹_› ?_|refine qaq ‹_› ?_|refine pkF ‹_› ?_|refine qab ‹_› ?_|refine qap (gft ‹_›) ?_|refine qaq (gft ‹_›) ?_|refine pkF (gft ‹_›) ?_|refine qab (gft ‹_›) ?_|refine qad hS (by kernel_rfl) ?_);conv => whnf)
   rw [bad fun z => by have :=z.1;omega]
   exact ⟨_,rfl,Wk.refl _⟩
  ·have c0:decide (gi G i < 0) = false :=decide_eq_false q0
   by_cases q1:gi G i ≥ (J.length:Int)
   ·have c1:decide (gi G i ≥ (J.length:Int)) = true :=decide_eq_true q1
    try have z144:=qau hi2
    try have z145:=qal hi2
    repeat ((first|refine qae (nthP gk) ?_|refine qak ‹_› ?_|refine qaj ‹_› ?_|refine pkT ‹_› ?_|refine qaa ‹_› ?_|refine qap ‹_› ?_|refine qaq ‹_› ?_|refine pkF ‹_› ?_|refine qab ‹_› ?_|refine qak (gff ‹_›) ?_|refine qaj (gff ‹_›) ?_|refine pkT (gff ‹_›) ?_|refine qaa (gff ‹_›) ?_|refine qap (gft ‹_›) ?_|refine qaq (gft ‹_›) ?_|refine pkF (gft ‹_›) ?_|refine qab (gft ‹_›) ?_|refine qad hS (by kernel_rfl) ?_);conv => whnf)
    rw [bad fun z => by have :=z.2.1;omega]
    exact ⟨_,rfl,Wk.refl _⟩
   ·have c1:decide (gi G i ≥ (J.length:Int)) = false :=decide_eq_false q1
    by_cases q2:0 < i
    ·have c2:decide (Int.ofNat i > 0) = true :=decide_eq_true (Int.ofNat_lt.2 q2)
     have hw1:IntKind.i64.wrap (Int.ofNat i - 1) = Int.ofNat (i - 1) :=by
      rw [show Int.ofNat i - 1 = Int.ofNat (i - 1) by show (i:Int) - 1 = ((i - 1:Nat):Int);omega]
      exact qa1 (m :=i - 1) (by omega)
     have hp:i - 1 < G.length :=by omega
     have ip:inR (IntKind.i64.wrap (Int.ofNat i - 1)) G.length = true :=by rw [hw1];exact qal hp
     have gp:nth (ivs G) ((IntKind.i64.wrap (Int.ofNat i - 1)).toNat * 1) = some (iv (gi G (i - 1))) :=by
      rw [hw1]
      exact qa8 (l :=G) (i :=i - 1) hp
     by_cases q3:gi G i ≤ gi G (i - 1)
     ·have c3:decide (gi G i ≤ gi G (i - 1)) = true :=decide_eq_true q3
      try have z146:=qau hi2
      try have z147:=qal hi2
      repeat ((first|refine qae (nthP gk) ?_|refine qae (nthP gp) ?_|refine qak ‹_› ?_|refine qaj ‹_› ?_|refine pkT ‹_› ?_|refine qaa ‹_› ?_|refine qap ‹_› ?_|refine qaq ‹_› ?_|refine pkF ‹_› ?_|refine qab ‹_› ?_|refine qak (gff ‹_›) ?_|refine qaj (gff ‹_›) ?_|refine pkT (gff ‹_›) ?_|refine qaa (gff ‹_›) ?_|refine qak (qar ‹_›) ?_|refine qaj (qar ‹_›) ?_|refine pkT (qar ‹_›) ?_|refine qaa (qar ‹_›) ?_|refine qad hS (by kernel_rfl) ?_);conv => whnf)
      rw [bad fun z => by have :=z.2.2 q2;omega]
      exact ⟨_,rfl,Wk.refl _⟩
     ·have c3:decide (gi G i ≤ gi G (i - 1)) = false :=decide_eq_false q3
      try have z148:=qau hi2
      try have z149:=qal hi2
      repeat ((first|refine qae (nthP gk) ?_|refine qae (nthP gp) ?_|refine qak ‹_› ?_|refine qaj ‹_› ?_|refine pkT ‹_› ?_|refine qaa ‹_› ?_|refine qap ‹_› ?_|refine qaq ‹_› ?_|refine pkF ‹_› ?_|refine qab ‹_› ?_|refine qak (gff ‹_›) ?_|refine qaj (gff ‹_›) ?_|refine pkT (gff ‹_›) ?_|refine qaa (gff ‹_›) ?_|refine qak (qar ‹_›) ?_|refine qaj (qar ‹_›) ?_|refine pkT (qar ‹_›) ?_|refine qaa (qar ‹_›) ?_|refine qad hS (by kernel_rfl) ?_);conv => whnf)
      exact ⟨i + 1,⟨hi2,fun j h => by
       by_cases e:j = i
       ·rw [e];exact ⟨by omega,by omega,fun _ => by omega⟩
       ·exact hj j (by omega)⟩,by omega,Nat.le_refl _,(zhg 0)⟩
    ·have c2:decide (Int.ofNat i > 0) = false :=decide_eq_false fun z => q2 (Int.ofNat_lt.1 z)
     try have z150:=qau hi2
     try have z151:=qal hi2
     repeat ((first|refine qae (nthP gk) ?_|refine qak ‹_› ?_|refine qaj ‹_› ?_|refine pkT ‹_› ?_|refine qaa ‹_› ?_|refine qap ‹_› ?_|refine qaq ‹_› ?_|refine pkF ‹_› ?_|refine qab ‹_› ?_|refine qak (gff ‹_›) ?_|refine qaj (gff ‹_›) ?_|refine pkT (gff ‹_›) ?_|refine qaa (gff ‹_›) ?_|refine qap (qa2 ‹_›) ?_|refine qaq (qa2 ‹_›) ?_|refine pkF (qa2 ‹_›) ?_|refine qab (qa2 ‹_›) ?_|refine qad hS (by kernel_rfl) ?_);conv => whnf)
     exact ⟨i + 1,⟨hi2,fun j h => by
      by_cases e:j = i
      ·rw [e];exact ⟨by omega,by omega,fun z => absurd z q2⟩
      ·exact hj j (by omega)⟩,by omega,Nat.le_refl _,(zhg 0)⟩
 ·refine qab (qa6 hi2) ?_
  conv => whnf
  refine .inl ?_
  conv => whnf
  rw [hB.2 fun j h => hj j (by omega)]
  exact ⟨_,rfl,Wk.refl _⟩
theorem qev {J:List LkI} {h:AV} {G:List Int} (hh:IL h G) (hG:G.length ≤ 8) {B:Bool} (hB:B = true ↔ ∀ i,i < G.length → qro J G i):Pure prog 35 [lkA J,h] (.bool B) :=by
 rcases hh with ⟨rfl,rfl⟩ | rfl
 ·have lJ :=qa0 J
  rw [hB.2 fun i hi => absurd hi (Nat.not_lt_zero i)]
  refine qan hE rfl (by repeat' first|exact trivial|assumption|exact qaf _|exact fun _ h => nomatch h|apply And.intro) (by repeat' first|exact trivial|assumption|exact qaf _|exact fun _ h => nomatch h|apply And.intro) fun S q pc hS hq hC hE => ?_
  conv => whnf
  refine qah hE hS ?_
  conv => whnf
  exact ⟨_,rfl,Wk.refl _⟩
 ·exact qsv hG hB
end
end Go.Abs.Seat
namespace Go.Abs.Seat
noncomputable section
open Go Go.Abs Go.Proofs.Tryz
set_option maxRecDepth 100000
set_option maxHeartbeats 4000000
theorem qn8 {P:List Int} (h:∀ i,i < P.length → 0 ≤ gi P i):P = zl (P.map Int.toNat) :=by
 unfold zl
 rw [List.map_map]
 refine List.ext_getElem (by simp) fun i h1 h2 => ?_
 have :=h i h1
 have e:gi P i = P[i] :=by simp [gi,List.getD,h1]
 rw [e] at this
 rw [List.getElem_map]
 exact (Int.toNat_of_nonneg this).symm
end
end Go.Abs.Seat
