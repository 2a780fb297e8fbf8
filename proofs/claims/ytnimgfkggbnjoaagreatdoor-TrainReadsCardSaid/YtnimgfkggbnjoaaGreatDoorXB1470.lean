/-
  A text, as the document reads it.
-/
import Derived.Test.YtnimgfkggbnjoaaGreatDoorXB146
import Derived.Test.YtnimgfkggbnjoaaGreatDoorXB135
namespace Go.Abs.Seat
noncomputable section
open Go Go.Abs Go.Proofs.Tryz
set_option maxRecDepth 100000
set_option maxHeartbeats 40000000
attribute [local irreducible] pEq qco IntKind.wrap
def sQ (i:Nat):List UInt8 :=if i = 1 then [97,110,121] else if i = 2 then [115,97,109,101] else if i = 3 then [111,116,104,101,114] else []
def sV (w:List UInt8):Nat → Nat
 | 0 => 0
 |i + 1 => if 1 ≤ i ∧ sQ i = w then i else sV w i
theorem qgt {i:Nat} (h:i < 4):nth [.str [],.str [97,110,121],.str [115,97,109,101],.str [111,116,104,101,114]] (i * 1) = some (AV.str (sQ i)) :=by
 have:i = 0 ∨ i = 1 ∨ i = 2 ∨ i = 3 :=by omega
 rcases this with rfl | rfl | rfl | rfl <;> rfl
theorem sV_0 {w:List UInt8} (h:sV w 4 = 0):∀ σ,1 ≤ σ ∧ σ ≤ 3 → w ≠ qc9 σ :=by
 intro σ hσ e
 have:σ = 1 ∨ σ = 2 ∨ σ = 3 :=by omega
 subst e
 rcases this with rfl | rfl | rfl <;> exact absurd h (by decide)
theorem sV_1 {w:List UInt8} (h:sV w 4 ≠ 0):w = qc9 (sV w 4) ∧ 1 ≤ sV w 4 ∧ sV w 4 ≤ 3 :=by
 by_cases h3:sQ 3 = w
 ·subst h3;decide
 by_cases h2:sQ 2 = w
 ·subst h2;decide
 by_cases h1:sQ 1 = w
 ·subst h1;decide
 ·exfalso
  apply h
  simp [sV,h1,h2,h3]
structure PyH (L:List (List UInt8)) (p0 p1 p2 p3 p4 q0:List UInt8) (l1:List (List UInt8)) (a b c:Nat) (N:AV):Prop where
 s0:Pure prog 42 [.str (gB L 0),.int .u8 32] (.lst (stA [p0,p1,p2,p3,p4]) 5 .no)
 n0:Pure prog 43 [.lst (stA [p1,p2,p3]) 3 .no] (.tup [nl (zl [a,b,c]),.bool true])
 s1:Pure prog 42 [.str (gB L 1),.int .u8 32] (.lst (stA (q0 :: l1)) (q0 :: l1).length .no)
 n1:Pure prog 43 [.lst (stA l1) l1.length .no] (.tup [N,.bool true])
def pxV (T:List (List (Nat × Nat))) (i:Nat):AV :=.lst (xqs (T.take i)) i (.ch 17)
def grX (T:List (List (Nat × Nat))) (i:Nat) (v:AV) (ux:List AObj):Prop :=i = 0 ∧ v = .nils ∧ ux = [] ∨ 0 < i ∧ v = pxV T i ∧ ux = [.chain i 1 45]
theorem qfp (T:List (List (Nat × Nat))) (i:Nat) {n:Nat} (h:18 ≤ n):bd (pxV T i) ≤ n :=Nat.max_le.2 ⟨h,qc1 (qdt _)⟩
theorem qz2 {T:List (List (Nat × Nat))} {v:AV} {i:Nat} (hi:i < T.length) (h:WkV v (xqV (gT T i))):RnV 17 [17] (.lst (xqs (T.take i) ++ [v]) (i + (0 + 1)) (.ch 17)) (pxV T (i + 1)) :=by
 refine RnV.tr (qo8 h _ _) ?_
 unfold pxV
 rw [qg1 T hi]
 exact rnC (j :=0) (Nat.lt_succ_self 0) rfl rfl (qdt _)
theorem qy3 {T:List (List (Nat × Nat))} {v:AV} {c:Nat} (hi:0 < T.length) (h:WkV v (xqV (gT T 0))):RnV 17 [c] (.lst [v] (0 + 1) (.ch c)) (pxV T 1) :=by
 refine RnV.tr (qo8 (A :=[]) h _ _) ?_
 unfold pxV
 rw [qg1 T hi]
 exact rnC (j :=0) (Nat.lt_succ_self 0) rfl rfl (qdt _)
structure RxH (L:List (List UInt8)) (i:Nat) (t:List (Nat × Nat)):Prop where
 ex:∃ w l,Pure prog 42 [.str (gB L (i + 2)),.int .u8 32] (.lst (stA (w :: l)) (w :: l).length .no) ∧ Pure prog 43 [.lst (stA l) l.length .no] (.tup [nlV (flN t),.bool true])
 le:t.length ≤ 450
 lt:∀ n,n ∈ flN t → n < 1000
theorem qvr {x:AV} {T:List (List (Nat × Nat))} {y:AV} (h:T = []):Wk (.tup [x,.nils,y]) (.tup [x,xqT T,y]) :=by
 rw [xqT,if_pos h];exact Wk.refl _
theorem qws {x y z u:AV} (h:Wk y z):Wk (.tup [x,y,u]) (.tup [x,z,u]) :=fun g w v hu => by
 obtain ⟨vs,e,a,r1,e2,h1,b,r2,e3,h2,h3⟩ :=hu
 exact ⟨vs,e,a,r1,e2,h1,b,r2,e3,h g w b h2,h3⟩
theorem qvq {x y:AV} {T:List (List (Nat × Nat))} {i:Nat} (hi:0 < i) (h:T.length = i):Wk (.tup [x,pxV T i,y]) (.tup [x,xqT T,y]) :=by
 subst h
 have e:T ≠ [] :=fun z => by rw [z] at hi;exact absurd hi (Nat.lt_irrefl _)
 rw [xqT,if_neg e]
 unfold pxV
 rw [List.take_length]
 exact qws (WkV.own _ _ _).wk
theorem qge {M:List Nat} (h:M.length % 2 = 0):(Int.tmod ((zl M).length:Int) 2 != 0) = false :=by
 rw [qcd,show ((M.length:Nat):Int) = Int.ofNat M.length from rfl,show (2:Int) = Int.ofNat 2 from rfl,qei,h];rfl
theorem qvh {M:List Nat} (h:M.length % 2 = 1):(Int.tmod ((zl M).length:Int) 2 != 0) = true :=by
 rw [qcd,show ((M.length:Nat):Int) = Int.ofNat M.length from rfl,show (2:Int) = Int.ofNat 2 from rfl,qei,h];rfl
theorem qdu {r:TrR} {N v:AV} {V:List Nat} {T:List (List (Nat × Nat))} {c:Nat} (hN:IL N (zl V)) (hv:v = .nils ∧ T = [] ∨ v = .lst (xqs T) T.length (.ch c)) (o:okR r V T) (hw:ShW r V T):Pure prog 13 [.agg [nv r.1,nv r.2.1,nv r.2.2.1,nv r.2.2.2,N],v] (.str (prtT r V T)) :=by
 refine Pure.ofWk ?_
 have eN:wk N = N :=by
  rcases hN with ⟨rfl,_⟩ | rfl
  ·rfl
  ·simp only [wk,ql3]
 have k :=ql1 (X :=wk v) hN (by
  rcases hv with ⟨rfl,e⟩ | rfl
  ·exact .inl ⟨rfl,e⟩
  ·exact .inr (by simp only [wk,ql2])) o hw
 rw [show wkl [.agg [nv r.1,nv r.2.1,nv r.2.2.1,nv r.2.2.2,N],v] = [.agg [nv r.1,nv r.2.1,nv r.2.2.1,nv r.2.2.2,N],wk v] by simp only [wkl,wk,eN]]
 exact k
theorem qr0 {L:List (List UInt8)} {a b c d:Nat} {V:List Nat} {T:List (List (Nat × Nat))} (h3:a < 1000 ∧ b < 1000 ∧ c < 1000) (hd:1 ≤ d ∧ d ≤ 3) (hV:∀ n,n ∈ V → n < 1000) (hT:∀ i,i < T.length → RxH L i (gT T i)):okR (a,b,c,d) V T :=by
 refine ⟨⟨h3,hd.1,hd.2⟩,hV,fun t ht => ?_⟩
 obtain ⟨i,hi,e⟩ :=List.getElem_of_mem ht
 have k :=(hT i hi).lt
 rwa [show gT T i = t by rw [← e];simp [gT,List.getD,hi]] at k
theorem qvx {L:List (List UInt8)} {r:TrR} {V:List Nat} {T:List (List (Nat × Nat))} (hV:V.length ≤ 900) (hl:T.length ≤ 900) (hT:∀ i,i < T.length → RxH L i (gT T i)):ShW r V T :=by
 refine ⟨hV,hl,fun t ht => ?_⟩
 obtain ⟨i,hi,e⟩ :=List.getElem_of_mem ht
 have k :=(hT i hi).le
 rwa [show gT T i = t by rw [← e];simp [gT,List.getD,hi]] at k
abbrev zrX:AV :=.tup [.agg [iv 0,iv 0,iv 0,iv 0,.nils],.nils,.bool false]
end
end Go.Abs.Seat
