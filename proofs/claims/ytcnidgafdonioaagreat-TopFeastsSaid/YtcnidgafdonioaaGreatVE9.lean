/-
  The law TopFeasts: all that is as defined.
-/
import Derived.Test.YtcnidgafdonioaaGreatVE6
import Derived.Test.YtcnidgafdonioaaGreatVU11
namespace Go.Abs.Seat
noncomputable section
open Go Go.Abs Go.Proofs.Tryz
set_option maxRecDepth 100000
set_option maxHeartbeats 40000000
attribute [local irreducible] IntKind.wrap pEq
theorem dsL_get (g:Ft → Int) (l:List Ft):∀ (m i:Nat),i < m → gi (dsL g l m) i = g (gf l i)
 | 0,_,h => absurd h (Nat.not_lt_zero _)
 |m + 1,i,h => by
  have e :=dsL_len g l m
  by_cases c:i < m
  ·have :=dsL_get g l m i c
   rw [← this]
   simp only [gi,dsL,List.getD]
   rw [List.getElem?_append_left (by omega)]
  ·obtain rfl:i = m :=by omega
   simp only [gi,dsL,List.getD]
   rw [List.getElem?_append_right (by omega),e,Nat.sub_self]
   rfl
structure dyH (D:List Int) (F:Int):Prop where
 l6:D.length ≤ 6
 fb:0 ≤ F ∧ F ≤ 1500000
 gb:∀ i,i < D.length → gi D i = -1 ∨ F ≤ gi D i ∧ gi D i ≤ F + 365
theorem dyH.tail {d0:Int} {r:List Int} {F:Int} (h:dyH (d0 :: r) F):dyH r F :=⟨by have :=h.l6;simp only [List.length_cons] at this;omega,h.fb,fun i hi => h.gb (i + 1) (by simpa using hi)⟩
theorem f20_pure {D:List Int} {F:Int} (h:dyH D F) {M:Nat} (hM:M = 400):Pure prog 29 [nl D,iv F] (sv (f20 D F M)) :=by
 have h1 :=h.fb
 exact feasts20_pure D F h.l6 (fun i hi => by have :=h.gb i hi;omega) ⟨h1.1,by omega⟩ hM
theorem mt_cases (D:List Int) (F:Int) {M:Nat} (hM:M = 400) (h:dyH D F) (y:Nat):(sv (mtL D y) = .nils ∧ decide (((f20 D F M).length:Int) < (someN D D.length:Int)) = false) ∨ (sv (mtL D y) = .lst [nv y] 1 .no ∧ decide (((f20 D F M).length:Int) < (someN D D.length:Int)) = true) :=by
 have e :=meet_iff D F hM h.gb
 by_cases c:∃ i,i < D.length ∧ twc D i
 ·right
  refine ⟨by rw [mtL,if_pos c];rfl,decide_eq_true ?_⟩
  have :=e.2 c
  omega
 ·left
  refine ⟨by rw [mtL,if_neg c];rfl,decide_eq_false ?_⟩
  have:¬ (f20 D F M).length < someN D D.length :=fun z => c (e.1 z)
  omega
theorem someN_wrap (D:List Int) {i:Nat} (h:i < D.length) (h6:D.length ≤ 6) (h0:0 ≤ gi D i):IntKind.i64.wrap (Int.ofNat (someN D i) + 1) = Int.ofNat (someN D (i + 1)) :=by
 have :=someN_le D i
 rw [someN,if_pos h0]
 exact wrapN (m :=someN D i + 1) (by omega)
theorem settings_any {v:AV} {k x y:Nat} (hv:TV v k x y) (n d m:Nat) (hn:n ≤ 50000) (hnd:1 ≤ d ∧ d ≤ 50000) (hm:m ≤ 10800) {w:AV} {f:List Int} (hf:IL w f) (of:feOk f) (u:Nat) (hu:u ≤ 10000) :
  Pure prog 30 [v,fv (Int.ofNat n) (Int.ofNat d),nv m,w,nv u] (setV (okS f (lastV x y n d m) u (2 ^ f.length))) :=by
 rcases hf with ⟨rfl,rfl⟩ | rfl
 ·exact settings_nils hv n d m hn hnd hm u hu
 ·exact settings_pure hv n d m hn hnd hm f of u hu
theorem takeN_allE:∀ r:List Int,takeN r.length (ivs r) = some (ivs r) :=fun r => by
 have :=takeN_ivE r r.length (Nat.le_refl _)
 rwa [List.take_length] at this
theorem slice_tail {T:Tr TypeInfo} {t e:TypeId} {inf:TypeInfo} {x:Int} {r:List Int} {k:IntKind} (hT:tyU T t = some (.slice e)) (hi:T.get e = some inf) (hs:inf.size = 1) :
  pSlice T t (.lst (ivs (x :: r)) (x :: r).length .no) (some (.int k 1)) none = .chk (decide (1 * inf.size ≤ (ivs (x :: r)).length)) (.ret (.lst (ivs r) r.length .no)) :=by
 unfold pSlice
 have e1:bnd (some (.int k 1)) 0 (x :: r).length = some 1 :=by
  unfold bnd
  simp only [List.length_cons]
  rw [decide_eq_true (show (0:Int) ≤ 1 by decide),decide_eq_true (show (1:Int) ≤ ((r.length + 1:Nat):Int) by omega)]
  rfl
 have e2:bnd none (x :: r).length (x :: r).length = some (x :: r).length :=rfl
 have e3:dropN (1 * inf.size) (ivs (x :: r)) = ivs r :=by rw [hs];rfl
 have e4:r.length * inf.size = r.length :=by rw [hs,Nat.mul_one]
 have e5:(x :: r).length - 1 = r.length :=by simp
 simp only [hT,hi,e1,e2,e3,e4,e5,takeN_allE]
theorem inR_z {z:Int} {n:Nat} (h:0 ≤ z ∧ z < (n:Int)):inR z n = true :=by
 unfold inR
 rw [decide_eq_true h.1,decide_eq_true h.2]
 rfl
theorem eqBool_of {cst b c:Bool} (h:b = c):q0 4 cst (.bool b) (.bool c) = some true :=by subst h;exact eqBool_same _ _
theorem areFe_any {w:AV} {f:List Int} (hf:IL w f) (of:feOk f):Pure prog 76 [w] (.bool true) :=by
 rcases hf with ⟨rfl,rfl⟩ | rfl
 ·exact areFeasts_nil
 ·exact areFeasts_pure f (by have :=of.2;omega) ⟨fun _ => of,fun _ => rfl⟩
theorem keeps_any {f s:List Int} (of:feOk f) (os:seOk f.length s) {L u:Nat} (hL:L ≤ 10000) (hu:u ≤ 10000) {b:Bool} (hb:b = true ↔ kp L u 0 (days f s)):Pure prog 80 [nv L,sv f,sv s,nv u] (.bool b) :=by
 rcases sv_cases s with ⟨rfl,e⟩ | e
 ·rw [e];exact keeps_nil (IL.sv f) L u hu hb
 ·rcases sv_cases f with ⟨rfl,e2⟩ | e2
  ·have:s = [] :=List.eq_nil_of_length_eq_zero (by have :=(Days.of of os).sl;simpa using this)
   subst this
   cases e
  ·rw [e,e2]
   exact keeps_pure f s (Days.of of os) L u hL hu hb
theorem shown_at {v:AV} {k x y:Nat} (hv:TV v k x y) (n d:Nat) (hn:n ≤ 50000) (hnd:1 ≤ d ∧ d ≤ 50000) {w z:AV} {f s:List Int} (hf:IL w f) (hs:IL z s) (of:feOk f) (os:seOk f.length s)
  (pf:Pure prog 76 [w] (.bool true)) (ps:Pure prog 86 [w,z] (.bool true)) {i:Nat} (hi:i < s.length) :
  ∃ r:Int,Pure prog 33 [v,fv (Int.ofNat n) (Int.ofNat d),w,z,iv (gi f (gi s i).toNat)] (.tup [iv r,iv 0]) ∧ Pure prog 34 [fv (Int.ofNat n) (Int.ofNat d),iv (gi f (gi s i).toNat)] (iv r) :=by
 have hd :=Days.of of os
 have hr :=hd.rg i hi
 obtain ⟨u,eu,hu⟩ : ∃ u:Nat,gi f (gi s i).toNat = Int.ofNat u ∧ u ≤ 10000 :=⟨(gi f (gi s i).toNat).toNat,by show _ = (((gi f (gi s i).toNat).toNat:Nat):Int);omega,by omega⟩
 have hT:lastD u 0 (days f s) = u :=by
  have h1 :=lastD_at (days f s) i 0 (days_up hd) (by rw [days_len];exact hi)
  rw [days_gi _ _ hi,eu] at h1
  exact h1
 rw [eu]
 have p1 :=shown_any hv n d hn hnd hf hs of os pf ps u u hu hT
 rw [right_set x y n d u hv.by_.1] at p1
 exact ⟨_,p1,rRight_pure n d u hn hnd hu⟩
theorem svz {L:List Int} (z:L = []):¬ sv L = nl L :=by
 subst z;intro h;cases h
end
end Go.Abs.Seat
