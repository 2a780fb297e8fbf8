/-
  Whether a train surely turns its hand by a fraction.
-/
import Derived.Test.YtcnidgafdonioaaGreatVJ8
namespace Go.Abs.Seat
noncomputable section
open Go Go.Abs Go.Proofs.Tryz
set_option maxRecDepth 100000
set_option maxHeartbeats 40000000
attribute [local irreducible] IntKind.wrap pEq rdT
def smQ (G:List (List Nat)) (x:Nat × Nat) (j:Nat):Prop :=btA x (rdT (gT G j)) = false ∧ btA (rdT (gT G j)) x = false
abbrev suH (s n:Bool):List (Nat × AObj) :=[(12,.cells (.node (.bool s) .nil .nil) 1 4),(13,.cells (.node (.bool n) .nil .nil) 1 4)]
theorem sm_keep {G:List (List Nat)} {x:Nat × Nat} {i:Nat} {s:Bool} (h:s = true ↔ ∃ j,j < i ∧ smQ G x j) (hn:¬ smQ G x i):s = true ↔ ∃ j,j < i + 1 ∧ smQ G x j :=by
 rw [h]
 constructor
 ·rintro ⟨j,hj,k⟩;exact ⟨j,by omega,k⟩
 ·rintro ⟨j,hj,k⟩
  by_cases e:j = i
  ·subst e;exact absurd k hn
  ·exact ⟨j,by omega,k⟩
theorem sm_add {G:List (List Nat)} {x:Nat × Nat} {i:Nat} {s:Bool} (_h:s = true ↔ ∃ j,j < i ∧ smQ G x j) (hy:smQ G x i):true = true ↔ ∃ j,j < i + 1 ∧ smQ G x j :=⟨fun _ => ⟨i,Nat.lt_succ_self _,hy⟩,fun _ => rfl⟩
theorem nm_keep {G:List (List Nat)} {x:Nat × Nat} {i:Nat} {s:Bool} (h:s = true ↔ ∃ j,j < i ∧ ¬ smQ G x j) (hn:smQ G x i):s = true ↔ ∃ j,j < i + 1 ∧ ¬ smQ G x j :=by
 rw [h]
 constructor
 ·rintro ⟨j,hj,k⟩;exact ⟨j,by omega,k⟩
 ·rintro ⟨j,hj,k⟩
  by_cases e:j = i
  ·subst e;exact absurd hn k
  ·exact ⟨j,by omega,k⟩
theorem nm_add {G:List (List Nat)} {x:Nat × Nat} {i:Nat} {s:Bool} (_h:s = true ↔ ∃ j,j < i ∧ ¬ smQ G x j) (hy:¬ smQ G x i):true = true ↔ ∃ j,j < i + 1 ∧ ¬ smQ G x j :=⟨fun _ => ⟨i,Nat.lt_succ_self _,hy⟩,fun _ => rfl⟩
theorem gSure_pure {sp:List (Nat × Nat)} {nt:List Nat} (h:fdOk sp nt) {G:List (List Nat)} (e:gsL nt sp [] = G) (h1:1 ≤ G.length) (hb:G.length ≤ 50000) (hG:∀ i,i < G.length → tOk (gT G i)) {x:Nat × Nat} (hx:x.1 ≤ 50000 ∧ 1 ≤ x.2 ∧ x.2 ≤ 50000) (hs:∃ j,j < G.length ∧ smQ G x j) {all:Bool} (hall:all = true ↔ ∀ j,j < G.length → smQ G x j) :
  Pure prog 19 [fdA sp nt,qw x] (.tup [iv (@Bool.rec (fun _ => Int) 2 3 all),iv 0]) :=by
 have lS :=flat_no (zp sp)
 have lN :=ntE_no 0 nt
 have pK :=asked_pure h (by rw [e];intro z;rw [z] at h1;exact absurd h1 (by decide))
 rw [e] at pK
 have pF :=gFrac_pure (Int.ofNat x.1) (Int.ofNat x.2)
 rw [decide_eq_true (show (0 ≤ Int.ofNat x.1 ∧ Int.ofNat x.1 ≤ 50000) ∧ 1 ≤ Int.ofNat x.2 ∧ Int.ofNat x.2 ≤ 50000 from ⟨⟨Int.natCast_nonneg _,Int.ofNat_le.2 hx.1⟩,Int.ofNat_le.2 hx.2.1,Int.ofNat_le.2 hx.2.2⟩)] at pF
 have qx:qOk x :=⟨Nat.le_trans hx.1 (by decide),Nat.le_trans hx.2.2 (by decide)⟩
 have eG:guV sp nt G = .agg [spA sp,ntA nt,.lst (tvl G) G.length .no] :=by
  cases G with
  |nil => exact absurd h1 (by decide)
  |cons x r => rfl
 rw [eG] at pK
 have lG :=tvl_no G
 have lGG:Live noL (.agg [spA sp,ntA nt,.lst (tvl G) G.length .no]) :=⟨⟨lS,fun _ h => nomatch h⟩,ntA_no nt,⟨lG,fun _ h => nomatch h⟩,trivial⟩
 refine pure_sym hE rfl (by repeat' (first | exact trivial | assumption | exact flat_no _ | exact (fun _ h => nomatch h) | apply And.intro)) (by repeat' (first | exact trivial | assumption | exact flat_no _ | exact (fun _ h => nomatch h) | apply And.intro)) fun S q pc hS hq hC hE => ?_
 conv => whnf
 refine sym_pure hC (pF) ?_
 conv => whnf
 refine sym_pure hC (pK) ?_
 conv => whnf
 refine sym_drawn hS (by kernel_rfl) ?_
 conv => whnf
 refine sym_inline hE hS ?_
 conv => whnf
 refine sym_loopQ hE hS (A :=Nat × Bool × Bool) [12,13,15] (fun x hx => nomatch hx) [1,2,7,8] (fun (i,_,_) => [(9,nv i)]) (fun (_,s,n) => suH s n) (fun _ => []) (fun (i,s,n) => i ≤ G.length ∧ (s = true ↔ ∃ j,j < i ∧ smQ G x j) ∧ (n = true ↔ ∃ j,j < i ∧ ¬ smQ G x j)) (fun (i,_,_) => G.length - i) (0,false,false) (Nat.le_of_ble_eq_true rfl) trivial rfl (by refine ⟨rfl,rfl,rfl,rfl,rfl,rfl,17,rfl,?_,?_,?_,?_,by kernel_rfl⟩ <;> repeat' (first | exact trivial | exact rfl | exact ⟨_,rfl,WkV.refl _⟩ | exact ⟨_,rfl,WkV.own _ _ _⟩ | exact TrIw.refl _ _ _ _ _ | exact OWk.same _ | exact OWk.loop _ _ _ _ _ _ _ (by repeat' (first | exact trivial | exact WkV.refl _ | exact WkV.unk _ | apply And.intro)) | exact Nat.zero_le _ | exact bdl_no lS | exact bdl_no lN | exact bdl_no lG | exact bz lGG | exact bz (fdA_no sp nt) | exact Nat.le_of_ble_eq_true rfl | exact bdl_no (by assumption) | exact bdl_no (flat_no _) | exact bdl_no (ivs_no _) | exact bdl_no (svs_no _) | exact Nat.max_le.2 ⟨Nat.le_of_ble_eq_true rfl,bdl_no (ivs_no _)⟩ | exact Nat.max_le.2 ⟨Nat.le_of_ble_eq_true rfl,bdl_no (svs_no _)⟩ | apply And.intro)) ⟨Nat.zero_le _,⟨fun z => (nomatch z),fun ⟨_,hj,_⟩ => absurd hj (Nat.not_lt_zero _)⟩,⟨fun z => (nomatch z),fun ⟨_,hj,_⟩ => absurd hj (Nat.not_lt_zero _)⟩⟩ ?_
 rintro ⟨i,s,n⟩ ⟨hi,hsi,hni⟩ N hN
 obtain rfl:N = 17 :=hN
 have hi:i ≤ G.length :=hi
 have hsi:s = true ↔ ∃ j,j < i ∧ smQ G x j :=hsi
 have hni:n = true ↔ ∃ j,j < i ∧ ¬ smQ G x j :=hni
 conv => whnf
 by_cases hi2:i < G.length
 ·have hi1:IntKind.i64.wrap (Int.ofNat i + 1) = Int.ofNat (i + 1) :=wrapN (m :=i + 1) (by omega)
  have pT :=tturns_pure (hG i hi2)
  have pB1 :=btA_pure qx (hG i hi2).q
  have pB2 :=btA_pure (hG i hi2).q qx
  refine bool_true (ltN_t hi2) ?_
  conv => whnf
  refine bool_true (inR_t hi2) ?_
  conv => whnf
  refine plan_as (nthP (nth_tvl G i hi2)) ?_
  conv => whnf
  refine sym_pure hC (pT) ?_
  conv => whnf
  refine sym_code hE hS ?_
  conv => whnf
  refine sym_code hE hS ?_
  conv => whnf
  by_cases c1:btA x (rdT (gT G i)) = true
  ·have hn:¬ smQ G x i :=fun z => by rw [z.1] at c1;exact nomatch c1
   have e1 :=sm_keep hsi hn
   have e2 :=nm_add hni hn
   rw [c1] at pB1
   refine sym_pure hC (pB1) ?_
   conv => whnf
   exact ⟨(i + 1,s,true),⟨hi2,e1,e2⟩,by show G.length - (i + 1) < G.length - i;omega,Nat.le_refl _,(by refine ⟨rfl,rfl,rfl,rfl,rfl,rfl,17,rfl,?_,?_,?_,?_,by kernel_rfl⟩ <;> repeat' (first | exact trivial | exact rfl | exact ⟨_,rfl,WkV.refl _⟩ | exact ⟨_,rfl,WkV.own _ _ _⟩ | exact TrIw.refl _ _ _ _ _ | exact OWk.same _ | exact OWk.loop _ _ _ _ _ _ _ (by repeat' (first | exact trivial | exact WkV.refl _ | exact WkV.unk _ | apply And.intro)) | exact Nat.zero_le _ | exact ⟨_,rfl,WkV.int hi1⟩ | exact bdl_no lS | exact bdl_no lN | exact bdl_no lG | exact bz lGG | exact bz (fdA_no sp nt) | exact Nat.le_of_ble_eq_true rfl | exact bdl_no (by assumption) | exact bdl_no (flat_no _) | exact bdl_no (ivs_no _) | exact bdl_no (svs_no _) | exact Nat.max_le.2 ⟨Nat.le_of_ble_eq_true rfl,bdl_no (ivs_no _)⟩ | exact Nat.max_le.2 ⟨Nat.le_of_ble_eq_true rfl,bdl_no (svs_no _)⟩ | apply And.intro))⟩
  ·have c1:btA x (rdT (gT G i)) = false :=(Bool.not_eq_true _).mp c1
   rw [c1] at pB1
   by_cases c2:btA (rdT (gT G i)) x = true
   ·have hn:¬ smQ G x i :=fun z => by rw [z.2] at c2;exact nomatch c2
    have e1 :=sm_keep hsi hn
    have e2 :=nm_add hni hn
    rw [c2] at pB2
    refine sym_pure hC (pB1) ?_
    conv => whnf
    refine sym_pure hC (pB2) ?_
    conv => whnf
    exact ⟨(i + 1,s,true),⟨hi2,e1,e2⟩,by show G.length - (i + 1) < G.length - i;omega,Nat.le_refl _,(by refine ⟨rfl,rfl,rfl,rfl,rfl,rfl,17,rfl,?_,?_,?_,?_,by kernel_rfl⟩ <;> repeat' (first | exact trivial | exact rfl | exact ⟨_,rfl,WkV.refl _⟩ | exact ⟨_,rfl,WkV.own _ _ _⟩ | exact TrIw.refl _ _ _ _ _ | exact OWk.same _ | exact OWk.loop _ _ _ _ _ _ _ (by repeat' (first | exact trivial | exact WkV.refl _ | exact WkV.unk _ | apply And.intro)) | exact Nat.zero_le _ | exact ⟨_,rfl,WkV.int hi1⟩ | exact bdl_no lS | exact bdl_no lN | exact bdl_no lG | exact bz lGG | exact bz (fdA_no sp nt) | exact Nat.le_of_ble_eq_true rfl | exact bdl_no (by assumption) | exact bdl_no (flat_no _) | exact bdl_no (ivs_no _) | exact bdl_no (svs_no _) | exact Nat.max_le.2 ⟨Nat.le_of_ble_eq_true rfl,bdl_no (ivs_no _)⟩ | exact Nat.max_le.2 ⟨Nat.le_of_ble_eq_true rfl,bdl_no (svs_no _)⟩ | apply And.intro))⟩
   ·have c2:btA (rdT (gT G i)) x = false :=(Bool.not_eq_true _).mp c2
    have hy:smQ G x i :=⟨c1,c2⟩
    have e1 :=sm_add hsi hy
    have e2 :=nm_keep hni hy
    rw [c2] at pB2
    refine sym_pure hC (pB1) ?_
    conv => whnf
    refine sym_pure hC (pB2) ?_
    conv => whnf
    exact ⟨(i + 1,true,n),⟨hi2,e1,e2⟩,by show G.length - (i + 1) < G.length - i;omega,Nat.le_refl _,(by refine ⟨rfl,rfl,rfl,rfl,rfl,rfl,17,rfl,?_,?_,?_,?_,by kernel_rfl⟩ <;> repeat' (first | exact trivial | exact rfl | exact ⟨_,rfl,WkV.refl _⟩ | exact ⟨_,rfl,WkV.own _ _ _⟩ | exact TrIw.refl _ _ _ _ _ | exact OWk.same _ | exact OWk.loop _ _ _ _ _ _ _ (by repeat' (first | exact trivial | exact WkV.refl _ | exact WkV.unk _ | apply And.intro)) | exact Nat.zero_le _ | exact ⟨_,rfl,WkV.int hi1⟩ | exact bdl_no lS | exact bdl_no lN | exact bdl_no lG | exact bz lGG | exact bz (fdA_no sp nt) | exact Nat.le_of_ble_eq_true rfl | exact bdl_no (by assumption) | exact bdl_no (flat_no _) | exact bdl_no (ivs_no _) | exact bdl_no (svs_no _) | exact Nat.max_le.2 ⟨Nat.le_of_ble_eq_true rfl,bdl_no (ivs_no _)⟩ | exact Nat.max_le.2 ⟨Nat.le_of_ble_eq_true rfl,bdl_no (svs_no _)⟩ | apply And.intro))⟩
 ·refine bool_false (ltN_f hi2) ?_
  conv => whnf
  refine .inl ?_
  have en:i = G.length :=by omega
  subst en
  obtain rfl:s = true :=hsi.2 hs
  by_cases ha:∀ j,j < G.length → smQ G x j
  ·obtain rfl:n = false :=(Bool.not_eq_true _).mp fun z => let ⟨j,hj,hn⟩ :=hni.1 z;hn (ha j hj)
   obtain rfl:all = true :=hall.2 ha
   conv => whnf
   exact ⟨_,rfl,Wk.refl _⟩
  ·obtain rfl:n = true :=hni.2 (Classical.byContradiction fun z => ha fun j hj => Classical.byContradiction fun k => z ⟨j,hj,k⟩)
   obtain rfl:all = false :=(Bool.not_eq_true _).mp fun z => ha (hall.1 z)
   conv => whnf
   exact ⟨_,rfl,Wk.refl _⟩
end
end Go.Abs.Seat
