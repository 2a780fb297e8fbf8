/-
  All guesses.
-/
import Derived.Test.YtcnidgafdonioaaGreatVJ4
namespace Go.Abs.Seat
noncomputable section
open Go Go.Abs Go.Proofs.Tryz
set_option maxRecDepth 100000
set_option maxHeartbeats 40000000
attribute [local irreducible] IntKind.wrap pEq
def gsL (nt:List Nat):List (Nat × Nat) → List Nat → List (List Nat)
 | [],t => if bkL t nt nt.length = [] then [t] else []
 |s :: r,t => ndG s.1 (fun n => gsL nt r (t ++ [n])) (s.2 + 1 - s.1)
theorem ndG_len {g:Nat → List (List Nat)} {b:Nat} (h:∀ n,(g n).length ≤ b) (lo:Nat):∀ k,(ndG lo g k).length ≤ k * b
 | 0 => Nat.zero_le _
 |k + 1 => by
  have h1 :=ndG_len h lo k
  have h2 :=h (lo + k)
  rw [ndG,List.length_append,Nat.succ_mul]
  omega
theorem gsL_len (nt:List Nat):∀ (r:List (Nat × Nat)) (t:List Nat),(∀ s,s ∈ r → s.2 ≤ s.1 + 5) → (gsL nt r t).length ≤ 6 ^ r.length
 | [],t,_ => by
  show (if bkL t nt nt.length = [] then [t] else []).length ≤ 1
  split
  ·exact Nat.le_refl _
  ·exact Nat.zero_le _
 |s :: r,t,h => by
  have h1 :=ndG_len (g :=fun n => gsL nt r (t ++ [n])) (fun n => gsL_len nt r (t ++ [n]) fun s hs => h s (List.mem_cons_of_mem _ hs)) s.1 (s.2 + 1 - s.1)
  have h2 :=h s (List.mem_cons_self ..)
  have h3:(s.2 + 1 - s.1) * 6 ^ r.length ≤ 6 * 6 ^ r.length :=Nat.mul_le_mul_right _ (by omega)
  rw [List.length_cons,Nat.pow_succ,Nat.mul_comm (6 ^ r.length) 6]
  exact Nat.le_trans h1 h3
theorem gn_app_le {t:List Nat} {n:Nat} (h:∀ j,j < t.length → gn t j ≤ 60) (hn:n ≤ 60):∀ j,j < (t ++ [n]).length → gn (t ++ [n]) j ≤ 60 :=fun j hj => by
 by_cases c:j < t.length
 ·have :=h j c
  simp only [gn,List.getD] at this ⊢
  rw [List.getElem?_append_left c];exact this
 ·have e:j = t.length :=by rw [List.length_append] at hj;simp at hj;omega
  subst e
  simp only [gn,List.getD]
  rw [List.getElem?_append_right (Nat.le_refl _),Nat.sub_self];exact hn
theorem srchG {sp:List (Nat × Nat)} {nt:List Nat} (h:fdOk sp nt):∀ (r:List (Nat × Nat)) (t:List Nat) (LS:List (List Nat)),sp.drop t.length = r → t.length ≤ sp.length → (∀ j,j < t.length → gn t j ≤ 60) → LS.length + 6 ^ r.length ≤ 50000 →
  HG sp nt (sv (zl t)) (lsG LS) (lsG (LS ++ gsL nt r t))
 | [],t,LS,hr,hl,h60,hb => by
  have h1 :=h.l1
  have h2 :=h.ln
  have e:t.length = sp.length :=by
   have :=congrArg List.length hr
   rw [List.length_drop] at this
   simp at this
   omega
  have hlf:lfOk sp nt t :=⟨h,e,h60⟩
  have ht:t ≠ [] :=fun z => by rw [z] at e;simp at e;omega
  rw [sv_zl ht]
  show HG sp nt (nl (zl t)) (lsG LS) (lsG (LS ++ if bkL t nt nt.length = [] then [t] else []))
  have hb:LS.length ≤ 50000 :=Nat.le_trans (Nat.le_add_right _ _) hb
  by_cases c:bkL t nt nt.length = []
  ·rw [if_pos c]
   by_cases hLS:LS = []
   ·subst hLS;exact leafG_yes0 hlf c
   ·exact leafG_yes1 hLS hb hlf c
  ·rw [if_neg c,List.append_nil]
   by_cases hLS:LS = []
   ·subst hLS;exact leafG_no0 hlf c
   ·exact leafG_no1 hLS hlf c
 |s :: r,t,LS,hr,hl,h60,hb => by
  have hlt:t.length < sp.length :=by
   have :=congrArg List.length hr
   rw [List.length_drop,List.length_cons] at this
   omega
  have hsr:gq sp t.length = s ∧ sp.drop (t.length + 1) = r :=by
   rw [List.drop_eq_getElem_cons hlt] at hr
   injection hr with h1 h2
   exact ⟨by simp [gq,List.getD,hlt,h1],h2⟩
  have hs :=h.sp t.length hlt
  have hmem:∀ s,s ∈ r → s.2 ≤ s.1 + 5 :=fun x hx => by
   rw [← hsr.2] at hx
   obtain ⟨i,hi,e⟩ :=List.getElem_of_mem (List.mem_of_mem_drop hx)
   have :=(h.sp i hi).2.2.2
   rw [show gq sp i = x by simp [gq,List.getD,hi,e]] at this
   exact this
  have hlen :=fun n => gsL_len nt r (t ++ [n]) hmem
  obtain ⟨g,hg0⟩ : ∃ g:Nat → List (List Nat),g = fun n => gsL nt r (t ++ [n]) :=⟨_,rfl⟩
  have hg1:∀ n,(g n).length ≤ 6 ^ r.length :=fun n => by rw [hg0];exact hlen n
  have hp:6 ^ (s :: r).length = 6 * 6 ^ r.length :=by rw [List.length_cons,Nat.pow_succ,Nat.mul_comm]
  rw [hp] at hb
  have go:∀ j,(gq sp t.length).1 + j ≤ (gq sp t.length).2 → HG sp nt (nl (zl (t ++ [(gq sp t.length).1 + j]))) (lsG (LS ++ ndG (gq sp t.length).1 g j)) (lsG (LS ++ ndG (gq sp t.length).1 g j ++ g ((gq sp t.length).1 + j))) :=fun j hj => by
   have hn :=ndG_len hg1 (gq sp t.length).1 j
   have hj5:j ≤ 5 :=by omega
   have hm:j * 6 ^ r.length ≤ 5 * 6 ^ r.length :=Nat.mul_le_mul_right _ hj5
   have :=srchG h r (t ++ [(gq sp t.length).1 + j]) (LS ++ ndG (gq sp t.length).1 g j) (by rw [List.length_append];exact hsr.2) (by rw [List.length_append];exact hlt) (gn_app_le h60 (by omega)) (by rw [List.length_append];omega)
   rw [sv_zl (by simp)] at this
   rw [hg0]
   rw [hg0] at this
   exact this
  have eg:gsL nt (s :: r) t = ndG (gq sp t.length).1 g ((gq sp t.length).2 + 1 - (gq sp t.length).1) :=by rw [hsr.1,hg0];rfl
  rw [eg]
  by_cases ht:t = []
  ·subst ht
   by_cases hLS:LS = []
   ·subst hLS;exact nodeG00 h hlt fun j hj => go j hj
   ·exact nodeG01 h hLS hlt fun j hj => go j hj
  ·rw [sv_zl ht]
   by_cases hLS:LS = []
   ·subst hLS;exact nodeG10 h ht hlt fun j hj => go j hj
   ·exact nodeG11 h ht hLS hlt fun j hj => go j hj
def gvl:List (List Nat) → AV
 | [] => .nils
 |x :: r => .lst (tvl (x :: r)) (x :: r).length .no
abbrev guV (sp:List (Nat × Nat)) (nt:List Nat) (G:List (List Nat)):AV :=.agg [spA sp,ntA nt,gvl G]
theorem gvl_no (G:List (List Nat)):Live noL (gvl G) :=by
 cases G with
 |nil => trivial
 |cons x r => exact ⟨tvl_no _,fun _ h => nomatch h⟩
theorem wk_agg3 {a b x y:AV} (h:Wk x y):Wk (.agg [a,b,x]) (.agg [a,b,y]) :=by
 intro g w u hu
 simp only [VRel,VRels] at hu ⊢
 obtain ⟨vs,h1,u1,us1,e1,r1,u2,us2,e2,r2,u3,us3,e3,r3,e4⟩ :=hu
 exact ⟨vs,h1,u1,us1,e1,r1,u2,us2,e2,r2,u3,us3,e3,h g w _ r3,e4⟩
theorem guess_pure {nt:List Nat} {sp:List (Nat × Nat)} (h:fdOk sp nt) :
  Pure prog 117 [fdA sp nt] (guV sp nt (gsL nt sp [])) :=by
 have lS :=flat_no (zp sp)
 have lN :=ntE_no 0 nt
 have hsp:sp.length ≤ 6 :=by have :=h.ln;have :=h.l3;omega
 have hp:6 ^ sp.length ≤ 6 ^ 6 :=Nat.pow_le_pow_right (by decide) hsp
 have hf :=srchG h sp [] [] rfl (Nat.zero_le _) (fun j hj => absurd hj (Nat.not_lt_zero _)) (by rw [List.length_nil,Nat.zero_add];exact Nat.le_trans hp (by decide))
 rw [List.nil_append] at hf
 obtain ⟨G,hG⟩ : ∃ G,gsL nt sp [] = G :=⟨_,rfl⟩
 rw [hG] at hf ⊢
 have lG :=gvl_no G
 cases G with
 |nil =>
  have hf:HG sp nt .nils none none :=hf
  refine pure_sym hE rfl (by repeat' (first | exact trivial | assumption | exact flat_no _ | exact (fun _ h => nomatch h) | apply And.intro)) (by repeat' (first | exact trivial | assumption | exact flat_no _ | exact (fun _ h => nomatch h) | apply And.intro)) fun S q pc hS hq hC hE => ?_
  conv => whnf
  refine sym_call hC ?_
  conv => whnf
  refine sym_inline hE hS ?_
  conv => whnf
  refine sym_inline hE hS ?_
  conv => whnf
  refine sym_call hC ?_
  conv => whnf
  refine sym_hcallG0 hS hf (by exact Nat.le_of_ble_eq_true rfl) (by repeat' (first | exact trivial | exact .inl rfl | exact .inr rfl | apply And.intro)) rfl ?_
  conv => whnf
  exact ⟨_,rfl,Wk.refl _⟩
 |cons x r =>
  have hf:HG sp nt .nils none (some (tvl (x :: r),(x :: r).length)) :=hf
  refine pure_sym hE rfl (by repeat' (first | exact trivial | assumption | exact flat_no _ | exact (fun _ h => nomatch h) | apply And.intro)) (by repeat' (first | exact trivial | assumption | exact flat_no _ | exact (fun _ h => nomatch h) | apply And.intro)) fun S q pc hS hq hC hE => ?_
  conv => whnf
  refine sym_call hC ?_
  conv => whnf
  refine sym_inline hE hS ?_
  conv => whnf
  refine sym_inline hE hS ?_
  conv => whnf
  refine sym_call hC ?_
  conv => whnf
  refine sym_hcallG1 hS hf (by exact Nat.le_of_ble_eq_true rfl) (by exact Nat.le_of_ble_eq_true rfl) (by repeat' (first | exact trivial | exact .inl rfl | exact .inr rfl | apply And.intro)) rfl rfl rfl ?_
  conv => whnf
  exact ⟨_,rfl,wk_agg3 (wk_own rfl)⟩
theorem asked_pure {nt:List Nat} {sp:List (Nat × Nat)} (h:fdOk sp nt) (hne:gsL nt sp [] ≠ []) :
  Pure prog 54 [fdA sp nt,.bool true] (.tup [guV sp nt (gsL nt sp []),iv 0]) :=by
 have lS :=flat_no (zp sp)
 have lN :=ntE_no 0 nt
 have pI :=isFind_pure h
 have pG :=guess_pure h
 obtain ⟨x,r,hG⟩ : ∃ x r,gsL nt sp [] = x :: r :=by
  cases e:gsL nt sp [] with
  |nil => exact absurd e hne
  |cons x r => exact ⟨x,r,rfl⟩
 rw [hG] at pG ⊢
 have lG :=tvl_no (x :: r)
 have pG:Pure prog 117 [fdA sp nt] (.agg [spA sp,ntA nt,.lst (tvl (x :: r)) (x :: r).length .no]) :=pG
 refine pure_sym hE rfl (by repeat' (first | exact trivial | assumption | exact flat_no _ | exact (fun _ h => nomatch h) | apply And.intro)) (by repeat' (first | exact trivial | assumption | exact flat_no _ | exact (fun _ h => nomatch h) | apply And.intro)) fun S q pc hS hq hC hE => ?_
 conv => whnf
 refine sym_pure hC (pI) ?_
 conv => whnf
 refine sym_pure hC (pG) ?_
 conv => whnf
 exact ⟨_,rfl,Wk.refl _⟩
end
end Go.Abs.Seat
