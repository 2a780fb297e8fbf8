/-
  The search for guesses: its leaves.
-/
import Derived.Test.YtcnidgafdonioaaGreatVJ2
import Derived.Test.YtcnidgafdonioaaGreatVU5
namespace Go.Abs.Seat
noncomputable section
open Go Go.Abs Go.Proofs.Tryz
set_option maxRecDepth 100000
set_option maxHeartbeats 40000000
attribute [local irreducible] IntKind.wrap pEq
noncomputable def findRF:Code → Option (Code × Code)
 | .rangeFunc _ _ x y => some (x,y)
 | .seq a b => match findRF a with | some x => some x | none => findRF b
 | .block _ c => findRF c
 | _ => none
noncomputable def gAs:Code :=((f117.body.bind findRF).getD (.skip,.skip)).1
noncomputable def gBo:Code :=((f117.body.bind findRF).getD (.skip,.skip)).2
abbrev spA (sp:List (Nat × Nat)):AV :=pv (zp sp)
abbrev gTm (sp:List (Nat × Nat)) (nt:List Nat):Tr AV :=
 .node (fdA sp nt) (.node (.ptr 0 0) (.node (.ptr 2 0) (.node (fdA sp nt) (.node .unk .nil .nil) .nil) (.node .unk (.node .unk .nil .nil) .nil)) (.node (fdA sp nt) (.node .unk (.node .unk .nil .nil) .nil) (.node .unk (.node .unk .nil .nil) .nil))) (.node (.ptr 1 0) (.node .unk (.node (.func (.func 188) [] [.ptr 3 0]) (.node .unk .nil .nil) .nil) (.node .unk (.node .unk .nil .nil) .nil)) (.node (.agg [spA sp,ntA nt,.nils]) (.node .unk (.node .unk .nil .nil) .nil) (.node .unk .nil .nil)))
abbrev gCa:List AV :=[.ptr 3 0,.ptr 6 0,.ptr 7 0]
abbrev gOb (sp:List (Nat × Nat)) (nt:List Nat) (X:AObj):List AObj :=
 [.cells (.node (spA sp) (.node (ntA nt) .nil .nil) .nil) 2 44,.cells (.node .nils (.node .nils .nil .nil) (.node .nils .nil .nil)) 3 115,X,.cells (.node (spA sp) (.node (ntA nt) .nil .nil) .nil) 2 44,.dfr false,.loop .ready 0 (gTm sp nt) 0 [9] gAs gBo 4,.cells (.node (.yld 5) .nil .nil) 1 235,.cells (.node (.func (.func 189) [] gCa) .nil .nil) 1 235]
abbrev hpG (sp:List (Nat × Nat)) (nt:List Nat) (X:AObj):Tr AObj :=appT (gOb sp nt X) 0 .nil
theorem hpG_end (sp:List (Nat × Nat)) (nt:List Nat) (X:AObj):HEnd (hpG sp nt X) 8 :=appT_end (gOb sp nt X) 0 .nil fun i _ => Tr.get_nil i
abbrev HG (sp:List (Nat × Nat)) (nt:List Nat) (v:AV) (L L':LState):Prop :=HFunG prog (spA sp) (ntA nt) 189 (v :: gCa) (hv (hpG sp nt .hole)) 8 2 115 1 110 L L' (.bool true)
theorem fdA_no (sp:List (Nat × Nat)) (nt:List Nat):Live noL (fdA sp nt) :=⟨⟨flat_no _,fun _ h => nomatch h⟩,ntA_no nt,trivial⟩
theorem gu0_no (sp:List (Nat × Nat)) (nt:List Nat):Live noL (.agg [spA sp,ntA nt,.nils]) :=⟨⟨flat_no _,fun _ h => nomatch h⟩,ntA_no nt,trivial,trivial⟩
theorem hbdG (sp:List (Nat × Nat)) (nt:List Nat):ObBdA 8 (hv (hpG sp nt .hole)) 2 8 :=by
 have lS :=flat_no (zp sp)
 have lN :=ntE_no 0 nt
 repeat' (first | exact trivial | exact .inl rfl | apply And.intro | exact bdl_no lS | exact bdl_no lN | exact Nat.zero_le _ | exact Nat.le_of_ble_eq_true rfl | refine Or.inr ?_)
 all_goals first | exact bz (fdA_no sp nt) | exact bz (gu0_no sp nt)
def tvl:List (List Nat) → List AV
 | [] => []
 |t :: r => nl (zl t) :: tvl r
theorem tvl_app:∀ a b,tvl (a ++ b) = tvl a ++ tvl b
 | [],_ => rfl
 | _ :: r,b => congrArg (_ :: ·) (tvl_app r b)
theorem tvl_no:∀ l,Lives noL (tvl l)
 | [] => trivial
 | _ :: r => ⟨nl_no _,tvl_no r⟩
theorem tvl_len:∀ l,(tvl l).length = l.length
 | [] => rfl
 | _ :: r => congrArg (· + 1) (tvl_len r)
def lsG:List (List Nat) → LState
 | [] => none
 |x :: r => some (tvl (x :: r),(x :: r).length)
theorem lsG_ne {l:List (List Nat)} (h:l ≠ []):lsG l = some (tvl l,l.length) :=by
 cases l with
 |nil => exact absurd rfl h
 |cons x r => rfl
theorem bdcG {l:List (List Nat)} {k c n:Nat} (hc:c + 1 ≤ n):bd (.lst (tvl l) k (.ch c)) ≤ n :=Nat.max_le.2 ⟨hc,bdl_no (tvl_no l)⟩
theorem lenIs_tvl (l:List (List Nat)):lenIs (tvl l) (l.length * 1) = true :=by rw [Nat.mul_one,← tvl_len];exact lenIs_eq _
theorem lsG_bd (l:List (List Nat)):LBd 8 (lsG l) :=by
 cases l with
 |nil => trivial
 |cons x r => exact bdl_no (tvl_no _)
structure lfOk (sp:List (Nat × Nat)) (nt:List Nat) (t:List Nat):Prop where
 fd:fdOk sp nt
 ln:t.length = sp.length
 h60:∀ j,j < t.length → gn t j ≤ 60
theorem lcG {w t:AV} (LS:List (List Nat)) (x:List Nat) (c:Nat) (ty:TypeId):AObj.cells (.node w (.node t .nil .nil) (.node (.lst (tvl LS ++ [nl (zl x)]) (LS.length + (0 + 1)) (.ch c)) .nil .nil)) 3 ty = gcell w t ty c (some (tvl (LS ++ [x]),(LS ++ [x]).length)) :=by
 unfold gcell
 rw [tvl_app,List.length_append];rfl
theorem lhG (LS:List (List Nat)) (x:List Nat) (e:TypeId):AObj.chain (LS.length + (0 + 1)) 1 e = lchn 1 e (some (tvl (LS ++ [x]),(LS ++ [x]).length)) :=by
 unfold lchn
 rw [List.length_append];rfl
theorem leafG_no0 {sp:List (Nat × Nat)} {nt t:List Nat} (h:lfOk sp nt t) (hn:bkL t nt nt.length ≠ []):HG sp nt (nl (zl t)) none none :=by
 have lS :=flat_no (zp sp)
 have lN :=ntE_no 0 nt
 have lT :=ivs_no (zl t)
 have hz :=zl_len t
 have hzs :=zp_len sp
 have hl :=h.ln
 have hsp :=h.fd.ln
 have h3 :=h.fd.l3
 have pB :=breaks_pure (sp :=sp) (nt :=nt) (T :=t) (by omega) h3 h.h60
 have eL:(((zl t).length:Nat):Int) == (((zp sp).length:Nat):Int) :=by rw [beq_iff_eq];omega
 have eB:((((zl (bkL t nt nt.length)).length:Nat):Int) == 0) = false :=beq_eq_false_iff_ne.2 fun z => hn (List.length_eq_zero_iff.1 (by have :=zl_len (bkL t nt nt.length);omega))
 have lB :=ivs_no (zl (bkL t nt nt.length))
 rw [sv_zl hn] at pB
 refine hfunG_sym (w0 :=spA sp) (t0 :=ntA nt) ⟨lS,fun _ h => nomatch h⟩ (ntA_no nt) (h :=hpG sp nt (gcell (spA sp) (ntA nt) 115 8 none)) hE rfl (hpG_end sp nt _) rfl (Nat.le_of_ble_eq_true rfl) (Nat.max_le.2 ⟨bdl_no lT,Nat.le_of_ble_eq_true rfl⟩) (Nat.zero_le _) (hbdG sp nt) trivial trivial (fun h => absurd rfl h) (by repeat' (first | exact trivial | exact .inl rfl | exact .inr rfl | apply And.intro)) rfl rfl fun S q pc hS hq hC hE => ?_
 conv => whnf
 refine bool_true (eL) ?_
 conv => whnf
 refine sym_code hE hS ?_
 conv => whnf
 refine sym_code hE hS ?_
 conv => whnf
 refine sym_pure hC (pB) ?_
 conv => whnf
 refine bool_false (eB) ?_
 conv => whnf
 exact ⟨_,8,rfl,WkV.refl _,Nat.le_refl _,fun h => absurd rfl h,⟨.inr (.same _),.inr (.same _),.inr (OWk.loop _ _ _ _ _ _ _ (by repeat' (first | exact trivial | exact WkV.refl _ | exact WkV.unk _ | apply And.intro))),.inr (.same _),.inr (.same _),.inl rfl,.inr (.same _),.inr (.same _),trivial⟩,rfl,fun h => absurd rfl h⟩
theorem leafG_no1 {sp:List (Nat × Nat)} {nt t:List Nat} {LS:List (List Nat)} (hLS:LS ≠ []) (h:lfOk sp nt t) (hn:bkL t nt nt.length ≠ []):HG sp nt (nl (zl t)) (lsG LS) (lsG LS) :=by
 have lS :=flat_no (zp sp)
 have lN :=ntE_no 0 nt
 have lT :=ivs_no (zl t)
 have hz :=zl_len t
 have hzs :=zp_len sp
 have hl :=h.ln
 have hsp :=h.fd.ln
 have h3 :=h.fd.l3
 have pB :=breaks_pure (sp :=sp) (nt :=nt) (T :=t) (by omega) h3 h.h60
 have eL:(((zl t).length:Nat):Int) == (((zp sp).length:Nat):Int) :=by rw [beq_iff_eq];omega
 have eB:((((zl (bkL t nt nt.length)).length:Nat):Int) == 0) = false :=beq_eq_false_iff_ne.2 fun z => hn (List.length_eq_zero_iff.1 (by have :=zl_len (bkL t nt nt.length);omega))
 have lB :=ivs_no (zl (bkL t nt nt.length))
 rw [sv_zl hn] at pB
 have lL :=tvl_no LS
 rw [lsG_ne hLS]
 refine hfunG_sym (w0 :=spA sp) (t0 :=ntA nt) ⟨lS,fun _ h => nomatch h⟩ (ntA_no nt) (n :=9) (h :=appT [.chain LS.length 1 110] 8 (hpG sp nt (gcell (spA sp) (ntA nt) 115 8 (some (tvl LS,LS.length))))) hE rfl (show HEnd _ 9 from appT_end [_] 8 _ (hpG_end sp nt _)) rfl (Nat.le_of_ble_eq_true rfl) (Nat.max_le.2 ⟨bdl_no lT,Nat.le_of_ble_eq_true rfl⟩) (Nat.zero_le _) (hbdG sp nt) (bdl_no lL) (bdl_no lL) (fun _ h => nomatch h) (by repeat' (first | exact trivial | exact .inl rfl | exact .inr rfl | apply And.intro)) rfl rfl fun S q pc hS hq hC hE => ?_
 conv => whnf
 refine bool_true (eL) ?_
 conv => whnf
 refine sym_code hE hS ?_
 conv => whnf
 refine sym_code hE hS ?_
 conv => whnf
 refine sym_pure hC (pB) ?_
 conv => whnf
 refine bool_false (eB) ?_
 conv => whnf
 exact ⟨_,8,rfl,WkV.refl _,Nat.le_refl _,fun _ => rfl,⟨.inr (.same _),.inr (.same _),.inr (OWk.loop _ _ _ _ _ _ _ (by repeat' (first | exact trivial | exact WkV.refl _ | exact WkV.unk _ | apply And.intro))),.inr (.same _),.inr (.same _),.inl rfl,.inr (.same _),.inr (.same _),trivial⟩,rfl,fun _ => rfl⟩
theorem leafG_yes0 {sp:List (Nat × Nat)} {nt t:List Nat} (h:lfOk sp nt t) (hn:bkL t nt nt.length = []):HG sp nt (nl (zl t)) none (lsG [t]) :=by
 have lS :=flat_no (zp sp)
 have lN :=ntE_no 0 nt
 have lT :=ivs_no (zl t)
 have hz :=zl_len t
 have hzs :=zp_len sp
 have hl :=h.ln
 have hsp :=h.fd.ln
 have h3 :=h.fd.l3
 have pB :=breaks_pure (sp :=sp) (nt :=nt) (T :=t) (by omega) h3 h.h60
 have eL:(((zl t).length:Nat):Int) == (((zp sp).length:Nat):Int) :=by rw [beq_iff_eq];omega
 rw [hn] at pB
 have pB:Pure prog 53 [nl (zl t),fdA sp nt] .nils :=pB
 refine hfunG_sym (w0 :=spA sp) (t0 :=ntA nt) ⟨lS,fun _ h => nomatch h⟩ (ntA_no nt) (h :=hpG sp nt (gcell (spA sp) (ntA nt) 115 8 none)) hE rfl (hpG_end sp nt _) rfl (Nat.le_of_ble_eq_true rfl) (Nat.max_le.2 ⟨bdl_no lT,Nat.le_of_ble_eq_true rfl⟩) (Nat.zero_le _) (hbdG sp nt) trivial (lsG_bd [t]) (fun h => absurd rfl h) (by repeat' (first | exact trivial | exact .inl rfl | exact .inr rfl | apply And.intro)) rfl rfl fun S q pc hS hq hC hE => ?_
 conv => whnf
 refine bool_true (eL) ?_
 conv => whnf
 refine sym_code hE hS ?_
 conv => whnf
 refine sym_code hE hS ?_
 conv => whnf
 refine sym_pure hC (pB) ?_
 conv => whnf
 exact ⟨_,8,rfl,WkV.refl _,Nat.le_of_ble_eq_true rfl,fun h => absurd rfl h,⟨.inr (.same _),.inr (.same _),.inr (OWk.loop _ _ _ _ _ _ _ (by repeat' (first | exact trivial | exact WkV.refl _ | exact WkV.unk _ | apply And.intro))),.inr (.same _),.inr (.same _),.inl rfl,.inr (.same _),.inr (.same _),trivial⟩,rfl,fun _ => rfl⟩
theorem leafG_yes1 {sp:List (Nat × Nat)} {nt t:List Nat} {LS:List (List Nat)} (hLS:LS ≠ []) (hb:LS.length ≤ 50000) (h:lfOk sp nt t) (hn:bkL t nt nt.length = []):HG sp nt (nl (zl t)) (lsG LS) (lsG (LS ++ [t])) :=by
 have lS :=flat_no (zp sp)
 have lN :=ntE_no 0 nt
 have lT :=ivs_no (zl t)
 have hz :=zl_len t
 have hzs :=zp_len sp
 have hl :=h.ln
 have hsp :=h.fd.ln
 have h3 :=h.fd.l3
 have pB :=breaks_pure (sp :=sp) (nt :=nt) (T :=t) (by omega) h3 h.h60
 have eL:(((zl t).length:Nat):Int) == (((zp sp).length:Nat):Int) :=by rw [beq_iff_eq];omega
 rw [hn] at pB
 have pB:Pure prog 53 [nl (zl t),fdA sp nt] .nils :=pB
 have lL :=tvl_no LS
 rw [lsG_ne hLS]
 rw [lsG_ne (show LS ++ [t] ≠ [] by simp)]
 refine hfunG_sym (w0 :=spA sp) (t0 :=ntA nt) ⟨lS,fun _ h => nomatch h⟩ (ntA_no nt) (n :=9) (h :=appT [.chain LS.length 1 110] 8 (hpG sp nt (gcell (spA sp) (ntA nt) 115 8 (some (tvl LS,LS.length))))) hE rfl (show HEnd _ 9 from appT_end [_] 8 _ (hpG_end sp nt _)) rfl (Nat.le_of_ble_eq_true rfl) (Nat.max_le.2 ⟨bdl_no lT,Nat.le_of_ble_eq_true rfl⟩) (Nat.zero_le _) (hbdG sp nt) (bdl_no lL) (bdl_no (tvl_no _)) (fun _ h => nomatch h) (by repeat' (first | exact trivial | exact .inl rfl | exact .inr rfl | apply And.intro)) rfl rfl fun S q pc hS hq hC hE => ?_
 conv => whnf
 refine bool_true (eL) ?_
 conv => whnf
 refine sym_code hE hS ?_
 conv => whnf
 refine sym_code hE hS ?_
 conv => whnf
 refine sym_pure hC (pB) ?_
 conv => whnf
 refine bool_true (decide_eq_true (show (LS.length + (0 + 1)) * 24 ≤ 140737488355328 by omega)) ?_
 conv => whnf
 refine bool_true (decide_eq_true (show LS.length + (0 + 1) ≤ 9223372036854775807 by omega)) ?_
 conv => whnf
 refine bool_true (lenIs_tvl LS) ?_
 conv => whnf
 refine bool_true (decide_eq_true rfl) ?_
 conv => whnf
 exact ⟨_,8,rfl,WkV.refl _,Nat.le_refl _,fun _ => rfl,⟨.inr (.same _),.inr (.same _),.inr (OWk.loop _ _ _ _ _ _ _ (by repeat' (first | exact trivial | exact WkV.refl _ | exact WkV.unk _ | apply And.intro))),.inr (.same _),.inr (.same _),.inl rfl,.inr (.same _),.inr (.same _),trivial⟩,(lcG LS t 8 _),fun _ => lhG LS t _⟩
end
end Go.Abs.Seat
