/-
  What the program tells of a piece: trains, rates, how far off.
-/
import Derived.Test.YtcnidgafdonioaaGreatVB16
import Derived.Test.YtcnidgafdonioaaGreatVU7
import Derived.Test.YtcnidgafdonioaaGreatVU10
namespace Go.Abs.Seat
noncomputable section
open Go Go.Abs Go.Proofs.Tryz
set_option maxRecDepth 100000
set_option maxHeartbeats 40000000
attribute [local irreducible] IntKind.wrap pEq
structure pcN (N:List Lk) (H:List Nat):Prop where
 ok:okN N
 l1:1 ≤ N.length
 l5:N.length ≤ 5
 h1:1 ≤ H.length
 h4:H.length ≤ 4
 hd:∀ x,x ∈ H → 1 ≤ x ∧ x ≤ N.length
theorem ints_nat:∀ (M:List Int),(∀ j,j < M.length → 0 ≤ gi M j) → ∃ H:List Nat,M = zl H
 | [],_ => ⟨[],rfl⟩
 |x :: r,h => by
  obtain ⟨H,e⟩ :=ints_nat r fun j hj => h (j + 1) (by simpa using hj)
  have hx :=h 0 (by simp)
  refine ⟨x.toNat :: H,?_⟩
  rw [e]
  exact congrArg (· :: zl H) (toN hx).symm
theorem pcN_of {L:List LkI} {M:List Int} (h:pcOk L M):∃ N H,L = cL N ∧ M = zl H ∧ pcN N H :=by
 obtain ⟨⟨h1,h2⟩,⟨N,rfl,hN⟩,h3⟩ :=h
 obtain ⟨H,rfl⟩ :=ints_nat M fun j hj => by have :=h3 j hj;omega
 rw [cL_len] at h1
 rw [zl_len] at h2
 refine ⟨N,H,rfl,rfl,hN,h1.1,h1.2,h2.1,h2.2,fun x hx => ?_⟩
 obtain ⟨j,hj,e⟩ :=List.getElem_of_mem hx
 have h4 :=h3 j (by rw [zl_len];exact hj)
 rw [gi_zl H hj,cL_len,show gn H j = x by rw [← e];simp [gn,List.getD,hj]] at h4
 exact ⟨Int.ofNat_le.1 h4.1,Int.ofNat_le.1 h4.2⟩
theorem pcN.pc {N:List Lk} {H:List Nat} (h:pcN N H):pcOk (cL N) (zl H) :=by
 refine ⟨⟨by rw [cL_len];exact ⟨h.l1,h.l5⟩,by rw [zl_len];exact ⟨h.h1,h.h4⟩⟩,⟨N,rfl,h.ok⟩,fun j hj => ?_⟩
 rw [zl_len] at hj
 rw [gi_zl H hj,cL_len]
 have :=h.hd _ (gn_mem H hj)
 exact ⟨Int.ofNat_le.2 this.1,Int.ofNat_le.2 this.2⟩
theorem pcN.isP {N:List Lk} {H:List Nat} (h:pcN N H):Pure prog 45 [.agg [nkA N,nl (zl H)]] (.bool true) :=by
 have :=isPiece_yes (cL N) (zl H) (by rw [cL_len];exact ⟨h.l1,h.l5⟩) (by rw [zl_len];exact ⟨h.h1,h.h4⟩)
 rw [decide_eq_true h.pc,nkA_eq] at this
 exact this
theorem rPiece_pure {x h:AV} {L:List LkI} {M:List Int} (hx:LL x L) (hh:IL h M):Pure prog 35 [.agg [x,h]] (.bool (decide (pcOk L M))) :=by
 by_cases hn:(1 ≤ L.length ∧ L.length ≤ 5) ∧ (1 ≤ M.length ∧ M.length ≤ 4)
 ·rcases hx with ⟨_,rfl⟩ | rfl
  ·exact absurd hn.1.1 (by decide)
  rcases hh with ⟨_,rfl⟩ | rfl
  ·exact absurd hn.2.1 (by decide)
  exact rPiece_yes L M hn.1 hn.2
 ·rw [decide_eq_false fun z => hn z.1]
  exact rPiece_no hx hh hn
theorem tvA_pos {N:List Lk} (h:wfN N) {a:Nat} (ha:1 ≤ a) (h2:a ≤ N.length):tvA (tr N a) = pv (zp (tr N a)) :=by
 obtain ⟨k,rfl⟩ : ∃ k,a = k + 1 :=⟨a - 1,by omega⟩
 rw [tr_succ h (by omega),tvA_app]
def rdA (N:List Lk) (a:Nat):Nat × Nat :=redF (rtA N a).1 (rtA N a).2
theorem tvN {N:List Lk} (h:okN N) {a:Nat} (ha:1 ≤ a) (h2:a ≤ N.length):TV (pv (zp (tr N a))) (tr N a).length (rdA N a).1 (rdA N a).2 :=
 tv_zp (tq :=tN) (fun _ h => h) ⟨tr_pos h.wf ha h2,h.dl h2⟩ (h.all a a (Nat.le_refl _) h2)
theorem sTurns_pure {v:AV} {k x y:Nat} (hv:TV v k x y):Pure prog 48 [v] (.tup [fv (Int.ofNat x) (Int.ofNat y),.bool (decide (k % 2 = 0)),iv 0]) :=by
 have k3 :=hv.k1
 have h1 :=hv.isT
 have h2 :=hv.tu
 obtain ⟨xs,rfl,lx⟩ :=hv.sh
 obtain rfl | rfl | rfl:k = 1 ∨ k = 2 ∨ k = 3 :=by omega
 all_goals
  refine pure_sym hE rfl (by repeat' (first | exact trivial | assumption | exact flat_no _ | exact (fun _ h => nomatch h) | apply And.intro)) (by repeat' (first | exact trivial | assumption | exact flat_no _ | exact (fun _ h => nomatch h) | apply And.intro)) fun S q pc hS hq hC hE => ?_
  conv => whnf
  refine sym_pure hC (h1) ?_
  conv => whnf
  refine sym_pure hC (h2) ?_
  conv => whnf
  exact ⟨_,rfl,Wk.refl _⟩
theorem sTrain_yes {N:List Lk} {H:List Nat} (h:pcN N H) {a:Nat} (h1:1 ≤ a) (ha:a ≤ N.length):Pure prog 8 [.agg [nkA N,nl (zl H)],nv a] (.tup [pv (zp (tr N a)),iv 0]) :=by
 have lN :=lks_no (cL N)
 have lM :=ivs_no (zl H)
 have lt :=flat_no (zp (tr N a))
 have c1:(!decide (1 ≤ Int.ofNat a ∧ Int.ofNat a ≤ (N.length:Int))) = false :=nt_t (decide_eq_true ⟨Int.ofNat_le.2 h1,Int.ofNat_le.2 ha⟩)
 have pt :=trainOf_pure h.ok.wf h.l5 (zl H) ha (h.ok.dl ha)
 rw [tvA_pos h.ok.wf h1 ha] at pt
 refine pure_sym hE rfl (by repeat' (first | exact trivial | assumption | exact flat_no _ | exact (fun _ h => nomatch h) | apply And.intro)) (by repeat' (first | exact trivial | assumption | exact flat_no _ | exact (fun _ h => nomatch h) | apply And.intro)) fun S q pc hS hq hC hE => ?_
 conv => whnf
 repeat ((first
  |refine ko_sT c1 ?_
  |refine ko_rF c1 ?_
  |refine plan_as (pick_f c1) ?_
  |refine bool_false c1 ?_
  |refine sym_pure hC (h.isP) ?_
  |refine sym_pure hC (sin_pure (Int.ofNat a) 1 N.length) ?_
  |refine sym_pure hC (pt) ?_
  |refine sym_drawn hS (by kernel_rfl) ?_);conv => whnf)
 exact ⟨_,rfl,Wk.refl _⟩
def rdL (N:List Lk) (k:Nat):List (Nat × Nat) :=(List.range k).map (rdA N)
theorem rdL_len (N:List Lk) (k:Nat):(rdL N k).length = k :=by simp [rdL]
theorem rdL_succ (N:List Lk) (k:Nat):rdL N (k + 1) = rdL N k ++ [rdA N k] :=by simp [rdL,List.range_succ]
theorem rdL_get (N:List Lk) {k a:Nat} (h:a < k):gq (rdL N k) a = rdA N a :=by simp [gq,rdL,List.getD,h]
def snA (N:List Lk) (a:Nat):Bool :=decide ((tr N a).length % 2 = 0)
def snL (N:List Lk) (k:Nat):List Bool :=(List.range k).map (snA N)
theorem snL_len (N:List Lk) (k:Nat):(snL N k).length = k :=by simp [snL]
theorem snL_succ (N:List Lk) (k:Nat):snL N (k + 1) = snL N k ++ [snA N k] :=by simp [snL,List.range_succ]
def bls:List Bool → List AV
 | [] => []
 |b :: r => .bool b :: bls r
theorem bls_len:∀ l,(bls l).length = l.length
 | [] => rfl
 | _ :: r => congrArg (· + 1) (bls_len r)
theorem bls_app:∀ (l r:List Bool),bls (l ++ r) = bls l ++ bls r
 | [],_ => rfl
 |b :: l,r => congrArg (AV.bool b :: ·) (bls_app l r)
theorem bls_no:∀ l,Lives noL (bls l)
 | [] => trivial
 | _ :: r => ⟨trivial,bls_no r⟩
theorem wkl_bls:∀ l,wkl (bls l) = bls l
 | [] => rfl
 | _ :: r => by simp only [bls,wkl,wk,wkl_bls r]
abbrev blV (l:List Bool):AV :=.lst (bls l) l.length .no
theorem lenIs_bls (l:List Bool):lenIs (bls l) (l.length * 1) = true :=by
 have :=lenIs_eq (bls l)
 rwa [bls_len,← Nat.mul_one l.length] at this
def rdV (N:List Lk) (i c:Nat):AV :=.lst (flat (zp (rdL N (i + 1)))) (zp (rdL N (i + 1))).length (.ch c)
def snV (N:List Lk) (i c:Nat):AV :=.lst (bls (snL N (i + 1))) (snL N (i + 1)).length (.ch c)
theorem bd_rdV (N:List Lk) (i:Nat) {c n:Nat} (h:c + 1 ≤ n):bd (rdV N i c) ≤ n :=Nat.max_le.2 ⟨h,bdl_no (flat_no _)⟩
theorem bd_snV (N:List Lk) (i:Nat) {c n:Nat} (h:c + 1 ≤ n):bd (snV N i c) ≤ n :=Nat.max_le.2 ⟨h,bdl_no (bls_no _)⟩
theorem rd_first (N:List Lk) (c:Nat):AV.lst [iv 1,iv 1,nv (rdA N (0 + 1)).1,nv (rdA N (0 + 1)).2] (0 + 1 + (0 + 1)) (.ch c) = rdV N 1 c :=by
 have e0:rdL N 1 = [(1,1)] :=by
  show [rdA N 0] = _
  rw [show rdA N 0 = (1,1) by show redF 1 1 = _;unfold redF;rw [Nat.gcd_self]]
 unfold rdV
 rw [rdL_succ,e0]
 rfl
theorem sn_first (N:List Lk) (c:Nat):AV.lst [.bool true,.bool (snA N (0 + 1))] (0 + 1 + (0 + 1)) (.ch c) = snV N 1 c :=by
 unfold snV
 rw [snL_succ]
 rfl
theorem rd_next (N:List Lk) (i c:Nat):AV.lst (flat (zp (rdL N (i + 1))) ++ [nv (rdA N (i + 1)).1,nv (rdA N (i + 1)).2]) ((zp (rdL N (i + 1))).length + (0 + 1)) (.ch c) = rdV N (i + 1) c :=by
 unfold rdV
 rw [rdL_succ N (i + 1),flz_app,zp_len,zp_len,List.length_append]
 rfl
theorem sn_next (N:List Lk) (i c:Nat):AV.lst (bls (snL N (i + 1)) ++ [.bool (snA N (i + 1))]) ((snL N (i + 1)).length + (0 + 1)) (.ch c) = snV N (i + 1) c :=by
 unfold snV
 rw [snL_succ N (i + 1),bls_app,List.length_append]
 rfl
theorem rd_ch (N:List Lk) (i:Nat) {ty:Nat}:AObj.chain ((zp (rdL N (i + 1))).length + (0 + 1)) 2 ty = .chain (zp (rdL N (i + 1 + 1))).length 2 ty :=by
 rw [zp_len,zp_len,rdL_len,rdL_len]
theorem sn_ch (N:List Lk) (i:Nat) {ty:Nat}:AObj.chain ((snL N (i + 1)).length + (0 + 1)) 1 ty = .chain (snL N (i + 1 + 1)).length 1 ty :=by
 rw [snL_len,snL_len]
theorem wk_rates (N:List Lk) {c d:Nat}:Wk (.tup [.lst (flat (zp (rdL N (N.length + 1)))) (zp (rdL N (N.length + 1))).length (.ch c),.lst (bls (snL N (N.length + 1))) (snL N (N.length + 1)).length (.ch d),iv 0]) (.tup [pv (zp (rdL N (N.length + 1))),blV (snL N (N.length + 1)),iv 0]) :=by
 have :=Wk.wk (.tup [.lst (flat (zp (rdL N (N.length + 1)))) (zp (rdL N (N.length + 1))).length (.ch c),.lst (bls (snL N (N.length + 1))) (snL N (N.length + 1)).length (.ch d),iv 0])
 simp only [wk,wkl,wkl_flat,wkl_bls] at this
 exact this
theorem sRates_yes {N:List Lk} {H:List Nat} (h:pcN N H):Pure prog 9 [.agg [nkA N,nl (zl H)]] (.tup [pv (zp (rdL N (N.length + 1))),blV (snL N (N.length + 1)),iv 0]) :=by
 have lN :=lks_no (cL N)
 have lM :=ivs_no (zl H)
 have lR :=flat_no (zp (rdL N (N.length + 1)))
 have lS :=bls_no (snL N (N.length + 1))
 have h1 :=h.l1
 have h5 :=h.l5
 have c0:decide (0 < (N.length:Int)) = true :=decide_eq_true (by omega)
 have pt:∀ i,i < N.length → Pure prog 47 [.agg [nkA N,nl (zl H)],iv (IntKind.i64.wrap (Int.ofNat i + 1))] (pv (zp (tr N (i + 1)))) :=fun i hi => by
  have :=trainOf_pure h.ok.wf h.l5 (zl H) (a :=i + 1) hi (h.ok.dl hi)
  rw [tvA_pos h.ok.wf (by omega) hi] at this
  rw [show IntKind.i64.wrap (Int.ofNat i + 1) = Int.ofNat (i + 1) from wrapN (m :=i + 1) (by omega)]
  exact this
 have pu:∀ i,i < N.length → Pure prog 48 [pv (zp (tr N (i + 1)))] (.tup [fv (Int.ofNat (rdA N (i + 1)).1) (Int.ofNat (rdA N (i + 1)).2),.bool (snA N (i + 1)),iv 0]) :=fun i hi => sTurns_pure (tvN h.ok (by omega) hi)
 have lt:∀ i,Lives noL (flat (zp (tr N i))) :=fun i => flat_no _
 refine pure_sym hE rfl (by repeat' (first | exact trivial | assumption | exact flat_no _ | exact (fun _ h => nomatch h) | apply And.intro)) (by repeat' (first | exact trivial | assumption | exact flat_no _ | exact (fun _ h => nomatch h) | apply And.intro)) fun S q pc hS hq hC hE => ?_
 conv => whnf
 refine sym_pure hC (h.isP) ?_
 conv => whnf
 refine sym_unroll hE hS ?_
 conv => whnf
 refine bool_true (c0) ?_
 conv => whnf
 refine sym_pure hC (pt 0 h1) ?_
 conv => whnf
 refine sym_pure hC (pu 0 h1) ?_
 conv => whnf
 refine sym_loopG hE hS (A :=Nat) [1,19] (fun i => [(5,rdV N i 2),(6,snV N i 3),(20,nv i)]) (fun i => [(2,.chain (zp (rdL N (i + 1))).length 2 40),(3,.chain (snL N (i + 1)).length 1 4)]) (fun _ => []) (fun i => 1 ≤ i ∧ i ≤ N.length) (fun i => N.length - i) 1 (Nat.le_of_ble_eq_true rfl) rfl (by refine ⟨rfl,rfl,rfl,rfl,rfl,rfl,4,rfl,?_,?_⟩ <;> repeat' (first | exact trivial | exact rfl | exact ⟨_,rfl,WkV.refl _⟩ | exact ⟨_,rfl,WkV.own _ _ _⟩ | exact Nat.zero_le _ | exact ⟨_,rfl,WkV.int up1⟩ | exact ⟨_,rfl,WkV.eq (rd_first N _)⟩ | exact ⟨_,rfl,WkV.eq (sn_first N _)⟩ | exact bd_rdV N _ (by decide) | exact bd_snV N _ (by decide) | exact bdl_no lN | exact bdl_no lM | exact Nat.le_of_ble_eq_true rfl | exact bdl_no (by assumption) | exact bdl_no (flat_no _) | exact bdl_no (ivs_no _) | exact bdl_no (svs_no _) | exact Nat.max_le.2 ⟨Nat.le_of_ble_eq_true rfl,bdl_no (ivs_no _)⟩ | exact Nat.max_le.2 ⟨Nat.le_of_ble_eq_true rfl,bdl_no (svs_no _)⟩ | apply And.intro)) ⟨Nat.le_refl _,h1⟩ ?_
 rintro i ⟨hi1,hi⟩ K hK
 obtain rfl:K = 4 :=hK
 conv => whnf
 by_cases hi2:i < N.length
 ·refine bool_true (ltN_t hi2) ?_
  conv => whnf
  refine sym_pure hC (pt i hi2) ?_
  conv => whnf
  refine sym_pure hC (pu i hi2) ?_
  conv => whnf
  have hz:(zp (rdL N (i + 1))).length = i + 1 :=by rw [zp_len,rdL_len]
  have hy:(snL N (i + 1)).length = i + 1 :=snL_len N _
  refine bool_true (decide_eq_true (show ((zp (rdL N (i + 1))).length + (0 + 1)) * 16 ≤ 140737488355328 by omega)) ?_
  conv => whnf
  refine bool_true (decide_eq_true (show (zp (rdL N (i + 1))).length + (0 + 1) ≤ 9223372036854775807 by omega)) ?_
  conv => whnf
  refine bool_true (lenIs_flz (rdL N (i + 1))) ?_
  conv => whnf
  refine bool_true (decide_eq_true rfl) ?_
  conv => whnf
  refine bool_true (decide_eq_true (show ((snL N (i + 1)).length + (0 + 1)) * 1 ≤ 140737488355328 by omega)) ?_
  conv => whnf
  refine bool_true (decide_eq_true (show (snL N (i + 1)).length + (0 + 1) ≤ 9223372036854775807 by omega)) ?_
  conv => whnf
  refine bool_true (lenIs_bls (snL N (i + 1))) ?_
  conv => whnf
  refine bool_true (decide_eq_true rfl) ?_
  conv => whnf
  exact ⟨i + 1,⟨by omega,hi2⟩,by omega,Nat.le_refl _,(by refine ⟨rfl,rfl,rfl,rfl,rfl,rfl,4,rfl,?_,?_⟩ <;> repeat' (first | exact trivial | exact rfl | exact ⟨_,rfl,WkV.refl _⟩ | exact ⟨_,rfl,WkV.own _ _ _⟩ | exact Nat.zero_le _ | exact ⟨_,rfl,WkV.int (wrapN (m :=i + 1) (by omega))⟩ | exact ⟨_,rfl,WkV.eq (rd_next N i _)⟩ | exact ⟨_,rfl,WkV.eq (sn_next N i _)⟩ | exact rd_ch N i | exact sn_ch N i | exact bd_rdV N _ (by decide) | exact bd_snV N _ (by decide) | exact bdl_no lN | exact bdl_no lM | exact Nat.le_of_ble_eq_true rfl | exact bdl_no (by assumption) | exact bdl_no (flat_no _) | exact bdl_no (ivs_no _) | exact bdl_no (svs_no _) | exact Nat.max_le.2 ⟨Nat.le_of_ble_eq_true rfl,bdl_no (ivs_no _)⟩ | exact Nat.max_le.2 ⟨Nat.le_of_ble_eq_true rfl,bdl_no (svs_no _)⟩ | apply And.intro))⟩
 ·refine bool_false (ltN_f hi2) ?_
  conv => whnf
  refine .inl ?_
  conv => whnf
  have e:i = N.length :=by omega
  subst e
  exact ⟨_,rfl,wk_rates N⟩



end
end Go.Abs.Seat
namespace Go.Abs.Seat
noncomputable section
open Go Go.Abs Go.Proofs.Tryz
set_option maxRecDepth 100000
set_option maxHeartbeats 40000000

end
end Go.Abs.Seat
