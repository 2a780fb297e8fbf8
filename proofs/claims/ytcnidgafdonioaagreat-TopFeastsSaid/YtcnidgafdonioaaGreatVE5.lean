/-
  The days of feasts.
-/
import Derived.Test.YtcnidgafdonioaaGreatVE4
import Derived.Test.YtcnidgafdonioaaGreatVU5
import Derived.Test.YtcnidgafdonioaaGreatVU4
namespace Go.Abs.Seat
noncomputable section
open Go Go.Abs Go.Proofs.Tryz
set_option maxRecDepth 100000
set_option maxHeartbeats 40000000
attribute [local irreducible] IntKind.wrap pEq
theorem rnCE {m:Nat} {rs:List Nat} {xs:List AV} {k:Nat} {j c e:Nat} (hj:j < rs.length) (h1:rs.getD j 0 = c) (h2:e = m + j) (hx:Lives noL xs):RnV m rs (.lst xs k (.ch c)) (.lst xs k (.ch e)) :=RnV.ch hj h1 h2 (bdl_no hx)
theorem rnE0 {m:Nat} {rs:List Nat} {L:List Int} {z z':Int} {k j c e:Nat} (hL:L = []) (hk:k = 0) (hj:j < rs.length) (h1:rs.getD j 0 = c) (h2:e = m + j) (hz:z = z'):RnV m rs (.lst [iv z] (0 + 1) (.ch c)) (.lst (ivs (L ++ [z'])) (k + 1) (.ch e)) :=by
 subst hL hk hz
 exact rnCE hj h1 h2 ⟨trivial,trivial⟩
theorem rnE1 {m:Nat} {rs:List Nat} {L:List Int} {z z':Int} {k j c e:Nat} (hj:j < rs.length) (h1:rs.getD j 0 = c) (h2:e = m + j) (hz:z = z'):RnV m rs (.lst (ivs L ++ [iv z]) (k + (0 + 1)) (.ch c)) (.lst (ivs (L ++ [z'])) (k + 1) (.ch e)) :=by
 subst hz
 rw [ivs_snoc]
 exact rnCE hj h1 h2 (by rw [← ivs_snoc];exact ivs_no _)
theorem chE0 {k:Nat} (hk:k = 0):AObj.chain (0 + 1) 1 3 = .chain (k + 1) 1 3 :=by subst hk;rfl
theorem wkday_pure (x:Int) (h:0 ≤ x ∧ x ≤ 10000000):Pure prog 170 [iv x] (iv ((x + 4).tmod 7)) :=by
 refine pure_sym hE rfl (by repeat' (first | exact trivial | assumption | exact flat_no _ | exact (fun _ h => nomatch h) | apply And.intro)) (by repeat' (first | exact trivial | assumption | exact flat_no _ | exact (fun _ h => nomatch h) | apply And.intro)) fun S q pc hS hq hC hE => ?_
 conv => whnf
 rw [show IntKind.i64.wrap (x + 4) = x + 4 from wrapI (by omega) (by omega)]
 exact ⟨_,rfl,Wk.refl _⟩
abbrev eaK (y:Nat):AV :=.agg [nv y,iv 3,iv 21]
def eaE (b:Bool) (y:Nat) (s:Int):List (AV × AV) :=match b with | true => [(eaK y,iv s)] | false => []
theorem aeq_i7E (x:Int):aeqC prog seatT 7 3 (iv x) (iv x) = some true :=by
 show some (x == x) = some true
 rw [beq_self_eq_true]
theorem aeq_ea (y:Nat):aeqC prog seatT 8 73 (eaK y) (eaK y) = some true :=by
 conv => lhs;whnf
 have e :=aeq_i7E (Int.ofNat y)
 dsimp only
 rw [e]
 rfl
theorem find_ea (y:Nat) (s:Int):findA prog seatT 73 (eaK y) (eaE true y s) 0 = some (some (0,iv s)) :=by
 rw [show eaE true y s = [(eaK y,iv s)] from rfl,findA,aeq_ea]
theorem lk_ea (y:Nat) (s:Int) (z:AV):(match findA prog seatT 73 (eaK y) (eaE true y s) 0 with
  |some (some (_,v)) => Plan.ret (pairV true v true)
  |some none => .ret (pairV true z false)
  |none => .fail) = .ret (pairV true (iv s) true) :=by rw [find_ea]
abbrev hpF (E:Int) (C:List Int) (n d a:Int) (k:Nat) (m:List (AV × AV)):Tr AObj :=
 .node (.cells (.node (iv E) (.node (nl C) .nil .nil) .nil) 2 61)
  (.node (.cells (.node (iv n) (.node (iv d) .nil .nil) (.node (iv a) .nil .nil)) 3 63) (.node (.cells (.node (iv n) (.node (iv d) .nil .nil) (.node (iv a) .nil .nil)) 3 63) (.node (.chain k 1 3) .nil .nil) .nil) (.node (.mapo m) .nil .nil))
  (.node (.cells (.node (iv E) (.node (nl C) .nil .nil) .nil) 2 61) (.node (opC E C n d a (fdV E C k 7) (.map 5)) .nil .nil) (.node (opC E C n d a (fdV E C k 7) (.map 5)) .nil .nil))
theorem hpF_end (E:Int) (C:List Int) (n d a:Int) (k:Nat) (m:List (AV × AV)):HEnd (hpF E C n d a k m) 8 :=appT_end [.cells (.node (iv E) (.node (nl C) .nil .nil) .nil) 2 61,.cells (.node (iv n) (.node (iv d) .nil .nil) (.node (iv a) .nil .nil)) 3 63,.cells (.node (iv E) (.node (nl C) .nil .nil) .nil) 2 61,.cells (.node (iv n) (.node (iv d) .nil .nil) (.node (iv a) .nil .nil)) 3 63,opC E C n d a (fdV E C k 7) (.map 5),.mapo m,opC E C n d a (fdV E C k 7) (.map 5),.chain k 1 3] 0 .nil HEnd_nil
theorem hpF_bd (E:Int) (C:List Int) (n d a:Int) (k:Nat) (b:Bool) (y:Nat) (s:Int):ObBd 8 (hpF E C n d a k (eaE b y s)) 8 :=by
 have lC :=ivs_no C
 have lF :=ivs_no (fdL E C k)
 cases b
 all_goals
  repeat' (first | exact trivial | exact Nat.zero_le _ | exact bdl_no lC | exact bdl_no lF | exact Nat.le_of_ble_eq_true rfl | exact Nat.max_le.2 ⟨bdl_no lF,Nat.le_of_ble_eq_true rfl⟩ | exact Nat.max_le.2 ⟨Nat.le_of_ble_eq_true rfl,bdl_no lF⟩ | apply And.intro)
def mvB (l:List Ft):Nat → Bool
 | 0 => false
 |i + 1 => mvB l i || (gf l i).1
def dsL (g:Ft → Int) (l:List Ft):Nat → List Int
 | 0 => []
 |i + 1 => dsL g l i ++ [g (gf l i)]
theorem dsL_len (g:Ft → Int) (l:List Ft):∀ i,(dsL g l i).length = i
 | 0 => rfl
 |i + 1 => by rw [dsL,List.length_append,dsL_len g l i];rfl
theorem lenIs_dsL (g:Ft → Int) (l:List Ft) (i:Nat):lenIs (ivs (dsL g l i)) (i * 1) = true :=by
 have :=lenIs_eq (ivs (dsL g l i))
 rw [ivs_len,dsL_len] at this
 rw [Nat.mul_one];exact this
theorem neq_t {x y:Int} (h:¬ x = y):(!(x == y)) = true :=by rw [beq_eq_false_iff_ne.2 h];rfl
theorem neq_f {x y:Int} (h:x = y):(!(x == y)) = false :=by rw [beq_iff_eq.2 h];rfl
theorem x0_wrap {x0:Int} {j m:Nat} (hx:0 ≤ x0 ∧ x0 ≤ 2000000) (hm:m ≤ 43) (hj:j < m):IntKind.i64.wrap (x0 + Int.ofNat j + 1) = x0 + Int.ofNat (j + 1) :=by
 have e:Int.ofNat j = (j:Int) :=rfl
 have e2:Int.ofNat (j + 1) = (j:Int) + 1 :=rfl
 rw [e,e2,wrapI (by omega) (by omega)];omega
theorem wkv_nl {g:Ft → Int} {l:List Ft} {i c:Nat}:WkV (.lst (ivs (dsL g l i)) i (.ch c)) (nl (dsL g l i)) :=by
 rw [nl,dsL_len]
 exact WkV.own _ _ _
theorem feasts_h {E:Int} {C:List Int} (h:calOk E C) {n d a:Int} (hm:moonOk n d a) {l:List Ft} (hl:ftsOk l) (h1:1 ≤ l.length) (y:Nat) (hy:y ≤ 4000) {k:Nat} (hk:k = 4002) {s:Int} (hs:s = sunD n d a (fdY E C y + intoD (leapB C (Int.ofNat y)) 3 21)) :
  HFun prog 67 [.agg [iv E,nl C,iv n,iv d,iv a,fdV E C k 7,.map 5],ftL l,nv y] (hv (hpF E C n d a k [])) 8 (nl (dsL (ftD E C n d a y) l l.length)) (hv (hpF E C n d a k (eaE (mvB l l.length) y s))) :=by
 have lC :=ivs_no C
 have ll :=fts_no l
 have lF :=ivs_no (fdL E C k)
 have hd3:∀ b,dateOk b 3 21 ∧ 79 ≤ intoD b 3 21 ∧ intoD b 3 21 ≤ 80 :=by decide
 have pDay :=dayAt h y hy (hd3 (leapB C (Int.ofNat y))).1 (n :=iv n) (d :=iv d) (a :=iv a) (mp :=.map 5) hk
 rw [show (3:Int).toNat = 3 from rfl] at pDay
 obtain ⟨x0,hx0⟩ : ∃ x0,fdY E C y + intoD (leapB C (Int.ofNat y)) 3 21 = x0 :=⟨_,rfl⟩
 rw [hx0] at pDay hs
 have hx:0 ≤ x0 ∧ x0 ≤ 2000000 :=by
  have h1 :=fdY_le E C y
  have h2 :=hd3 (leapB C (Int.ofNat y))
  have h3 :=h.1
  omega
 have hfu :=fullN_ok hm x0
 have pAge:∀ j,j ≤ fullN n d a x0 → Pure prog 169 [mnV n d a,iv (x0 + Int.ofNat j)] (iv (ageM n d a (x0 + Int.ofNat j))) :=fun j hj => age_pure hm _ (by
  have e:Int.ofNat j = (j:Int) :=rfl
  rw [e];omega)
 have hsb:0 ≤ s ∧ s ≤ 3000000 :=by have :=sunD_le hm x0 hx.1;omega
 have hwd:0 ≤ (x0 + Int.ofNat (fullN n d a x0) + 4).tmod 7 ∧ (x0 + Int.ofNat (fullN n d a x0) + 4).tmod 7 < 7 :=by
  have e:Int.ofNat (fullN n d a x0) = ((fullN n d a x0:Nat):Int) :=rfl
  rw [e,Int.tmod_eq_emod_of_nonneg (by omega)]
  omega
 have hfb:0 ≤ x0 + Int.ofNat (fullN n d a x0) ∧ x0 + Int.ofNat (fullN n d a x0) ≤ 3000000 :=by
  have e:Int.ofNat (fullN n d a x0) = ((fullN n d a x0:Nat):Int) :=rfl
  rw [e];omega
 have pWk :=wkday_pure (x0 + Int.ofNat (fullN n d a x0)) (by omega)
 have hw7:IntKind.i64.wrap (7 - (x0 + Int.ofNat (fullN n d a x0) + 4).tmod 7) = 7 - (x0 + Int.ofNat (fullN n d a x0) + 4).tmod 7 :=wrapI (by omega) (by omega)
 have hw8:IntKind.i64.wrap (x0 + Int.ofNat (fullN n d a x0) + (7 - (x0 + Int.ofNat (fullN n d a x0) + 4).tmod 7)) = s :=by rw [wrapI (by omega) (by omega),hs];rfl
 have hvM:∀ {i:Nat},(gf l i).1 = true → i < l.length → IntKind.i64.wrap (s + (gf l i).2.2.2) = ftD E C n d a y (gf l i) :=fun {i} hmv h2 => by
  have hf :=hl.2 i h2
  rcases e:gf l i with ⟨mv,mo,dy,af⟩
  rw [e] at hmv hf
  obtain rfl:mv = true :=hmv
  have hf:mo = 0 ∧ dy = 0 ∧ -60 ≤ af ∧ af ≤ 60 :=hf
  show IntKind.i64.wrap (s + af) = sunD n d a (fdY E C y + intoD (leapB C (Int.ofNat y)) 3 21) + af
  rw [hx0,← hs,wrapI (by omega) (by omega)]
 have hvN:∀ {i:Nat},¬ (gf l i).1 = true → ¬ dateOk (leapB C (Int.ofNat y)) (gf l i).2.1 (gf l i).2.2.1 → (-1:Int) = ftD E C n d a y (gf l i) :=fun {i} hmv hdt => by
  rcases e:gf l i with ⟨mv,mo,dy,af⟩
  rw [e] at hmv hdt
  obtain rfl:mv = false :=Bool.eq_false_iff.2 hmv
  exact (if_neg hdt).symm
 have hvD:∀ {i:Nat},¬ (gf l i).1 = true → dateOk (leapB C (Int.ofNat y)) (gf l i).2.1 (gf l i).2.2.1 → fdY E C y + intoD (leapB C (Int.ofNat y)) (gf l i).2.1.toNat (gf l i).2.2.1 = ftD E C n d a y (gf l i) :=fun {i} hmv hdt => by
  rcases e:gf l i with ⟨mv,mo,dy,af⟩
  rw [e] at hmv hdt
  obtain rfl:mv = false :=Bool.eq_false_iff.2 hmv
  exact (if_pos hdt).symm
 refine hfun_sym hE rfl (hpF_end E C n d a k []) (by repeat' (first | exact trivial | exact Nat.zero_le _ | exact bdl_no lC | exact bdl_no ll | exact bdl_no lF | exact Nat.le_of_ble_eq_true rfl | apply And.intro | apply Nat.max_le.2)) (bdl_no (ivs_no _)) (hpF_bd E C n d a k false y s) (hpF_bd E C n d a k _ y s) fun S q pc hS hq hC hE => ?_
 conv => whnf
 refine sym_loopR hE hS (A :=Nat × Bool × AV × List AObj) [5] (fun x hx => nomatch hx) [2,3,12,13] (fun (i,_,v,_) => [(7,v),(14,nv i)]) (fun (_,b,_,_) => [(5,.mapo (eaE b y s))]) (fun a => a.2.2.2) (fun (i,b,v,ux) => i ≤ l.length ∧ b = mvB l i ∧ (i = 0 ∧ v = .nils ∧ ux = [] ∨ 0 < i ∧ v = .lst (ivs (dsL (ftD E C n d a y) l i)) i (.ch 9) ∧ ux = [.chain i 1 3])) (fun (i,_) => l.length - i) (0,false,.nils,[]) (Nat.le_of_ble_eq_true rfl) trivial rfl (by repeat' (first | exact trivial | exact Nat.zero_le _ | exact bdl_no lC | exact bdl_no ll | exact bdl_no lF | exact Nat.max_le.2 ⟨bdl_no lF,Nat.le_of_ble_eq_true rfl⟩ | exact Nat.max_le.2 ⟨Nat.le_of_ble_eq_true rfl,bdl_no lF⟩ | exact Nat.le_of_ble_eq_true rfl | exact bdl_no (by assumption) | exact bdl_no (flat_no _) | exact bdl_no (ivs_no _) | exact bdl_no (svs_no _) | exact Nat.max_le.2 ⟨Nat.le_of_ble_eq_true rfl,bdl_no (ivs_no _)⟩ | exact Nat.max_le.2 ⟨Nat.le_of_ble_eq_true rfl,bdl_no (svs_no _)⟩ | apply And.intro)) (by refine ⟨rfl,rfl,rfl,rfl,rfl,rfl,by decide,?_,?_,?_,by kernel_rfl,?_,?_⟩ <;> repeat' (first | exact trivial | exact rfl | exact ⟨_,rfl,RnV.wk (WkV.refl _) (Nat.zero_le _)⟩ | exact ⟨_,rfl,RnV.wk (WkV.refl _) (Nat.le_of_ble_eq_true rfl)⟩ | exact TrIw.refl _ _ _ _ _ | exact OWk.same _ | exact OWk.loop _ _ _ _ _ _ _ (by repeat' (first | exact trivial | exact WkV.refl _ | exact WkV.unk _ | apply And.intro)) | exact Nat.zero_le _ | exact ⟨_,rfl,RnV.wk (WkV.refl _) (bdl_no ll)⟩ | exact bdl_no lC | exact bdl_no ll | exact bdl_no lF | exact Nat.le_of_ble_eq_true rfl | exact bdl_no (by assumption) | exact bdl_no (flat_no _) | exact bdl_no (ivs_no _) | exact bdl_no (svs_no _) | exact Nat.max_le.2 ⟨Nat.le_of_ble_eq_true rfl,bdl_no (ivs_no _)⟩ | exact Nat.max_le.2 ⟨Nat.le_of_ble_eq_true rfl,bdl_no (svs_no _)⟩ | apply And.intro)) ⟨Nat.zero_le _,rfl,.inl ⟨rfl,rfl,rfl⟩⟩ ?_
 rintro ⟨i,b,v,ux⟩ ⟨hi,hb,⟨he,rfl,rfl⟩ | ⟨he,rfl,rfl⟩⟩ K hK
 ·obtain rfl:K = 9 :=hK
  cases b with
  |true => subst he;cases hb
  |false =>
   have hi1:IntKind.i64.wrap (Int.ofNat i + 1) = Int.ofNat (i + 1) :=wrapN (m :=i + 1) (by have :=hl.1;omega)
   have hd0:dsL (ftD E C n d a y) l i = [] :=by rw [he];rfl
   conv => whnf
   by_cases h2:i < l.length
   ·refine bool_true (ltN_t h2) ?_
    conv => whnf
    refine bool_true (inR_t h2) ?_
    conv => whnf
    refine plan_as (takP (tak_ft l h2)) ?_
    conv => whnf
    by_cases hmv:(gf l i).1 = true
    ·have hbi:true = mvB l (i + 1) :=by rw [mvB,hmv,Bool.or_true]
     refine bool_true (hmv) ?_
     conv => whnf
     refine sym_call hC ?_
     conv => whnf
     refine sym_inline hE hS ?_
     conv => whnf
     refine sym_pure hC (pDay) ?_
     conv => whnf
     refine sym_loopG hE hS (A :=Nat) [1,2,5] (fun j => [(8,iv (x0 + Int.ofNat j))]) (fun _ => []) (fun _ => []) (fun j => j ≤ fullN n d a x0) (fun j => fullN n d a x0 - j) 0 (Nat.le_of_ble_eq_true rfl) rfl (by refine ⟨rfl,rfl,rfl,rfl,rfl,rfl,20,rfl,?_,?_⟩ <;> repeat' (first | exact trivial | exact rfl | exact ⟨_,rfl,WkV.refl _⟩ | exact ⟨_,rfl,WkV.own _ _ _⟩ | exact Nat.zero_le _ | exact ⟨_,rfl,WkV.int (Int.add_zero x0).symm⟩ | exact bdl_no lC | exact bdl_no ll | exact bdl_no lF | exact Nat.max_le.2 ⟨bdl_no lF,Nat.le_of_ble_eq_true rfl⟩ | exact Nat.max_le.2 ⟨Nat.le_of_ble_eq_true rfl,bdl_no lF⟩ | exact Nat.le_of_ble_eq_true rfl | exact bdl_no (by assumption) | exact bdl_no (flat_no _) | exact bdl_no (ivs_no _) | exact bdl_no (svs_no _) | exact Nat.max_le.2 ⟨Nat.le_of_ble_eq_true rfl,bdl_no (ivs_no _)⟩ | exact Nat.max_le.2 ⟨Nat.le_of_ble_eq_true rfl,bdl_no (svs_no _)⟩ | apply And.intro)) (Nat.zero_le _) ?_
     intro j hj K2 hK2
     obtain rfl:K2 = 20 :=hK2
     conv => whnf
     refine sym_pure hC (pAge j hj) ?_
     conv => whnf
     by_cases hj2:j < fullN n d a x0
     ·refine bool_true (neq_t (hfu.2.2 j hj2)) ?_
      conv => whnf
      exact ⟨j + 1,hj2,by omega,Nat.le_refl _,(by refine ⟨rfl,rfl,rfl,rfl,rfl,rfl,20,rfl,?_,?_⟩ <;> repeat' (first | exact trivial | exact rfl | exact ⟨_,rfl,WkV.refl _⟩ | exact ⟨_,rfl,WkV.own _ _ _⟩ | exact Nat.zero_le _ | exact ⟨_,rfl,WkV.int (x0_wrap hx hfu.1 hj2)⟩ | exact bdl_no lC | exact bdl_no ll | exact bdl_no lF | exact Nat.max_le.2 ⟨bdl_no lF,Nat.le_of_ble_eq_true rfl⟩ | exact Nat.max_le.2 ⟨Nat.le_of_ble_eq_true rfl,bdl_no lF⟩ | exact Nat.le_of_ble_eq_true rfl | exact bdl_no (by assumption) | exact bdl_no (flat_no _) | exact bdl_no (ivs_no _) | exact bdl_no (svs_no _) | exact Nat.max_le.2 ⟨Nat.le_of_ble_eq_true rfl,bdl_no (ivs_no _)⟩ | exact Nat.max_le.2 ⟨Nat.le_of_ble_eq_true rfl,bdl_no (svs_no _)⟩ | apply And.intro))⟩
     ·obtain rfl:j = fullN n d a x0 :=by omega
      refine bool_false (neq_f hfu.2.1) ?_
      conv => whnf
      refine .inl ?_
      conv => whnf
      refine sym_pure hC (pWk) ?_
      conv => whnf
      rw [hw7]
      conv => whnf
      rw [hw8]
      conv => whnf
      refine sym_drawn hS (by kernel_rfl) ?_
      conv => whnf
      exact ⟨(i + 1,true,.lst (ivs (dsL (ftD E C n d a y) l (i + 1))) (i + 1) (.ch 9),[.chain (i + 1) 1 3]),[20],⟨h2,hbi,.inr ⟨Nat.succ_pos _,rfl,rfl⟩⟩,by show l.length - (i + 1) < l.length - i;omega,(by refine ⟨rfl,rfl,rfl,rfl,rfl,rfl,by decide,?_,?_,?_,by kernel_rfl,?_,?_⟩ <;> repeat' (first | exact trivial | exact rfl | exact ⟨_,rfl,RnV.wk (WkV.refl _) (Nat.zero_le _)⟩ | exact ⟨_,rfl,RnV.wk (WkV.refl _) (Nat.le_of_ble_eq_true rfl)⟩ | exact TrIw.refl _ _ _ _ _ | exact OWk.same _ | exact OWk.loop _ _ _ _ _ _ _ (by repeat' (first | exact trivial | exact WkV.refl _ | exact WkV.unk _ | apply And.intro)) | exact Nat.zero_le _ | exact ⟨_,rfl,RnV.wk (WkV.refl _) (bdl_no ll)⟩ | exact bdl_no lC | exact bdl_no ll | exact bdl_no lF | exact Nat.max_le.2 ⟨bdl_no lF,Nat.le_of_ble_eq_true rfl⟩ | exact Nat.max_le.2 ⟨Nat.le_of_ble_eq_true rfl,bdl_no lF⟩ | exact ⟨_,rfl,RnV.wk (WkV.int hi1) (Nat.zero_le _)⟩ | exact ⟨_,rfl,rnE0 (j :=0) hd0 he (by decide) rfl rfl (hvM hmv h2)⟩ | exact chE0 he | exact Nat.le_of_ble_eq_true rfl | exact bdl_no (by assumption) | exact bdl_no (flat_no _) | exact bdl_no (ivs_no _) | exact bdl_no (svs_no _) | exact Nat.max_le.2 ⟨Nat.le_of_ble_eq_true rfl,bdl_no (ivs_no _)⟩ | exact Nat.max_le.2 ⟨Nat.le_of_ble_eq_true rfl,bdl_no (svs_no _)⟩ | apply And.intro))⟩
    ·have hbi:false = mvB l (i + 1) :=by rw [mvB,Bool.eq_false_iff.2 hmv,← hb];rfl
     refine bool_false (Bool.eq_false_iff.2 hmv) ?_
     conv => whnf
     refine sym_pure hC (isDateAt h y hy) ?_
     conv => whnf
     by_cases hdt:dateOk (leapB C (Int.ofNat y)) (gf l i).2.1 (gf l i).2.2.1
     ·refine bool_true (decide_eq_true hdt) ?_
      conv => whnf
      refine sym_pure hC (dayAt h y hy hdt hk) ?_
      conv => whnf
      exact ⟨(i + 1,false,.lst (ivs (dsL (ftD E C n d a y) l (i + 1))) (i + 1) (.ch 9),[.chain (i + 1) 1 3]),[11],⟨h2,hbi,.inr ⟨Nat.succ_pos _,rfl,rfl⟩⟩,by show l.length - (i + 1) < l.length - i;omega,(by refine ⟨rfl,rfl,rfl,rfl,rfl,rfl,by decide,?_,?_,?_,by kernel_rfl,?_,?_⟩ <;> repeat' (first | exact trivial | exact rfl | exact ⟨_,rfl,RnV.wk (WkV.refl _) (Nat.zero_le _)⟩ | exact ⟨_,rfl,RnV.wk (WkV.refl _) (Nat.le_of_ble_eq_true rfl)⟩ | exact TrIw.refl _ _ _ _ _ | exact OWk.same _ | exact OWk.loop _ _ _ _ _ _ _ (by repeat' (first | exact trivial | exact WkV.refl _ | exact WkV.unk _ | apply And.intro)) | exact Nat.zero_le _ | exact ⟨_,rfl,RnV.wk (WkV.refl _) (bdl_no ll)⟩ | exact bdl_no lC | exact bdl_no ll | exact bdl_no lF | exact Nat.max_le.2 ⟨bdl_no lF,Nat.le_of_ble_eq_true rfl⟩ | exact Nat.max_le.2 ⟨Nat.le_of_ble_eq_true rfl,bdl_no lF⟩ | exact ⟨_,rfl,RnV.wk (WkV.int hi1) (Nat.zero_le _)⟩ | exact ⟨_,rfl,rnE0 (j :=0) hd0 he (by decide) rfl rfl (hvD hmv hdt)⟩ | exact chE0 he | exact Nat.le_of_ble_eq_true rfl | exact bdl_no (by assumption) | exact bdl_no (flat_no _) | exact bdl_no (ivs_no _) | exact bdl_no (svs_no _) | exact Nat.max_le.2 ⟨Nat.le_of_ble_eq_true rfl,bdl_no (ivs_no _)⟩ | exact Nat.max_le.2 ⟨Nat.le_of_ble_eq_true rfl,bdl_no (svs_no _)⟩ | apply And.intro))⟩
     ·refine bool_false (decide_eq_false hdt) ?_
      conv => whnf
      exact ⟨(i + 1,false,.lst (ivs (dsL (ftD E C n d a y) l (i + 1))) (i + 1) (.ch 9),[.chain (i + 1) 1 3]),[11],⟨h2,hbi,.inr ⟨Nat.succ_pos _,rfl,rfl⟩⟩,by show l.length - (i + 1) < l.length - i;omega,(by refine ⟨rfl,rfl,rfl,rfl,rfl,rfl,by decide,?_,?_,?_,by kernel_rfl,?_,?_⟩ <;> repeat' (first | exact trivial | exact rfl | exact ⟨_,rfl,RnV.wk (WkV.refl _) (Nat.zero_le _)⟩ | exact ⟨_,rfl,RnV.wk (WkV.refl _) (Nat.le_of_ble_eq_true rfl)⟩ | exact TrIw.refl _ _ _ _ _ | exact OWk.same _ | exact OWk.loop _ _ _ _ _ _ _ (by repeat' (first | exact trivial | exact WkV.refl _ | exact WkV.unk _ | apply And.intro)) | exact Nat.zero_le _ | exact ⟨_,rfl,RnV.wk (WkV.refl _) (bdl_no ll)⟩ | exact bdl_no lC | exact bdl_no ll | exact bdl_no lF | exact Nat.max_le.2 ⟨bdl_no lF,Nat.le_of_ble_eq_true rfl⟩ | exact Nat.max_le.2 ⟨Nat.le_of_ble_eq_true rfl,bdl_no lF⟩ | exact ⟨_,rfl,RnV.wk (WkV.int hi1) (Nat.zero_le _)⟩ | exact ⟨_,rfl,rnE0 (j :=0) hd0 he (by decide) rfl rfl (hvN hmv hdt)⟩ | exact chE0 he | exact Nat.le_of_ble_eq_true rfl | exact bdl_no (by assumption) | exact bdl_no (flat_no _) | exact bdl_no (ivs_no _) | exact bdl_no (svs_no _) | exact Nat.max_le.2 ⟨Nat.le_of_ble_eq_true rfl,bdl_no (ivs_no _)⟩ | exact Nat.max_le.2 ⟨Nat.le_of_ble_eq_true rfl,bdl_no (svs_no _)⟩ | apply And.intro))⟩
   ·omega
 ·obtain rfl:K = 10 :=hK
  have hi6 :=hl.1
  have hi1:IntKind.i64.wrap (Int.ofNat i + 1) = Int.ofNat (i + 1) :=wrapN (m :=i + 1) (by omega)
  cases b with
  |false =>
   conv => whnf
   by_cases h2:i < l.length
   ·refine bool_true (ltN_t h2) ?_
    conv => whnf
    refine bool_true (inR_t h2) ?_
    conv => whnf
    refine plan_as (takP (tak_ft l h2)) ?_
    conv => whnf
    by_cases hmv:(gf l i).1 = true
    ·have hbi:true = mvB l (i + 1) :=by rw [mvB,hmv,Bool.or_true]
     refine bool_true (hmv) ?_
     conv => whnf
     refine sym_call hC ?_
     conv => whnf
     refine sym_inline hE hS ?_
     conv => whnf
     refine sym_pure hC (pDay) ?_
     conv => whnf
     refine sym_loopG hE hS (A :=Nat) [1,2,5] (fun j => [(8,iv (x0 + Int.ofNat j))]) (fun _ => []) (fun _ => []) (fun j => j ≤ fullN n d a x0) (fun j => fullN n d a x0 - j) 0 (Nat.le_of_ble_eq_true rfl) rfl (by refine ⟨rfl,rfl,rfl,rfl,rfl,rfl,21,rfl,?_,?_⟩ <;> repeat' (first | exact trivial | exact rfl | exact ⟨_,rfl,WkV.refl _⟩ | exact ⟨_,rfl,WkV.own _ _ _⟩ | exact Nat.zero_le _ | exact ⟨_,rfl,WkV.int (Int.add_zero x0).symm⟩ | exact bdl_no lC | exact bdl_no ll | exact bdl_no lF | exact Nat.max_le.2 ⟨bdl_no lF,Nat.le_of_ble_eq_true rfl⟩ | exact Nat.max_le.2 ⟨Nat.le_of_ble_eq_true rfl,bdl_no lF⟩ | exact Nat.le_of_ble_eq_true rfl | exact bdl_no (by assumption) | exact bdl_no (flat_no _) | exact bdl_no (ivs_no _) | exact bdl_no (svs_no _) | exact Nat.max_le.2 ⟨Nat.le_of_ble_eq_true rfl,bdl_no (ivs_no _)⟩ | exact Nat.max_le.2 ⟨Nat.le_of_ble_eq_true rfl,bdl_no (svs_no _)⟩ | apply And.intro)) (Nat.zero_le _) ?_
     intro j hj K2 hK2
     obtain rfl:K2 = 21 :=hK2
     conv => whnf
     refine sym_pure hC (pAge j hj) ?_
     conv => whnf
     by_cases hj2:j < fullN n d a x0
     ·refine bool_true (neq_t (hfu.2.2 j hj2)) ?_
      conv => whnf
      exact ⟨j + 1,hj2,by omega,Nat.le_refl _,(by refine ⟨rfl,rfl,rfl,rfl,rfl,rfl,21,rfl,?_,?_⟩ <;> repeat' (first | exact trivial | exact rfl | exact ⟨_,rfl,WkV.refl _⟩ | exact ⟨_,rfl,WkV.own _ _ _⟩ | exact Nat.zero_le _ | exact ⟨_,rfl,WkV.int (x0_wrap hx hfu.1 hj2)⟩ | exact bdl_no lC | exact bdl_no ll | exact bdl_no lF | exact Nat.max_le.2 ⟨bdl_no lF,Nat.le_of_ble_eq_true rfl⟩ | exact Nat.max_le.2 ⟨Nat.le_of_ble_eq_true rfl,bdl_no lF⟩ | exact Nat.le_of_ble_eq_true rfl | exact bdl_no (by assumption) | exact bdl_no (flat_no _) | exact bdl_no (ivs_no _) | exact bdl_no (svs_no _) | exact Nat.max_le.2 ⟨Nat.le_of_ble_eq_true rfl,bdl_no (ivs_no _)⟩ | exact Nat.max_le.2 ⟨Nat.le_of_ble_eq_true rfl,bdl_no (svs_no _)⟩ | apply And.intro))⟩
     ·obtain rfl:j = fullN n d a x0 :=by omega
      refine bool_false (neq_f hfu.2.1) ?_
      conv => whnf
      refine .inl ?_
      conv => whnf
      refine sym_pure hC (pWk) ?_
      conv => whnf
      rw [hw7]
      conv => whnf
      rw [hw8]
      conv => whnf
      refine sym_drawn hS (by kernel_rfl) ?_
      conv => whnf
      refine bool_true (decide_eq_true (show (i + (0 + 1)) * 8 ≤ 140737488355328 by omega)) ?_
      conv => whnf
      refine bool_true (decide_eq_true (show i + (0 + 1) ≤ 9223372036854775807 by omega)) ?_
      conv => whnf
      refine bool_true (lenIs_dsL _ l i) ?_
      conv => whnf
      refine bool_true (decide_eq_true rfl) ?_
      conv => whnf
      exact ⟨(i + 1,true,.lst (ivs (dsL (ftD E C n d a y) l (i + 1))) (i + 1) (.ch 9),[.chain (i + 1) 1 3]),[9],⟨h2,hbi,.inr ⟨Nat.succ_pos _,rfl,rfl⟩⟩,by show l.length - (i + 1) < l.length - i;omega,(by refine ⟨rfl,rfl,rfl,rfl,rfl,rfl,by decide,?_,?_,?_,by kernel_rfl,?_,?_⟩ <;> repeat' (first | exact trivial | exact rfl | exact ⟨_,rfl,RnV.wk (WkV.refl _) (Nat.zero_le _)⟩ | exact ⟨_,rfl,RnV.wk (WkV.refl _) (Nat.le_of_ble_eq_true rfl)⟩ | exact TrIw.refl _ _ _ _ _ | exact OWk.same _ | exact OWk.loop _ _ _ _ _ _ _ (by repeat' (first | exact trivial | exact WkV.refl _ | exact WkV.unk _ | apply And.intro)) | exact Nat.zero_le _ | exact ⟨_,rfl,RnV.wk (WkV.refl _) (bdl_no ll)⟩ | exact bdl_no lC | exact bdl_no ll | exact bdl_no lF | exact Nat.max_le.2 ⟨bdl_no lF,Nat.le_of_ble_eq_true rfl⟩ | exact Nat.max_le.2 ⟨Nat.le_of_ble_eq_true rfl,bdl_no lF⟩ | exact ⟨_,rfl,RnV.wk (WkV.int hi1) (Nat.zero_le _)⟩ | exact ⟨_,rfl,rnE1 (j :=0) (by decide) rfl rfl (hvM hmv h2)⟩ | exact Nat.le_of_ble_eq_true rfl | exact bdl_no (by assumption) | exact bdl_no (flat_no _) | exact bdl_no (ivs_no _) | exact bdl_no (svs_no _) | exact Nat.max_le.2 ⟨Nat.le_of_ble_eq_true rfl,bdl_no (ivs_no _)⟩ | exact Nat.max_le.2 ⟨Nat.le_of_ble_eq_true rfl,bdl_no (svs_no _)⟩ | apply And.intro))⟩
    ·have hbi:false = mvB l (i + 1) :=by rw [mvB,Bool.eq_false_iff.2 hmv,← hb];rfl
     refine bool_false (Bool.eq_false_iff.2 hmv) ?_
     conv => whnf
     refine sym_pure hC (isDateAt h y hy) ?_
     conv => whnf
     by_cases hdt:dateOk (leapB C (Int.ofNat y)) (gf l i).2.1 (gf l i).2.2.1
     ·refine bool_true (decide_eq_true hdt) ?_
      conv => whnf
      refine sym_pure hC (dayAt h y hy hdt hk) ?_
      conv => whnf
      refine bool_true (decide_eq_true (show (i + (0 + 1)) * 8 ≤ 140737488355328 by omega)) ?_
      conv => whnf
      refine bool_true (decide_eq_true (show i + (0 + 1) ≤ 9223372036854775807 by omega)) ?_
      conv => whnf
      refine bool_true (lenIs_dsL _ l i) ?_
      conv => whnf
      refine bool_true (decide_eq_true rfl) ?_
      conv => whnf
      exact ⟨(i + 1,false,.lst (ivs (dsL (ftD E C n d a y) l (i + 1))) (i + 1) (.ch 9),[.chain (i + 1) 1 3]),[9],⟨h2,hbi,.inr ⟨Nat.succ_pos _,rfl,rfl⟩⟩,by show l.length - (i + 1) < l.length - i;omega,(by refine ⟨rfl,rfl,rfl,rfl,rfl,rfl,by decide,?_,?_,?_,by kernel_rfl,?_,?_⟩ <;> repeat' (first | exact trivial | exact rfl | exact ⟨_,rfl,RnV.wk (WkV.refl _) (Nat.zero_le _)⟩ | exact ⟨_,rfl,RnV.wk (WkV.refl _) (Nat.le_of_ble_eq_true rfl)⟩ | exact TrIw.refl _ _ _ _ _ | exact OWk.same _ | exact OWk.loop _ _ _ _ _ _ _ (by repeat' (first | exact trivial | exact WkV.refl _ | exact WkV.unk _ | apply And.intro)) | exact Nat.zero_le _ | exact ⟨_,rfl,RnV.wk (WkV.refl _) (bdl_no ll)⟩ | exact bdl_no lC | exact bdl_no ll | exact bdl_no lF | exact Nat.max_le.2 ⟨bdl_no lF,Nat.le_of_ble_eq_true rfl⟩ | exact Nat.max_le.2 ⟨Nat.le_of_ble_eq_true rfl,bdl_no lF⟩ | exact ⟨_,rfl,RnV.wk (WkV.int hi1) (Nat.zero_le _)⟩ | exact ⟨_,rfl,rnE1 (j :=0) (by decide) rfl rfl (hvD hmv hdt)⟩ | exact Nat.le_of_ble_eq_true rfl | exact bdl_no (by assumption) | exact bdl_no (flat_no _) | exact bdl_no (ivs_no _) | exact bdl_no (svs_no _) | exact Nat.max_le.2 ⟨Nat.le_of_ble_eq_true rfl,bdl_no (ivs_no _)⟩ | exact Nat.max_le.2 ⟨Nat.le_of_ble_eq_true rfl,bdl_no (svs_no _)⟩ | apply And.intro))⟩
     ·refine bool_false (decide_eq_false hdt) ?_
      conv => whnf
      refine bool_true (decide_eq_true (show (i + (0 + 1)) * 8 ≤ 140737488355328 by omega)) ?_
      conv => whnf
      refine bool_true (decide_eq_true (show i + (0 + 1) ≤ 9223372036854775807 by omega)) ?_
      conv => whnf
      refine bool_true (lenIs_dsL _ l i) ?_
      conv => whnf
      refine bool_true (decide_eq_true rfl) ?_
      conv => whnf
      exact ⟨(i + 1,false,.lst (ivs (dsL (ftD E C n d a y) l (i + 1))) (i + 1) (.ch 9),[.chain (i + 1) 1 3]),[9],⟨h2,hbi,.inr ⟨Nat.succ_pos _,rfl,rfl⟩⟩,by show l.length - (i + 1) < l.length - i;omega,(by refine ⟨rfl,rfl,rfl,rfl,rfl,rfl,by decide,?_,?_,?_,by kernel_rfl,?_,?_⟩ <;> repeat' (first | exact trivial | exact rfl | exact ⟨_,rfl,RnV.wk (WkV.refl _) (Nat.zero_le _)⟩ | exact ⟨_,rfl,RnV.wk (WkV.refl _) (Nat.le_of_ble_eq_true rfl)⟩ | exact TrIw.refl _ _ _ _ _ | exact OWk.same _ | exact OWk.loop _ _ _ _ _ _ _ (by repeat' (first | exact trivial | exact WkV.refl _ | exact WkV.unk _ | apply And.intro)) | exact Nat.zero_le _ | exact ⟨_,rfl,RnV.wk (WkV.refl _) (bdl_no ll)⟩ | exact bdl_no lC | exact bdl_no ll | exact bdl_no lF | exact Nat.max_le.2 ⟨bdl_no lF,Nat.le_of_ble_eq_true rfl⟩ | exact Nat.max_le.2 ⟨Nat.le_of_ble_eq_true rfl,bdl_no lF⟩ | exact ⟨_,rfl,RnV.wk (WkV.int hi1) (Nat.zero_le _)⟩ | exact ⟨_,rfl,rnE1 (j :=0) (by decide) rfl rfl (hvN hmv hdt)⟩ | exact Nat.le_of_ble_eq_true rfl | exact bdl_no (by assumption) | exact bdl_no (flat_no _) | exact bdl_no (ivs_no _) | exact bdl_no (svs_no _) | exact Nat.max_le.2 ⟨Nat.le_of_ble_eq_true rfl,bdl_no (ivs_no _)⟩ | exact Nat.max_le.2 ⟨Nat.le_of_ble_eq_true rfl,bdl_no (svs_no _)⟩ | apply And.intro))⟩
   ·refine bool_false (ltN_f h2) ?_
    conv => whnf
    have e:i = l.length :=by omega
    rw [← e,← hb]
    exact ⟨_,rfl,wkv_nl,rfl,rfl,rfl,rfl,rfl,rfl,rfl,rfl,trivial⟩
  |true =>
   conv => whnf
   by_cases h2:i < l.length
   ·have hbi:true = mvB l (i + 1) :=by rw [mvB,← hb];rfl
    refine bool_true (ltN_t h2) ?_
    conv => whnf
    refine bool_true (inR_t h2) ?_
    conv => whnf
    refine plan_as (takP (tak_ft l h2)) ?_
    conv => whnf
    by_cases hmv:(gf l i).1 = true
    ·refine bool_true (hmv) ?_
     conv => whnf
     refine sym_call hC ?_
     conv => whnf
     refine sym_inline hE hS ?_
     conv => whnf
     refine plan_as (lk_ea y s _) ?_
     conv => whnf
     refine sym_drawn hS (by kernel_rfl) ?_
     conv => whnf
     refine bool_true (decide_eq_true (show (i + (0 + 1)) * 8 ≤ 140737488355328 by omega)) ?_
     conv => whnf
     refine bool_true (decide_eq_true (show i + (0 + 1) ≤ 9223372036854775807 by omega)) ?_
     conv => whnf
     refine bool_true (lenIs_dsL _ l i) ?_
     conv => whnf
     refine bool_true (decide_eq_true rfl) ?_
     conv => whnf
     exact ⟨(i + 1,true,.lst (ivs (dsL (ftD E C n d a y) l (i + 1))) (i + 1) (.ch 9),[.chain (i + 1) 1 3]),[9],⟨h2,hbi,.inr ⟨Nat.succ_pos _,rfl,rfl⟩⟩,by show l.length - (i + 1) < l.length - i;omega,(by refine ⟨rfl,rfl,rfl,rfl,rfl,rfl,by decide,?_,?_,?_,by kernel_rfl,?_,?_⟩ <;> repeat' (first | exact trivial | exact rfl | exact ⟨_,rfl,RnV.wk (WkV.refl _) (Nat.zero_le _)⟩ | exact ⟨_,rfl,RnV.wk (WkV.refl _) (Nat.le_of_ble_eq_true rfl)⟩ | exact TrIw.refl _ _ _ _ _ | exact OWk.same _ | exact OWk.loop _ _ _ _ _ _ _ (by repeat' (first | exact trivial | exact WkV.refl _ | exact WkV.unk _ | apply And.intro)) | exact Nat.zero_le _ | exact ⟨_,rfl,RnV.wk (WkV.refl _) (bdl_no ll)⟩ | exact bdl_no lC | exact bdl_no ll | exact bdl_no lF | exact Nat.max_le.2 ⟨bdl_no lF,Nat.le_of_ble_eq_true rfl⟩ | exact Nat.max_le.2 ⟨Nat.le_of_ble_eq_true rfl,bdl_no lF⟩ | exact ⟨_,rfl,RnV.wk (WkV.int hi1) (Nat.zero_le _)⟩ | exact ⟨_,rfl,rnE1 (j :=0) (by decide) rfl rfl (hvM hmv h2)⟩ | exact Nat.le_of_ble_eq_true rfl | exact bdl_no (by assumption) | exact bdl_no (flat_no _) | exact bdl_no (ivs_no _) | exact bdl_no (svs_no _) | exact Nat.max_le.2 ⟨Nat.le_of_ble_eq_true rfl,bdl_no (ivs_no _)⟩ | exact Nat.max_le.2 ⟨Nat.le_of_ble_eq_true rfl,bdl_no (svs_no _)⟩ | apply And.intro))⟩
    ·refine bool_false (Bool.eq_false_iff.2 hmv) ?_
     conv => whnf
     refine sym_pure hC (isDateAt h y hy) ?_
     conv => whnf
     by_cases hdt:dateOk (leapB C (Int.ofNat y)) (gf l i).2.1 (gf l i).2.2.1
     ·refine bool_true (decide_eq_true hdt) ?_
      conv => whnf
      refine sym_pure hC (dayAt h y hy hdt hk) ?_
      conv => whnf
      refine bool_true (decide_eq_true (show (i + (0 + 1)) * 8 ≤ 140737488355328 by omega)) ?_
      conv => whnf
      refine bool_true (decide_eq_true (show i + (0 + 1) ≤ 9223372036854775807 by omega)) ?_
      conv => whnf
      refine bool_true (lenIs_dsL _ l i) ?_
      conv => whnf
      refine bool_true (decide_eq_true rfl) ?_
      conv => whnf
      exact ⟨(i + 1,true,.lst (ivs (dsL (ftD E C n d a y) l (i + 1))) (i + 1) (.ch 9),[.chain (i + 1) 1 3]),[9],⟨h2,hbi,.inr ⟨Nat.succ_pos _,rfl,rfl⟩⟩,by show l.length - (i + 1) < l.length - i;omega,(by refine ⟨rfl,rfl,rfl,rfl,rfl,rfl,by decide,?_,?_,?_,by kernel_rfl,?_,?_⟩ <;> repeat' (first | exact trivial | exact rfl | exact ⟨_,rfl,RnV.wk (WkV.refl _) (Nat.zero_le _)⟩ | exact ⟨_,rfl,RnV.wk (WkV.refl _) (Nat.le_of_ble_eq_true rfl)⟩ | exact TrIw.refl _ _ _ _ _ | exact OWk.same _ | exact OWk.loop _ _ _ _ _ _ _ (by repeat' (first | exact trivial | exact WkV.refl _ | exact WkV.unk _ | apply And.intro)) | exact Nat.zero_le _ | exact ⟨_,rfl,RnV.wk (WkV.refl _) (bdl_no ll)⟩ | exact bdl_no lC | exact bdl_no ll | exact bdl_no lF | exact Nat.max_le.2 ⟨bdl_no lF,Nat.le_of_ble_eq_true rfl⟩ | exact Nat.max_le.2 ⟨Nat.le_of_ble_eq_true rfl,bdl_no lF⟩ | exact ⟨_,rfl,RnV.wk (WkV.int hi1) (Nat.zero_le _)⟩ | exact ⟨_,rfl,rnE1 (j :=0) (by decide) rfl rfl (hvD hmv hdt)⟩ | exact Nat.le_of_ble_eq_true rfl | exact bdl_no (by assumption) | exact bdl_no (flat_no _) | exact bdl_no (ivs_no _) | exact bdl_no (svs_no _) | exact Nat.max_le.2 ⟨Nat.le_of_ble_eq_true rfl,bdl_no (ivs_no _)⟩ | exact Nat.max_le.2 ⟨Nat.le_of_ble_eq_true rfl,bdl_no (svs_no _)⟩ | apply And.intro))⟩
     ·refine bool_false (decide_eq_false hdt) ?_
      conv => whnf
      refine bool_true (decide_eq_true (show (i + (0 + 1)) * 8 ≤ 140737488355328 by omega)) ?_
      conv => whnf
      refine bool_true (decide_eq_true (show i + (0 + 1) ≤ 9223372036854775807 by omega)) ?_
      conv => whnf
      refine bool_true (lenIs_dsL _ l i) ?_
      conv => whnf
      refine bool_true (decide_eq_true rfl) ?_
      conv => whnf
      exact ⟨(i + 1,true,.lst (ivs (dsL (ftD E C n d a y) l (i + 1))) (i + 1) (.ch 9),[.chain (i + 1) 1 3]),[9],⟨h2,hbi,.inr ⟨Nat.succ_pos _,rfl,rfl⟩⟩,by show l.length - (i + 1) < l.length - i;omega,(by refine ⟨rfl,rfl,rfl,rfl,rfl,rfl,by decide,?_,?_,?_,by kernel_rfl,?_,?_⟩ <;> repeat' (first | exact trivial | exact rfl | exact ⟨_,rfl,RnV.wk (WkV.refl _) (Nat.zero_le _)⟩ | exact ⟨_,rfl,RnV.wk (WkV.refl _) (Nat.le_of_ble_eq_true rfl)⟩ | exact TrIw.refl _ _ _ _ _ | exact OWk.same _ | exact OWk.loop _ _ _ _ _ _ _ (by repeat' (first | exact trivial | exact WkV.refl _ | exact WkV.unk _ | apply And.intro)) | exact Nat.zero_le _ | exact ⟨_,rfl,RnV.wk (WkV.refl _) (bdl_no ll)⟩ | exact bdl_no lC | exact bdl_no ll | exact bdl_no lF | exact Nat.max_le.2 ⟨bdl_no lF,Nat.le_of_ble_eq_true rfl⟩ | exact Nat.max_le.2 ⟨Nat.le_of_ble_eq_true rfl,bdl_no lF⟩ | exact ⟨_,rfl,RnV.wk (WkV.int hi1) (Nat.zero_le _)⟩ | exact ⟨_,rfl,rnE1 (j :=0) (by decide) rfl rfl (hvN hmv hdt)⟩ | exact Nat.le_of_ble_eq_true rfl | exact bdl_no (by assumption) | exact bdl_no (flat_no _) | exact bdl_no (ivs_no _) | exact bdl_no (svs_no _) | exact Nat.max_le.2 ⟨Nat.le_of_ble_eq_true rfl,bdl_no (ivs_no _)⟩ | exact Nat.max_le.2 ⟨Nat.le_of_ble_eq_true rfl,bdl_no (svs_no _)⟩ | apply And.intro))⟩
   ·refine bool_false (ltN_f h2) ?_
    conv => whnf
    have e:i = l.length :=by omega
    rw [← e,← hb]
    exact ⟨_,rfl,wkv_nl,rfl,rfl,rfl,rfl,rfl,rfl,rfl,rfl,trivial⟩
end
end Go.Abs.Seat
