/-
  Leap years, months, days of a year, dates.
-/
import Derived.Test.YtcnidgafdonioaaGreatVE1
import Derived.Test.YtcnidgafdonioaaGreatVU5
/-! Leap years, months, days of a year, dates. -/
namespace Go.Abs.Seat
noncomputable section
open Go Go.Abs Go.Proofs.Tryz
set_option maxRecDepth 100000
set_option maxHeartbeats 40000000
attribute [local irreducible] IntKind.wrap pEq
abbrev opV (E:Int) (C:List Int) (F:AV):AV :=.agg [iv E,nl C,.unk,.unk,.unk,F,.unk]
theorem op_args {E:Int} {C:List Int} {a b c F F' mp x:AV} {xs:List AV} (hF:Wk F F') (hl:∀ L,Live L F → Live L F') {f:FuncId} {v:AV} (h:Pure prog f (opV E C F' :: x :: xs) v):Pure prog f (.agg [iv E,nl C,a,b,c,F,mp] :: x :: xs) v :=by
 refine Pure.ofArgs (fun g w vs hv => ?_) (fun L hl' => ?_) h
 ·obtain ⟨u,us,rfl,h1,h2⟩ :=hv
  refine ⟨u,us,rfl,?_,h2⟩
  simp only [VRel,VRels] at h1 ⊢
  obtain ⟨ws,e,u1,r1,e1,k1,u2,r2,e2,k2,u3,r3,e3,k3,u4,r4,e4,k4,u5,r5,e5,k5,u6,r6,e6,k6,u7,r7,e7,k7,e8⟩ :=h1
  exact ⟨ws,e,u1,r1,e1,k1,u2,r2,e2,k2,u3,r3,e3,trivial,u4,r4,e4,trivial,u5,r5,e5,trivial,u6,r6,e6,hF g w u6 k6,u7,r7,e7,trivial,e8⟩
 ·obtain ⟨⟨h1,h2,h3,h4,h5,h6,h7,h8⟩,h9⟩ :=hl'
  exact ⟨⟨h1,h2,trivial,trivial,trivial,hl L h6,trivial,h8⟩,h9⟩
theorem op_unk {E:Int} {C:List Int} {a b c F mp x:AV} {xs:List AV} {f:FuncId} {v:AV} (h:Pure prog f (opV E C .unk :: x :: xs) v):Pure prog f (.agg [iv E,nl C,a,b,c,F,mp] :: x :: xs) v :=op_args (F' :=.unk) (fun _ _ _ _ => trivial) (fun _ _ => trivial) h
theorem leap_pure (E:Int) (C:List Int) (hC:C.length ≤ 3) (hc:∀ i,i < C.length → 2 ≤ gi C i) (y:Int):Pure prog 125 [opV E C .unk,iv y] (.bool (leapB C y)) :=by
 have lC :=ivs_no C
 refine pure_sym hE rfl (by repeat' (first | exact trivial | assumption | exact flat_no _ | exact (fun _ h => nomatch h) | apply And.intro)) (by repeat' (first | exact trivial | assumption | exact flat_no _ | exact (fun _ h => nomatch h) | apply And.intro)) fun S q pc hS hq hC hE => ?_
 conv => whnf
 refine sym_loop hE hS (A :=Nat × Bool) [1,10,11] (fun (i,b) => [(5,.bool b),(12,nv i)]) (fun _ => []) (fun (i,b) => i ≤ C.length ∧ lpF y b (C.drop i) = leapB C y) (fun (i,_) => C.length - i) (0,false) rfl rfl (by refine ⟨rfl,rfl,rfl,rfl,?_,?_⟩ <;> repeat' (first | exact trivial | exact rfl | exact Nat.zero_le _ | exact Nat.le_of_ble_eq_true rfl | exact bdl_no (by assumption) | exact bdl_no (flat_no _) | exact bdl_no (ivs_no _) | exact Nat.max_le.2 ⟨Nat.le_of_ble_eq_true rfl,bdl_no (ivs_no _)⟩ | apply And.intro)) ⟨Nat.zero_le _,rfl⟩ ?_
 rintro ⟨i,b⟩ ⟨hi,he⟩
 conv => whnf
 by_cases h:i < C.length
 ·rw [show decide (Int.ofNat i < ↑C.length) = true from ltN_t h]
  conv => whnf
  refine bool_true (inR_t (i :=i) (n :=C.length) h) ?_
  conv => whnf
  refine plan_as (nthP (nth_ivs1 (l :=C) (i :=i) h)) ?_
  conv => whnf
  have hn :=hc i h
  have hd:C.drop i = gi C i :: C.drop (i + 1) :=drop_gi C h
  rw [hd,lpF] at he
  have hw:IntKind.i64.wrap (Int.ofNat i + 1) = Int.ofNat (i + 1) :=wrapN (m :=i + 1) (by omega)
  refine bool_true ((show (!(gi C i == 0)) = true by rw [beq_eq_false_iff_ne.2 (by omega)];rfl)) ?_
  conv => whnf
  by_cases hz:y.tmod (gi C i) = 0
  ·rw [if_pos hz] at he
   refine bool_true (beq_iff_eq.2 hz) ?_
   conv => whnf
   exact ⟨(i + 1,!b),⟨h,he⟩,by show C.length - (i + 1) < C.length - i;omega,(by refine ⟨rfl,rfl,rfl,rfl,?_,?_⟩ <;> repeat' (first | exact trivial | exact rfl | exact Nat.zero_le _ | exact congrArg (fun z => some (AV.int .i64 z)) hw | exact Nat.le_of_ble_eq_true rfl | exact bdl_no (by assumption) | exact bdl_no (flat_no _) | exact bdl_no (ivs_no _) | exact Nat.max_le.2 ⟨Nat.le_of_ble_eq_true rfl,bdl_no (ivs_no _)⟩ | apply And.intro))⟩
  ·rw [if_neg hz] at he
   refine bool_false (beq_eq_false_iff_ne.2 hz) ?_
   conv => whnf
   exact ⟨(i + 1,b),⟨h,he⟩,by show C.length - (i + 1) < C.length - i;omega,(by refine ⟨rfl,rfl,rfl,rfl,?_,?_⟩ <;> repeat' (first | exact trivial | exact rfl | exact Nat.zero_le _ | exact congrArg (fun z => some (AV.int .i64 z)) hw | exact Nat.le_of_ble_eq_true rfl | exact bdl_no (by assumption) | exact bdl_no (flat_no _) | exact bdl_no (ivs_no _) | exact Nat.max_le.2 ⟨Nat.le_of_ble_eq_true rfl,bdl_no (ivs_no _)⟩ | apply And.intro))⟩
 ·rw [show decide (Int.ofNat i < ↑C.length) = false from ltN_f h]
  conv => whnf
  rw [List.drop_eq_nil_of_le (by omega),lpF] at he
  rw [← he]
  exact ⟨_,rfl,Wk.refl _⟩
theorem lsum_take (l:List Int) {i:Nat} (h:i < l.length):lsumI (l.take (i + 1)) = lsumI (l.take i) + gi l i :=by
 induction l generalizing i with
 |nil => cases h
 |cons x r ih =>
  cases i with
  |zero => simp [lsumI,gi]
  |succ i =>
   have :=ih (i :=i) (by simpa using h)
   simp only [List.take_succ_cons,lsumI]
   rw [this]
   show _ = x + lsumI (r.take i) + gi r i
   omega
theorem dsum_pure (l:List Int) (hl:l.length ≤ 12) (hb:∀ i,i < l.length → 0 ≤ gi l i ∧ gi l i ≤ 31):Pure prog 126 [nl l] (iv (lsumI l)) :=by
 have ll :=ivs_no l
 have hs:∀ i,i ≤ l.length → 0 ≤ lsumI (l.take i) ∧ lsumI (l.take i) ≤ 31 * (i:Int) :=by
  intro i
  induction i with
  |zero => intro _;simp [lsumI]
  |succ i ih =>
   intro hi
   have h1 :=ih (by omega)
   have h2 :=hb i (by omega)
   rw [lsum_take l (by omega)]
   omega
 refine pure_sym hE rfl (by repeat' (first | exact trivial | assumption | exact flat_no _ | exact (fun _ h => nomatch h) | apply And.intro)) (by repeat' (first | exact trivial | assumption | exact flat_no _ | exact (fun _ h => nomatch h) | apply And.intro)) fun S q pc hS hq hC hE => ?_
 conv => whnf
 refine sym_loop hE hS (A :=Nat) [0,6,7] (fun i => [(3,iv (lsumI (l.take i))),(8,nv i)]) (fun _ => []) (fun i => i ≤ l.length) (fun i => l.length - i) 0 rfl rfl (by refine ⟨rfl,rfl,rfl,rfl,?_,?_⟩ <;> repeat' (first | exact trivial | exact rfl | exact Nat.zero_le _ | exact Nat.le_of_ble_eq_true rfl | exact bdl_no (by assumption) | exact bdl_no (flat_no _) | exact bdl_no (ivs_no _) | exact Nat.max_le.2 ⟨Nat.le_of_ble_eq_true rfl,bdl_no (ivs_no _)⟩ | apply And.intro)) (Nat.zero_le _) ?_
 intro i hi
 conv => whnf
 by_cases h:i < l.length
 ·rw [show decide (Int.ofNat i < ↑l.length) = true from ltN_t h]
  conv => whnf
  refine bool_true (inR_t (i :=i) (n :=l.length) h) ?_
  conv => whnf
  refine plan_as (nthP (nth_ivs1 (l :=l) (i :=i) h)) ?_
  conv => whnf
  have hw:IntKind.i64.wrap (Int.ofNat i + 1) = Int.ofNat (i + 1) :=wrapN (m :=i + 1) (by omega)
  have h1 :=hs i hi
  have h2 :=hb i h
  have hv:IntKind.i64.wrap (lsumI (l.take i) + gi l i) = lsumI (l.take (i + 1)) :=by rw [lsum_take l h];exact wrapI (by omega) (by omega)
  exact ⟨i + 1,h,by omega,(by refine ⟨rfl,rfl,rfl,rfl,?_,?_⟩ <;> repeat' (first | exact trivial | exact rfl | exact Nat.zero_le _ | exact congrArg (fun z => some (AV.int .i64 z)) hw | exact congrArg (fun z => some (AV.int .i64 z)) hv | exact Nat.le_of_ble_eq_true rfl | exact bdl_no (by assumption) | exact bdl_no (flat_no _) | exact bdl_no (ivs_no _) | exact Nat.max_le.2 ⟨Nat.le_of_ble_eq_true rfl,bdl_no (ivs_no _)⟩ | apply And.intro))⟩
 ·rw [show decide (Int.ofNat i < ↑l.length) = false from ltN_f h]
  conv => whnf
  rw [show lsumI (l.take i) = lsumI l by rw [List.take_of_length_le (by omega)]]
  exact ⟨_,rfl,Wk.refl _⟩
def chkE (t:Tr AV) (xs:List AV) (n:Nat):Prop :=@Nat.rec (fun _ => Prop) True (fun j ih => t.get j = xs[j]? ∧ ih) n
theorem chkE.at {t:Tr AV} {xs:List AV}:∀ {n:Nat},chkE t xs n → ∀ j,j < n → t.get j = xs[j]?
 |n + 1,h,j,hj => by
  by_cases e:j = n
  ·subst e;exact h.1
  ·exact chkE.at h.2 j (by omega)
def muM:Option Tmp → TypeId → Bool :=fun d _ => match d with
 |some 4 => true
 | _ => false
theorem months_pure (b:Bool):Pure prog 124 [.bool b] (nl (monL b)) :=by
 cases b
 ·refine pure_sym hE rfl (by repeat' (first | exact trivial | assumption | exact flat_no _ | exact (fun _ h => nomatch h) | apply And.intro)) (by repeat' (first | exact trivial | assumption | exact flat_no _ | exact (fun _ h => nomatch h) | apply And.intro)) fun S q pc hS hq hC hE => ?_
  conv => whnf
  exact ⟨_,rfl,wk_own rfl⟩
 ·refine pure_symF (hEM muM) rfl (by repeat' (first | exact trivial | assumption | exact flat_no _ | exact (fun _ h => nomatch h) | apply And.intro)) (by repeat' (first | exact trivial | assumption | exact flat_no _ | exact (fun _ h => nomatch h) | apply And.intro)) fun S q pc hS hq hC hE => ?_
  conv => whnf
  exact ⟨_,rfl,FzV.slcN rfl rfl (chkE.at (by repeat' (first | exact trivial | kernel_rfl | apply And.intro))) (ivs_no (monL true))⟩
theorem monL_le (b:Bool):∀ i,i < (monL b).length → 0 ≤ gi (monL b) i ∧ gi (monL b) i ≤ 31 :=by
 have key:∀ b:Bool,∀ i:Nat,i < 12 → 0 ≤ gi (monL b) i ∧ gi (monL b) i ≤ 31 :=by decide
 intro i h
 rw [monL_len] at h
 exact key b i h
theorem dlB_sum (b:Bool):lsumI (monL b) = dlB b :=by cases b <;> rfl
structure cyc (C:List Int):Prop where
 l3:C.length ≤ 3
 ge:∀ i,i < C.length → 2 ≤ gi C i
theorem days_pure (E:Int) {C:List Int} (hC:cyc C) (y:Int):Pure prog 122 [opV E C .unk,iv y] (iv (dlB (leapB C y))) :=by
 have lC :=ivs_no C
 have p1 :=leap_pure E C hC.l3 hC.ge y
 have p2 :=months_pure (leapB C y)
 have p3 :=dsum_pure (monL (leapB C y)) (Nat.le_of_eq (monL_len _)) (monL_le _)
 rw [dlB_sum] at p3
 generalize leapB C y = b at *
 refine pure_sym hE rfl (by repeat' (first | exact trivial | assumption | exact flat_no _ | exact (fun _ h => nomatch h) | apply And.intro)) (by repeat' (first | exact trivial | assumption | exact flat_no _ | exact (fun _ h => nomatch h) | apply And.intro)) fun S q pc hS hq hC hE => ?_
 conv => whnf
 refine sym_pure hC (p1) ?_
 conv => whnf
 refine sym_pure hC (p2) ?_
 conv => whnf
 refine sym_pure hC (p3) ?_
 conv => whnf
 exact ⟨_,rfl,Wk.refl _⟩
abbrev dtV (y m d:Int):AV :=.agg [iv y,iv m,iv d]
theorem dt_nat {b:Bool} {m d:Int} (h:1 ≤ m ∧ m ≤ 12):∃ k:Nat,m = Int.ofNat k ∧ 1 ≤ k ∧ k ≤ 12 ∧ (dateOk b m d ↔ 1 ≤ d ∧ d ≤ gi (monL b) (k - 1)) :=by
 refine ⟨m.toNat,by show m = ((m.toNat:Nat):Int);omega,by omega,by omega,?_⟩
 have e:(m - 1).toNat = m.toNat - 1 :=by omega
 unfold dateOk
 rw [e]
 exact ⟨fun z => z.2,fun z => ⟨h,z⟩⟩
theorem isDate_pure (E:Int) {C:List Int} (hC:cyc C) (y m d:Int) (hy:0 ≤ y ∧ y ≤ 4000):Pure prog 68 [opV E C .unk,dtV y m d] (.bool (decide (dateOk (leapB C y) m d))) :=by
 have lC :=ivs_no C
 have p1 :=leap_pure E C hC.l3 hC.ge y
 have p2 :=months_pure (leapB C y)
 have ml :=monL_len (leapB C y)
 have mn :=ivs_no (monL (leapB C y))
 have pY :=isYear_pure y
 rw [decide_eq_true hy] at pY
 generalize leapB C y = b at *
 by_cases h1:1 ≤ m ∧ m ≤ 12
 ·obtain ⟨k,rfl,k1,k2,hk⟩ :=dt_nat (b :=b) (d :=d) h1
  have pM :=din_pure (Int.ofNat k) 1 12
  rw [decide_eq_true h1] at pM
  have hx:k - 1 < (monL b).length :=by omega
  have hs:IntKind.i64.wrap (Int.ofNat k - 1) = Int.ofNat (k - 1) :=wrapSub1 k1 (by omega)
  have pD :=din_pure d 1 (gi (monL b) (k - 1))
  rw [show decide (1 ≤ d ∧ d ≤ gi (monL b) (k - 1)) = decide (dateOk b (Int.ofNat k) d) from decide_eq_decide.2 hk.symm] at pD
  refine pure_sym hE rfl (by repeat' (first | exact trivial | assumption | exact flat_no _ | exact (fun _ h => nomatch h) | apply And.intro)) (by repeat' (first | exact trivial | assumption | exact flat_no _ | exact (fun _ h => nomatch h) | apply And.intro)) fun S q pc hS hq hC hE => ?_
  conv => whnf
  refine sym_pure hC (pY) ?_
  conv => whnf
  refine sym_pure hC (pM) ?_
  conv => whnf
  refine sym_pure hC (p1) ?_
  conv => whnf
  refine sym_pure hC (p2) ?_
  conv => whnf
  rw [hs]
  conv => whnf
  refine bool_true (inR_t hx) ?_
  conv => whnf
  refine plan_as (nthP (nth_ivs1 hx)) ?_
  conv => whnf
  refine sym_pure hC (pD) ?_
  conv => whnf
  refine sym_drawn hS (by kernel_rfl) ?_
  conv => whnf
  exact ⟨_,rfl,Wk.refl _⟩
 ·have pM :=din_pure m 1 12
  rw [decide_eq_false h1] at pM
  rw [decide_eq_false (show ¬ dateOk b m d from fun z => h1 z.1)]
  refine pure_sym hE rfl (by repeat' (first | exact trivial | assumption | exact flat_no _ | exact (fun _ h => nomatch h) | apply And.intro)) (by repeat' (first | exact trivial | assumption | exact flat_no _ | exact (fun _ h => nomatch h) | apply And.intro)) fun S q pc hS hq hC hE => ?_
  conv => whnf
  refine sym_pure hC (pY) ?_
  conv => whnf
  refine sym_pure hC (pM) ?_
  conv => whnf
  refine sym_drawn hS (by kernel_rfl) ?_
  conv => whnf
  exact ⟨_,rfl,Wk.refl _⟩
theorem takeN_ivE:∀ (l:List Int) (i:Nat),i ≤ l.length → takeN i (ivs l) = some (ivs (l.take i))
 | _,0,_ => by rw [List.take_zero];rfl
 | [],i + 1,h => absurd h (by simp)
 |x :: l,i + 1,h => by
  have :=takeN_ivE l i (by simpa using h)
  show (match takeN i (ivs l) with | some r => some (iv x :: r) | none => none) = _
  rw [this];rfl
section
attribute [local irreducible] pSlice
theorem day_pure (E:Int) {C:List Int} (hC:cyc C) (F:List Int) (y:Nat) (m d:Int) (hy:y ≤ 4000) (hF:F.length = 4002) (hd:dateOk (leapB C (Int.ofNat y)) m d) (hb:0 ≤ gi F y ∧ gi F y ≤ 2000000):Pure prog 69 [opV E C (nl F),dtV (Int.ofNat y) m d] (iv (gi F y + intoD (leapB C (Int.ofNat y)) m.toNat d)) :=by
 have lC :=ivs_no C
 have lF :=ivs_no F
 have p1 :=leap_pure E C hC.l3 hC.ge (Int.ofNat y)
 have p2 :=months_pure (leapB C (Int.ofNat y))
 have ml :=monL_len (leapB C (Int.ofNat y))
 have mn :=ivs_no (monL (leapB C (Int.ofNat y)))
 have yF:y < F.length :=by omega
 generalize leapB C (Int.ofNat y) = b at *
 have h1 :=hd.1
 obtain ⟨k,rfl,k1,k2,hk⟩ :=dt_nat (b :=b) (d :=d) hd.1
 have hs:IntKind.i64.wrap (Int.ofNat k - 1) = Int.ofNat (k - 1) :=wrapSub1 k1 (by omega)
 have tl:((monL b).take (k - 1)).length = k - 1 :=by rw [List.length_take];omega
 have p3 :=dsum_pure ((monL b).take (k - 1)) (by omega) (fun i hi => by
  have :=monL_le b i (by omega)
  rwa [show gi ((monL b).take (k - 1)) i = gi (monL b) i by simp only [gi,List.getD,List.getElem?_take];rw [if_pos (by omega)]])
 rw [nl,tl] at p3
 have hi :=intoD_le hd
 have h31 :=monL_le b (k - 1) (by omega)
 have hd2 :=hk.1 hd
 rw [intoD] at hi
 have w1:IntKind.i64.wrap (gi F y + lsumI ((monL b).take (k - 1))) = gi F y + lsumI ((monL b).take (k - 1)) :=wrapI (by omega) (by omega)
 have w2:IntKind.i64.wrap (gi F y + lsumI ((monL b).take (k - 1)) + d) = gi F y + lsumI ((monL b).take (k - 1)) + d :=wrapI (by omega) (by omega)
 have w3:IntKind.i64.wrap (gi F y + lsumI ((monL b).take (k - 1)) + d - 1) = gi F y + (lsumI ((monL b).take (k - 1)) + d - 1) :=by rw [wrapI (by omega) (by omega)];omega
 show Pure prog 69 _ (iv (gi F y + (lsumI ((monL b).take (k - 1)) + d - 1)))
 have lt :=ivs_no ((monL b).take (k - 1))
 refine pure_sym hE rfl (by repeat' (first | exact trivial | assumption | exact flat_no _ | exact (fun _ h => nomatch h) | apply And.intro)) (by repeat' (first | exact trivial | assumption | exact flat_no _ | exact (fun _ h => nomatch h) | apply And.intro)) fun S q pc hS hq hC hE => ?_
 conv => whnf
 refine bool_true (inR_t yF) ?_
 conv => whnf
 refine plan_as (nthP (nth_ivs1 (l :=F) (i :=y) yF)) ?_
 conv => whnf
 refine sym_pure hC (op_unk p1) ?_
 conv => whnf
 refine sym_pure hC (p2) ?_
 conv => whnf
 refine plan_as (slice_to (e :=3) (inf :=t3) (h :=k - 1) (ys :=ivs ((monL b).take (k - 1))) (by kernel_rfl) (by kernel_rfl) hs (by omega) (by rw [show t3.size = 1 from rfl,Nat.mul_one];exact takeN_ivE _ _ (by omega))) ?_
 conv => whnf
 refine sym_pure hC (p3) ?_
 conv => whnf
 rw [w1]
 conv => whnf
 rw [w2]
 conv => whnf
 rw [w3]
 conv => whnf
 refine sym_drawn hS (by kernel_rfl) ?_
 conv => whnf
 exact ⟨_,rfl,Wk.refl _⟩
end
end
end Go.Abs.Seat

