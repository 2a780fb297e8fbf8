/-
  Sharing pairs: what the search finds.
-/
import Derived.Test.YtpjclnoehlflcaaGreatDoorT65
import Derived.Test.YtpjclnoehlflcaaGreatDoorT66
import Derived.Test.YtpjclnoehlflcaaGreatDoorT67
namespace Go.Abs.Seat
noncomputable section
open Go Go.Abs Go.Proofs.Tryz
set_option maxRecDepth 100000
set_option maxHeartbeats 40000000
attribute [local irreducible] IntKind.wrap pEq
theorem qjz (a b s:Int) (p:Nat) (N:AV) (fs:List (Nat × Nat)) (pairs t:Nat) (es:List (AV × AV)) (hes:BdE 8 es) (lN:Live noL N) (now:Sh) (hw:pairs < now.2.2) (LS:List Sh) :
  qf2 prog 106 (.agg [tlA now.1,nv now.2.1,nv now.2.2] :: capS) (hv (hpS a b (Int.ofNat p) s N fs pairs t es .hole)) 8 6 135 3 138 (some (shv LS,LS.length)) (some (shv LS,LS.length)) (.tup []) :=by
 have lz :=qag (zp fs)
 have lt :=qba now.1
 have lS :=qdi LS
 have hbd:qi9 8 (hv (hpS a b (Int.ofNat p) s N fs pairs t es .hole)) 6 8 :=by
  repeat' (first | exact trivial | exact .inl rfl | apply And.intro | exact hes | exact bz lN | exact qaj lz | exact Nat.zero_le _ | exact Nat.le_of_ble_eq_true rfl | refine Or.inr ?_)
 refine qcm (n :=9) (h :=appT [.chain LS.length 3 138] 8 (hpS a b (Int.ofNat p) s N fs pairs t es (qby 135 8 (some (shv LS,LS.length))))) hE rfl (show HEnd _ 9 from qcr [_] 8 _ (qec _ _ _ _ _ _ _ _ _ _)) rfl (Nat.le_of_ble_eq_true rfl) ?_ (Nat.zero_le _) hbd (qaj lS) (qaj lS) (fun _ h => nomatch h) ?_ rfl rfl fun S q pc hS hq hC hE => ?_
 ·by_cases h1:now.1 = []
  ·rw [h1];exact Nat.le_of_ble_eq_true rfl
  ·rw [qh7 h1];exact Nat.max_le.2 ⟨Nat.max_le.2 ⟨qaj lt,Nat.zero_le _⟩,Nat.le_of_ble_eq_true rfl⟩
 ·repeat' (first | exact trivial | exact .inl rfl | exact .inr rfl | apply And.intro)
 ·have c1:decide (Int.ofNat now.2.2 > Int.ofNat pairs) = true :=zT (show (pairs:Int) < (now.2.2:Int) by omega)
  by_cases h1:now.1 = []
  ·rw [h1]
   conv=>whnf
   refine qaa (c1) ?_
   conv=>whnf
   exact ⟨_,8,rfl,WkV.refl _,Nat.le_refl _,fun _ => rfl,by repeat' (first | exact trivial | exact .inl rfl | exact .inr rfl | apply And.intro),rfl,fun _ => rfl⟩
  ·rw [qh7 h1]
   conv=>whnf
   refine qaa (c1) ?_
   conv=>whnf
   exact ⟨_,8,rfl,WkV.refl _,Nat.le_refl _,fun _ => rfl,by repeat' (first | exact trivial | exact .inl rfl | exact .inr rfl | apply And.intro),rfl,fun _ => rfl⟩
theorem qpj {g:Nat → List Sh} {m:Nat} (h:∀ n,(g n).length ≤ m):∀ k,(rnds g k).length ≤ k * m
 | 0 => Nat.zero_le _
 |k + 1 => by
  have h1 :=qpj h k
  have h2 :=h (k + 1)
  rw [rnds,List.length_append,Nat.succ_mul]
  omega
theorem qkf (tr:Nat → Nat × Nat → Option (List (Nat × Nat))) {P:Nat} (pairs t:Nat) (hP:P ≤ 3):∀ (r:List (Nat × Nat)) (now:Sh),(srch tr P pairs t r now).length ≤ 3 ^ r.length
 | [],now => by
  rw [srch];split
  ·exact Nat.le_of_ble_eq_true rfl
  ·exact Nat.le_of_ble_eq_true rfl
 |f :: r,now => by
  rw [srch];split
  ·exact Nat.zero_le _
  ·refine Nat.le_trans (qpj (m :=3 ^ r.length) (fun n => ?_) P) ?_
   ·cases tr n f with
    |none => exact Nat.zero_le _
    |some u => exact qkf tr pairs t hP r _
   ·rw [List.length_cons,Nat.pow_succ,Nat.mul_comm]
    exact Nat.mul_le_mul_left _ hP
theorem qvm {A p q b:Nat} (h1:p < 9223372036854775808) (h2:q < 9223372036854775808):maxI (maxI (Int.ofNat A) (trV p q b)) (IntKind.i64.wrap (0 - trV p q b)) = Int.ofNat (max A (absT p q b)) :=by
 rw [qo2 h1 h2]
 unfold maxI trV absT dN
 by_cases h:p ≤ q
 ·rw [Nat.sub_eq_zero_of_le h,Nat.zero_div]
  generalize (q - p) / b = m
  simp only [Int.ofNat_eq_natCast]
  split <;> split <;> omega
 ·rw [Nat.sub_eq_zero_of_le (Nat.le_of_not_le h),Nat.zero_div]
  generalize (p - q) / b = m
  simp only [Int.ofNat_eq_natCast]
  split <;> split <;> omega
theorem qv7 {a b s:Int} {P:Nat} {N:AV} {fs:List (Nat × Nat)} {pairs t:Nat} {es:List (AV × AV)} {tr:Nat → Nat × Nat → Option (List (Nat × Nat))} (hk:Knw tr P fs es) (ht:Trn tr P fs) (htt:t ≤ 10000) (hpp:pairs ≤ 1000) {f:Nat × Nat} (hf:f ∈ fs) {now:Sh} (hw:¬ pairs < now.2.2) {n:Nat} (hn:1 ≤ n ∧ n ≤ P) (g:Sh → List Sh) (Sc:List Sh)
  (ih:∀ u,tr n f = some u → HS a b s P N fs pairs t es (now.1 ++ [u],max now.2.1 (wfN t f u),now.2.2 + u.length) (lsS Sc) (lsS (Sc ++ g (now.1 ++ [u],max now.2.1 (wfN t f u),now.2.2 + u.length)))) :
  Rnd a b s P N fs pairs t es f now n Sc (Sc ++ match tr n f with | none => [] | some u => g (now.1 ++ [u],max now.2.1 (wfN t f u),now.2.2 + u.length)) :=by
 cases hu:tr n f with
 |none => exact .inl ⟨(List.append_nil _).symm,hk.no n f hn.1 hn.2 hf hu⟩
 |some u =>
  have hi :=ih u hu
  obtain ⟨i,hl⟩ :=hk.yes n f u hn.1 hn.2 hf hu
  have hv :=ht.tv n f u hn.1 hn.2 hf hu
  have hr :=ht.fr f hf
  have ob :=qtu hr.1 hr.2.2 hv.2.2.bx.2 hv.2.2.by_.2 htt
  have o1:(redF (xP u) (yP u)).1 * f.2 * t * 21600 < 9223372036854775808 :=by omega
  have o2:f.1 * (redF (xP u) (yP u)).2 * t * 21600 < 9223372036854775808 :=by omega
  refine .inr ⟨u,_,_,_,⟨i,hl⟩,ql5 hv.2.2 f.1 f.2 hr.1 hr.2,Nat.mul_pos hv.2.2.by_.1 hr.2.1,max now.2.1 (wfN t f u),?_,now.2.2 + u.length,?_,?_⟩
  ·rw [mulT o1 o2,qng o1 o2,qvm o1 o2]
   rfl
  ·rw [qa9]
   exact qas (by have :=hv.2.1;simp only [Int.ofNat_eq_natCast];omega) (by have :=hv.2.1;simp only [Int.ofNat_eq_natCast];omega)
  ·by_cases h1:Sc = []
   ·subst h1
    by_cases h2:g (now.1 ++ [u],max now.2.1 (wfN t f u),now.2.2 + u.length) = []
    ·refine .inl ⟨rfl,h2,?_⟩
     rwa [h2] at hi
    ·refine .inr (.inl ⟨rfl,h2,?_⟩)
     rwa [qeg (l :=[] ++ _) h2] at hi
   ·refine .inr (.inr ⟨h1,fun h => h1 (List.append_eq_nil_iff.1 h).1,?_⟩)
    rwa [qeg h1,qeg (fun h => h1 (List.append_eq_nil_iff.1 h).1)] at hi
theorem qvz {a b s:Int} {P:Nat} (hP:P = 1 ∨ P = 2 ∨ P = 3) {N:AV} {fs:List (Nat × Nat)} {pairs t:Nat} {es:List (AV × AV)} {tr:Nat → Nat × Nat → Option (List (Nat × Nat))} (hes:BdE 8 es) (lN:Live noL N) (hk:Knw tr P fs es) (ht:Trn tr P fs) (htt:t ≤ 10000) (hpp:pairs ≤ 1000) (h3:fs.length ≤ 3) (h0:fs ≠ []) :
  ∀ (r:List (Nat × Nat)) (now:Sh) (LS:List Sh),now.1.length + r.length = fs.length → fs.drop now.1.length = r → LS.length + 3 ^ r.length ≤ 1000 →
   HS a b s P N fs pairs t es now (lsS LS) (lsS (LS ++ srch tr P pairs t r now)) :=by
 intro r
 induction r with
 |nil =>
  intro now LS hl hd hb
  by_cases hw:pairs < now.2.2
  ·rw [ql9 hw,List.append_nil]
   by_cases hLS:LS = []
   ·rw [qe7 hLS];exact qms a b s P N fs pairs t es hes lN now hw
   ·rw [qeg hLS];exact qjz a b s P N fs pairs t es hes lN now hw LS
  ·have hne:now.1 ≠ [] :=fun h => h0 (List.eq_nil_of_length_eq_zero (by rw [h] at hl;simpa using hl.symm))
   rw [srch,if_neg hw]
   by_cases hLS:LS = []
   ·subst hLS;exact qwq a b s P N fs pairs t es hes lN now hw hne (by simpa using hl)
   ·rw [qeg hLS,qeg (by simp)]
    exact qud a b s P N fs pairs t es hes lN now hw hne (by simpa using hl) LS hLS (by have hb:LS.length + 1 ≤ 1000 :=hb;omega)
 |cons f r ih =>
  intro now LS hl hd hb
  by_cases hw:pairs < now.2.2
  ·rw [ql9 hw,List.append_nil]
   by_cases hLS:LS = []
   ·rw [qe7 hLS];exact qms a b s P N fs pairs t es hes lN now hw
   ·rw [qeg hLS];exact qjz a b s P N fs pairs t es hes lN now hw LS
  ·rw [List.length_cons] at hl hb
   have hil:now.1.length < fs.length :=by omega
   have hg:gq fs now.1.length = f :=by
    have :=qcc fs hil
    rw [hd] at this
    exact (List.cons.inj this).1.symm
   have hdr:fs.drop (now.1.length + 1) = r :=by
    have :=qcc fs hil
    rw [hd] at this
    exact (List.cons.inj this).2.symm
   have hf:f ∈ fs :=by rw [← hg];exact qfr fs hil
   rw [Nat.pow_succ] at hb
   have st:∀ (n:Nat) (Sc:List Sh),1 ≤ n ∧ n ≤ P → Sc.length + 3 ^ r.length ≤ 1000 → Rnd a b s P N fs pairs t es (gq fs now.1.length) now n Sc (Sc ++ match tr n f with | none => [] | some u => srch tr P pairs t r (now.1 ++ [u],max now.2.1 (wfN t f u),now.2.2 + u.length)) :=by
    intro n Sc hn hb
    rw [hg]
    refine qv7 hk ht htt hpp hf hw hn (srch tr P pairs t r) Sc fun u hu => ih _ _ ?_ ?_ hb
    ·show (now.1 ++ [u]).length + _ = _
     rw [List.length_append];simp only [List.length_cons,List.length_nil];omega
    ·show fs.drop (now.1 ++ [u]).length = r
     rw [List.length_append];exact hdr
   have gl:∀ n,(match tr n f with | none => [] | some u => srch tr P pairs t r (now.1 ++ [u],max now.2.1 (wfN t f u),now.2.2 + u.length):List Sh).length ≤ 3 ^ r.length :=by
    intro n
    cases tr n f with
    |none => exact Nat.zero_le _
    |some u => exact qkf tr pairs t (by omega) r _
   rw [srch,if_neg hw]
   generalize hG:(fun n => (match tr n f with | none => [] | some u => srch tr P pairs t r (now.1 ++ [u],max now.2.1 (wfN t f u),now.2.2 + u.length):List Sh)) = G
   have st:∀ (n:Nat) (Sc:List Sh),1 ≤ n ∧ n ≤ P → Sc.length + 3 ^ r.length ≤ 1000 → Rnd a b s P N fs pairs t es (gq fs now.1.length) now n Sc (Sc ++ G n) :=by
    rw [← hG];exact st
   have gl:∀ n,(G n).length ≤ 3 ^ r.length :=by
    rw [← hG];exact gl
   have l1 :=gl 1
   have l2 :=gl 2
   rcases hP with rfl | rfl | rfl
   ·exact q16 a b s N fs pairs t es hes lN now hw hil (by omega) LS _ (st 1 LS (by omega) (by omega))
   ·have r2 :=st 2 (LS ++ G 1) (by omega) (by rw [List.length_append];omega)
    have :=q15 a b s N fs pairs t es hes lN now hw hil (by omega) LS _ _ (st 1 LS (by omega) (by omega)) r2
    rw [List.append_assoc] at this
    exact this
   ·have r2 :=st 2 (LS ++ G 1) (by omega) (by rw [List.length_append];omega)
    have r3 :=st 3 (LS ++ G 1 ++ G 2) (by omega) (by simp only [List.length_append];omega)
    have :=q14 a b s N fs pairs t es hes lN now hw hil (by omega) LS _ _ _ (st 1 LS (by omega) (by omega)) r2 r3
    rw [show LS ++ G 1 ++ G 2 ++ G 3 = LS ++ rnds G 3 by simp only [rnds,List.nil_append,List.append_assoc]] at this
    exact this
end
end Go.Abs.Seat
