/-
  Sharing pairs: the rounds of the search: printed by gen65.py.
-/
import Derived.Test.YtpjclnoehlflcaaGreatDoorU13
namespace Go.Abs.Seat
noncomputable section
open Go Go.Abs Go.Proofs.Tryz
set_option maxRecDepth 100000
set_option maxHeartbeats 40000000
attribute [local irreducible] IntKind.wrap pEq
theorem q15 (a b s:Int) (N:AV) (fs:List (Nat × Nat)) (pairs t:Nat) (es:List (AV × AV)) (hes:BdE 8 es) (lN:Live noL N) (now:Sh) (hw:¬ pairs < now.2.2) (hil:now.1.length < fs.length) (h2:now.1.length ≤ 2) (LS S1 S2:List Sh) (r1:Rnd a b s 2 N fs pairs t es (gq fs now.1.length) now 1 LS S1) (r2:Rnd a b s 2 N fs pairs t es (gq fs now.1.length) now 2 S1 S2):HS a b s 2 N fs pairs t es now (lsS LS) (lsS S2) :=by
 obtain ⟨now1,nw,nq⟩ :=now
 have lz :=qag (zp fs)
 have ir:now1.length < (zp fs).length :=by rw [qa9];exact hil
 have hbd:qi9 8 (hv (hpS a b (Int.ofNat 2) s N fs pairs t es .hole)) 6 8 :=by
  repeat' (first | exact trivial | exact .inl rfl | apply And.intro | exact hes | exact bz lN | exact qaj lz | exact Nat.zero_le _ | exact Nat.le_of_ble_eq_true rfl | refine Or.inr ?_)
 have c1:decide (Int.ofNat nq > Int.ofNat pairs) = false :=zF (show ¬ (pairs:Int) < (nq:Int) by have hw:¬ pairs < nq :=hw;omega)
 have c2:((now1.length:Int) == ((zp fs).length:Int)) = false :=by rw [qa9];exact beq_eq_false_iff_ne.2 (by have hil:now1.length < fs.length :=hil;omega)
 have hil:now1.length < fs.length :=hil
 have lnow :=qba now1
 by_cases hLS:LS = [] <;> rcases r1 with ⟨rfl,l1⟩ | ⟨u1,x1,y1,d1,⟨i1,j1⟩,pw1,z1,w1,m1,v1,q1,⟨a1,b1,hf1⟩ | ⟨a1,b1,hf1⟩ | ⟨a1,b1,hf1⟩⟩ <;> rcases r2 with ⟨rfl,l2⟩ | ⟨u2,x2,y2,d2,⟨i2,j2⟩,pw2,z2,w2,m2,v2,q2,⟨a2,b2,hf2⟩ | ⟨a2,b2,hf2⟩ | ⟨a2,b2,hf2⟩⟩ <;> try contradiction
 all_goals
  have lLS :=qdi LS
  try have lu1 :=qag (zp u1)
  try have lu2 :=qag (zp u2)
  first | rw [qe7 hLS] | rw [qeg hLS]
  try first | rw [qe7 (by assumption)] | rw [qeg (by assumption)]
  rcases now1 with _ | ⟨g1,_ | ⟨g2,_ | ⟨g3,_⟩⟩⟩
  rotate_left 3
  ·exact absurd h2 (by simp)
  all_goals
   first
   |refine qcm (n :=8) (h :=hpS a b (Int.ofNat 2) s N fs pairs t es (qby 135 8 none)) hE rfl (qec _ _ _ _ _ _ _ _ _ _) rfl (Nat.le_of_ble_eq_true rfl) (by first | exact Nat.le_of_ble_eq_true rfl | exact Nat.max_le.2 ⟨Nat.max_le.2 ⟨qaj lnow,Nat.zero_le _⟩,Nat.le_of_ble_eq_true rfl⟩) (Nat.zero_le _) hbd trivial (by first | exact trivial | exact qaj (qdi _)) (fun h => absurd rfl h) (by repeat' (first | exact trivial | exact .inl rfl | exact .inr rfl | apply And.intro)) rfl rfl fun S q pc hS hq hC hE => ?_
   |refine qcm (n :=9) (h :=appT [.chain LS.length 3 138] 8 (hpS a b (Int.ofNat 2) s N fs pairs t es (qby 135 8 (some (shv LS,LS.length))))) hE rfl (show HEnd _ 9 from qcr [_] 8 _ (qec _ _ _ _ _ _ _ _ _ _)) rfl (Nat.le_of_ble_eq_true rfl) (by first | exact Nat.le_of_ble_eq_true rfl | exact Nat.max_le.2 ⟨Nat.max_le.2 ⟨qaj lnow,Nat.zero_le _⟩,Nat.le_of_ble_eq_true rfl⟩) (Nat.zero_le _) hbd (qaj lLS) (by first | exact trivial | exact qaj (qdi _)) (fun _ h => nomatch h) (by repeat' (first | exact trivial | exact .inl rfl | exact .inr rfl | apply And.intro)) rfl rfl fun S q pc hS hq hC hE => ?_
   conv=>whnf
   refine qad (c1) ?_
   conv=>whnf
   refine qad (c2) ?_
   conv=>whnf
   refine qae hE hS ?_
   conv=>whnf
   repeat ((first
    |refine qa8 hS (by kernel_rfl) ?_
    |refine qaa (qaf ir) ?_
    |refine qac (takP (qbw fs hil)) ?_
    |refine qac (qjx l1) ?_
    |refine qac (qjw j1) ?_
    |refine qab hC pw1 ?_
    |refine qaa (ne0 z1) ?_
    |refine qac (qjx l2) ?_
    |refine qac (qjw j2) ?_
    |refine qab hC pw2 ?_
    |refine qaa (ne0 z2) ?_
    |refine qa7 hq true rfl ?_
    |refine qa7 hq false rfl ?_
    |(refine qat hC ?_;(conv=>whnf);first | refine qc3 hS (HS.cw hf1 (by simp) m1 q1 rfl rfl) _ (by exact Nat.le_of_ble_eq_true rfl) (by repeat' (first | exact trivial | exact .inl rfl | exact .inr rfl | apply And.intro)) rfl rfl rfl rfl ?_ | refine qcs hS (HS.cw hf1 (by simp) m1 q1 rfl rfl) (by exact Nat.le_of_ble_eq_true rfl) (by exact Nat.le_of_ble_eq_true rfl) (by repeat' (first | exact trivial | exact .inl rfl | exact .inr rfl | apply And.intro)) rfl rfl rfl ?_ | refine qct hS (HS.cw hf1 (by simp) m1 q1 rfl rfl) (by exact Nat.le_of_ble_eq_true rfl) (by repeat' (first | exact trivial | exact .inl rfl | exact .inr rfl | apply And.intro)) rfl ?_ | refine qc3 hS (HS.cw hf2 (by simp) m2 q2 rfl rfl) _ (by exact Nat.le_of_ble_eq_true rfl) (by repeat' (first | exact trivial | exact .inl rfl | exact .inr rfl | apply And.intro)) rfl rfl rfl rfl ?_ | refine qcs hS (HS.cw hf2 (by simp) m2 q2 rfl rfl) (by exact Nat.le_of_ble_eq_true rfl) (by exact Nat.le_of_ble_eq_true rfl) (by repeat' (first | exact trivial | exact .inl rfl | exact .inr rfl | apply And.intro)) rfl rfl rfl ?_ | refine qct hS (HS.cw hf2 (by simp) m2 q2 rfl rfl) (by exact Nat.le_of_ble_eq_true rfl) (by repeat' (first | exact trivial | exact .inl rfl | exact .inr rfl | apply And.intro)) rfl ?_ | refine qap hE hS ?_)
    |(refine qa1 10 rfl (congrArg (AV.int .i64) (show IntKind.i64.wrap (1 + 1) = 2 from qas (by decide) (by decide))) ?_;refine qae hE hS ?_)
    |(refine qa1 10 rfl (congrArg (AV.int .i64) (show IntKind.i64.wrap (2 + 1) = 3 from qas (by decide) (by decide))) ?_;refine qae hE hS ?_));conv=>whnf)
   first | exact ⟨_,8,rfl,WkV.refl _,Nat.le_refl _,fun h => absurd rfl h,(by repeat' (first | exact trivial | exact .inl rfl | exact .inr rfl | apply And.intro)),rfl,fun h => absurd rfl h⟩ | exact ⟨_,_,rfl,WkV.refl _,(by exact Nat.le_of_ble_eq_true rfl),(by first | exact fun h => absurd rfl h | exact fun _ => rfl),(by repeat' (first | exact trivial | exact .inl rfl | exact .inr rfl | apply And.intro)),rfl,(by first | exact fun h => absurd rfl h | exact fun _ => rfl)⟩
end
end Go.Abs.Seat
