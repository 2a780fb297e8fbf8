/-
  Trains of a rule.
-/
import Derived.Test.YtcnidgafdonioaaGreatVU8
import Derived.Test.YtcnidgafdonioaaGreatVU7
import Derived.Test.YtcnidgafdonioaaGreatVT28
import Derived.Test.YtcnidgafdonioaaGreatVE7
namespace Go.Abs.Seat
noncomputable section
open Go Go.Abs Go.Proofs.Tryz
set_option maxRecDepth 100000
set_option maxHeartbeats 40000000
attribute [local irreducible] pEq


end
end Go.Abs.Seat
namespace Go.Abs.Seat
open Go Go.Abs Go.Proofs.Tryz
set_option maxRecDepth 100000
set_option maxHeartbeats 40000000
attribute [local irreducible] IntKind.wrap pEq
def PQ (v:AV) (l:List (Int × Int)):Prop :=v = .nils ∧ l = [] ∨ v = pv l
theorem PQ.no {v:AV} {l:List (Int × Int)} (h:PQ v l):Live noL v :=by
 rcases h with ⟨rfl,_⟩ | rfl
 ·trivial
 ·exact pv_no l

end Go.Abs.Seat
namespace Go.Abs.Seat
noncomputable section
open Go Go.Abs Go.Proofs.Tryz
set_option maxRecDepth 100000
theorem kp_mono {L L' u:Int} (h:L ≤ L'):∀ (l:List Int) (s:Int),kp L u s l → kp L' u s l
 | [],s,k => Int.le_trans k h
 |x :: r,s,k => by
  rw [kp] at k ⊢
  by_cases c:x < u
  ·rw [if_pos c] at k ⊢
   exact ⟨Int.le_trans k.1 h,kp_mono h r x k.2⟩
  ·rw [if_neg c] at k ⊢
   exact Int.le_trans k h
theorem days_cons (f:List Int) (x:Int) (r:List Int):days f (x :: r) = gi f x.toNat :: days f r :=rfl
theorem days_sub (f:List Int):∀ (x:List Int) (lo:Nat),Asc lo f.length x → (days f x).Sublist (f.drop lo)
 | [],_,_ => List.nil_sublist _
 |x :: r,lo,h => by
  obtain ⟨h1,h2,h3⟩ :=h
  have hx:(x.toNat:Int) = x :=Int.toNat_of_nonneg (by omega)
  have hl:x.toNat < f.length :=by omega
  have ih :=days_sub f r (x.toNat + 1) (by rw [show ((x.toNat + 1:Nat):Int) = x + 1 by omega];exact h3)
  rw [days_cons]
  have:(gi f x.toNat :: days f r).Sublist (f.drop x.toNat) :=by
   rw [drop_gi f hl]
   exact ih.cons_cons _
  refine this.trans ?_
  have e:f.drop x.toNat = (f.drop lo).drop (x.toNat - lo) :=by rw [List.drop_drop];congr 1;omega
  rw [e]
  exact List.drop_sublist _ _
theorem Asc.low {hi lo lo':Int} (h:lo' ≤ lo):∀ {l:List Int},Asc lo hi l → Asc lo' hi l
 | [],_ => trivial
 | _ :: _,k => ⟨Int.le_trans h k.1,k.2⟩
theorem sub_days (f:List Int):∀ (g l:List Int) (c:Nat),f.drop c = g → l.Sublist g → ∃ x,Asc c f.length x ∧ days f x = l :=by
 intro g
 induction g with
 |nil =>
  intro l c _ h
  rw [List.sublist_nil.1 h]
  exact ⟨[],trivial,rfl⟩
 |cons a g ih =>
  intro l c hd h
  have hc:c < f.length :=by
   apply Nat.lt_of_not_le
   intro hle
   rw [List.drop_eq_nil_of_le hle] at hd
   cases hd
  rw [drop_gi f hc] at hd
  injection hd with hd1 hd2
  cases h with
  |cons _ h =>
   obtain ⟨x,h1,h2⟩ :=ih l (c + 1) hd2 h
   exact ⟨x,h1.low (by omega),h2⟩
  |cons_cons _ h =>
   rename_i l
   obtain ⟨x,h1,h2⟩ :=ih l (c + 1) hd2 h
   exact ⟨(c:Int) :: x,⟨Int.le_refl _,by omega,by rw [show ((c:Int) + 1) = ((c + 1:Nat):Int) by omega];exact h1⟩,by rw [days_cons,h2,Int.toNat_natCast,hd1]⟩
theorem settings_less {f f':List Int} (hs:f.Sublist f') {L L' u:Nat} (hL:L ≤ L') (h:okS f L u (2 ^ f.length) ≠ []) :
  okS f' L' u (2 ^ f'.length) ≠ [] ∧ (bstS (okS f' L' u (2 ^ f'.length))).length ≤ (bstS (okS f L u (2 ^ f.length))).length :=by
 have hm :=okS_all.1 (bstS_mem h)
 generalize bstS (okS f L u (2 ^ f.length)) = x at hm
 have h1 :=(days_sub f x 0 (asc_of hm.1)).trans (by rw [List.drop_zero];exact hs)
 obtain ⟨x',h2,h3⟩ :=sub_days f' f' (days f x) 0 (List.drop_zero ..) h1
 have hl:x'.length = x.length :=by rw [← days_len f' x',h3,days_len]
 have hm':x' ∈ okS f' L' u (2 ^ f'.length) :=okS_all.2 ⟨asc_ok h2,by rw [h3];exact kp_mono (by omega) _ _ hm.2⟩
 refine ⟨fun e => (by rw [e] at hm';cases hm'),?_⟩
 have :=bstS_min hm'
 rw [seI_lt] at this
 omega
end
end Go.Abs.Seat
namespace Go.Abs.Seat
noncomputable section
open Classical in
def cntU (p:Int → Prop):Nat → Nat
 | 0 => 0
 |k + 1 => cntU p k + if p (Int.ofNat (k + 1)) then 1 else 0
theorem cntU_congr {p q:Int → Prop} (h:∀ x,p x ↔ q x):∀ k,cntU p k = cntU q k
 | 0 => rfl
 |k + 1 => by
  have e :=h (Int.ofNat (k + 1))
  rw [cntU,cntU,cntU_congr h k]
  by_cases hp:p (Int.ofNat (k + 1))
  ·rw [if_pos hp,if_pos (e.1 hp)]
  ·rw [if_neg hp,if_neg fun z => hp (e.2 z)]
theorem cntU_one {p q:Int → Prop} {v:Int} (h:∀ x,q x ↔ p x ∨ v = x) (hv:¬ p v):∀ k:Nat,cntU q k = cntU p k + if 1 ≤ v ∧ v ≤ (k:Int) then 1 else 0
 | 0 => by rw [cntU,cntU,if_neg (by omega)]
 |k + 1 => by
  rw [cntU,cntU,cntU_one h hv k]
  by_cases e:v = Int.ofNat (k + 1)
  ·have e':v = (k:Int) + 1 :=e
   rw [if_pos ((h _).2 (.inr e)),if_neg (show ¬ p (Int.ofNat (k + 1)) from e ▸ hv),if_neg (by omega),if_pos (by omega)]
  ·have e':¬ v = (k:Int) + 1 :=e
   have hq:q (Int.ofNat (k + 1)) ↔ p (Int.ofNat (k + 1)) :=⟨fun z => ((h _).1 z).resolve_right e,fun z => (h _).2 (.inl z)⟩
   by_cases hp:p (Int.ofNat (k + 1))
   ·rw [if_pos (hq.2 hp),if_pos hp]
    by_cases hr:1 ≤ v ∧ v ≤ (k:Int)
    ·rw [if_pos hr,if_pos (by omega)]
    ·rw [if_neg hr,if_neg (by omega)]
   ·rw [if_neg fun z => hp (hq.1 z),if_neg hp]
    by_cases hr:1 ≤ v ∧ v ≤ (k:Int)
    ·rw [if_pos hr,if_pos (by omega)]
    ·rw [if_neg hr,if_neg (by omega)]
theorem f20_cnt (D:List Int) (F:Int):∀ k,(f20 D F k).length = cntU (hitP D F) k
 | 0 => rfl
 |k + 1 => by
  rw [f20,List.length_append,f20_cnt D F k,cntU]
  by_cases h:hitP D F (Int.ofNat (k + 1))
  ·rw [if_pos h,if_pos h];rfl
  ·rw [if_neg h,if_neg h];rfl
def someN (D:List Int):Nat → Nat
 | 0 => 0
 |k + 1 => someN D k + if 0 ≤ gi D k then 1 else 0
def twN (D:List Int):Nat → Nat
 | 0 => 0
 |k + 1 => twN D k + if 0 ≤ gi D k ∧ gi D k ∈ D.take k then 1 else 0
theorem hit_take (D:List Int) (F:Int) {k:Nat} (hk:k < D.length) (x:Int):hitP (D.take (k + 1)) F x ↔ hitP (D.take k) F x ∨ 0 ≤ gi D k ∧ gi D k - F + 1 = x :=by
 have e:∀ {m i:Nat},i < m → gi (D.take m) i = gi D i :=fun {m i} h => by
  simp only [gi,List.getD,List.getElem?_take];rw [if_pos h]
 constructor
 ·rintro ⟨i,h1,h2,h3⟩
  rw [List.length_take] at h1
  have h1:i < k + 1 :=by omega
  rw [e h1] at h2 h3
  by_cases hi:i = k
  ·subst hi;exact .inr ⟨h2,h3⟩
  ·have hi:i < k :=by omega
   refine .inl ⟨i,by rw [List.length_take];omega,?_,?_⟩
   ·rw [e hi];exact h2
   ·rw [e hi];exact h3
 ·rintro (⟨i,h1,h2,h3⟩ | ⟨h2,h3⟩)
  ·rw [List.length_take] at h1
   have h1:i < k :=by omega
   rw [e h1] at h2 h3
   have h1':i < k + 1 :=by omega
   refine ⟨i,by rw [List.length_take];omega,?_,?_⟩
   ·rw [e h1'];exact h2
   ·rw [e h1'];exact h3
  ·refine ⟨k,by rw [List.length_take];omega,?_,?_⟩
   ·rw [e (Nat.lt_succ_self k)];exact h2
   ·rw [e (Nat.lt_succ_self k)];exact h3
theorem gi_memE (D:List Int) {k i:Nat} (h:i < k) (hk:i < D.length):gi D i ∈ D.take k :=by
 have e:(D.take k)[i]? = some (gi D i) :=by
  rw [List.getElem?_take,if_pos h];simp [gi,List.getD,hk]
 exact List.mem_of_getElem? e
theorem mem_giE {D:List Int} {k:Nat} {x:Int} (h:x ∈ D.take k):∃ i,i < k ∧ i < D.length ∧ gi D i = x :=by
 obtain ⟨i,hi,e⟩ :=List.getElem_of_mem h
 rw [List.length_take] at hi
 rw [List.getElem_take] at e
 exact ⟨i,by omega,by omega,by simp [gi,List.getD,show i < D.length by omega,e]⟩
theorem days_cnt (D:List Int) (F:Int) (M:Nat) (hM:M = 400) (hb:∀ i,i < D.length → gi D i = -1 ∨ F ≤ gi D i ∧ gi D i ≤ F + 365):∀ k,k ≤ D.length → (f20 (D.take k) F M).length + twN D k = someN D k
 | 0,_ => by
  rw [f20_cnt,twN,someN,List.take_zero]
  have:∀ m,cntU (hitP [] F) m = 0 :=fun m => by
   induction m with
   |zero => rfl
   |succ m ih => rw [cntU,ih,if_neg (fun ⟨i,h,_⟩ => by cases h)]
  rw [this]
 |k + 1,hk => by
  have ih :=days_cnt D F M hM hb k (by omega)
  have hx :=hit_take D F (k :=k) (by omega)
  rw [f20_cnt] at ih ⊢
  rw [twN,someN]
  by_cases h0:0 ≤ gi D k
  ·rw [if_pos h0]
   by_cases h1:gi D k ∈ D.take k
   ·rw [if_pos ⟨h0,h1⟩]
    have e:∀ x,hitP (D.take (k + 1)) F x ↔ hitP (D.take k) F x :=fun x => by
     rw [hx x]
     refine ⟨fun z => z.elim id fun z => ?_,.inl⟩
     obtain ⟨i,i1,i2,i3⟩ :=mem_giE h1
     refine ⟨i,by rw [List.length_take];omega,?_⟩
     rw [show gi (D.take k) i = gi D i by simp only [gi,List.getD,List.getElem?_take];rw [if_pos i1],i3]
     exact z
    rw [cntU_congr e];omega
   ·rw [if_neg fun z => h1 z.2]
    have hn:¬ hitP (D.take k) F (gi D k - F + 1) :=by
     rintro ⟨i,i1,i2,i3⟩
     rw [List.length_take] at i1
     rw [show gi (D.take k) i = gi D i by simp only [gi,List.getD,List.getElem?_take];rw [if_pos (by omega)]] at i3
     have:gi D i = gi D k :=by omega
     exact h1 (this ▸ gi_memE D (show i < k by omega) (by omega))
    have e :=cntU_one (p :=hitP (D.take k) F) (q :=hitP (D.take (k + 1)) F) (v :=gi D k - F + 1) (fun x => by rw [hx x];exact ⟨fun z => z.imp id fun z => z.2,fun z => z.imp id fun z => ⟨h0,z⟩⟩) hn M
    rw [e,if_pos (by have :=hb k (by omega);omega)]
    omega
  ·have e:∀ x,hitP (D.take (k + 1)) F x ↔ hitP (D.take k) F x :=fun x => by
    rw [hx x]
    exact ⟨fun z => z.elim id fun z => absurd z.1 h0,.inl⟩
   rw [if_neg h0,if_neg fun z => h0 z.1,cntU_congr e]
   omega
theorem twN_pos (D:List Int):∀ k,0 < twN D k ↔ ∃ i,i < k ∧ 0 ≤ gi D i ∧ gi D i ∈ D.take i
 | 0 => ⟨fun h => absurd h (Nat.lt_irrefl _),fun ⟨i,h,_⟩ => absurd h (Nat.not_lt_zero _)⟩
 |k + 1 => by
  have ih :=twN_pos D k
  rw [twN]
  by_cases h:0 ≤ gi D k ∧ gi D k ∈ D.take k
  ·rw [if_pos h]
   exact ⟨fun _ => ⟨k,Nat.lt_succ_self k,h⟩,fun _ => Nat.succ_pos _⟩
  ·rw [if_neg h,Nat.add_zero,ih]
   constructor
   ·rintro ⟨i,h1,h2⟩;exact ⟨i,by omega,h2⟩
   ·rintro ⟨i,h1,h2⟩
    by_cases e:i = k
    ·subst e;exact absurd h2 h
    ·exact ⟨i,by omega,h2⟩
theorem meet_iff (D:List Int) (F:Int) {M:Nat} (hM:M = 400) (hb:∀ i,i < D.length → gi D i = -1 ∨ F ≤ gi D i ∧ gi D i ≤ F + 365):(f20 D F M).length < someN D D.length ↔ ∃ i,i < D.length ∧ 0 ≤ gi D i ∧ gi D i ∈ D.take i :=by
 have h :=days_cnt D F M hM hb D.length (Nat.le_refl _)
 rw [List.take_length] at h
 rw [← twN_pos]
 omega
theorem someN_le (D:List Int):∀ k,someN D k ≤ k
 | 0 => Nat.le_refl 0
 |k + 1 => by
  have :=someN_le D k
  rw [someN]
  split <;> omega
theorem f20_le (D:List Int) (F:Int) {M:Nat} (hM:M = 400) (hb:∀ i,i < D.length → gi D i = -1 ∨ F ≤ gi D i ∧ gi D i ≤ F + 365):(f20 D F M).length ≤ D.length :=by
 have h :=days_cnt D F M hM hb D.length (Nat.le_refl _)
 rw [List.take_length] at h
 have :=someN_le D D.length
 omega
theorem f20_ok (D:List Int) (F:Int):∀ k,(∀ i,i < (f20 D F k).length → 1 ≤ gi (f20 D F k) i ∧ gi (f20 D F k) i ≤ (k:Int)) ∧ ∀ i,i + 1 < (f20 D F k).length → gi (f20 D F k) i < gi (f20 D F k) (i + 1)
 | 0 => ⟨fun i h => absurd h (Nat.not_lt_zero _),fun i h => absurd h (Nat.not_lt_zero _)⟩
 |k + 1 => by
  obtain ⟨h1,h2⟩ :=f20_ok D F k
  by_cases h:hitP D F (Int.ofNat (k + 1))
  ·have e:f20 D F (k + 1) = f20 D F k ++ [Int.ofNat (k + 1)] :=by rw [f20,if_pos h]
   rw [e]
   have hl:∀ i,i < (f20 D F k).length → gi (f20 D F k ++ [Int.ofNat (k + 1)]) i = gi (f20 D F k) i :=fun i hi => by simp [gi,List.getD,List.getElem?_append_left hi]
   have hr:gi (f20 D F k ++ [Int.ofNat (k + 1)]) (f20 D F k).length = (k:Int) + 1 :=by simp [gi,List.getD]
   constructor
   ·intro i hi
    rw [List.length_append] at hi
    by_cases c:i < (f20 D F k).length
    ·have :=h1 i c;rw [hl i c];omega
    ·have:i = (f20 D F k).length :=by simp only [List.length_cons,List.length_nil] at hi;omega
     rw [this,hr];omega
   ·intro i hi
    rw [List.length_append] at hi
    simp only [List.length_cons,List.length_nil] at hi
    by_cases c:i + 1 < (f20 D F k).length
    ·rw [hl i (by omega),hl (i + 1) c];exact h2 i c
    ·have:i + 1 = (f20 D F k).length :=by omega
     rw [this,hr,hl i (by omega)]
     have :=h1 i (by omega)
     omega
  ·have e:f20 D F (k + 1) = f20 D F k :=by rw [f20,if_neg h,List.append_nil]
   rw [e]
   exact ⟨fun i hi => by have :=h1 i hi;omega,h2⟩
theorem f20_fe (D:List Int) (F:Int) {M:Nat} (hM:M = 400) (h6:D.length ≤ 6) (hb:∀ i,i < D.length → gi D i = -1 ∨ F ≤ gi D i ∧ gi D i ≤ F + 365):feOk (f20 D F M) :=by
 have hl :=f20_le D F hM hb
 obtain ⟨h1,h2⟩ :=f20_ok D F M
 refine ⟨fun i hi => ⟨by have :=h1 i hi;omega,fun h0 => ?_⟩,by omega⟩
 have :=h2 (i - 1) (by omega)
 rwa [show i - 1 + 1 = i by omega] at this
theorem f20_sub (D:List Int) (F:Int):∀ k,(f20 D.tail F k).Sublist (f20 D F k)
 | 0 => List.Sublist.refl _
 |k + 1 => by
  rw [f20,f20]
  refine (f20_sub D F k).append ?_
  by_cases h:hitP D.tail F (Int.ofNat (k + 1))
  ·rw [if_pos h,if_pos]
   ·exact List.Sublist.refl _
   ·obtain ⟨i,h1,h2⟩ :=h
    cases D with
    |nil => cases h1
    |cons a D => exact ⟨i + 1,by simpa using h1,h2⟩
  ·rw [if_neg h];exact List.nil_sublist _
theorem lastD_at:∀ (l:List Int) (i:Nat) (t:Int),(∀ i,i + 1 < l.length → gi l i < gi l (i + 1)) → i < l.length → lastD (gi l i) t l = gi l i
 | [],i,t,_,h => absurd h (Nat.not_lt_zero _)
 |x :: r,0,t,hu,_ => by
  show (if x ≤ x then lastD x x r else t) = x
  rw [if_pos (Int.le_refl x)]
  cases r with
  |nil => rfl
  |cons y r =>
   have :=hu 0 (by simp)
   have:x < y :=this
   show (if y ≤ x then lastD x y r else x) = x
   rw [if_neg (by omega)]
 |x :: r,i + 1,t,hu,h => by
  have h':i < r.length :=by simpa using h
  have hx:x < gi r i :=by
   have key:∀ j,j < r.length → x < gi r j :=fun j => by
    induction j with
    |zero => intro hj;exact hu 0 (by simpa using hj)
    |succ j ih =>
     intro hj
     have h1 :=ih (by omega)
     have h2:gi r j < gi r (j + 1) :=hu (j + 1) (by simpa using hj)
     omega
   exact key i h'
  show (if x ≤ gi r i then lastD (gi r i) x r else t) = gi r i
  rw [if_pos (by omega)]
  exact lastD_at r i x (fun j hj => hu (j + 1) (by simpa using hj)) h'
end
end Go.Abs.Seat
/-! The law TrainKeeps. -/
namespace Go.Abs.Seat
open Go Go.Abs Go.Proofs.Tryz
set_option maxRecDepth 100000
set_option maxHeartbeats 4000000
attribute [local irreducible] IntKind.wrap pEq
section
variable {v:AV} {k:Nat} {b bF bE bS bN bL:Bool} {n d u m:Int} {w z:AV} {f s:List Int}
end
theorem keepsE_pure {v:AV} {k x y:Nat} (hv:TV v k x y) (n d m:Nat) (hn:n ≤ 50000) (hnd:1 ≤ d ∧ d ≤ 50000) (hm:m ≤ 10800) {w z:AV} {f s:List Int} (hf:IL w f) (hs:IL z s) 
  (pf:Pure prog 76 [w] (.bool true)) (ps:Pure prog 86 [w,z] (.bool true)) (u:Nat) (hu:u ≤ 10000) {b:Bool} (pk:Pure prog 80 [nv (lastV x y n d m),w,z,nv u] (.bool b)) :
  Pure prog 32 [v,fv (Int.ofNat n) (Int.ofNat d),nv m,w,z,nv u] (.tup [.bool b,iv 0]) :=by
 have lw :=hf.no
 have lz :=hs.no
 have bb :=dif_le hn hnd.2 hv.bx.2 hv.by_.2
 have pw :=wlasts_pure x y n d m bb.1 bb.2.1 bb.2.2 hm
 obtain ⟨xs,rfl,lx⟩ :=hv.sh
 rcases hf with ⟨rfl,rfl⟩ | rfl <;> rcases hs with ⟨rfl,rfl⟩ | rfl
 all_goals
  refine pure_sym hE rfl (by repeat' (first | exact trivial | assumption | exact flat_no _ | exact (fun _ h => nomatch h) | apply And.intro)) (by repeat' (first | exact trivial | assumption | exact flat_no _ | exact (fun _ h => nomatch h) | apply And.intro)) fun S q pc hS hq hC hE => ?_
  conv => whnf
  refine sym_pure hC (hv.isT) ?_
  conv => whnf
  refine sym_pure hC (isFraction_pure _ _) ?_
  conv => whnf
  rw [decide_eq_true (isF_N hn hnd.1 hnd.2)]
  conv => whnf
  refine sym_pure hC (isLimit_pure _) ?_
  conv => whnf
  rw [decide_eq_true (rng (t :=m) (m :=10800) (by omega))]
  conv => whnf
  refine sym_pure hC (pf) ?_
  conv => whnf
  refine sym_pure hC (ps) ?_
  conv => whnf
  refine sym_pure hC (isTurn_pure _) ?_
  conv => whnf
  rw [decide_eq_true (rng (t :=u) (m :=10000) (by omega))]
  conv => whnf
  refine sym_pure hC (wrongBy_pure hv n d hn hnd) ?_
  conv => whnf
  refine sym_pure hC (pw) ?_
  conv => whnf
  refine sym_pure hC (pk) ?_
  conv => whnf
  exact ⟨_,rfl,Wk.refl _⟩
section
variable {v:AV} {k:Nat} {b bF bE bS bN bL:Bool} {n d u m:Int} {w z:AV} {f s:List Int}
end
end Go.Abs.Seat

namespace Go.Abs.Seat
open Go Go.Abs Go.Proofs.Tryz
set_option maxRecDepth 100000
set_option maxHeartbeats 4000000
attribute [local irreducible] IntKind.wrap pEq
def riV (n d t:Nat):Nat :=n * t % d * 21600 / d
theorem rRight_pure (n d t:Nat) (hn:n ≤ 50000) (hd:1 ≤ d ∧ d ≤ 50000) (ht:t ≤ 10000):Pure prog 34 [fv (Int.ofNat n) (Int.ofNat d),nv t] (nv (riV n d t)) :=by
 have b1:n * t ≤ 50000 * 10000 :=Nat.mul_le_mul hn ht
 have b2 :=Nat.mod_lt (n * t) hd.1
 unfold riV
 refine pure_sym hE rfl (by repeat' (first | exact trivial | assumption | exact flat_no _ | exact (fun _ h => nomatch h) | apply And.intro)) (by repeat' (first | exact trivial | assumption | exact flat_no _ | exact (fun _ h => nomatch h) | apply And.intro)) fun S q pc hS hq hC hE => ?_
 conv => whnf
 refine bool_true (ne0 hd.1) ?_
 conv => whnf
 refine bool_true (ne0 hd.1) ?_
 conv => whnf
 refine sym_drawn hS (by kernel_rfl) ?_
 conv => whnf
 rw [mulN (a :=n) (b :=t) (by omega),tmodN,circN (by omega),quoN (by omega)]
 exact ⟨_,rfl,Wk.refl _⟩
theorem riV_eq (n d t y:Nat) (hy:1 ≤ y):riV n d t = n * t * y % (y * d) * 21600 / (y * d) :=by
 unfold riV
 rw [Nat.mul_comm (n * t) y,Nat.mul_mod_mul_left,Nat.mul_assoc,Nat.mul_div_mul_left _ _ hy]
theorem right_set (x y n d T:Nat) (hy:1 ≤ y):shV x y n d T T = riV n d T :=by
 rw [riV_eq n d T y hy]
 unfold shV
 rw [Nat.sub_self,Nat.mul_zero,Nat.zero_mul,Nat.add_zero]
theorem shown_any {v:AV} {k x y:Nat} (hv:TV v k x y) (n d:Nat) (hn:n ≤ 50000) (hnd:1 ≤ d ∧ d ≤ 50000) {w z:AV} {f s:List Int} (hf:IL w f) (hs:IL z s) (of:feOk f) (os:seOk f.length s)
  (pf:Pure prog 76 [w] (.bool true)) (ps:Pure prog 86 [w,z] (.bool true)) (u T:Nat) (hu:u ≤ 10000) (hT:lastD u 0 (days f s) = T) :
  Pure prog 33 [v,fv (Int.ofNat n) (Int.ofNat d),w,z,nv u] (.tup [nv (shV x y n d T u),iv 0]) :=by
 have hd :=Days.of of os
 rcases hs with ⟨rfl,rfl⟩ | rfl
 ·have:T = 0 :=by have:(0:Int) = T :=hT;omega
  subst this
  exact shown_nil hv n d hn hnd hf (.inl rfl) pf ps u hu
 ·rcases hf with ⟨rfl,rfl⟩ | rfl
  ·have:s = [] :=List.eq_nil_of_length_eq_zero (by have :=hd.sl;simpa using this)
   subst this
   have:T = 0 :=by have:(0:Int) = T :=hT;omega
   subst this
   exact shown_nil hv n d hn hnd (.inl ⟨rfl,rfl⟩) (.inr rfl) pf ps u hu
  ·exact shown_pure hv n d hn hnd f s hd pf ps u T hu hT
theorem days_up {f s:List Int} (h:Days f s):∀ i,i + 1 < (days f s).length → gi (days f s) i < gi (days f s) (i + 1) :=by
 intro i hi
 rw [days_len] at hi
 rw [days_gi _ _ hi,days_gi _ _ (show i < s.length by omega)]
 exact h.up i hi
end Go.Abs.Seat
namespace Go.Abs.Seat
open Go Go.Abs Go.Proofs.Tryz
set_option maxRecDepth 100000
set_option maxHeartbeats 40000000
attribute [local irreducible] IntKind.wrap pEq

theorem IL.sv (l:List Int):IL (sv l) l :=by
 rcases sv_cases l with ⟨e,e'⟩ | e'
 ·exact .inl ⟨e',e⟩
 ·exact .inr e'
end Go.Abs.Seat
