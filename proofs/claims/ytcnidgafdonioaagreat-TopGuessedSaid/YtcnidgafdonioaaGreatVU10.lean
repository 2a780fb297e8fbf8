/-
  Bills: what is as defined.
-/
import Derived.Test.YtcnidgafdonioaaGreatVU7
import Derived.Test.YtcnidgafdonioaaGreatVT51
import Derived.Test.YtcnidgafdonioaaGreatVU9
import Derived.Test.YtcnidgafdonioaaGreatVU6
import Derived.Test.YtcnidgafdonioaaGreatVU4
import Derived.Test.YtcnidgafdonioaaGreatVT44
namespace Go.Abs.Seat
noncomputable section
open Go Go.Abs Go.Proofs.Tryz
set_option maxRecDepth 100000
set_option maxHeartbeats 40000000
attribute [local irreducible] IntKind.wrap pEq
abbrev bv (x:AV) (a b c s e:Int):AV :=.agg [x,iv a,iv b,iv c,iv s,iv e]
theorem sin_pure (x a b:Int):Pure prog 46 [iv x,iv a,iv b] (.bool (decide (a ≤ x ∧ x ≤ b))) :=by
 refine pure_sym hE rfl (by repeat' (first | exact trivial | assumption | exact flat_no _ | exact (fun _ h => nomatch h) | apply And.intro)) (by repeat' (first | exact trivial | assumption | exact flat_no _ | exact (fun _ h => nomatch h) | apply And.intro)) fun S q pc hS hq hC hE => ?_
 conv => whnf
 by_cases h:a ≤ x
 ·rw [show decide (x ≥ a) = true from decide_eq_true h]
  conv => whnf
  exact ⟨_,rfl,wkb (by simp [h])⟩
 ·rw [show decide (x ≥ a) = false from decide_eq_false h]
  conv => whnf
  exact ⟨_,rfl,wkb (by simp [h])⟩
theorem in9_pure (x a b:Int):Pure prog 36 [iv x,iv a,iv b] (.bool (decide (a ≤ x ∧ x ≤ b))) :=by
 refine pure_sym hE rfl (by repeat' (first | exact trivial | assumption | exact flat_no _ | exact (fun _ h => nomatch h) | apply And.intro)) (by repeat' (first | exact trivial | assumption | exact flat_no _ | exact (fun _ h => nomatch h) | apply And.intro)) fun S q pc hS hq hC hE => ?_
 conv => whnf
 by_cases h:a ≤ x
 ·rw [show decide (x ≥ a) = true from decide_eq_true h]
  conv => whnf
  exact ⟨_,rfl,wkb (by simp [h])⟩
 ·rw [show decide (x ≥ a) = false from decide_eq_false h]
  conv => whnf
  exact ⟨_,rfl,wkb (by simp [h])⟩
theorem sTeeth_pure (a:Int):Pure prog 158 [iv a] (.bool (decide (tth a))) :=by
 refine pure_sym hE rfl (by repeat' (first | exact trivial | assumption | exact flat_no _ | exact (fun _ h => nomatch h) | apply And.intro)) (by repeat' (first | exact trivial | assumption | exact flat_no _ | exact (fun _ h => nomatch h) | apply And.intro)) fun S q pc hS hq hC hE => ?_
 conv => whnf
 refine sym_pure hC (sin_pure a 4 60) ?_
 conv => whnf
 exact ⟨_,rfl,Wk.refl _⟩
/- The walk through a list for the first member that is so (IndexFunc, ContainsFunc): hp is what the closure tells. -/




end
end Go.Abs.Seat
namespace Go.Abs.Seat
noncomputable section
open Go Go.Abs Go.Proofs.Tryz
set_option maxRecDepth 100000
set_option maxHeartbeats 4000000
theorem tv_zp {tq:Nat → Prop} (ht:∀ n,tq n → 4 ≤ n ∧ n ≤ 60) {t:List (Nat × Nat)} (hl:1 ≤ t.length ∧ t.length ≤ 3) (h:AllT tq t):TV (pv (zp t)) t.length (redF (xP t) (yP t)).1 (redF (xP t) (yP t)).2 :=by
 have key:∀ n,tq n → tth (Int.ofNat n) :=fun n hn => by
  have :=ht n hn
  unfold tth
  simp only [Int.ofNat_eq_natCast]
  omega
 match t,hl,h with
 | [(x0,y0)],_,h =>
  have i :=isTrain1 (Int.ofNat x0) (Int.ofNat y0)
  have r :=rTrain1 (Int.ofNat x0) (Int.ofNat y0)
  have g0 :=ht _ h.1.1
  have g1 :=ht _ h.1.2
  rw [decide_eq_true (show gd [(Int.ofNat x0,Int.ofNat y0)] from ⟨⟨key _ h.1.1,key _ h.1.2⟩,trivial⟩)] at i r
  have b :=red_le (a :=1 * x0) (b :=1 * y0) (by omega) (by omega)
  have e1:xP [(x0,y0)] = 1 * x0 :=by show x0 * 1 = _;omega
  have e2:yP [(x0,y0)] = 1 * y0 :=by show y0 * 1 = _;omega
  rw [e1,e2]
  exact ⟨⟨_,rfl,flat_no _⟩,⟨Nat.le_of_ble_eq_true rfl,Nat.le_of_ble_eq_true rfl⟩,i,r,turns1 x0 y0 (by omega),b.1,b.2.1,b.2.2⟩
 | [(x0,y0),(x1,y1)],_,h =>
  have i :=isTrain2 (Int.ofNat x0) (Int.ofNat y0) (Int.ofNat x1) (Int.ofNat y1)
  have r :=rTrain2 (Int.ofNat x0) (Int.ofNat y0) (Int.ofNat x1) (Int.ofNat y1)
  have g0 :=ht _ h.1.1
  have g1 :=ht _ h.1.2
  have g2 :=ht _ h.2.1.1
  have g3 :=ht _ h.2.1.2
  rw [decide_eq_true (show gd [(Int.ofNat x0,Int.ofNat y0),(Int.ofNat x1,Int.ofNat y1)] from ⟨⟨key _ h.1.1,key _ h.1.2⟩,⟨key _ h.2.1.1,key _ h.2.1.2⟩,trivial⟩)] at i r
  have q1:1 * x0 * x1 ≤ 60 * 60 :=Nat.mul_le_mul (show 1 * x0 ≤ 60 by omega) (by omega)
  have q2:1 * y0 * y1 ≤ 60 * 60 :=Nat.mul_le_mul (show 1 * y0 ≤ 60 by omega) (by omega)
  have p1:1 ≤ 1 * x0 * x1 :=Nat.mul_pos (show 0 < 1 * x0 by omega) (by omega)
  have p2:1 ≤ 1 * y0 * y1 :=Nat.mul_pos (show 0 < 1 * y0 by omega) (by omega)
  have b :=red_le (a :=1 * x0 * x1) (b :=1 * y0 * y1) (by omega) (by omega)
  have e1:xP [(x0,y0),(x1,y1)] = 1 * x0 * x1 :=by show x0 * (x1 * 1) = _;rw [Nat.mul_one,Nat.one_mul]
  have e2:yP [(x0,y0),(x1,y1)] = 1 * y0 * y1 :=by show y0 * (y1 * 1) = _;rw [Nat.mul_one,Nat.one_mul]
  rw [e1,e2]
  exact ⟨⟨_,rfl,flat_no _⟩,⟨Nat.le_of_ble_eq_true rfl,Nat.le_of_ble_eq_true rfl⟩,i,r,turns2 x0 y0 x1 y1 (by omega) (by omega),b.1,b.2.1,b.2.2⟩
 | [(x0,y0),(x1,y1),(x2,y2)],_,h =>
  have i :=isTrain3 (Int.ofNat x0) (Int.ofNat y0) (Int.ofNat x1) (Int.ofNat y1) (Int.ofNat x2) (Int.ofNat y2)
  have r :=rTrain3 (Int.ofNat x0) (Int.ofNat y0) (Int.ofNat x1) (Int.ofNat y1) (Int.ofNat x2) (Int.ofNat y2)
  have g0 :=ht _ h.1.1
  have g1 :=ht _ h.1.2
  have g2 :=ht _ h.2.1.1
  have g3 :=ht _ h.2.1.2
  have g4 :=ht _ h.2.2.1.1
  have g5 :=ht _ h.2.2.1.2
  rw [decide_eq_true (show gd [(Int.ofNat x0,Int.ofNat y0),(Int.ofNat x1,Int.ofNat y1),(Int.ofNat x2,Int.ofNat y2)] from ⟨⟨key _ h.1.1,key _ h.1.2⟩,⟨key _ h.2.1.1,key _ h.2.1.2⟩,⟨key _ h.2.2.1.1,key _ h.2.2.1.2⟩,trivial⟩)] at i r
  have q1:1 * x0 * x1 ≤ 60 * 60 :=Nat.mul_le_mul (show 1 * x0 ≤ 60 by omega) (by omega)
  have q2:1 * y0 * y1 ≤ 60 * 60 :=Nat.mul_le_mul (show 1 * y0 ≤ 60 by omega) (by omega)
  have q3:1 * x0 * x1 * x2 ≤ 60 * 60 * 60 :=Nat.mul_le_mul q1 (by omega)
  have q4:1 * y0 * y1 * y2 ≤ 60 * 60 * 60 :=Nat.mul_le_mul q2 (by omega)
  have p1:1 ≤ 1 * x0 * x1 :=Nat.mul_pos (show 0 < 1 * x0 by omega) (by omega)
  have p2:1 ≤ 1 * y0 * y1 :=Nat.mul_pos (show 0 < 1 * y0 by omega) (by omega)
  have p3:1 ≤ 1 * x0 * x1 * x2 :=Nat.mul_pos p1 (by omega)
  have p4:1 ≤ 1 * y0 * y1 * y2 :=Nat.mul_pos p2 (by omega)
  have b :=red_le (a :=1 * x0 * x1 * x2) (b :=1 * y0 * y1 * y2) (by omega) (by omega)
  have e1:xP [(x0,y0),(x1,y1),(x2,y2)] = 1 * x0 * x1 * x2 :=by show x0 * (x1 * (x2 * 1)) = _;rw [Nat.mul_one,Nat.one_mul,Nat.mul_assoc]
  have e2:yP [(x0,y0),(x1,y1),(x2,y2)] = 1 * y0 * y1 * y2 :=by show y0 * (y1 * (y2 * 1)) = _;rw [Nat.mul_one,Nat.one_mul,Nat.mul_assoc]
  rw [e1,e2]
  exact ⟨⟨_,rfl,flat_no _⟩,⟨Nat.le_of_ble_eq_true rfl,Nat.le_of_ble_eq_true rfl⟩,i,r,turns3 x0 y0 x1 y1 x2 y2 (by omega) (by omega) (by omega),b.1,b.2.1,b.2.2⟩
abbrev Lk :=Nat × Nat × Nat
abbrev LkI :=Int × Int × Int
abbrev gL (L:List LkI) (i:Nat):LkI :=L.getD i (0,0,0)
abbrev gN (N:List Lk) (i:Nat):Lk :=N.getD i (0,0,0)
def lks:List LkI → List AV
 | [] => []
 |x :: r => iv x.1 :: iv x.2.1 :: iv x.2.2 :: lks r
abbrev lkA (L:List LkI):AV :=.lst (lks L) L.length .no
def cK (x:Lk):LkI :=(Int.ofNat x.1,Int.ofNat x.2.1,Int.ofNat x.2.2)
def cL (N:List Lk):List LkI :=N.map cK
abbrev nkA (N:List Lk):AV :=.lst (lks (cL N)) N.length .no
theorem cL_len (N:List Lk):(cL N).length = N.length :=List.length_map _
theorem nkA_eq (N:List Lk):lkA (cL N) = nkA N :=by unfold lkA;rw [cL_len]
theorem lks_len:∀ L,(lks L).length = L.length * 3
 | [] => rfl
 | _ :: r => by simp only [lks,List.length_cons,lks_len r];omega
theorem lks_no:∀ L,Lives noL (lks L)
 | [] => trivial
 | _ :: r => ⟨trivial,trivial,trivial,lks_no r⟩
theorem lkA_no (L:List LkI):Live noL (lkA L) :=⟨lks_no L,fun _ h => nomatch h⟩
theorem drop_gL (l:List LkI) {i:Nat} (h:i < l.length):l.drop i = gL l i :: l.drop (i + 1) :=by
 rw [List.drop_eq_getElem_cons h]
 simp [gL,List.getD,h]
theorem take_gL (l:List LkI) {i:Nat} (h:i < l.length):l.take (i + 1) = l.take i ++ [gL l i] :=by
 rw [List.take_succ_eq_append_getElem h]
 simp [gL,List.getD,h]
theorem gL_cL (N:List Lk) {i:Nat} (h:i < N.length):gL (cL N) i = cK (gN N i) :=by
 simp [gL,gN,cL,List.getD,h]
theorem lks_drop:∀ (l:List LkI) (i:Nat),dropN (i * 3) (lks l) = lks (l.drop i)
 | _,0 => rfl
 | [],i + 1 => by rw [dropN_eq,List.drop_eq_nil_of_le (Nat.zero_le _),List.drop_eq_nil_of_le (Nat.zero_le _)];rfl
 |p :: r,i + 1 => by
  rw [show (i + 1) * 3 = i * 3 + 3 by omega,List.drop_succ_cons,← lks_drop r i]
  rfl
theorem tak_lk (l:List LkI) {i:Nat} (h:i < l.length):takeN 3 (dropN (i * 3) (lks l)) = some [iv (gL l i).1,iv (gL l i).2.1,iv (gL l i).2.2] :=by
 rw [lks_drop,drop_gL l h]
 rfl
def trF (N:List Lk):Nat → Nat → List (Nat × Nat)
 | _,0 => []
 | 0,_ + 1 => []
 |f + 1,a + 1 => trF N f (gN N a).1 ++ [(gN N a).2]
def tr (N:List Lk) (a:Nat):List (Nat × Nat) :=trF N a a
def wfN (N:List Lk):Prop :=∀ i,i < N.length → (gN N i).1 ≤ i
theorem trF_fuel (N:List Lk) (h:wfN N):∀ (f g a:Nat),a ≤ f → a ≤ g → a ≤ N.length → trF N f a = trF N g a
 | 0,0,0,_,_,_ => rfl
 | 0,_ + 1,0,_,_,_ => rfl
 | _ + 1,0,0,_,_,_ => rfl
 | _ + 1,_ + 1,0,_,_,_ => rfl
 | 0,_,a + 1,h1,_,_ => absurd h1 (Nat.not_succ_le_zero _)
 | _ + 1,0,a + 1,_,h2,_ => absurd h2 (Nat.not_succ_le_zero _)
 |f + 1,g + 1,a + 1,h1,h2,h3 => by
  have :=h a (by omega)
  rw [trF,trF,trF_fuel N h f g (gN N a).1 (by omega) (by omega) (by omega)]
theorem tr_zero (N:List Lk):tr N 0 = [] :=rfl
theorem tr_succ {N:List Lk} (h:wfN N) {i:Nat} (hi:i < N.length):tr N (i + 1) = tr N (gN N i).1 ++ [(gN N i).2] :=by
 have :=h i hi
 show trF N (i + 1) (i + 1) = _
 rw [trF,trF_fuel N h i (gN N i).1 (gN N i).1 this (Nat.le_refl _) (by omega)]
 rfl
theorem trF_take (N:List Lk) (h:wfN N) (i:Nat) (hi:i ≤ N.length):∀ (f a:Nat),a ≤ i → trF (N.take i) f a = trF N f a
 | 0,0,_ => rfl
 | _ + 1,0,_ => rfl
 | 0,a + 1,_ => rfl
 |f + 1,a + 1,h1 => by
  have e:gN (N.take i) a = gN N a :=by simp [gN,List.getD,show a < i by omega]
  have :=h a (by omega)
  rw [trF,trF,e,trF_take N h i hi f (gN N a).1 (by omega)]
theorem tr_take {N:List Lk} (h:wfN N) {i a:Nat} (hi:i ≤ N.length) (ha:a ≤ i):tr (N.take i) a = tr N a :=trF_take N h i hi a a ha
theorem wfN_take {N:List Lk} (h:wfN N) (i:Nat):wfN (N.take i) :=fun j hj => by
 rw [List.length_take] at hj
 have e:gN (N.take i) j = gN N j :=by simp [gN,List.getD,show j < i by omega]
 rw [e];exact h j (by omega)
theorem tr_len {N:List Lk} (h:wfN N):∀ (f a:Nat),a ≤ f → a ≤ N.length → (tr N a).length ≤ a
 | _,0,_,_ => Nat.le_refl 0
 | 0,_ + 1,h1,_ => absurd h1 (Nat.not_succ_le_zero _)
 |f + 1,a + 1,h1,h2 => by
  have h3 :=h a (by omega)
  have :=tr_len h f (gN N a).1 (by omega) (by omega)
  rw [tr_succ h (by omega),List.length_append]
  simp only [List.length_cons,List.length_nil]
  omega
theorem tr_ne {N:List Lk} (h:wfN N) {a:Nat} (ha:1 ≤ a) (h2:a ≤ N.length):tr N a ≠ [] :=by
 obtain ⟨k,rfl⟩ : ∃ k,a = k + 1 :=⟨a - 1,by omega⟩
 rw [tr_succ h (by omega)]
 simp
theorem tr_pos {N:List Lk} (h:wfN N) {a:Nat} (ha:1 ≤ a) (h2:a ≤ N.length):1 ≤ (tr N a).length :=List.length_pos_iff.2 (tr_ne h ha h2)
abbrev tN (n:Nat):Prop :=4 ≤ n ∧ n ≤ 60
theorem tN_i {n:Nat} (h:tN n):tth (Int.ofNat n) :=by unfold tth;simp only [Int.ofNat_eq_natCast];omega
structure okN (N:List Lk):Prop where
 wf:wfN N
 t1:∀ i,i < N.length → tN (gN N i).2.1
 t2:∀ i,i < N.length → tN (gN N i).2.2
 d:∀ i,i < N.length → (tr N (i + 1)).length ≤ 3
theorem okN.dl {N:List Lk} (h:okN N) {a:Nat} (ha:a ≤ N.length):(tr N a).length ≤ 3 :=by
 cases a with
 |zero => exact Nat.zero_le _
 |succ a => exact h.d a ha
theorem okN.all {N:List Lk} (h:okN N):∀ (f a:Nat),a ≤ f → a ≤ N.length → AllT tN (tr N a)
 | _,0,_,_ => trivial
 | 0,_ + 1,h1,_ => absurd h1 (Nat.not_succ_le_zero _)
 |f + 1,a + 1,h1,h2 => by
  have h3 :=h.wf a (by omega)
  have :=h.all f (gN N a).1 (by omega) (by omega)
  rw [tr_succ h.wf (by omega)]
  have key:∀ (l:List (Nat × Nat)) (p:Nat × Nat),AllT tN l → tN p.1 ∧ tN p.2 → AllT tN (l ++ [p]) :=by
   intro l p hl hp
   induction l with
   |nil => exact ⟨hp,trivial⟩
   |cons q r ih => exact ⟨hl.1,ih hl.2⟩
  exact key _ _ this ⟨h.t1 a (by omega),h.t2 a (by omega)⟩
theorem okN.take {N:List Lk} (h:okN N) (i:Nat):okN (N.take i) :=by
 have g:∀ j,j < (N.take i).length → gN (N.take i) j = gN N j ∧ j < N.length ∧ j < i :=fun j hj => by
  rw [List.length_take] at hj
  exact ⟨by simp [gN,List.getD,show j < i by omega],by omega,by omega⟩
 refine ⟨wfN_take h.wf i,fun j hj => ?_,fun j hj => ?_,fun j hj => ?_⟩
 ·rw [(g j hj).1];exact h.t1 j (g j hj).2.1
 ·rw [(g j hj).1];exact h.t2 j (g j hj).2.1
 ·by_cases hi:i ≤ N.length
  ·rw [tr_take h.wf hi (g j hj).2.2];exact h.d j (g j hj).2.1
  ·rw [List.take_of_length_le (by omega)];exact h.d j (g j hj).2.1
def pcOk (L:List LkI) (H:List Int):Prop :=
 ((1 ≤ L.length ∧ L.length ≤ 5) ∧ (1 ≤ H.length ∧ H.length ≤ 4)) ∧ (∃ N,L = cL N ∧ okN N) ∧ ∀ j,j < H.length → 1 ≤ gi H j ∧ gi H j ≤ (L.length:Int)
instance (L:List LkI) (H:List Int):Decidable (pcOk L H) :=Classical.propDecidable _
def lkAt (N:List Lk) (x:LkI):Prop :=(0 ≤ x.1 ∧ x.1 ≤ (N.length:Int)) ∧ (tth x.2.1 ∧ tth x.2.2) ∧ (tr N x.1.toNat).length ≤ 2
theorem gN_app {N:List Lk} {x:Lk} {i:Nat} (h:i < N.length):gN (N ++ [x]) i = gN N i :=by
 simp [gN,List.getD,List.getElem?_append,h]
theorem gN_last {N:List Lk} {x:Lk}:gN (N ++ [x]) N.length = x :=by
 simp [gN,List.getD]
theorem wfN_app {N:List Lk} (h:wfN N) {x:Lk} (hx:x.1 ≤ N.length):wfN (N ++ [x]) :=fun i hi => by
 rw [List.length_append] at hi
 simp only [List.length_cons,List.length_nil] at hi
 by_cases e:i < N.length
 ·rw [gN_app e];exact h i e
 ·obtain rfl:i = N.length :=by omega
  rw [gN_last];exact hx
theorem tr_app {N:List Lk} (h:wfN N) {x:Lk} (hx:x.1 ≤ N.length) {a:Nat} (ha:a ≤ N.length):tr (N ++ [x]) a = tr N a :=by
 have :=tr_take (wfN_app h hx) (i :=N.length) (a :=a) (by rw [List.length_append];omega) ha
 rw [List.take_left'] at this
 ·exact this.symm
 ·rfl
theorem tr_app_last {N:List Lk} (h:wfN N) {x:Lk} (hx:x.1 ≤ N.length):tr (N ++ [x]) (N.length + 1) = tr N x.1 ++ [x.2] :=by
 rw [tr_succ (wfN_app h hx) (by rw [List.length_append];exact Nat.lt_succ_self _),gN_last,tr_app h hx hx]
theorem okN.app {N:List Lk} (h:okN N) {x:Lk} (hx:x.1 ≤ N.length) (h1:tN x.2.1) (h2:tN x.2.2) (h3:(tr N x.1).length ≤ 2):okN (N ++ [x]) :=by
 have c:∀ i,i < (N ++ [x]).length → i < N.length ∨ i = N.length :=fun i hi => by
  rw [List.length_append] at hi
  simp only [List.length_cons,List.length_nil] at hi
  omega
 refine ⟨wfN_app h.wf hx,fun i hi => ?_,fun i hi => ?_,fun i hi => ?_⟩
 ·rcases c i hi with e | rfl
  ·rw [gN_app e];exact h.t1 i e
  ·rw [gN_last];exact h1
 ·rcases c i hi with e | rfl
  ·rw [gN_app e];exact h.t2 i e
  ·rw [gN_last];exact h2
 ·rcases c i hi with e | rfl
  ·rw [tr_app h.wf hx e];exact h.d i e
  ·rw [tr_app_last h.wf hx,List.length_append]
   simp only [List.length_cons,List.length_nil]
   omega
theorem toN {a:Int} (h:0 ≤ a):Int.ofNat a.toNat = a :=Int.toNat_of_nonneg h
theorem cL_app (N:List Lk) (x:Lk):cL (N ++ [x]) = cL N ++ [cK x] :=by rw [cL,List.map_append];rfl
theorem lkAt.next {N:List Lk} (h:okN N) {x:LkI} (hx:lkAt N x):∃ M,cL M = cL N ++ [x] ∧ okN M ∧ M.length = N.length + 1 :=by
 have f1 :=toN hx.1.1
 have f2 :=toN (show 0 ≤ x.2.1 from Int.le_trans (by decide) hx.2.1.1.1)
 have f3 :=toN (show 0 ≤ x.2.2 from Int.le_trans (by decide) hx.2.1.2.1)
 refine ⟨N ++ [(x.1.toNat,x.2.1.toNat,x.2.2.toNat)],?_,h.app ?_ ?_ ?_ hx.2.2,by rw [List.length_append];rfl⟩
 ·rw [cL_app]
  have:cK (x.1.toNat,x.2.1.toNat,x.2.2.toNat) = x :=by
   unfold cK
   show (Int.ofNat x.1.toNat,Int.ofNat x.2.1.toNat,Int.ofNat x.2.2.toNat) = x
   rw [f1,f2,f3]
  rw [this]
 ·have :=hx.1.2
  show x.1.toNat ≤ N.length
  omega
 ·have :=hx.2.1.1
  show 4 ≤ x.2.1.toNat ∧ x.2.1.toNat ≤ 60
  omega
 ·have :=hx.2.1.2
  show 4 ≤ x.2.2.toNat ∧ x.2.2.toNat ≤ 60
  omega
theorem lkAt.not {L:List LkI} {N:List Lk} {i:Nat} (hi:i < L.length) (e:L.take i = cL N) (hx:¬ lkAt N (gL L i)):¬ ∃ M,L = cL M ∧ okN M :=by
 rintro ⟨M,rfl,h⟩
 rw [cL_len] at hi
 have e1:M.take i = N :=by
  have inj:∀ (a b:List Lk),cL a = cL b → a = b :=fun a b hh => by
   refine List.map_inj_right (f :=cK) (fun x y hxy => ?_) |>.1 hh
   obtain ⟨x1,x2,x3⟩ :=x
   obtain ⟨y1,y2,y3⟩ :=y
   have k1:Int.ofNat x1 = Int.ofNat y1 :=congrArg Prod.fst hxy
   have k2:Int.ofNat x2 = Int.ofNat y2 :=congrArg (fun z => z.2.1) hxy
   have k3:Int.ofNat x3 = Int.ofNat y3 :=congrArg (fun z => z.2.2) hxy
   cases k1;cases k2;cases k3;rfl
  apply inj
  rw [← e,cL,cL,List.map_take]
 apply hx
 rw [gL_cL M hi]
 have hl:N.length = i :=by rw [← e1,List.length_take];omega
 have w :=h.wf i hi
 have t1 :=tN_i (h.t1 i hi)
 have t2 :=tN_i (h.t2 i hi)
 refine ⟨⟨Int.natCast_nonneg _,?_⟩,⟨t1,t2⟩,?_⟩
 ·rw [hl];exact Int.ofNat_le.2 w
 ·show (tr N (gN M i).1).length ≤ 2
  have :=h.d i hi
  rw [tr_succ h.wf hi,List.length_append] at this
  simp only [List.length_cons,List.length_nil] at this
  rw [← e1,tr_take h.wf (Nat.le_of_lt hi) w]
  omega
end
end Go.Abs.Seat
/-! The path to an arbor: how far it is, its train. -/
namespace Go.Abs.Seat
noncomputable section
open Go Go.Abs Go.Proofs.Tryz
set_option maxRecDepth 100000
set_option maxHeartbeats 40000000
attribute [local irreducible] IntKind.wrap pEq
theorem wrapP {i:Nat} (h:i < 4611686018427387904):IntKind.i64.wrap (Int.ofNat (i + 1) - 1) = Int.ofNat i :=by
 rw [show Int.ofNat (i + 1) - 1 = Int.ofNat i by show ((i + 1:Nat):Int) - 1 = (i:Int);omega]
 exact wrapI (by show _ ≤ (i:Int);omega) (by show (i:Int) < _;omega)
theorem nth_lks:∀ (L:List LkI) (i:Nat),i < L.length → nth (lks L) (i * 3) = some (iv (gL L i).1)
 | [],_,h => absurd h (Nat.not_lt_zero _)
 | _ :: _,0,_ => rfl
 | _ :: r,i + 1,h => by
  rw [show (i + 1) * 3 = i * 3 + 1 + 1 + 1 by omega]
  exact nth_lks r i (by simpa using h)
theorem tak_lk2 (L:List LkI) {i:Nat} (h:i < L.length):takeN 2 (dropN (i * 3 + 1) (lks L)) = some [iv (gL L i).2.1,iv (gL L i).2.2] :=by
 have e:dropN (i * 3 + 1) (lks L) = dropN 1 (dropN (i * 3) (lks L)) :=by
  rw [dropN_eq,dropN_eq,dropN_eq,List.drop_drop]
 rw [e,lks_drop,drop_gL L h]
 rfl
section
variable {N:List Lk} {i b:Nat}
theorem lkR (h:i < N.length) (hN:N.length ≤ 5):inR (IntKind.i64.wrap (Int.ofNat (i + 1) - 1)) N.length = true :=by
 rw [wrapP (by omega)];exact inR_t h
theorem lkG (h:i < N.length) (hN:N.length ≤ 5) (e:(gN N i).1 = b):nth (lks (cL N)) ((IntKind.i64.wrap (Int.ofNat (i + 1) - 1)).toNat * 3 + 0) = some (nv b) :=by
 subst e
 have :=nth_lks (cL N) i (by rw [cL_len];exact h)
 rw [gL_cL N h] at this
 rw [wrapP (by omega)]
 exact this
theorem lkP (h:i < N.length) (hN:N.length ≤ 5):takeN 2 (dropN ((IntKind.i64.wrap (Int.ofNat (i + 1) - 1)).toNat * 3 + 1) (lks (cL N))) = some [nv (gN N i).2.1,nv (gN N i).2.2] :=by
 have :=tak_lk2 (cL N) (i :=i) (by rw [cL_len];exact h)
 rw [gL_cL N h] at this
 rw [wrapP (by omega)]
 exact this
end
theorem ways {N:List Lk} (h:wfN N) {a:Nat} (ha:a ≤ N.length) (h3:(tr N a).length ≤ 3):(a = 0 ∧ tr N a = []) ∨ (∃ i,a = i + 1 ∧ i < N.length ∧ (gN N i).1 = 0 ∧ tr N a = [(gN N i).2]) ∨
  (∃ i j,a = i + 1 ∧ i < N.length ∧ (gN N i).1 = j + 1 ∧ j < N.length ∧ (gN N j).1 = 0 ∧ tr N a = [(gN N j).2,(gN N i).2]) ∨
  (∃ i j k,a = i + 1 ∧ i < N.length ∧ (gN N i).1 = j + 1 ∧ j < N.length ∧ (gN N j).1 = k + 1 ∧ k < N.length ∧ (gN N k).1 = 0 ∧ tr N a = [(gN N k).2,(gN N j).2,(gN N i).2]) :=by
 cases a with
 |zero => exact .inl ⟨rfl,rfl⟩
 |succ i =>
  have h1 :=tr_succ h (i :=i) (by omega)
  have f1 :=h i (by omega)
  cases e1:(gN N i).1 with
  |zero => exact .inr (.inl ⟨i,rfl,by omega,e1,by rw [h1,e1];rfl⟩)
  |succ j =>
   have h2 :=tr_succ h (i :=j) (by omega)
   have f2 :=h j (by omega)
   cases e2:(gN N j).1 with
   |zero => exact .inr (.inr (.inl ⟨i,j,rfl,by omega,e1,by omega,e2,by rw [h1,e1,h2,e2];rfl⟩))
   |succ k =>
    have h4 :=tr_succ h (i :=k) (by omega)
    have f3 :=h k (by omega)
    cases e3:(gN N k).1 with
    |zero => exact .inr (.inr (.inr ⟨i,j,k,rfl,by omega,e1,by omega,e2,by omega,e3,by rw [h1,e1,h2,e2,h4,e3];rfl⟩))
    |succ m =>
     have h5 :=tr_pos h (a :=m + 1) (by omega) (by omega)
     rw [h1,e1,h2,e2,h4,e3] at h3
     simp only [List.length_append,List.length_cons,List.length_nil] at h3
     omega
theorem wkE {v v':AV} (h:v = v'):Wk v v' :=by subst h;exact Wk.refl _
theorem up1:IntKind.i64.wrap (0 + 1) = 1 :=wrapI (by decide) (by decide)
theorem up2:IntKind.i64.wrap (IntKind.i64.wrap (0 + 1) + 1) = 2 :=by rw [up1];exact wrapI (by decide) (by decide)
theorem up3:IntKind.i64.wrap (IntKind.i64.wrap (IntKind.i64.wrap (0 + 1) + 1) + 1) = 3 :=by rw [up2];exact wrapI (by decide) (by decide)
theorem far_pure {N:List Lk} (h:wfN N) (hN:N.length ≤ 5) {a:Nat} (ha:a ≤ N.length) (h3:(tr N a).length ≤ 3):Pure prog 101 [nkA N,nv a] (nv (tr N a).length) :=by
 have lN :=lks_no (cL N)
 rcases ways h ha h3 with ⟨rfl,et⟩ | ⟨i,rfl,hi,fi,et⟩ | ⟨i,j,rfl,hi,fi,hj,fj,et⟩ | ⟨i,j,k,rfl,hi,fi,hj,fj,hk,fk,et⟩
 ·rw [et]
  refine pure_sym hE rfl (by repeat' (first | exact trivial | assumption | exact flat_no _ | exact (fun _ h => nomatch h) | apply And.intro)) (by repeat' (first | exact trivial | assumption | exact flat_no _ | exact (fun _ h => nomatch h) | apply And.intro)) fun S q pc hS hq hC hE => ?_
  conv => whnf
  refine sym_call hC ?_
  conv => whnf
  refine sym_inline hE hS ?_
  conv => whnf
  refine sym_inline hE hS ?_
  conv => whnf
  refine sym_call hC ?_
  conv => whnf
  refine sym_inline hE hS ?_
  conv => whnf
  exact ⟨_,rfl,Wk.refl _⟩
 ·rw [et]
  refine pure_sym hE rfl (by repeat' (first | exact trivial | assumption | exact flat_no _ | exact (fun _ h => nomatch h) | apply And.intro)) (by repeat' (first | exact trivial | assumption | exact flat_no _ | exact (fun _ h => nomatch h) | apply And.intro)) fun S q pc hS hq hC hE => ?_
  conv => whnf
  refine sym_call hC ?_
  conv => whnf
  refine sym_inline hE hS ?_
  conv => whnf
  refine sym_inline hE hS ?_
  conv => whnf
  refine sym_call hC ?_
  conv => whnf
  refine sym_inline hE hS ?_
  conv => whnf
  refine bool_true (lkR hi hN) ?_
  conv => whnf
  refine plan_as (nthP (lkG hi hN fi)) ?_
  conv => whnf
  refine sym_call hC ?_
  conv => whnf
  refine sym_inline hE hS ?_
  conv => whnf
  refine sym_code hE hS ?_
  conv => whnf
  refine sym_code hE hS ?_
  conv => whnf
  refine sym_drawn hS (by kernel_rfl) ?_
  conv => whnf
  exact ⟨_,rfl,wkE (congrArg (AV.int .i64) up1)⟩
 ·rw [et]
  refine pure_sym hE rfl (by repeat' (first | exact trivial | assumption | exact flat_no _ | exact (fun _ h => nomatch h) | apply And.intro)) (by repeat' (first | exact trivial | assumption | exact flat_no _ | exact (fun _ h => nomatch h) | apply And.intro)) fun S q pc hS hq hC hE => ?_
  conv => whnf
  refine sym_call hC ?_
  conv => whnf
  refine sym_inline hE hS ?_
  conv => whnf
  refine sym_inline hE hS ?_
  conv => whnf
  refine sym_call hC ?_
  conv => whnf
  refine sym_inline hE hS ?_
  conv => whnf
  refine bool_true (lkR hi hN) ?_
  conv => whnf
  refine plan_as (nthP (lkG hi hN fi)) ?_
  conv => whnf
  refine sym_call hC ?_
  conv => whnf
  refine sym_inline hE hS ?_
  conv => whnf
  refine bool_true (lkR hj hN) ?_
  conv => whnf
  refine plan_as (nthP (lkG hj hN fj)) ?_
  conv => whnf
  refine sym_call hC ?_
  conv => whnf
  refine sym_inline hE hS ?_
  conv => whnf
  refine sym_code hE hS ?_
  conv => whnf
  refine sym_code hE hS ?_
  conv => whnf
  refine sym_drawn hS (by kernel_rfl) ?_
  conv => whnf
  refine sym_code hE hS ?_
  conv => whnf
  refine sym_code hE hS ?_
  conv => whnf
  refine sym_drawn hS (by kernel_rfl) ?_
  conv => whnf
  exact ⟨_,rfl,wkE (congrArg (AV.int .i64) up2)⟩
 ·rw [et]
  refine pure_sym hE rfl (by repeat' (first | exact trivial | assumption | exact flat_no _ | exact (fun _ h => nomatch h) | apply And.intro)) (by repeat' (first | exact trivial | assumption | exact flat_no _ | exact (fun _ h => nomatch h) | apply And.intro)) fun S q pc hS hq hC hE => ?_
  conv => whnf
  refine sym_call hC ?_
  conv => whnf
  refine sym_inline hE hS ?_
  conv => whnf
  refine sym_inline hE hS ?_
  conv => whnf
  refine sym_call hC ?_
  conv => whnf
  refine sym_inline hE hS ?_
  conv => whnf
  refine bool_true (lkR hi hN) ?_
  conv => whnf
  refine plan_as (nthP (lkG hi hN fi)) ?_
  conv => whnf
  refine sym_call hC ?_
  conv => whnf
  refine sym_inline hE hS ?_
  conv => whnf
  refine bool_true (lkR hj hN) ?_
  conv => whnf
  refine plan_as (nthP (lkG hj hN fj)) ?_
  conv => whnf
  refine sym_call hC ?_
  conv => whnf
  refine sym_inline hE hS ?_
  conv => whnf
  refine bool_true (lkR hk hN) ?_
  conv => whnf
  refine plan_as (nthP (lkG hk hN fk)) ?_
  conv => whnf
  refine sym_call hC ?_
  conv => whnf
  refine sym_inline hE hS ?_
  conv => whnf
  refine sym_code hE hS ?_
  conv => whnf
  refine sym_code hE hS ?_
  conv => whnf
  refine sym_drawn hS (by kernel_rfl) ?_
  conv => whnf
  refine sym_code hE hS ?_
  conv => whnf
  refine sym_code hE hS ?_
  conv => whnf
  refine sym_drawn hS (by kernel_rfl) ?_
  conv => whnf
  refine sym_code hE hS ?_
  conv => whnf
  refine sym_code hE hS ?_
  conv => whnf
  refine sym_drawn hS (by kernel_rfl) ?_
  conv => whnf
  exact ⟨_,rfl,wkE (congrArg (AV.int .i64) up3)⟩
def tvA (l:List (Nat × Nat)):AV :=match l with | [] => .nils | _ => pv (zp l)
theorem trainOf_pure {N:List Lk} (h:wfN N) (hN:N.length ≤ 5) (M:List Int) {a:Nat} (ha:a ≤ N.length) (h3:(tr N a).length ≤ 3):Pure prog 47 [.agg [nkA N,nl M],nv a] (tvA (tr N a)) :=by
 have lM :=ivs_no M
 have lN :=lks_no (cL N)
 rcases ways h ha h3 with ⟨rfl,et⟩ | ⟨i,rfl,hi,fi,et⟩ | ⟨i,j,rfl,hi,fi,hj,fj,et⟩ | ⟨i,j,k,rfl,hi,fi,hj,fj,hk,fk,et⟩
 ·rw [et]
  refine pure_sym hE rfl (by repeat' (first | exact trivial | assumption | exact flat_no _ | exact (fun _ h => nomatch h) | apply And.intro)) (by repeat' (first | exact trivial | assumption | exact flat_no _ | exact (fun _ h => nomatch h) | apply And.intro)) fun S q pc hS hq hC hE => ?_
  conv => whnf
  refine sym_call hC ?_
  conv => whnf
  refine sym_inline hE hS ?_
  conv => whnf
  refine sym_inline hE hS ?_
  conv => whnf
  refine sym_call hC ?_
  conv => whnf
  refine sym_inline hE hS ?_
  conv => whnf
  exact ⟨_,rfl,Wk.refl _⟩
 ·rw [et]
  refine pure_sym hE rfl (by repeat' (first | exact trivial | assumption | exact flat_no _ | exact (fun _ h => nomatch h) | apply And.intro)) (by repeat' (first | exact trivial | assumption | exact flat_no _ | exact (fun _ h => nomatch h) | apply And.intro)) fun S q pc hS hq hC hE => ?_
  conv => whnf
  refine sym_call hC ?_
  conv => whnf
  refine sym_inline hE hS ?_
  conv => whnf
  refine sym_inline hE hS ?_
  conv => whnf
  refine sym_call hC ?_
  conv => whnf
  refine sym_inline hE hS ?_
  conv => whnf
  refine bool_true (lkR hi hN) ?_
  conv => whnf
  refine plan_as (nthP (lkG hi hN fi)) ?_
  conv => whnf
  refine sym_call hC ?_
  conv => whnf
  refine sym_inline hE hS ?_
  conv => whnf
  refine sym_code hE hS ?_
  conv => whnf
  refine sym_code hE hS ?_
  conv => whnf
  refine bool_true (lkR hi hN) ?_
  conv => whnf
  refine plan_as (takP (lkP hi hN)) ?_
  conv => whnf
  refine sym_drawn hS (by kernel_rfl) ?_
  conv => whnf
  refine sym_drawn hS (by kernel_rfl) ?_
  conv => whnf
  exact ⟨_,rfl,Wk.wk _⟩
 ·rw [et]
  refine pure_sym hE rfl (by repeat' (first | exact trivial | assumption | exact flat_no _ | exact (fun _ h => nomatch h) | apply And.intro)) (by repeat' (first | exact trivial | assumption | exact flat_no _ | exact (fun _ h => nomatch h) | apply And.intro)) fun S q pc hS hq hC hE => ?_
  conv => whnf
  refine sym_call hC ?_
  conv => whnf
  refine sym_inline hE hS ?_
  conv => whnf
  refine sym_inline hE hS ?_
  conv => whnf
  refine sym_call hC ?_
  conv => whnf
  refine sym_inline hE hS ?_
  conv => whnf
  refine bool_true (lkR hi hN) ?_
  conv => whnf
  refine plan_as (nthP (lkG hi hN fi)) ?_
  conv => whnf
  refine sym_call hC ?_
  conv => whnf
  refine sym_inline hE hS ?_
  conv => whnf
  refine bool_true (lkR hj hN) ?_
  conv => whnf
  refine plan_as (nthP (lkG hj hN fj)) ?_
  conv => whnf
  refine sym_call hC ?_
  conv => whnf
  refine sym_inline hE hS ?_
  conv => whnf
  refine sym_code hE hS ?_
  conv => whnf
  refine sym_code hE hS ?_
  conv => whnf
  refine bool_true (lkR hj hN) ?_
  conv => whnf
  refine plan_as (takP (lkP hj hN)) ?_
  conv => whnf
  refine sym_drawn hS (by kernel_rfl) ?_
  conv => whnf
  refine sym_drawn hS (by kernel_rfl) ?_
  conv => whnf
  refine sym_code hE hS ?_
  conv => whnf
  refine sym_code hE hS ?_
  conv => whnf
  refine bool_true (lkR hi hN) ?_
  conv => whnf
  refine plan_as (takP (lkP hi hN)) ?_
  conv => whnf
  refine sym_drawn hS (by kernel_rfl) ?_
  conv => whnf
  refine sym_drawn hS (by kernel_rfl) ?_
  conv => whnf
  exact ⟨_,rfl,Wk.wk _⟩
 ·rw [et]
  refine pure_sym hE rfl (by repeat' (first | exact trivial | assumption | exact flat_no _ | exact (fun _ h => nomatch h) | apply And.intro)) (by repeat' (first | exact trivial | assumption | exact flat_no _ | exact (fun _ h => nomatch h) | apply And.intro)) fun S q pc hS hq hC hE => ?_
  conv => whnf
  refine sym_call hC ?_
  conv => whnf
  refine sym_inline hE hS ?_
  conv => whnf
  refine sym_inline hE hS ?_
  conv => whnf
  refine sym_call hC ?_
  conv => whnf
  refine sym_inline hE hS ?_
  conv => whnf
  refine bool_true (lkR hi hN) ?_
  conv => whnf
  refine plan_as (nthP (lkG hi hN fi)) ?_
  conv => whnf
  refine sym_call hC ?_
  conv => whnf
  refine sym_inline hE hS ?_
  conv => whnf
  refine bool_true (lkR hj hN) ?_
  conv => whnf
  refine plan_as (nthP (lkG hj hN fj)) ?_
  conv => whnf
  refine sym_call hC ?_
  conv => whnf
  refine sym_inline hE hS ?_
  conv => whnf
  refine bool_true (lkR hk hN) ?_
  conv => whnf
  refine plan_as (nthP (lkG hk hN fk)) ?_
  conv => whnf
  refine sym_call hC ?_
  conv => whnf
  refine sym_inline hE hS ?_
  conv => whnf
  refine sym_code hE hS ?_
  conv => whnf
  refine sym_code hE hS ?_
  conv => whnf
  refine bool_true (lkR hk hN) ?_
  conv => whnf
  refine plan_as (takP (lkP hk hN)) ?_
  conv => whnf
  refine sym_drawn hS (by kernel_rfl) ?_
  conv => whnf
  refine sym_drawn hS (by kernel_rfl) ?_
  conv => whnf
  refine sym_code hE hS ?_
  conv => whnf
  refine sym_code hE hS ?_
  conv => whnf
  refine bool_true (lkR hj hN) ?_
  conv => whnf
  refine plan_as (takP (lkP hj hN)) ?_
  conv => whnf
  refine sym_drawn hS (by kernel_rfl) ?_
  conv => whnf
  refine sym_drawn hS (by kernel_rfl) ?_
  conv => whnf
  refine sym_code hE hS ?_
  conv => whnf
  refine sym_code hE hS ?_
  conv => whnf
  refine bool_true (lkR hi hN) ?_
  conv => whnf
  refine plan_as (takP (lkP hi hN)) ?_
  conv => whnf
  refine sym_drawn hS (by kernel_rfl) ?_
  conv => whnf
  refine sym_drawn hS (by kernel_rfl) ?_
  conv => whnf
  exact ⟨_,rfl,Wk.wk _⟩
end
end Go.Abs.Seat

namespace Go.Abs.Seat
noncomputable section
open Go Go.Abs Go.Proofs.Tryz
set_option maxRecDepth 100000
set_option maxHeartbeats 40000000
attribute [local irreducible] IntKind.wrap pEq pSlice
theorem gft {x:Nat} {c:Bool} (h:c = true):@Bool.rec (fun _ => Bool) (@Bool.rec (fun _ => Bool) true false (x,false).snd) (x,false).snd c = false :=by subst h;rfl
theorem gff {x:Nat} {c:Bool} (h:c = false):@Bool.rec (fun _ => Bool) (@Bool.rec (fun _ => Bool) true false (x,false).snd) (x,false).snd c = true :=by subst h;rfl
theorem slTo {T:Tr TypeInfo} {t e:TypeId} {inf:TypeInfo} {xs ys:List AV} {n:Nat} {k:IntKind} {z:Int} {h:Nat} (hT:tyU T t = some (.slice e)) (hi:T.get e = some inf) (hz:z = Int.ofNat h) (hn:h ≤ n)
  (hy:takeN (h * inf.size) xs = some ys):pSlice T t (.lst xs n .no) none (some (.int k z)) = .chk (decide (0 * inf.size ≤ xs.length)) (.ret (.lst ys h .no)) :=by
 subst hz
 unfold pSlice
 have e1:bnd (some (.int k (Int.ofNat h))) n n = some h :=by
  unfold bnd
  simp only [Int.ofNat_eq_natCast]
  rw [decide_eq_true (show (0:Int) ≤ (h:Int) by omega),decide_eq_true (show (h:Int) ≤ (n:Int) by omega)]
  rfl
 have e2:bnd none 0 h = some 0 :=rfl
 have e3:dropN (0 * inf.size) xs = xs :=by rw [Nat.zero_mul];rfl
 simp only [hT,hi,e1,e2,e3,Nat.sub_zero,hy]
theorem isPair_pure (a b:Int):Pure prog 100 [.agg [iv a,iv b]] (.bool (decide (tth a ∧ tth b))) :=by
 by_cases h:tth a
 ·have c1:decide (tth a) = true :=decide_eq_true h
  refine pure_sym hE rfl (by repeat' (first | exact trivial | assumption | exact flat_no _ | exact (fun _ h => nomatch h) | apply And.intro)) (by repeat' (first | exact trivial | assumption | exact flat_no _ | exact (fun _ h => nomatch h) | apply And.intro)) fun S q pc hS hq hC hE => ?_
  conv => whnf
  repeat ((first
   |refine ko_rT c1 ?_
   |refine ko_sF c1 ?_
   |refine plan_as (pick_t c1) ?_
   |refine bool_true c1 ?_
   |refine sym_pure hC (sTeeth_pure a) ?_
   |refine sym_pure hC (sTeeth_pure b) ?_
   |refine sym_drawn hS (by kernel_rfl) ?_);conv => whnf)
  exact ⟨_,rfl,wkb (by simp [h])⟩
 ·have c1:decide (tth a) = false :=decide_eq_false h
  refine pure_sym hE rfl (by repeat' (first | exact trivial | assumption | exact flat_no _ | exact (fun _ h => nomatch h) | apply And.intro)) (by repeat' (first | exact trivial | assumption | exact flat_no _ | exact (fun _ h => nomatch h) | apply And.intro)) fun S q pc hS hq hC hE => ?_
  conv => whnf
  repeat ((first
   |refine ko_sT c1 ?_
   |refine ko_rF c1 ?_
   |refine plan_as (pick_f c1) ?_
   |refine bool_false c1 ?_
   |refine sym_pure hC (sTeeth_pure a) ?_
   |refine sym_drawn hS (by kernel_rfl) ?_);conv => whnf)
  exact ⟨_,rfl,wkb (by simp [h])⟩
def LL (v:AV) (L:List LkI):Prop :=v = .nils ∧ L = [] ∨ v = lkA L
theorem LL.no {v:AV} {L:List LkI} (h:LL v L):Live noL v :=by
 rcases h with ⟨rfl,_⟩ | rfl
 ·trivial
 ·exact lkA_no L
theorem takN_lks:∀ (L:List LkI) (i:Nat),i ≤ L.length → takeN (i * 3) (lks L) = some (lks (L.take i))
 | _,0,_ => by rw [List.take_zero];rfl
 | [],i + 1,h => absurd h (by simp)
 |x :: l,i + 1,h => by
  have :=takN_lks l i (by simpa using h)
  rw [show (i + 1) * 3 = i * 3 + 1 + 1 + 1 by omega]
  show (match (match (match takeN (i * 3) (lks l) with | some r => some (iv x.2.2 :: r) | none => none) with | some r => some (iv x.2.1 :: r) | none => none) with | some r => some (iv x.1 :: r) | none => none) = _
  rw [this];rfl
theorem nt_t {b:Bool} (h:b = true):(!b) = false :=by rw [h];rfl
theorem nt_f {b:Bool} (h:b = false):(!b) = true :=by rw [h];rfl
def hdsOk (n:Nat) (M:List Int):Prop :=∀ j,j < M.length → 1 ≤ gi M j ∧ gi M j ≤ (n:Int)
instance (n:Nat) (M:List Int):Decidable (hdsOk n M) :=Classical.propDecidable _
theorem isPiece_yes (L:List LkI) (M:List Int) (h1:1 ≤ L.length ∧ L.length ≤ 5) (h2:1 ≤ M.length ∧ M.length ≤ 4):Pure prog 45 [.agg [lkA L,nl M]] (.bool (decide (pcOk L M))) :=by
 have lL :=lkA_no L
 have lM :=ivs_no M
 have lLs :=lks_no L
 have c1:(!decide (1 ≤ (L.length:Int) ∧ (L.length:Int) ≤ 5)) = false :=nt_t (decide_eq_true (by omega))
 have c2:(!decide (1 ≤ (M.length:Int) ∧ (M.length:Int) ≤ 4)) = false :=nt_t (decide_eq_true (by omega))
 refine pure_sym hE rfl (by repeat' (first | exact trivial | assumption | exact flat_no _ | exact (fun _ h => nomatch h) | apply And.intro)) (by repeat' (first | exact trivial | assumption | exact flat_no _ | exact (fun _ h => nomatch h) | apply And.intro)) fun S q pc hS hq hC hE => ?_
 conv => whnf
 repeat ((first
  |refine ko_sT c1 ?_
  |refine ko_rF c1 ?_
  |refine plan_as (pick_f c1) ?_
  |refine bool_false c1 ?_
  |refine ko_sT c2 ?_
  |refine ko_rF c2 ?_
  |refine plan_as (pick_f c2) ?_
  |refine bool_false c2 ?_
  |refine sym_pure hC (sin_pure L.length 1 5) ?_
  |refine sym_pure hC (sin_pure M.length 1 4) ?_
  |refine sym_drawn hS (by kernel_rfl) ?_);conv => whnf)
 refine sym_loop hE hS (A :=List Lk) [1,2,18,19] (fun N => [(20,nv N.length)]) (fun _ => []) (fun N => N.length ≤ L.length ∧ cL N = L.take N.length ∧ okN N) (fun N => L.length - N.length) [] rfl rfl (by refine ⟨rfl,rfl,rfl,rfl,?_,?_⟩ <;> repeat' (first | exact trivial | exact rfl | exact Nat.zero_le _ | exact bz lL | exact bz lM | exact Nat.le_of_ble_eq_true rfl | exact bdl_no (by assumption) | exact bdl_no (flat_no _) | exact bdl_no (ivs_no _) | exact Nat.max_le.2 ⟨Nat.le_of_ble_eq_true rfl,bdl_no (ivs_no _)⟩ | apply And.intro)) ⟨Nat.zero_le _,rfl,⟨fun _ h => absurd h (Nat.not_lt_zero _),fun _ h => absurd h (Nat.not_lt_zero _),fun _ h => absurd h (Nat.not_lt_zero _),fun _ h => absurd h (Nat.not_lt_zero _)⟩⟩ ?_
 rintro N ⟨hl,he,hN⟩
 conv => whnf
 by_cases hi:N.length < L.length
 ·refine bool_true (ltN_t hi) ?_
  conv => whnf
  refine bool_true (inR_t hi) ?_
  conv => whnf
  have ht :=tak_lk L hi
  have hno:¬ lkAt N (gL L N.length) → decide (pcOk L M) = false :=fun k => decide_eq_false fun z => lkAt.not hi he.symm k z.2.1
  have htk :=take_gL L hi
  unfold lkAt at hno
  revert ht hno htk
  generalize gL L N.length = y
  obtain ⟨a,b,c⟩ :=y
  intro ht hno htk
  by_cases q1:0 ≤ a ∧ a ≤ (N.length:Int)
  ·have d1:(!decide (0 ≤ a ∧ a ≤ Int.ofNat N.length)) = false :=nt_t (decide_eq_true q1)
   obtain ⟨f,rfl⟩ : ∃ f:Nat,a = Int.ofNat f :=⟨a.toNat,(Int.toNat_of_nonneg q1.1).symm⟩
   have ht:takeN 3 (dropN (N.length * 3) (lks L)) = some [nv f,iv b,iv c] :=ht
   have hs:pSlice (E q pc).T 22 (.lst (lks L) L.length .no) none (some (.int .i64 (Int.ofNat N.length))) = .chk (decide (0 * t146.size ≤ (lks L).length)) (.ret (.lst (lks (cL N)) N.length .no)) :=slTo (e :=146) (inf :=t146) (h :=N.length) (by kernel_rfl) (by kernel_rfl) rfl (by omega) (by rw [show t146.size = 3 from rfl,he];exact takN_lks L _ hl)
   have d0:decide (0 * t146.size ≤ (lks L).length) = true :=decide_eq_true (by rw [Nat.zero_mul];exact Nat.zero_le _)
   refine plan_as (takP ht) ?_
   conv => whnf
   by_cases q2:tth b ∧ tth c
   ·have d2:(!decide (tth b ∧ tth c)) = false :=nt_t (decide_eq_true q2)
    repeat ((first
     |refine plan_as (hs) ?_
     |refine ko_sT d1 ?_
     |refine ko_rF d1 ?_
     |refine plan_as (pick_f d1) ?_
     |refine bool_false d1 ?_
     |refine ko_sT d2 ?_
     |refine ko_rF d2 ?_
     |refine plan_as (pick_f d2) ?_
     |refine bool_false d2 ?_
     |refine ko_rT d0 ?_
     |refine ko_sF d0 ?_
     |refine plan_as (pick_t d0) ?_
     |refine bool_true d0 ?_
     |refine ko_rT (gff d1) ?_
     |refine ko_sF (gff d1) ?_
     |refine plan_as (pick_t (gff d1)) ?_
     |refine bool_true (gff d1) ?_
     |refine ko_rT (gff d2) ?_
     |refine ko_sF (gff d2) ?_
     |refine plan_as (pick_t (gff d2)) ?_
     |refine bool_true (gff d2) ?_
     |refine sym_pure hC (sin_pure (Int.ofNat f) 0 (Int.ofNat N.length)) ?_
     |refine sym_pure hC (isPair_pure b c) ?_
     |refine sym_drawn hS (by kernel_rfl) ?_);conv => whnf)
    have hf:f ≤ N.length :=Int.ofNat_le.1 q1.2
    have lNs :=lks_no (cL N)
    refine sym_pure hC (far_pure hN.wf (by omega) hf (hN.dl hf)) ?_
    conv => whnf
    by_cases q3:(tr N f).length ≤ 2
    ·have d3:decide (Int.ofNat (tr N f).length ≥ 3) = false :=decide_eq_false (by show ¬ (3:Int) ≤ ((tr N f).length:Int);omega)
     repeat ((first
      |refine ko_sT d1 ?_
      |refine ko_rF d1 ?_
      |refine plan_as (pick_f d1) ?_
      |refine bool_false d1 ?_
      |refine ko_sT d2 ?_
      |refine ko_rF d2 ?_
      |refine plan_as (pick_f d2) ?_
      |refine bool_false d2 ?_
      |refine ko_sT d3 ?_
      |refine ko_rF d3 ?_
      |refine plan_as (pick_f d3) ?_
      |refine bool_false d3 ?_
      |refine ko_rT (gff d1) ?_
      |refine ko_sF (gff d1) ?_
      |refine plan_as (pick_t (gff d1)) ?_
      |refine bool_true (gff d1) ?_
      |refine ko_rT (gff d2) ?_
      |refine ko_sF (gff d2) ?_
      |refine plan_as (pick_t (gff d2)) ?_
      |refine bool_true (gff d2) ?_
      |refine sym_drawn hS (by kernel_rfl) ?_);conv => whnf)
     obtain ⟨M2,e1,k1,e2⟩ :=lkAt.next hN (x :=(Int.ofNat f,b,c)) ⟨q1,q2,q3⟩
     have hw:IntKind.i64.wrap (Int.ofNat N.length + 1) = Int.ofNat M2.length :=by rw [e2];exact wrapN (m :=N.length + 1) (by omega)
     exact ⟨M2,⟨by omega,by rw [e1,e2,htk,he],k1⟩,by omega,(by refine ⟨rfl,rfl,rfl,rfl,?_,?_⟩ <;> repeat' (first | exact trivial | exact rfl | exact Nat.zero_le _ | exact congrArg (fun z => some (AV.int .i64 z)) hw | exact bz lL | exact bz lM | exact Nat.le_of_ble_eq_true rfl | exact bdl_no (by assumption) | exact bdl_no (flat_no _) | exact bdl_no (ivs_no _) | exact Nat.max_le.2 ⟨Nat.le_of_ble_eq_true rfl,bdl_no (ivs_no _)⟩ | apply And.intro))⟩
    ·have d3:decide (Int.ofNat (tr N f).length ≥ 3) = true :=decide_eq_true (by show (3:Int) ≤ ((tr N f).length:Int);omega)
     rw [hno fun k => q3 k.2.2]
     repeat ((first
      |refine ko_sT d1 ?_
      |refine ko_rF d1 ?_
      |refine plan_as (pick_f d1) ?_
      |refine bool_false d1 ?_
      |refine ko_sT d2 ?_
      |refine ko_rF d2 ?_
      |refine plan_as (pick_f d2) ?_
      |refine bool_false d2 ?_
      |refine ko_rT d3 ?_
      |refine ko_sF d3 ?_
      |refine plan_as (pick_t d3) ?_
      |refine bool_true d3 ?_
      |refine ko_rT (gff d1) ?_
      |refine ko_sF (gff d1) ?_
      |refine plan_as (pick_t (gff d1)) ?_
      |refine bool_true (gff d1) ?_
      |refine ko_rT (gff d2) ?_
      |refine ko_sF (gff d2) ?_
      |refine plan_as (pick_t (gff d2)) ?_
      |refine bool_true (gff d2) ?_
      |refine sym_drawn hS (by kernel_rfl) ?_);conv => whnf)
     exact ⟨_,rfl,Wk.refl _⟩
   ·have d2:(!decide (tth b ∧ tth c)) = true :=nt_f (decide_eq_false q2)
    rw [hno fun k => q2 k.2.1]
    repeat ((first
     |refine ko_sT d1 ?_
     |refine ko_rF d1 ?_
     |refine plan_as (pick_f d1) ?_
     |refine bool_false d1 ?_
     |refine ko_rT d2 ?_
     |refine ko_sF d2 ?_
     |refine plan_as (pick_t d2) ?_
     |refine bool_true d2 ?_
     |refine ko_rT d0 ?_
     |refine ko_sF d0 ?_
     |refine plan_as (pick_t d0) ?_
     |refine bool_true d0 ?_
     |refine ko_rT (gff d1) ?_
     |refine ko_sF (gff d1) ?_
     |refine plan_as (pick_t (gff d1)) ?_
     |refine bool_true (gff d1) ?_
     |refine ko_sT (gft d2) ?_
     |refine ko_rF (gft d2) ?_
     |refine plan_as (pick_f (gft d2)) ?_
     |refine bool_false (gft d2) ?_
     |refine sym_pure hC (sin_pure (Int.ofNat f) 0 (Int.ofNat N.length)) ?_
     |refine sym_pure hC (isPair_pure b c) ?_
     |refine sym_drawn hS (by kernel_rfl) ?_);conv => whnf)
    exact ⟨_,rfl,Wk.refl _⟩
  ·have d1:(!decide (0 ≤ a ∧ a ≤ Int.ofNat N.length)) = true :=nt_f (decide_eq_false q1)
   have ht:takeN 3 (dropN (N.length * 3) (lks L)) = some [iv a,iv b,iv c] :=ht
   rw [hno fun k => q1 k.1]
   refine plan_as (takP ht) ?_
   conv => whnf
   repeat ((first
    |refine ko_rT d1 ?_
    |refine ko_sF d1 ?_
    |refine plan_as (pick_t d1) ?_
    |refine bool_true d1 ?_
    |refine ko_sT (gft d1) ?_
    |refine ko_rF (gft d1) ?_
    |refine plan_as (pick_f (gft d1)) ?_
    |refine bool_false (gft d1) ?_
    |refine sym_pure hC (sin_pure a 0 (Int.ofNat N.length)) ?_
    |refine sym_drawn hS (by kernel_rfl) ?_);conv => whnf)
   exact ⟨_,rfl,Wk.refl _⟩
 ·refine bool_false (ltN_f hi) ?_
  conv => whnf
  have e:N.length = L.length :=by omega
  rw [List.take_of_length_le (by omega)] at he
  have hp:decide (pcOk L M) = decide (hdsOk L.length M) :=decide_eq_decide.2 ⟨fun z => z.2.2,fun z => ⟨⟨h1,h2⟩,⟨N,he.symm,hN⟩,z⟩⟩
  rw [hp]
  refine sym_call hC ?_
  conv => whnf
  refine sym_inline hE hS ?_
  conv => whnf
  refine sym_call hC ?_
  conv => whnf
  refine sym_inline hE hS ?_
  conv => whnf
  refine sym_loopG hE hS (A :=Nat) [0,1,7] (fun i => [(8,nv i)]) (fun _ => []) (fun _ => []) (fun i => i ≤ M.length ∧ ∀ j,j < i → 1 ≤ gi M j ∧ gi M j ≤ (L.length:Int)) (fun i => M.length - i) 0 (Nat.le_of_ble_eq_true rfl) rfl (by refine ⟨rfl,rfl,rfl,rfl,rfl,rfl,1,rfl,?_,?_⟩ <;> repeat' (first | exact trivial | exact rfl | exact ⟨_,rfl,WkV.refl _⟩ | exact ⟨_,rfl,WkV.own _ _ _⟩ | exact Nat.zero_le _ | exact Nat.le_of_ble_eq_true rfl | exact bdl_no (by assumption) | exact bdl_no (flat_no _) | exact bdl_no (ivs_no _) | exact bdl_no (svs_no _) | exact Nat.max_le.2 ⟨Nat.le_of_ble_eq_true rfl,bdl_no (ivs_no _)⟩ | exact Nat.max_le.2 ⟨Nat.le_of_ble_eq_true rfl,bdl_no (svs_no _)⟩ | apply And.intro)) ⟨Nat.zero_le _,fun _ h => absurd h (Nat.not_lt_zero _)⟩ ?_
  intro i ⟨hi1,hj⟩ K hK
  obtain rfl:K = 1 :=hK
  conv => whnf
  by_cases hi2:i < M.length
  ·refine bool_true (ltN_t hi2) ?_
   conv => whnf
   refine bool_true (inR_t (i :=i) (n :=M.length) hi2) ?_
   conv => whnf
   refine plan_as (nthP (nth_ivs1 (l :=M) (i :=i) hi2)) ?_
   conv => whnf
   refine sym_call hC ?_
   conv => whnf
   refine sym_inline hE hS ?_
   conv => whnf
   refine sym_pure hC (sin_pure (gi M i) 1 L.length) ?_
   conv => whnf
   by_cases q:1 ≤ gi M i ∧ gi M i ≤ (L.length:Int)
   ·refine bool_false (nt_t (decide_eq_true q)) ?_
    conv => whnf
    exact ⟨i + 1,⟨hi2,fun j h => by
     by_cases e:j = i
     ·subst e;exact q
     ·exact hj j (by omega)⟩,by omega,Nat.le_refl _,(by refine ⟨rfl,rfl,rfl,rfl,rfl,rfl,1,rfl,?_,?_⟩ <;> repeat' (first | exact trivial | exact rfl | exact ⟨_,rfl,WkV.refl _⟩ | exact ⟨_,rfl,WkV.own _ _ _⟩ | exact Nat.zero_le _ | exact ⟨_,rfl,WkV.int (wrapN (m :=i + 1) (by omega))⟩ | exact bz lL | exact bz lM | exact Nat.le_of_ble_eq_true rfl | exact bdl_no (by assumption) | exact bdl_no (flat_no _) | exact bdl_no (ivs_no _) | exact bdl_no (svs_no _) | exact Nat.max_le.2 ⟨Nat.le_of_ble_eq_true rfl,bdl_no (ivs_no _)⟩ | exact Nat.max_le.2 ⟨Nat.le_of_ble_eq_true rfl,bdl_no (svs_no _)⟩ | apply And.intro))⟩
   ·refine bool_true (nt_f (decide_eq_false q)) ?_
    conv => whnf
    rw [show decide (Int.ofNat i ≥ 0) = true from decide_eq_true (Int.natCast_nonneg i)]
    conv => whnf
    rw [decide_eq_false (show ¬ hdsOk L.length M from fun z => q (z i hi2))]
    exact ⟨_,rfl,Wk.refl _⟩
  ·refine bool_false (ltN_f hi2) ?_
   conv => whnf
   refine .inl ?_
   conv => whnf
   rw [decide_eq_true (show hdsOk L.length M from fun j h => hj j (by omega))]
   exact ⟨_,rfl,Wk.refl _⟩
end
end Go.Abs.Seat
namespace Go.Abs.Seat
noncomputable section
open Go Go.Abs Go.Proofs.Tryz
set_option maxRecDepth 100000
set_option maxHeartbeats 40000000
attribute [local irreducible] IntKind.wrap pEq
def rtA (N:List Lk) (a:Nat):Nat × Nat :=(xP (tr N a),yP (tr N a))
theorem lenIs_flz (l:List (Nat × Nat)):lenIs (flat (zp l)) ((zp l).length * 2) = true :=by
 have :=lenIs_eq (flat (zp l))
 rwa [flat_len] at this
theorem flz_app (l:List (Nat × Nat)) (q:Nat × Nat):flat (zp (l ++ [q])) = flat (zp l) ++ [nv q.1,nv q.2] :=by
 induction l with
 |nil => rfl
 |cons x r ih => exact congrArg (fun z => nv x.1 :: nv x.2 :: z) ih
theorem sv_zl {L:List Nat} (h:L ≠ []):sv (zl L) = nl (zl L) :=by
 cases L with
 |nil => exact absurd rfl h
 |cons x r => rfl
theorem rnI {m:Nat} {rs:List Nat} {L:List Nat} {y:Nat} {j c e:Nat} (hj:j < rs.length) (h1:rs.getD j 0 = c) (h2:e = m + j):RnV m rs (.lst (ivs (zl L) ++ [nv y]) (L.length + (0 + 1)) (.ch c)) (.lst (ivs (zl (L ++ [y]))) (L ++ [y]).length (.ch e)) :=by
 rw [show AV.lst (ivs (zl L) ++ [nv y]) (L.length + (0 + 1)) (.ch c) = .lst (ivs (zl (L ++ [y]))) (L ++ [y]).length (.ch c) from app_ok L y c]
 exact RnV.ch hj h1 h2 (bdl_no (ivs_no _))
theorem gL_take (L:List LkI) {i n:Nat} (h:i < n):gL (L.take n) i = gL L i :=by simp [gL,List.getD,h]
theorem gL_of {L:List LkI} {N:List Lk} (e:cL N = L.take N.length) {i:Nat} (hi:i < N.length):gL L i = cK (gN N i) :=by
 rw [← gL_cL N hi,e,gL_take L hi]
theorem lk3 {L:List LkI} {N:List Lk} (e:cL N = L.take N.length) (hl:N.length ≤ L.length) (h5:L.length ≤ 7) {i:Nat} (hi:i < N.length):takeN 3 (dropN ((IntKind.i64.wrap (Int.ofNat (i + 1) - 1)).toNat * 3) (lks L)) = some [nv (gN N i).1,nv (gN N i).2.1,nv (gN N i).2.2] :=by
 have :=tak_lk L (i :=i) (by omega)
 rw [gL_of e hi] at this
 rw [wrapP (by omega)]
 exact this
theorem lkR7 {n i:Nat} (h:i < n) (hN:n ≤ 7):inR (IntKind.i64.wrap (Int.ofNat (i + 1) - 1)) n = true :=by
 rw [wrapP (by omega)];exact inR_t h
theorem tvA_no (l:List (Nat × Nat)):Live noL (tvA l) :=by
 cases l with
 |nil => trivial
 |cons x r => exact ⟨flat_no _,fun _ h => nomatch h⟩
theorem tvA_app (t:List (Nat × Nat)) (p:Nat × Nat):tvA (t ++ [p]) = pv (zp (t ++ [p])) :=by
 cases t <;> rfl
theorem wk_tapp {t:List (Nat × Nat)} {p:Nat × Nat} {k c:Nat} (hk:k = (zp (t ++ [p])).length):Wk (.lst (flat (zp t) ++ [nv p.1,nv p.2]) k (.ch c)) (pv (zp (t ++ [p]))) :=by
 rw [← flz_app]
 exact wk_own hk
theorem rTr_pure {L:List LkI} {M:List Int} {N:List Lk} (e:cL N = L.take N.length) (hl:N.length ≤ L.length) (h5:L.length ≤ 7) (h:wfN N):∀ (f a:Nat),a ≤ f → a ≤ N.length → Pure prog 89 [.agg [lkA L,nl M],nv a] (tvA (tr N a))
 | _,0,_,_ => by
  have lL :=lkA_no L
  have lM :=ivs_no M
  have lLs :=lks_no L
  rw [tr_zero]
  refine pure_sym hE rfl (by repeat' (first | exact trivial | assumption | exact flat_no _ | exact (fun _ h => nomatch h) | apply And.intro)) (by repeat' (first | exact trivial | assumption | exact flat_no _ | exact (fun _ h => nomatch h) | apply And.intro)) fun S q pc hS hq hC hE => ?_
  conv => whnf
  exact ⟨_,rfl,Wk.refl _⟩
 | 0,_ + 1,h1,_ => absurd h1 (Nat.not_succ_le_zero _)
 |f + 1,i + 1,h1,h2 => by
  have hi :=h i (by omega)
  have ih :=rTr_pure (M :=M) e hl h5 h f (gN N i).1 (by omega) (by omega)
  have hlen :=tr_len h (gN N i).1 (gN N i).1 (Nat.le_refl _) (by omega)
  have lT :=tvA_no (tr N (gN N i).1)
  have l3 :=lk3 e hl h5 (i :=i) (by omega)
  have lL :=lkA_no L
  have lM :=ivs_no M
  have lLs :=lks_no L
  rw [tr_succ h (by omega),tvA_app]
  generalize gN N i = y at *
  obtain ⟨b,c,d⟩ :=y
  have hlen:(tr N b).length ≤ 7 :=Nat.le_trans hlen (Nat.le_trans (show b ≤ i from hi) (by omega))
  have ih:Pure prog 89 [.agg [lkA L,nl M],nv b] (tvA (tr N b)) :=ih
  have lT:Live noL (tvA (tr N b)) :=lT
  have l3:takeN 3 (dropN ((IntKind.i64.wrap (Int.ofNat (i + 1) - 1)).toNat * 3) (lks L)) = some [nv b,nv c,nv d] :=l3
  show Pure prog _ _ (pv (zp (tr N b ++ [(c,d)])))
  generalize tr N b = t at *
  cases t with
  |nil =>
   refine pure_sym hE rfl (by repeat' (first | exact trivial | assumption | exact flat_no _ | exact (fun _ h => nomatch h) | apply And.intro)) (by repeat' (first | exact trivial | assumption | exact flat_no _ | exact (fun _ h => nomatch h) | apply And.intro)) fun S q pc hS hq hC hE => ?_
   conv => whnf
   refine bool_true (lkR7 (show i < L.length by omega) h5) ?_
   conv => whnf
   refine plan_as (takP l3) ?_
   conv => whnf
   refine sym_pure hC (ih) ?_
   conv => whnf
   refine sym_drawn hS (by kernel_rfl) ?_
   conv => whnf
   exact ⟨_,rfl,Wk.wk _⟩
  |cons w0 r =>
   have ih:Pure prog 89 [.agg [lkA L,nl M],nv b] (pv (zp (w0 :: r))) :=ih
   have lq :=flat_no (zp (w0 :: r))
   refine pure_sym hE rfl (by repeat' (first | exact trivial | assumption | exact flat_no _ | exact (fun _ h => nomatch h) | apply And.intro)) (by repeat' (first | exact trivial | assumption | exact flat_no _ | exact (fun _ h => nomatch h) | apply And.intro)) fun S q pc hS hq hC hE => ?_
   conv => whnf
   refine bool_true (lkR7 (show i < L.length by omega) h5) ?_
   conv => whnf
   refine plan_as (takP l3) ?_
   conv => whnf
   refine sym_pure hC (ih) ?_
   conv => whnf
   refine plan_as (pSrc_eq (e :=105) (ys :=flat (zp (w0 :: r))) (m :=(zp (w0 :: r)).length) (l :=flat (zp (w0 :: r))) (by kernel_rfl) rfl (takeN_flat (zp (w0 :: r)))) ?_
   conv => whnf
   have hz :=zp_len r
   have hlen:r.length + 1 ≤ 7 :=hlen
   refine bool_true (allCells_flat (zp (w0 :: r))) ?_
   conv => whnf
   refine bool_true (decide_eq_true (show ((zp r).length + 1) * 16 ≤ 140737488355328 by omega)) ?_
   conv => whnf
   refine bool_true (decide_eq_true (show (zp r).length + 1 ≤ 9223372036854775807 by omega)) ?_
   conv => whnf
   refine bool_true (decide_eq_true (show ((zp r).length + 1 + (0 + 1)) * 16 ≤ 140737488355328 by omega)) ?_
   conv => whnf
   refine bool_true (decide_eq_true (show (zp r).length + 1 + (0 + 1) ≤ 9223372036854775807 by omega)) ?_
   conv => whnf
   refine bool_true (lenIs_flz (w0 :: r)) ?_
   conv => whnf
   refine bool_true (decide_eq_true rfl) ?_
   conv => whnf
   refine sym_drawn hS (by kernel_rfl) ?_
   conv => whnf
   exact ⟨_,rfl,wk_tapp (t :=w0 :: r) (p :=(c,d)) (by rw [zp_len,List.length_append];show (zp r).length + 1 + (0 + 1) = r.length + 1 + 1;omega)⟩
end
end Go.Abs.Seat
