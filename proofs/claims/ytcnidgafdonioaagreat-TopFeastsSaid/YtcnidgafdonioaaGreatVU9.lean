/-
  The document's first train.
-/
import Derived.Test.YtcnidgafdonioaaGreatVT36
import Derived.Test.YtcnidgafdonioaaGreatVU8
import Derived.Test.YtcnidgafdonioaaGreatVU5
import Derived.Test.YtcnidgafdonioaaGreatVU6
import Derived.Test.YtcnidgafdonioaaGreatVU7
namespace Go.Abs.Seat
noncomputable section
open Go Go.Abs Go.Proofs.Tryz
set_option maxRecDepth 100000
set_option maxHeartbeats 40000000
attribute [local irreducible] IntKind.wrap pEq
theorem ko_rT {x:Nat} {c:Bool} {E:Env} {S:Sub} {o:Oper} {K:KE} {tm:Tr AV} {df:List ADf} {pm:APm} {rd:Bool} {h:Tr AObj} {n b:Nat} {wr:List Nat} (hc:c = true) (hk:opRun E S o K tm df pm rd h n b wr):@Bool.rec (fun _ => KO) opSkip opRun (@Bool.rec (fun _ => Bool) (@Bool.rec (fun _ => Bool) true false (x,true).snd) (x,true).snd c) E S o K tm df pm rd h n b wr :=by subst hc;exact hk
theorem ko_sT {x:Nat} {c:Bool} {E:Env} {S:Sub} {o:Oper} {K:KE} {tm:Tr AV} {df:List ADf} {pm:APm} {rd:Bool} {h:Tr AObj} {n b:Nat} {wr:List Nat} (hc:c = false) (hk:opSkip E S o K tm df pm rd h n b wr):@Bool.rec (fun _ => KO) opSkip opRun (@Bool.rec (fun _ => Bool) (@Bool.rec (fun _ => Bool) true false (x,true).snd) (x,true).snd c) E S o K tm df pm rd h n b wr :=by subst hc;exact hk
theorem ko_rF {x:Nat} {c:Bool} {E:Env} {S:Sub} {o:Oper} {K:KE} {tm:Tr AV} {df:List ADf} {pm:APm} {rd:Bool} {h:Tr AObj} {n b:Nat} {wr:List Nat} (hc:c = false) (hk:opRun E S o K tm df pm rd h n b wr):@Bool.rec (fun _ => KO) opSkip opRun (@Bool.rec (fun _ => Bool) (@Bool.rec (fun _ => Bool) true false (x,false).snd) (x,false).snd c) E S o K tm df pm rd h n b wr :=by subst hc;exact hk
theorem ko_sF {x:Nat} {c:Bool} {E:Env} {S:Sub} {o:Oper} {K:KE} {tm:Tr AV} {df:List ADf} {pm:APm} {rd:Bool} {h:Tr AObj} {n b:Nat} {wr:List Nat} (hc:c = true) (hk:opSkip E S o K tm df pm rd h n b wr):@Bool.rec (fun _ => KO) opSkip opRun (@Bool.rec (fun _ => Bool) (@Bool.rec (fun _ => Bool) true false (x,false).snd) (x,false).snd c) E S o K tm df pm rd h n b wr :=by subst hc;exact hk
theorem pick_t {t:Bool} {a b:AV} (h:t = true):pPick (.bool t) a b = Plan.ret a :=by subst h;rfl
theorem pick_f {t:Bool} {a b:AV} (h:t = false):pPick (.bool t) a b = Plan.ret b :=by subst h;rfl
end
end Go.Abs.Seat
namespace Go.Abs.Seat
def xP:List (Nat × Nat) → Nat
 | [] => 1
 |p :: r => p.1 * xP r
def yP:List (Nat × Nat) → Nat
 | [] => 1
 |p :: r => p.2 * yP r
def AllT (tp:Nat → Prop):List (Nat × Nat) → Prop
 | [] => True
 |p :: r => (tp p.1 ∧ tp p.2) ∧ AllT tp r
def Ch:Nat × Nat → List (Nat × Nat) → Prop
 | _,[] => True
 |f,p :: r => ¬ ltQ p f ∧ Ch p r
structure Tk (tp:Nat → Prop) (k:Nat) (t:List (Nat × Nat)):Prop where
 len:t.length = k
 all:AllT tp t
 ch:Ch (0,0) t
def dT (N D:Nat) (t:List (Nat × Nat)):Nat × Nat :=dQ N D (xP t,yP t)
def Btr (N D:Nat) (t u:List (Nat × Nat)):Prop :=¬ fle (dT N D u) (dT N D t) ∨ fle (dT N D t) (dT N D u) ∧ (t.length < u.length ∨ t.length = u.length ∧ ltL t u)
def RT (tp:Nat → Prop) (P:Nat) (lets:Nat → Prop) (t:List (Nat × Nat)):Prop :=(1 ≤ t.length ∧ t.length ≤ P) ∧ lets t.length ∧ Tk tp t.length t
def Bst (tp:Nat → Prop) (P:Nat) (lets:Nat → Prop) (N D:Nat) (t:List (Nat × Nat)):Prop :=RT tp P lets t ∧ ∀ u,RT tp P lets u → ¬ Btr N D u t
def Opt (tp:Nat → Prop) (N D k:Nat) (t:List (Nat × Nat)):Prop :=Tk tp k t ∧ ∀ u,Tk tp k u → fle (dT N D t) (dT N D u) ∧ (fle (dT N D u) (dT N D t) → ¬ ltL u t)
theorem RT.lift {tp:Nat → Prop} {P:Nat} {lets:Nat → Prop} {t:List (Nat × Nat)}:RT tp (P + 1) lets t ↔ RT tp P lets t ∨ lets (P + 1) ∧ Tk tp (P + 1) t :=by
 unfold RT
 constructor
 ·rintro ⟨⟨h1,h2⟩,h3,h4⟩
  by_cases e:t.length = P + 1
  ·rw [e] at h3 h4
   exact .inr ⟨h3,h4⟩
  ·exact .inl ⟨⟨h1,by omega⟩,h3,h4⟩
 ·rintro (⟨⟨h1,h2⟩,h3,h4⟩ | ⟨h3,h4⟩)
  ·exact ⟨⟨h1,by omega⟩,h3,h4⟩
  ·rw [h4.len]
   exact ⟨⟨by omega,Nat.le_refl _⟩,h3,h4⟩
def BO (tp:Nat → Prop) (P:Nat) (lets:Nat → Prop) (N D:Nat) (o:Option (List (Nat × Nat))):Prop :=
 match o with
 |none => ∀ t,¬ RT tp P lets t
 |some t => Bst tp P lets N D t
theorem BO.same {tp:Nat → Prop} {P:Nat} {lets:Nat → Prop} {N D:Nat} {o:Option (List (Nat × Nat))} (h:BO tp P lets N D o) (k:¬ (lets (P + 1) ∧ ∃ t,Tk tp (P + 1) t)):BO tp (P + 1) lets N D o :=by
 have e:∀ t,RT tp (P + 1) lets t ↔ RT tp P lets t :=fun t => by
  rw [RT.lift]
  exact ⟨fun h => h.resolve_right fun h => k ⟨h.1,t,h.2⟩,.inl⟩
 cases o with
 |none => exact fun t ht => h t ((e t).1 ht)
 |some t => exact ⟨(e t).2 h.1,fun u hu => h.2 u ((e u).1 hu)⟩
theorem yP_pos {tp:Nat → Prop} (h1:∀ n,tp n → 1 ≤ n):∀ {t:List (Nat × Nat)},AllT tp t → 1 ≤ yP t
 | [],_ => Nat.le_refl _
 | _ :: _,h => Nat.mul_pos (h1 _ h.1.2) (yP_pos h1 h.2)
theorem BO.old {tp:Nat → Prop} {P:Nat} {lets:Nat → Prop} {N D:Nat} (h1:∀ n,tp n → 1 ≤ n) {t u:List (Nat × Nat)} (h:BO tp P lets N D (some t)) (hu:Opt tp N D (P + 1) u) (hb:fle (dT N D t) (dT N D u)):BO tp (P + 1) lets N D (some t) :=by
 refine ⟨RT.lift.2 (.inl h.1),fun s hs hbt => ?_⟩
 rcases RT.lift.1 hs with k | ⟨_,k⟩
 ·exact h.2 s k hbt
 ·have q1 :=(hu.2 s k).1
  have q2 :=fle_tr (b :=dT N D u) (yP_pos h1 hu.1.all) hb q1
  rcases hbt with e | ⟨_,e⟩
  ·exact e q2
  ·have :=h.1.1
   have :=k.len
   rcases e with e | e
   ·omega
   ·omega
end Go.Abs.Seat
/-! The document's nearest train: plain. -/
namespace Go.Abs.Seat
section
variable {tp:Nat → Prop} (h1:∀ n,tp n → 1 ≤ n ∧ n ≤ 60) {a:Nat} (ha:∀ n,tp n → a ≤ n) {k M N D:Nat} (hD:1 ≤ D) (hM:60 ^ k < M)
include h1 ha hD hM
end
end Go.Abs.Seat

namespace Go.Abs.Seat

end Go.Abs.Seat
namespace Go.Abs.Seat
noncomputable section
open Go Go.Abs Go.Proofs.Tryz
set_option maxRecDepth 100000
set_option maxHeartbeats 40000000
attribute [local irreducible] IntKind.wrap pEq
theorem takP {xs:List AV} {k o:Nat} {v:List AV} (e:takeN k (dropN o xs) = some v):(match takeN k (dropN o xs) with | some l => Plan.ret (.agg l) | none => Plan.fail) = Plan.ret (.agg v) :=by rw [e]
end
end Go.Abs.Seat
namespace Go.Abs.Seat
open Go Go.Abs Go.Proofs.Tryz
set_option maxRecDepth 100000
set_option maxHeartbeats 4000000
attribute [local irreducible] IntKind.wrap pEq

end Go.Abs.Seat
namespace Go.Abs.Seat


end Go.Abs.Seat
namespace Go.Abs.Seat
open Go Go.Abs Go.Proofs.Tryz
set_option maxRecDepth 100000
set_option maxHeartbeats 4000000
attribute [local irreducible] IntKind.wrap pEq

end Go.Abs.Seat
namespace Go.Abs.Seat
def okTail (t:List Nat):Prop :=(∀ y,y ∈ t → 1 ≤ y) ∧ (t ≠ [] → lastNe t)
theorem okTail.lt {t:List Nat} (h:okTail t):(foS t).2 < (foS t).1 :=by
 cases t with
 |nil => decide
 |cons y t => exact foS_lt y t h.1 (h.2 (by simp))
def fb:Nat → Nat
 | 0 => 1
 | 1 => 1
 |k + 2 => fb (k + 1) + fb k
end Go.Abs.Seat
namespace Go.Abs.Seat
open Go Go.Abs Go.Proofs.Tryz
set_option maxRecDepth 100000
set_option maxHeartbeats 4000000
attribute [local irreducible] IntKind.wrap pEq pSlice
theorem slice_to {T:Tr TypeInfo} {t e:TypeId} {inf:TypeInfo} {xs ys:List AV} {n:Nat} {k:IntKind} {z:Int} {h:Nat} (hT:tyU T t = some (.slice e)) (hi:T.get e = some inf) (hz:z = Int.ofNat h) (hn:h ≤ n)
  (hy:takeN (h * inf.size) xs = some ys):pSlice T t (.lst xs n .no) none (some (.int k z)) = .chk (decide (0 * inf.size ≤ xs.length)) (.ret (.lst ys h .no)) :=by
 subst hz
 unfold pSlice
 have e1:bnd (some (.int k (Int.ofNat h))) n n = some h :=by
  unfold bnd
  simp only [Int.ofNat_eq_natCast]
  rw [decide_eq_true (show (0:Int) ≤ (h:Int) by omega),decide_eq_true (show (h:Int) ≤ (n:Int) by omega)]
  rfl
 have e2:bnd none 0 h = some 0 :=rfl
 have e3:dropN (0 * inf.size) xs = xs :=by rw [Nat.zero_mul];rfl
 simp only [hT,hi,e1,e2,e3,Nat.sub_zero,hy]
end Go.Abs.Seat
