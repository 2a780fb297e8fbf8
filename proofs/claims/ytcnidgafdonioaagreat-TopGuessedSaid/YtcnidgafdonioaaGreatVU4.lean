/-
  The evaluator: values brought to a form, plans carried out over a heap that is a tree.
-/
import Derived.Test.YtcnidgafdonioaaGreatVU3
namespace Go.Abs
open Go
noncomputable section
abbrev bif2 (b:Bool) (F T:Prop):Prop :=@Bool.rec (fun _ => Prop) F T b
def fcN (y:Bool) (n:Nat) (K:Nat → Prop):Prop :=@Bool.rec (fun _ => Prop) (@Nat.rec (fun _ => Prop) (K 0) (fun m _ => K (Nat.succ m)) n) (K n) y
theorem fcN_ok {y:Bool} {n:Nat} {K:Nat → Prop} (h:fcN y n K):K n :=by
 cases y with
 |true => exact h
 |false => cases n <;> exact h
theorem fcF_ok {n:Nat} {K:Nat → Prop} (h:fcN false n K):K n :=fcN_ok h
def fcI0 (i:Int) (K:Int → Prop):Prop :=
 @Int.rec (fun _ => Prop) (fun n => fcN false n fun n => K (.ofNat n)) (fun n => fcN false n fun n => K (.negSucc n)) i
theorem fcI0_ok {i:Int} {K:Int → Prop} (h:fcI0 i K):K i :=by
 cases i with
 |ofNat n => exact fcF_ok (K :=fun n => K (.ofNat n)) h
 |negSucc n => exact fcF_ok (K :=fun n => K (.negSucc n)) h
def fcB (b:Bool) (K:Bool → Prop):Prop :=@Bool.rec (fun _ => Prop) (K false) (K true) b
theorem fcB_ok {b:Bool} {K:Bool → Prop} (h:fcB b K):K b :=by cases b <;> exact h
def fcU (u:UInt8) (K:UInt8 → Prop):Prop :=fcN false u.toNat fun n => K (UInt8.ofNat n)
theorem fcU_ok {u:UInt8} {K:UInt8 → Prop} (h:fcU u K):K u :=by
 have :=fcF_ok (K :=fun n => K (UInt8.ofNat n)) h
 simpa using this
def fcL0 {α:Type} (f:α → (α → Prop) → Prop) (xs:List α):(List α → Prop) → Prop :=
 @List.rec α (fun _ => (List α → Prop) → Prop) (fun K => K []) (fun x _ ih K => f x fun x => ih fun xs => K (x :: xs)) xs
theorem fcL0_ok {α:Type} {f:α → (α → Prop) → Prop} (hf:∀ x K,f x K → K x):∀ (xs:List α) (K:List α → Prop),fcL0 f xs K → K xs
 | [],_,h => h
 |x :: xs,K,h => fcL0_ok hf xs (fun xs => K (x :: xs)) (hf x (fun x => fcL0 f xs fun xs => K (x :: xs)) h)
def fcL {α:Type} (y:Bool) (f:α → (α → Prop) → Prop) (xs:List α) (K:List α → Prop):Prop :=@Bool.rec (fun _ => Prop) (fcL0 f xs K) (K xs) y
theorem fcL_ok {α:Type} {y:Bool} {f:α → (α → Prop) → Prop} (hf:∀ x K,f x K → K x) (xs:List α) (K:List α → Prop) (h:fcL y f xs K):K xs :=by
 cases y with
 |true => exact h
 |false => exact fcL0_ok hf xs K h
def fcS {α:Type} (xs:List α):(List α → Prop) → Prop :=
 @List.rec α (fun _ => (List α → Prop) → Prop) (fun K => K []) (fun x _ ih K => ih fun xs => K (x :: xs)) xs
theorem fcS_ok {α:Type}:∀ (xs:List α) (K:List α → Prop),fcS xs K → K xs
 | [],_,h => h
 |x :: xs,K,h => fcS_ok xs (fun xs => K (x :: xs)) h
abbrev FV :=(AV → Prop) → Prop
def fcH0 (v:AV):(AV → Prop) → Prop :=
 @AV.rec (fun _ => FV) (fun _ => Unit)
  (fun K => K .unk)
  (fun k n K => K (.int k n))
  (fun b K => K (.bool b))
  (fun s K => K (.str s))
  (fun K => K .nilp)
  (fun o off K => K (.ptr o off))
  (fun xs off _ K => K (.lptr xs off))
  (fun g off K => K (.gp g off))
  (fun K => K .nils)
  (fun o off len cap K => K (.slc o off len cap))
  (fun xs n own _ K => K (.lst xs n own))
  (fun K => K .nilm)
  (fun o K => K (.map o))
  (fun K => K .nilf)
  (fun fn f c _ _ K => K (.func fn f c))
  (fun o K => K (.yld o))
  (fun K => K .nili)
  (fun t a _ K => K (.iface t a))
  (fun cs _ K => K (.agg cs))
  (fun vs _ K => K (.tup vs))
  () (fun _ _ _ _ => ()) v
def boolOf (v:AV):Option Bool :=
 @AV.rec (fun _ => Option Bool) (fun _ => Unit)
  none (fun _ _ => none) (fun b => some b) (fun _ => none) none (fun _ _ => none) (fun _ _ _ => none) (fun _ _ => none) none (fun _ _ _ _ => none) (fun _ _ _ _ => none)
  none (fun _ => none) none (fun _ _ _ _ _ => none) (fun _ => none) none (fun _ _ _ => none) (fun _ _ => none) (fun _ _ => none)
  () (fun _ _ _ _ => ()) v
theorem boolOf_ok {v:AV} {b:Bool} (h:boolOf v = some b):v = .bool b :=by
 cases v <;> cases h <;> rfl
theorem fcH0_ok {v:AV} {K:AV → Prop} (h:fcH0 v K):K v :=by cases v <;> exact h
def fcOwn (w:Own) (K:Own → Prop):Prop :=
 match w with
 | .no => K .no
 | .full => K .full
 | .ch c => fcN false c fun c => K (.ch c)
theorem fcOwn_ok {w:Own} {K:Own → Prop} (h:fcOwn w K):K w :=by
 cases w with
 |ch c => exact fcF_ok (K :=fun c => K (.ch c)) h
 | _ => exact h
def fcA0 (v:AV):(AV → Prop) → Prop :=
 @AV.rec (fun _ => FV) (fun _ => Unit)
  (fun K => K .unk)
  (fun k n K => fcI0 n fun n => K (.int k n))
  (fun b K => fcB b fun b => K (.bool b))
  (fun s K => fcL0 fcU s fun s => K (.str s))
  (fun K => K .nilp)
  (fun o off K => fcN false o fun o => fcN false off fun off => K (.ptr o off))
  (fun xs off _ K => fcL0 fcH0 xs fun xs => fcN false off fun off => K (.lptr xs off))
  (fun g off K => fcN false g fun g => fcN false off fun off => K (.gp g off))
  (fun K => K .nils)
  (fun o off len cap K => fcN false o fun o => fcN false off fun off => fcN false len fun len => fcN false cap fun cap => K (.slc o off len cap))
  (fun xs n own _ K => fcL0 fcH0 xs fun xs => fcN false n fun n => fcOwn own fun own => K (.lst xs n own))
  (fun K => K .nilm)
  (fun o K => fcN false o fun o => K (.map o))
  (fun K => K .nilf)
  (fun fn f c _ _ K => fcL0 fcH0 f fun f => fcL0 fcH0 c fun c => K (.func fn f c))
  (fun o K => K (.yld o))
  (fun K => K .nili)
  (fun t a _ K => fcH0 a fun a => K (.iface t a))
  (fun cs _ K => fcL0 fcH0 cs fun cs => K (.agg cs))
  (fun vs _ K => fcL0 fcH0 vs fun cs => K (.tup cs))
  () (fun _ _ _ _ => ()) v
theorem fcLH {xs:List AV} {K:List AV → Prop} (h:fcL0 fcH0 xs K):K xs :=fcL0_ok (fun _ _ h => fcH0_ok h) xs K h
theorem fcA0_ok {v:AV} {K:AV → Prop} (h:fcA0 v K):K v :=by
 cases v with
 |int k n => exact fcI0_ok (K :=fun n => K (.int k n)) h
 |bool b => exact fcB_ok (K :=fun b => K (.bool b)) h
 |str s => exact fcL0_ok (fun _ _ h => fcU_ok h) s (fun s => K (.str s)) h
 |ptr o off => exact fcF_ok (K :=fun off => K (.ptr o off)) (fcF_ok (K :=fun o => fcN false off fun off => K (.ptr o off)) h)
 |gp o off => exact fcF_ok (K :=fun off => K (.gp o off)) (fcF_ok (K :=fun o => fcN false off fun off => K (.gp o off)) h)
 |lptr xs off => exact fcF_ok (K :=fun off => K (.lptr xs off)) (fcLH (K :=fun xs => fcN false off fun off => K (.lptr xs off)) h)
 |slc o off len cap =>
  have h1 :=fcF_ok (K :=fun o => fcN false off fun off => fcN false len fun len => fcN false cap fun cap => K (.slc o off len cap)) h
  have h2 :=fcF_ok (K :=fun off => fcN false len fun len => fcN false cap fun cap => K (.slc o off len cap)) h1
  have h3 :=fcF_ok (K :=fun len => fcN false cap fun cap => K (.slc o off len cap)) h2
  exact fcF_ok (K :=fun cap => K (.slc o off len cap)) h3
 |lst xs n own =>
  have h1 :=fcLH (K :=fun xs => fcN false n fun n => fcOwn own fun own => K (.lst xs n own)) h
  have h2 :=fcF_ok (K :=fun n => fcOwn own fun own => K (.lst xs n own)) h1
  exact fcOwn_ok (K :=fun own => K (.lst xs n own)) h2
 |map o => exact fcF_ok (K :=fun o => K (.map o)) h
 |func fn f c =>
  have h1 :=fcLH (K :=fun f => fcL0 fcH0 c fun c => K (.func fn f c)) h
  exact fcLH (K :=fun c => K (.func fn f c)) h1
 |agg cs => exact fcLH (K :=fun cs => K (.agg cs)) h
 |tup cs => exact fcLH (K :=fun cs => K (.tup cs)) h
 |iface t a => exact fcH0_ok (K :=fun a => K (.iface t a)) h
 | _ => exact h
def fcV0 (v:AV):(AV → Prop) → Prop :=
 @AV.rec (fun _ => FV) (fun _ => Unit)
  (fun K => K .unk)
  (fun k n K => fcI0 n fun n => K (.int k n))
  (fun b K => fcB b fun b => K (.bool b))
  (fun s K => fcL0 fcU s fun s => K (.str s))
  (fun K => K .nilp)
  (fun o off K => fcN false o fun o => fcN false off fun off => K (.ptr o off))
  (fun xs off _ K => fcL0 fcH0 xs fun xs => fcN false off fun off => K (.lptr xs off))
  (fun g off K => fcN false g fun g => fcN false off fun off => K (.gp g off))
  (fun K => K .nils)
  (fun o off len cap K => fcN false o fun o => fcN false off fun off => fcN false len fun len => fcN false cap fun cap => K (.slc o off len cap))
  (fun xs n own _ K => fcL0 fcH0 xs fun xs => fcN false n fun n => fcOwn own fun own => K (.lst xs n own))
  (fun K => K .nilm)
  (fun o K => fcN false o fun o => K (.map o))
  (fun K => K .nilf)
  (fun fn f c _ _ K => fcL0 fcH0 f fun f => fcL0 fcH0 c fun c => K (.func fn f c))
  (fun o K => K (.yld o))
  (fun K => K .nili)
  (fun t a _ K => fcA0 a fun a => K (.iface t a))
  (fun cs _ K => fcL0 fcA0 cs fun cs => K (.agg cs))
  (fun vs _ K => fcL0 fcA0 vs fun cs => K (.tup cs))
  () (fun _ _ _ _ => ()) v
theorem fcV0_ok {v:AV} {K:AV → Prop} (h:fcV0 v K):K v :=by
 cases v with
 |agg cs => exact fcL0_ok (fun _ _ h => fcA0_ok h) cs (fun cs => K (.agg cs)) h
 |tup cs => exact fcL0_ok (fun _ _ h => fcA0_ok h) cs (fun cs => K (.tup cs)) h
 |iface t a => exact fcA0_ok (K :=fun a => K (.iface t a)) h
 | _ => exact fcA0_ok h
def fcM0 (v:AV):(AV → Prop) → Prop :=
 @AV.rec (fun _ => FV) (fun _ => Unit)
  (fun K => K .unk)
  (fun k n K => K (.int k n))
  (fun b K => K (.bool b))
  (fun s K => K (.str s))
  (fun K => K .nilp)
  (fun o off K => K (.ptr o off))
  (fun xs off _ K => K (.lptr xs off))
  (fun g off K => K (.gp g off))
  (fun K => K .nils)
  (fun o off len cap K => K (.slc o off len cap))
  (fun xs n own _ K => K (.lst xs n own))
  (fun K => K .nilm)
  (fun o K => K (.map o))
  (fun K => K .nilf)
  (fun fn f c _ _ K => K (.func fn f c))
  (fun o K => K (.yld o))
  (fun K => K .nili)
  (fun t a _ K => K (.iface t a))
  (fun cs _ K => fcL0 fcH0 cs fun cs => K (.agg cs))
  (fun vs _ K => fcL0 fcH0 vs fun cs => K (.tup cs))
  () (fun _ _ _ _ => ()) v
theorem fcM0_ok {v:AV} {K:AV → Prop} (h:fcM0 v K):K v :=by
 cases v with
 |agg cs => exact fcLH (K :=fun cs => K (.agg cs)) h
 |tup cs => exact fcLH (K :=fun cs => K (.tup cs)) h
 | _ => exact h
def fcV (y:Bool) (v:AV) (K:AV → Prop):Prop :=@Bool.rec (fun _ => Prop) (fcV0 v K) (fcM0 v K) y
theorem fcV_ok {y:Bool} {v:AV} {K:AV → Prop} (h:fcV y v K):K v :=by
 cases y with
 |true => exact fcM0_ok h
 |false => exact fcV0_ok h
def fcE (p:AV × AV) (K:AV × AV → Prop):Prop :=
 match p with
 |(a,b) => fcH0 a fun a => fcH0 b fun b => K (a,b)
theorem fcE_ok {p:AV × AV} {K:AV × AV → Prop} (h:fcE p K):K p :=by
 obtain ⟨a,b⟩ :=p
 exact fcH0_ok (K :=fun b => K (a,b)) (fcH0_ok (K :=fun a => fcH0 b fun b => K (a,b)) h)
def fcO0 (x:AObj) (K:AObj → Prop):Prop :=
 match x with
 | .cells t n ty => fcN false n fun n => K (.cells t n ty)
 | .chain n sz ty => fcN false n fun n => fcN false sz fun sz => K (.chain n sz ty)
 | .mapo es => fcL0 fcE es fun es => K (.mapo es)
 | .siter s pos => fcL0 fcU s fun s => fcN false pos fun pos => K (.siter s pos)
 |x => K x
theorem fcO0_ok {x:AObj} {K:AObj → Prop} (h:fcO0 x K):K x :=by
 cases x with
 |cells t n ty => exact fcF_ok (K :=fun n => K (.cells t n ty)) h
 |chain n sz ty => exact fcF_ok (K :=fun sz => K (.chain n sz ty)) (fcF_ok (K :=fun n => fcN false sz fun sz => K (.chain n sz ty)) h)
 |mapo es => exact fcL0_ok (fun _ _ h => fcE_ok h) es (fun es => K (.mapo es)) h
 |siter s pos =>
  have h1 :=fcL0_ok (fun _ _ h => fcU_ok h) s (fun s => fcN false pos fun pos => K (.siter s pos)) h
  exact fcF_ok (K :=fun pos => K (.siter s pos)) h1
 | _ => exact h
def fcO (y:Bool) (x:AObj) (K:AObj → Prop):Prop :=@Bool.rec (fun _ => Prop) (fcO0 x K) (K x) y
theorem fcO_ok {y:Bool} {x:AObj} {K:AObj → Prop} (h:fcO y x K):K x :=by
 cases y with
 |true => exact h
 |false => exact fcO0_ok h
def putL {α:Type} (xs:List α):Nat → Tr α → (Tr α → Prop) → Prop :=
 @List.rec α (fun _ => Nat → Tr α → (Tr α → Prop) → Prop) (fun _ t K => K t) (fun x _ ih i t K => t.insK i x fun t => fcN false (Nat.succ i) fun i => ih i t K) xs
theorem putL_ok {α:Type}:∀ (xs:List α) (i:Nat) (t:Tr α) (K:Tr α → Prop),putL xs i t K → ∃ t',K t' ∧ ∀ j,t'.get j = if i ≤ j ∧ j < i + xs.length then xs[j - i]? else t.get j
 | [],i,t,K,h => ⟨t,h,fun j => by simp;omega⟩
 |x :: xs,i,t,K,h => by
  obtain ⟨t1,h1,h2⟩ :=Tr.insK_spec t i (fun t => fcN false (Nat.succ i) fun i => putL xs i t K) h
  obtain ⟨t',h3,h4⟩ :=putL_ok xs _ t1 K (fcF_ok (K :=fun i => putL xs i t1 K) h1)
  refine ⟨t',h3,fun j => ?_⟩
  rw [h4,h2]
  by_cases e:j = i
  ·subst e;simp;intro h;omega
  ·rw [if_neg e]
   by_cases h5:i + 1 ≤ j ∧ j < i + 1 + xs.length
   ·rw [if_pos h5,if_pos (by simp only [List.length_cons];omega)]
    have:j - i = (j - (i + 1)) + 1 :=by omega
    rw [this];simp
   ·rw [if_neg h5,if_neg (by simp only [List.length_cons];omega)]
def setL {α:Type} (xs:List α):Nat → Tr α → (Tr α → Prop) → Prop :=
 @List.rec α (fun _ => Nat → Tr α → (Tr α → Prop) → Prop) (fun _ t K => K t) (fun x _ ih i t K => t.setK i x fun t => fcN false (Nat.succ i) fun i => ih i t K) xs
theorem setL_ok {α:Type}:∀ (xs:List α) (i:Nat) (t:Tr α) (K:Tr α → Prop),setL xs i t K → ∃ t',K t' ∧ ∀ j,t'.get j = if i ≤ j ∧ j < i + xs.length then xs[j - i]? else t.get j
 | [],i,t,K,h => ⟨t,h,fun j => by simp;omega⟩
 |x :: xs,i,t,K,h => by
  obtain ⟨t1,h1,_,h2⟩ :=Tr.setK_spec t i (fun t => fcN false (Nat.succ i) fun i => setL xs i t K) h
  obtain ⟨t',h3,h4⟩ :=setL_ok xs _ t1 K (fcF_ok (K :=fun i => setL xs i t1 K) h1)
  refine ⟨t',h3,fun j => ?_⟩
  rw [h4,h2]
  by_cases e:j = i
  ·subst e;simp;intro h;omega
  ·rw [if_neg e]
   by_cases h5:i + 1 ≤ j ∧ j < i + 1 + xs.length
   ·rw [if_pos h5,if_pos (by simp only [List.length_cons];omega)]
    have:j - i = (j - (i + 1)) + 1 :=by omega
    rw [this];simp
   ·rw [if_neg h5,if_neg (by simp only [List.length_cons];omega)]
def repL {α:Type} (x:α) (n:Nat) (K:Tr α → Prop):Prop :=Tr.copyK x 64 n fun _ t => K t
theorem repL_ok {α:Type} {x:α} {n:Nat} {K:Tr α → Prop} (h:repL x n K):∃ t,K t ∧ ∀ j,t.get j = if j < n then some x else none :=by
 obtain ⟨_,t,h1,_,h2⟩ :=Tr.copyK_spec 64 n _ h
 exact ⟨t,h1,h2⟩
theorem copyK_det {α:Type} (x:α):∀ (f n:Nat),n + 1 < 2 ^ f → ∃ s t:Tr α,∀ K:Tr α → Tr α → Prop,Tr.copyK x f n K ↔ K s t
 | 0,n,h => by simp at h
 |f + 1,0,_ => ⟨.node x .nil .nil,.nil,fun K => Iff.rfl⟩
 |f + 1,n + 1,h => by
  have h2:n / 2 + 1 < 2 ^ f :=by rw [Nat.pow_succ] at h;omega
  obtain ⟨s,t,hk⟩ :=copyK_det x f (n / 2) h2
  by_cases e:n % 2 = 0
  ·refine ⟨.node x s t,.node x t t,fun K => ?_⟩
   rw [Tr.copyK,hk,e];exact Iff.rfl
  ·have e:n % 2 = 1 :=by omega
   refine ⟨.node x s s,.node x s t,fun K => ?_⟩
   rw [Tr.copyK,hk,e];exact Iff.rfl
theorem rep_ex {α:Type} (x:α) (n:Nat):∃ t:Tr α,∀ j,t.get j = if j < n then some x else none :=by
 have hn:n + 1 < 2 ^ (n + 1) :=Nat.lt_two_pow_self
 obtain ⟨s,t,hk⟩ :=copyK_det x (n + 1) n hn
 obtain ⟨_,t',_,_,h2⟩ :=Tr.copyK_spec (n + 1) n (fun a b => a = s ∧ b = t) ((hk _).2 ⟨rfl,rfl⟩)
 exact ⟨t',h2⟩
def repS {α:Type} (x:α) (n:Nat) (K:Tr α → Prop):Prop :=∀ t:Tr α,(∀ j,t.get j = if j < n then some x else none) → K t
def repY {α:Type} (y:Bool) (x:α) (n:Nat) (K:Tr α → Prop):Prop :=
 @Bool.rec (fun _ => Prop) (repL x n K) (@Bool.rec (fun _ => Prop) (repL x n K) (repS x n K) (Nat.ble 32 n)) y
theorem repY_ok {α:Type} {y:Bool} {x:α} {n:Nat} {K:Tr α → Prop} (h:repY y x n K):∃ t,K t ∧ ∀ j,t.get j = if j < n then some x else none :=by
 cases y with
 |false => exact repL_ok h
 |true =>
  unfold repY at h
  cases e:Nat.ble 32 n with
  |false => rw [e] at h;exact repL_ok h
  |true =>
   rw [e] at h
   obtain ⟨t,ht⟩ :=rep_ex x n
   exact ⟨t,h t ht,ht⟩
def hv (h:Tr AObj) (i:Nat):AObj :=
 match h.get i with
 |some x => x
 |none => .hole
def putO (h:Tr AObj) (n s:Nat) (x:AObj) (K:Tr AObj → Nat → Prop):Prop :=
 @Bool.rec (fun _ => Prop) (h.setK s x fun h => K h n) (h.insK s x fun h => fcN false (Nat.succ n) fun n => K h n) (Nat.beq s n)
def HEnd (h:Tr AObj) (n:Nat):Prop :=∀ i,n ≤ i → h.get i = none
theorem HEnd.hole {h:Tr AObj} {n:Nat} (he:HEnd h n) {i:Nat} (hi:n ≤ i):hv h i = .hole :=by simp [hv,he i hi]
theorem putO_ok {h:Tr AObj} {n s:Nat} {x:AObj} {K:Tr AObj → Nat → Prop} (hp:putO h n s x K) (he:HEnd h n):∃ h' n',K h' n' ∧ hv h' = upd (hv h) s x ∧ HEnd h' n' ∧ n ≤ n' :=by
 unfold putO at hp
 cases e:Nat.beq s n with
 |true =>
  rw [e] at hp
  have e:s = n :=Nat.eq_of_beq_eq_true e
  obtain ⟨h',h1,h2⟩ :=Tr.insK_spec h s (fun h => fcN false (Nat.succ n) fun n => K h n) hp
  have h1 :=fcF_ok (K :=fun n => K h' n) h1
  have hh:hv h' = upd (hv h) s x :=by
   funext j
   simp only [hv,upd,h2]
   by_cases e:j = s
   ·simp [e]
   ·simp [e]
  refine ⟨h',n + 1,h1,hh,fun i hi => ?_,by omega⟩
  rw [h2,if_neg (by omega)]
  exact he i (by omega)
 |false =>
  rw [e] at hp
  obtain ⟨h',h1,⟨y,hy⟩,h2⟩ :=Tr.setK_spec h s (fun h => K h n) hp
  have hh:hv h' = upd (hv h) s x :=by
   funext j
   simp only [hv,upd,h2]
   by_cases e:j = s
   ·simp [e]
   ·simp [e]
  refine ⟨h',n,h1,hh,fun i hi => ?_,Nat.le_refl _⟩
  have hs:s < n :=Nat.lt_of_not_le fun hle => by rw [he s hle] at hy;cases hy
  rw [h2,if_neg (by omega)]
  exact he i hi
def getO (h:Tr AObj) (i:Nat) (K:AObj → Prop):Prop :=@Option.rec AObj (fun _ => Prop) False (fun x => K x) (h.get i)
abbrev KP :=PRes → List Nat → WL → Tr AObj → Nat → Prop
def setcsK (x:AObj):Bool → Nat → Nat → List AV → Tr AObj → Nat → (Tr AObj → Nat → AObj → Prop) → Prop :=
 match x with
 | .cells t m ty => fun y i off vs h n K => @Bool.rec (fun _ => Prop) False (fcL0 fcH0 vs fun vs => fcN y off fun off => setL vs off t fun t => putO h n i (.cells t m ty) fun h n => K h n (.cells t m ty)) (Nat.ble (off + vs.length) m)
 | _ => fun _ _ _ _ _ _ _ => False
def runP (p:Plan):Bool → Nat → Tr AObj → Nat → KP → Prop :=
 @Plan.rec (fun _ => Bool → Nat → Tr AObj → Nat → KP → Prop)
  (fun v _ _ h n K => K (.val v) [] [] h n)
  (fun _ _ h n K => K .skip [] [] h n)
  (fun _ _ _ _ _ => False)
  (fun b _ ih y s h n K => @Bool.rec (fun _ => Prop) False (ih y s h n K) b)
  (fun xs _ ih y s h n K => fcL y fcH0 xs fun xs => ih xs y s h n K)
  (fun i _ ih y s h n K => fcN false i fun i => getO h i fun x => ih x y s h n fun r R W h n => K r (i :: R) W h n)
  (fun i off vs _ ih y s h n K => fcN false i fun i => getO h i fun x => setcsK x y i off vs h n fun h n x' => ih y s h n fun r R W h n => K r (i :: R) ((i,x',bdl vs) :: W) h n)
  (fun i x rb _ ih y s h n K => fcN false i fun i => fcO y x fun x => putO h n i x fun h n => ih y s h n fun r R W h n => K r (i :: R) ((i,x,rb) :: W) h n)
  (fun cs ty _ ih y s h n K => fcL0 fcH0 cs fun cs => putL cs 0 .nil fun t => fcN false cs.length fun m => putO h n s (.cells t m ty) fun h n => ih s y s h n fun r R W h n => K r R ((s,.cells t m ty,bdl cs) :: W) h n)
  (fun m x ty _ ih y s h n K => fcN false m fun m => fcH0 x fun x => repY y x m fun t => putO h n s (.cells t m ty) fun h n => ih s y s h n fun r R W h n => K r R ((s,.cells t m ty,bd x) :: W) h n)
  (fun x q _ ih y s h n K => fcO y x fun x => putO h n s x fun h n => ih s y s h n fun r R W h n => K r R ((s,x,q) :: W) h n)
  (fun f args _ _ h n K => fcN false f fun f => fcL0 fcH0 args fun args => K (.call f args) [] [] h n)
  (fun l args _ _ h n K => fcN false l fun l => fcL0 fcH0 args fun args => K (.yld l args) [] [] h n)
  (fun f args _ _ h n K => fcN false f fun f => fcL0 fcH0 args fun args => K (.defr f args) [] [] h n)
  (fun _ _ h n K => K .recover [] [] h n)
  (fun v y _ h n K => fcV y v fun v => K (.panic v) [] [] h n)
  p
def appO (o:Nat → AObj):WL → Nat → AObj
 | [] => o
 |(i,x,_) :: W => appO (upd o i x) W
theorem app_appO:∀ (W:WL) (H:AH),(H.app W).o = appO H.o W
 | [],_ => rfl
 |(i,x,r) :: W,H => app_appO W (H.put i x r)
theorem getO_ok {h:Tr AObj} {i:Nat} {K:AObj → Prop} (hg:getO h i K):K (hv h i) :=by
 unfold getO at hg
 unfold hv
 cases e:h.get i with
 |none => rw [e] at hg;exact hg.elim
 |some x => rw [e] at hg;exact hg
theorem fcLH' {y:Bool} {xs:List AV} {K:List AV → Prop} (h:fcL y fcH0 xs K):K xs :=fcL_ok (fun _ _ h => fcH0_ok h) xs K h
theorem setcsK_ok {x:AObj} {y:Bool} {i off:Nat} {vs:List AV} {h:Tr AObj} {n:Nat} {K:Tr AObj → Nat → AObj → Prop} (hk:setcsK x y i off vs h n K) (he:HEnd h n) :
  ∃ t m ty t' h' n',x = .cells t m ty ∧ off + vs.length ≤ m ∧ TSet t off vs t' ∧ K h' n' (.cells t' m ty) ∧ hv h' = upd (hv h) i (.cells t' m ty) ∧ HEnd h' n' ∧ n ≤ n' :=by
 cases x with
 |cells t m ty =>
  simp only [setcsK] at hk
  cases hb:Nat.ble (off + vs.length) m with
  |false => rw [hb] at hk;exact hk.elim
  |true =>
   rw [hb] at hk
   have hb :=Nat.le_of_ble_eq_true hb
   have h3 :=fcN_ok (fcLH (K :=fun vs => fcN y off fun off => setL vs off t fun t => putO h n i (.cells t m ty) fun h n => K h n (.cells t m ty)) hk)
   obtain ⟨t',h4,h5⟩ :=setL_ok _ _ _ _ h3
   obtain ⟨h',n',h6,h7,h8,h9⟩ :=putO_ok h4 he
   exact ⟨t,m,ty,t',h',n',rfl,hb,h5,h6,h7,h8,h9⟩
 | _ => exact hk.elim
theorem runP_ok {y:Bool} {s:Nat}:∀ (p:Plan) (h:Tr AObj) (n:Nat) (K:KP),runP p y s h n K → HEnd h n →
  ∃ r R W h' n',EvF s p (hv h) r R W ∧ K r R W h' n' ∧ hv h' = appO (hv h) W ∧ HEnd h' n' ∧ n ≤ n'
 | .ret v,h,n,K,hk,he => ⟨_,_,_,_,_,⟨rfl,rfl,rfl⟩,hk,rfl,he,Nat.le_refl _⟩
 | .skip,h,n,K,hk,he => ⟨_,_,_,_,_,⟨rfl,rfl,rfl⟩,hk,rfl,he,Nat.le_refl _⟩
 | .fail,_,_,_,hk,_ => False.elim hk
 | .chk b k,h,n,K,hk,he => by
  cases b with
  |false => exact False.elim hk
  |true =>
   obtain ⟨r,R,W,h',n',h1,h2⟩ :=runP_ok k h n K hk he
   exact ⟨r,R,W,h',n',⟨rfl,h1⟩,h2⟩
 | .fL xs k,h,n,K,hk,he => runP_ok (k xs) h n K (fcLH' (K :=fun xs => runP (k xs) y s h n K) hk) he
 | .get i k,h,n,K,hk,he => by
  have h1 :=fcF_ok (K :=fun i => getO h i fun x => runP (k x) y s h n fun r R W h n => K r (i :: R) W h n) hk
  have h2 :=getO_ok h1
  obtain ⟨r,R,W,h',n',q1,q2⟩ :=runP_ok (k (hv h i)) h n _ h2 he
  exact ⟨r,i :: R,W,h',n',⟨R,rfl,q1⟩,q2⟩
 | .setcs i off vs k,h,n,K,hk,he => by
  have h1 :=getO_ok (fcF_ok (K :=fun i => getO h i fun x => setcsK x y i off vs h n fun h n x' => runP k y s h n fun r R W h n => K r (i :: R) ((i,x',bdl vs) :: W) h n) hk)
  obtain ⟨t,m,ty,t',h',n',ho,hb,h5,h6,h7,h8,h9⟩ :=setcsK_ok h1 he
  obtain ⟨r,R,W,h'',n'',q1,q2,q3,q4,q5⟩ :=runP_ok k h' n' _ h6 h8
  rw [h7] at q1 q3
  exact ⟨r,i :: R,_,h'',n'',⟨R,W,t,m,ty,t',rfl,ho,hb,h5,rfl,q1⟩,q2,q3,q4,by omega⟩
 | .seto i x rb k,h,n,K,hk,he => by
  have h2 :=fcO_ok (fcF_ok (K :=fun i => fcO y x fun x => putO h n i x fun h n => runP k y s h n fun r R W h n => K r (i :: R) ((i,x,rb) :: W) h n) hk)
  obtain ⟨h',n',h6,h7,h8,h9⟩ :=putO_ok h2 he
  obtain ⟨r,R,W,h'',n'',q1,q2,q3,q4,q5⟩ :=runP_ok k h' n' _ h6 h8
  rw [h7] at q1 q3
  exact ⟨r,i :: R,_,h'',n'',⟨R,W,rfl,rfl,q1⟩,q2,q3,q4,by omega⟩
 | .newl cs ty k,h,n,K,hk,he => by
  have h2 :=fcLH (K :=fun cs => putL cs 0 .nil fun t => fcN false cs.length fun m => putO h n s (.cells t m ty) fun h n => runP (k s) y s h n fun r R W h n => K r R ((s,.cells t m ty,bdl cs) :: W) h n) hk
  obtain ⟨t,h3,h4⟩ :=putL_ok _ _ _ _ h2
  have h5 :=fcF_ok h3
  obtain ⟨h',n',h6,h7,h8,h9⟩ :=putO_ok h5 he
  obtain ⟨r,R,W,h'',n'',q1,q2,q3,q4,q5⟩ :=runP_ok (k s) h' n' _ h6 h8
  rw [h7] at q1 q3
  refine ⟨r,R,_,h'',n'',⟨W,t,fun j => ?_,rfl,q1⟩,q2,q3,q4,by omega⟩
  rw [h4]
  by_cases hj:j < cs.length
  ·simp [hj]
  ·simp [hj]
 | .newc m x ty k,h,n,K,hk,he => by
  have h2 :=fcH0_ok (fcF_ok (K :=fun m => fcH0 x fun x => repY y x m fun t => putO h n s (.cells t m ty) fun h n => runP (k s) y s h n fun r R W h n => K r R ((s,.cells t m ty,bd x) :: W) h n) hk)
  obtain ⟨t,h3,h4⟩ :=repY_ok h2
  obtain ⟨h',n',h6,h7,h8,h9⟩ :=putO_ok h3 he
  obtain ⟨r,R,W,h'',n'',q1,q2,q3,q4,q5⟩ :=runP_ok (k s) h' n' _ h6 h8
  rw [h7] at q1 q3
  exact ⟨r,R,_,h'',n'',⟨W,t,h4,rfl,q1⟩,q2,q3,q4,by omega⟩
 | .newo x q k,h,n,K,hk,he => by
  obtain ⟨h',n',h6,h7,h8,h9⟩ :=putO_ok (fcO_ok (K :=fun x => putO h n s x fun h n => runP (k s) y s h n fun r R W h n => K r R ((s,x,q) :: W) h n) hk) he
  obtain ⟨r,R,W,h'',n'',q1,q2,q3,q4,q5⟩ :=runP_ok (k s) h' n' _ h6 h8
  rw [h7] at q1 q3
  exact ⟨r,R,_,h'',n'',⟨W,rfl,q1⟩,q2,q3,q4,by omega⟩
 | .call f args,h,n,K,hk,he => ⟨_,_,_,_,_,⟨rfl,rfl,rfl⟩,fcLH (K :=fun args => K (.call f args) [] [] h n) (fcF_ok (K :=fun f => fcL0 fcH0 args fun args => K (.call f args) [] [] h n) hk),rfl,he,Nat.le_refl _⟩
 | .yld l args,h,n,K,hk,he => ⟨_,_,_,_,_,⟨rfl,rfl,rfl⟩,fcLH (K :=fun args => K (.yld l args) [] [] h n) (fcF_ok (K :=fun f => fcL0 fcH0 args fun args => K (.yld f args) [] [] h n) hk),rfl,he,Nat.le_refl _⟩
 | .defr f args,h,n,K,hk,he => ⟨_,_,_,_,_,⟨rfl,rfl,rfl⟩,fcLH (K :=fun args => K (.defr f args) [] [] h n) (fcF_ok (K :=fun f => fcL0 fcH0 args fun args => K (.defr f args) [] [] h n) hk),rfl,he,Nat.le_refl _⟩
 | .recover,h,n,K,hk,he => ⟨_,_,_,_,_,⟨rfl,rfl,rfl⟩,hk,rfl,he,Nat.le_refl _⟩
 | .panic v,h,n,K,hk,he => ⟨_,_,_,_,_,⟨rfl,rfl,rfl⟩,fcV_ok (K :=fun v => K (.panic v) [] [] h n) hk,rfl,he,Nat.le_refl _⟩
end
end Go.Abs
/-! Equal values; a table of pure calls. -/
namespace Go.Abs
open Go
noncomputable section
def eqK:IntKind → IntKind → Bool :=fun a b => decide (a = b)
def eqI (a b:Int):Bool :=
 match a with
 | .ofNat n => match b with
  | .ofNat m => Nat.beq n m
  | .negSucc _ => false
 | .negSucc n => match b with
  | .ofNat _ => false
  | .negSucc m => Nat.beq n m
theorem eqI_ok {a b:Int} (h:eqI a b = true):a = b :=by
 cases a <;> cases b <;> simp only [eqI] at h
 ·rw [Nat.eq_of_beq_eq_true h]
 ·cases h
 ·cases h
 ·rw [Nat.eq_of_beq_eq_true h]
def eqB (a b:Bool):Bool :=
 match a with
 |true => b
 |false => match b with
  |true => false
  |false => true
theorem eqB_ok {a b:Bool} (h:eqB a b = true):a = b :=by cases a <;> cases b <;> simp_all [eqB]
def eqS:List UInt8 → List UInt8 → Bool
 | [],ys => match ys with
  | [] => true
  | _ :: _ => false
 |x :: xs,ys => match ys with
  | [] => false
  |y :: ys => match Nat.beq x.toNat y.toNat with
   |true => eqS xs ys
   |false => false
theorem eqS_ok:∀ (a b:List UInt8),eqS a b = true → a = b
 | [],[],_ => rfl
 | [],_ :: _,h => by simp [eqS] at h
 | _ :: _,[],h => by simp [eqS] at h
 |x :: xs,y :: ys,h => by
  simp only [eqS] at h
  split at h
  ·rename_i e
   rw [eqS_ok xs ys h,UInt8.toNat_inj.1 (Nat.eq_of_beq_eq_true e)]
  ·cases h
mutual
def eqA:AV → AV → Bool
 | .int k n,v => match v with
  | .int k' n' => match eqK k k' with
   |true => eqI n n'
   |false => false
  | _ => false
 | .bool b,v => match v with
  | .bool b' => eqB b b'
  | _ => false
 | .str s,v => match v with
  | .str s' => eqS s s'
  | _ => false
 | .nilp,v => match v with
  | .nilp => true
  | _ => false
 | .nils,v => match v with
  | .nils => true
  | _ => false
 | .nili,v => match v with
  | .nili => true
  | _ => false
 | .lst xs n own,v => match v with
  | .lst ys m own' => match own with
   | .no => match own' with
    | .no => match Nat.beq n m with
     |true => eqAs xs ys
     |false => false
    | _ => false
   | .full => match own' with
    | .full => match Nat.beq n m with
     |true => eqAs xs ys
     |false => false
    | _ => false
   | .ch _ => false
  | _ => false
 | .agg xs,v => match v with
  | .agg ys => eqAs xs ys
  | _ => false
 | .tup xs,v => match v with
  | .tup ys => eqAs xs ys
  | _ => false
 | _,_ => false
def eqAs:List AV → List AV → Bool
 | [],ys => match ys with
  | [] => true
  | _ :: _ => false
 |x :: xs,ys => match ys with
  | [] => false
  |y :: ys => match eqA x y with
   |true => eqAs xs ys
   |false => false
end
mutual
theorem eqA_ok:∀ (a b:AV),eqA a b = true → a = b
 | .int k n,b,h => by
  simp only [eqA] at h
  split at h <;> try cases h
  split at h <;> try cases h
  rename_i e
  rw [of_decide_eq_true e,eqI_ok h]
 | .bool x,b,h => by
  simp only [eqA] at h
  split at h <;> try cases h
  rw [eqB_ok h]
 | .str s,b,h => by
  simp only [eqA] at h
  split at h <;> try cases h
  rw [eqS_ok _ _ h]
 | .nilp,b,h => by
  simp only [eqA] at h
  split at h <;> first | rfl | cases h
 | .nils,b,h => by
  simp only [eqA] at h
  split at h <;> first | rfl | cases h
 | .nili,b,h => by
  simp only [eqA] at h
  split at h <;> first | rfl | cases h
 | .lst xs n own,b,h => by
  simp only [eqA] at h
  split at h <;> try cases h
  split at h <;> try cases h
  ·split at h <;> try cases h
   split at h <;> try cases h
   rename_i e
   rw [Nat.eq_of_beq_eq_true e,eqAs_ok _ _ h]
  ·split at h <;> try cases h
   split at h <;> try cases h
   rename_i e
   rw [Nat.eq_of_beq_eq_true e,eqAs_ok _ _ h]
 | .agg xs,b,h => by
  simp only [eqA] at h
  split at h <;> try cases h
  rw [eqAs_ok _ _ h]
 | .tup xs,b,h => by
  simp only [eqA] at h
  split at h <;> try cases h
  rw [eqAs_ok _ _ h]
 | .unk,_,h => by simp [eqA] at h
 | .ptr _ _,_,h => by simp [eqA] at h
 | .lptr _ _,_,h => by simp [eqA] at h
 | .gp _ _,_,h => by simp [eqA] at h
 | .slc _ _ _ _,_,h => by simp [eqA] at h
 | .nilm,_,h => by simp [eqA] at h
 | .map _,_,h => by simp [eqA] at h
 | .nilf,_,h => by simp [eqA] at h
 | .func _ _ _,_,h => by simp [eqA] at h
 | .yld _,_,h => by simp [eqA] at h
 | .iface _ _,_,h => by simp [eqA] at h
theorem eqAs_ok:∀ (a b:List AV),eqAs a b = true → a = b
 | [],b,h => by
  simp only [eqAs] at h
  split at h <;> first | rfl | cases h
 |x :: xs,b,h => by
  simp only [eqAs] at h
  split at h <;> try cases h
  split at h <;> try cases h
  rename_i e
  rw [eqA_ok _ _ e,eqAs_ok _ _ h]
end
abbrev Memo :=List (FuncId × List AV × AV)
def lookM:Memo → FuncId → List AV → Option AV
 | [],_,_ => none
 |e :: r,f,args => match Nat.beq e.1 f with
  |true => match eqAs e.2.1 args with
   |true => some e.2.2
   |false => lookM r f args
  |false => lookM r f args
def MOK (P:Program) (M:Memo):Prop :=∀ e,e ∈ M → Pure P e.1 e.2.1 e.2.2
theorem lookM_ok {P:Program} {f:FuncId} {args:List AV} {v:AV}:∀ (M:Memo),MOK P M → lookM M f args = some v → Pure P f args v
 | [],_,h => by simp [lookM] at h
 |e :: r,hm,h => by
  simp only [lookM] at h
  have hr:MOK P r :=fun x hx => hm x (List.mem_cons_of_mem _ hx)
  split at h
  ·rename_i e1
   split at h
   ·rename_i e2
    cases h
    have :=hm e (by simp)
    rw [Nat.eq_of_beq_eq_true e1,eqAs_ok _ _ e2] at this
    exact this
   ·exact lookM_ok r hr h
  ·exact lookM_ok r hr h
end
end Go.Abs

/-! The evaluator: operations, regions, code, functions. -/
namespace Go.Abs
open Go
noncomputable section
structure Env where
 P:Program
 T:Tr TypeInfo
 F:Tr Func
 X:XT
 y:Bool
 pu:FuncId → Bool
 M:Memo
 pc:FuncId → List AV → Tr AObj → (AV → Prop) → (List Nat → AV → Prop) → Prop → Prop
structure Env.Ok (E:Env):Prop where
 T:TOK E.P E.T
 F:FOK E.P E.F
 X:XOK E.P E.X
 mx:E.P.follows .mixedOrders = true
 M:MOK E.P E.M
 pc:∀ f args h Kp Kh R,E.pc f args h Kp Kh R → (∃ v,Kp v ∧ Pure E.P f args v) ∨ (∃ W v,Kh W v ∧ PureR E.P f args W (hv h) v) ∨ R
structure AS where
 tm:Tr AV
 df:List ADf
 pm:APm
 rd:Bool
 h:Tr AObj
 n:Nat
 b:Nat
 wr:List Nat
abbrev KE :=AEx → AS → Prop
structure Sub where
 code:Code → AS → KE → Prop
 fn:FuncId → CallKind → List AV → APm → Tr AObj → Nat → (AEnd → APm → Tr AObj → Nat → List Nat → Prop) → Prop
 call:FuncId → List AV → Tr AObj → Nat → (AEnd → Tr AObj → Nat → List Nat → Prop) → Prop
 loop:Code → (AS → KE → Prop) → AS → KE → Prop
 drawn:Array Oper → Nat → List Rec → Prop → Prop
def logW (b:Nat) (is:List Nat):List Nat → (List Nat → Prop) → Prop :=
 @List.rec Nat (fun _ => List Nat → (List Nat → Prop) → Prop) (fun wr K => K wr)
  (fun i _ ih wr K => @Bool.rec (fun _ => Prop) (ih wr K) (@Bool.rec (fun _ => Prop) (ih (i :: wr) K) (ih wr K) (wr.contains i)) (Nat.blt i b)) is
theorem logW_ok {b:Nat}:∀ (is wr:List Nat) (K:List Nat → Prop),logW b is wr K → ∃ wr',K wr' ∧ (∀ x,x ∈ wr → x ∈ wr') ∧ ∀ x,x ∈ is → x < b → x ∈ wr'
 | [],wr,K,h => ⟨wr,h,fun _ h => h,fun _ h => by cases h⟩
 |i :: is,wr,K,h => by
  have h:@Bool.rec (fun _ => Prop) (logW b is wr K) (@Bool.rec (fun _ => Prop) (logW b is (i :: wr) K) (logW b is wr K) (wr.contains i)) (Nat.blt i b) :=h
  cases hb:Nat.blt i b with
  |false =>
   rw [hb] at h
   obtain ⟨wr',h1,h2,h3⟩ :=logW_ok is wr K h
   refine ⟨wr',h1,h2,fun x hx hlt => ?_⟩
   rcases List.mem_cons.1 hx with e | hx
   ·subst e
    have:Nat.blt x b = true :=by rw [Nat.blt_eq];exact hlt
    rw [this] at hb;cases hb
   ·exact h3 x hx hlt
  |true =>
   rw [hb] at h
   cases hc:wr.contains i with
   |true =>
    rw [hc] at h
    obtain ⟨wr',h1,h2,h3⟩ :=logW_ok is wr K h
    refine ⟨wr',h1,h2,fun x hx hlt => ?_⟩
    rcases List.mem_cons.1 hx with e | hx
    ·subst e;exact h2 _ (by simpa using hc)
    ·exact h3 x hx hlt
   |false =>
    rw [hc] at h
    obtain ⟨wr',h1,h2,h3⟩ :=logW_ok is (i :: wr) K h
    refine ⟨wr',h1,fun x hx => h2 x (List.mem_cons_of_mem _ hx),fun x hx hlt => ?_⟩
    rcases List.mem_cons.1 hx with e | hx
    ·subst e;exact h2 _ (by simp)
    ·exact h3 x hx hlt
structure Kept (b:Nat) (h:Tr AObj) (wr:List Nat) (h':Tr AObj) (wr':List Nat):Prop where
 sub:∀ x,x ∈ wr → x ∈ wr'
 same:∀ x,x < b → x ∉ wr' → hv h' x = hv h x
theorem Kept.refl (b:Nat) (h:Tr AObj) (wr:List Nat):Kept b h wr h wr :=⟨fun _ h => h,fun _ _ _ => rfl⟩
theorem Kept.trans {b:Nat} {h1 h2 h3:Tr AObj} {w1 w2 w3:List Nat} (a:Kept b h1 w1 h2 w2) (c:Kept b h2 w2 h3 w3):Kept b h1 w1 h3 w3 :=
 ⟨fun x hx => c.sub x (a.sub x hx),fun x hx hn => (c.same x hx hn).trans (a.same x hx fun h => hn (c.sub x h))⟩
theorem Kept.put {b:Nat} {h h':Tr AObj} {wr wr':List Nat} {i:Nat} {x:AObj} (hh:hv h' = upd (hv h) i x) (hs:∀ x,x ∈ wr → x ∈ wr') (hi:i < b → i ∈ wr'):Kept b h wr h' wr' :=
 ⟨hs,fun k hk hn => by rw [hh,upd_ne];intro e;subst e;exact hn (hi hk)⟩
theorem appO_same:∀ (W:WL) (o:Nat → AObj) (k:Nat),k ∉ idxs W → appO o W k = o k
 | [],_,_,_ => rfl
 |(i,x,r) :: W,o,k,h => by
  simp only [idxs,List.map_cons,List.mem_cons,not_or] at h
  rw [appO,appO_same W _ k h.2,upd_ne _ _ h.1]
theorem Kept.app {b:Nat} {h h':Tr AObj} {wr wr':List Nat} {W:WL} (hh:hv h' = appO (hv h) W) (hs:∀ x,x ∈ wr → x ∈ wr') (hi:∀ x,x ∈ idxs W → x < b → x ∈ wr'):Kept b h wr h' wr' :=
 ⟨hs,fun k hk hn => by rw [hh,appO_same];exact fun h => hn (hi k h hk)⟩
structure Aft (s s':AS):Prop where
 he:HEnd s'.h s'.n
 b:s'.b = s.b
 kept:Kept s.b s.h s.wr s'.h s'.wr
theorem Aft.trans {s1 s2 s3:AS} (a:Aft s1 s2) (c:Aft s2 s3):Aft s1 s3 :=⟨c.he,c.b.trans a.b,a.kept.trans (by have :=c.kept;rwa [a.b] at this)⟩
def setDA (tm:Tr AV) (d:Option Tmp) (v:AV) (K:Tr AV → Prop):Prop :=@Option.rec Tmp (fun _ => Prop) (K tm) (fun d => setA (pathOf d) tm v K) d
theorem setDA_ok {tm:Tr AV} {d:Option Tmp} {v:AV} {K:Tr AV → Prop} (h:setDA tm d v K):∃ tm',K tm' ∧ SetD tm d v tm' :=by
 cases d with
 |none => exact ⟨tm,h,rfl⟩
 |some d =>
  obtain ⟨t',h1,h2,h3⟩ :=Tr.setK_spec tm d K h
  exact ⟨t',h1,h2,h3⟩
def setAllA:List (Nat × AV) → Tr AV → (Tr AV → Prop) → Prop
 | [],tm,K => K tm
 |(p,a) :: r,tm,K => tm.setK p a fun tm => setAllA r tm K
theorem setAllA_ok:∀ (l:List (Nat × AV)) (tm:Tr AV) (K:Tr AV → Prop),setAllA l tm K → ∃ tm',K tm' ∧ SetAll tm l tm'
 | [],tm,K,h => ⟨tm,h,rfl⟩
 |(p,a) :: r,tm,K,h => by
  obtain ⟨t1,h1,h2,h3⟩ :=Tr.setK_spec tm p _ h
  obtain ⟨t',h4,h5⟩ :=setAllA_ok r t1 K h1
  exact ⟨t',h4,t1,⟨h2,h3⟩,h5⟩
def fcOp0 (o:Op):AV → (AV → Prop) → Prop :=
 @Op.rec (fun _ => AV → (AV → Prop) → Prop) (fun _ => fcH0) (fun _ => fcH0) (fun _ _ _ => fcV0) (fun _ => fcV0) (fun _ _ => fcV0) (fun _ _ => fcV0) (fun _ _ _ => fcV0) (fun _ _ _ _ => fcV0)
  (fun _ _ => fcM0) (fun _ _ _ => fcV0) (fun _ => fcV0) (fun _ => fcV0) (fun _ => fcV0) (fun _ _ _ _ _ => fcV0) (fun _ _ _ => fcV0) (fun _ _ _ => fcV0) (fun _ _ => fcV0) (fun _ _ => fcV0) (fun _ _ _ => fcV0)
  (fun _ _ => fcV0) (fun _ _ => fcV0) (fun _ _ _ => fcV0) (fun _ _ _ _ _ => fcV0) (fun _ _ _ => fcV0) (fun _ _ _ => fcV0) (fun _ _ _ => fcV0) (fun _ _ _ => fcV0) (fun _ _ _ _ => fcV0) (fun _ _ _ _ => fcV0) (fun _ _ _ => fcV0) (fun _ _ _ _ => fcV0)
  (fun _ _ => fcV0) (fun _ _ => fcV0) (fun _ => fcV0) (fun _ _ _ _ => fcV0) (fun _ _ => fcH0) (fun _ => fcV0) (fun _ => fcV0) (fun _ => fcV0) (fun _ => fcV0) (fun _ _ => fcV0) (fun _ _ _ => fcV0) (fun _ _ => fcV0) o
theorem fcOp0_ok {o:Op} {v:AV} {K:AV → Prop} (h:fcOp0 o v K):K v :=by
 cases o <;> first
  |exact fcV0_ok h
  |exact fcH0_ok h
  |exact fcM0_ok h
def fcOp (y:Bool) (o:Op) (v:AV) (K:AV → Prop):Prop :=@Bool.rec (fun _ => Prop) (fcOp0 o v K) (fcM0 v K) y
theorem fcOp_ok {y:Bool} {o:Op} {v:AV} {K:AV → Prop} (h:fcOp y o v K):K v :=by
 cases y with
 |true => exact fcM0_ok h
 |false => exact fcOp0_ok h
def loopTo (h:Tr AObj) (n l:Nat) (from_ to:LoopState) (K:Tr AObj → Nat → Prop):Prop :=
 getO h l fun x => match x with
  | .loop st fn tm nt params assign body dfr => match decide (st = from_) with
   |true => putO h n l (.loop to fn tm nt params assign body dfr) K
   |false => False
  | _ => False
theorem loopTo_ok {h:Tr AObj} {n l:Nat} {a b:LoopState} {K:Tr AObj → Nat → Prop} (hk:loopTo h n l a b K) (he:HEnd h n) :
  ∃ fn tm nt params assign body dfr h' n',hv h l = .loop a fn tm nt params assign body dfr ∧ K h' n' ∧ hv h' = upd (hv h) l (.loop b fn tm nt params assign body dfr) ∧ HEnd h' n' :=by
 have h1 :=getO_ok hk
 split at h1
 case h_2 => exact h1.elim
 rename_i st fn tm nt params assign body dfr ho
 split at h1
 case h_2 => exact h1.elim
 rename_i hd
 have hd:st = a :=of_decide_eq_true hd
 subst hd
 obtain ⟨h',n',h2,h3,h4,_⟩ :=putO_ok h1 he
 exact ⟨fn,tm,nt,params,assign,body,dfr,h',n',ho,h2,h3,h4⟩
def exRound (S:Sub) (s:AS) (d:Option Tmp) (l:Nat) (args:List AV) (K:KE):Prop :=
 match s with
 | ⟨tm0,df,pm,rd,h,n,b,wr⟩ => getO h l fun x => match x with
  | .loop st _ tm _ params assign body _ => match decide (st = .ready) with
   |true => logW b [l] wr fun wr => setAllA (params.zip args) tm fun tm => S.code assign ⟨tm,[],.no,true,h,n,b,wr⟩ fun e s1 => match e with
    | .normal => match s1 with
     | ⟨tm1,df1,pm1,rd1,h1,n1,b1,wr1⟩ => loopTo h1 n1 l .ready .busy fun h n => S.code body ⟨tm1,df1,pm1,rd1,h,n,b1,wr1⟩ fun e s2 => match e with
      | .normal => match s2 with
       | ⟨_,_,_,_,h2,n2,b2,wr2⟩ => loopTo h2 n2 l .busy .ready fun h n => setDA tm0 d (.bool true) fun tm => K .normal ⟨tm,df,pm,rd,h,n,b2,wr2⟩
      | _ => False
    | _ => False
   |false => False
  | _ => False
def exRoundR (S:Sub) (s:AS) (d:Option Tmp) (l:Nat) (args:List AV) (K:KE):Prop :=
 match s with
 | ⟨tm0,df,pm,rd,h,n,b,wr⟩ => getO h l fun x => match x with
  | .loop st _ tm _ params assign body _ => match decide (st = .ready) with
   |true => logW b [l] wr fun wr => setAllA (params.zip args) tm fun tm => S.code assign ⟨tm,[],.no,true,h,n,b,wr⟩ fun e s1 => match e with
    | .normal => match s1 with
     | ⟨tm1,df1,pm1,rd1,h1,n1,b1,wr1⟩ => loopTo h1 n1 l .ready .busy fun h n => S.code body ⟨tm1,df1,pm1,rd1,h,n,b1,wr1⟩ fun e s2 => match e with
      | .normal => match s2 with
       | ⟨_,_,_,_,h2,n2,b2,wr2⟩ => loopTo h2 n2 l .busy .ready fun h n => setDA tm0 d (.bool true) fun tm => K .normal ⟨tm,df,pm,rd,h,n,b2,wr2⟩
      | .ret => match s2 with
       | ⟨_,_,_,_,h2,n2,b2,wr2⟩ => loopTo h2 n2 l .busy .done fun h n => setDA tm0 d (.bool false) fun tm => K .normal ⟨tm,df,pm,rd,h,n,b2,wr2⟩
      | _ => False
    | _ => False
   |false => False
  | _ => False
def callK (E:Env) (S:Sub) (f:FuncId) (args:List AV) (h:Tr AObj) (n:Nat) (Kp:AV → Prop) (Kh:List Nat → AV → Prop) (Kc:AEnd → Tr AObj → Nat → List Nat → Prop):Prop :=E.pc f args h Kp Kh <|
 match lookM E.M f (wkl args) with
 |some v => Kp v
 |none => match E.pu f with
  |true => match norefs (wkl args) with
   |true => fcL E.y fcH0 (wkl args) fun args => S.call f args .nil 0 fun e _ _ _ => match e with
    | .ret v => fcV E.y (wk v) fun v => match noref v with
     |true => Kp v
     |false => False
    | .panic _ => False
   |false => False
  |false => S.call f args h n Kc
abbrev KR :=Env → Sub → Oper → Tr AV → List ADf → APm → Bool → Tr AObj → Nat → Nat → List Nat → WL → Tr AObj → Nat → KE → Prop
def resVal (v:AV):KR :=fun E _ o tm df pm rd _ _ b wr W h n K => logW b (idxs W) wr fun wr => fcOp E.y o.op v fun v => setDA tm o.dst v fun tm => K .normal ⟨tm,df,pm,rd,h,n,b,wr⟩
def resSkip:KR :=fun _ _ o tm df pm rd _ _ b wr W h n K => logW b (idxs W) wr fun wr => setDA tm o.dst (.tup []) fun tm => K .normal ⟨tm,df,pm,rd,h,n,b,wr⟩
def resCall (f:FuncId) (args:List AV):KR :=fun E S o tm df pm rd h0 n0 b wr _ _ _ K => match Nat.ble b n0 with
 |false => False
 |true => callK E S f args h0 n0 (fun v => setDA tm o.dst v fun tm => K .normal ⟨tm,df,pm,rd,h0,n0,b,wr⟩) (fun _ v => setDA tm o.dst v fun tm => K .normal ⟨tm,df,pm,rd,h0,n0,b,wr⟩) fun e h n cw => logW b cw wr fun wr => match e with
  | .ret v => setDA tm o.dst v fun tm => K .normal ⟨tm,df,pm,rd,h,n,b,wr⟩
  | .panic l => K (.panic l) ⟨tm,df,pm,rd,h,n,b,wr⟩
def resYld (l:Nat) (args:List AV):KR :=fun _ S o tm df pm rd h0 n0 b wr _ _ _ K => exRoundR S ⟨tm,df,pm,rd,h0,n0,b,wr⟩ o.dst l args K
def resDefr (f:FuncId) (args:List AV):KR :=fun _ _ o tm df pm rd h0 n0 b wr _ _ _ K => match rd with
 |false => setDA tm o.dst (.tup []) fun tm => K .normal ⟨tm,.call f args :: df,pm,false,h0,n0,b,wr⟩
 |true => False
def resRecover:KR :=fun _ _ o tm df pm rd h0 n0 b wr _ _ _ K => match rd with
 |true => False
 |false => match pm with
  | .no => False
  | .ret => setDA tm o.dst .nili fun tm => K .normal ⟨tm,df,.ret,false,h0,n0,b,wr⟩
  | .pan l => match l with
   | [] => False
   |(v,bb) :: l => match bb with
    |true => False
    |false => setDA tm o.dst v fun tm => K .normal ⟨tm,df,.pan ((v,true) :: l),false,h0,n0,b,wr⟩
def resPanic (v:AV):KR :=fun _ _ _ tm df pm rd h0 n0 b wr _ _ _ K => K (.panic [(v,false)]) ⟨tm,df,pm,rd,h0,n0,b,wr⟩
def exRes (r:PRes):KR :=@PRes.rec (fun _ => KR) (fun v => resVal v) resSkip (fun f args => resCall f args) (fun l args => resYld l args) (fun f args => resDefr f args) resRecover (fun v => resPanic v) r
abbrev KO :=Env → Sub → Oper → KE → Tr AV → List ADf → APm → Bool → Tr AObj → Nat → Nat → List Nat → Prop
def opSkip:KO :=fun _ _ o K tm df pm rd h n b wr => setDA tm o.dst (.tup []) fun tm => K .normal ⟨tm,df,pm,rd,h,n,b,wr⟩
def opRun:KO :=fun E S o K tm df pm rd h n b wr => runP (pOp E.P E.T E.F E.X (aev tm) o) E.y n h n fun r _ W h' n' => exRes r E S o tm df pm rd h n b wr W h' n' K
def opNo:KO :=fun _ _ _ _ _ _ _ _ _ _ _ _ => False
def opG (g:Option Bool):KO :=@Option.rec Bool (fun _ => KO) opNo (fun g => @Bool.rec (fun _ => KO) opSkip opRun g) g
def exOp (E:Env) (S:Sub) (ops:Array Oper) (o:Oper) (s:AS) (K:KE):Prop :=
 @AS.rec (fun _ => Prop) (fun tm df pm rd h n b wr => opG (guardA ops tm o) E S o K tm df pm rd h n b wr) s
def AS.st (s:AS) (H:AH):St :={ tm :=s.tm,df :=s.df,pm :=s.pm,rd :=s.rd,H :=H }
def SemR (P:Program) (its:List Item) (s:AS) (e:AEx) (s':AS):Prop :=
 ∀ (B:Nat) (H:AH),H.o = hv s.h → ∃ H':AH,H'.o = hv s'.h ∧ SemT P B its (s.st H) e (s'.st H')
def OpR (P:Program) (ops:Array Oper) (i:Nat) (s:AS) (e:AEx) (s':AS):Prop :=
 ∀ (B:Nat) (H:AH),H.o = hv s.h → ∃ H':AH,H'.o = hv s'.h ∧ OpS P B ops i (s.st H) e (s'.st H')
def drawnOk (ops:Array Oper) (n:Nat) (rs:List Rec):Bool :=
 match unord ops with
 |none => false
 |some U => indAll n rs U
structure Sub.Ok (P:Program) (S:Sub):Prop where
 code:∀ c s K,S.code c s K → HEnd s.h s.n → ∃ e s',K e s' ∧ Aft s s' ∧ SemR P [.code c] s e s'
 fn:∀ f κ args pm h n K,S.fn f κ args pm h n K → HEnd h n → ∃ e pm' h' n' cw,K e pm' h' n' cw ∧ HEnd h' n' ∧ (∀ x,x < n → x ∉ cw → hv h' x = hv h x) ∧ ∀ (B:Nat) (H:AH),H.o = hv h → ∃ H':AH,H'.o = hv h' ∧ FSem P B f κ args pm H e pm' H'
 call:∀ f args h n K,S.call f args h n K → HEnd h n → ∃ e h' n' cw,K e h' n' cw ∧ HEnd h' n' ∧ (∀ x,x < n → x ∉ cw → hv h' x = hv h x) ∧ ∀ (B:Nat) (H:AH),H.o = hv h → ∃ H':AH,H'.o = hv h' ∧ CSem P B f args H e H'
 loop:∀ c f,(∀ s K,f s K → HEnd s.h s.n → ∃ e s',K e s' ∧ Aft s s' ∧ SemR P [.code c] s e s') → ∀ s K,S.loop c f s K → HEnd s.h s.n →
  ∃ e s',K e s' ∧ Aft s s' ∧ ∀ (B:Nat) (H:AH),H.o = hv s.h → ∃ H':AH,H'.o = hv s'.h ∧ SemL P B c (s.st H) e (s'.st H')
 drawn:∀ ops n rs Q,S.drawn ops n rs Q → drawnOk ops n rs = true ∧ Q
section
variable {E:Env} {S:Sub}
theorem hv_nil:hv .nil = fun _ => .hole :=by funext i;simp [hv]
theorem HEnd_nil:HEnd .nil 0 :=fun i _ => Tr.get_nil i
theorem callK_ok (hE:E.Ok) (hS:S.Ok E.P) {f:FuncId} {args:List AV} {h:Tr AObj} {n:Nat} {Kp:AV → Prop} {Kh:List Nat → AV → Prop} {Kc:AEnd → Tr AObj → Nat → List Nat → Prop} (hk:callK E S f args h n Kp Kh Kc) (he:HEnd h n) :
  (∃ v,Kp v ∧ Pure E.P f args v) ∨ (∃ W v,Kh W v ∧ PureR E.P f args W (hv h) v) ∨ (∃ e h' n' cw,Kc e h' n' cw ∧ HEnd h' n' ∧ (∀ x,x < n → x ∉ cw → hv h' x = hv h x) ∧ ∀ (B:Nat) (H:AH),H.o = hv h → ∃ H':AH,H'.o = hv h' ∧ CSem E.P B f args H e H') :=by
 rcases hE.pc _ _ _ _ _ _ hk with hk | hk | hk
 ·exact .inl hk
 ·exact .inr (.inl hk)
 split at hk
 ·rename_i v hv
  exact .inl ⟨v,hk,(lookM_ok _ hE.M hv).ofWk⟩
 ·split at hk
  ·split at hk
   ·rename_i hn
    obtain ⟨e,h',n',cw,k1,k2,_,k3⟩ :=hS.call _ _ _ _ _ (fcLH' hk) HEnd_nil
    cases e with
    |panic l => exact k1.elim
    |ret v =>
     have k1 :=fcV_ok k1
     split at k1
     ·rename_i hv
      refine .inl ⟨_,k1,Pure.ofWk (pure_of (fun B => ?_) (norefs_ok _ hn) (Wk.wk v) (noref_ok _ hv))⟩
      obtain ⟨H',k4,k5⟩ :=k3 B AH.nil hv_nil.symm
      exact ⟨H',k5⟩
     ·exact k1.elim
   ·exact hk.elim
  ·exact .inr (.inr (hS.call _ _ _ _ _ hk he))
theorem exRound_ok (hE:E.Ok) (hS:S.Ok E.P) {ops:Array Oper} {i:Nat} {o:Oper} (ho:ops[i]? = some o) {s:AS} {l:Nat} {args:List AV} {K:KE} (hk:exRound S s o.dst l args K) (he:HEnd s.h s.n)
  (hg:guardA ops s.tm o = some true) {R:List Nat} {W:WL} (hev:EvF s.n (pOp E.P E.T E.F E.X (aev s.tm) o) (hv s.h) (.yld l args) R W) :
  ∃ s',K .normal s' ∧ (s'.df = s.df ∧ s'.pm = s.pm ∧ s'.rd = s.rd ∧ SetD s.tm o.dst (.bool true) s'.tm) ∧ Aft s s' ∧ OpR E.P ops i s .normal s' :=by
 obtain ⟨tmq,dfq,pmq,rdq,hq,nq,bq,wrq⟩ :=s
 simp only [exRound] at hk
 simp only at he hg hev
 have h1 :=getO_ok hk
 split at h1
 case h_2 => exact h1.elim
 rename_i st fn tm nt params assign body dfr hl
 split at h1
 case h_2 => exact h1.elim
 rename_i hd
 have hd:st = .ready :=of_decide_eq_true hd
 subst hd
 obtain ⟨wr,h1,w1,w2⟩ :=logW_ok _ _ _ h1
 have hlw:l < bq → l ∈ wr :=w2 l (by simp)
 obtain ⟨tm0,h2,h3⟩ :=setAllA_ok _ _ _ h1
 obtain ⟨e1,s1,h4,h5,h6⟩ :=hS.code _ _ _ h2 he
 cases e1 with
 |normal =>
  obtain ⟨tm1',df1',pm1',rd1',hq1,nq1,bq1,wrq1⟩ :=s1
  obtain ⟨fn1,tm1,nt1,ps1,as1,bd1,df1,h7,n7,q1,q2,q3,q4⟩ :=loopTo_ok h4 h5.he
  obtain ⟨e2,s2,h8,h9,h10⟩ :=hS.code _ _ _ q2 q4
  cases e2 with
  |normal =>
   obtain ⟨tm2',df2',pm2',rd2',hq2,nq2,bq2,wrq2⟩ :=s2
   obtain ⟨fn2,tm2,nt2,ps2,as2,bd2,df2,h11,n11,r1,r2,r3,r4⟩ :=loopTo_ok h8 h9.he
   obtain ⟨tm',r5,r6⟩ :=setDA_ok r2
   have b1:bq1 = bq :=h5.b
   have b2:bq2 = bq :=h9.b.trans b1
   subst b1
   subst b2
   have kp1:Kept bq2 hq wr hq1 wrq1 :=h5.kept
   have kp2:Kept bq2 hq1 wrq1 h7 wrq1 :=Kept.put q3 (fun _ h => h) fun hl => kp1.sub l (hlw hl)
   have kp3:Kept bq2 h7 wrq1 hq2 wrq2 :=h9.kept
   have kp4:Kept bq2 hq2 wrq2 h11 wrq2 :=Kept.put r3 (fun _ h => h) fun hl => kp3.sub l (kp1.sub l (hlw hl))
   have kp0:Kept bq2 hq wrq hq wr :=⟨w1,fun _ _ _ => rfl⟩
   refine ⟨_,r5,⟨rfl,rfl,rfl,r6⟩,⟨r4,rfl,kp0.trans (kp1.trans (kp2.trans (kp3.trans kp4)))⟩,fun B H hH => ?_⟩
   obtain ⟨H1,k1,k2⟩ :=h6 B H hH
   obtain ⟨H2,k3,k4⟩ :=h10 B (H1.put l (.loop .busy fn1 tm1 nt1 ps1 as1 bd1 df1) 0) (by rw [q3,← k1];rfl)
   refine ⟨H2.put l (.loop .ready fn2 tm2 nt2 ps2 as2 bd2 df2) 0,by rw [r3,← k3];rfl,?_⟩
   exact OpS.yld (σ :=AS.st ⟨tmq,dfq,pmq,rdq,hq,nq,bq2,wrq⟩ H) (σ1 :=AS.st ⟨tm1',df1',pm1',rd1',hq1,nq1,bq2,wrq1⟩ H1) (σ2 :=AS.st ⟨tm2',df2',pm2',rd2',hq2,nq2,bq2,wrq2⟩ H2) hE.T hE.F hE.X ho hg (s :=nq)
    (by show H.o nq = _;rw [hH];exact he.hole (Nat.le_refl _)) (by show EvF _ _ H.o _ _ _;rw [hH];exact hev)
    (by show H.o l = _;rw [hH];exact hl) h3 k2 (by show H1.o l = _;rw [k1];exact q1) k4 (by show H2.o l = _;rw [k3];exact r1) r6
  | _ => exact h8.elim
 | _ => exact h4.elim
theorem exRoundR_ok (hE:E.Ok) (hS:S.Ok E.P) {ops:Array Oper} {i:Nat} {o:Oper} (ho:ops[i]? = some o) {s:AS} {l:Nat} {args:List AV} {K:KE} (hk:exRoundR S s o.dst l args K) (he:HEnd s.h s.n)
  (hg:guardA ops s.tm o = some true) {R:List Nat} {W:WL} (hev:EvF s.n (pOp E.P E.T E.F E.X (aev s.tm) o) (hv s.h) (.yld l args) R W) :
  ∃ s',K .normal s' ∧ Aft s s' ∧ OpR E.P ops i s .normal s' :=by
 obtain ⟨tmq,dfq,pmq,rdq,hq,nq,bq,wrq⟩ :=s
 simp only [exRoundR] at hk
 simp only at he hg hev
 have h1 :=getO_ok hk
 split at h1
 case h_2 => exact h1.elim
 rename_i st fn tm nt params assign body dfr hl
 split at h1
 case h_2 => exact h1.elim
 rename_i hd
 have hd:st = .ready :=of_decide_eq_true hd
 subst hd
 obtain ⟨wr,h1,w1,w2⟩ :=logW_ok _ _ _ h1
 have hlw:l < bq → l ∈ wr :=w2 l (by simp)
 obtain ⟨tm0,h2,h3⟩ :=setAllA_ok _ _ _ h1
 obtain ⟨e1,s1,h4,h5,h6⟩ :=hS.code _ _ _ h2 he
 cases e1 with
 |normal =>
  obtain ⟨tm1',df1',pm1',rd1',hq1,nq1,bq1,wrq1⟩ :=s1
  obtain ⟨fn1,tm1,nt1,ps1,as1,bd1,df1,h7,n7,q1,q2,q3,q4⟩ :=loopTo_ok h4 h5.he
  obtain ⟨e2,s2,h8,h9,h10⟩ :=hS.code _ _ _ q2 q4
  cases e2 with
  |normal =>
   obtain ⟨tm2',df2',pm2',rd2',hq2,nq2,bq2,wrq2⟩ :=s2
   obtain ⟨fn2,tm2,nt2,ps2,as2,bd2,df2,h11,n11,r1,r2,r3,r4⟩ :=loopTo_ok h8 h9.he
   obtain ⟨tm',r5,r6⟩ :=setDA_ok r2
   have b1:bq1 = bq :=h5.b
   have b2:bq2 = bq :=h9.b.trans b1
   subst b1
   subst b2
   have kp1:Kept bq2 hq wr hq1 wrq1 :=h5.kept
   have kp2:Kept bq2 hq1 wrq1 h7 wrq1 :=Kept.put q3 (fun _ h => h) fun hl => kp1.sub l (hlw hl)
   have kp3:Kept bq2 h7 wrq1 hq2 wrq2 :=h9.kept
   have kp4:Kept bq2 hq2 wrq2 h11 wrq2 :=Kept.put r3 (fun _ h => h) fun hl => kp3.sub l (kp1.sub l (hlw hl))
   have kp0:Kept bq2 hq wrq hq wr :=⟨w1,fun _ _ _ => rfl⟩
   refine ⟨_,r5,⟨r4,rfl,kp0.trans (kp1.trans (kp2.trans (kp3.trans kp4)))⟩,fun B H hH => ?_⟩
   obtain ⟨H1,k1,k2⟩ :=h6 B H hH
   obtain ⟨H2,k3,k4⟩ :=h10 B (H1.put l (.loop .busy fn1 tm1 nt1 ps1 as1 bd1 df1) 0) (by rw [q3,← k1];rfl)
   refine ⟨H2.put l (.loop .ready fn2 tm2 nt2 ps2 as2 bd2 df2) 0,by rw [r3,← k3];rfl,?_⟩
   exact OpS.yld (σ :=AS.st ⟨tmq,dfq,pmq,rdq,hq,nq,bq2,wrq⟩ H) (σ1 :=AS.st ⟨tm1',df1',pm1',rd1',hq1,nq1,bq2,wrq1⟩ H1) (σ2 :=AS.st ⟨tm2',df2',pm2',rd2',hq2,nq2,bq2,wrq2⟩ H2) hE.T hE.F hE.X ho hg (s :=nq)
    (by show H.o nq = _;rw [hH];exact he.hole (Nat.le_refl _)) (by show EvF _ _ H.o _ _ _;rw [hH];exact hev)
    (by show H.o l = _;rw [hH];exact hl) h3 k2 (by show H1.o l = _;rw [k1];exact q1) k4 (by show H2.o l = _;rw [k3];exact r1) r6
  |ret =>
   obtain ⟨tm2',df2',pm2',rd2',hq2,nq2,bq2,wrq2⟩ :=s2
   obtain ⟨fn2,tm2,nt2,ps2,as2,bd2,df2,h11,n11,r1,r2,r3,r4⟩ :=loopTo_ok h8 h9.he
   obtain ⟨tm',r5,r6⟩ :=setDA_ok r2
   have b1:bq1 = bq :=h5.b
   have b2:bq2 = bq :=h9.b.trans b1
   subst b1
   subst b2
   have kp1:Kept bq2 hq wr hq1 wrq1 :=h5.kept
   have kp2:Kept bq2 hq1 wrq1 h7 wrq1 :=Kept.put q3 (fun _ h => h) fun hl => kp1.sub l (hlw hl)
   have kp3:Kept bq2 h7 wrq1 hq2 wrq2 :=h9.kept
   have kp4:Kept bq2 hq2 wrq2 h11 wrq2 :=Kept.put r3 (fun _ h => h) fun hl => kp3.sub l (kp1.sub l (hlw hl))
   have kp0:Kept bq2 hq wrq hq wr :=⟨w1,fun _ _ _ => rfl⟩
   refine ⟨_,r5,⟨r4,rfl,kp0.trans (kp1.trans (kp2.trans (kp3.trans kp4)))⟩,fun B H hH => ?_⟩
   obtain ⟨H1,k1,k2⟩ :=h6 B H hH
   obtain ⟨H2,k3,k4⟩ :=h10 B (H1.put l (.loop .busy fn1 tm1 nt1 ps1 as1 bd1 df1) 0) (by rw [q3,← k1];rfl)
   refine ⟨H2.put l (.loop .done fn2 tm2 nt2 ps2 as2 bd2 df2) 0,by rw [r3,← k3];rfl,?_⟩
   exact OpS.yldR (σ :=AS.st ⟨tmq,dfq,pmq,rdq,hq,nq,bq2,wrq⟩ H) (σ1 :=AS.st ⟨tm1',df1',pm1',rd1',hq1,nq1,bq2,wrq1⟩ H1) (σ2 :=AS.st ⟨tm2',df2',pm2',rd2',hq2,nq2,bq2,wrq2⟩ H2) hE.T hE.F hE.X ho hg (s :=nq)
    (by show H.o nq = _;rw [hH];exact he.hole (Nat.le_refl _)) (by show EvF _ _ H.o _ _ _;rw [hH];exact hev)
    (by show H.o l = _;rw [hH];exact hl) h3 k2 (by show H1.o l = _;rw [k1];exact q1) k4 (by show H2.o l = _;rw [k3];exact r1) r6
  | _ => exact h8.elim
 | _ => exact h4.elim
theorem exOp_ok (hE:E.Ok) (hS:S.Ok E.P) {ops:Array Oper} {i:Nat} {o:Oper} (ho:ops[i]? = some o) {s:AS} {K:KE} (hk:exOp E S ops o s K) (he:HEnd s.h s.n) :
  ∃ e s',K e s' ∧ Aft s s' ∧ OpR E.P ops i s e s' :=by
 obtain ⟨tm,df,pm,rd,h,n,b,wr⟩ :=s
 simp only [exOp] at hk
 simp only at he
 cases hg:guardA ops tm o with
 |none => rw [hg] at hk;exact False.elim hk
 |some g =>
 rw [hg] at hk
 cases g
 ·have hk:setDA tm o.dst (.tup []) (fun tm => K .normal ⟨tm,df,pm,rd,h,n,b,wr⟩) :=hk
  obtain ⟨tm',h1,h2⟩ :=setDA_ok hk
  exact ⟨_,_,h1,⟨he,rfl,Kept.refl _ _ _⟩,fun B H hH => ⟨H,hH,OpS.skip (σ :=AS.st ⟨tm,df,pm,rd,h,n,b,wr⟩ H) ho hg h2⟩⟩
 ·have hk:runP (pOp E.P E.T E.F E.X (aev tm) o) E.y n h n (fun r _ W h' n' => exRes r E S o tm df pm rd h n b wr W h' n' K) :=hk
  obtain ⟨r,R,W,h',n',hev,hk1,hh,he',_⟩ :=runP_ok _ _ _ _ hk he
  clear hk
  have hk :=hk1
  clear hk1
  have hole:∀ H:AH,H.o = hv h → H.o n = .hole :=fun H hH => by rw [hH];exact he.hole (Nat.le_refl _)
  have hev':∀ H:AH,H.o = hv h → EvF n (pOp E.P E.T E.F E.X (aev tm) o) H.o r R W :=fun H hH => by rw [hH];exact hev
  have happ:∀ H:AH,H.o = hv h → (H.app W).o = hv h' :=fun H hH => by rw [app_appO,hH,hh]
  cases r with
  |val v =>
   have hk:logW b (idxs W) wr (fun wr => fcOp E.y o.op v fun v => setDA tm o.dst v fun tm => K .normal ⟨tm,df,pm,rd,h',n',b,wr⟩) :=hk
   obtain ⟨wr',hk,w1,w2⟩ :=logW_ok _ _ _ hk
   obtain ⟨tm',h1,h2⟩ :=setDA_ok (fcOp_ok hk)
   exact ⟨_,_,h1,⟨he',rfl,Kept.app hh w1 w2⟩,fun B H hH => ⟨H.app W,happ H hH,OpS.val (σ :=AS.st ⟨tm,df,pm,rd,h,n,b,wr⟩ H) hE.T hE.F hE.X ho hg (hole H hH) (hev' H hH) h2⟩⟩
  |skip =>
   have hk:logW b (idxs W) wr (fun wr => setDA tm o.dst (.tup []) fun tm => K .normal ⟨tm,df,pm,rd,h',n',b,wr⟩) :=hk
   obtain ⟨wr',hk,w1,w2⟩ :=logW_ok _ _ _ hk
   obtain ⟨tm',h1,h2⟩ :=setDA_ok hk
   exact ⟨_,_,h1,⟨he',rfl,Kept.app hh w1 w2⟩,fun B H hH => ⟨H.app W,happ H hH,OpS.none (σ :=AS.st ⟨tm,df,pm,rd,h,n,b,wr⟩ H) hE.T hE.F hE.X ho hg (hole H hH) (hev' H hH) h2⟩⟩
  |call f args =>
   have hk:(match Nat.ble b n with
    |false => False
    |true => callK E S f args h n (fun v => setDA tm o.dst v fun tm => K .normal ⟨tm,df,pm,rd,h,n,b,wr⟩) (fun _ v => setDA tm o.dst v fun tm => K .normal ⟨tm,df,pm,rd,h,n,b,wr⟩) fun e h n cw => logW b cw wr fun wr => match e with
     | .ret v => setDA tm o.dst v fun tm => K .normal ⟨tm,df,pm,rd,h,n,b,wr⟩
     | .panic l => K (.panic l) ⟨tm,df,pm,rd,h,n,b,wr⟩) :=hk
   split at hk
   case h_1 => exact hk.elim
   rename_i hbn
   have hbn :=Nat.le_of_ble_eq_true hbn
   rcases callK_ok hE hS hk he with ⟨v,k1,k2⟩ | ⟨W1,v,k1,k2⟩ | ⟨e,h1,n1,cw,k1,k2,kf,k3⟩
   ·obtain ⟨tm',q1,q2⟩ :=setDA_ok k1
    exact ⟨_,_,q1,⟨he,rfl,Kept.refl _ _ _⟩,fun B H hH => ⟨H,hH,OpS.call (σ :=AS.st ⟨tm,df,pm,rd,h,n,b,wr⟩ H) hE.T hE.F hE.X ho hg (hole H hH) (hev' H hH) (k2.2 B H) q2⟩⟩
   ·obtain ⟨tm',q1,q2⟩ :=setDA_ok k1
    exact ⟨_,_,q1,⟨he,rfl,Kept.refl _ _ _⟩,fun B H hH => ⟨H,hH,OpS.call (σ :=AS.st ⟨tm,df,pm,rd,h,n,b,wr⟩ H) hE.T hE.F hE.X ho hg (hole H hH) (hev' H hH) (k2 B H fun x _ => by rw [hH]) q2⟩⟩
   ·obtain ⟨wr',k1,w1,w2⟩ :=logW_ok _ _ _ k1
    have kpt:Kept b h wr h1 wr' :=⟨w1,fun x hx hn => kf x (by omega) fun h => hn (w2 x h hx)⟩
    cases e with
    |ret v =>
     obtain ⟨tm',q1,q2⟩ :=setDA_ok k1
     refine ⟨_,_,q1,⟨k2,rfl,kpt⟩,fun B H hH => ?_⟩
     obtain ⟨H',k4,k5⟩ :=k3 B H hH
     exact ⟨H',k4,OpS.call (σ :=AS.st ⟨tm,df,pm,rd,h,n,b,wr⟩ H) hE.T hE.F hE.X ho hg (hole H hH) (hev' H hH) k5 q2⟩
    |panic l =>
     refine ⟨_,_,k1,⟨k2,rfl,kpt⟩,fun B H hH => ?_⟩
     obtain ⟨H',k4,k5⟩ :=k3 B H hH
     exact ⟨H',k4,OpS.callPanic (σ :=AS.st ⟨tm,df,pm,rd,h,n,b,wr⟩ H) hE.T hE.F hE.X ho hg (hole H hH) (hev' H hH) k5⟩
  |yld l args =>
   obtain ⟨s',q1,q2,q3⟩ :=exRoundR_ok hE hS ho (s :=⟨tm,df,pm,rd,h,n,b,wr⟩) hk he hg hev
   exact ⟨_,s',q1,q2,q3⟩
  |defr f args =>
   cases rd with
   |false =>
    have hk:setDA tm o.dst (.tup []) (fun tm => K .normal ⟨tm,.call f args :: df,pm,false,h,n,b,wr⟩) :=hk
    obtain ⟨tm',h1,h2⟩ :=setDA_ok hk
    exact ⟨_,_,h1,⟨he,rfl,Kept.refl _ _ _⟩,fun B H hH => ⟨H,hH,OpS.defr (B :=B) (σ :=AS.st ⟨tm,df,pm,false,h,n,b,wr⟩ H) hE.T hE.F hE.X ho hg (hole H hH) rfl (hev' H hH) h2⟩⟩
   |true => exact False.elim hk
  |recover =>
   cases rd with
   |true => exact False.elim hk
   |false =>
    cases pm with
    |no => exact False.elim hk
    |ret =>
     have hk:setDA tm o.dst .nili (fun tm => K .normal ⟨tm,df,.ret,false,h,n,b,wr⟩) :=hk
     obtain ⟨tm',h1,h2⟩ :=setDA_ok hk
     exact ⟨_,_,h1,⟨he,rfl,Kept.refl _ _ _⟩,fun B H hH => ⟨H,hH,OpS.recover_nil (B :=B) (σ :=AS.st ⟨tm,df,.ret,false,h,n,b,wr⟩ H) hE.T hE.F hE.X ho hg (hole H hH) (hev' H hH) rfl rfl h2⟩⟩
    |pan l =>
     cases l with
     |nil => exact False.elim hk
     |cons p l =>
      obtain ⟨v,bb⟩ :=p
      cases bb with
      |true => exact False.elim hk
      |false =>
       have hk:setDA tm o.dst v (fun tm => K .normal ⟨tm,df,.pan ((v,true) :: l),false,h,n,b,wr⟩) :=hk
       obtain ⟨tm',h1,h2⟩ :=setDA_ok hk
       exact ⟨_,_,h1,⟨he,rfl,Kept.refl _ _ _⟩,fun B H hH => ⟨H,hH,OpS.recover_pan (B :=B) (σ :=AS.st ⟨tm,df,.pan ((v,false) :: l),false,h,n,b,wr⟩ H) hE.T hE.F hE.X ho hg (hole H hH) (hev' H hH) rfl rfl h2⟩⟩
  |panic v => exact ⟨_,_,hk,⟨he,rfl,Kept.refl _ _ _⟩,fun B H hH => ⟨H,hH,OpS.panic (σ :=AS.st ⟨tm,df,pm,rd,h,n,b,wr⟩ H) hE.T hE.F hE.X ho hg (hole H hH) (hev' H hH)⟩⟩
/-! ### Regions in order -/
def exOps (os:List Oper):Env → Sub → Array Oper → AS → KE → Prop :=
 @List.rec Oper (fun _ => Env → Sub → Array Oper → AS → KE → Prop) (fun _ _ _ s K => K .normal s)
  (fun o _ ih E S ops s K => exOp E S ops o s fun e s' => @AEx.rec (fun _ => Prop) (ih E S ops s' K) (fun _ => False) False (fun l => K (.panic l) s') e) os
theorem exOps_ok (hE:E.Ok) (hS:S.Ok E.P) {ops:Array Oper}:∀ (os:List Oper) (i:Nat) (s:AS) (K:KE),(∀ j o,os[j]? = some o → ops[i + j]? = some o) → exOps os E S ops s K → HEnd s.h s.n →
  ∃ e s',K e s' ∧ Aft s s' ∧ SemR E.P [.inRegion ops (List.range' i os.length)] s e s'
 | [],i,s,K,_,hk,he => ⟨_,_,hk,⟨he,rfl,Kept.refl _ _ _⟩,fun B H hH => ⟨H,hH,SemT.region_nil⟩⟩
 |o :: os,i,s,K,ho,hk,he => by
  obtain ⟨e,s1,h1,h2,h3⟩ :=exOp_ok hE hS (ho 0 o rfl) (K :=fun e s' => @AEx.rec (fun _ => Prop) (exOps os E S ops s' K) (fun _ => False) False (fun l => K (.panic l) s') e) hk he
  cases e with
  |normal =>
   obtain ⟨e2,s2,h4,h5,h6⟩ :=exOps_ok hE hS os (i + 1) s1 K (fun j o' hj => by
    have :=ho (j + 1) o' (by simpa using hj)
    rwa [show i + (j + 1) = i + 1 + j by omega] at this) h1 h2.he
   refine ⟨e2,s2,h4,h2.trans h5,fun B H hH => ?_⟩
   obtain ⟨H1,k1,k2⟩ :=h3 B H hH
   obtain ⟨H2,k3,k4⟩ :=h6 B H1 k1
   exact ⟨H2,k3,SemT.region_cons k2 k4⟩
  |panic l =>
   refine ⟨_,s1,h1,h2,fun B H hH => ?_⟩
   obtain ⟨H1,k1,k2⟩ :=h3 B H hH
   exact ⟨H1,k1,SemT.region_panic k2⟩
  | _ => exact False.elim h1
end
end
end Go.Abs

/-! The evaluator: drawn regions, code, functions. -/
namespace Go.Abs
open Go
noncomputable section
/-! ### Drawn regions -/
def roomK (k:Nat):Tr AObj → Nat → (Tr AObj → Nat → Prop) → Prop :=
 @Nat.rec (fun _ => Tr AObj → Nat → (Tr AObj → Nat → Prop) → Prop) (fun h n K => K h n)
  (fun _ ih h n K => h.insK n .hole fun h => fcN false (Nat.succ n) fun n => ih h n K) k
theorem roomK_ok:∀ (k:Nat) (h:Tr AObj) (n:Nat) (K:Tr AObj → Nat → Prop),roomK k h n K → HEnd h n → ∃ h',K h' (n + k) ∧ hv h' = hv h ∧ HEnd h' (n + k)
 | 0,h,n,K,hk,he => ⟨h,hk,rfl,he⟩
 |k + 1,h,n,K,hk,he => by
  obtain ⟨h1,h2,h3⟩ :=Tr.insK_spec h n (fun h => fcN false (Nat.succ n) fun n => roomK k h n K) hk
  have e1:hv h1 = hv h :=by
   funext j
   simp only [hv,h3]
   by_cases e:j = n
   ·subst e;simp [he j (Nat.le_refl _)]
   ·simp [e]
  obtain ⟨h',h4,h5,h6⟩ :=roomK_ok k h1 (n + 1) K (fcF_ok (K :=fun n => roomK k h1 n K) h2) (fun i hi => by rw [h3,if_neg (by omega)];exact he i (by omega))
  rw [show n + 1 + k = n + (k + 1) by omega] at h4 h6
  exact ⟨h',h4,h5.trans e1,h6⟩
def slotFree (h:Tr AObj) (W:WL) (s:Nat):Bool :=
 match W with
 | [] => true
 | _ :: _ => match h.get s with
  |none => true
  |some x => match x with
   | .hole => true
   | _ => false
theorem slotFree_ok {h:Tr AObj} {W:WL} {s:Nat} (hs:slotFree h W s = true) (hW:W ≠ []):hv h s = .hole :=by
 unfold slotFree at hs
 split at hs
 ·exact absurd rfl hW
 ·unfold hv
  split at hs
  ·rename_i e;rw [e]
  ·rename_i e
   rw [e]
   split at hs
   ·rfl
   ·cases hs
abbrev KD :=List Rec → AS → Prop
def appN (R R1:List Nat):List Nat :=@List.rec Nat (fun _ => List Nat) R1 (fun x _ ih => x :: ih) R
theorem appN_eq:∀ R R1,appN R R1 = R ++ R1
 | [],_ => rfl
 |x :: R,R1 => congrArg (x :: ·) (appN_eq R R1)
def drRes (r:PRes):Env → Sub → Oper → Nat → Tr AV → List ADf → APm → Bool → Tr AObj → Nat → Nat → List Nat → List Nat → WL → Tr AObj → Nat → (Rec → AS → Prop) → Prop :=
 match r with
 | .val v => fun E _ o sl tm df pm rd h0 _ b wr R W h n N => match slotFree h0 W sl with
  |true => logW b (idxs W) wr fun wr => fcOp E.y o.op v fun v => setDA tm o.dst v fun tm => N ⟨.val,v,R,W,[],0⟩ ⟨tm,df,pm,rd,h,n,b,wr⟩
  |false => False
 | .skip => fun _ _ o sl tm df pm rd h0 _ b wr R W h n N => match slotFree h0 W sl with
  |true => logW b (idxs W) wr fun wr => setDA tm o.dst (.tup []) fun tm => N ⟨.skip,.tup [],R,W,[],0⟩ ⟨tm,df,pm,rd,h,n,b,wr⟩
  |false => False
 | .call f args => fun E S o _ tm df pm rd h0 n0 b wr R W _ _ N => match W with
  | [] => match Nat.ble b n0 with
   |false => False
   |true => callK E S f args h0 n0 (fun v => setDA tm o.dst v fun tm => N ⟨.pure f args,v,R,[],[],0⟩ ⟨tm,df,pm,rd,h0,n0,b,wr⟩) (fun R1 v => setDA tm o.dst v fun tm => N ⟨.pure f args,v,appN R R1,[],[],0⟩ ⟨tm,df,pm,rd,h0,n0,b,wr⟩) fun e h n cw => logW b cw wr fun wr => match e with
    | .ret v => setDA tm o.dst v fun tm => N ⟨.call f args,v,R,[],cw,n0⟩ ⟨tm,df,pm,rd,h,n,b,wr⟩
    | .panic _ => False
  | _ :: _ => False
 | .yld l args => fun _ S o _ tm df pm rd h0 n0 b wr R W _ _ N => match W with
  | [] => match Nat.ble b n0 with
   |false => False
   |true => exRound S ⟨tm,df,pm,rd,h0,n0,b,wr⟩ o.dst l args fun e s => match e with
    | .normal => N ⟨.yld,.bool true,R,[],[],0⟩ s
    | _ => False
  | _ :: _ => False
 | _ => fun _ _ _ _ _ _ _ _ _ _ _ _ _ _ _ _ _ => False
def exDr (os:List Oper):Env → Sub → Array Oper → Nat → Nat → List Rec → AS → KD → Prop :=
 @List.rec Oper (fun _ => Env → Sub → Array Oper → Nat → Nat → List Rec → AS → KD → Prop) (fun _ _ _ _ _ acc s K => K acc s)
  (fun o _ ih E S ops base i acc s K => @AS.rec (fun _ => Prop) (fun tm df pm rd h n b wr => @Option.rec Bool (fun _ => Prop) False
   (fun g => @Bool.rec (fun _ => Prop)
    (setDA tm o.dst (.tup []) fun tm => fcS (acc ++ [⟨.off,.tup [],[],[],[],0⟩]) fun acc => fcN false (Nat.succ i) fun i => ih E S ops base i acc ⟨tm,df,pm,rd,h,n,b,wr⟩ K)
    (fcN false (Nat.add base i) fun sl => runP (pOp E.P E.T E.F E.X (aev tm) o) E.y sl h n fun r R W h' n' => drRes r E S o sl tm df pm rd h n b wr R W h' n' fun rc s => fcS (acc ++ [rc]) fun acc => fcN false (Nat.succ i) fun i => ih E S ops base i acc s K) g) (guardA ops tm o)) s) os
section
variable {E:Env} {S:Sub}
theorem exDr_ok (hE:E.Ok) (hS:S.Ok E.P) {ops:Array Oper} {base:Nat}:∀ (os:List Oper) (i:Nat) (acc:List Rec) (s:AS) (K:KD),(∀ j o,os[j]? = some o → ops[i + j]? = some o) → exDr os E S ops base i acc s K → HEnd s.h s.n →
  ∃ rs s',K (acc ++ rs) s' ∧ Aft s s' ∧ rs.length = os.length ∧ ∀ (B:Nat) (H:AH),H.o = hv s.h → ∃ H':AH,H'.o = hv s'.h ∧ Chain E.P E.T E.F E.X B ops base (lab i rs) (s.st H) (s'.st H')
 | [],i,acc,s,K,_,hk,he => ⟨[],s,by rw [List.append_nil];exact hk,⟨he,rfl,Kept.refl _ _ _⟩,rfl,fun B H hH => ⟨H,hH,rfl⟩⟩
 |o :: os,i,acc,s,K,ho,hk,he => by
  have next:∀ (r:Rec) (s1:AS),fcS (acc ++ [r]) (fun acc => fcN false (Nat.succ i) fun i => exDr os E S ops base i acc s1 K) → Aft s s1 → (∀ (B:Nat) (H:AH),H.o = hv s.h → ∃ H1:AH,H1.o = hv s1.h ∧ RStep E.P E.T E.F E.X B ops base i r (s.st H) (s1.st H1)) →
    ∃ rs s',K (acc ++ rs) s' ∧ Aft s s' ∧ rs.length = (o :: os).length ∧ ∀ (B:Nat) (H:AH),H.o = hv s.h → ∃ H':AH,H'.o = hv s'.h ∧ Chain E.P E.T E.F E.X B ops base (lab i rs) (s.st H) (s'.st H') :=by
   intro r s1 h1 h2 h3
   have h4 :=fcF_ok (K :=fun i => exDr os E S ops base i (acc ++ [r]) s1 K) (fcS_ok _ _ h1)
   obtain ⟨rs,s',q1,q2,q3,q4⟩ :=exDr_ok hE hS os (i + 1) (acc ++ [r]) s1 K (fun j o' hj => by
    have :=ho (j + 1) o' (by simpa using hj)
    rwa [show i + (j + 1) = i + 1 + j by omega] at this) h4 h2.he
   refine ⟨r :: rs,s',by simpa using q1,h2.trans q2,by simp [q3],fun B H hH => ?_⟩
   obtain ⟨H1,k1,k2⟩ :=h3 B H hH
   obtain ⟨H2,k3,k4⟩ :=q4 B H1 k1
   exact ⟨H2,k3,_,k2,k4⟩
  have hoi :=ho 0 o rfl
  rw [Nat.add_zero] at hoi
  obtain ⟨tm,df,pm,rd,h,n,b,wr⟩ :=s
  have hk:@Option.rec Bool (fun _ => Prop) False
   (fun g => @Bool.rec (fun _ => Prop)
    (setDA tm o.dst (.tup []) fun tm => fcS (acc ++ [⟨.off,.tup [],[],[],[],0⟩]) fun acc => fcN false (Nat.succ i) fun i => exDr os E S ops base i acc ⟨tm,df,pm,rd,h,n,b,wr⟩ K)
    (fcN false (Nat.add base i) fun sl => runP (pOp E.P E.T E.F E.X (aev tm) o) E.y sl h n fun r R W h' n' => drRes r E S o sl tm df pm rd h n b wr R W h' n' fun rc s => fcS (acc ++ [rc]) fun acc => fcN false (Nat.succ i) fun i => exDr os E S ops base i acc s K) g) (guardA ops tm o) :=hk
  simp only at he next
  cases hg:guardA ops tm o with
  |none => rw [hg] at hk;exact False.elim hk
  |some g =>
  rw [hg] at hk
  cases g
  ·have hk:setDA tm o.dst (.tup []) (fun tm => fcS (acc ++ [⟨.off,.tup [],[],[],[],0⟩]) fun acc => fcN false (Nat.succ i) fun i => exDr os E S ops base i acc ⟨tm,df,pm,rd,h,n,b,wr⟩ K) :=hk
   obtain ⟨tm',h1,h2⟩ :=setDA_ok hk
   exact next _ _ h1 ⟨he,rfl,Kept.refl _ _ _⟩ fun B H hH => ⟨H,hH,rfl,rfl,rfl,⟨o,hoi,h2,hg,rfl,rfl,rfl⟩,fun e => by cases e⟩
  ·obtain ⟨r,R,W,h',n',hev,hk1,hh,he',_⟩ :=runP_ok _ _ _ _ (fcF_ok (K :=fun sl => runP (pOp E.P E.T E.F E.X (aev tm) o) E.y sl h n fun r R W h' n' => drRes r E S o sl tm df pm rd h n b wr R W h' n' fun rc s => fcS (acc ++ [rc]) fun acc => fcN false (Nat.succ i) fun i => exDr os E S ops base i acc s K) hk) he
   clear hk
   have hk :=hk1
   clear hk1
   have hev':∀ H:AH,H.o = hv h → EvF (base + i) (pOp E.P E.T E.F E.X (aev tm) o) H.o r R W :=fun H hH => by rw [hH];exact hev
   have happ:∀ H:AH,H.o = hv h → (H.app W).o = hv h' :=fun H hH => by rw [app_appO,hH,hh]
   unfold drRes at hk
   split at hk
   ·rename_i v
    split at hk
    case h_2 => exact hk.elim
    rename_i hsf
    obtain ⟨wr',hk,w1,w2⟩ :=logW_ok _ _ _ hk
    obtain ⟨tm',h1,h2⟩ :=setDA_ok (fcOp_ok hk)
    exact next _ _ h1 ⟨he',rfl,Kept.app hh w1 w2⟩ fun B H hH => ⟨H.app W,happ H hH,rfl,rfl,rfl,⟨o,hoi,h2,hg,fun hW => by show H.o _ = _;rw [hH];exact slotFree_ok hsf hW,hev' H hH,rfl⟩,fun e => by cases e⟩
   ·split at hk
    case h_2 => exact hk.elim
    rename_i hsf
    obtain ⟨wr',hk,w1,w2⟩ :=logW_ok _ _ _ hk
    obtain ⟨tm',h1,h2⟩ :=setDA_ok hk
    exact next _ _ h1 ⟨he',rfl,Kept.app hh w1 w2⟩ fun B H hH => ⟨H.app W,happ H hH,rfl,rfl,rfl,⟨o,hoi,h2,hg,fun hW => by show H.o _ = _;rw [hH];exact slotFree_ok hsf hW,hev' H hH,rfl,rfl⟩,fun e => by cases e⟩
   ·rename_i f args
    split at hk
    case h_2 => exact hk.elim
    split at hk
    case h_1 => exact hk.elim
    rename_i hbn
    have hbn :=Nat.le_of_ble_eq_true hbn
    rcases callK_ok hE hS hk he with ⟨v,k1,k2⟩ | ⟨R1,v,k1,k2⟩ | ⟨e,h1,n1,cw,k1,k2,kf,k3⟩
    ·obtain ⟨tm',q1,q2⟩ :=setDA_ok k1
     exact next _ _ q1 ⟨he,rfl,Kept.refl _ _ _⟩ fun B H hH => ⟨H,hH,rfl,rfl,rfl,⟨o,hoi,q2,hg,rfl,⟨_,fun _ h => h,hev' H hH⟩,fun B H2 _ => k2.2 B H2,rfl⟩,fun e => by cases e⟩
    ·obtain ⟨tm',q1,q2⟩ :=setDA_ok k1
     exact next _ _ q1 ⟨he,rfl,Kept.refl _ _ _⟩ fun B H hH => ⟨H,hH,rfl,rfl,rfl,⟨o,hoi,q2,hg,rfl,⟨_,fun x h => by rw [appN_eq];exact List.mem_append_left _ h,hev' H hH⟩,fun B H2 h2 => k2 B H2 fun x hx => (h2 x (by rw [appN_eq];exact List.mem_append_right _ hx)).trans (by show H.o x = _;rw [hH]),rfl⟩,fun e => by cases e⟩
    ·obtain ⟨wr',k1,w1,w2⟩ :=logW_ok _ _ _ k1
     cases e with
     |ret v =>
      obtain ⟨tm',q1,q2⟩ :=setDA_ok k1
      refine next _ _ q1 ⟨k2,rfl,w1,fun x hx hn => kf x (by simp only at hx;omega) fun h => hn (w2 x h hx)⟩ fun B H hH => ?_
      obtain ⟨H',k4,k5⟩ :=k3 B H hH
      exact ⟨H',k4,rfl,rfl,rfl,⟨o,hoi,q2,hg,rfl,hev' H hH,k5,fun x hx hn => by show H'.o x = H.o x;rw [k4,hH];exact kf x hx hn⟩,fun e => by cases e⟩
     |panic l => exact k1.elim
   ·rename_i l args
    split at hk
    case h_2 => exact hk.elim
    split at hk
    case h_1 => exact hk.elim
    obtain ⟨s1,q1,⟨d1,d2,d3,d4⟩,q2,q3⟩ :=exRound_ok hE hS (i :=i) hoi (s :=⟨tm,df,pm,rd,h,n,b,wr⟩) hk he hg hev.slot
    exact next _ _ q1 q2 fun B H hH => by
     obtain ⟨H1,r1,r2⟩ :=q3 B H hH
     exact ⟨H1,r1,d1,d2,d3,⟨o,hoi,d4,trivial⟩,fun _ => r2⟩
   ·exact hk.elim
theorem SemT.renum {P:Program} {B:Nat} {its:List Item} {σ σ':St} {e:AEx} {m:Nat} (h:SemT P B its { σ with H :={ σ.H with n :=m } } e σ') (hm:∀ i,m ≤ i → σ.H.o i = .hole):SemT P B its σ e σ' :=by
 intro g fr cs w k hr hmo ht hro k' hk
 have hr':FrRel g B w { σ with H :={ σ.H with n :=m } } fr cs :=
  ⟨{ wf :=hm,ge :=hr.h.ge,inj :=hr.h.inj,rel :=hr.h.rel,live :=hr.h.live,kp :=hr.h.kp,imz :=hr.h.imz,hB :=hr.h.hB,gl :=hr.h.gl },hr.tm,hr.df,hr.pm,hr.rd⟩
 obtain ⟨g',fr',cs',w',h1,h2,h3,h4,h5,h6,h7⟩ :=h g fr cs w k hr' hmo ht hro k' hk
 exact ⟨g',fr',cs',w',h1,⟨h2.rel,h2.ext,h2.below,h2.L,h2.frame,h2.own⟩,h3,h4,h5,h6,h7⟩
def exDrawn (E:Env) (S:Sub) (ops:Array Oper) (s:AS) (K:KE):Prop :=
 @AS.rec (fun _ => Prop) (fun tm df pm rd h n b wr => roomK ops.size h n fun h1 n1 => exDr ops.toList E S ops n 0 [] ⟨tm,df,pm,rd,h1,n1,b,wr⟩ fun rs s' =>
  S.drawn ops n rs (K .normal s')) s
theorem exDrawn_ok (hE:E.Ok) (hS:S.Ok E.P) {ops:Array Oper} {id:Nat} {s:AS} {K:KE} (hk:exDrawn E S ops s K) (he:HEnd s.h s.n) :
  ∃ e s',K e s' ∧ Aft s s' ∧ SemR E.P [.code (.region id ops true)] s e s' :=by
 obtain ⟨tm,df,pm,rd,h,n,b,wr⟩ :=s
 simp only [exDrawn] at hk
 simp only at he
 obtain ⟨h0,h1,h2,h3⟩ :=roomK_ok _ _ _ _ hk he
 obtain ⟨rs,s',q1,q2,q3,q4⟩ :=exDr_ok hE hS ops.toList 0 [] _ _ (fun j o hj => by simpa using hj) h1 h3
 obtain ⟨hd,q1⟩ :=hS.drawn _ _ _ _ q1
 unfold drawnOk at hd
 split at hd
 case h_1 => cases hd
 rename_i U hU
 have hi:indAll n rs U = true :=by simpa using hd
 have kp:Kept b h wr h0 wr :=⟨fun _ h => h,fun x _ _ => by rw [h2]⟩
 refine ⟨_,s',q1,⟨q2.he,q2.b,kp.trans q2.kept⟩,fun B H hH => ?_⟩
 obtain ⟨H',k1,k2⟩ :=q4 B ({ ({ H with n :=n }:AH) with n :=n + ops.size }:AH) (by show H.o = _;rw [hH];exact h2.symm)
 refine ⟨H',k1,SemT.renum (m :=n) ?_ fun i hi => by show H.o i = _;rw [hH];exact he.hole hi⟩
 exact Sem.region_drawn (σ :=AS.st ⟨tm,df,pm,rd,h,n,b,wr⟩ { H with n :=n }) hE.T hE.F hE.X hE.mx hU (by simpa using q3) hi k2
/-! ### Code -/
def iter (k:Nat):(AS → KE → Prop) → AS → KE → Prop :=
 @Nat.rec (fun _ => (AS → KE → Prop) → AS → KE → Prop) (fun _ _ _ => False)
  (fun _ ih f s K => f s fun e s' => @AEx.rec (fun _ => Prop) (ih f s' K) (fun id => K (.exit id) s') (K .ret s') (fun l => K (.panic l) s') e) k
def exRF (E:Env) (S:Sub) (f:Operand) (params:List Tmp) (assign body:Code) (s:AS) (K:KE):Prop :=
 match s with
 | ⟨tm,df,pm,rd,h,n,b,wr⟩ => match rd with
  |true => False
  |false => match aev tm f with
   | .func fn first cap => match fn with
    | .func fid => match E.F.get fid with
     |some dfn => match dfn.body with
      |some _ => putO h n n (.dfr false) fun h1 n1 => match Nat.beq n1 (n + 1) with
       |false => False
       |true => putO h1 n1 n1 (.loop .ready 0 tm 0 params assign body n) fun h2 n2 => fcL E.y fcH0 (first ++ (.yld n1 :: cap)) fun args => match Nat.ble b n with
        |false => False
        |true => S.call fid args h2 n2 fun e h3 n3 cw => logW b cw wr fun wr => match e with
         | .ret _ => getO h3 n1 fun x => match x with
          | .loop st _ _ _ _ _ _ _ => match decide (st = .done) with
           |true => loopTo h3 n3 n1 .done .exhausted fun h n' => K .ret ⟨tm,.mark n :: df,pm,false,h,n',b,wr⟩
           |false => loopTo h3 n3 n1 .ready .exhausted fun h n' => K .normal ⟨tm,.mark n :: df,pm,false,h,n',b,wr⟩
          | _ => False
         | .panic _ => False
      |none => False
     |none => False
    | _ => False
   | _ => False
def exC (c:Code):Env → Sub → AS → KE → Prop :=
 @Code.rec (fun _ => Env → Sub → AS → KE → Prop)
  (fun _ _ s K => K .normal s)
  (fun _ ops draw E S s K => @Bool.rec (fun _ => Prop) (exOps ops.toList E S ops s K) (exDrawn E S ops s K) draw)
  (fun _ _ iha ihb E S s K => iha E S s fun e s' => @AEx.rec (fun _ => Prop) (ihb E S s' K) (fun id => K (.exit id) s') (K .ret s') (fun l => K (.panic l) s') e)
  (fun c _ _ iha ihb E S s K => @AS.rec (fun _ => Prop) (fun tm df pm rd h n b wr => @Option.rec Bool (fun _ => Prop) False
   (fun x => @Bool.rec (fun _ => Prop) (ihb E S ⟨tm,df,pm,rd,h,n,b,wr⟩ K) (iha E S ⟨tm,df,pm,rd,h,n,b,wr⟩ K) x) (boolOf (aev tm c))) s)
  (fun id _ ih E S s K => ih E S s fun e s' => @AEx.rec (fun _ => Prop) (K .normal s')
   (fun j => @Bool.rec (fun _ => Prop) (K (.exit j) s') (K .normal s') (Nat.beq j id)) (K .ret s') (fun l => K (.panic l) s') e)
  (fun body ih E S s K => S.loop body (ih E S) s K)
  (fun f params assign body _ _ E S s K => exRF E S f params.toList assign body s K)
  (fun id _ _ s K => K (.exit id) s)
  (fun _ ih E S s K => ih E S s K)
  (fun _ _ _ s K => K .normal s)
  (fun _ _ _ _ _ => False)
  (fun _ _ s K => K .ret s)
  (fun _ _ _ _ _ => False)
  c
theorem iter_ok {P:Program} {c:Code} {f:AS → KE → Prop} (hf:∀ s K,f s K → HEnd s.h s.n → ∃ e s',K e s' ∧ Aft s s' ∧ SemR P [.code c] s e s'):∀ (k:Nat) (s:AS) (K:KE),iter k f s K → HEnd s.h s.n →
  ∃ e s',K e s' ∧ Aft s s' ∧ ∀ (B:Nat) (H:AH),H.o = hv s.h → ∃ H':AH,H'.o = hv s'.h ∧ SemL P B c (s.st H) e (s'.st H')
 | 0,_,_,hk,_ => False.elim hk
 |k + 1,s,K,hk,he => by
  obtain ⟨e,s1,h1,h2,h3⟩ :=hf s (fun e s' => @AEx.rec (fun _ => Prop) (iter k f s' K) (fun id => K (.exit id) s') (K .ret s') (fun l => K (.panic l) s') e) hk he
  by_cases hn:e = .normal
  ·subst hn
   obtain ⟨e2,s2,h4,h5,h6⟩ :=iter_ok hf k s1 K h1 h2.he
   refine ⟨e2,s2,h4,h2.trans h5,fun B H hH => ?_⟩
   obtain ⟨H1,k1,k2⟩ :=h3 B H hH
   obtain ⟨H2,k3,k4⟩ :=h6 B H1 k1
   exact ⟨H2,k3,SemL.next k2 k4⟩
  ·refine ⟨e,s1,?_,h2,fun B H hH => ?_⟩
   ·cases e <;> first
     |exact absurd rfl hn
     |exact h1
   ·obtain ⟨H1,k1,k2⟩ :=h3 B H hH
    exact ⟨H1,k1,SemL.stop k2 hn⟩
theorem exRF_ok (hE:E.Ok) (hS:S.Ok E.P) {f:Operand} {params:Array Tmp} {assign body:Code} {s:AS} {K:KE} (hk:exRF E S f params.toList assign body s K) (he:HEnd s.h s.n) :
  ∃ e s',K e s' ∧ Aft s s' ∧ SemR E.P [.code (.rangeFunc f params assign body)] s e s' :=by
 obtain ⟨tm,df,pm,rd,h,n,b,wr⟩ :=s
 simp only [exRF] at hk
 simp only at he
 split at hk
 case h_1 => exact hk.elim
 split at hk
 case h_2 => exact hk.elim
 rename_i fn first cap hf
 split at hk
 case h_2 => exact hk.elim
 rename_i fid
 split at hk
 case h_2 => exact hk.elim
 rename_i dfn hd
 split at hk
 case h_2 => exact hk.elim
 rename_i c0 hb
 obtain ⟨h1,n1,hk,e1,he1,_⟩ :=putO_ok hk he
 split at hk
 case h_1 => exact hk.elim
 rename_i hbq
 have hbq:n1 = n + 1 :=Nat.eq_of_beq_eq_true hbq
 subst hbq
 obtain ⟨h2,n2,hk,e2,he2,hn2⟩ :=putO_ok hk he1
 have hk :=fcLH' hk
 split at hk
 case h_1 => exact hk.elim
 rename_i hbn
 have hbn :=Nat.le_of_ble_eq_true hbn
 obtain ⟨e,h3,n3,cw,k1,k2,kf,k3⟩ :=hS.call _ _ _ _ _ hk he2
 obtain ⟨wr',k1,w1,w2⟩ :=logW_ok _ _ _ k1
 cases e with
 |panic l => exact k1.elim
 |ret v =>
  have k1 :=getO_ok k1
  split at k1
  case h_2 => exact k1.elim
  split at k1
  ·obtain ⟨fn2,tm2,nt2,ps2,as2,bd2,df2,h4,n4,q1,q2,q3,q4⟩ :=loopTo_ok k1 k2
   have kp1:Kept b h wr h1 wr :=Kept.put e1 (fun _ h => h) fun hl => by omega
   have kp2:Kept b h1 wr h2 wr :=Kept.put e2 (fun _ h => h) fun hl => by omega
   have kp3:Kept b h2 wr h3 wr' :=⟨w1,fun x hx hn => kf x (by omega) fun h => hn (w2 x h hx)⟩
   have kp4:Kept b h3 wr' h4 wr' :=Kept.put q3 (fun _ h => h) fun hl => by omega
   refine ⟨_,_,q2,⟨q4,rfl,kp1.trans (kp2.trans (kp3.trans kp4))⟩,fun B H hH => ?_⟩
   obtain ⟨H',k4,k5⟩ :=k3 B ((({ H with n :=n }:AH).put n (.dfr false) 0).put (n + 1) (.loop .ready 0 tm 0 params.toList assign body n) 0) (by rw [e2,e1,← hH];rfl)
   refine ⟨H'.put (n + 1) (.loop .exhausted fn2 tm2 nt2 ps2 as2 bd2 df2) 0,by rw [q3,← k4];rfl,SemT.renum (m :=n) ?_ fun i hi => by show H.o i = _;rw [hH];exact he.hole hi⟩
   exact Sem.rangeFuncR (P :=E.P) (B :=B) (σ :=AS.st ⟨tm,df,pm,false,h,n,b,wr⟩ { H with n :=n }) hE.F (f :=f) (params :=params) (assign :=assign) (body :=body) hf rfl hd hb k5 (by show H'.o (n + 1) = _;rw [k4];exact q1) rfl
  ·obtain ⟨fn2,tm2,nt2,ps2,as2,bd2,df2,h4,n4,q1,q2,q3,q4⟩ :=loopTo_ok k1 k2
   have kp1:Kept b h wr h1 wr :=Kept.put e1 (fun _ h => h) fun hl => by omega
   have kp2:Kept b h1 wr h2 wr :=Kept.put e2 (fun _ h => h) fun hl => by omega
   have kp3:Kept b h2 wr h3 wr' :=⟨w1,fun x hx hn => kf x (by omega) fun h => hn (w2 x h hx)⟩
   have kp4:Kept b h3 wr' h4 wr' :=Kept.put q3 (fun _ h => h) fun hl => by omega
   refine ⟨_,_,q2,⟨q4,rfl,kp1.trans (kp2.trans (kp3.trans kp4))⟩,fun B H hH => ?_⟩
   obtain ⟨H',k4,k5⟩ :=k3 B ((({ H with n :=n }:AH).put n (.dfr false) 0).put (n + 1) (.loop .ready 0 tm 0 params.toList assign body n) 0) (by rw [e2,e1,← hH];rfl)
   refine ⟨H'.put (n + 1) (.loop .exhausted fn2 tm2 nt2 ps2 as2 bd2 df2) 0,by rw [q3,← k4];rfl,SemT.renum (m :=n) ?_ fun i hi => by show H.o i = _;rw [hH];exact he.hole hi⟩
   exact Sem.rangeFunc (P :=E.P) (B :=B) (σ :=AS.st ⟨tm,df,pm,false,h,n,b,wr⟩ { H with n :=n }) hE.F (f :=f) (params :=params) (assign :=assign) (body :=body) hf rfl hd hb k5 (by show H'.o (n + 1) = _;rw [k4];exact q1) rfl
theorem exC_ok (hE:E.Ok) (hS:S.Ok E.P):∀ (c:Code) (s:AS) (K:KE),exC c E S s K → HEnd s.h s.n → ∃ e s',K e s' ∧ Aft s s' ∧ SemR E.P [.code c] s e s' :=by
 intro c
 induction c with
 |skip => exact fun s K hk he => ⟨_,_,hk,⟨he,rfl,Kept.refl _ _ _⟩,fun B H hH => ⟨H,hH,Sem.skip⟩⟩
 |label l => exact fun s K hk he => ⟨_,_,hk,⟨he,rfl,Kept.refl _ _ _⟩,fun B H hH => ⟨H,hH,Sem.label⟩⟩
 |region id ops draw =>
  intro s K hk he
  cases draw with
  |false =>
   obtain ⟨e,s',h1,h2,h3⟩ :=exOps_ok hE hS ops.toList 0 s K (fun j o hj => by simpa using hj) hk he
   refine ⟨e,s',h1,h2,fun B H hH => ?_⟩
   obtain ⟨H',k1,k2⟩ :=h3 B H hH
   refine ⟨H',k1,Sem.region ?_⟩
   rw [List.range_eq_range']
   simpa using k2
  |true => exact exDrawn_ok hE hS hk he
 |seq a b iha ihb =>
  intro s K hk he
  obtain ⟨e,s1,h1,h2,h3⟩ :=iha s (fun e s' => @AEx.rec (fun _ => Prop) (exC b E S s' K) (fun id => K (.exit id) s') (K .ret s') (fun l => K (.panic l) s') e) hk he
  by_cases hn:e = .normal
  ·subst hn
   obtain ⟨e2,s2,h4,h5,h6⟩ :=ihb s1 K h1 h2.he
   refine ⟨e2,s2,h4,h2.trans h5,fun B H hH => ?_⟩
   obtain ⟨H1,k1,k2⟩ :=h3 B H hH
   obtain ⟨H2,k3,k4⟩ :=h6 B H1 k1
   exact ⟨H2,k3,Sem.seq k2 k4⟩
  ·refine ⟨e,s1,?_,h2,fun B H hH => ?_⟩
   ·cases e <;> first
     |exact absurd rfl hn
     |exact h1
   ·obtain ⟨H1,k1,k2⟩ :=h3 B H hH
    exact ⟨H1,k1,Sem.seq_exit k2 hn⟩
 |cond c a b iha ihb =>
  intro s K hk he
  obtain ⟨tm,df,pm,rd,h,n,bb,wr⟩ :=s
  have hk:@Option.rec Bool (fun _ => Prop) False
   (fun x => @Bool.rec (fun _ => Prop) (exC b E S ⟨tm,df,pm,rd,h,n,bb,wr⟩ K) (exC a E S ⟨tm,df,pm,rd,h,n,bb,wr⟩ K) x) (boolOf (aev tm c)) :=hk
  cases hb:boolOf (aev tm c) with
  |none => rw [hb] at hk;exact False.elim hk
  |some x =>
  rw [hb] at hk
  have hx :=boolOf_ok hb
  cases x with
  |true =>
   obtain ⟨e,s',h1,h2,h3⟩ :=iha _ K hk he
   refine ⟨e,s',h1,h2,fun B H hH => ?_⟩
   obtain ⟨H',k1,k2⟩ :=h3 B H hH
   exact ⟨H',k1,Sem.cond (σ :=AS.st ⟨tm,df,pm,rd,h,n,bb,wr⟩ H) hx k2⟩
  |false =>
   obtain ⟨e,s',h1,h2,h3⟩ :=ihb _ K hk he
   refine ⟨e,s',h1,h2,fun B H hH => ?_⟩
   obtain ⟨H',k1,k2⟩ :=h3 B H hH
   exact ⟨H',k1,Sem.cond (σ :=AS.st ⟨tm,df,pm,rd,h,n,bb,wr⟩ H) hx k2⟩
 |block id c ih =>
  intro s K hk he
  obtain ⟨e,s1,h1,h2,h3⟩ :=ih s (fun e s' => @AEx.rec (fun _ => Prop) (K .normal s')
   (fun j => @Bool.rec (fun _ => Prop) (K (.exit j) s') (K .normal s') (Nat.beq j id)) (K .ret s') (fun l => K (.panic l) s') e) hk he
  cases e with
  |normal =>
   refine ⟨_,s1,h1,h2,fun B H hH => ?_⟩
   obtain ⟨H1,k1,k2⟩ :=h3 B H hH
   exact ⟨H1,k1,Sem.block_normal k2⟩
  |exit j =>
   have q1:@Bool.rec (fun _ => Prop) (K (.exit j) s1) (K .normal s1) (Nat.beq j id) :=h1
   cases hb:Nat.beq j id with
   |true =>
    rw [hb] at q1
    have q2:K .normal s1 :=q1
    have hb:j = id :=Nat.eq_of_beq_eq_true hb
    subst hb
    refine ⟨_,s1,q2,h2,fun B H hH => ?_⟩
    obtain ⟨H1,k1,k2⟩ :=h3 B H hH
    exact ⟨H1,k1,Sem.block_exit k2⟩
   |false =>
    rw [hb] at q1
    have q2:K (.exit j) s1 :=q1
    refine ⟨_,s1,q2,h2,fun B H hH => ?_⟩
    obtain ⟨H1,k1,k2⟩ :=h3 B H hH
    exact ⟨H1,k1,Sem.block_pass k2 (by simp) (by intro e;cases e;simp at hb)⟩
  |ret =>
   refine ⟨_,s1,h1,h2,fun B H hH => ?_⟩
   obtain ⟨H1,k1,k2⟩ :=h3 B H hH
   exact ⟨H1,k1,Sem.block_pass k2 (by simp) (by simp)⟩
  |panic l =>
   refine ⟨_,s1,h1,h2,fun B H hH => ?_⟩
   obtain ⟨H1,k1,k2⟩ :=h3 B H hH
   exact ⟨H1,k1,Sem.block_pass k2 (by simp) (by simp)⟩
 |scope c ih =>
  intro s K hk he
  obtain ⟨e,s1,h1,h2,h3⟩ :=ih s K hk he
  refine ⟨e,s1,h1,h2,fun B H hH => ?_⟩
  obtain ⟨H1,k1,k2⟩ :=h3 B H hH
  by_cases hn:e = .normal
  ·subst hn;exact ⟨H1,k1,Sem.scope_normal k2⟩
  ·exact ⟨H1,k1,Sem.scope_pass k2 hn⟩
 |loop c ih =>
  intro s K hk he
  obtain ⟨e,s1,h1,h2,h3⟩ :=hS.loop c _ ih s K hk he
  refine ⟨e,s1,h1,h2,fun B H hH => ?_⟩
  obtain ⟨H1,k1,k2⟩ :=h3 B H hH
  exact ⟨H1,k1,Sem.loop k2⟩
 |exit id => exact fun s K hk he => ⟨_,_,hk,⟨he,rfl,Kept.refl _ _ _⟩,fun B H hH => ⟨H,hH,Sem.exit⟩⟩
 |ret => exact fun s K hk he => ⟨_,_,hk,⟨he,rfl,Kept.refl _ _ _⟩,fun B H hH => ⟨H,hH,Sem.ret⟩⟩
 |rangeFunc f params assign body _ _ => exact fun s K hk he => exRF_ok hE hS hk he
 |goto l => exact fun s K hk he => False.elim hk
 |refuse w => exact fun s K hk he => False.elim hk
end
end
end Go.Abs

/-! The evaluator: functions, deferred calls; its soundness. -/
namespace Go.Abs
open Go
noncomputable section
def resK (rs:List ResultVar):Env → Tr AV → Tr AObj → Nat → (List AV → Prop) → Prop :=
 @List.rec ResultVar (fun _ => Env → Tr AV → Tr AObj → Nat → (List AV → Prop) → Prop) (fun _ _ _ _ K => K [])
  (fun r _ ih E tm h n K => match r with
   | .tmp t => fcH0 (aev tm (.tmp t)) fun v => ih E tm h n fun vs => K (v :: vs)
   | .cell a t => runP (pLoad E.T t (aev tm (.tmp a))) E.y 0 h n fun r _ _ _ _ => match r with
    | .val v => fcM0 v fun v => ih E tm h n fun vs => K (v :: vs)
    | _ => False) rs
theorem resK_ok {E:Env} {tm:Tr AV} {h:Tr AObj} {n:Nat} (he:HEnd h n):∀ (rs:List ResultVar) (K:List AV → Prop),resK rs E tm h n K → ∃ vs,K vs ∧ ResV E.T tm (hv h) rs vs
 | [],K,hk => ⟨[],hk,rfl⟩
 | .tmp t :: rs,K,hk => by
  obtain ⟨vs,h1,h2⟩ :=resK_ok he rs _ (fcH0_ok (K :=fun v => resK rs E tm h n fun vs => K (v :: vs)) hk)
  exact ⟨_,h1,vs,rfl,h2⟩
 | .cell a t :: rs,K,hk => by
  obtain ⟨r,R,W,h',n',hev,hk1,_⟩ :=runP_ok _ _ _ (fun r _ _ _ _ => match r with
    | .val v => fcM0 v fun v => resK rs E tm h n fun vs => K (v :: vs)
    | _ => False) hk he
  split at hk1
  case h_2 => exact hk1.elim
  rename_i v
  obtain ⟨vs,h1,h2⟩ :=resK_ok he rs _ (fcM0_ok (K :=fun v => resK rs E tm h n fun vs => K (v :: vs)) hk1)
  exact ⟨_,h1,v,vs,R,W,rfl,hev,h2⟩
abbrev KF :=AEnd → APm → Tr AObj → Nat → List Nat → Prop
def pmFits (um:UMode) (pm:APm):Bool :=
 match um with
 | .ret => match pm with
  | .ret => true
  | _ => false
 | .pan _ => match pm with
  | .pan _ => true
  | _ => false
def umAfter (e:AEnd) (pm1:APm):UMode :=
 match e with
 | .ret _ => settleA pm1
 | .panic l => raisedA l pm1
def unw (l:List ADf):Env → Sub → Func → UMode → AS → KF → Prop :=
 @List.rec ADf (fun _ => Env → Sub → Func → UMode → AS → KF → Prop)
  (fun E _ fn um s K => match s with
   | ⟨tm,_,pm,_,h,n,_,wr⟩ => match um with
    | .ret => resK fn.results.toList E tm h n fun vs => K (.ret (oneOrTup vs)) pm h n wr
    | .pan l => K (.panic l) pm h n wr)
  (fun d df ih E S fn um s K => match s with
   | ⟨tm,_,pm,rd,h,n,b,wr⟩ => match d with
    | .call d args => match E.F.get d with
     |none => False
     |some dfn => match dfn.body with
      |none => False
      |some _ => match Nat.ble b n with
       |false => False
       |true => S.fn d .deferred args (pmOf um) h n fun e pm1 h n cw => logW b cw wr fun wr => match pmFits um pm1 with
        |true => ih E S fn (umAfter e pm1) ⟨tm,df,pm,rd,h,n,b,wr⟩ K
        |false => False
    | .mark o => getO h o fun x => match x with
     | .dfr taken => match taken with
      |false => logW b [o] wr fun wr => putO h n o (.dfr true) fun h n => ih E S fn um ⟨tm,df,pm,rd,h,n,b,wr⟩ K
      |true => False
     | _ => False) l
section
variable {E:Env} {S:Sub}
theorem unw_ok (hE:E.Ok) (hS:S.Ok E.P) {f:FuncId} {fn:Func} (hf:E.F.get f = some fn):∀ (l:List ADf) (um:UMode) (s:AS) (K:KF),s.df = l → unw l E S fn um s K → HEnd s.h s.n →
  ∃ e pm' h' n' wr,K e pm' h' n' wr ∧ HEnd h' n' ∧ Kept s.b s.h s.wr h' wr ∧ ∀ (B:Nat) (H:AH),H.o = hv s.h → ∃ H':AH,H'.o = hv h' ∧ USem E.P B f um (s.st H) e pm' H'
 | [],um,s,K,hdf,hk,he => by
  have hpf :=(hE.F f fn hf).1
  obtain ⟨tm,df,pm,rd,h,n,b,wr⟩ :=s
  simp only at hdf he
  subst hdf
  cases um with
  |ret =>
   obtain ⟨vs,h1,h2⟩ :=resK_ok he _ _ hk
   exact ⟨_,_,_,_,_,h1,he,Kept.refl _ _ _,fun B H hH => ⟨H,hH,USem.done_ret (σ :=AS.st ⟨tm,[],pm,rd,h,n,b,wr⟩ H) hE.T hpf rfl (by show ResV _ _ H.o _ _;rw [hH];exact h2)⟩⟩
  |pan l => exact ⟨_,_,_,_,_,hk,he,Kept.refl _ _ _,fun B H hH => ⟨H,hH,USem.done_pan (σ :=AS.st ⟨tm,[],pm,rd,h,n,b,wr⟩ H) hpf rfl⟩⟩
 | .call d args :: df,um,s,K,hdf,hk,he => by
  obtain ⟨tm,df0,pm,rd,h,n,b,wr⟩ :=s
  simp only at hdf he
  subst hdf
  have hk : (match E.F.get d with
     |none => False
     |some dfn => match dfn.body with
      |none => False
      |some _ => match Nat.ble b n with
       |false => False
       |true => S.fn d .deferred args (pmOf um) h n fun e pm1 h n cw => logW b cw wr fun wr => match pmFits um pm1 with
        |true => unw df E S fn (umAfter e pm1) ⟨tm,df,pm,rd,h,n,b,wr⟩ K
        |false => False) :=hk
  split at hk
  case h_1 => exact hk.elim
  rename_i dfn hd
  split at hk
  case h_1 => exact hk.elim
  rename_i c hb
  split at hk
  case h_1 => exact hk.elim
  rename_i hbn
  have hbn :=Nat.le_of_ble_eq_true hbn
  obtain ⟨e,pm1,h1,n1,cw,k1,k2,kf,k3⟩ :=hS.fn _ _ _ _ _ _ _ hk he
  obtain ⟨wr',k1,w1,w2⟩ :=logW_ok _ _ _ k1
  split at k1
  case h_2 => exact k1.elim
  rename_i hfit
  obtain ⟨e',pm',h',n',wr2,q1,q2,kp,q3⟩ :=unw_ok hE hS hf df _ ⟨tm,df,pm,rd,h1,n1,b,wr'⟩ K rfl k1 k2
  have kp1:Kept b h wr h1 wr' :=⟨w1,fun x hx hn => kf x (by omega) fun h => hn (w2 x h hx)⟩
  refine ⟨e',pm',h',n',wr2,q1,q2,kp1.trans kp,fun B H hH => ?_⟩
  obtain ⟨H1,r1,r2⟩ :=k3 B H hH
  obtain ⟨H2,r3,r4⟩ :=q3 B H1 r1
  have hp:match um with | .ret => pm1 = .ret | .pan _ => ∃ l,pm1 = .pan l :=by
   unfold pmFits at hfit
   cases um with
   |ret => cases pm1 <;> simp at hfit ⊢
   |pan l => cases pm1 <;> simp at hfit ⊢
  refine ⟨H2,r3,?_⟩
  cases e with
  |ret v => exact USem.call (σ :=AS.st ⟨tm,.call d args :: df,pm,rd,h,n,b,wr⟩ H) hE.F hd hb rfl r2 (by cases um <;> exact hp) rfl r4
  |panic l => exact USem.call (σ :=AS.st ⟨tm,.call d args :: df,pm,rd,h,n,b,wr⟩ H) hE.F hd hb rfl r2 (by cases um <;> exact hp) rfl r4
 | .mark o :: df,um,s,K,hdf,hk,he => by
  obtain ⟨tm,df0,pm,rd,h,n,b,wr⟩ :=s
  simp only at hdf he
  subst hdf
  have h1 := getO_ok (K := fun x => match x with
     | .dfr taken => match taken with
      |false => logW b [o] wr fun wr => putO h n o (.dfr true) fun h n => unw df E S fn um ⟨tm,df,pm,rd,h,n,b,wr⟩ K
      |true => False
     | _ => False) hk
  split at h1
  case h_2 => exact h1.elim
  rename_i taken ho
  split at h1
  case h_2 => exact h1.elim
  obtain ⟨wr',h1,w1,w2⟩ :=logW_ok _ _ _ h1
  obtain ⟨h2,n2,k1,k2,k3,_⟩ :=putO_ok h1 he
  obtain ⟨e',pm',h',n',wr2,q1,q2,kp,q3⟩ :=unw_ok hE hS hf df um ⟨tm,df,pm,rd,h2,n2,b,wr'⟩ K rfl k1 k3
  have kp1:Kept b h wr h2 wr' :=Kept.put k2 w1 (w2 o (by simp))
  refine ⟨e',pm',h',n',wr2,q1,q2,kp1.trans kp,fun B H hH => ?_⟩
  obtain ⟨H2,r3,r4⟩ :=q3 B (H.put o (.dfr true) 0) (by rw [k2,← hH];rfl)
  exact ⟨H2,r3,USem.mark (σ :=AS.st ⟨tm,.mark o :: df,pm,rd,h,n,b,wr⟩ H) rfl (by show H.o o = _;rw [hH];exact ho) r4⟩
def pmKeep (a b:APm):Bool :=
 match a with
 | .pan _ => true
 | _ => match b with
  | .pan _ => false
  | _ => true
theorem pmKeep_ok {a b:APm} (h:pmKeep a b = true):(∀ l,a ≠ .pan l) → ∀ l,b ≠ .pan l :=by
 intro ha l e
 subst e
 unfold pmKeep at h
 split at h
 ·exact ha _ rfl
 ·cases h
def exEnd (E:Env) (S:Sub) (fn:Func) (pm:APm) (K:KF) (e:AEx) (s:AS):Prop :=
 match s with
 | ⟨tm,df,pm1,rd,h,n,b,wr⟩ => match pmKeep pm pm1 with
  |false => False
  |true => match e with
   | .normal => unw df E S fn .ret ⟨tm,df,pm1,rd,h,n,b,wr⟩ fun e pm' h n wr => match pmKeep pm1 pm' with
    |true => K e pm' h n wr
    |false => False
   | .ret => unw df E S fn .ret ⟨tm,df,pm1,rd,h,n,b,wr⟩ fun e pm' h n wr => match pmKeep pm1 pm' with
    |true => K e pm' h n wr
    |false => False
   | .panic l => unw df E S fn (.pan l) ⟨tm,df,pm1,rd,h,n,b,wr⟩ fun e pm' h n wr => match pmKeep pm1 pm' with
    |true => K e pm' h n wr
    |false => False
   | .exit _ => False
def exFn (E:Env) (S:Sub) (f:FuncId) (_κ:CallKind) (args:List AV) (pm:APm) (h:Tr AObj) (n:Nat) (K:KF):Prop :=
 match E.F.get f with
 |none => False
 |some fn => match fn.body with
  |none => False
  |some c => fcN E.y fn.ntmps fun m => match Nat.ble args.length m with
   |false => False
   |true => repL .unk m fun t => setL args 0 t fun tm => S.code c ⟨tm,[],pm,false,h,n,n,[]⟩ (exEnd E S fn pm K)
def exFits (e:AEx) (um:UMode):Prop :=
 match e with
 | .normal => um = .ret
 | .ret => um = .ret
 | .panic l => um = .pan l
 | .exit _ => False
theorem exFn_ok (hE:E.Ok) (hS:S.Ok E.P) (f:FuncId) (κ:CallKind) (args:List AV) (pm:APm) (h:Tr AObj) (n:Nat) (K:KF) (hk:exFn E S f κ args pm h n K) (he:HEnd h n) :
  ∃ e pm' h' n' cw,K e pm' h' n' cw ∧ HEnd h' n' ∧ (∀ x,x < n → x ∉ cw → hv h' x = hv h x) ∧ ∀ (B:Nat) (H:AH),H.o = hv h → ∃ H':AH,H'.o = hv h' ∧ FSem E.P B f κ args pm H e pm' H' :=by
 unfold exFn at hk
 split at hk
 case h_1 => exact hk.elim
 rename_i fn hf
 split at hk
 case h_1 => exact hk.elim
 rename_i c hb
 have hk :=fcN_ok hk
 split at hk
 case h_1 => exact hk.elim
 rename_i hle
 have hle :=Nat.le_of_ble_eq_true hle
 obtain ⟨t,h1,h2⟩ :=repL_ok hk
 obtain ⟨tm,h3,h4⟩ :=setL_ok _ _ _ _ h1
 have hinit:InitTm args fn.ntmps tm :=fun j => by
  rw [h4]
  by_cases hj:j < args.length
  ·simp [hj]
  ·rw [if_neg (by omega),if_neg hj,h2]
 obtain ⟨e,s,h5,h6,h7⟩ :=hS.code _ _ _ h3 he
 obtain ⟨tm1,df,pm1,rd,hh,n1,b1,wr1⟩ :=s
 simp only [exEnd] at h5
 split at h5
 case h_1 => exact h5.elim
 rename_i hpk
 have main:∀ um:UMode,exFits e um →
   unw df E S fn um ⟨tm1,df,pm1,rd,hh,n1,b1,wr1⟩ (fun e pm' h n wr => match pmKeep pm1 pm' with | true => K e pm' h n wr | false => False) →
   ∃ e pm' h' n' cw,K e pm' h' n' cw ∧ HEnd h' n' ∧ (∀ x,x < n → x ∉ cw → hv h' x = hv h x) ∧ ∀ (B:Nat) (H:AH),H.o = hv h → ∃ H':AH,H'.o = hv h' ∧ FSem E.P B f κ args pm H e pm' H' :=by
  intro um hum hu
  obtain ⟨e',pm',h',n',wr,q1,q2,kp,q3⟩ :=unw_ok hE hS hf df um _ _ rfl hu h6.he
  have kp0:Kept n h [] hh wr1 :=h6.kept
  have hb1:b1 = n :=h6.b
  subst hb1
  split at q1
  case h_2 => exact q1.elim
  rename_i hpk2
  refine ⟨e',pm',h',n',wr,q1,q2,(kp0.trans kp).same,fun B H hH => ?_⟩
  obtain ⟨H1,k1,k2⟩ :=h7 B H hH
  obtain ⟨H2,k3,k4⟩ :=q3 B H1 k1
  exact ⟨H2,k3,FSem.body (σ1 :=AS.st ⟨tm1,df,pm1,rd,hh,n1,b1,wr1⟩ H1) hE.F hf hb hle hinit (ex :=e) (um :=um) (by cases e <;> exact hum) k2 (pmKeep_ok hpk) k4 (pmKeep_ok hpk2)⟩
 cases e with
 |normal => exact main .ret rfl h5
 |ret => exact main .ret rfl h5
 |panic l => exact main (.pan l) rfl h5
 |exit id => exact h5.elim
def sub (E:Env) (fuel:Nat) (d:Nat):Sub :=
 @Nat.rec (fun _ => Sub) ⟨fun _ _ _ => False,fun _ _ _ _ _ _ _ => False,fun _ _ _ _ _ => False,fun _ _ _ _ => False,fun _ _ _ _ => False⟩
  (fun _ ih => ⟨fun c s K => exC c E ih s K,exFn E ih,fun f args h n K => exFn E ih f .normal args .no h n fun e _ h n cw => K e h n cw,fun _ f s K => iter fuel f s K,fun ops n rs Q => @Bool.rec (fun _ => Prop) False Q (drawnOk ops n rs)⟩) d
theorem sub_ok (hE:E.Ok) (fuel:Nat):∀ d,(sub E fuel d).Ok E.P
 | 0 => ⟨fun _ _ _ h => False.elim h,fun _ _ _ _ _ _ _ h => False.elim h,fun _ _ _ _ _ h => False.elim h,fun _ _ _ _ _ h => False.elim h,fun _ _ _ _ h => False.elim h⟩
 |d + 1 => ⟨exC_ok hE (sub_ok hE fuel d),exFn_ok hE (sub_ok hE fuel d),fun f args h n K hk he => by
   obtain ⟨e,pm',h',n',cw,k1,k2,kf,k3⟩ :=exFn_ok hE (sub_ok hE fuel d) f .normal args .no h n _ hk he
   refine ⟨e,h',n',cw,k1,k2,kf,fun B H hH => ?_⟩
   obtain ⟨H',k4,k5⟩ :=k3 B H hH
   exact ⟨H',k4,CSem.of_F k5⟩,fun c f hf s K hk he => iter_ok hf fuel s K hk he,fun ops n rs Q h => by
   have h:@Bool.rec (fun _ => Prop) False Q (drawnOk ops n rs) :=h
   cases hd:drawnOk ops n rs with
   |false => rw [hd] at h;exact False.elim h
   |true => rw [hd] at h;exact ⟨rfl,h⟩⟩
def runV (E:Env) (fuel d:Nat) (f:FuncId) (args:List AV) (v:AV):Prop :=
 (sub E fuel d).fn f .normal args .no .nil 0 fun e _ _ _ _ => match e with
  | .ret u => bif2 (eqA (wk u) v) False True
  | .panic _ => False
theorem runV_ok (hE:E.Ok) {fuel d:Nat} {f:FuncId} {args:List AV} {v:AV} (h:runV E fuel d f args v) (ha:norefs args = true) (hv:noref v = true):Pure E.P f args v :=by
 obtain ⟨e,pm',h',n',_,h1,h2,_,h3⟩ :=(sub_ok hE fuel d).fn f .normal args .no .nil 0 _ h HEnd_nil
 cases e with
 |panic l => exact h1.elim
 |ret u =>
  cases he:eqA (wk u) v with
  |false => simp only at h1;rw [he] at h1;exact False.elim h1
  |true =>
   have e :=eqA_ok _ _ he
   subst e
   refine pure_of (fun B => ?_) (norefs_ok _ ha) (Wk.wk u) (noref_ok _ hv)
   obtain ⟨H',h4,h5⟩ :=h3 B AH.nil hv_nil.symm
   exact ⟨H',CSem.of_F h5⟩
end
end
end Go.Abs

namespace Go.Abs
open Go
noncomputable section
def EOK (P:Program) (X:FuncId → Option ExtK):Prop :=
 ∀ f k,X f = some k → ∀ args w,(callFunc f args).run P w = ((extFn k args).run P w).andThen fun v w' => .ok (.value v) w'
def mkEnv (P:Program) (X:FuncId → Option ExtK) (y:Bool) (pu:FuncId → Bool) (M:Memo) (K:Env → Prop):Prop :=
 putL P.types.toList 0 .nil fun T => putL P.funcs.toList 0 .nil fun F => K ⟨P,T,F,⟨X,eqvOf P T,fun _ _ => false⟩,y,pu,M,fun _ _ _ _ _ R => R⟩
theorem mkEnv_ok {P:Program} {X:FuncId → Option ExtK} {y:Bool} {pu:FuncId → Bool} {M:Memo} {K:Env → Prop} (h:mkEnv P X y pu M K) (hn:(P.funcs.toList.all fun fn => !(fn.name == "runtime.NumGoroutine")) = true) (hX:EOK P X) (hm:P.follows .mixedOrders = true) (hM:MOK P M) :
  ∃ E:Env,K E ∧ E.Ok ∧ E.P = P :=by
 obtain ⟨T,h1,h2⟩ :=putL_ok _ _ _ _ h
 obtain ⟨F,h3,h4⟩ :=putL_ok _ _ _ _ h1
 have hT:TOK P T :=by
  intro t i hi
  have hi:T.get t = some i :=hi
  rw [h2] at hi
  split at hi
  ·rename_i hlt
   have hlt':t < P.types.size :=by simpa using hlt.2
   have hi':P.types[t]? = some i :=by simpa using hi
   show P.toTables.info? t = some i
   unfold Tables.info?
   rw [if_pos hlt']
   exact hi'
  ·simp at hi
 refine ⟨⟨P,T,F,⟨X,eqvOf P T,fun _ _ => false⟩,y,pu,M,fun _ _ _ _ _ R => R⟩,h3,⟨hT,?_,⟨hX,eqvOf_ok hT⟩,hm,hM,fun _ _ _ _ _ _ h => .inr (.inr h)⟩,rfl⟩
 intro f fn hf
 have hf:F.get f = some fn :=hf
 rw [h4] at hf
 split at hf
 ·have hf':P.funcs.toList[f]? = some fn :=by simpa using hf
  refine ⟨by simpa using hf',?_⟩
  have :=List.all_eq_true.1 hn fn (List.mem_of_getElem? hf')
  simpa using this
 ·simp at hf
theorem pure_run {P:Program} {X:FuncId → Option ExtK} {y:Bool} {pu:FuncId → Bool} {M:Memo} {fuel d:Nat} {f:FuncId} {args:List AV} {v:AV} (h:mkEnv P X y pu M fun E => runV E fuel d f args v)
  (hn:(P.funcs.toList.all fun fn => !(fn.name == "runtime.NumGoroutine")) = true) (hX:EOK P X) (hm:P.follows .mixedOrders = true) (hM:MOK P M) (ha:norefs args = true) (hv:noref v = true):Pure P f args v :=by
 obtain ⟨E,h1,h2,rfl⟩ :=mkEnv_ok h hn hX hm hM
 exact runV_ok h2 h1 ha hv
end
end Go.Abs
/-! Runs over values that are not closed: the semantics itself as runner; loops by a relation; pure functions. -/
namespace Go.Abs
open Go
noncomputable section
/-! ### What is known of a state is made less -/
theorem HRel.cutAt {g:Gh} {B:Nat} {w:World} {H:AH} (h:HRel g B w H) {m:Nat} (hb:∀ i,i < m → OBd m (H.o i)):HRel g B w ⟨m,m,fun i => if i < m then H.o i else .hole⟩ :=by
 constructor
 ·intro i hi
  show (if i < m then H.o i else .hole) = _
  rw [if_neg (by simp only at hi;omega)]
 ·intro i hi
  simp only at hi ⊢
  by_cases e:i < m
  ·simp only [if_pos e] at *;exact h.ge i hi
  ·simp [e] at hi
 ·intro i j hi hj
  simp only at hi hj ⊢
  by_cases e:i < m
  ·by_cases e2:j < m
   ·simp only [if_pos e,if_pos e2] at *;exact h.inj i j hi hj
   ·simp [e2] at hj
  ·simp [e] at hi
 ·intro i
  simp only
  by_cases e:i < m
  ·simp only [if_pos e];exact h.rel i
  ·simp only [if_neg e];trivial
 ·intro i
  simp only
  by_cases e:i < m
  ·simp only [if_pos e]
   refine OLive.mono (fun j hj => ?_) (OLive.below (h.live i) (hb i e))
   show (if j < m then H.o j else .hole) ≠ .hole
   rw [if_pos hj.2];exact hj.1
  ·simp only [if_neg e];trivial
 ·intro i
  simp only
  by_cases e:i < m
  ·simp only [if_pos e];exact (hb i e).mono (by omega)
  ·simp only [if_neg e];trivial
 ·exact h.imz
 ·exact h.hB
 ·exact h.gl
theorem Out.congr {g g':Gh} {B:Nat} {w w':World} {H H1 H':AH} (ho:H1.o = H.o) (h:Out g B w H1 g' w' H'):Out g B w H g' w' H' :=by
 have hL:H1.L = H.L :=by funext i;unfold AH.L;rw [ho]
 have hO:∀ k,Owned g H k ↔ Owned g H1 k :=fun k => by unfold Owned;rw [ho]
 exact ⟨h.rel,hL ▸ h.ext,h.below,fun i hi => h.L i (hL ▸ hi),fun k hk hn => h.frame k hk fun e => hn ((hO k).2 e),fun k hk => (h.own k hk).imp (hO k).2 id⟩
theorem Out.cutAt {g g':Gh} {B:Nat} {w w':World} {H H':AH} (h:Out g B w H g' w' H') {m:Nat} (hb:∀ i,i < m → OBd m (H'.o i)) (hm:∀ i,H.L i → i < m) :
  Out g B w H g' w' ⟨m,m,fun i => if i < m then H'.o i else .hole⟩ :=by
 refine ⟨h.rel.cutAt hb,h.ext,h.below,fun i hi => ?_,h.frame,fun k hk => ?_⟩
 ·show (if i < m then H'.o i else .hole) ≠ .hole
  rw [if_pos (hm i hi)];exact h.L i hi
 ·obtain ⟨i,hi,e⟩ :=hk
  simp only at hi e
  by_cases hlt:i < m
  ·simp only [if_pos hlt] at hi e
   exact h.own k ⟨i,hi,e⟩
  ·simp [hlt] at hi
theorem FrRel.cutAt {g:Gh} {B:Nat} {w:World} {σ τ:St} {fr:Frame} {cs:List Frame} (h:FrRel g B w σ fr cs) {m:Nat} (hH:τ.H = ⟨m,m,fun i => if i < m then σ.H.o i else .hole⟩)
  (hb:∀ i,i < m → OBd m (σ.H.o i)) (htm:∀ i a,τ.tm.get i = some a → (a = .unk ∧ ∃ y,σ.tm.get i = some y) ∨ (σ.tm.get i = some a ∧ bd a ≤ m))
  (hdf:σ.df = []) (hdf':τ.df = []) (hpm':τ.pm = .no) (hrd:τ.rd = σ.rd):FrRel g B w τ fr cs :=by
 refine ⟨hH ▸ h.h.cutAt hb,⟨fun t a ht => ?_,fun t a ht => ?_⟩,?_,?_,fun hr => h.rd (hrd ▸ hr)⟩
 ·rcases htm t a ht with ⟨e,y,hy⟩ | ⟨e,_⟩
  ·subst e;exact ⟨(h.tm.rel t y hy).1,trivial⟩
  ·exact h.tm.rel t a e
 ·rcases htm t a ht with ⟨e,y,hy⟩ | ⟨e,hbd⟩
  ·subst e;trivial
  ·rw [hH]
   refine Live.mono (fun i hi => ?_) a (Live.below a (h.tm.live t a e) hbd)
   show (if i < m then σ.H.o i else .hole) ≠ .hole
   rw [if_pos hi.2];exact hi.1
 ·have :=h.df
  rw [hdf] at this
  rw [hdf']
  exact this
 ·rw [hpm'];trivial
theorem SemT.pre {P:Program} {B:Nat} {its:List Item} {σ τ σ':St} {e:AEx} (hw:∀ g fr cs w,FrRel g B w σ fr cs → FrRel g B w τ fr cs) (ho:τ.H.o = σ.H.o) (hpm:τ.pm = σ.pm) (h:SemT P B its τ e σ'):SemT P B its σ e σ' :=by
 intro g fr cs w k hr hmo ht hro k' hk
 obtain ⟨g',fr',cs',w',h1,h2,h3,h4,h5,h6,h7⟩ :=h g fr cs w k (hw g fr cs w hr) hmo ht hro k' hk
 exact ⟨g',fr',cs',w',h1,h2.congr ho,h3,hpm ▸ h4,hpm ▸ h5,h6,h7⟩
theorem SemT.post {P:Program} {B:Nat} {its:List Item} {σ σ1 τ:St} (h:SemT P B its σ .normal σ1) {m:Nat} (hH:τ.H = ⟨m,m,fun i => if i < m then σ1.H.o i else .hole⟩)
  (hb:∀ i,i < m → OBd m (σ1.H.o i)) (htm:∀ i a,τ.tm.get i = some a → (a = .unk ∧ ∃ y,σ1.tm.get i = some y) ∨ (σ1.tm.get i = some a ∧ bd a ≤ m))
  (hdf:σ1.df = []) (hdf':τ.df = []) (hpm':τ.pm = .no) (hrd:τ.rd = σ1.rd) (hm:∀ i,σ.H.L i → i < m):SemT P B its σ .normal τ :=by
 intro g fr cs w k hr hmo ht hro k' hk
 obtain ⟨g',fr',cs',w',h1,h2,h3,h4,h5,h6,h7⟩ :=h g fr cs w k hr hmo ht hro k' hk
 exact ⟨g',fr',cs',w',h1.cutAt hH hb htm hdf hdf' hpm' hrd,hH ▸ h2.cutAt hb hm,h3,h4,(fun _ l e => by rw [hpm'] at e;cases e),h6,h7⟩
/-! ### Ways -/
theorem bool_true {b:Bool} {F T:Prop} (hb:b = true) (h:T):@Bool.rec (fun _ => Prop) F T b :=by subst hb;exact h
theorem bool_false {b:Bool} {F T:Prop} (hb:b = false) (h:F):@Bool.rec (fun _ => Prop) F T b :=by subst hb;exact h
theorem bool_if {b:Bool} {F T:Prop} {p:Prop} (hb:b = true ↔ p) (h1:p → T) (h2:¬ p → F):@Bool.rec (fun _ => Prop) F T b :=by
 cases b with
 |true => exact h1 (hb.1 rfl)
 |false => exact h2 fun h => by cases hb.2 h
/-! ### Numbers -/
theorem wrapI {n:Int} (h1:-9223372036854775808 ≤ n) (h2:n < 9223372036854775808):IntKind.i64.wrap n = n :=by
 unfold IntKind.wrap
 have e1:(2:Int) ^ IntKind.i64.bits = 18446744073709551616 :=rfl
 have e2:(2:Int) ^ (IntKind.i64.bits - 1) = 9223372036854775808 :=rfl
 simp only [e1,e2]
 by_cases h:n % 18446744073709551616 ≥ 9223372036854775808
 ·rw [if_pos (by simp only [Bool.and_eq_true,decide_eq_true_eq];exact ⟨rfl,h⟩)];omega
 ·rw [if_neg (by simp only [Bool.and_eq_true,decide_eq_true_eq];exact fun e => h e.2)];omega
theorem wrapN {m:Nat} (h:m < 9223372036854775808):IntKind.i64.wrap (Int.ofNat m) = Int.ofNat m :=wrapI (by show _ ≤ (m:Int);omega) (by show (m:Int) < _;omega)
/-! ### The runner -/
def symSub (P:Program):Sub where
 code :=fun c s K => HEnd s.h s.n → ∃ e s',K e s' ∧ Aft s s' ∧ SemR P [.code c] s e s'
 fn :=fun f κ args pm h n K => HEnd h n → ∃ e pm' h' n' cw,K e pm' h' n' cw ∧ HEnd h' n' ∧ (∀ x,x < n → x ∉ cw → hv h' x = hv h x) ∧ ∀ (B:Nat) (H:AH),H.o = hv h → ∃ H':AH,H'.o = hv h' ∧ FSem P B f κ args pm H e pm' H'
 call :=fun f args h n K => HEnd h n → ∃ e h' n' cw,K e h' n' cw ∧ HEnd h' n' ∧ (∀ x,x < n → x ∉ cw → hv h' x = hv h x) ∧ ∀ (B:Nat) (H:AH),H.o = hv h → ∃ H':AH,H'.o = hv h' ∧ CSem P B f args H e H'
 loop :=fun c _ s K => HEnd s.h s.n → ∃ e s',K e s' ∧ Aft s s' ∧ ∀ (B:Nat) (H:AH),H.o = hv s.h → ∃ H':AH,H'.o = hv s'.h ∧ SemL P B c (s.st H) e (s'.st H')
 drawn :=fun ops n rs Q => drawnOk ops n rs = true ∧ Q
theorem symSub_ok (P:Program):(symSub P).Ok P where
 code :=fun _ _ _ h he => h he
 fn :=fun _ _ _ _ _ _ _ h he => h he
 call :=fun _ _ _ _ _ h he => h he
 loop :=fun _ _ _ _ _ h he => h he
 drawn :=fun _ _ _ _ h => h
theorem sym_drawn {P:Program} {S:Sub} (hS:S = symSub P) {ops:Array Oper} {n:Nat} {rs:List Rec} {Q:Prop} (h:drawnOk ops n rs = true) (hq:Q):S.drawn ops n rs Q :=by
 subst hS
 exact ⟨h,hq⟩
abbrev PcT :=FuncId → List AV → Tr AObj → (AV → Prop) → (List Nat → AV → Prop) → Prop → Prop
def symPc (P:Program):PcT :=fun f args h Kp Kh R => (∃ v,Kp v ∧ Pure P f args v) ∨ (∃ W v,Kh W v ∧ PureR P f args W (hv h) v) ∨ R
theorem sym_pure {P:Program} {pc:PcT} (hC:pc = symPc P) {f:FuncId} {args:List AV} {h:Tr AObj} {v:AV} {Kp:AV → Prop} {Kh:List Nat → AV → Prop} {R:Prop} (hp:Pure P f args v) (hk:Kp v):pc f args h Kp Kh R :=by
 subst hC
 exact .inl ⟨v,hk,hp⟩
theorem sym_pureW {P:Program} {pc:PcT} (hC:pc = symPc P) {f:FuncId} {args:List AV} {h:Tr AObj} {v:AV} {Kp:AV → Prop} {Kh:List Nat → AV → Prop} {R:Prop} (hp:Pure P f (wkl args) v) (hk:Kp v):pc f args h Kp Kh R :=sym_pure hC hp.ofWk hk
theorem sym_call {P:Program} {pc:PcT} (hC:pc = symPc P) {f:FuncId} {args:List AV} {hp:Tr AObj} {Kp:AV → Prop} {Kh:List Nat → AV → Prop} {R:Prop} (h:R):pc f args hp Kp Kh R :=by
 subst hC
 exact .inr (.inr h)
abbrev EqT :=TypeId → Bool → AV → AV → Option Bool
theorem sym_eq {X:FuncId → Option ExtK} {q q':EqT} (hq:q = q') {neg cst:Bool} {t:TypeId} {x y:AV} {yy:Bool} {s:Nat} {h:Tr AObj} {n:Nat} {K:KP} (b:Bool) (he:q' t cst x y = some b)
  {mu:Option Tmp → TypeId → Bool} (hk:K (.val (.bool (@Bool.rec (fun _ => Bool) b (!b) neg))) [] [] h n):runP (pEq ⟨X,q,mu⟩ neg t cst x y) yy s h n K :=by
 subst hq
 unfold pEq
 simp only [he]
 cases neg <;> exact hk
/-! ### Loops -/
def tset {α:Type} (p:Pa):Tr α → α → Tr α :=
 @Pa.rec (fun _ => Tr α → α → Tr α)
  (fun t x => @Tr.rec α (fun _ => Tr α) .nil (fun _ l r _ _ => .node x l r) t)
  (fun _ ih t x => @Tr.rec α (fun _ => Tr α) .nil (fun v l r _ _ => .node v (ih l x) r) t)
  (fun _ ih t x => @Tr.rec α (fun _ => Tr α) .nil (fun v l r _ _ => .node v l (ih r x)) t) p
theorem tset_same {α:Type} {x:α}:∀ (p:Pa) (t:Tr α),Tr.getP p (tset p t x) = (Tr.getP p t).map fun _ => x
 | .e,.nil => rfl
 | .e,.node _ _ _ => rfl
 | .l _,.nil => rfl
 | .l p,.node _ l _ => tset_same p l
 | .r _,.nil => rfl
 | .r p,.node _ _ r => tset_same p r
theorem getP_nil {α:Type}:∀ (p:Pa),Tr.getP p (.nil:Tr α) = none
 | .e => rfl
 | .l _ => rfl
 | .r _ => rfl
theorem tset_ne {α:Type} {x:α}:∀ (p q:Pa) (t:Tr α),p ≠ q → Tr.getP q (tset p t x) = Tr.getP q t
 | .e,.e,_,h => absurd rfl h
 | .e,.l _,.nil,_ => rfl
 | .e,.r _,.nil,_ => rfl
 | .e,.l _,.node _ _ _,_ => rfl
 | .e,.r _,.node _ _ _,_ => rfl
 | .l _,q,.nil,_ => by rw [getP_nil];exact getP_nil q
 | .r _,q,.nil,_ => by rw [getP_nil];exact getP_nil q
 | .l _,.e,.node _ _ _,_ => rfl
 | .l p,.l q,.node _ l _,h => tset_ne p q l fun e => h (by rw [e])
 | .l _,.r _,.node _ _ _,_ => rfl
 | .r _,.e,.node _ _ _,_ => rfl
 | .r _,.l _,.node _ _ _,_ => rfl
 | .r p,.r q,.node _ _ r,h => tset_ne p q r fun e => h (by rw [e])
theorem pathOf_inj:∀ (i j:Nat),pathOf i = pathOf j → i = j
 | 0,0,_ => rfl
 | 0,j + 1,h => by
  by_cases hp:j % 2 = 0
  ·rw [Tr.pathOf_odd hp] at h;cases h
  ·rw [Tr.pathOf_even hp] at h;cases h
 |i + 1,0,h => by
  by_cases hp:i % 2 = 0
  ·rw [Tr.pathOf_odd hp] at h;cases h
  ·rw [Tr.pathOf_even hp] at h;cases h
 |i + 1,j + 1,h => by
  by_cases hp:i % 2 = 0
  ·by_cases hq:j % 2 = 0
   ·rw [Tr.pathOf_odd hp,Tr.pathOf_odd hq] at h
    have :=pathOf_inj (i / 2) (j / 2) (by injection h)
    omega
   ·rw [Tr.pathOf_odd hp,Tr.pathOf_even hq] at h;cases h
  ·by_cases hq:j % 2 = 0
   ·rw [Tr.pathOf_even hp,Tr.pathOf_odd hq] at h;cases h
   ·rw [Tr.pathOf_even hp,Tr.pathOf_even hq] at h
    have :=pathOf_inj (i / 2) (j / 2) (by injection h)
    omega
theorem tset_get {α:Type} (t:Tr α) (i j:Nat) (x:α):(tset (pathOf i) t x).get j = if j = i then (t.get j).map fun _ => x else t.get j :=by
 unfold Tr.get
 by_cases e:j = i
 ·subst e;rw [if_pos rfl];exact tset_same _ _
 ·rw [if_neg e];exact tset_ne _ _ _ fun h => e (pathOf_inj _ _ h).symm
def tput {α:Type} (l:List (Nat × α)) (t:Tr α):Tr α :=
 @List.rec (Nat × α) (fun _ => Tr α → Tr α) (fun t => t) (fun p _ ih t => @Prod.rec Nat α (fun _ => Tr α) (fun i x => ih (tset (pathOf i) t x)) p) l t
def keysOf {α:Type} (l:List (Nat × α)):List Nat :=l.map (·.1)
theorem tput_get {α:Type}:∀ (l:List (Nat × α)) (t:Tr α) (j:Nat) (a:α),(tput l t).get j = some a → (∃ y,t.get j = some y) ∧ ((j,a) ∈ l ∨ (j ∉ keysOf l ∧ t.get j = some a))
 | [],t,j,a,h => ⟨⟨a,h⟩,.inr ⟨by simp [keysOf],h⟩⟩
 |(i,x) :: l,t,j,a,h => by
  obtain ⟨⟨y,h1⟩,h2⟩ :=tput_get l (tset (pathOf i) t x) j a h
  rw [tset_get] at h1 h2
  by_cases e:j = i
  ·subst e
   rw [if_pos rfl] at h1 h2
   cases ht:t.get j with
   |none => rw [ht] at h1;cases h1
   |some z =>
    refine ⟨⟨z,rfl⟩,?_⟩
    rcases h2 with h2 | ⟨h2,h3⟩
    ·exact .inl (List.mem_cons_of_mem _ h2)
    ·rw [ht] at h3
     simp only [Option.map_some,Option.some.injEq] at h3
     subst h3
     exact .inl (List.mem_cons_self ..)
  ·rw [if_neg e] at h1 h2
   refine ⟨⟨y,h1⟩,?_⟩
   rcases h2 with h2 | ⟨h2,h3⟩
   ·exact .inl (List.mem_cons_of_mem _ h2)
   ·exact .inr ⟨by simp only [keysOf,List.map_cons,List.mem_cons,not_or];exact ⟨e,h2⟩,h3⟩
theorem tput_dom {α:Type}:∀ (l:List (Nat × α)) (t:Tr α) (j:Nat),(tput l t).get j = none ↔ t.get j = none
 | [],_,_ => Iff.rfl
 |(i,x) :: l,t,j => by
  have :=tput_dom l (tset (pathOf i) t x) j
  rw [tset_get] at this
  by_cases e:j = i
  ·rw [if_pos e] at this
   rw [show (tput ((i,x) :: l) t).get j = (tput l (tset (pathOf i) t x)).get j from rfl,this]
   cases t.get j <;> simp
  ·rw [if_neg e] at this
   exact this
def unkT (t:Tr AV):Tr AV :=@Tr.rec AV (fun _ => Tr AV) .nil (fun _ _ _ l r => .node .unk l r) t
theorem unkP:∀ (p:Pa) (t:Tr AV),Tr.getP p (unkT t) = (Tr.getP p t).map fun _ => .unk
 | .e,.nil => rfl
 | .e,.node _ _ _ => rfl
 | .l _,.nil => rfl
 | .l p,.node _ l _ => unkP p l
 | .r _,.nil => rfl
 | .r p,.node _ _ r => unkP p r
theorem unkT_get (t:Tr AV) (j:Nat):(unkT t).get j = (t.get j).map fun _ => .unk :=unkP _ _
def TmIs (n:Nat) (tm:Tr AV) (l:List (Nat × AV)):Prop :=
 @List.rec (Nat × AV) (fun _ => Prop) True (fun p _ ih => @Prod.rec Nat AV (fun _ => Prop) (fun i x => (tm.get i = some x ∧ bd x ≤ n) ∧ ih) p) l
theorem TmIs.mem {n:Nat} {tm:Tr AV}:∀ {l:List (Nat × AV)},TmIs n tm l → ∀ j a,(j,a) ∈ l → tm.get j = some a ∧ bd a ≤ n
 |(i,x) :: l,h,j,a,hm => by
  rcases List.mem_cons.1 hm with e | hm
  ·cases e;exact h.1
  ·exact TmIs.mem h.2 j a hm
def BdT (n:Nat) (t:Tr AV):Prop :=@Tr.rec AV (fun _ => Prop) True (fun v _ _ l r => bd v ≤ n ∧ l ∧ r) t
theorem BdT.get {n:Nat}:∀ (p:Pa) (t:Tr AV),BdT n t → ∀ a,Tr.getP p t = some a → bd a ≤ n
 | .e,.nil,_,a,h => by cases h
 | .e,.node v _ _,hb,a,h => by cases h;exact hb.1
 | .l _,.nil,_,a,h => by cases h
 | .l p,.node _ l _,hb,a,h => BdT.get p l hb.2.1 a h
 | .r _,.nil,_,a,h => by cases h
 | .r p,.node _ _ r,hb,a,h => BdT.get p r hb.2.2 a h
def BdE (n:Nat) (es:List (AV × AV)):Prop :=@List.rec (AV × AV) (fun _ => Prop) True (fun p _ ih => @Prod.rec AV AV (fun _ => Prop) (fun a b => bd a ≤ n ∧ bd b ≤ n ∧ ih) p) es
theorem BdE.mem {n:Nat}:∀ {es:List (AV × AV)},BdE n es → ∀ p,p ∈ es → bd p.1 ≤ n ∧ bd p.2 ≤ n
 |(a,b) :: es,h,p,hp => by
  rcases List.mem_cons.1 hp with e | hp
  ·subst e;exact ⟨h.1,h.2.1⟩
  ·exact BdE.mem h.2.2 p hp
def BdO (n:Nat):AObj → Prop
 | .cells t _ _ => BdT n t
 | .mrow xs _ _ _ => bdl xs ≤ n
 | .mapo es => BdE n es
 | .miter m _ _ _ => m < n
 | .loop _ _ tm _ _ _ _ dfr => BdT n tm ∧ dfr < n
 | _ => True
theorem BdO.ok {n:Nat} {x:AObj} (h:BdO n x):OBd n x :=by
 cases x with
 |cells t m ty => exact fun j a hj => BdT.get (pathOf j) t h a hj
 |mapo es => exact h.mem
 |mrow => exact h
 |miter => exact h
 |loop => exact ⟨fun j a hj => BdT.get (pathOf j) _ h.1 a hj,h.2⟩
 | _ => trivial
def ObIs (n:Nat) (h h':Tr AObj) (k:Nat):Prop :=
 @Nat.rec (fun _ => Prop) True (fun i ih => (hv h i = hv h' i ∧ BdO n (hv h' i)) ∧ ih) k
theorem ObIs.lt {n:Nat} {h h':Tr AObj}:∀ {k:Nat},ObIs n h h' k → ∀ i,i < k → hv h i = hv h' i ∧ OBd n (hv h' i)
 |k + 1,hk,i,hi => by
  by_cases e:i = k
  ·subst e;exact ⟨hk.1.1,hk.1.2.ok⟩
  ·exact ObIs.lt hk.2 i (by omega)
def kept (tm:Tr AV) (l:List Nat):List (Nat × AV) :=@List.rec Nat (fun _ => List (Nat × AV)) [] (fun i _ ih => (i,aev tm (.tmp i)) :: ih) l
def apL {α:Type} (l m:List α):List α :=@List.rec α (fun _ => List α) m (fun x _ ih => x :: ih) l
def head (tm:Tr AV) (rd:Bool) (h:Tr AObj) (n:Nat) (keep:List Nat) (ut:List (Nat × AV)) (uh:List (Nat × AObj)):AS :=
 ⟨tput (apL (kept tm keep) ut) (unkT tm),[],.no,rd,tput uh h,n,0,[]⟩
structure AtHead (tm:Tr AV) (rd:Bool) (h:Tr AObj) (n:Nat) (keep:List Nat) (ut:List (Nat × AV)) (uh:List (Nat × AObj)) (s':AS):Prop where
 df:s'.df = []
 pm:s'.pm = .no
 rd:s'.rd = rd
 dom:unkT s'.tm = unkT tm
 tm:TmIs n s'.tm (apL (kept tm keep) ut)
 ob:ObIs n s'.h (tput uh h) n
theorem tput_end {uh:List (Nat × AObj)} {h:Tr AObj} {n:Nat} (he:HEnd h n):HEnd (tput uh h) n :=fun i hi => (tput_dom uh h i).2 (he i hi)
section
variable {tm:Tr AV} {rd:Bool} {h:Tr AObj} {n:Nat} {s':AS} {keep:List Nat} {ut:List (Nat × AV)} {uh:List (Nat × AObj)}
theorem AtHead.tms (ha:AtHead tm rd h n keep ut uh s'):∀ i a,(head tm rd h n keep ut uh).tm.get i = some a →
  (a = .unk ∧ ∃ y,s'.tm.get i = some y) ∨ (s'.tm.get i = some a ∧ bd a ≤ n) :=by
 intro i a hi
 obtain ⟨⟨y,h1⟩,h2⟩ :=tput_get _ _ _ _ hi
 rcases h2 with h2 | ⟨_,h3⟩
 ·exact .inr (ha.tm.mem i a h2)
 ·rw [unkT_get] at h3
  have hd:(s'.tm.get i).map (fun _ => AV.unk) = (tm.get i).map fun _ => AV.unk :=by rw [← unkT_get,← unkT_get,ha.dom]
  cases hs:tm.get i with
  |none => rw [hs] at h3;cases h3
  |some z =>
   rw [hs] at h3 hd
   simp only [Option.map_some,Option.some.injEq] at h3
   subst h3
   cases hs':s'.tm.get i with
   |none => rw [hs'] at hd;cases hd
   |some z' => exact .inl ⟨rfl,z',rfl⟩
theorem AtHead.obj (ha:AtHead tm rd h n keep ut uh s') (he:HEnd h n):hv (head tm rd h n keep ut uh).h = fun i => if i < n then hv s'.h i else .hole :=by
 funext i
 by_cases e:i < n
 ·rw [if_pos e];exact (ha.ob.lt i e).1.symm
 ·rw [if_neg e];exact (tput_end he).hole (by omega)
theorem AtHead.bd (ha:AtHead tm rd h n keep ut uh s'):∀ i,i < n → OBd n (hv s'.h i) :=fun i hi => by
 obtain ⟨e,hb⟩ :=ha.ob.lt i hi
 rw [e];exact hb
theorem AtHead.frRel (ha:AtHead tm rd h n keep ut uh s') {H:AH} (hH:H.o = hv s'.h)
  {g:Gh} {B:Nat} {w:World} {fr:Frame} {cs:List Frame} (hr:FrRel g B w (s'.st H) fr cs) :
  FrRel g B w ((head tm rd h n keep ut uh).st ⟨n,n,fun i => if i < n then hv s'.h i else .hole⟩) fr cs :=
 hr.cutAt (by show AH.mk _ _ _ = AH.mk _ _ (fun i => if i < n then H.o i else .hole);rw [hH]) (fun i hi => by show OBd n (H.o i);rw [hH];exact ha.bd i hi) ha.tms ha.df rfl rfl ha.rd.symm
end
theorem sym_loop {E:Env} (hE:E.Ok) {S:Sub} (hS:S = symSub E.P) {A:Type} {c:Code} {f:AS → KE → Prop} {tm:Tr AV} {df:List ADf} {pm:APm} {rd:Bool} {h:Tr AObj} {n b:Nat} {wr:List Nat} {K:KE}
  (keep:List Nat) (ut:A → List (Nat × AV)) (uh:A → List (Nat × AObj)) (I:A → Prop) (m:A → Nat) (a0:A)
  (hb:b = 0) (hw:wr = []) (h0:AtHead tm rd h n keep (ut a0) (uh a0) ⟨tm,df,pm,rd,h,n,b,wr⟩) (hI:I a0)
  (step:∀ a,I a → exC c E S (head tm rd h n keep (ut a) (uh a)) fun e s' => @AEx.rec (fun _ => Prop) (∃ a',I a' ∧ m a' < m a ∧ AtHead tm rd h n keep (ut a') (uh a') s')
   (fun id => K (.exit id) s') (K .ret s') (fun l => K (.panic l) s') e):S.loop c f ⟨tm,df,pm,rd,h,n,b,wr⟩ K :=by
 subst hS
 intro he
 simp only at he
 have main:∀ (k:Nat) (a:A),I a → m a < k → ∃ e s',K e s' ∧ Aft (head tm rd h n keep (ut a) (uh a)) s' ∧ ∀ (B:Nat) (H:AH),H.o = hv (head tm rd h n keep (ut a) (uh a)).h →
   ∃ H':AH,H'.o = hv s'.h ∧ SemL E.P B c ((head tm rd h n keep (ut a) (uh a)).st H) e (s'.st H') :=by
  intro k
  induction k with
  |zero => intro a _ h;omega
  |succ k ih =>
   intro a hIa hm
   have hea:HEnd (head tm rd h n keep (ut a) (uh a)).h (head tm rd h n keep (ut a) (uh a)).n :=tput_end he
   obtain ⟨e,s1,h1,h2,h3⟩ :=exC_ok hE (symSub_ok E.P) c _ _ (step a hIa) hea
   by_cases hn:e = .normal
   ·subst hn
    obtain ⟨a',hIa',hlt,hah⟩ :=h1
    obtain ⟨e2,s2,q1,q2,q3⟩ :=ih a' hIa' (by omega)
    refine ⟨e2,s2,q1,⟨q2.he,q2.b,⟨fun x hx => (by cases hx),fun x hx => absurd hx (Nat.not_lt_zero x)⟩⟩,fun B H hH => ?_⟩
    obtain ⟨H1,k1,k2⟩ :=h3 B H hH
    obtain ⟨H2,k3,k4⟩ :=q3 B ⟨n,n,fun i => if i < n then hv s1.h i else .hole⟩ (hah.obj he).symm
    refine ⟨H2,k3,SemL.next ?_ k4⟩
    refine SemT.post k2 (m :=n) ?_ (fun i hi => by show OBd n (H1.o i);rw [k1];exact hah.bd i hi) hah.tms hah.df rfl rfl hah.rd.symm fun i hi => ?_
    ·show AH.mk _ _ _ = AH.mk _ _ (fun i => if i < n then H1.o i else .hole)
     rw [k1]
    ·apply Nat.lt_of_not_le
     intro hle
     have hi:H.o i ≠ .hole :=hi
     rw [hH] at hi
     exact hi (hea.hole hle)
   ·refine ⟨e,s1,?_,h2,fun B H hH => ?_⟩
    ·cases e <;> first
      |exact absurd rfl hn
      |exact h1
    ·obtain ⟨H1,k1,k2⟩ :=h3 B H hH
     exact ⟨H1,k1,SemL.stop k2 hn⟩
 obtain ⟨e,s',h1,h2,h3⟩ :=main (m a0 + 1) a0 hI (by omega)
 refine ⟨e,s',h1,⟨h2.he,h2.b.trans hb.symm,?_⟩,fun B H hH => ?_⟩
 ·show Kept b h wr _ _
  rw [hb,hw]
  exact ⟨fun x hx => (by cases hx),fun x hx => absurd hx (Nat.not_lt_zero x)⟩
 ·obtain ⟨H',k1,k2⟩ :=h3 B ⟨n,n,fun i => if i < n then hv h i else .hole⟩ (h0.obj he).symm
  refine ⟨H',k1,SemT.pre (fun g fr cs w hr => h0.frRel hH hr) ?_ (by show APm.no = pm;exact h0.pm.symm) k2⟩
  show (fun i => if i < n then hv h i else .hole) = H.o
  rw [hH]
  funext i
  by_cases e:i < n
  ·rw [if_pos e]
  ·rw [if_neg e];exact (he.hole (by omega)).symm
theorem sym_unroll {E:Env} (hE:E.Ok) {S:Sub} (hS:S = symSub E.P) {c:Code} {f:AS → KE → Prop} {s:AS} {K:KE}
  (h:exC c E S s fun e s' => @AEx.rec (fun _ => Prop) (S.loop c f s' K) (fun id => K (.exit id) s') (K .ret s') (fun l => K (.panic l) s') e):S.loop c f s K :=by
 subst hS
 intro he
 obtain ⟨e,s1,h1,h2,h3⟩ :=exC_ok hE (symSub_ok E.P) c _ _ h he
 by_cases hn:e = .normal
 ·subst hn
  obtain ⟨e2,s2,q1,q2,q3⟩ :=h1 h2.he
  refine ⟨e2,s2,q1,h2.trans q2,fun B H hH => ?_⟩
  obtain ⟨H1,k1,k2⟩ :=h3 B H hH
  obtain ⟨H2,k3,k4⟩ :=q3 B H1 k1
  exact ⟨H2,k3,SemL.next k2 k4⟩
 ·refine ⟨e,s1,?_,h2,fun B H hH => ?_⟩
  ·cases e <;> first
    |exact absurd rfl hn
    |exact h1
  ·obtain ⟨H1,k1,k2⟩ :=h3 B H hH
   exact ⟨H1,k1,SemL.stop k2 hn⟩
/-! ### Functions -/
def step (E:Env) (S:Sub):Sub :=⟨fun c s K => exC c E S s K,S.fn,S.call,S.loop,S.drawn⟩
theorem step_ok {E:Env} (hE:E.Ok):(step E (symSub E.P)).Ok E.P :=
 ⟨exC_ok hE (symSub_ok E.P),(symSub_ok E.P).fn,(symSub_ok E.P).call,(symSub_ok E.P).loop,(symSub_ok E.P).drawn⟩
theorem sym_inline {E:Env} (hE:E.Ok) {S:Sub} (hS:S = symSub E.P) {f:FuncId} {args:List AV} {h:Tr AObj} {n:Nat} {K:AEnd → Tr AObj → Nat → List Nat → Prop}
  (hk:exFn E (step E S) f .normal args .no h n fun e _ h n cw => K e h n cw):S.call f args h n K :=by
 subst hS
 intro he
 obtain ⟨e,pm',h',n',cw,k1,k2,kf,k3⟩ :=exFn_ok hE (step_ok hE) f .normal args .no h n _ hk he
 refine ⟨e,h',n',cw,k1,k2,kf,fun B H hH => ?_⟩
 obtain ⟨H',k4,k5⟩ :=k3 B H hH
 exact ⟨H',k4,CSem.of_F k5⟩
theorem pure_sym {P:Program} {E:EqT → PcT → Env} {q0:EqT} (hE:(E q0 (symPc P)).Ok) (hP:(E q0 (symPc P)).P = P) {f:FuncId} {args:List AV} {v:AV} (ha:Lives noL args) (hl:Live noL v)
  (h:∀ S q pc,S = symSub P → q = q0 → pc = symPc P → (E q pc).Ok → exFn (E q pc) (step (E q pc) S) f .normal args .no .nil 0 fun e _ _ _ _ => ∃ u,e = .ret u ∧ Wk u v):Pure P f args v :=by
 have hs :=step_ok hE
 obtain ⟨e,pm',h',n',_,⟨u,rfl,hw⟩,_,_,h3⟩ :=exFn_ok hE (S :=step (E q0 (symPc P)) (symSub P)) (by rw [hP] at hs;rw [hP];exact hs) f .normal args .no .nil 0 _ (h _ _ _ rfl rfl rfl hE) HEnd_nil
 refine pure_of (fun B => ?_) ha hw hl
 obtain ⟨H',h4,h5⟩ :=h3 B AH.nil hv_nil.symm
 rw [hP] at h5
 exact ⟨H',CSem.of_F h5⟩
end
end Go.Abs

namespace Go.Abs
open Go
noncomputable section

end
end Go.Abs
/-! Loops whose heads may have new objects, and forget who owns a list's spare places. -/
namespace Go.Abs
open Go
noncomputable section
structure WkV (y a:AV):Prop where
 wk:Wk y a
 lv:∀ L,Live L y → Live L a
theorem WkV.refl (a:AV):WkV a a :=⟨Wk.refl a,fun _ h => h⟩
theorem WkV.unk (y:AV):WkV y .unk :=⟨fun _ _ _ _ => trivial,fun _ _ => trivial⟩
theorem WkV.own (xs:List AV) (n:Nat) (o:Own):WkV (.lst xs n o) (.lst xs n .no) :=by
 refine ⟨fun g w u hu => ?_,fun L h => ⟨h.1,fun _ e => nomatch e⟩⟩
 simp only [VRel] at hu ⊢
 obtain ⟨b,off,cap,h1,h2,h3,h4,_⟩ :=hu
 exact ⟨b,off,cap,h1,h2,h3,h4,trivial⟩
theorem FrRel.cutW {g:Gh} {B:Nat} {w:World} {σ τ:St} {fr:Frame} {cs:List Frame} (h:FrRel g B w σ fr cs) {m:Nat} (hH:τ.H = ⟨m,m,fun i => if i < m then σ.H.o i else .hole⟩)
  (hb:∀ i,i < m → OBd m (σ.H.o i)) (htm:∀ i a,τ.tm.get i = some a → ∃ y,σ.tm.get i = some y ∧ WkV y a ∧ bd a ≤ m)
  (hdf:σ.df = []) (hdf':τ.df = []) (hpm':τ.pm = .no) (hrd:τ.rd = σ.rd):FrRel g B w τ fr cs :=by
 refine ⟨hH ▸ h.h.cutAt hb,⟨fun t a ht => ?_,fun t a ht => ?_⟩,?_,?_,fun hr => h.rd (hrd ▸ hr)⟩
 ·obtain ⟨y,hy,hw,_⟩ :=htm t a ht
  have :=h.tm.rel t y hy
  exact ⟨this.1,hw.wk _ _ _ this.2⟩
 ·obtain ⟨y,hy,hw,hbd⟩ :=htm t a ht
  rw [hH]
  refine Live.mono (fun i hi => ?_) a (Live.below a (hw.lv _ (h.tm.live t y hy)) hbd)
  show (if i < m then σ.H.o i else .hole) ≠ .hole
  rw [if_pos hi.2];exact hi.1
 ·have :=h.df
  rw [hdf] at this
  rw [hdf']
  exact this
 ·rw [hpm'];trivial
theorem SemT.postW {P:Program} {B:Nat} {its:List Item} {σ σ1 τ:St} {e:AEx} (he:e = .normal ∨ ∃ id,e = .exit id) (h:SemT P B its σ e σ1) {m:Nat} (hH:τ.H = ⟨m,m,fun i => if i < m then σ1.H.o i else .hole⟩)
  (hb:∀ i,i < m → OBd m (σ1.H.o i)) (htm:∀ i a,τ.tm.get i = some a → ∃ y,σ1.tm.get i = some y ∧ WkV y a ∧ bd a ≤ m)
  (hdf:σ1.df = []) (hdf':τ.df = []) (hpm':τ.pm = .no) (hrd:τ.rd = σ1.rd) (hm:∀ i,σ.H.L i → i < m):SemT P B its σ e τ :=by
 intro g fr cs w k hr hmo ht hro k' hk
 obtain ⟨g',fr',cs',w',h1,h2,h3,h4,h5,h6,h7⟩ :=h g fr cs w k hr hmo ht hro k' hk
 refine ⟨g',fr',cs',w',h1.cutW hH hb htm hdf hdf' hpm' hrd,hH ▸ h2.cutAt hb hm,h3,h4,(fun _ l e => by rw [hpm'] at e;cases e),?_,h7⟩
 rcases he with rfl | ⟨id,rfl⟩
 ·exact h6
 ·exact h6
/-! ### New places -/
def tadd {α:Type} (p:Pa):Tr α → α → Tr α :=
 @Pa.rec (fun _ => Tr α → α → Tr α)
  (fun t x => @Tr.rec α (fun _ => Tr α) (.node x .nil .nil) (fun _ l r _ _ => .node x l r) t)
  (fun _ ih t x => @Tr.rec α (fun _ => Tr α) .nil (fun v l r _ _ => .node v (ih l x) r) t)
  (fun _ ih t x => @Tr.rec α (fun _ => Tr α) .nil (fun v l r _ _ => .node v l (ih r x)) t) p
theorem tadd_ne {α:Type} {x:α}:∀ (p q:Pa) (t:Tr α),p ≠ q → Tr.getP q (tadd p t x) = Tr.getP q t
 | .e,.e,_,h => absurd rfl h
 | .e,.l q,.nil,_ => by show Tr.getP q (.nil:Tr α) = _;rw [getP_nil,getP_nil]
 | .e,.r q,.nil,_ => by show Tr.getP q (.nil:Tr α) = _;rw [getP_nil,getP_nil]
 | .e,.l _,.node _ _ _,_ => rfl
 | .e,.r _,.node _ _ _,_ => rfl
 | .l _,_,.nil,_ => rfl
 | .r _,_,.nil,_ => rfl
 | .l _,.e,.node _ _ _,_ => rfl
 | .l p,.l q,.node _ l _,h => tadd_ne p q l fun e => h (by rw [e])
 | .l _,.r _,.node _ _ _,_ => rfl
 | .r _,.e,.node _ _ _,_ => rfl
 | .r _,.l _,.node _ _ _,_ => rfl
 | .r p,.r q,.node _ _ r,h => tadd_ne p q r fun e => h (by rw [e])
def appT (xs:List AObj):Nat → Tr AObj → Tr AObj :=@List.rec AObj (fun _ => Nat → Tr AObj → Tr AObj) (fun _ h => h) (fun x _ ih n h => ih (Nat.succ n) (tadd (pathOf n) h x)) xs
theorem appT_end:∀ (xs:List AObj) (n:Nat) (h:Tr AObj),HEnd h n → HEnd (appT xs n h) (n + xs.length)
 | [],_,_,he => he
 |x :: xs,n,h,he => by
  have h1:HEnd (tadd (pathOf n) h x) (n + 1) :=fun i hi => by
   unfold Tr.get
   rw [tadd_ne _ _ _ fun e => by have :=pathOf_inj _ _ e;omega]
   exact he i (by omega)
  have :=appT_end xs (n + 1) _ h1
  rw [List.length_cons,show n + (xs.length + 1) = n + 1 + xs.length by omega]
  exact this
def endN (xs:List AObj):Nat → Nat :=@List.rec AObj (fun _ => Nat → Nat) (fun n => n) (fun _ _ ih n => ih (Nat.succ n)) xs
theorem endN_eq:∀ (xs:List AObj) (n:Nat),endN xs n = n + xs.length
 | [],_ => rfl
 | _ :: xs,n => by
  have :=endN_eq xs (n + 1)
  rw [List.length_cons]
  show endN xs (n + 1) = _
  omega
def TmIw (n:Nat) (tm:Tr AV) (l:List (Nat × AV)):Prop :=
 @List.rec (Nat × AV) (fun _ => Prop) True (fun p _ ih => @Prod.rec Nat AV (fun _ => Prop) (fun i x => ((∃ y,tm.get i = some y ∧ WkV y x) ∧ bd x ≤ n) ∧ ih) p) l
theorem TmIw.mem {n:Nat} {tm:Tr AV}:∀ {l:List (Nat × AV)},TmIw n tm l → ∀ j a,(j,a) ∈ l → (∃ y,tm.get j = some y ∧ WkV y a) ∧ bd a ≤ n
 |(i,x) :: l,h,j,a,hm => by
  rcases List.mem_cons.1 hm with e | hm
  ·cases e;exact h.1
  ·exact TmIw.mem h.2 j a hm
def headG (tm:Tr AV) (rd:Bool) (h:Tr AObj) (n b:Nat) (W:List Nat) (keep:List Nat) (ut:List (Nat × AV)) (uh:List (Nat × AObj)) (ux:List AObj):AS :=
 ⟨tput (apL (kept tm keep) ut) (unkT tm),[],.no,rd,appT ux n (tput uh h),endN ux n,b,W⟩
structure AtG (tm:Tr AV) (rd:Bool) (h:Tr AObj) (n b:Nat) (W:List Nat) (keep:List Nat) (ut:List (Nat × AV)) (uh:List (Nat × AObj)) (ux:List AObj) (s':AS):Prop where
 df:s'.df = []
 pm:s'.pm = .no
 rd:s'.rd = rd
 b:s'.b = b
 wr:s'.wr = W
 dom:unkT s'.tm = unkT tm
 all:∃ N,N = endN ux n ∧ TmIw N s'.tm (apL (kept tm keep) ut) ∧ ObIs N s'.h (appT ux n (tput uh h)) N
section
variable {tm:Tr AV} {rd:Bool} {h:Tr AObj} {n b:Nat} {W:List Nat} {s':AS} {keep:List Nat} {ut:List (Nat × AV)} {uh:List (Nat × AObj)} {ux:List AObj}
theorem AtG.tmI (ha:AtG tm rd h n b W keep ut uh ux s'):TmIw (n + ux.length) s'.tm (apL (kept tm keep) ut) :=by
 obtain ⟨N,e,h1,_⟩ :=ha.all
 rw [endN_eq] at e
 subst e;exact h1
theorem AtG.obI (ha:AtG tm rd h n b W keep ut uh ux s'):ObIs (n + ux.length) s'.h (appT ux n (tput uh h)) (n + ux.length) :=by
 obtain ⟨N,e,_,h2⟩ :=ha.all
 rw [endN_eq] at e
 subst e;exact h2
theorem headG_end (he:HEnd h n):HEnd (headG tm rd h n b W keep ut uh ux).h (headG tm rd h n b W keep ut uh ux).n :=by
 show HEnd _ (endN ux n)
 rw [endN_eq]
 exact appT_end ux n _ (tput_end he)
theorem AtG.tms (ha:AtG tm rd h n b W keep ut uh ux s'):∀ i a,(headG tm rd h n b W keep ut uh ux).tm.get i = some a → ∃ y,s'.tm.get i = some y ∧ WkV y a ∧ bd a ≤ n + ux.length :=by
 intro i a hi
 obtain ⟨⟨y,h1⟩,h2⟩ :=tput_get _ _ _ _ hi
 rcases h2 with h2 | ⟨_,h3⟩
 ·obtain ⟨⟨y,k1,k2⟩,k3⟩ :=ha.tmI.mem i a h2
  exact ⟨y,k1,k2,k3⟩
 ·rw [unkT_get] at h3
  have hd:(s'.tm.get i).map (fun _ => AV.unk) = (tm.get i).map fun _ => AV.unk :=by rw [← unkT_get,← unkT_get,ha.dom]
  cases hs:tm.get i with
  |none => rw [hs] at h3;cases h3
  |some z =>
   rw [hs] at h3 hd
   simp only [Option.map_some,Option.some.injEq] at h3
   subst h3
   cases hs':s'.tm.get i with
   |none => rw [hs'] at hd;cases hd
   |some z' => exact ⟨z',rfl,WkV.unk z',Nat.zero_le _⟩
theorem AtG.obj (ha:AtG tm rd h n b W keep ut uh ux s') (he:HEnd h n):hv (headG tm rd h n b W keep ut uh ux).h = fun i => if i < n + ux.length then hv s'.h i else .hole :=by
 funext i
 by_cases e:i < n + ux.length
 ·rw [if_pos e];exact (ha.obI.lt i e).1.symm
 ·rw [if_neg e];exact (headG_end (tm :=tm) (rd :=rd) (b :=b) (W :=W) (keep :=keep) (ut :=ut) (uh :=uh) (ux :=ux) he).hole (by show endN ux n ≤ i;rw [endN_eq];omega)
theorem AtG.bd (ha:AtG tm rd h n b W keep ut uh ux s'):∀ i,i < n + ux.length → OBd (n + ux.length) (hv s'.h i) :=fun i hi => by
 obtain ⟨e,hb⟩ :=ha.obI.lt i hi
 rw [e];exact hb
theorem AtG.same (ha:AtG tm rd h n b W keep ut uh ux s'):∀ x,x < n + ux.length → hv (headG tm rd h n b W keep ut uh ux).h x = hv s'.h x :=fun x hx => (ha.obI.lt x hx).1.symm
end
theorem sym_loopG {E:Env} (hE:E.Ok) {S:Sub} (hS:S = symSub E.P) {A:Type} {c:Code} {f:AS → KE → Prop} {tm:Tr AV} {df:List ADf} {pm:APm} {rd:Bool} {h:Tr AObj} {n b:Nat} {W:List Nat} {K:KE}
  (keep:List Nat) (ut:A → List (Nat × AV)) (uh:A → List (Nat × AObj)) (ux:A → List AObj) (I:A → Prop) (m:A → Nat) (a0:A) (hbn:b ≤ n) (hu0:ux a0 = [])
  (h0:AtG tm rd h n b W keep (ut a0) (uh a0) (ux a0) ⟨tm,df,pm,rd,h,n,b,W⟩) (hI:I a0)
  (step:∀ a,I a → ∀ N,N = endN (ux a) n → exC c E S ⟨tput (apL (kept tm keep) (ut a)) (unkT tm),[],.no,rd,appT (ux a) n (tput (uh a) h),N,b,W⟩ fun e s' => @AEx.rec (fun _ => Prop)
   (∃ a',I a' ∧ m a' < m a ∧ (ux a).length ≤ (ux a').length ∧ AtG tm rd h n b W keep (ut a') (uh a') (ux a') s')
   (fun id => K (.exit id) s' ∨ ∃ (ut':List (Nat × AV)) (uh':List (Nat × AObj)) (ux':List AObj) (N:Nat),N = endN ux' n ∧ (ux a).length ≤ ux'.length ∧ AtG tm rd h n b W keep ut' uh' ux' s' ∧ K (.exit id) ⟨tput (apL (kept tm keep) ut') (unkT tm),[],.no,rd,appT ux' n (tput uh' h),N,b,W⟩)
   (K .ret s') (fun l => K (.panic l) s') e):S.loop c f ⟨tm,df,pm,rd,h,n,b,W⟩ K :=by
 subst hS
 intro he
 simp only at he
 have main:∀ (k:Nat) (a:A),I a → m a < k → ∃ e s',K e s' ∧ Aft (headG tm rd h n b W keep (ut a) (uh a) (ux a)) s' ∧ ∀ (B:Nat) (H:AH),H.o = hv (headG tm rd h n b W keep (ut a) (uh a) (ux a)).h →
   ∃ H':AH,H'.o = hv s'.h ∧ SemL E.P B c ((headG tm rd h n b W keep (ut a) (uh a) (ux a)).st H) e (s'.st H') :=by
  intro k
  induction k with
  |zero => intro a _ h;omega
  |succ k ih =>
   intro a hIa hm
   have hea :=headG_end (tm :=tm) (rd :=rd) (b :=b) (W :=W) (keep :=keep) (ut :=ut a) (uh :=uh a) (ux :=ux a) he
   obtain ⟨e,s1,h1,h2,h3⟩ :=exC_ok hE (symSub_ok E.P) c _ _ (step a hIa _ rfl) hea
   have livelt:∀ (H:AH),H.o = hv (headG tm rd h n b W keep (ut a) (uh a) (ux a)).h → ∀ i,H.L i → i < n + (ux a).length :=fun H hH i hi => by
    apply Nat.lt_of_not_le
    intro hle
    have hi:H.o i ≠ .hole :=hi
    rw [hH] at hi
    exact hi (hea.hole (by show endN (ux a) n ≤ i;rw [endN_eq];exact hle))
   have keptTo:∀ (ut':List (Nat × AV)) (uh':List (Nat × AObj)) (ux':List AObj),AtG tm rd h n b W keep ut' uh' ux' s1 → Kept b (headG tm rd h n b W keep (ut a) (uh a) (ux a)).h W (headG tm rd h n b W keep ut' uh' ux').h W :=by
    intro ut' uh' ux' hah
    have k1:Kept b (headG tm rd h n b W keep (ut a) (uh a) (ux a)).h W s1.h s1.wr :=h2.kept
    rw [hah.wr] at k1
    exact ⟨fun x hx => hx,fun x hx hn => (hah.same x (by omega)).trans (k1.same x hx hn)⟩
   have postTo:∀ (ut':List (Nat × AV)) (uh':List (Nat × AObj)) (ux':List AObj),(e = .normal ∨ ∃ id,e = .exit id) → (ux a).length ≤ ux'.length → AtG tm rd h n b W keep ut' uh' ux' s1 → ∀ (B:Nat) (H:AH),H.o = hv (headG tm rd h n b W keep (ut a) (uh a) (ux a)).h →
     ∃ H2:AH,H2.o = hv (headG tm rd h n b W keep ut' uh' ux').h ∧ Sem E.P B c ((headG tm rd h n b W keep (ut a) (uh a) (ux a)).st H) e ((headG tm rd h n b W keep ut' uh' ux').st H2) :=by
    intro ut' uh' ux' hee hle hah B H hH
    obtain ⟨H1,k1,k2⟩ :=h3 B H hH
    refine ⟨⟨n + ux'.length,n + ux'.length,fun i => if i < n + ux'.length then hv s1.h i else .hole⟩,(hah.obj he).symm,?_⟩
    refine SemT.postW hee k2 (m :=n + ux'.length) ?_ (fun i hi => by show OBd _ (H1.o i);rw [k1];exact hah.bd i hi) hah.tms hah.df rfl rfl hah.rd.symm fun i hi => ?_
    ·show AH.mk _ _ _ = AH.mk _ _ (fun i => if i < n + ux'.length then H1.o i else .hole)
     rw [k1]
    ·have :=livelt H hH i hi
     omega
   by_cases hn:e = .normal
   ·subst hn
    obtain ⟨a',hIa',hlt,hle,hah⟩ :=h1
    obtain ⟨e2,s2,q1,q2,q3⟩ :=ih a' hIa' (by omega)
    refine ⟨e2,s2,q1,⟨q2.he,q2.b,(keptTo _ _ _ hah).trans q2.kept⟩,fun B H hH => ?_⟩
    obtain ⟨H1,k1,k2⟩ :=postTo _ _ _ (.inl rfl) hle hah B H hH
    obtain ⟨H2,k3,k4⟩ :=q3 B H1 k1
    exact ⟨H2,k3,SemL.next k2 k4⟩
   ·have plain : K e s1 → ∃ e s', K e s' ∧ Aft (headG tm rd h n b W keep (ut a) (uh a) (ux a)) s' ∧ ∀ (B : Nat) (H : AH), H.o = hv (headG tm rd h n b W keep (ut a) (uh a) (ux a)).h →
      ∃ H':AH,H'.o = hv s'.h ∧ SemL E.P B c ((headG tm rd h n b W keep (ut a) (uh a) (ux a)).st H) e (s'.st H') :=fun hk => by
     refine ⟨e,s1,hk,h2,fun B H hH => ?_⟩
     obtain ⟨H1,k1,k2⟩ :=h3 B H hH
     exact ⟨H1,k1,SemL.stop k2 hn⟩
    cases e with
    |normal => exact absurd rfl hn
    |ret => exact plain h1
    |panic l => exact plain h1
    |exit id =>
     rcases h1 with h1 | ⟨ut',uh',ux',N,rfl,hle,hah,hk⟩
     ·exact plain h1
     ·refine ⟨.exit id,_,hk,⟨headG_end he,rfl,keptTo _ _ _ hah⟩,fun B H hH => ?_⟩
      obtain ⟨H1,k1,k2⟩ :=postTo _ _ _ (.inr ⟨id,rfl⟩) hle hah B H hH
      exact ⟨H1,k1,SemL.stop k2 hn⟩
 obtain ⟨e,s',h1,h2,h3⟩ :=main (m a0 + 1) a0 hI (by omega)
 have hl0:n + (ux a0).length = n :=by rw [hu0];rfl
 refine ⟨e,s',h1,⟨h2.he,h2.b,?_⟩,fun B H hH => ?_⟩
 ·have k:Kept b (headG tm rd h n b W keep (ut a0) (uh a0) (ux a0)).h W s'.h s'.wr :=h2.kept
  exact ⟨k.sub,fun x hx hn => (k.same x hx hn).trans (h0.same x (by have:x < b :=hx;omega))⟩
 ·have hob :=h0.obj he
  obtain ⟨H',k1,k2⟩ :=h3 B ⟨n + (ux a0).length,n + (ux a0).length,fun i => if i < n + (ux a0).length then hv h i else .hole⟩ hob.symm
  refine ⟨H',k1,SemT.pre (fun g fr cs w hr => ?_) ?_ (by show APm.no = pm;exact h0.pm.symm) k2⟩
  ·refine FrRel.cutW hr (m :=n + (ux a0).length) ?_ (fun i hi => by show OBd _ (H.o i);rw [hH];exact h0.bd i hi) h0.tms h0.df rfl rfl h0.rd.symm
   show AH.mk _ _ _ = AH.mk _ _ (fun i => if i < n + (ux a0).length then H.o i else .hole)
   rw [hH]
  ·show (fun i => if i < n + (ux a0).length then hv h i else .hole) = H.o
   rw [hH,hl0]
   funext i
   by_cases e:i < n
   ·rw [if_pos e]
   ·rw [if_neg e];exact (he.hole (by omega)).symm
end
end Go.Abs

namespace Go.Abs
open Go
noncomputable section
def ObEq (h h':Tr AObj) (k:Nat):Prop :=@Nat.rec (fun _ => Prop) True (fun i ih => hv h i = hv h' i ∧ ih) k
theorem ObEq.lt {h h':Tr AObj}:∀ {k:Nat},ObEq h h' k → ∀ i,i < k → hv h i = hv h' i
 |k + 1,hk,i,hi => by
  by_cases e:i = k
  ·subst e;exact hk.1
  ·exact ObEq.lt hk.2 i (by omega)
def ObBd (n:Nat) (h:Tr AObj) (k:Nat):Prop :=@Nat.rec (fun _ => Prop) True (fun i ih => BdO n (hv h i) ∧ ih) k
theorem ObBd.lt {n:Nat} {h:Tr AObj}:∀ {k:Nat},ObBd n h k → ∀ i,i < k → OBd n (hv h i)
 |k + 1,hk,i,hi => by
  by_cases e:i = k
  ·subst e;exact hk.1.ok
  ·exact ObBd.lt hk.2 i (by omega)
theorem tput_ne {α:Type}:∀ (l:List (Nat × α)) (t:Tr α) (j:Nat),j ∉ keysOf l → (tput l t).get j = t.get j
 | [],_,_,_ => rfl
 |(i,x) :: l,t,j,h => by
  simp only [keysOf,List.map_cons,List.mem_cons,not_or] at h
  show (tput l (tset (pathOf i) t x)).get j = _
  rw [tput_ne l _ j h.2,tset_get,if_neg h.1]
theorem path_ex:∀ p:Pa,∃ i,pathOf i = p
 | .e => ⟨0,rfl⟩
 | .l p => by
  obtain ⟨i,h⟩ :=path_ex p
  refine ⟨2 * i + 1,?_⟩
  rw [Tr.pathOf_odd (by omega),show 2 * i / 2 = i by omega,h]
 | .r p => by
  obtain ⟨i,h⟩ :=path_ex p
  refine ⟨2 * i + 1 + 1,?_⟩
  rw [Tr.pathOf_even (by omega),show (2 * i + 1) / 2 = i by omega,h]
theorem bdT_of {n:Nat}:∀ t:Tr AV,(∀ p a,Tr.getP p t = some a → bd a ≤ n) → BdT n t
 | .nil,_ => trivial
 | .node v l r,h => ⟨h .e v rfl,bdT_of l fun p a e => h (.l p) a e,bdT_of r fun p a e => h (.r p) a e⟩
theorem bdT_get {n:Nat} {t:Tr AV} (h:∀ j a,t.get j = some a → bd a ≤ n):BdT n t :=bdT_of t fun p a e => by
 obtain ⟨i,rfl⟩ :=path_ex p
 exact h i a e
def frzG (g:Gh) (H:AH):Gh :=
 { g with im :=fun b => @dite _ (∃ n,∃ i t ty,H.o i = .cells t n ty ∧ g.ob i = b) (Classical.propDecidable _) (fun h => h.choose) (fun _ => g.im b) }
theorem frz_im {g:Gh} {B:Nat} {w:World} {H:AH} (hr:HRel g B w H) {i n:Nat} {t:Tr AV} {ty:TypeId} (ho:H.o i = .cells t n ty):(frzG g H).im (g.ob i) = n :=by
 have hex:∃ n,∃ j t ty,H.o j = .cells t n ty ∧ g.ob j = g.ob i :=⟨n,i,t,ty,ho,rfl⟩
 show @dite _ (∃ n,∃ j t ty,H.o j = .cells t n ty ∧ g.ob j = g.ob i) (Classical.propDecidable _) (fun h => h.choose) (fun _ => g.im (g.ob i)) = n
 rw [dif_pos hex]
 obtain ⟨j,t',ty',h1,h2⟩ :=hex.choose_spec
 have:j = i :=hr.inj j i (by rw [h1];intro h;cases h) (by rw [ho];intro h;cases h) (by rw [h1,ho];exact h2)
 subst this
 rw [ho] at h1
 injection h1 with _ h3 _
 exact h3.symm
theorem frz_or {g:Gh} {H:AH} (b:Nat):(frzG g H).im b = g.im b ∨ ∃ n i t ty,H.o i = .cells t n ty ∧ g.ob i = b :=by
 by_cases h:∃ n,∃ i t ty,H.o i = .cells t n ty ∧ g.ob i = b
 ·exact .inr h
 ·left
  show @dite _ (∃ n,∃ j t ty,H.o j = .cells t n ty ∧ g.ob j = b) (Classical.propDecidable _) (fun h => h.choose) (fun _ => g.im b) = _
  rw [dif_neg h]
theorem frz_le {g:Gh} {B:Nat} {w:World} {H:AH} (hr:HRel g B w H) (b:Nat):g.im b ≤ (frzG g H).im b :=by
 rcases frz_or (g :=g) (H :=H) b with h | ⟨n,i,t,ty,ho,rfl⟩
 ·rw [h];exact Nat.le_refl _
 ·have :=hr.rel i
  rw [ho] at this
  obtain ⟨_,_,h0,_⟩ :=this
  rw [h0];exact Nat.zero_le _
def FzV (o:Nat → AObj) (v v':AV):Prop :=∀ g B w H u,H.o = o → HRel g B w H → VRel g w v u → VRel (frzG g H) w v' u
def FzVs (o:Nat → AObj):List AV → List AV → Prop
 | [],[] => True
 |x :: xs,y :: ys => FzV o x y ∧ FzVs o xs ys
 | _,_ => False
theorem FzV.no {o:Nat → AObj} {v:AV} (h:Live noL v):FzV o v v :=fun _ _ _ _ u _ hr hv =>
 VRel.ext (L :=noL) ⟨fun _ h => h.elim,fun _ h => h.elim,fun _ h => h.elim,frz_le hr,fun _ _ _ => rfl⟩ v u h hv
theorem FzV.wk {o:Nat → AObj} {v v' v'':AV} (h:FzV o v v') (k:Wk v' v''):FzV o v v'' :=fun g B w H u ho hr hv => k _ _ _ (h g B w H u ho hr hv)
theorem FzVs.no {o:Nat → AObj}:∀ {vs:List AV},Lives noL vs → FzVs o vs vs
 | [],_ => trivial
 | _ :: _,h => ⟨.no h.1,FzVs.no h.2⟩
theorem FzVs.len {o:Nat → AObj}:∀ {xs ys:List AV},FzVs o xs ys → xs.length = ys.length
 | [],[],_ => rfl
 | _ :: _,_ :: _,h => by rw [List.length_cons,List.length_cons,FzVs.len h.2]
theorem FzVs.cells {o:Nat → AObj} {g:Gh} {B:Nat} {w:World} {H:AH} (ho:H.o = o) (hr:HRel g B w H):∀ {xs ys:List AV} (b off:Nat),FzVs o xs ys → LRel g w xs b off → LRel (frzG g H) w ys b off
 | [],[],_,_,_,_ => trivial
 | _ :: _,_ :: _,b,off,k,h => by
  obtain ⟨⟨u,hu,hv⟩,hs⟩ :=h
  exact ⟨⟨u,hu,k.1 g B w H u ho hr hv⟩,FzVs.cells ho hr b (off + 1) k.2 hs⟩
theorem FzVs.vals {o:Nat → AObj} {g:Gh} {B:Nat} {w:World} {H:AH} (ho:H.o = o) (hr:HRel g B w H):∀ {xs ys:List AV} (vs:List Value),FzVs o xs ys → VRels g w xs vs → VRels (frzG g H) w ys vs
 | [],[],_,_,h => h
 | _ :: _,_ :: _,vs,k,h => by
  obtain ⟨u,us,e,hv,hs⟩ :=h
  exact ⟨u,us,e,k.1 g B w H u ho hr hv,FzVs.vals ho hr us k.2 hs⟩
theorem FzV.lst {o:Nat → AObj} {xs ys:List AV} (h:FzVs o xs ys) (n:Nat) (own:Own):FzV o (.lst xs n own) (.lst ys n .no) :=by
 intro g B w H u ho hr hu
 simp only [VRel] at hu ⊢
 obtain ⟨b,off,cap,h1,h2,h3,h4,_⟩ :=hu
 exact ⟨b,off,cap,h1,h2,by rw [← h.len];exact Nat.le_trans h3 (frz_le hr b),h.cells ho hr b off h4,trivial⟩
theorem FzV.agg {o:Nat → AObj} {xs ys:List AV} (h:FzVs o xs ys):FzV o (.agg xs) (.agg ys) :=by
 intro g B w H u ho hr hu
 simp only [VRel] at hu ⊢
 obtain ⟨vs,h1,h2⟩ :=hu
 exact ⟨vs,h1,h.vals ho hr _ h2⟩
theorem FzV.tup {o:Nat → AObj} {xs ys:List AV} (h:FzVs o xs ys):FzV o (.tup xs) (.tup ys) :=by
 intro g B w H u ho hr hu
 simp only [VRel] at hu ⊢
 obtain ⟨vs,h1,h2⟩ :=hu
 exact ⟨vs,h1,h.vals ho hr _ h2⟩
theorem FzV.slcN {o:Nat → AObj} {i n m cap:Nat} {t:Tr AV} {ty:TypeId} {xs:List AV} (ho:o i = .cells t n ty) (hl:xs.length = n) (hx:∀ j,j < n → t.get j = xs[j]?) (hn:Lives noL xs):FzV o (.slc i 0 m cap) (.lst xs m .no) :=by
 intro g B w H u hH hr hu
 subst hH
 simp only [VRel] at hu ⊢
 obtain ⟨c,hu,hc,_⟩ :=hu
 refine ⟨g.ob i,0,c,hu,hc,?_,?_,trivial⟩
 ·rw [frz_im hr ho,hl];omega
 ·refine LRel.of_get xs 0 fun j a hj => ?_
  have hjn:j < n :=by
   rw [← hl]
   exact (List.getElem?_eq_some_iff.1 hj).1
  obtain ⟨a',v,h1,h2,h3,_⟩ :=hr.cellAt ho hjn
  rw [hx j hjn,hj] at h1
  cases h1
  have hln:Live noL a :=Lives.mem xs a hn (List.mem_of_getElem? hj)
  exact ⟨v,by rw [Nat.zero_add];exact h2,FzV.no (o :=H.o) hln g B w H v rfl hr h3⟩
theorem FzV.slc {o:Nat → AObj} {i n:Nat} {t:Tr AV} {ty:TypeId} {xs:List AV} (ho:o i = .cells t n ty) (hl:xs.length = n) (hx:∀ j,j < n → t.get j = xs[j]?) (hn:Lives noL xs):FzV o (.slc i 0 n n) (.lst xs n .no) :=FzV.slcN ho hl hx hn
end
end Go.Abs
/-! Loops in a frame that has begun loops over functions: the marks of such loops are kept. -/
namespace Go.Abs
open Go
noncomputable section
def Dm (m:Nat) (D:List ADf):Prop :=@List.rec ADf (fun _ => Prop) True (fun d _ ih => @ADf.rec (fun _ => Prop) (fun _ _ => False) (fun o => o < m ∧ ih) d) D
theorem Dm.mono {m k:Nat} (hm:m ≤ k):∀ {D:List ADf},Dm m D → Dm k D
 | [],_ => trivial
 | .call _ _ :: _,h => h.elim
 | .mark _ :: _,h => ⟨Nat.lt_of_lt_of_le h.1 hm,Dm.mono hm h.2⟩
theorem Dm.rel {g:Gh} {w:World} {L L':Nat → Prop} {m:Nat}:∀ {D:List ADf} {ds:List Deferred},Dm m D → (∀ i,i < m → L i → L' i) → DfRel g w L D ds → DfRel g w L' D ds
 | [],_,_,_,h => h
 | .call _ _ :: _,_,h,_,_ => h.elim
 | .mark o :: l,ds,h,hl,hr => by
  obtain ⟨ds',e1,h1,h2⟩ :=hr
  exact ⟨ds',e1,hl o h.1 h1,Dm.rel h.2 hl h2⟩
def headD (D:List ADf) (tm:Tr AV) (rd:Bool) (h:Tr AObj) (n b:Nat) (W:List Nat) (keep:List Nat) (ut:List (Nat × AV)) (uh:List (Nat × AObj)) (ux:List AObj):AS :=
 ⟨tput (apL (kept tm keep) ut) (unkT tm),D,.no,rd,appT ux n (tput uh h),endN ux n,b,W⟩
structure AtD (D:List ADf) (tm:Tr AV) (rd:Bool) (h:Tr AObj) (n b:Nat) (W:List Nat) (keep:List Nat) (ut:List (Nat × AV)) (uh:List (Nat × AObj)) (ux:List AObj) (s':AS):Prop where
 df:s'.df = D
 pm:s'.pm = .no
 rd:s'.rd = rd
 b:s'.b = b
 wr:s'.wr = W
 dom:unkT s'.tm = unkT tm
 all:∃ N,N = endN ux n ∧ TmIw N s'.tm (apL (kept tm keep) ut) ∧ ObIs N s'.h (appT ux n (tput uh h)) N
section
variable {D:List ADf} {tm:Tr AV} {rd:Bool} {h:Tr AObj} {n b:Nat} {W:List Nat} {s':AS} {keep:List Nat} {ut:List (Nat × AV)} {uh:List (Nat × AObj)} {ux:List AObj}
theorem AtD.tmI (ha:AtD D tm rd h n b W keep ut uh ux s'):TmIw (n + ux.length) s'.tm (apL (kept tm keep) ut) :=by
 obtain ⟨N,e,h1,_⟩ :=ha.all
 rw [endN_eq] at e
 subst e;exact h1
theorem AtD.obI (ha:AtD D tm rd h n b W keep ut uh ux s'):ObIs (n + ux.length) s'.h (appT ux n (tput uh h)) (n + ux.length) :=by
 obtain ⟨N,e,_,h2⟩ :=ha.all
 rw [endN_eq] at e
 subst e;exact h2
theorem headD_end (he:HEnd h n):HEnd (headD D tm rd h n b W keep ut uh ux).h (headD D tm rd h n b W keep ut uh ux).n :=by
 show HEnd _ (endN ux n)
 rw [endN_eq]
 exact appT_end ux n _ (tput_end he)
theorem AtD.tms (ha:AtD D tm rd h n b W keep ut uh ux s'):∀ i a,(headD D tm rd h n b W keep ut uh ux).tm.get i = some a → ∃ y,s'.tm.get i = some y ∧ WkV y a ∧ bd a ≤ n + ux.length :=by
 intro i a hi
 obtain ⟨⟨y,h1⟩,h2⟩ :=tput_get _ _ _ _ hi
 rcases h2 with h2 | ⟨_,h3⟩
 ·obtain ⟨⟨y,k1,k2⟩,k3⟩ :=ha.tmI.mem i a h2
  exact ⟨y,k1,k2,k3⟩
 ·rw [unkT_get] at h3
  have hd:(s'.tm.get i).map (fun _ => AV.unk) = (tm.get i).map fun _ => AV.unk :=by rw [← unkT_get,← unkT_get,ha.dom]
  cases hs:tm.get i with
  |none => rw [hs] at h3;cases h3
  |some z =>
   rw [hs] at h3 hd
   simp only [Option.map_some,Option.some.injEq] at h3
   subst h3
   cases hs':s'.tm.get i with
   |none => rw [hs'] at hd;cases hd
   |some z' => exact ⟨z',rfl,WkV.unk z',Nat.zero_le _⟩
theorem AtD.obj (ha:AtD D tm rd h n b W keep ut uh ux s') (he:HEnd h n):hv (headD D tm rd h n b W keep ut uh ux).h = fun i => if i < n + ux.length then hv s'.h i else .hole :=by
 funext i
 by_cases e:i < n + ux.length
 ·rw [if_pos e];exact (ha.obI.lt i e).1.symm
 ·rw [if_neg e];exact (headD_end (D :=D) (tm :=tm) (rd :=rd) (b :=b) (W :=W) (keep :=keep) (ut :=ut) (uh :=uh) (ux :=ux) he).hole (by show endN ux n ≤ i;rw [endN_eq];omega)
theorem AtD.bd (ha:AtD D tm rd h n b W keep ut uh ux s'):∀ i,i < n + ux.length → OBd (n + ux.length) (hv s'.h i) :=fun i hi => by
 obtain ⟨e,hb⟩ :=ha.obI.lt i hi
 rw [e];exact hb
theorem AtD.same (ha:AtD D tm rd h n b W keep ut uh ux s'):∀ x,x < n + ux.length → hv (headD D tm rd h n b W keep ut uh ux).h x = hv s'.h x :=fun x hx => (ha.obI.lt x hx).1.symm
end
theorem sym_code {E:Env} (hE:E.Ok) {S:Sub} (hS:S = symSub E.P) {c:Code} {s:AS} {K:KE} (h:exC c E S s K):S.code c s K :=by
 subst hS
 exact fun he => exC_ok hE (symSub_ok E.P) c s K h he
end
end Go.Abs

