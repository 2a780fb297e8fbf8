/-
  Abstract values, ghost state, and the relation to the model's values.
-/
import Derived.Calls
import Derived.Below
import Derived.Laws.CopyRow
import Derived.Laws.IdiomCopy
import Derived.Laws.CopyOwn
import Derived.Laws.StructEq
/-! Abstract values, ghost state, and the relation to the model's values. -/
namespace Go.Abs
open Go
noncomputable section
inductive Tr (α:Type) where
 |nil
 |node (v:α) (l r:Tr α)
namespace Tr
variable {α:Type}
inductive _root_.Go.Abs.Pa where
 |e
 |l (p:Pa)
 |r (p:Pa)
/- By the recursors themselves, with closed minor premises: so the kernel carries it out at little cost. -/
def _root_.Go.Abs.pathF (k:Nat):Nat → Pa :=
 @Nat.rec (fun _ => Nat → Pa) (fun _ => .e)
  (fun _ ih i => @Bool.rec (fun _ => Pa) (@Bool.rec (fun _ => Pa) (.l (ih (Nat.div i 2))) (.r (ih (Nat.pred (Nat.div i 2)))) (Nat.beq (Nat.mod i 2) 0)) .e (Nat.beq i 0)) k
def _root_.Go.Abs.pathOf (i:Nat):Pa :=pathF (Nat.succ i) i
def getP (p:Pa):Tr α → Option α :=
 @Pa.rec (fun _ => Tr α → Option α)
  (fun t => @Tr.rec α (fun _ => Option α) none (fun v _ _ _ _ => some v) t)
  (fun _ ih t => @Tr.rec α (fun _ => Option α) none (fun _ l _ _ _ => ih l) t)
  (fun _ ih t => @Tr.rec α (fun _ => Option α) none (fun _ _ r _ _ => ih r) t) p
def setP (p:Pa):Tr α → α → (Tr α → Prop) → Prop :=
 @Pa.rec (fun _ => Tr α → α → (Tr α → Prop) → Prop)
  (fun t x K => @Tr.rec α (fun _ => Prop) False (fun _ l r _ _ => K (node x l r)) t)
  (fun _ ih t x K => @Tr.rec α (fun _ => Prop) False (fun v l r _ _ => ih l x fun l' => K (node v l' r)) t)
  (fun _ ih t x K => @Tr.rec α (fun _ => Prop) False (fun v l r _ _ => ih r x fun r' => K (node v l r')) t) p
def insP (p:Pa):Tr α → α → (Tr α → Prop) → Prop :=
 @Pa.rec (fun _ => Tr α → α → (Tr α → Prop) → Prop)
  (fun t x K => @Tr.rec α (fun _ => Prop) (K (node x nil nil)) (fun _ l r _ _ => K (node x l r)) t)
  (fun _ ih t x K => @Tr.rec α (fun _ => Prop) False (fun v l r _ _ => ih l x fun l' => K (node v l' r)) t)
  (fun _ ih t x K => @Tr.rec α (fun _ => Prop) False (fun v l r _ _ => ih r x fun r' => K (node v l r')) t) p
def get (t:Tr α) (i:Nat):Option α :=getP (pathOf i) t
def setK (t:Tr α) (i:Nat) (x:α) (K:Tr α → Prop):Prop :=setP (pathOf i) t x K
def insK (t:Tr α) (i:Nat) (x:α) (K:Tr α → Prop):Prop :=insP (pathOf i) t x K
theorem odd_beq {i:Nat} (h:i % 2 = 0):Nat.beq (Nat.mod (i + 1) 2) 0 = false :=by
 have h1:Nat.mod (i + 1) 2 = 1 :=by show (i + 1) % 2 = 1;omega
 rw [h1];rfl
theorem even_beq {i:Nat} (h:¬ i % 2 = 0):Nat.beq (Nat.mod (i + 1) 2) 0 = true :=by
 have h1:Nat.mod (i + 1) 2 = 0 :=by show (i + 1) % 2 = 0;omega
 rw [h1];rfl
theorem odd_div {i:Nat} (h:i % 2 = 0):Nat.div (i + 1) 2 = i / 2 :=by show (i + 1) / 2 = i / 2;omega
theorem even_div {i:Nat} (h:¬ i % 2 = 0):Nat.pred (Nat.div (i + 1) 2) = i / 2 :=by
 have h1:Nat.div (i + 1) 2 = i / 2 + 1 :=by show (i + 1) / 2 = _;omega
 rw [h1];rfl
theorem pathF_odd {k i:Nat} (h:i % 2 = 0):pathF (k + 1) (i + 1) = .l (pathF k (i / 2)) :=by
 show @Bool.rec (fun _ => Pa) (.l (pathF k (Nat.div (i + 1) 2))) (.r (pathF k (Nat.pred (Nat.div (i + 1) 2)))) (Nat.beq (Nat.mod (i + 1) 2) 0) = _
 rw [odd_beq h,odd_div h]
theorem pathF_even {k i:Nat} (h:¬ i % 2 = 0):pathF (k + 1) (i + 1) = .r (pathF k (i / 2)) :=by
 show @Bool.rec (fun _ => Pa) (.l (pathF k (Nat.div (i + 1) 2))) (.r (pathF k (Nat.pred (Nat.div (i + 1) 2)))) (Nat.beq (Nat.mod (i + 1) 2) 0) = _
 rw [even_beq h,even_div h]
theorem pathF_fuel:∀ (k k' i:Nat),i < k → i < k' → pathF k i = pathF k' i
 | 0,_,_,h,_ => by omega
 | _,0,_,_,h => by omega
 |k + 1,k' + 1,0,_,_ => rfl
 |k + 1,k' + 1,i + 1,h,h' => by
  by_cases hp:i % 2 = 0
  ·rw [pathF_odd hp,pathF_odd hp,pathF_fuel k k' (i / 2) (by omega) (by omega)]
  ·rw [pathF_even hp,pathF_even hp,pathF_fuel k k' (i / 2) (by omega) (by omega)]
theorem pathOf_odd {i:Nat} (h:i % 2 = 0):pathOf (i + 1) = .l (pathOf (i / 2)) :=by
 show pathF (i + 1 + 1) (i + 1) = _
 rw [pathF_odd h,pathF_fuel (i + 1) (i / 2 + 1) (i / 2) (by omega) (by omega)]
 rfl
theorem pathOf_even {i:Nat} (h:¬ i % 2 = 0):pathOf (i + 1) = .r (pathOf (i / 2)) :=by
 show pathF (i + 1 + 1) (i + 1) = _
 rw [pathF_even h,pathF_fuel (i + 1) (i / 2 + 1) (i / 2) (by omega) (by omega)]
 rfl
def copyK (x:α):Nat → Nat → (Tr α → Tr α → Prop) → Prop
 | 0,_,_ => False
 |f + 1,n,K =>
  match n with
  | 0 => K (node x nil nil) nil
  |n + 1 =>
   copyK x f (n / 2) (fun s t =>
    match n % 2 with
    | 0 => K (node x s t) (node x t t)
    | _ => K (node x s s) (node x s t))
@[simp] theorem get_nil (j:Nat):(nil:Tr α).get j = none :=by
 unfold get
 cases pathOf j <;> rfl
@[simp] theorem get_node_zero (v:α) (l r:Tr α):(node v l r).get 0 = some v :=rfl
theorem get_node_even (v:α) (l r:Tr α) {i:Nat} (h:i % 2 = 0):(node v l r).get (i + 1) = l.get (i / 2) :=by
 unfold get
 rw [pathOf_odd h]
 rfl
theorem get_node_odd (v:α) (l r:Tr α) {i:Nat} (h:¬ i % 2 = 0):(node v l r).get (i + 1) = r.get (i / 2) :=by
 unfold get
 rw [pathOf_even h]
 rfl
theorem get_single (v:α) (j:Nat):(node v nil nil).get (j + 1) = none :=by
 by_cases h:j % 2 = 0
 ·rw [get_node_even _ _ _ h,get_nil]
 ·rw [get_node_odd _ _ _ h,get_nil]
theorem get_top (v x:α) (l r:Tr α) (j:Nat):(node x l r).get (j + 1) = (node v l r).get (j + 1) :=by
 by_cases h:j % 2 = 0
 ·rw [get_node_even _ _ _ h,get_node_even _ _ _ h]
 ·rw [get_node_odd _ _ _ h,get_node_odd _ _ _ h]
theorem setK_nil {x:α} {i:Nat} {K:Tr α → Prop} (h:(nil:Tr α).setK i x K):False :=by
 unfold setK at h
 cases hp:pathOf i <;> rw [hp] at h <;> exact h
theorem setK_even {v x:α} {l r:Tr α} {i:Nat} (h:i % 2 = 0) {K:Tr α → Prop}:(node v l r).setK (i + 1) x K = l.setK (i / 2) x (fun l' => K (node v l' r)) :=by
 unfold setK
 rw [pathOf_odd h]
 rfl
theorem setK_odd {v x:α} {l r:Tr α} {i:Nat} (h:¬ i % 2 = 0) {K:Tr α → Prop}:(node v l r).setK (i + 1) x K = r.setK (i / 2) x (fun r' => K (node v l r')) :=by
 unfold setK
 rw [pathOf_even h]
 rfl
theorem insK_nil {x:α} {i:Nat} {K:Tr α → Prop} (h:(nil:Tr α).insK (i + 1) x K):False :=by
 unfold insK at h
 by_cases hp:i % 2 = 0
 ·rw [pathOf_odd hp] at h;exact h
 ·rw [pathOf_even hp] at h;exact h
theorem insK_even {v x:α} {l r:Tr α} {i:Nat} (h:i % 2 = 0) {K:Tr α → Prop}:(node v l r).insK (i + 1) x K = l.insK (i / 2) x (fun l' => K (node v l' r)) :=by
 unfold insK
 rw [pathOf_odd h]
 rfl
theorem insK_odd {v x:α} {l r:Tr α} {i:Nat} (h:¬ i % 2 = 0) {K:Tr α → Prop}:(node v l r).insK (i + 1) x K = r.insK (i / 2) x (fun r' => K (node v l r')) :=by
 unfold insK
 rw [pathOf_even h]
 rfl
theorem setK_spec {x : α} : ∀ (t : Tr α) (i : Nat) (K : Tr α → Prop), t.setK i x K →
    ∃ t',K t' ∧ (∃ y,t.get i = some y) ∧ ∀ j,t'.get j = if j = i then some x else t.get j
  | nil,_,_,h => (setK_nil h).elim
  | node v l r,i,K,h => by
    cases i with
    | zero =>
      refine ⟨_,h,⟨v,rfl⟩,fun j => ?_⟩
      cases j with
      | zero => rfl
      | succ j => rw [if_neg (by omega)];exact get_top _ _ _ _ _
    | succ i =>
      by_cases hp:i % 2 = 0
      · have h':l.setK (i / 2) x (fun l' => K (node v l' r)) :=by rw [setK_even hp] at h;exact h
        obtain ⟨t',hk,⟨y,hy⟩,hg⟩ :=setK_spec l (i / 2) _ h'
        refine ⟨_,hk,⟨y,by rw [get_node_even _ _ _ hp,hy]⟩,fun j => ?_⟩
        cases j with
        | zero => rfl
        | succ j =>
          by_cases hq:j % 2 = 0
          · rw [get_node_even _ _ _ hq,get_node_even _ _ _ hq,hg]
            by_cases e:j = i
            · subst e;simp
            · have:j / 2 ≠ i / 2 :=by omega
              have e':j + 1 ≠ i + 1 :=by omega
              rw [if_neg this,if_neg e']
          · rw [get_node_odd _ _ _ hq,get_node_odd _ _ _ hq]
            have e' : j + 1 ≠ i + 1 := by intro e; exact hq (by have : j = i := by omega
                                                                subst this;exact hp)
            rw [if_neg e']
      · have hp1:i % 2 = 1 :=by omega
        have h':r.setK (i / 2) x (fun r' => K (node v l r')) :=by rw [setK_odd hp] at h;exact h
        obtain ⟨t',hk,⟨y,hy⟩,hg⟩ :=setK_spec r (i / 2) _ h'
        refine ⟨_,hk,⟨y,by rw [get_node_odd _ _ _ hp,hy]⟩,fun j => ?_⟩
        cases j with
        | zero => rfl
        | succ j =>
          by_cases hq:j % 2 = 0
          · rw [get_node_even _ _ _ hq,get_node_even _ _ _ hq]
            have e' : j + 1 ≠ i + 1 := by intro e; exact hp (by have : j = i := by omega
                                                                subst this;exact hq)
            rw [if_neg e']
          · rw [get_node_odd _ _ _ hq,get_node_odd _ _ _ hq,hg]
            by_cases e:j = i
            · subst e;simp
            · have:j / 2 ≠ i / 2 :=by omega
              have e':j + 1 ≠ i + 1 :=by omega
              rw [if_neg this,if_neg e']
theorem insK_spec {x : α} : ∀ (t : Tr α) (i : Nat) (K : Tr α → Prop), t.insK i x K →
    ∃ t',K t' ∧ ∀ j,t'.get j = if j = i then some x else t.get j
  | nil,i,K,h => by
    cases i with
    | zero =>
      refine ⟨_,h,fun j => ?_⟩
      cases j with
      | zero => rfl
      | succ j => rw [get_single,if_neg (by omega),get_nil]
    | succ i => exact (insK_nil h).elim
  | node v l r,i,K,h => by
    cases i with
    | zero =>
      refine ⟨_,h,fun j => ?_⟩
      cases j with
      | zero => rfl
      | succ j => rw [if_neg (by omega)];exact get_top _ _ _ _ _
    | succ i =>
      by_cases hp:i % 2 = 0
      · have h':l.insK (i / 2) x (fun l' => K (node v l' r)) :=by rw [insK_even hp] at h;exact h
        obtain ⟨t',hk,hg⟩ :=insK_spec l (i / 2) _ h'
        refine ⟨_,hk,fun j => ?_⟩
        cases j with
        | zero => rfl
        | succ j =>
          by_cases hq:j % 2 = 0
          · rw [get_node_even _ _ _ hq,get_node_even _ _ _ hq,hg]
            by_cases e:j = i
            · subst e;simp
            · have:j / 2 ≠ i / 2 :=by omega
              have e':j + 1 ≠ i + 1 :=by omega
              rw [if_neg this,if_neg e']
          · rw [get_node_odd _ _ _ hq,get_node_odd _ _ _ hq]
            have e' : j + 1 ≠ i + 1 := by intro e; exact hq (by have : j = i := by omega
                                                                subst this;exact hp)
            rw [if_neg e']
      · have hp1:i % 2 = 1 :=by omega
        have h':r.insK (i / 2) x (fun r' => K (node v l r')) :=by rw [insK_odd hp] at h;exact h
        obtain ⟨t',hk,hg⟩ :=insK_spec r (i / 2) _ h'
        refine ⟨_,hk,fun j => ?_⟩
        cases j with
        | zero => rfl
        | succ j =>
          by_cases hq:j % 2 = 0
          · rw [get_node_even _ _ _ hq,get_node_even _ _ _ hq]
            have e' : j + 1 ≠ i + 1 := by intro e; exact hp (by have : j = i := by omega
                                                                subst this;exact hq)
            rw [if_neg e']
          · rw [get_node_odd _ _ _ hq,get_node_odd _ _ _ hq,hg]
            by_cases e:j = i
            · subst e;simp
            · have:j / 2 ≠ i / 2 :=by omega
              have e':j + 1 ≠ i + 1 :=by omega
              rw [if_neg this,if_neg e']
theorem copyK_spec {x:α}:∀ (f n:Nat) (K:Tr α → Tr α → Prop),copyK x f n K →
  ∃ s t,K s t ∧ (∀ j,s.get j = if j < n + 1 then some x else none) ∧ ∀ j,t.get j = if j < n then some x else none
 | 0,_,_,h => h.elim
 |f + 1,n,K,h => by
  cases n with
  |zero =>
   refine ⟨_,_,h,fun j => ?_,fun j => ?_⟩
   ·cases j with
    |zero => rfl
    |succ j => rw [get_single,if_neg (by omega)]
   ·simp
  |succ n =>
   have h':copyK x f (n / 2) (fun s t =>
    match n % 2 with
    | 0 => K (node x s t) (node x t t)
    | _ => K (node x s s) (node x s t)) :=h
   obtain ⟨s,t,hk,hs,ht⟩ :=copyK_spec f (n / 2) _ h'
   by_cases hp:n % 2 = 0
   ·rw [hp] at hk
    refine ⟨_,_,hk,fun j => ?_,fun j => ?_⟩
    ·cases j with
     |zero => simp
     |succ j =>
      by_cases hq:j % 2 = 0
      ·rw [get_node_even _ _ _ hq,hs];congr 1;apply propext;omega
      ·rw [get_node_odd _ _ _ hq,ht];congr 1;apply propext;omega
    ·cases j with
     |zero => simp
     |succ j =>
      by_cases hq:j % 2 = 0
      ·rw [get_node_even _ _ _ hq,ht];congr 1;apply propext;omega
      ·rw [get_node_odd _ _ _ hq,ht];congr 1;apply propext;omega
   ·have hp1:n % 2 = 1 :=by omega
    rw [hp1] at hk
    refine ⟨_,_,hk,fun j => ?_,fun j => ?_⟩
    ·cases j with
     |zero => simp
     |succ j =>
      by_cases hq:j % 2 = 0
      ·rw [get_node_even _ _ _ hq,hs];congr 1;apply propext;omega
      ·rw [get_node_odd _ _ _ hq,hs];congr 1;apply propext;omega
    ·cases j with
     |zero => simp
     |succ j =>
      by_cases hq:j % 2 = 0
      ·rw [get_node_even _ _ _ hq,hs];congr 1;apply propext;omega
      ·rw [get_node_odd _ _ _ hq,ht];congr 1;apply propext;omega
end Tr
inductive Own where
 |no
 |full
 |ch (c:Nat)
 deriving Inhabited
inductive AV where
 |unk
 |int (k:IntKind) (n:Int)
 |bool (b:Bool)
 |str (s:List UInt8)
 |nilp
 |ptr (o off:Nat)
 |lptr (xs:List AV) (off:Nat)
 |gp (g off:Nat)
 |nils
 |slc (o off len cap:Nat)
 |lst (xs:List AV) (n:Nat) (own:Own)
 |nilm
 |map (o:Nat)
 |nilf
 |func (fn:Fn) (first cap:List AV)
 |yld (o:Nat)
 |nili
 |iface (t:TypeId) (v:AV)
 |agg (cs:List AV)
 |tup (vs:List AV)
 deriving Inhabited
structure Gh where
 ob:Nat → Nat
 im:Nat → Nat
 cn:Nat → Nat
 cb:Nat → Nat
 cc:Nat → Nat
def OwnR (g:Gh) (own:Own) (n b off cap:Nat):Prop :=
 match own with
 | .no => True
 | .full => cap = n
 | .ch c => n ≤ g.cn c ∧ (n = g.cn c → b = g.cb c ∧ off = 0 ∧ cap = g.cc c)
mutual
def VRel (g:Gh) (w:World):AV → Value → Prop
 | .unk,_ => True
 | .int k n,v => v = .int k n
 | .bool b,v => v = .bool b
 | .str s,v => v = .string ⟨s.toArray⟩
 | .nilp,v => v = .pointer none
 | .ptr o off,v => v = .pointer (some ⟨g.ob o,off,none⟩)
 | .lptr xs off,v => ∃ b o0,v = .pointer (some ⟨b,o0 + off,none⟩) ∧ o0 + xs.length ≤ g.im b ∧ LRel g w xs b o0
 | .gp a off,v => (a ≠ 0 ∧ v = .pointer (some ⟨a,off,none⟩)) ∨ (a = 0 ∧ ∃ ad,v = .slice (some ad) 0 0)
 | .nils,v => v = .slice none 0 0
 | .slc o off len cap,v => ∃ c,v = .slice (some ⟨g.ob o,off,none⟩) len c ∧ len ≤ c ∧ (len ≤ cap → c = cap)
 | .lst xs n own,v => ∃ b off cap,v = .slice (some ⟨b,off,none⟩) n cap ∧ n ≤ cap ∧ off + xs.length ≤ g.im b ∧ LRel g w xs b off ∧ OwnR g own n b off cap
 | .nilm,v => v = .map none
 | .map o,v => v = .map (some (g.ob o))
 | .nilf,v => v = .nilFunc
 | .func fn f c,v => ∃ vf vc,v = .func fn vf vc ∧ VRels g w f vf.toList ∧ VRels g w c vc.toList
 | .yld o,v => v = .func (.yield (g.ob o)) #[] #[]
 | .nili,v => v = .nilIface
 | .iface t a,v => ∃ u,v = .iface t u ∧ VRel g w a u
 | .agg cs,v => ∃ vs,v = .agg vs ∧ VRels g w cs vs.toList
 | .tup cs,v => ∃ vs,v = .tuple vs ∧ VRels g w cs vs.toList
def LRel (g:Gh) (w:World):List AV → Nat → Nat → Prop
 | [],_,_ => True
 |x :: xs,b,off => (∃ u,w.cell? ⟨b,off,none⟩ = some u ∧ VRel g w x u) ∧ LRel g w xs b (off + 1)
def VRels (g:Gh) (w:World):List AV → List Value → Prop
 | [],vs => vs = []
 |x :: xs,vs => ∃ u us,vs = u :: us ∧ VRel g w x u ∧ VRels g w xs us
end
mutual
def bd:AV → Nat
 | .ptr o _ => o + 1
 | .lptr xs _ => bdl xs
 | .slc o _ _ _ => o + 1
 | .lst xs _ own => match own with
  | .ch c => Nat.max (c + 1) (bdl xs)
  | _ => bdl xs
 | .map o => o + 1
 | .func _ f c => Nat.max (bdl f) (bdl c)
 | .yld o => o + 1
 | .iface _ v => bd v
 | .agg cs => bdl cs
 | .tup cs => bdl cs
 | _ => 0
def bdl:List AV → Nat
 | [] => 0
 |x :: xs => Nat.max (bd x) (bdl xs)
end
mutual
def Live (L:Nat → Prop):AV → Prop
 | .ptr o _ => L o
 | .lptr xs _ => Lives L xs
 | .slc o _ _ _ => L o
 | .lst xs _ own => Lives L xs ∧ ∀ c,own = .ch c → L c
 | .map o => L o
 | .func _ f c => Lives L f ∧ Lives L c
 | .yld o => L o
 | .iface _ v => Live L v
 | .agg cs => Lives L cs
 | .tup cs => Lives L cs
 | _ => True
def Lives (L:Nat → Prop):List AV → Prop
 | [] => True
 |x :: xs => Live L x ∧ Lives L xs
end
structure Ext (L:Nat → Prop) (g:Gh) (w:World) (g':Gh) (w':World):Prop where
 ob:∀ i,L i → g'.ob i = g.ob i
 cn:∀ i,L i → g.cn i ≤ g'.cn i
 cb:∀ i,L i → g'.cn i = g.cn i → g'.cb i = g.cb i ∧ g'.cc i = g.cc i
 im:∀ b,g.im b ≤ g'.im b
 cell:∀ b j,j < g.im b → w'.cell? ⟨b,j,none⟩ = w.cell? ⟨b,j,none⟩
theorem Ext.refl (L:Nat → Prop) (g:Gh) (w:World):Ext L g w g w :=
 ⟨fun _ _ => rfl,fun _ _ => Nat.le_refl _,fun _ _ _ => ⟨rfl,rfl⟩,fun _ => Nat.le_refl _,fun _ _ _ => rfl⟩
theorem Ext.trans {L:Nat → Prop} {g1 g2 g3:Gh} {w1 w2 w3:World} (h:Ext L g1 w1 g2 w2) (k:Ext L g2 w2 g3 w3):Ext L g1 w1 g3 w3 :=by
 refine ⟨fun i hi => (k.ob i hi).trans (h.ob i hi),fun i hi => Nat.le_trans (h.cn i hi) (k.cn i hi),fun i hi e => ?_,
  fun b => Nat.le_trans (h.im b) (k.im b),fun b j hj => (k.cell b j (Nat.lt_of_lt_of_le hj (h.im b))).trans (h.cell b j hj)⟩
 have h1 :=h.cn i hi
 have h2 :=k.cn i hi
 have e1:g2.cn i = g1.cn i :=by omega
 have e2:g3.cn i = g2.cn i :=by omega
 exact ⟨(k.cb i hi e2).1.trans (h.cb i hi e1).1,(k.cb i hi e2).2.trans (h.cb i hi e1).2⟩
theorem Ext.mono {L L':Nat → Prop} {g g':Gh} {w w':World} (h:Ext L g w g' w') (hl:∀ i,L' i → L i):Ext L' g w g' w' :=
 ⟨fun i hi => h.ob i (hl i hi),fun i hi => h.cn i (hl i hi),fun i hi => h.cb i (hl i hi),h.im,h.cell⟩
theorem OwnR.ext {L:Nat → Prop} {g g':Gh} {w w':World} (hx:Ext L g w g' w') {own:Own} {n b off cap:Nat}
  (hl:∀ c,own = .ch c → L c) (h:OwnR g own n b off cap):OwnR g' own n b off cap :=by
 cases own with
 |no => trivial
 |full => exact h
 |ch c =>
  obtain ⟨h1,h2⟩ :=h
  have hc :=hl c rfl
  have h3 :=hx.cn c hc
  refine ⟨Nat.le_trans h1 h3,fun e => ?_⟩
  have e1:g'.cn c = g.cn c :=by omega
  obtain ⟨a,b⟩ :=hx.cb c hc e1
  rw [a,b]
  exact h2 (by omega)
mutual
theorem VRel.ext {L:Nat → Prop} {g g':Gh} {w w':World} (hx:Ext L g w g' w'):∀ (a:AV) (v:Value),Live L a → VRel g w a v → VRel g' w' a v
 | .unk,_,_,_ => trivial
 | .int _ _,_,_,h => h
 | .bool _,_,_,h => h
 | .str _,_,_,h => h
 | .nilp,_,_,h => h
 | .ptr o off,v,hl,h => by
  simp only [VRel] at h ⊢
  rw [hx.ob o hl];exact h
 | .lptr xs off,v,hl,h => by
  simp only [VRel] at h ⊢
  obtain ⟨b,o0,hv,hb,hr⟩ :=h
  exact ⟨b,o0,hv,Nat.le_trans hb (hx.im b),LRel.ext hx xs b o0 hl hb hr⟩
 | .gp _ _,_,_,h => h
 | .nils,_,_,h => h
 | .slc o off len cap,v,hl,h => by
  simp only [VRel] at h ⊢
  rw [hx.ob o hl];exact h
 | .lst xs n own,v,hl,h => by
  simp only [VRel] at h ⊢
  obtain ⟨b,off,cap,hv,hn,hb,hr,ho⟩ :=h
  exact ⟨b,off,cap,hv,hn,Nat.le_trans hb (hx.im b),LRel.ext hx xs b off hl.1 hb hr,ho.ext hx hl.2⟩
 | .nilm,_,_,h => h
 | .map o,v,hl,h => by
  simp only [VRel] at h ⊢
  rw [hx.ob o hl];exact h
 | .nilf,_,_,h => h
 | .func fn f c,v,hl,h => by
  simp only [VRel] at h ⊢
  obtain ⟨vf,vc,hv,h1,h2⟩ :=h
  exact ⟨vf,vc,hv,VRels.ext hx f _ hl.1 h1,VRels.ext hx c _ hl.2 h2⟩
 | .yld o,v,hl,h => by
  simp only [VRel] at h ⊢
  rw [hx.ob o hl];exact h
 | .nili,_,_,h => h
 | .iface t a,v,hl,h => by
  simp only [VRel] at h ⊢
  obtain ⟨u,hv,h1⟩ :=h
  exact ⟨u,hv,VRel.ext hx a u hl h1⟩
 | .agg cs,v,hl,h => by
  simp only [VRel] at h ⊢
  obtain ⟨vs,hv,h1⟩ :=h
  exact ⟨vs,hv,VRels.ext hx cs _ hl h1⟩
 | .tup cs,v,hl,h => by
  simp only [VRel] at h ⊢
  obtain ⟨vs,hv,h1⟩ :=h
  exact ⟨vs,hv,VRels.ext hx cs _ hl h1⟩
theorem LRel.ext {L:Nat → Prop} {g g':Gh} {w w':World} (hx:Ext L g w g' w'):∀ (xs:List AV) (b off:Nat),Lives L xs → off + xs.length ≤ g.im b → LRel g w xs b off → LRel g' w' xs b off
 | [],_,_,_,_,_ => trivial
 |x :: xs,b,off,hl,hb,h => by
  simp only [LRel] at h ⊢
  simp only [List.length_cons] at hb
  obtain ⟨⟨u,hu,hv⟩,hr⟩ :=h
  exact ⟨⟨u,by rw [hx.cell b off (by omega)];exact hu,VRel.ext hx x u hl.1 hv⟩,LRel.ext hx xs b (off + 1) hl.2 (by omega) hr⟩
theorem VRels.ext {L:Nat → Prop} {g g':Gh} {w w':World} (hx:Ext L g w g' w'):∀ (xs:List AV) (vs:List Value),Lives L xs → VRels g w xs vs → VRels g' w' xs vs
 | [],_,_,h => h
 |x :: xs,vs,hl,h => by
  simp only [VRels] at h ⊢
  obtain ⟨u,us,e,h1,h2⟩ :=h
  exact ⟨u,us,e,VRel.ext hx x u hl.1 h1,VRels.ext hx xs us hl.2 h2⟩
end
mutual
theorem Live.mono {L L':Nat → Prop} (hx:∀ i,L i → L' i):∀ (a:AV),Live L a → Live L' a
 | .unk,_ => trivial
 | .int _ _,_ => trivial
 | .bool _,_ => trivial
 | .str _,_ => trivial
 | .nilp,_ => trivial
 | .ptr _ _,h => hx _ h
 | .lptr xs _,h => Lives.mono hx xs h
 | .gp _ _,_ => trivial
 | .nils,_ => trivial
 | .slc _ _ _ _,h => hx _ h
 | .lst xs _ _,h => ⟨Lives.mono hx xs h.1,fun c hc => hx _ (h.2 c hc)⟩
 | .nilm,_ => trivial
 | .map _,h => hx _ h
 | .nilf,_ => trivial
 | .func _ f c,h => ⟨Lives.mono hx f h.1,Lives.mono hx c h.2⟩
 | .yld _,h => hx _ h
 | .nili,_ => trivial
 | .iface _ a,h => Live.mono hx a h
 | .agg cs,h => Lives.mono hx cs h
 | .tup cs,h => Lives.mono hx cs h
theorem Lives.mono {L L':Nat → Prop} (hx:∀ i,L i → L' i):∀ (xs:List AV),Lives L xs → Lives L' xs
 | [],_ => trivial
 |x :: xs,h => ⟨Live.mono hx x h.1,Lives.mono hx xs h.2⟩
end
mutual
theorem Live.any:∀ (a:AV),Live (fun _ => True) a
 | .unk => trivial
 | .int _ _ => trivial
 | .bool _ => trivial
 | .str _ => trivial
 | .nilp => trivial
 | .ptr _ _ => trivial
 | .lptr xs _ => Lives.any xs
 | .gp _ _ => trivial
 | .nils => trivial
 | .slc _ _ _ _ => trivial
 | .lst xs _ _ => ⟨Lives.any xs,fun _ _ => trivial⟩
 | .nilm => trivial
 | .map _ => trivial
 | .nilf => trivial
 | .func _ f c => ⟨Lives.any f,Lives.any c⟩
 | .yld _ => trivial
 | .nili => trivial
 | .iface _ a => Live.any a
 | .agg cs => Lives.any cs
 | .tup cs => Lives.any cs
theorem Lives.any:∀ (xs:List AV),Lives (fun _ => True) xs
 | [] => trivial
 |x :: xs => ⟨Live.any x,Lives.any xs⟩
end
mutual
theorem Live.below {L:Nat → Prop} {n:Nat}:∀ (a:AV),Live L a → bd a ≤ n → Live (fun i => L i ∧ i < n) a
 | .unk,_,_ => trivial
 | .int _ _,_,_ => trivial
 | .bool _,_,_ => trivial
 | .str _,_,_ => trivial
 | .nilp,_,_ => trivial
 | .ptr _ _,h,hb => ⟨h,hb⟩
 | .lptr xs _,h,hb => Lives.below xs h hb
 | .gp _ _,_,_ => trivial
 | .nils,_,_ => trivial
 | .slc _ _ _ _,h,hb => ⟨h,hb⟩
 | .lst xs _ .no,h,hb => ⟨Lives.below xs h.1 hb,fun c hc => by cases hc⟩
 | .lst xs _ .full,h,hb => ⟨Lives.below xs h.1 hb,fun c hc => by cases hc⟩
 | .lst xs _ (.ch c),h,hb => by
  have h1:Nat.max (c + 1) (bdl xs) ≤ n :=hb
  have h2 :=Nat.max_le.1 h1
  exact ⟨Lives.below xs h.1 h2.2,fun c' hc => by cases hc;exact ⟨h.2 c rfl,h2.1⟩⟩
 | .nilm,_,_ => trivial
 | .map _,h,hb => ⟨h,hb⟩
 | .nilf,_,_ => trivial
 | .func _ f c,h,hb => by
  have h1:Nat.max (bdl f) (bdl c) ≤ n :=hb
  have h2 :=Nat.max_le.1 h1
  exact ⟨Lives.below f h.1 h2.1,Lives.below c h.2 h2.2⟩
 | .yld _,h,hb => ⟨h,hb⟩
 | .nili,_,_ => trivial
 | .iface _ a,h,hb => Live.below a h hb
 | .agg cs,h,hb => Lives.below cs h hb
 | .tup cs,h,hb => Lives.below cs h hb
theorem Lives.below {L:Nat → Prop} {n:Nat}:∀ (xs:List AV),Lives L xs → bdl xs ≤ n → Lives (fun i => L i ∧ i < n) xs
 | [],_,_ => trivial
 |x :: xs,h,hb => by
  have h1:Nat.max (bd x) (bdl xs) ≤ n :=hb
  have h2 :=Nat.max_le.1 h1
  exact ⟨Live.below x h.1 h2.1,Lives.below xs h.2 h2.2⟩
end
end
end Go.Abs

namespace Go.Abs
open Go
noncomputable section
inductive AObj where
 |hole
 |cells (t:Tr AV) (n:Nat) (ty:TypeId)
 |chain (n sz:Nat) (ty:TypeId)
 |mrow (xs:List AV) (n sz:Nat) (ty:TypeId)
 |mapo (es:List (AV × AV))
 |siter (s:List UInt8) (pos:Nat)
 |miter (m since:Nat) (seen:List Nat) (last:Nat)
 |loop (st:LoopState) (fn:FuncId) (tm:Tr AV) (nt:Nat) (params:List Tmp) (assign body:Code) (dfr:Nat)
 |dfr (taken:Bool)
structure AH where
 n:Nat
 keep:Nat
 o:Nat → AObj
def AH.L (H:AH) (i:Nat):Prop :=H.o i ≠ .hole
def Gh.bk (g:Gh):AObj → Nat → Nat
 | .chain ..,i => g.cb i
 | .mrow ..,i => g.cb i
 | _,i => g.ob i
def Born (ces:Array MapEntry) (ck:Nat):Prop :=ck = ces.size ∧ ∀ (j:Nat) (e:MapEntry),ces[j]? = some e → e.born = j
def MRel (g:Gh) (w:World):List (AV × AV) → List MapEntry → Prop
 | [],es => es = []
 |(k,v) :: r,es => ∃ e es',es = e :: es' ∧ VRel g w k e.key ∧ VRel g w v e.val ∧ MRel g w r es'
def TRel (g:Gh) (w:World) (t:Tr AV) (n:Nat) (arr:Array Value):Prop :=
 n ≤ arr.size ∧ ∀ j,j < n → ∃ a v,t.get j = some a ∧ arr[j]? = some v ∧ VRel g w a v
def LTRel (g:Gh) (w:World) (t:Tr AV) (arr:Array Value):Prop :=∀ j a,t.get j = some a → j < arr.size ∧ VRel g w a (arr.getD j undef)
def CellsAt (w:World) (b:Nat) (arr:Array Value) (ty:TypeId):Prop :=∃ fz,w.heap[b]? = some (.cells arr ty fz) ∧ (fz.2 ≤ fz.1 ∨ arr.size ≤ fz.1)
theorem CellsAt.of0 {w:World} {b:Nat} {arr:Array Value} {ty:TypeId} (h:w.heap[b]? = some (.cells arr ty (0,0))):CellsAt w b arr ty :=⟨(0,0),h,.inl (Nat.le_refl _)⟩
def PendOk (st:LoopState) (p:Option Code):Prop :=match st with
 | .done => p = some .ret
 | .exhausted => True
 | _ => p = none
def ORel (g:Gh) (w:World) (i:Nat):AObj → Prop
 | .hole => True
 | .cells t n ty => ∃ arr,CellsAt w (g.ob i) arr ty ∧ g.im (g.ob i) = 0 ∧ TRel g w t n arr
 | .chain n sz ty => ∃ arr,w.heap[g.cb i]? = some (.cells arr ty (0,0)) ∧ g.im (g.cb i) = n * sz ∧ n ≤ g.cc i ∧ g.cc i * sz = arr.size ∧ g.cn i = n
 | .mrow xs n sz ty => ∃ arr,w.heap[g.cb i]? = some (.cells arr ty (0,0)) ∧ g.im (g.cb i) = 0 ∧ n ≤ g.cc i ∧ g.cc i * sz = arr.size ∧ g.cn i = n ∧ xs.length = n * sz ∧
   ∀ (j:Nat) (a:AV),xs[j]? = some a → ∃ v,arr[j]? = some v ∧ VRel g w a v
 | .mapo es => ∃ ces ck,w.heap[g.ob i]? = some (.map ces ck) ∧ g.im (g.ob i) = 0 ∧ MRel g w es ces.toList ∧ Born ces ck
 | .siter s pos => w.heap[g.ob i]? = some (.stringIter ⟨s.toArray⟩ pos) ∧ g.im (g.ob i) = 0
 | .miter m since seen last => ∃ sn l,(last ≠ 0 → sn = seen ∧ l = last) ∧ w.heap[g.ob i]? = some (.mapIter (some (g.ob m)) since sn.reverse.toArray l) ∧ g.im (g.ob i) = 0
 | .loop st _ tm _ params assign body dfr => ∃ l:Loop,w.heap[g.ob i]? = some (.loop l) ∧ g.im (g.ob i) = 0 ∧ l.state = st ∧ PendOk st l.pending ∧
   LTRel g w tm l.tmps ∧ l.params.toList = params ∧ l.assign = assign ∧ l.body = body ∧ l.defers = g.ob dfr
 | .dfr taken => w.heap[g.ob i]? = some (.deferred (if taken then none else some [])) ∧ g.im (g.ob i) = 0
def TrLive (L:Nat → Prop) (t:Tr AV):Prop :=∀ j a,t.get j = some a → Live L a
def MLive (L:Nat → Prop):List (AV × AV) → Prop
 | [] => True
 |(k,v) :: r => Live L k ∧ Live L v ∧ MLive L r
def OLive (L:Nat → Prop):AObj → Prop
 | .cells t _ _ => TrLive L t
 | .mrow xs _ _ _ => Lives L xs
 | .mapo es => MLive L es
 | .miter m _ _ _ => L m
 | .loop _ _ tm _ _ _ _ dfr => TrLive L tm ∧ L dfr
 | _ => True
def OBd (m:Nat):AObj → Prop
 | .cells t _ _ => ∀ j a,t.get j = some a → bd a ≤ m
 | .mrow xs _ _ _ => bdl xs ≤ m
 | .mapo es => ∀ p,p ∈ es → bd p.1 ≤ m ∧ bd p.2 ≤ m
 | .miter o _ _ _ => o < m
 | .loop _ _ tm _ _ _ _ dfr => (∀ j a,tm.get j = some a → bd a ≤ m) ∧ dfr < m
 | _ => True
def gl0:List Int :=[]
def gl0V:List AV :=[]
def GOk (g:Gh) (w:World):Prop :=gl0.length ≤ g.im 0 ∧ ∀ j,j < gl0.length → w.cell? ⟨0,j,none⟩ = some (.int .u64 (gl0.getD j 0))
theorem GOk.ext {L:Nat → Prop} {g g':Gh} {w w':World} (h:GOk g w) (hx:Ext L g w g' w'):GOk g' w' :=
 ⟨Nat.le_trans h.1 (hx.im 0),fun j hj => by rw [hx.cell 0 j (Nat.lt_of_lt_of_le hj h.1)];exact h.2 j hj⟩
theorem GOk.rel {g:Gh} {w:World} (_h:GOk g w):VRel g w (.lptr gl0V 0) (.pointer (some ⟨0,0,none⟩)) :=by
 simp only [VRel,gl0V]
 exact ⟨0,0,rfl,Nat.zero_le _,trivial⟩
structure HRel (g:Gh) (B:Nat) (w:World) (H:AH):Prop where
 wf:∀ i,H.n ≤ i → H.o i = .hole
 ge:∀ i,H.o i ≠ .hole → B ≤ g.bk (H.o i) i ∧ g.bk (H.o i) i < w.heap.size
 inj:∀ i j,H.o i ≠ .hole → H.o j ≠ .hole → g.bk (H.o i) i = g.bk (H.o j) j → i = j
 rel:∀ i,ORel g w i (H.o i)
 live:∀ i,OLive H.L (H.o i)
 kp:∀ i,OBd (max (i + 1) H.keep) (H.o i)
 imz:∀ b,w.heap.size ≤ b → g.im b = 0
 hB:B ≤ w.heap.size
 gl:GOk g w
theorem MRel.ext {L:Nat → Prop} {g g':Gh} {w w':World} (hx:Ext L g w g' w'):∀ (es:List (AV × AV)) (ces:List MapEntry),MLive L es → MRel g w es ces → MRel g' w' es ces
 | [],_,_,h => h
 |(k,v) :: r,ces,hl,h => by
  obtain ⟨e,es',e1,h1,h2,h3⟩ :=h
  exact ⟨e,es',e1,h1.ext hx _ _ hl.1,h2.ext hx _ _ hl.2.1,MRel.ext hx r es' hl.2.2 h3⟩
theorem TRel.ext {L:Nat → Prop} {g g':Gh} {w w':World} (hx:Ext L g w g' w') {t:Tr AV} {n:Nat} {arr:Array Value} (hl:TrLive L t)
  (h:TRel g w t n arr):TRel g' w' t n arr :=
 ⟨h.1,fun j hj => let ⟨a,v,h1,h2,h3⟩ :=h.2 j hj;⟨a,v,h1,h2,h3.ext hx _ _ (hl j a h1)⟩⟩
theorem LTRel.ext {L:Nat → Prop} {g g':Gh} {w w':World} (hx:Ext L g w g' w') {t:Tr AV} {arr:Array Value} (hl:TrLive L t)
  (h:LTRel g w t arr):LTRel g' w' t arr :=
 fun j a hj => ⟨(h j a hj).1,(h j a hj).2.ext hx _ _ (hl j a hj)⟩
theorem Lives.at {L:Nat → Prop}:∀ {xs:List AV} {j:Nat} {a:AV},Lives L xs → xs[j]? = some a → Live L a
 | [],_,_,_,h => by simp at h
 |x :: xs,0,a,k,h => by simp at h;subst h;exact k.1
 |x :: xs,j + 1,a,k,h => Lives.at k.2 (by simpa using h)
theorem ORel.ext {L:Nat → Prop} {g g':Gh} {w w':World} (hx:Ext L g w g' w') {i:Nat} {o:AObj} (hl:OLive L o) (hi:L i)
  (hb:w'.heap[g.bk o i]? = w.heap[g.bk o i]?) (him:g'.im (g.bk o i) = g.im (g.bk o i)) (hcn:g'.cn i = g.cn i) (h:ORel g w i o):ORel g' w' i o :=by
 have hob :=hx.ob i hi
 cases o with
 |hole => trivial
 |cells t n ty =>
  obtain ⟨arr,h1,h2,h3⟩ :=h
  simp only [Gh.bk] at hb him
  exact ⟨arr,by unfold CellsAt;rw [hob,hb];exact h1,by rw [hob,him];exact h2,h3.ext hx hl⟩
 |chain n sz ty =>
  obtain ⟨arr,h1,h2,h3,h4,h5⟩ :=h
  simp only [Gh.bk] at hb him
  obtain ⟨e1,e2⟩ :=hx.cb i hi hcn
  exact ⟨arr,by rw [e1,hb];exact h1,by rw [e1,him];exact h2,by rw [e2];exact h3,by rw [e2];exact h4,by rw [hcn];exact h5⟩
 |mrow xs n sz ty =>
  obtain ⟨arr,h1,h2,h3,h4,h5,h6,h7⟩ :=h
  simp only [Gh.bk] at hb him
  obtain ⟨e1,e2⟩ :=hx.cb i hi hcn
  refine ⟨arr,by rw [e1,hb];exact h1,by rw [e1,him];exact h2,by rw [e2];exact h3,by rw [e2];exact h4,by rw [hcn];exact h5,h6,fun j a hj => ?_⟩
  obtain ⟨v,k1,k2⟩ :=h7 j a hj
  exact ⟨v,k1,k2.ext hx _ _ (Lives.at hl hj)⟩
 |mapo es =>
  obtain ⟨ces,ck,h1,h2,h3,h4⟩ :=h
  simp only [Gh.bk] at hb him
  exact ⟨ces,ck,by rw [hob,hb];exact h1,by rw [hob,him];exact h2,h3.ext hx _ _ hl,h4⟩
 |siter s pos =>
  obtain ⟨h1,h2⟩ :=h
  simp only [Gh.bk] at hb him
  exact ⟨by rw [hob,hb];exact h1,by rw [hob,him];exact h2⟩
 |miter m since seen last =>
  obtain ⟨sn,l,h0,h1,h2⟩ :=h
  simp only [Gh.bk] at hb him
  exact ⟨sn,l,h0,by rw [hob,hb,hx.ob m hl];exact h1,by rw [hob,him];exact h2⟩
 |loop st fn tm nt params assign body dfr =>
  obtain ⟨l,h1,h2,h3,h4,h6,h7,h8,h9,h10⟩ :=h
  simp only [Gh.bk] at hb him
  exact ⟨l,by rw [hob,hb];exact h1,by rw [hob,him];exact h2,h3,h4,h6.ext hx hl.1,h7,h8,h9,by rw [hx.ob dfr hl.2];exact h10⟩
 |dfr taken =>
  obtain ⟨h1,h2⟩ :=h
  simp only [Gh.bk] at hb him
  exact ⟨by rw [hob,hb];exact h1,by rw [hob,him];exact h2⟩
theorem Ext.bk {L:Nat → Prop} {g g':Gh} {w w':World} (hx:Ext L g w g' w') {i:Nat} (o:AObj) (hi:L i) (hcn:g'.cn i = g.cn i):g'.bk o i = g.bk o i :=by
 cases o <;> simp only [Gh.bk]
 all_goals first
  |exact (hx.cb i hi hcn).1
  |exact hx.ob i hi
theorem MLive.mono {L L':Nat → Prop} (hx:∀ i,L i → L' i):∀ (es:List (AV × AV)),MLive L es → MLive L' es
 | [],_ => trivial
 |(_,_) :: r,h => ⟨h.1.mono hx,h.2.1.mono hx,MLive.mono hx r h.2.2⟩
theorem OLive.mono {L L':Nat → Prop} (hx:∀ i,L i → L' i) {o:AObj} (h:OLive L o):OLive L' o :=by
 cases o <;> first
  |trivial
  |exact fun j a hj => (h j a hj).mono hx
  |exact Lives.mono hx _ h
  |exact MLive.mono hx _ h
  |exact hx _ h
  |exact ⟨fun j a hj => (h.1 j a hj).mono hx,hx _ h.2⟩
theorem OBd.mono {m m':Nat} (hm:m ≤ m') {o:AObj} (h:OBd m o):OBd m' o :=by
 cases o <;> first
  |trivial
  |exact fun j a hj => Nat.le_trans (h j a hj) hm
  |exact fun p hp => ⟨Nat.le_trans (h p hp).1 hm,Nat.le_trans (h p hp).2 hm⟩
  |exact Nat.le_trans h hm
  |exact Nat.lt_of_lt_of_le h hm
  |exact ⟨fun j a hj => Nat.le_trans (h.1 j a hj) hm,Nat.lt_of_lt_of_le h.2 hm⟩
theorem HRel.upd {g g':Gh} {B:Nat} {w w':World} {H H':AH} (h:HRel g B w H) {i:Nat} {x:AObj} (hx:Ext H.L g w g' w')
  (hH:∀ j,H'.o j = if j = i then x else H.o j) (hne:x ≠ .hole)
  (hoth:∀ j,j ≠ i → H.o j ≠ .hole → w'.heap[g.bk (H.o j) j]? = w.heap[g.bk (H.o j) j]? ∧ g'.im (g.bk (H.o j) j) = g.im (g.bk (H.o j) j) ∧ g'.cn j = g.cn j)
  (hsz:w.heap.size ≤ w'.heap.size) (himz:∀ b,w'.heap.size ≤ b → g'.im b = 0)
  (hbk:B ≤ g'.bk x i ∧ g'.bk x i < w'.heap.size) (hinj:∀ j,j ≠ i → H.o j ≠ .hole → g'.bk x i ≠ g.bk (H.o j) j)
  (hrel:ORel g' w' i x) (hlive:OLive H'.L x) (hkp:OBd (max (i + 1) H'.keep) x) (hkeep:H.keep ≤ H'.keep) (hn:H.n ≤ H'.n) (hi:i < H'.n):HRel g' B w' H' :=by
 have hL:∀ j,H.L j → H'.L j :=fun j hj => by
  unfold AH.L at *
  rw [hH];split
  ·exact hne
  ·exact hj
 have hbk':∀ j,j ≠ i → H.o j ≠ .hole → g'.bk (H.o j) j = g.bk (H.o j) j :=fun j hj hjh => hx.bk _ hjh (hoth j hj hjh).2.2
 constructor
 ·intro j hj
  rw [hH,if_neg (by omega)]
  exact h.wf j (by omega)
 ·intro j hj
  rw [hH] at hj ⊢
  by_cases e:j = i
  ·subst e;simp only [if_true] at *;exact hbk
  ·simp only [if_neg e] at *
   rw [hbk' j e hj]
   exact ⟨(h.ge j hj).1,Nat.lt_of_lt_of_le (h.ge j hj).2 hsz⟩
 ·intro j k hj hk
  rw [hH] at hj ⊢
  rw [hH k] at hk ⊢
  by_cases ej:j = i <;> by_cases ek:k = i
  ·intro _;rw [ej,ek]
  ·simp only [if_pos ej,if_neg ek] at *
   rw [hbk' k ek hk]
   intro e
   subst ej
   exact absurd e (hinj k ek hk)
  ·simp only [if_neg ej,if_pos ek] at *
   rw [hbk' j ej hj]
   intro e
   subst ek
   exact absurd e.symm (hinj j ej hj)
  ·simp only [if_neg ej,if_neg ek] at *
   rw [hbk' j ej hj,hbk' k ek hk]
   exact h.inj j k hj hk
 ·intro j
  rw [hH]
  by_cases e:j = i
  ·subst e;simp only [if_true];exact hrel
  ·simp only [if_neg e]
   by_cases hjh:H.o j = .hole
   ·rw [hjh];trivial
   ·obtain ⟨a1,a2,a3⟩ :=hoth j e hjh
    exact (h.rel j).ext hx (h.live j) hjh a1 a2 a3
 ·intro j
  rw [hH]
  by_cases e:j = i
  ·simp only [if_pos e];exact hlive
  ·simp only [if_neg e];exact (h.live j).mono hL
 ·intro j
  rw [hH]
  by_cases e:j = i
  ·subst e;simp only [if_true];exact hkp
  ·simp only [if_neg e];exact (h.kp j).mono (by omega)
 ·exact himz
 ·exact Nat.le_trans h.hB hsz
 ·exact h.gl.ext hx
theorem Ext.of_heap {L:Nat → Prop} {g:Gh} {w w':World} (h:w'.heap = w.heap):Ext L g w g w' :=
 ⟨fun _ _ => rfl,fun _ _ => Nat.le_refl _,fun _ _ _ => ⟨rfl,rfl⟩,fun _ => Nat.le_refl _,fun b j _ => by simp [World.cell?,h]⟩
theorem HRel.of_heap {g:Gh} {B:Nat} {w w':World} {H:AH} (hr:HRel g B w H) (h:w'.heap = w.heap):HRel g B w' H :=by
 constructor
 ·exact hr.wf
 ·intro i hi;rw [h];exact hr.ge i hi
 ·exact hr.inj
 ·intro i
  by_cases e:H.o i = .hole
  ·rw [e];trivial
  ·exact (hr.rel i).ext (Ext.of_heap (L :=H.L) h) (hr.live i) e (by rw [h]) rfl rfl
 ·exact hr.live
 ·exact hr.kp
 ·intro b hb;rw [h] at hb;exact hr.imz b hb
 ·rw [h];exact hr.hB
 ·exact hr.gl.ext (Ext.of_heap (L :=H.L) h)
def AH.cut (H:AH) (m:Nat):AH :={ n :=m,keep :=H.keep,o :=fun i => if i < m then H.o i else .hole }
theorem TrLive.below {L:Nat → Prop} {n:Nat} {t:Tr AV} (h:TrLive L t) (hb:∀ j a,t.get j = some a → bd a ≤ n):TrLive (fun i => L i ∧ i < n) t :=
 fun j a hj => (h j a hj).below _ (hb j a hj)
theorem MLive.below {L:Nat → Prop} {n:Nat}:∀ (es:List (AV × AV)),MLive L es → (∀ p,p ∈ es → bd p.1 ≤ n ∧ bd p.2 ≤ n) → MLive (fun i => L i ∧ i < n) es
 | [],_,_ => trivial
 |(k,v) :: r,h,hb => ⟨h.1.below _ (hb (k,v) (List.mem_cons_self ..)).1,h.2.1.below _ (hb (k,v) (List.mem_cons_self ..)).2,
   MLive.below r h.2.2 fun p hp => hb p (List.mem_cons_of_mem _ hp)⟩
theorem OLive.below {L:Nat → Prop} {n:Nat} {o:AObj} (h:OLive L o) (hb:OBd n o):OLive (fun i => L i ∧ i < n) o :=by
 cases o <;> first
  |trivial
  |exact TrLive.below h hb
  |exact Lives.below _ h hb
  |exact MLive.below _ h hb
  |exact ⟨h,hb⟩
  |exact ⟨TrLive.below h.1 hb.1,h.2,hb.2⟩
theorem AH.cut_L {H:AH} {m i:Nat}:(H.cut m).L i ↔ H.L i ∧ i < m :=by
 unfold AH.L AH.cut
 by_cases e:i < m <;> simp [e]
theorem HRel.cut {g:Gh} {B:Nat} {w:World} {H:AH} (h:HRel g B w H) {m:Nat} (hk:H.keep ≤ m):HRel g B w (H.cut m) :=by
 have ho:∀ i,(H.cut m).o i = if i < m then H.o i else .hole :=fun _ => rfl
 constructor
 ·intro i hi
  rw [ho,if_neg (by have:(H.cut m).n = m :=rfl;omega)]
 ·intro i hi
  rw [ho] at hi ⊢
  by_cases e:i < m
  ·simp only [if_pos e] at *;exact h.ge i hi
  ·simp [e] at hi
 ·intro i j hi hj
  rw [ho] at hi ⊢
  rw [ho j] at hj ⊢
  by_cases e:i < m
  ·by_cases e2:j < m
   ·simp only [if_pos e,if_pos e2] at *;exact h.inj i j hi hj
   ·simp [e2] at hj
  ·simp [e] at hi
 ·intro i
  rw [ho]
  by_cases e:i < m
  ·simp only [if_pos e];exact h.rel i
  ·simp only [if_neg e];trivial
 ·intro i
  rw [ho]
  by_cases e:i < m
  ·simp only [if_pos e]
   refine OLive.mono (fun j hj => AH.cut_L.2 hj) (OLive.below (h.live i) ((h.kp i).mono (m' :=m) (by omega)))
  ·simp only [if_neg e];trivial
 ·intro i
  rw [ho]
  by_cases e:i < m
  ·simp only [if_pos e];exact h.kp i
  ·simp only [if_neg e];trivial
 ·exact h.imz
 ·exact h.hB
 ·exact h.gl
def AH.room (H:AH) (k:Nat):AH :={ H with n :=H.n + k }
theorem HRel.room {g:Gh} {B:Nat} {w:World} {H:AH} (h:HRel g B w H) (k:Nat):HRel g B w (H.room k) :=
 { wf :=fun i hi => h.wf i (by have:(H.room k).n = H.n + k :=rfl;omega),ge :=h.ge,inj :=h.inj,rel :=h.rel,live :=h.live,kp :=h.kp,imz :=h.imz,hB :=h.hB,gl :=h.gl }
inductive Plan where
 |ret (v:AV)
 |skip
 |fail
 |chk (b:Bool) (k:Plan)
 |fL (xs:List AV) (k:List AV → Plan)
 |get (i:Nat) (k:AObj → Plan)
 |setcs (i off:Nat) (vs:List AV) (k:Plan)
 |seto (i:Nat) (x:AObj) (r:Nat) (k:Plan)
 |newl (cs:List AV) (ty:TypeId) (k:Nat → Plan)
 |newc (n:Nat) (x:AV) (ty:TypeId) (k:Nat → Plan)
 |newo (x:AObj) (r:Nat) (k:Nat → Plan)
 |call (f:FuncId) (args:List AV)
 |yld (o:Nat) (args:List AV)
 |defr (f:FuncId) (args:List AV)
 |recover
 |panic (v:AV)
inductive PRes where
 |val (v:AV)
 |skip
 |call (f:FuncId) (args:List AV)
 |yld (o:Nat) (args:List AV)
 |defr (f:FuncId) (args:List AV)
 |recover
 |panic (v:AV)
def upd (o:Nat → AObj) (i:Nat) (x:AObj):Nat → AObj :=fun j => if j = i then x else o j
theorem upd_same (o:Nat → AObj) (i:Nat) (x:AObj):upd o i x i = x :=by simp [upd]
theorem upd_ne (o:Nat → AObj) {i j:Nat} (x:AObj) (h:j ≠ i):upd o i x j = o j :=by simp [upd,h]
def TSet (t:Tr AV) (off:Nat) (vs:List AV) (t':Tr AV):Prop :=
 ∀ j,t'.get j = if off ≤ j ∧ j < off + vs.length then vs[j - off]? else t.get j
def TOf (cs:List AV) (t:Tr AV):Prop :=∀ j,t.get j = cs[j]?
abbrev WL :=List (Nat × AObj × Nat)
def EvF (s:Nat):Plan → (Nat → AObj) → PRes → List Nat → WL → Prop
 | .ret v,_,r,R,W => r = .val v ∧ R = [] ∧ W = []
 | .skip,_,r,R,W => r = .skip ∧ R = [] ∧ W = []
 | .fail,_,_,_,_ => False
 | .chk b k,o,r,R,W => b = true ∧ EvF s k o r R W
 | .fL xs k,o,r,R,W => EvF s (k xs) o r R W
 | .get i k,o,r,R,W => ∃ R',R = i :: R' ∧ EvF s (k (o i)) o r R' W
 | .setcs i off vs k,o,r,R,W => ∃ R' W' t n ty t',R = i :: R' ∧ o i = .cells t n ty ∧ off + vs.length ≤ n ∧ TSet t off vs t' ∧
   W = (i,.cells t' n ty,bdl vs) :: W' ∧ EvF s k (upd o i (.cells t' n ty)) r R' W'
 | .seto i x rb k,o,r,R,W => ∃ R' W',R = i :: R' ∧ W = (i,x,rb) :: W' ∧ EvF s k (upd o i x) r R' W'
 | .newl cs ty k,o,r,R,W => ∃ W' t,TOf cs t ∧ W = (s,.cells t cs.length ty,bdl cs) :: W' ∧ EvF s (k s) (upd o s (.cells t cs.length ty)) r R W'
 | .newc n x ty k,o,r,R,W => ∃ W' t,(∀ j,t.get j = if j < n then some x else none) ∧ W = (s,.cells t n ty,bd x) :: W' ∧ EvF s (k s) (upd o s (.cells t n ty)) r R W'
 | .newo x q k,o,r,R,W => ∃ W',W = (s,x,q) :: W' ∧ EvF s (k s) (upd o s x) r R W'
 | .call f args,_,r,R,W => r = .call f args ∧ R = [] ∧ W = []
 | .yld l args,_,r,R,W => r = .yld l args ∧ R = [] ∧ W = []
 | .defr f args,_,r,R,W => r = .defr f args ∧ R = [] ∧ W = []
 | .recover,_,r,R,W => r = .recover ∧ R = [] ∧ W = []
 | .panic v,_,r,R,W => r = .panic v ∧ R = [] ∧ W = []
theorem EvF.agree {s:Nat}:∀ (p:Plan) (o o':Nat → AObj) (r:PRes) (R:List Nat) (W:WL),EvF s p o r R W → (∀ i,i ∈ R → o' i = o i) → EvF s p o' r R W
 | .ret _,_,_,_,_,_,h,_ => h
 | .skip,_,_,_,_,_,h,_ => h
 | .fail,_,_,_,_,_,h,_ => h
 | .chk _ k,o,o',r,R,W,h,ha => ⟨h.1,EvF.agree k o o' r R W h.2 ha⟩
 | .fL xs k,o,o',r,R,W,h,ha => EvF.agree (k xs) o o' r R W h ha
 | .get i k,o,o',r,R,W,h,ha => by
  obtain ⟨R',e,h1⟩ :=h
  subst e
  refine ⟨R',rfl,?_⟩
  have e :=ha i (by simp)
  rw [e]
  exact EvF.agree (k (o i)) o o' r R' W h1 fun j hj => ha j (by simp [hj])
 | .setcs i off vs k,o,o',r,R,W,h,ha => by
  obtain ⟨R',W',t,n,ty,t',e,h1,h2,h3,h4,h5⟩ :=h
  subst e
  refine ⟨R',W',t,n,ty,t',rfl,(ha i (by simp)).trans h1,h2,h3,h4,EvF.agree k _ _ r R' W' h5 fun j hj => ?_⟩
  unfold upd;split
  ·rfl
  ·exact ha j (by simp [hj])
 | .seto i x rb k,o,o',r,R,W,h,ha => by
  obtain ⟨R',W',e,h1,h2⟩ :=h
  subst e
  refine ⟨R',W',rfl,h1,EvF.agree k _ _ r R' W' h2 fun j hj => ?_⟩
  unfold upd;split
  ·rfl
  ·exact ha j (by simp [hj])
 | .newl cs ty k,o,o',r,R,W,h,ha => by
  obtain ⟨W',t,h1,h2,h3⟩ :=h
  refine ⟨W',t,h1,h2,EvF.agree (k s) _ _ r R W' h3 fun j hj => ?_⟩
  unfold upd;split
  ·rfl
  ·exact ha j hj
 | .newc n x ty k,o,o',r,R,W,h,ha => by
  obtain ⟨W',t,h1,h2,h3⟩ :=h
  refine ⟨W',t,h1,h2,EvF.agree (k s) _ _ r R W' h3 fun j hj => ?_⟩
  unfold upd;split
  ·rfl
  ·exact ha j hj
 | .newo x _ k,o,o',r,R,W,h,ha => by
  obtain ⟨W',h1,h2⟩ :=h
  refine ⟨W',h1,EvF.agree (k s) _ _ r R W' h2 fun j hj => ?_⟩
  unfold upd;split
  ·rfl
  ·exact ha j hj
 | .call _ _,_,_,_,_,_,h,_ => h
 | .yld _ _,_,_,_,_,_,h,_ => h
 | .defr _ _,_,_,_,_,_,h,_ => h
 | .recover,_,_,_,_,_,h,_ => h
 | .panic _,_,_,_,_,_,h,_ => h
def AH.put (H:AH) (i:Nat) (x:AObj) (r:Nat):AH :=
 { n :=max H.n (i + 1),keep :=if r ≤ i + 1 then H.keep else max H.keep r,o :=upd H.o i x }
def AH.app (H:AH):WL → AH
 | [] => H
 |(i,x,r) :: W => (H.put i x r).app W
theorem AH.put_keep (H:AH) (i:Nat) (x:AObj) (r:Nat):H.keep ≤ (H.put i x r).keep :=by
 show H.keep ≤ if r ≤ i + 1 then H.keep else max H.keep r
 split <;> omega
theorem AH.put_bd (H:AH) (i:Nat) (x:AObj) (r:Nat):r ≤ max (i + 1) (H.put i x r).keep :=by
 show r ≤ max (i + 1) (if r ≤ i + 1 then H.keep else max H.keep r)
 split <;> omega
theorem AH.put_L (H:AH) (i:Nat) {x:AObj} (r:Nat) (hx:x ≠ .hole) {j:Nat} (h:H.L j):(H.put i x r).L j :=by
 show upd H.o i x j ≠ .hole
 unfold upd;split
 ·exact hx
 ·exact h
theorem AH.put_L_same (H:AH) (i:Nat) {x:AObj} (r:Nat) (hx:x ≠ .hole):(H.put i x r).L i :=by
 show upd H.o i x i ≠ .hole
 rw [upd_same];exact hx
theorem bd_le_bdl:∀ (cs:List AV) (a:AV),a ∈ cs → bd a ≤ bdl cs
 |x :: xs,a,h => by
  rcases List.mem_cons.1 h with e | h
  ·subst e;exact Nat.le_max_left _ _
  ·exact Nat.le_trans (bd_le_bdl xs a h) (Nat.le_max_right _ _)
theorem Lives.mem {L:Nat → Prop}:∀ (cs:List AV) (a:AV),Lives L cs → a ∈ cs → Live L a
 |x :: xs,a,h,hm => by
  rcases List.mem_cons.1 hm with e | hm
  ·subst e;exact h.1
  ·exact Lives.mem xs a h.2 hm
theorem VRels.length {g:Gh} {w:World}:∀ {xs:List AV} {vs:List Value},VRels g w xs vs → vs.length = xs.length
 | [],vs,h => by simp only [VRels] at h;simp [h]
 |x :: xs,vs,h => by
  simp only [VRels] at h
  obtain ⟨u,us,e,_,h2⟩ :=h
  subst e
  simp [VRels.length h2]
theorem VRels.get {g:Gh} {w:World}:∀ {xs:List AV} {vs:List Value},VRels g w xs vs → ∀ (j:Nat) (a:AV),xs[j]? = some a → ∃ v,vs[j]? = some v ∧ VRel g w a v
 | [],_,_,j,a,ha => by simp at ha
 |x :: xs,vs,h,j,a,ha => by
  simp only [VRels] at h
  obtain ⟨u,us,e,h1,h2⟩ :=h
  subst e
  cases j with
  |zero => simp at ha;subst ha;exact ⟨u,by simp,h1⟩
  |succ j => simp at ha;obtain ⟨v,h3,h4⟩ :=VRels.get h2 j a ha;exact ⟨v,by simpa using h3,h4⟩
def Owned (g:Gh) (H:AH) (k:Nat):Prop :=∃ i,H.o i ≠ .hole ∧ g.bk (H.o i) i = k
structure Out (g:Gh) (B:Nat) (w:World) (H:AH) (g':Gh) (w':World) (H':AH):Prop where
 rel:HRel g' B w' H'
 ext:Ext H.L g w g' w'
 below:RowKit.Below B w w'
 L:∀ i,H.L i → H'.L i
 frame:∀ k,k < w.heap.size → ¬ Owned g H k → w'.heap[k]? = w.heap[k]? ∧ g'.im k = g.im k
 own:∀ k,Owned g' H' k → Owned g H k ∨ w.heap.size ≤ k
theorem Out.refl {g:Gh} {B:Nat} {w:World} {H:AH} (h:HRel g B w H):Out g B w H g w H :=⟨h,Ext.refl _ _ _,RowKit.Below.refl _ _,fun _ h => h,fun _ _ _ => ⟨rfl,rfl⟩,fun _ h => .inl h⟩
theorem own_put {g g':Gh} {H:AH} {i:Nat} {x:AObj} {r m:Nat} (h1:∀ j,j ≠ i → H.o j ≠ .hole → g'.bk (H.o j) j = g.bk (H.o j) j) (h2:Owned g H (g'.bk x i) ∨ m ≤ g'.bk x i) :
  ∀ k,Owned g' (H.put i x r) k → Owned g H k ∨ m ≤ k :=by
 rintro k ⟨j,hj,e⟩
 have ho:(H.put i x r).o j = if j = i then x else H.o j :=rfl
 rw [ho] at hj e
 by_cases hji:j = i
 ·subst hji
  rw [if_pos rfl] at e
  subst e
  exact h2
 ·rw [if_neg hji] at hj e
  rw [h1 j hji hj] at e
  exact .inl ⟨j,hj,e⟩
theorem alloc_old {w:World} {co:Obj} {k:Nat} (h:k < w.heap.size):(w.alloc co).heap[k]? = w.heap[k]? :=by
 show (w.heap.push co)[_]? = _
 rw [Array.getElem?_push,if_neg (by omega)]
theorem Out.trans {g1 g2 g3:Gh} {B:Nat} {w1 w2 w3:World} {H1 H2 H3:AH} (h:Out g1 B w1 H1 g2 w2 H2) (k:Out g2 B w2 H2 g3 w3 H3):Out g1 B w1 H1 g3 w3 H3 :=
 ⟨k.rel,h.ext.trans (k.ext.mono h.L),h.below.trans k.below,fun i hi => k.L i (h.L i hi),
  fun b hb hn => by
   have hb2:b < w2.heap.size :=Nat.lt_of_lt_of_le hb h.below.size
   have hn2:¬ Owned g2 H2 b :=fun ho => by
    rcases h.own b ho with e | e
    ·exact hn e
    ·omega
   obtain ⟨a1,a2⟩ :=h.frame b hb hn
   obtain ⟨c1,c2⟩ :=k.frame b hb2 hn2
   exact ⟨c1.trans a1,c2.trans a2⟩,
  fun b hb => by
   have :=h.below.size
   rcases k.own b hb with e | e
   ·exact h.own b e
   ·exact .inr (by omega)⟩
theorem cell_alloc_lt {w:World} {o:Obj} {b j:Nat} (h:b < w.heap.size):(w.alloc o).cell? ⟨b,j,none⟩ = w.cell? ⟨b,j,none⟩ :=
 World.cell?_alloc_lt w o ⟨b,j,none⟩ h
theorem HRel.newOb {g:Gh} {B:Nat} {w:World} {H:AH} (h:HRel g B w H) {s:Nat} (hs:H.o s = .hole) {x:AObj} (hxh:x ≠ .hole) (hxc:∀ g i,Gh.bk g x i = g.ob i) (co:Obj) (r:Nat)
  (hrel:∀ g',g'.ob s = w.heap.size → g'.im w.heap.size = 0 → (∀ i,H.L i → g'.ob i = g.ob i) → Ext H.L g w g' (w.alloc co) → ORel g' (w.alloc co) s x)
  (hlive:OLive (H.put s x r).L x) (hkp:OBd (max (s + 1) (H.put s x r).keep) x) :
  ∃ g',Out g B w H g' (w.alloc co) (H.put s x r) ∧ g'.ob s = w.heap.size :=by
 let g':Gh :={ g with ob :=fun i => if i = s then w.heap.size else g.ob i }
 have hne:∀ i,H.L i → i ≠ s :=fun i hi e => hi (e ▸ hs)
 have hob:∀ i,H.L i → g'.ob i = g.ob i :=fun i hi => if_neg (hne i hi)
 have hbl:∀ b j,j < g.im b → b < w.heap.size :=fun b j hj => by
  apply Nat.lt_of_not_le
  intro hb
  rw [h.imz b hb] at hj
  omega
 have hx:Ext H.L g w g' (w.alloc co) :=
  ⟨hob,fun _ _ => Nat.le_refl _,fun _ _ _ => ⟨rfl,rfl⟩,fun _ => Nat.le_refl _,fun b j hj => cell_alloc_lt (hbl b j hj)⟩
 have hsame:g'.ob s = w.heap.size :=if_pos rfl
 have hbk:g'.bk x s = w.heap.size :=by rw [hxc];exact hsame
 refine ⟨g',⟨HRel.upd h hx (fun j => rfl) hxh ?_ ?_ ?_ ?_ ?_ ?_ hlive hkp (AH.put_keep H s x r) ?_ ?_,hx,(RowKit.Below.refl B w).alloc h.hB co,fun i hi => AH.put_L H s r hxh hi,
  fun k hk _ => ⟨alloc_old hk,rfl⟩,own_put (fun j _ hj => hx.bk _ hj rfl) (.inr (by rw [hbk];exact Nat.le_refl _))⟩,hsame⟩
 ·intro j _ hj
  refine ⟨?_,rfl,rfl⟩
  have :=(h.ge j hj).2
  show (w.heap.push co)[_]? = _
  rw [Array.getElem?_push,if_neg (by omega)]
 ·simp
 ·intro b hb
  refine h.imz b ?_
  simp at hb
  omega
 ·rw [hbk];exact ⟨h.hB,by simp⟩
 ·intro j _ hj
  rw [hbk]
  have :=(h.ge j hj).2
  omega
 ·exact hrel g' hsame (h.imz _ (Nat.le_refl _)) hob hx
 ·show H.n ≤ max H.n (s + 1)
  omega
 ·show s < max H.n (s + 1)
  omega
theorem heap_alloc_new (w:World) (o:Obj):(w.alloc o).heap[w.heap.size]? = some o :=by
 show (w.heap.push o)[w.heap.size]? = some o
 simp
theorem HRel.newCells {g:Gh} {B:Nat} {w:World} {H:AH} (h:HRel g B w H) {s:Nat} (hs:H.o s = .hole) {t:Tr AV} {cs:List AV} {vs:List Value} {ty:TypeId}
  (ht:TOf cs t) (hv:VRels g w cs vs) (hl:Lives H.L cs) :
  ∃ g',Out g B w H g' (w.alloc (.cells vs.toArray ty)) (H.put s (.cells t cs.length ty) (bdl cs)) ∧ g'.ob s = w.heap.size :=by
 have hmem:∀ j a,t.get j = some a → a ∈ cs :=fun j a hj => by
  rw [ht] at hj
  exact List.mem_of_getElem? hj
 refine h.newOb hs (by simp) (fun _ _ => rfl) _ _ ?_ ?_ ?_
 ·intro g' e1 e2 _ hx
  refine ⟨vs.toArray,by rw [e1];exact .of0 (heap_alloc_new _ _),by rw [e1];exact e2,by have :=hv.length;simp;omega,fun j hj => ?_⟩
  have h1:cs[j]? = some cs[j] :=List.getElem?_eq_getElem hj
  obtain ⟨v,h2,h3⟩ :=hv.get j _ h1
  exact ⟨cs[j],v,by rw [ht];exact h1,by simpa using h2,h3.ext hx _ _ (hl.mem _ _ (List.getElem_mem hj))⟩
 ·intro j a hj
  exact (hl.mem _ _ (hmem j a hj)).mono fun i hi => AH.put_L H s _ (by simp) hi
 ·intro j a hj
  exact Nat.le_trans (bd_le_bdl _ _ (hmem j a hj)) (AH.put_bd H s _ _)
theorem HRel.newCellsP {g:Gh} {B:Nat} {w:World} {H:AH} (h:HRel g B w H) {s:Nat} (hs:H.o s = .hole) {t:Tr AV} {cs:List AV} {vs:List Value} {arr:Array Value} {ty:TypeId}
  (ht:TOf cs t) (hv:VRels g w cs vs) (hl:Lives H.L cs) (ha:vs.length ≤ arr.size ∧ ∀ j,j < vs.length → arr[j]? = vs[j]?) :
  ∃ g',Out g B w H g' (w.alloc (.cells arr ty)) (H.put s (.cells t cs.length ty) (bdl cs)) ∧ g'.ob s = w.heap.size :=by
 have hmem:∀ j a,t.get j = some a → a ∈ cs :=fun j a hj => by
  rw [ht] at hj
  exact List.mem_of_getElem? hj
 have hlen :=hv.length
 refine h.newOb hs (by simp) (fun _ _ => rfl) _ _ ?_ ?_ ?_
 ·intro g' e1 e2 _ hx
  refine ⟨arr,by rw [e1];exact .of0 (heap_alloc_new _ _),by rw [e1];exact e2,by omega,fun j hj => ?_⟩
  have h1:cs[j]? = some cs[j] :=List.getElem?_eq_getElem hj
  obtain ⟨v,h2,h3⟩ :=hv.get j _ h1
  exact ⟨cs[j],v,by rw [ht];exact h1,by rw [ha.2 j (by omega)];exact h2,h3.ext hx _ _ (hl.mem _ _ (List.getElem_mem hj))⟩
 ·intro j a hj
  exact (hl.mem _ _ (hmem j a hj)).mono fun i hi => AH.put_L H s _ (by simp) hi
 ·intro j a hj
  exact Nat.le_trans (bd_le_bdl _ _ (hmem j a hj)) (AH.put_bd H s _ _)
theorem HRel.newCopies {g:Gh} {B:Nat} {w:World} {H:AH} (h:HRel g B w H) {s:Nat} (hs:H.o s = .hole) {t:Tr AV} {n:Nat} {x:AV} {arr:Array Value} {ty:TypeId}
  (ht:∀ j,t.get j = if j < n then some x else none) (hn:arr.size = n) (hv:∀ j,j < n → ∃ v,arr[j]? = some v ∧ VRel g w x v) (hl:Live H.L x) :
  ∃ g',Out g B w H g' (w.alloc (.cells arr ty)) (H.put s (.cells t n ty) (bd x)) ∧ g'.ob s = w.heap.size :=by
 have hmem:∀ j a,t.get j = some a → a = x :=fun j a hj => by
  rw [ht] at hj
  split at hj
  ·cases hj;rfl
  ·cases hj
 refine h.newOb hs (by simp) (fun _ _ => rfl) _ _ ?_ ?_ ?_
 ·intro g' e1 e2 _ hx
  refine ⟨arr,by rw [e1];exact .of0 (heap_alloc_new _ _),by rw [e1];exact e2,by omega,fun j hj => ?_⟩
  obtain ⟨v,h2,h3⟩ :=hv j hj
  exact ⟨x,v,by rw [ht,if_pos hj],h2,h3.ext hx _ _ hl⟩
 ·intro j a hj
  rw [hmem j a hj]
  exact hl.mono fun i hi => AH.put_L H s _ (by simp) hi
 ·intro j a hj
  rw [hmem j a hj]
  exact AH.put_bd H s _ _
theorem LRel.of_get {g:Gh} {w:World} {b:Nat}:∀ (xs:List AV) (off:Nat),(∀ (j:Nat) (a:AV),xs[j]? = some a → ∃ v,w.cell? ⟨b,off + j,none⟩ = some v ∧ VRel g w a v) → LRel g w xs b off
 | [],_,_ => trivial
 |x :: xs,off,h => by
  simp only [LRel]
  refine ⟨by simpa using h 0 x (by simp),LRel.of_get xs (off + 1) fun j a ha => ?_⟩
  have :=h (j + 1) a (by simpa using ha)
  rwa [show off + (j + 1) = off + 1 + j by omega] at this
theorem LRel.get {g:Gh} {w:World} {b:Nat}:∀ (xs:List AV) (off:Nat),LRel g w xs b off → ∀ j a,xs[j]? = some a → ∃ v,w.cell? ⟨b,off + j,none⟩ = some v ∧ VRel g w a v
 | [],_,_,j,a,ha => by simp at ha
 |x :: xs,off,h,j,a,ha => by
  simp only [LRel] at h
  cases j with
  |zero => simp at ha;subst ha;exact h.1
  |succ j =>
   simp at ha
   have :=LRel.get xs (off + 1) h.2 j a ha
   rwa [show off + (j + 1) = off + 1 + j by omega]
theorem VRels.of_get {g:Gh} {w:World}:∀ (xs:List AV) (vs:List Value),vs.length = xs.length → (∀ (j:Nat) (a:AV),xs[j]? = some a → ∃ v,vs[j]? = some v ∧ VRel g w a v) → VRels g w xs vs
 | [],vs,hl,_ => by simp only [VRels];exact List.length_eq_zero_iff.1 hl
 |x :: xs,[],hl,_ => by simp at hl
 |x :: xs,v :: vs,hl,h => by
  simp only [VRels]
  obtain ⟨u,h1,h2⟩ :=h 0 x (by simp)
  simp at h1
  subst h1
  exact ⟨v,vs,rfl,h2,VRels.of_get xs vs (by simpa using hl) fun j a ha => by simpa using h (j + 1) a (by simpa using ha)⟩
theorem HRel.lt {g:Gh} {B:Nat} {w:World} {H:AH} (h:HRel g B w H) {i:Nat} (hi:H.L i):i < H.n :=by
 apply Nat.lt_of_not_le
 intro hn
 exact hi (h.wf i hn)
theorem cell_of_block {w w':World} {b j:Nat} (h:w'.heap[b]? = w.heap[b]?):w'.cell? ⟨b,j,none⟩ = w.cell? ⟨b,j,none⟩ :=by
 simp [World.cell?,h]
theorem HRel.setOb {g:Gh} {B:Nat} {w:World} {H:AH} (h:HRel g B w H) {i:Nat} (hi:H.L i) (hic:g.bk (H.o i) i = g.ob i) (him:g.im (g.ob i) = 0)
  {x:AObj} (hxh:x ≠ .hole) (hxc:g.bk x i = g.ob i) (r:Nat) {w':World} (hsz:w'.heap.size = w.heap.size) (hoth:∀ k,k ≠ g.ob i → w'.heap[k]? = w.heap[k]?)
  (hos:w'.os = w.os) (hta:w'.tape = w.tape) (hou:w'.output = w.output)
  (hrel:Ext H.L g w g w' → ORel g w' i x) (hlive:OLive (H.put i x r).L x) (hkp:OBd (max (i + 1) (H.put i x r).keep) x) :
  Out g B w H g w' (H.put i x r) :=by
 have hx:Ext H.L g w g w' :=
  ⟨fun _ _ => rfl,fun _ _ => Nat.le_refl _,fun _ _ _ => ⟨rfl,rfl⟩,fun _ => Nat.le_refl _,fun b j hj => cell_of_block (hoth b fun e => by subst e;omega)⟩
 have hge :=h.ge i hi
 rw [hic] at hge
 refine ⟨HRel.upd h hx (fun j => rfl) hxh ?_ ?_ ?_ ?_ ?_ (hrel hx) hlive hkp (AH.put_keep H i x r) ?_ ?_,hx,⟨hos,hta,hou,by omega,fun k hk => hoth k (by omega)⟩,fun j hj => AH.put_L H i r hxh hj,
  fun k _ hn => ⟨hoth k fun e => hn ⟨i,hi,by rw [hic,e]⟩,rfl⟩,own_put (fun j _ _ => rfl) (.inl ⟨i,hi,by rw [hic,hxc]⟩)⟩
 ·intro j hj hjh
  refine ⟨hoth _ fun e => hj (h.inj j i hjh hi (by rw [e,hic])),rfl,rfl⟩
 ·omega
 ·intro b hb;exact h.imz b (by omega)
 ·rw [hxc,hsz];exact hge
 ·intro j hj hjh e
  rw [hxc] at e
  exact hj (h.inj j i hjh hi (by rw [← e,hic]))
 ·show H.n ≤ max H.n (i + 1)
  omega
 ·show i < max H.n (i + 1)
  omega
theorem TrLive.set {L:Nat → Prop} {t t':Tr AV} {off:Nat} {vs:List AV} (h:TrLive L t) (hv:Lives L vs) (ht:TSet t off vs t'):TrLive L t' :=by
 intro j a hj
 rw [ht] at hj
 split at hj
 ·exact hv.mem _ _ (List.mem_of_getElem? hj)
 ·exact h j a hj
theorem CellsAt.setRow {w:World} {b:Nat} {arr arr':Array Value} {ty:TypeId} (h:CellsAt w b arr ty) (hs:arr'.size = arr.size):CellsAt (w.setRow b arr') b arr' ty :=by
 obtain ⟨fz,h1,h2⟩ :=h
 exact ⟨fz,setRow_heap w b arr arr' ty fz h1,by omega⟩
theorem HRel.setCells {g:Gh} {B:Nat} {w:World} {H:AH} (h:HRel g B w H) {i:Nat} {t t':Tr AV} {n:Nat} {ty:TypeId} (hi:H.o i = .cells t n ty)
  {off:Nat} {vs:List AV} {cvs:List Value} (hn:off + vs.length ≤ n) (ht:TSet t off vs t') (hv:VRels g w vs cvs) (hl:Lives H.L vs) :
  ∃ arr,CellsAt w (g.ob i) arr ty ∧ n ≤ arr.size ∧
   Out g B w H g (w.setRow (g.ob i) (arr.toList.take off ++ cvs ++ arr.toList.drop (off + cvs.length)).toArray) (H.put i (.cells t' n ty) (bdl vs)) :=by
 have hLi:H.L i :=by unfold AH.L;rw [hi];simp
 have hr :=h.rel i
 rw [hi] at hr
 obtain ⟨arr,h1,h2,h3,h4⟩ :=hr
 have hlen :=hv.length
 have hli :=h.live i
 rw [hi] at hli
 have hkp :=h.kp i
 rw [hi] at hkp
 have hsame :=h1.setRow (arr' :=(arr.toList.take off ++ cvs ++ arr.toList.drop (off + cvs.length)).toArray) (by simp only [List.size_toArray,List.length_append,List.length_take,List.length_drop,Array.length_toList];omega)
 refine ⟨arr,h1,h3,?_⟩
 refine h.setOb hLi (by rw [hi];rfl) h2 (by simp) rfl _ (setRow_size _ _ _) (fun k hk => setRow_other _ _ _ _ hk) rfl rfl rfl ?_ ?_ ?_
 ·intro hx
  refine ⟨_,hsame,h2,?_,fun j hj => ?_⟩
  ·simp only [List.size_toArray,List.length_append,List.length_take,List.length_drop,Array.length_toList]
   omega
  ·by_cases e:off ≤ j ∧ j < off + vs.length
   ·have e1:vs[j - off]? = some vs[j - off] :=List.getElem?_eq_getElem (by omega)
    obtain ⟨v,e2,e3⟩ :=hv.get _ _ e1
    refine ⟨_,v,by rw [ht,if_pos e];exact e1,?_,e3.ext hx _ _ (hl.mem _ _ (List.getElem_mem _))⟩
    have e4:(List.take off arr.toList).length = off :=by simp;omega
    rw [List.getElem?_toArray,List.append_assoc,List.getElem?_append_right (by omega),e4,List.getElem?_append_left (by omega)]
    exact e2
   ·obtain ⟨a,v,e1,e2,e3⟩ :=h4 j hj
    refine ⟨a,v,by rw [ht,if_neg e];exact e1,?_,e3.ext hx _ _ (hli j a e1)⟩
    rw [List.getElem?_toArray]
    by_cases e5:j < off
    ·rw [List.append_assoc,List.getElem?_append_left (by simp;omega),List.getElem?_take_of_lt e5]
     simpa using e2
    ·have e6:(List.take off arr.toList ++ cvs).length = off + cvs.length :=by simp;omega
     rw [List.getElem?_append_right (by omega),e6,List.getElem?_drop]
     rw [show off + cvs.length + (j - (off + cvs.length)) = j by omega]
     simpa using e2
 ·exact TrLive.set (fun j a hj => (hli j a hj).mono fun k hk => AH.put_L H i _ (by simp) hk) (hl.mono fun k hk => AH.put_L H i _ (by simp) hk) ht
 ·intro j a hj
  rw [ht] at hj
  split at hj
  ·exact Nat.le_trans (bd_le_bdl _ _ (List.mem_of_getElem? hj)) (AH.put_bd H i _ _)
  ·have :=AH.put_keep H i (.cells t' n ty) (bdl vs)
   exact Nat.le_trans (hkp j a hj) (by omega)
theorem HRel.newChain {g : Gh} {B : Nat} {w : World} {H : AH} (h : HRel g B w H) {s : Nat} (hs : H.o s = .hole) {n cap sz : Nat} {ty : TypeId} {arr : Array Value}
    (ha:cap * sz = arr.size) (hn:n ≤ cap) :
    ∃ g',Out g B w H g' (w.alloc (.cells arr ty)) (H.put s (.chain n sz ty) 0) ∧ g'.cb s = w.heap.size ∧ g'.im w.heap.size = n * sz ∧ g'.cc s = cap ∧ g'.cn s = n :=by
  let g' : Gh := { g with im := fun b => if b = w.heap.size then n * sz else g.im b, cn := fun i => if i = s then n else g.cn i,
                          cb :=fun i => if i = s then w.heap.size else g.cb i,cc :=fun i => if i = s then cap else g.cc i }
  have hne:∀ i,H.L i → i ≠ s :=fun i hi e => hi (e ▸ hs)
  have hbl:∀ b j,j < g.im b → b < w.heap.size :=fun b j hj => by
    apply Nat.lt_of_not_le
    intro hb
    rw [h.imz b hb] at hj
    omega
  have hcn:∀ i,H.L i → g'.cn i = g.cn i :=fun i hi => if_neg (hne i hi)
  have hx:Ext H.L g w g' (w.alloc (.cells arr ty)) :=by
    refine ⟨fun _ _ => rfl,fun i hi => Nat.le_of_eq (hcn i hi).symm,fun i hi _ => ⟨if_neg (hne i hi),if_neg (hne i hi)⟩,fun b => ?_,fun b j hj => cell_alloc_lt (hbl b j hj)⟩
    show g.im b ≤ if b = w.heap.size then n * sz else g.im b
    split
    · rename_i e;rw [h.imz b (by omega)];omega
    · omega
  have e1:g'.cb s = w.heap.size :=if_pos rfl
  have e2:g'.im w.heap.size = n * sz :=if_pos rfl
  have e3:g'.cc s = cap :=if_pos rfl
  have e4:g'.cn s = n :=if_pos rfl
  refine ⟨g',⟨HRel.upd h hx (fun j => rfl) (by simp) ?_ ?_ ?_ ?_ ?_ ?_ trivial trivial (AH.put_keep H s _ _) ?_ ?_,hx,(RowKit.Below.refl B w).alloc h.hB _,fun i hi => AH.put_L H s _ (by simp) hi,
    fun k hk _ => ⟨alloc_old hk,if_neg (by omega)⟩,own_put (fun j _ hj => hx.bk _ hj (hcn j hj)) (.inr (Nat.le_of_eq e1.symm))⟩,e1,e2,e3,e4⟩
  · intro j _ hj
    have :=(h.ge j hj).2
    refine ⟨?_,if_neg (by omega),hcn j hj⟩
    show (w.heap.push _)[_]? = _
    rw [Array.getElem?_push,if_neg (by omega)]
  · simp
  · intro b hb
    simp at hb
    show (if b = w.heap.size then n * sz else g.im b) = 0
    rw [if_neg (by omega)]
    exact h.imz b (by omega)
  · show B ≤ g'.cb s ∧ g'.cb s < _
    rw [e1];exact ⟨h.hB,by simp⟩
  · intro j _ hj
    show g'.cb s ≠ _
    rw [e1]
    have :=(h.ge j hj).2
    omega
  · exact ⟨arr,by rw [e1];exact heap_alloc_new _ _,by rw [e1];exact e2,by rw [e3];exact hn,by rw [e3];exact ha,e4⟩
  · show H.n ≤ max H.n (s + 1)
    omega
  · show s < max H.n (s + 1)
    omega
theorem HRel.growChain {g:Gh} {B:Nat} {w:World} {H:AH} (h:HRel g B w H) {c:Nat} {n m sz:Nat} {ty:TypeId} (hc:H.o c = .chain n sz ty) (hm:n + m ≤ g.cc c)
  {arr arr':Array Value} (ha:w.heap[g.cb c]? = some (.cells arr ty (0,0))) (hs:arr'.size = arr.size) (hsame:∀ j,j < n * sz → arr'[j]? = arr[j]?) :
  ∃ g',Out g B w H g' (w.setRow (g.cb c) arr') (H.put c (.chain (n + m) sz ty) 0) ∧ g'.cb c = g.cb c ∧ g'.im (g.cb c) = (n + m) * sz ∧ g'.cc c = g.cc c ∧ g'.cn c = n + m :=by
 have hLc:H.L c :=by unfold AH.L;rw [hc];simp
 have hr :=h.rel c
 rw [hc] at hr
 obtain ⟨arr0,h1,h2,h3,h4,h5⟩ :=hr
 rw [ha] at h1
 injection h1 with h1
 injection h1 with h1
 subst h1
 let g':Gh :={ g with im :=fun b => if b = g.cb c then (n + m) * sz else g.im b,cn :=fun i => if i = c then n + m else g.cn i }
 have hcell:∀ b j,j < g.im b → (w.setRow (g.cb c) arr').cell? ⟨b,j,none⟩ = w.cell? ⟨b,j,none⟩ :=by
  intro b j hj
  by_cases e:b = g.cb c
  ·subst e
   rw [h2] at hj
   rw [cell_setRow_same w (g.cb c) j arr arr' ty (0,0) ha,hsame j hj]
   simp [World.cell?,ha]
  ·exact cell_setRow_other _ _ _ _ e
 have hx:Ext H.L g w g' (w.setRow (g.cb c) arr') :=by
  refine ⟨fun _ _ => rfl,fun i _ => ?_,fun i _ _ => ⟨rfl,rfl⟩,fun b => ?_,hcell⟩
  ·show g.cn i ≤ if i = c then n + m else g.cn i
   split
   ·rename_i e;subst e;omega
   ·omega
  ·show g.im b ≤ if b = g.cb c then (n + m) * sz else g.im b
   split
   ·rename_i e;subst e;rw [h2];exact Nat.mul_le_mul_right _ (by omega)
   ·omega
 have e2:g'.im (g.cb c) = (n + m) * sz :=if_pos rfl
 have e4:g'.cn c = n + m :=if_pos rfl
 have hge :=h.ge c hLc
 rw [hc] at hge
 simp only [Gh.bk] at hge
 refine ⟨g',⟨HRel.upd h hx (fun j => rfl) (by simp) ?_ ?_ ?_ ?_ ?_ ?_ trivial trivial (AH.put_keep H c _ _) ?_ ?_,hx,
  below_setRow (RowKit.Below.refl B w) hge.1 _,fun i hi => AH.put_L H c _ (by simp) hi,
  fun k _ hn => by
   have hne:k ≠ g.cb c :=fun e => hn ⟨c,hLc,by rw [hc];exact e.symm⟩
   exact ⟨setRow_other _ _ _ _ hne,if_neg hne⟩,
  own_put (fun j hj hjh => hx.bk _ hjh (if_neg hj)) (.inl ⟨c,hLc,by rw [hc];rfl⟩)⟩,rfl,e2,rfl,e4⟩
 ·intro j hj hjh
  have hne:g.bk (H.o j) j ≠ g.cb c :=fun e => hj (h.inj j c hjh hLc (by rw [e,hc];rfl))
  exact ⟨setRow_other _ _ _ _ hne,if_neg hne,if_neg hj⟩
 ·simp
 ·intro b hb
  simp at hb
  show (if b = g.cb c then (n + m) * sz else g.im b) = 0
  rw [if_neg (by omega)]
  exact h.imz b hb
 ·show B ≤ g.cb c ∧ g.cb c < _
  simpa using hge
 ·intro j hj hjh e
  exact hj (h.inj j c hjh hLc (by rw [hc];exact e.symm))
 ·exact ⟨arr',setRow_heap w (g.cb c) arr arr' ty (0,0) ha,e2,hm,by rw [hs];exact h4,e4⟩
 ·show H.n ≤ max H.n (c + 1)
  omega
 ·show c < max H.n (c + 1)
  omega
theorem HRel.moveChain {g : Gh} {B : Nat} {w : World} {H : AH} (h : HRel g B w H) {c : Nat} {n m cap sz : Nat} {ty : TypeId} (hc : H.o c = .chain n sz ty) (hm : 0 < m)
    {arr:Array Value} (ha:cap * sz = arr.size) (hn:n + m ≤ cap) :
    ∃ g',Out g B w H g' (w.alloc (.cells arr ty)) (H.put c (.chain (n + m) sz ty) 0) ∧ g'.cb c = w.heap.size ∧ g'.im w.heap.size = (n + m) * sz ∧ g'.cc c = cap ∧ g'.cn c = n + m :=by
  have hLc:H.L c :=by unfold AH.L;rw [hc];simp
  have hr :=h.rel c
  rw [hc] at hr
  obtain ⟨arr0,h1,h2,h3,h4,h5⟩ :=hr
  let g' : Gh := { g with im := fun b => if b = w.heap.size then (n + m) * sz else g.im b, cn := fun i => if i = c then n + m else g.cn i,
                          cb :=fun i => if i = c then w.heap.size else g.cb i,cc :=fun i => if i = c then cap else g.cc i }
  have hbl:∀ b j,j < g.im b → b < w.heap.size :=fun b j hj => by
    apply Nat.lt_of_not_le
    intro hb
    rw [h.imz b hb] at hj
    omega
  have hx:Ext H.L g w g' (w.alloc (.cells arr ty)) :=by
    refine ⟨fun _ _ => rfl,fun i _ => ?_,fun i _ he => ?_,fun b => ?_,fun b j hj => cell_alloc_lt (hbl b j hj)⟩
    · show g.cn i ≤ if i = c then n + m else g.cn i
      split
      · rename_i e;subst e;omega
      · omega
    · have he':(if i = c then n + m else g.cn i) = g.cn i :=he
      by_cases e:i = c
      · subst e;rw [if_pos rfl] at he';omega
      · exact ⟨if_neg e,if_neg e⟩
    · show g.im b ≤ if b = w.heap.size then (n + m) * sz else g.im b
      split
      · rename_i e;rw [h.imz b (by omega)];omega
      · omega
  have e1:g'.cb c = w.heap.size :=if_pos rfl
  have e2:g'.im w.heap.size = (n + m) * sz :=if_pos rfl
  have e3:g'.cc c = cap :=if_pos rfl
  have e4:g'.cn c = n + m :=if_pos rfl
  refine ⟨g',⟨HRel.upd h hx (fun j => rfl) (by simp) ?_ ?_ ?_ ?_ ?_ ?_ trivial trivial (AH.put_keep H c _ _) ?_ ?_,hx,(RowKit.Below.refl B w).alloc h.hB _,fun i hi => AH.put_L H c _ (by simp) hi,
    fun k hk _ => ⟨alloc_old hk,if_neg (by omega)⟩,own_put (fun j hj hjh => hx.bk _ hjh (if_neg hj)) (.inr (Nat.le_of_eq e1.symm))⟩,e1,e2,e3,e4⟩
  · intro j hj hjh
    have :=(h.ge j hjh).2
    refine ⟨?_,if_neg (by omega),if_neg hj⟩
    show (w.heap.push _)[_]? = _
    rw [Array.getElem?_push,if_neg (by omega)]
  · simp
  · intro b hb
    simp at hb
    show (if b = w.heap.size then (n + m) * sz else g.im b) = 0
    rw [if_neg (by omega)]
    exact h.imz b (by omega)
  · show B ≤ g'.cb c ∧ g'.cb c < _
    rw [e1];exact ⟨h.hB,by simp⟩
  · intro j hj hjh
    show g'.cb c ≠ _
    rw [e1]
    have :=(h.ge j hjh).2
    omega
  · exact ⟨arr,by rw [e1];exact heap_alloc_new _ _,by rw [e1];exact e2,by rw [e3];exact hn,by rw [e3];exact ha,e4⟩
  · show H.n ≤ max H.n (c + 1)
    omega
  · show c < max H.n (c + 1)
    omega
theorem HRel.newMrow {g : Gh} {B : Nat} {w : World} {H : AH} (h : HRel g B w H) {s : Nat} (hs : H.o s = .hole) {xs : List AV} {n cap sz : Nat} {ty : TypeId} {arr : Array Value}
    (ha:cap * sz = arr.size) (hn:n ≤ cap) (hx:xs.length = n * sz) (hl:Lives H.L xs) (hv:∀ (j:Nat) (a:AV),xs[j]? = some a → ∃ v,arr[j]? = some v ∧ VRel g w a v) :
    ∃ g',Out g B w H g' (w.alloc (.cells arr ty)) (H.put s (.mrow xs n sz ty) (bdl xs)) ∧ g'.cb s = w.heap.size ∧ g'.im w.heap.size = 0 ∧ g'.cc s = cap ∧ g'.cn s = n :=by
  let g' : Gh := { g with cn := fun i => if i = s then n else g.cn i,
                          cb :=fun i => if i = s then w.heap.size else g.cb i,cc :=fun i => if i = s then cap else g.cc i }
  have hne:∀ i,H.L i → i ≠ s :=fun i hi e => hi (e ▸ hs)
  have hbl:∀ b j,j < g.im b → b < w.heap.size :=fun b j hj => by
    apply Nat.lt_of_not_le
    intro hb
    rw [h.imz b hb] at hj
    omega
  have hcn:∀ i,H.L i → g'.cn i = g.cn i :=fun i hi => if_neg (hne i hi)
  have hx':Ext H.L g w g' (w.alloc (.cells arr ty)) :=
    ⟨fun _ _ => rfl,fun i hi => Nat.le_of_eq (hcn i hi).symm,fun i hi _ => ⟨if_neg (hne i hi),if_neg (hne i hi)⟩,fun b => Nat.le_refl _,fun b j hj => cell_alloc_lt (hbl b j hj)⟩
  have e1:g'.cb s = w.heap.size :=if_pos rfl
  have e2:g'.im w.heap.size = 0 :=h.imz _ (Nat.le_refl _)
  have e3:g'.cc s = cap :=if_pos rfl
  have e4:g'.cn s = n :=if_pos rfl
  refine ⟨g',⟨HRel.upd h hx' (fun j => rfl) (by simp) ?_ ?_ ?_ ?_ ?_ ?_ (hl.mono fun k hk => AH.put_L H s _ (by simp) hk) (AH.put_bd H s _ _) (AH.put_keep H s _ _) ?_ ?_,hx',(RowKit.Below.refl B w).alloc h.hB _,fun i hi => AH.put_L H s _ (by simp) hi,
    fun k hk _ => ⟨alloc_old hk,rfl⟩,own_put (fun j _ hj => hx'.bk _ hj (hcn j hj)) (.inr (Nat.le_of_eq e1.symm))⟩,e1,e2,e3,e4⟩
  · intro j _ hj
    have :=(h.ge j hj).2
    refine ⟨?_,rfl,hcn j hj⟩
    show (w.heap.push _)[_]? = _
    rw [Array.getElem?_push,if_neg (by omega)]
  · simp
  · intro b hb
    simp at hb
    exact h.imz b (by omega)
  · show B ≤ g'.cb s ∧ g'.cb s < _
    rw [e1];exact ⟨h.hB,by simp⟩
  · intro j _ hj
    show g'.cb s ≠ _
    rw [e1]
    have :=(h.ge j hj).2
    omega
  · refine ⟨arr,by rw [e1];exact heap_alloc_new _ _,by rw [e1];exact e2,by rw [e3];exact hn,by rw [e3];exact ha,e4,hx,fun j a hj => ?_⟩
    obtain ⟨v,k1,k2⟩ :=hv j a hj
    exact ⟨v,k1,k2.ext hx' _ _ (hl.at hj)⟩
  · show H.n ≤ max H.n (s + 1)
    omega
  · show s < max H.n (s + 1)
    omega
theorem HRel.growMrow {g:Gh} {B:Nat} {w:World} {H:AH} (h:HRel g B w H) {c:Nat} {xs xs':List AV} {n m sz:Nat} {ty:TypeId} (hc:H.o c = .mrow xs n sz ty) (hm:n + m ≤ g.cc c)
  {arr arr':Array Value} (ha:w.heap[g.cb c]? = some (.cells arr ty (0,0))) (hs:arr'.size = arr.size)
  (hx:xs'.length = (n + m) * sz) (hl:Lives H.L xs') (hv:∀ (j:Nat) (a:AV),xs'[j]? = some a → ∃ v,arr'[j]? = some v ∧ VRel g w a v) :
  ∃ g',Out g B w H g' (w.setRow (g.cb c) arr') (H.put c (.mrow xs' (n + m) sz ty) (bdl xs')) ∧ g'.cb c = g.cb c ∧ g'.im (g.cb c) = 0 ∧ g'.cc c = g.cc c ∧ g'.cn c = n + m :=by
 have hLc:H.L c :=by unfold AH.L;rw [hc];simp
 have hr :=h.rel c
 rw [hc] at hr
 obtain ⟨arr0,h1,h2,h3,h4,h5,_⟩ :=hr
 rw [ha] at h1
 injection h1 with h1
 injection h1 with h1
 subst h1
 let g':Gh :={ g with cn :=fun i => if i = c then n + m else g.cn i }
 have hcell:∀ b j,j < g.im b → (w.setRow (g.cb c) arr').cell? ⟨b,j,none⟩ = w.cell? ⟨b,j,none⟩ :=by
  intro b j hj
  by_cases e:b = g.cb c
  ·subst e
   rw [h2] at hj
   omega
  ·exact cell_setRow_other _ _ _ _ e
 have hx':Ext H.L g w g' (w.setRow (g.cb c) arr') :=by
  refine ⟨fun _ _ => rfl,fun i _ => ?_,fun i _ _ => ⟨rfl,rfl⟩,fun b => Nat.le_refl _,hcell⟩
  show g.cn i ≤ if i = c then n + m else g.cn i
  split
  ·rename_i e;subst e;omega
  ·omega
 have e4:g'.cn c = n + m :=if_pos rfl
 have hge :=h.ge c hLc
 rw [hc] at hge
 simp only [Gh.bk] at hge
 refine ⟨g',⟨HRel.upd h hx' (fun j => rfl) (by simp) ?_ ?_ ?_ ?_ ?_ ?_ (hl.mono fun k hk => AH.put_L H c _ (by simp) hk) (AH.put_bd H c _ _) (AH.put_keep H c _ _) ?_ ?_,hx',
  below_setRow (RowKit.Below.refl B w) hge.1 _,fun i hi => AH.put_L H c _ (by simp) hi,
  fun k _ hn => by
   have hne:k ≠ g.cb c :=fun e => hn ⟨c,hLc,by rw [hc];exact e.symm⟩
   exact ⟨setRow_other _ _ _ _ hne,rfl⟩,
  own_put (fun j hj hjh => hx'.bk _ hjh (if_neg hj)) (.inl ⟨c,hLc,by rw [hc];rfl⟩)⟩,rfl,h2,rfl,e4⟩
 ·intro j hj hjh
  have hne:g.bk (H.o j) j ≠ g.cb c :=fun e => hj (h.inj j c hjh hLc (by rw [e,hc];rfl))
  exact ⟨setRow_other _ _ _ _ hne,rfl,if_neg hj⟩
 ·simp
 ·intro b hb
  simp at hb
  exact h.imz b hb
 ·show B ≤ g.cb c ∧ g.cb c < _
  simpa using hge
 ·intro j hj hjh e
  exact hj (h.inj j c hjh hLc (by rw [hc];exact e.symm))
 ·refine ⟨arr',setRow_heap w (g.cb c) arr arr' ty (0,0) ha,h2,hm,by rw [hs];exact h4,e4,hx,fun j a hj => ?_⟩
  obtain ⟨v,k1,k2⟩ :=hv j a hj
  exact ⟨v,k1,k2.ext hx' _ _ (hl.at hj)⟩
 ·show H.n ≤ max H.n (c + 1)
  omega
 ·show c < max H.n (c + 1)
  omega
theorem HRel.moveMrow {g : Gh} {B : Nat} {w : World} {H : AH} (h : HRel g B w H) {c : Nat} {xs xs' : List AV} {n m cap sz : Nat} {ty : TypeId} (hc : H.o c = .mrow xs n sz ty) (hm : 0 < m)
    {arr:Array Value} (ha:cap * sz = arr.size) (hn:n + m ≤ cap) (hx:xs'.length = (n + m) * sz) (hl:Lives H.L xs') (hv:∀ (j:Nat) (a:AV),xs'[j]? = some a → ∃ v,arr[j]? = some v ∧ VRel g w a v) :
    ∃ g',Out g B w H g' (w.alloc (.cells arr ty)) (H.put c (.mrow xs' (n + m) sz ty) (bdl xs')) ∧ g'.cb c = w.heap.size ∧ g'.im w.heap.size = 0 ∧ g'.cc c = cap ∧ g'.cn c = n + m :=by
  have hLc:H.L c :=by unfold AH.L;rw [hc];simp
  have hr :=h.rel c
  rw [hc] at hr
  obtain ⟨arr0,h1,h2,h3,h4,h5,_⟩ :=hr
  let g' : Gh := { g with cn := fun i => if i = c then n + m else g.cn i,
                          cb :=fun i => if i = c then w.heap.size else g.cb i,cc :=fun i => if i = c then cap else g.cc i }
  have hbl:∀ b j,j < g.im b → b < w.heap.size :=fun b j hj => by
    apply Nat.lt_of_not_le
    intro hb
    rw [h.imz b hb] at hj
    omega
  have hx':Ext H.L g w g' (w.alloc (.cells arr ty)) :=by
    refine ⟨fun _ _ => rfl,fun i _ => ?_,fun i _ he => ?_,fun b => Nat.le_refl _,fun b j hj => cell_alloc_lt (hbl b j hj)⟩
    · show g.cn i ≤ if i = c then n + m else g.cn i
      split
      · rename_i e;subst e;omega
      · omega
    · have he':(if i = c then n + m else g.cn i) = g.cn i :=he
      by_cases e:i = c
      · subst e;rw [if_pos rfl] at he';omega
      · exact ⟨if_neg e,if_neg e⟩
  have e1:g'.cb c = w.heap.size :=if_pos rfl
  have e2:g'.im w.heap.size = 0 :=h.imz _ (Nat.le_refl _)
  have e3:g'.cc c = cap :=if_pos rfl
  have e4:g'.cn c = n + m :=if_pos rfl
  refine ⟨g',⟨HRel.upd h hx' (fun j => rfl) (by simp) ?_ ?_ ?_ ?_ ?_ ?_ (hl.mono fun k hk => AH.put_L H c _ (by simp) hk) (AH.put_bd H c _ _) (AH.put_keep H c _ _) ?_ ?_,hx',(RowKit.Below.refl B w).alloc h.hB _,fun i hi => AH.put_L H c _ (by simp) hi,
    fun k hk _ => ⟨alloc_old hk,rfl⟩,own_put (fun j hj hjh => hx'.bk _ hjh (if_neg hj)) (.inr (Nat.le_of_eq e1.symm))⟩,e1,e2,e3,e4⟩
  · intro j hj hjh
    have :=(h.ge j hjh).2
    refine ⟨?_,rfl,if_neg hj⟩
    show (w.heap.push _)[_]? = _
    rw [Array.getElem?_push,if_neg (by omega)]
  · simp
  · intro b hb
    simp at hb
    exact h.imz b (by omega)
  · show B ≤ g'.cb c ∧ g'.cb c < _
    rw [e1];exact ⟨h.hB,by simp⟩
  · intro j hj hjh
    show g'.cb c ≠ _
    rw [e1]
    have :=(h.ge j hjh).2
    omega
  · refine ⟨arr,by rw [e1];exact heap_alloc_new _ _,by rw [e1];exact e2,by rw [e3];exact hn,by rw [e3];exact ha,e4,hx,fun j a hj => ?_⟩
    obtain ⟨v,k1,k2⟩ :=hv j a hj
    exact ⟨v,k1,k2.ext hx' _ _ (hl.at hj)⟩
  · show H.n ≤ max H.n (c + 1)
    omega
  · show c < max H.n (c + 1)
    omega
theorem Out.drew {g:Gh} {B:Nat} {w:World} {H:AH} (h:HRel g B w H):Out g B w H g w.drew H :=
 ⟨h.of_heap rfl,Ext.of_heap rfl,(RowKit.Below.refl B w).drew,fun _ h => h,fun _ _ _ => ⟨rfl,rfl⟩,fun _ h => .inl h⟩
end
end Go.Abs
/-! The tables, the operands, and the results of operations. -/
namespace Go.Abs
open Go
noncomputable section
def TOK (P:Program) (T:Tr TypeInfo):Prop :=∀ t i,T.get t = some i → P.info? t = some i
def tyU (T:Tr TypeInfo) (t:TypeId):Option TypeDesc :=
 match T.get t with
 |some i => match i.desc with
  | .named _ u => match T.get u with
   |some j => some j.desc
   |none => none
  |d => some d
 |none => none
theorem tyU_ok {P:Program} {T:Tr TypeInfo} (hT:TOK P T) {t:TypeId} {d:TypeDesc} (h:tyU T t = some d):P.underlying t = some d :=by
 unfold tyU at h
 cases hi:T.get t with
 |none => rw [hi] at h;cases h
 |some i =>
  rw [hi] at h
  have h1 :=hT t i hi
  unfold Program.underlying
  rw [h1]
  simp only at h ⊢
  cases hd:i.desc with
  |named nm u =>
   simp only [hd] at h ⊢
   cases hj:T.get u with
   |none => rw [hj] at h;cases h
   |some j =>
    rw [hj] at h
    have h2 :=hT u j hj
    obtain ⟨d0,_⟩ :=i
    simp only at hd
    subst hd
    simp [h2]
    simpa using h
  | _ =>
   simp only [hd] at h ⊢
   obtain ⟨d0,_⟩ :=i
   simp only at hd
   subst hd
   simpa using h
theorem run_underlying_ok {P:Program} {T:Tr TypeInfo} (hT:TOK P T) {t:TypeId} {d:TypeDesc} (h:tyU T t = some d) (w:World):(underlying t).run P w = .ok d w :=
 run_underlying (tyU_ok hT h) w
theorem run_typeInfo_ok {P:Program} {T:Tr TypeInfo} (hT:TOK P T) {t:TypeId} {i:TypeInfo} (h:T.get t = some i) (w:World):(typeInfo t).run P w = .ok i w :=by
 simp [typeInfo,hT t i h]
theorem run_sizeOf_ok {P:Program} {T:Tr TypeInfo} (hT:TOK P T) {t:TypeId} {i:TypeInfo} (h:T.get t = some i) (w:World):(sizeOf t).run P w = .ok i.size w :=by
 simp [sizeOf,run_typeInfo_ok hT h]
theorem run_zeroValue_ok {P:Program} {T:Tr TypeInfo} (hT:TOK P T) {t:TypeId} {i:TypeInfo} (h:T.get t = some i) {v:Value} (hz:i.zero = some v) (w:World):(zeroValue t).run P w = .ok v w :=by
 simp [zeroValue,run_typeInfo_ok hT h,hz]
mutual
def ofV:Value → AV
 | .bool b => .bool b
 | .int k n => .int k n
 | .string s => .str s.data.toList
 | .pointer none => .nilp
 | .slice none 0 0 => .nils
 | .map none => .nilm
 | .nilFunc => .nilf
 | .nilIface => .nili
 | .iface t v => .iface t (ofV v)
 | .agg ⟨cs⟩ => .agg (ofVs cs)
 | _ => .unk
def ofVs:List Value → List AV
 | [] => []
 |v :: vs => ofV v :: ofVs vs
end
mutual
theorem ofV_rel (g:Gh) (w:World):∀ v,VRel g w (ofV v) v
 | .bool _ => by simp [ofV,VRel]
 | .int _ _ => by simp [ofV,VRel]
 | .string _ => by simp [ofV,VRel]
 | .pointer none => by simp [ofV,VRel]
 | .pointer (some _) => by simp [ofV,VRel]
 | .slice none 0 0 => by simp [ofV,VRel]
 | .slice none 0 (_ + 1) => by simp [ofV,VRel]
 | .slice none (_ + 1) _ => by simp [ofV,VRel]
 | .slice (some _) _ _ => by simp [ofV,VRel]
 | .map none => by simp [ofV,VRel]
 | .map (some _) => by simp [ofV,VRel]
 | .nilFunc => by simp [ofV,VRel]
 | .nilIface => by simp [ofV,VRel]
 | .iface _ v => by
  simp only [ofV,VRel]
  exact ⟨v,rfl,ofV_rel g w v⟩
 | .agg ⟨cs⟩ => by
  simp only [ofV,VRel]
  exact ⟨⟨cs⟩,rfl,ofVs_rel g w cs⟩
 | .float _ _ => by simp [ofV,VRel]
 | .complex _ _ _ => by simp [ofV,VRel]
 | .chan _ => by simp [ofV,VRel]
 | .func _ _ _ => by simp [ofV,VRel]
 | .tuple _ => by simp [ofV,VRel]
theorem ofVs_rel (g:Gh) (w:World):∀ vs,VRels g w (ofVs vs) vs
 | [] => by simp [ofVs,VRels]
 |v :: vs => by
  simp only [ofVs,VRels]
  exact ⟨v,vs,rfl,ofV_rel g w v,ofVs_rel g w vs⟩
end
mutual
theorem ofV_live (L:Nat → Prop):∀ v,Live L (ofV v)
 | .bool _ => trivial
 | .int _ _ => trivial
 | .string _ => trivial
 | .pointer none => trivial
 | .pointer (some _) => trivial
 | .slice none 0 0 => trivial
 | .slice none 0 (_ + 1) => trivial
 | .slice none (_ + 1) _ => trivial
 | .slice (some _) _ _ => trivial
 | .map none => trivial
 | .map (some _) => trivial
 | .nilFunc => trivial
 | .nilIface => trivial
 | .iface _ v => ofV_live L v
 | .agg ⟨cs⟩ => ofVs_live L cs
 | .float _ _ => trivial
 | .complex _ _ _ => trivial
 | .chan _ => trivial
 | .func _ _ _ => trivial
 | .tuple _ => trivial
theorem ofVs_live (L:Nat → Prop):∀ vs,Lives L (ofVs vs)
 | [] => trivial
 |v :: vs => ⟨ofV_live L v,ofVs_live L vs⟩
end
/- The same over abstract values, without the type among its words. -/
def getA (p:Pa):Tr AV → Option AV :=
 @Pa.rec (fun _ => Tr AV → Option AV)
  (fun t => @Tr.rec AV (fun _ => Option AV) none (fun v _ _ _ _ => some v) t)
  (fun _ ih t => @Tr.rec AV (fun _ => Option AV) none (fun _ l _ _ _ => ih l) t)
  (fun _ ih t => @Tr.rec AV (fun _ => Option AV) none (fun _ _ r _ _ => ih r) t) p
theorem getA_eq (t:Tr AV) (i:Nat):getA (pathOf i) t = t.get i :=rfl
def setA (p:Pa):Tr AV → AV → (Tr AV → Prop) → Prop :=
 @Pa.rec (fun _ => Tr AV → AV → (Tr AV → Prop) → Prop)
  (fun t x K => @Tr.rec AV (fun _ => Prop) False (fun _ l r _ _ => K (.node x l r)) t)
  (fun _ ih t x K => @Tr.rec AV (fun _ => Prop) False (fun v l r _ _ => ih l x fun l' => K (.node v l' r)) t)
  (fun _ ih t x K => @Tr.rec AV (fun _ => Prop) False (fun v l r _ _ => ih r x fun r' => K (.node v l r')) t) p
def orUnk (x:Option AV):AV :=@Option.rec AV (fun _ => AV) .unk (fun v => v) x
def aev (tm:Tr AV) (x:Operand):AV :=
 @Operand.rec (fun _ => Tr AV → AV) (fun t tm => orUnk (getA (pathOf t) tm)) (fun v _ => ofV v) (fun g _ => @Nat.rec (fun _ => AV) (.lptr gl0V 0) (fun n _ => .gp (n + 1) 0) g) (fun f _ => .func (.func f) [] []) x tm
theorem aev_tmp (tm:Tr AV) (t:Tmp):aev tm (.tmp t) = match tm.get t with
  |some v => v
  |none => .unk :=by
 show orUnk (getA (pathOf t) tm) = _
 rw [getA_eq]
 cases tm.get t <;> rfl
theorem aev_func (tm:Tr AV) (f:FuncId):aev tm (.func f) = .func (.func f) [] [] :=rfl
structure FRel (g:Gh) (w:World) (L:Nat → Prop) (tm:Tr AV) (arr:Array Value):Prop where
 rel:∀ t a,tm.get t = some a → t < arr.size ∧ VRel g w a (arr.getD t undef)
 live:∀ t a,tm.get t = some a → Live L a
theorem FRel.ev {g:Gh} {w:World} {L:Nat → Prop} {tm:Tr AV} {a:Act} (h:FRel g w L tm a.tmps) (hg:GOk g w) (x:Operand):VRel g w (aev tm x) (a.eval x) :=by
 cases x with
 |tmp t =>
  simp only [aev_tmp,Act.eval]
  cases ht:tm.get t with
  |none => simp [VRel]
  |some v => exact (h.rel t v ht).2
 |const v => exact ofV_rel g w v
 |global gl =>
  cases gl with
  |zero => exact hg.rel
  |succ n => show VRel g w (.gp (n + 1) 0) _;simp [Act.eval,VRel]
 |func f => simp [aev_func,Act.eval,VRel,VRels]
theorem FRel.evl {g:Gh} {w:World} {L:Nat → Prop} {tm:Tr AV} {arr:Array Value} (h:FRel g w L tm arr) (x:Operand):Live L (aev tm x) :=by
 cases x with
 |tmp t =>
  simp only [aev_tmp]
  cases ht:tm.get t with
  |none => trivial
  |some v => exact h.live t v ht
 |const v => exact ofV_live L v
 |global gl =>
  cases gl with
  |zero => exact trivial
  |succ n => trivial
 |func f => exact ⟨trivial,trivial⟩
def FOK (P:Program) (F:Tr Func):Prop :=∀ f fn,F.get f = some fn → P.funcs[f]? = some fn ∧ (fn.name == "runtime.NumGoroutine") = false
structure OCtx (P:Program) (T:Tr TypeInfo) (F:Tr Func) (g:Gh) (B:Nat) (w:World) (H:AH) (s:Nat) (ev:Operand → AV) (ρ:Operand → Value):Prop where
 T:TOK P T
 F:FOK P F
 h:HRel g B w H
 s:H.o s = .hole
 rel:∀ x,VRel g w (ev x) (ρ x)
 live:∀ x,Live H.L (ev x)
def DRel (g:Gh) (w:World) (f:FuncId) (args:List AV) (d:Deferred):Prop :=
 ∃ cap as,d = { target :=.fn (.func f) cap,args :=as } ∧ VRels g w args (as ++ cap).toList
def OpRes (g:Gh) (B:Nat) (w:World) (H:AH) (W:WL) (res:Result Next):PRes → Prop
 | .val v => ∃ u g' w',res = .ok (.value u) w' ∧ Out g B w H g' w' (H.app W) ∧ VRel g' w' v u ∧ Live (H.app W).L v
 | .skip => ∃ g' w',res = .ok .skip w' ∧ Out g B w H g' w' (H.app W)
 | .call f args => W = [] ∧ ∃ vs,res = .ok (.enter f vs) w ∧ VRels g w args vs.toList ∧ Lives H.L args
 | .yld l args => W = [] ∧ H.L l ∧ ∃ vs:Array Value,(∃ st fn tm nt params assign body dfr,H.o l = .loop st fn tm nt params assign body dfr ∧ vs.size = params.length ∧
   ∃ lp:Loop,w.heap[g.ob l]? = some (.loop lp) ∧
    res = .ok (.round (g.ob l) lp.fn ((lp.params.zip vs).foldl (fun tmps (t,a) => tmps.setIfInBounds t a) lp.tmps) lp.assign lp.body) w) ∧ VRels g w args vs.toList ∧ Lives H.L args
 | .defr f args => W = [] ∧ ∃ d,res = .ok (.defer d) w ∧ DRel g w f args d ∧ Lives H.L args
 | .recover => W = [] ∧ res = .ok .recover w
 | .panic v => W = [] ∧ ∃ u,res = .halt (.panic u) w ∧ VRel g w v u ∧ Live H.L v
section
variable {P:Program} {T:Tr TypeInfo} {F:Tr Func} {g:Gh} {B:Nat} {w:World} {H:AH} {s:Nat} {ev:Operand → AV} {ρ:Operand → Value}
theorem OpRes.pure (hr:HRel g B w H) {v:AV} {u:Value} {res:Result Next} (hres:res = .ok (.value u) w) (hv:VRel g w v u) (hl:Live H.L v) :
  OpRes g B w H [] res (.val v) :=⟨u,g,w,hres,Out.refl hr,hv,hl⟩
theorem evF_ret {v:AV} {o:Nat → AObj} {r:PRes} {R:List Nat} {W:WL} (h:EvF s (.ret v) o r R W):r = .val v ∧ W = [] :=⟨h.1,h.2.2⟩
end
end
end Go.Abs

/-! Plans of the operations on values and cells, and that they are right. -/
namespace Go.Abs
open Go
noncomputable section
def cellsOf:AV → Option (List AV)
 | .agg cs => some cs
 | .unk => none
 | .tup _ => none
 |v => some [v]
theorem cellsOf_ok {g:Gh} {w:World} {L:Nat → Prop} {a:AV} {v:Value} {cs:List AV} (h:cellsOf a = some cs) (hv:VRel g w a v) (hl:Live L a) :
  VRels g w cs v.cells.toList ∧ Lives L cs :=by
 cases a <;> simp only [cellsOf,Option.some.injEq,reduceCtorEq] at h
 case agg cs' =>
  subst h
  obtain ⟨vs,e,h1⟩ :=hv
  subst e
  exact ⟨h1,hl⟩
 all_goals
  subst h
  refine ⟨?_,hl,trivial⟩
  simp only [VRels]
  refine ⟨v,[],?_,hv,rfl⟩
  simp only [VRel] at hv
  first
   |(subst hv;rfl)
   |(obtain ⟨_,_,e,_⟩ :=hv;subst e;rfl)
   |(obtain ⟨_,_,_,e,_⟩ :=hv;subst e;rfl)
   |(obtain ⟨_,e,_⟩ :=hv;subst e;rfl)
   |(rcases hv with ⟨_,e⟩ | ⟨_,_,e⟩ <;> (subst e;rfl))
def isCell:AV → Bool
 | .agg _ => false
 | .unk => false
 | .tup _ => false
 | _ => true
theorem isCell_ok {g:Gh} {w:World} {a:AV} {v:Value} (h:isCell a = true) (hv:VRel g w a v):v.oneCell' = true :=by
 cases a <;> simp only [isCell,Bool.false_eq_true] at h <;> simp only [VRel] at hv
 all_goals first
   |(subst hv;rfl)
   |(obtain ⟨_,_,e,_⟩ :=hv;subst e;rfl)
   |(obtain ⟨_,_,_,e,_⟩ :=hv;subst e;rfl)
   |(obtain ⟨_,e,_⟩ :=hv;subst e;rfl)
   |(rcases hv with ⟨_,e⟩ | ⟨_,_,e⟩ <;> (subst e;rfl))
def allCells:List AV → Bool
 | [] => true
 |x :: xs => match isCell x with
  |true => allCells xs
  |false => false
theorem allCells_ok {g:Gh} {w:World}:∀ {xs:List AV} {vs:List Value},allCells xs = true → VRels g w xs vs → ∀ v ∈ vs,v.oneCell' = true
 | [],vs,_,h,v,hv => by simp only [VRels] at h;subst h;cases hv
 |x :: xs,vs,ha,h,v,hv => by
  simp only [VRels] at h
  obtain ⟨u,us,e,h1,h2⟩ :=h
  subst e
  simp only [allCells] at ha
  cases hx:isCell x with
  |false => rw [hx] at ha;cases ha
  |true =>
   rw [hx] at ha
   rcases List.mem_cons.1 hv with e | hv
   ·subst e;exact isCell_ok hx h1
   ·exact allCells_ok ha h2 v hv
def zeroOf (T:Tr TypeInfo) (t:TypeId):Option (List AV) :=
 match T.get t with
 |some i => match i.zero with
  |some z => some (ofVs z.cells.toList)
  |none => none
 |none => none
theorem zeroOf_ok {P:Program} {T:Tr TypeInfo} (hT:TOK P T) {t:TypeId} {cs:List AV} (h:zeroOf T t = some cs) :
  ∃ z,(∀ w,(zeroValue t).run P w = .ok z w) ∧ cs = ofVs z.cells.toList :=by
 unfold zeroOf at h
 cases hi:T.get t with
 |none => rw [hi] at h;cases h
 |some i =>
  rw [hi] at h
  simp only at h
  cases hz:i.zero with
  |none => rw [hz] at h;cases h
  |some z =>
   rw [hz] at h
   simp only [Option.some.injEq] at h
   exact ⟨z,fun w => run_zeroValue_ok hT hi hz w,h.symm⟩
def loadN (t:Tr AV):Nat → Nat → Option (List AV)
 | _,0 => some []
 |off,n + 1 => match t.get off with
  |some v => match loadN t (off + 1) n with
   |some l => some (v :: l)
   |none => none
  |none => none
theorem loadN_ok {t:Tr AV}:∀ {n off:Nat} {l:List AV},loadN t off n = some l → l.length = n ∧ ∀ j,j < n → t.get (off + j) = l[j]?
 | 0,off,l,h => by simp [loadN] at h;subst h;simp
 |n + 1,off,l,h => by
  simp only [loadN] at h
  cases hv:t.get off with
  |none => rw [hv] at h;cases h
  |some v =>
   rw [hv] at h
   simp only at h
   cases hl:loadN t (off + 1) n with
   |none => rw [hl] at h;cases h
   |some l' =>
    rw [hl] at h
    simp only [Option.some.injEq] at h
    subst h
    obtain ⟨h1,h2⟩ :=loadN_ok hl
    refine ⟨by simp [h1],fun j hj => ?_⟩
    cases j with
    |zero => simpa using hv
    |succ j => rw [show off + (j + 1) = off + 1 + j by omega,h2 j (by omega)];simp
def dropN:Nat → List AV → List AV
 | 0,l => l
 | _ + 1,[] => []
 |n + 1,_ :: l => dropN n l
def takeN:Nat → List AV → Option (List AV)
 | 0,_ => some []
 | _ + 1,[] => none
 |n + 1,x :: l => match takeN n l with
  |some r => some (x :: r)
  |none => none
theorem dropN_eq:∀ (n:Nat) (l:List AV),dropN n l = l.drop n
 | 0,l => by simp [dropN]
 |n + 1,[] => by simp [dropN]
 |n + 1,_ :: l => by simp [dropN,dropN_eq n l]
theorem takeN_eq:∀ {n:Nat} {l r:List AV},takeN n l = some r → r = l.take n ∧ r.length = n
 | 0,l,r,h => by simp [takeN] at h;subst h;simp
 |n + 1,[],r,h => by simp [takeN] at h
 |n + 1,x :: l,r,h => by
  simp only [takeN] at h
  cases hr:takeN n l with
  |none => rw [hr] at h;cases h
  |some r' =>
   rw [hr] at h
   simp only [Option.some.injEq] at h
   subst h
   obtain ⟨h1,h2⟩ :=takeN_eq hr
   simp [← h1,h2]
def nth:List AV → Nat → Option AV
 | [],_ => none
 |x :: xs,i => match i with
  | 0 => some x
  |i + 1 => nth xs i
theorem nth_eq:∀ (l:List AV) (i:Nat),nth l i = l[i]?
 | [],i => by simp [nth]
 |x :: xs,0 => by simp [nth]
 |x :: xs,i + 1 => by simp [nth,nth_eq xs i]
def aggT (T:Tr TypeInfo) (t:TypeId):Option Bool :=
 match tyU T t with
 |some (.struct _) => some true
 |some (.array _ _) => some true
 |some _ => some false
 |none => none
theorem aggT_ok {P:Program} {T:Tr TypeInfo} (hT:TOK P T) {t:TypeId} {b:Bool} (h:aggT T t = some b) (w:World):(isAgg t).run P w = .ok b w :=by
 unfold aggT at h
 cases hd:tyU T t with
 |none => rw [hd] at h;cases h
 |some d =>
  rw [hd] at h
  have h1 :=run_underlying_ok hT hd w
  simp only [isAgg,Sem.run_bind,h1,Result.andThen_ok]
  cases d <;> simp only [Option.some.injEq] at h <;> subst h <;> rfl
def pLoad (T:Tr TypeInfo) (t:TypeId) (a:AV):Plan :=
 match aggT T t with
 |some true => match T.get t with
  |some i => match a with
   | .ptr o off => .get o fun x => match x with
    | .cells tr n _ => .chk (decide (off + i.size ≤ n)) (match loadN tr off i.size with
     |some l => .ret (.agg l)
     |none => .fail)
    | _ => .fail
   | .lptr xs off => match takeN i.size (dropN off xs) with
    |some l => .ret (.agg l)
    |none => .fail
   | _ => .fail
  |none => .fail
 |some false => match a with
  | .ptr o off => .get o fun x => match x with
   | .cells tr n _ => .chk (decide (off < n)) (match tr.get off with
    |some v => .ret v
    |none => .fail)
   | _ => .fail
  | .lptr xs off => match nth xs off with
   |some v => .ret v
   |none => .fail
  | _ => .fail
 |none => .fail
section
variable {P:Program} {T:Tr TypeInfo} {F:Tr Func} {g:Gh} {B:Nat} {w:World} {H:AH} {s:Nat} {ev:Operand → AV} {ρ:Operand → Value} {r:PRes} {R:List Nat} {W:WL}
theorem add_none (b off i:Nat):(⟨b,off,none⟩ : Addr).add i = ⟨b,off + i,none⟩ :=by unfold Addr.add;split <;> simp_all
theorem HRel.cellAt (h:HRel g B w H) {o:Nat} {tr:Tr AV} {n:Nat} {ty:TypeId} (ho:H.o o = .cells tr n ty) {j:Nat} (hj:j < n) :
  ∃ a v,tr.get j = some a ∧ w.cell? ⟨g.ob o,j,none⟩ = some v ∧ VRel g w a v ∧ Live H.L a :=by
 have hr :=h.rel o
 rw [ho] at hr
 obtain ⟨arr,⟨_,h1,_⟩,h2,h3,h4⟩ :=hr
 obtain ⟨a,v,e1,e2,e3⟩ :=h4 j hj
 have hl :=h.live o
 rw [ho] at hl
 exact ⟨a,v,e1,by simp [World.cell?,h1,e2],e3,hl j a e1⟩
theorem HRel.cellsAt (h:HRel g B w H) {o:Nat} {tr:Tr AV} {n:Nat} {ty:TypeId} (ho:H.o o = .cells tr n ty) {off k:Nat} (hk:off + k ≤ n) {l:List AV}
  (hl:l.length = k) (hg:∀ j,j < k → tr.get (off + j) = l[j]?) :
  ∃ cs:List Value,cs.length = k ∧ (∀ (j:Nat) v,cs[j]? = some v → w.cell? ((⟨g.ob o,off,none⟩ : Addr).add j) = some v) ∧ VRels g w l cs ∧ Lives H.L l :=by
 induction l generalizing off k with
 |nil =>
  simp at hl
  subst hl
  exact ⟨[],rfl,fun j v hv => by simp at hv,by simp [VRels],trivial⟩
 |cons x xs ih =>
  simp at hl
  subst hl
  obtain ⟨a,v,e1,e2,e3,e4⟩ :=h.cellAt ho (j :=off) (by omega)
  have e5 :=hg 0 (by omega)
  simp only [Nat.add_zero,e1,List.getElem?_cons_zero,Option.some.injEq] at e5
  subst e5
  obtain ⟨cs,h1,h2,h3,h4⟩ :=ih (off :=off + 1) (k :=xs.length) (by omega) rfl (fun j hj => by
   have :=hg (j + 1) (by omega)
   rw [show off + (j + 1) = off + 1 + j by omega] at this
   simpa using this)
  refine ⟨v :: cs,by simp [h1],fun j u hu => ?_,?_,e4,h4⟩
  ·cases j with
   |zero => simp at hu;subst hu;simpa [add_none] using e2
   |succ j =>
    have :=h2 j u (by simpa using hu)
    rw [add_none] at this ⊢
    rwa [show off + (j + 1) = off + 1 + j by omega]
  ·simp only [VRels]
   exact ⟨v,cs,rfl,e3,h3⟩
theorem LRel.piece {xs:List AV} {b o0:Nat} (h:LRel g w xs b o0) {off k:Nat} {l:List AV} (hl:l = (xs.drop off).take k) (hk:l.length = k) :
  ∃ cs:List Value,cs.length = k ∧ (∀ (j:Nat) v,cs[j]? = some v → w.cell? ((⟨b,o0 + off,none⟩ : Addr).add j) = some v) ∧ VRels g w l cs :=by
 have hg:∀ j,j < k → ∃ a v,l[j]? = some a ∧ w.cell? ⟨b,o0 + off + j,none⟩ = some v ∧ VRel g w a v :=fun j hj => by
  have e1:l[j]? = some l[j] :=List.getElem?_eq_getElem (by omega)
  have e2:xs[off + j]? = some l[j] :=by
   rw [← e1,hl,List.getElem?_take,List.getElem?_drop,if_pos hj]
  obtain ⟨v,e3,e4⟩ :=h.get xs o0 (off + j) _ e2
  exact ⟨_,v,e1,by rwa [Nat.add_assoc],e4⟩
 clear hl h
 induction l generalizing off k with
 |nil =>
  simp at hk
  subst hk
  exact ⟨[],rfl,fun j v hv => by simp at hv,by simp [VRels]⟩
 |cons x xs' ih =>
  simp at hk
  subst hk
  obtain ⟨a,v,e1,e2,e3⟩ :=hg 0 (by omega)
  simp at e1
  subst e1
  obtain ⟨cs,h1,h2,h3⟩ :=ih (off :=off + 1) (k :=xs'.length) rfl (fun j hj => by
   obtain ⟨a',v',f1,f2,f3⟩ :=hg (j + 1) (by omega)
   exact ⟨a',v',by simpa using f1,by rwa [show o0 + (off + 1) + j = o0 + off + (j + 1) by omega],f3⟩)
  refine ⟨v :: cs,by simp [h1],fun j u hu => ?_,?_⟩
  ·cases j with
   |zero => simp at hu;subst hu;simpa [add_none] using e2
   |succ j =>
    have :=h2 j u (by simpa using hu)
    rw [add_none] at this ⊢
    rwa [show o0 + off + (j + 1) = o0 + (off + 1) + j by omega]
  ·simp only [VRels]
   exact ⟨v,cs,rfl,e3,h3⟩
theorem Lives.take {L:Nat → Prop}:∀ {xs:List AV},Lives L xs → ∀ n,Lives L (xs.take n)
 | [],_,n => by simp [Lives]
 |x :: xs,h,0 => by simp [Lives]
 |x :: xs,h,n + 1 => by simp only [List.take_succ_cons];exact ⟨h.1,Lives.take h.2 n⟩
theorem Lives.drop {L:Nat → Prop}:∀ {xs:List AV},Lives L xs → ∀ n,Lives L (xs.drop n)
 | [],_,n => by simp [Lives]
 |x :: xs,h,0 => by simpa using h
 |x :: xs,h,n + 1 => by simp only [List.drop_succ_cons];exact Lives.drop h.2 n
theorem pLoad_ok (c:OCtx P T F g B w H s ev ρ) {t:TypeId} {x:Operand} (h:EvF s (pLoad T t (ev x)) H.o r R W) {f:Value → Next} (hf:f = Next.value) :
  OpRes g B w H W ((do let v ← Instr.loadAt t (ρ x);pure (f v):Sem Next).run P w) r :=by
 subst hf
 have hv :=c.rel x
 have hl :=c.live x
 unfold pLoad at h
 split at h
 ·rename_i hag
  have hag' :=aggT_ok c.T hag w
  split at h
  ·rename_i i hi
   have hsz :=run_sizeOf_ok c.T hi w
   split at h
   ·rename_i o off hx
    rw [hx] at hv hl
    simp only [VRel] at hv
    obtain ⟨R',_,h⟩ :=h
    simp only at h
    split at h
    ·rename_i tr n ty ho
     obtain ⟨hb,h⟩ :=h
     split at h
     ·rename_i l hln
      obtain ⟨rfl,rfl⟩ :=evF_ret h
      obtain ⟨h1,h2⟩ :=loadN_ok hln
      obtain ⟨cs,e1,e2,e3,e4⟩ :=c.h.cellsAt ho (by simpa using hb) h1 h2
      have :=run_loadCells_list (P :=P) w ⟨g.ob o,off,none⟩ cs e2
      rw [e1] at this
      refine OpRes.pure c.h (u :=.agg cs.toArray) ?_ ?_ e4
      ·simp [Instr.loadAt,Instr.sureAddr,hv,loadVar,hag',hsz,this]
      ·simp only [VRel]
       exact ⟨_,rfl,by simpa using e3⟩
     ·exact h.elim
    ·exact h.elim
   ·rename_i xs off hx
    rw [hx] at hv hl
    simp only [VRel] at hv
    obtain ⟨b,o0,hv,hb,hr⟩ :=hv
    split at h
    ·rename_i l hln
     obtain ⟨rfl,rfl⟩ :=evF_ret h
     obtain ⟨h1,h2⟩ :=takeN_eq hln
     rw [dropN_eq] at h1
     obtain ⟨cs,e1,e2,e3⟩ :=hr.piece h1 h2
     have :=run_loadCells_list (P :=P) w ⟨b,o0 + off,none⟩ cs e2
     rw [e1] at this
     refine OpRes.pure c.h (u :=.agg cs.toArray) ?_ ?_ ?_
     ·simp [Instr.loadAt,Instr.sureAddr,hv,loadVar,hag',hsz,this]
     ·simp only [VRel]
      exact ⟨_,rfl,by simpa using e3⟩
     ·rw [h1]
      exact (Lives.drop hl off).take _
    ·exact h.elim
   ·exact h.elim
  ·exact h.elim
 ·rename_i hag
  have hag' :=aggT_ok c.T hag w
  split at h
  ·rename_i o off hx
   rw [hx] at hv hl
   simp only [VRel] at hv
   obtain ⟨R',_,h⟩ :=h
   simp only at h
   split at h
   ·rename_i tr n ty ho
    obtain ⟨hb,h⟩ :=h
    split at h
    ·rename_i a ha
     obtain ⟨rfl,rfl⟩ :=evF_ret h
     obtain ⟨a',v,e1,e2,e3,e4⟩ :=c.h.cellAt ho (j :=off) (by simpa using hb)
     rw [ha] at e1
     injection e1 with e1
     subst e1
     refine OpRes.pure c.h (u :=v) ?_ e3 e4
     simp [Instr.loadAt,Instr.sureAddr,hv,loadVar,hag',e2]
    ·exact h.elim
   ·exact h.elim
  ·rename_i xs off hx
   rw [hx] at hv hl
   simp only [VRel] at hv
   obtain ⟨b,o0,hv,hb,hr⟩ :=hv
   split at h
   ·rename_i a ha
    obtain ⟨rfl,rfl⟩ :=evF_ret h
    rw [nth_eq] at ha
    obtain ⟨v,e2,e3⟩ :=hr.get xs o0 off a ha
    refine OpRes.pure c.h (u :=v) ?_ e3 (Lives.mem xs a hl (List.mem_of_getElem? ha))
    simp [Instr.loadAt,Instr.sureAddr,hv,loadVar,hag',e2]
   ·exact h.elim
  ·exact h.elim
 ·exact h.elim
def lenIs:List AV → Nat → Bool
 | [],n => match n with
  | 0 => true
  | _ => false
 | _ :: xs,n => match n with
  | 0 => false
  |n + 1 => lenIs xs n
theorem lenIs_ok:∀ {xs:List AV} {n:Nat},lenIs xs n = true → xs.length = n
 | [],0,_ => rfl
 | [],n + 1,h => by simp [lenIs] at h
 | _ :: xs,0,h => by simp [lenIs] at h
 | _ :: xs,n + 1,h => by simp only [lenIs] at h;simp [lenIs_ok h]
theorem store_row (P:Program) (b o:Nat) (ty:TypeId) (vs:List Value):∀ (i:Nat) (arr:Array Value) (w:World),CellsAt w b arr ty → o + i + vs.length ≤ arr.size → (∀ v ∈ vs,v.oneCell' = true) →
  (storeCells ⟨b,o,none⟩ vs i).run P w = .ok () (w.setRow b (arr.toList.take (o + i) ++ vs ++ arr.toList.drop (o + i + vs.length)).toArray) :=by
 induction vs with
 |nil =>
  intro i arr w h _ _
  obtain ⟨fz,h1,_⟩ :=h
  have e:(arr.toList.take (o + i) ++ [] ++ arr.toList.drop (o + i + ([]:List Value).length)).toArray = arr :=by simp
  rw [e,setRow_self w b arr ty fz h1]
  rfl
 |cons v vs ih =>
  intro i arr w h hl hv
  have hl2:o + i + (vs.length + 1) ≤ arr.size :=hl
  have hlt:o + i < arr.size :=by omega
  have k :=h.setRow (arr' :=arr.setIfInBounds (o + i) v) (by simp)
  have k2 :=ih (i + 1) _ _ k (by simp;omega) fun x hx => hv x (List.mem_cons_of_mem _ hx)
  obtain ⟨fz,h1,h2⟩ :=h
  have z1:w.cell? ⟨b,o + i,none⟩ = some arr[o + i] :=by simp [World.cell?,h1,hlt]
  have z2:w.frozen? ⟨b,o + i,none⟩ = false :=by
   simp only [World.frozen?,h1,Bool.and_eq_false_iff,decide_eq_false_iff_not]
   omega
  have z3:(store ((⟨b,o,none⟩ : Addr).add i) v).run P w = .ok () (w.setRow b (arr.setIfInBounds (o + i) v)) :=by
   rw [add_none,run_store P w _ v _ (hv v (List.mem_cons_self ..)),z1]
   simp [z2,setCell_eq_setRow w b (o + i) arr ty fz v h1]
  have z4 :=list_seg_step arr.toList (o + i) v vs (by simp;omega)
  simp only [storeCells,Sem.run_bind,z3,Result.andThen_ok,k2,setRow_setRow]
  congr 3
  simpa [Array.toList_setIfInBounds,Nat.add_assoc] using z4
def pStore (T:Tr TypeInfo) (t:TypeId) (a v:AV):Plan :=
 match cellsOf v with
 |some cs => match T.get t with
  |some i => .chk (lenIs cs i.size) (.chk (allCells cs) (match a with
   | .ptr o off => .setcs o off cs .skip
   | _ => .fail))
  |none => .fail
 |none => .fail
theorem pStore_ok (c:OCtx P T F g B w H s ev ρ) {t:TypeId} {a x:Operand} (h:EvF s (pStore T t (ev a) (ev x)) H.o r R W) :
  OpRes g B w H W ((do Instr.storeAt t (ρ a) (ρ x);pure .skip:Sem Next).run P w) r :=by
 have hv :=c.rel a
 unfold pStore at h
 split at h
 ·rename_i cs hcs
  obtain ⟨hvs,hls⟩ :=cellsOf_ok hcs (c.rel x) (c.live x)
  split at h
  ·rename_i i hi
   have hsz :=run_sizeOf_ok c.T hi w
   obtain ⟨h1,h2,h⟩ :=h
   have h1 :=lenIs_ok h1
   split at h
   ·rename_i o off hx
    rw [hx] at hv
    simp only [VRel] at hv
    obtain ⟨R',W',tr,n,ty,t',_,ho,hn,hts,rfl,h⟩ :=h
    obtain ⟨rfl,_,rfl⟩ :=h
    obtain ⟨arr,e1,e2,e3⟩ :=c.h.setCells ho hn hts hvs hls
    have hlen :=hvs.length
    have e4 :=store_row P (g.ob o) off ty (ρ x).cells.toList 0 arr w e1 (by omega) (allCells_ok h2 hvs)
    refine ⟨g,_,?_,e3⟩
    have e5:(ρ x).cells.size = i.size :=by rw [← Array.length_toList,hlen,h1]
    simp only [Nat.add_zero] at e4
    simp [Instr.storeAt,Instr.sureAddr,hv,storeVar,hsz,e5,e4]
   ·exact h.elim
  ·exact h.elim
 ·exact h.elim
theorem newVar_run (P:Program) (t:TypeId) (v:Value) (w:World):(newVar t v).run P w = .ok ⟨w.heap.size,0,none⟩ (w.alloc (.cells v.cells t)) :=by
 rfl
def pNewl (cs:List AV) (ty:TypeId):Plan :=.newl cs ty fun i => .ret (.ptr i 0)
theorem pNewl_ok (c:OCtx P T F g B w H s ev ρ) {cs:List AV} {ty:TypeId} {v:Value} (h:EvF s (pNewl cs ty) H.o r R W) (hv:VRels g w cs v.cells.toList) (hl:Lives H.L cs)
  {m:Sem Next} (hm:m.run P w = .ok (.value (.pointer (some ⟨w.heap.size,0,none⟩))) (w.alloc (.cells v.cells ty))):OpRes g B w H W (m.run P w) r :=by
 obtain ⟨W',t,ht,rfl,h⟩ :=h
 obtain ⟨rfl,rfl⟩ :=evF_ret h
 obtain ⟨g',e1,e2⟩ :=c.h.newCells c.s ht hv hl (ty :=ty)
 refine ⟨_,g',_,hm,e1,?_,?_⟩
 ·simp only [VRel];rw [e2]
 ·exact AH.put_L_same H s _ (by simp)
def pBox (ty:TypeId) (v:AV):Plan :=
 match cellsOf v with
 |some cs => pNewl cs ty
 |none => .fail
theorem pBox_ok (c:OCtx P T F g B w H s ev ρ) {t:TypeId} {x:Operand} (h:EvF s (pBox t (ev x)) H.o r R W) :
  OpRes g B w H W ((do let v ← Instr.box t (ρ x);pure (.value v):Sem Next).run P w) r :=by
 unfold pBox at h
 split at h
 ·rename_i cs hcs
  obtain ⟨hvs,hls⟩ :=cellsOf_ok hcs (c.rel x) (c.live x)
  exact pNewl_ok c h hvs hls (by simp [Instr.box,newVar_run])
 ·exact h.elim
def pAlloc (T:Tr TypeInfo) (ty:TypeId):Plan :=
 match zeroOf T ty with
 |some cs => pNewl cs ty
 |none => .fail
theorem pAlloc_ok (c:OCtx P T F g B w H s ev ρ) {t:TypeId} (h:EvF s (pAlloc T t) H.o r R W) :
  OpRes g B w H W ((do let v ← Instr.alloc t true (.tuple #[]);pure (.value v):Sem Next).run P w) r :=by
 unfold pAlloc at h
 split at h
 ·rename_i cs hcs
  obtain ⟨z,hz,rfl⟩ :=zeroOf_ok c.T hcs
  exact pNewl_ok c h (ofVs_rel g w _) (ofVs_live _ _) (v :=z) (by simp [Instr.alloc,hz,newVar_run])
 ·exact h.elim
end
end
end Go.Abs

/-! Operations on values: fields, indexes, arithmetic, equality, interfaces. -/
namespace Go.Abs
open Go
noncomputable section
section
variable {P:Program} {T:Tr TypeInfo} {F:Tr Func} {g:Gh} {B:Nat} {w:World} {H:AH} {s:Nat} {ev:Operand → AV} {ρ:Operand → Value} {r:PRes} {R:List Nat} {W:WL}
theorem VRels.piece {l:List AV}:∀ {xs:List AV} {vs:List Value},VRels g w xs vs → ∀ (off k:Nat),l = (xs.drop off).take k → VRels g w l ((vs.drop off).take k) :=by
 intro xs vs h off k hl
 subst hl
 have hlen :=h.length
 refine VRels.of_get _ _ (by simp;omega) fun j a ha => ?_
 rw [List.getElem?_take,List.getElem?_drop] at ha
 split at ha
 ·rename_i hj
  obtain ⟨v,h1,h2⟩ :=h.get _ _ ha
  exact ⟨v,by rw [List.getElem?_take,List.getElem?_drop,if_pos hj];exact h1,h2⟩
 ·cases ha
def pPart (T:Tr TypeInfo) (t:TypeId) (cs:List AV) (off:Nat):Option AV :=
 match aggT T t with
 |some true => match T.get t with
  |some i => match takeN i.size (dropN off cs) with
   |some l => some (.agg l)
   |none => none
  |none => none
 |some false => nth cs off
 |none => none
theorem pPart_ok (hT:TOK P T) {L:Nat → Prop} {t:TypeId} {cs:List AV} {off:Nat} {a:AV} {vs:Array Value} (h:pPart T t cs off = some a) (hv:VRels g w cs vs.toList) (hl:Lives L cs) :
  ∃ v,(∀ w',(part t vs off).run P w' = .ok v w') ∧ VRel g w a v ∧ Live L a :=by
 unfold pPart at h
 split at h
 ·rename_i hag
  split at h
  ·rename_i i hi
   split at h
   ·rename_i l hln
    simp only [Option.some.injEq] at h
    subst h
    obtain ⟨h1,h2⟩ :=takeN_eq hln
    rw [dropN_eq] at h1
    refine ⟨.agg (vs.extract off (off + i.size)),fun w' => ?_,?_,?_⟩
    ·simp [part,aggT_ok hT hag w',run_sizeOf_ok hT hi w']
    ·simp only [VRel]
     refine ⟨_,rfl,?_⟩
     have :=hv.piece off i.size h1
     rw [Array.toList_extract]
     simpa [List.extract] using this
    ·rw [h1]
     exact (Lives.drop hl off).take _
   ·cases h
  ·cases h
 ·rename_i hag
  rw [nth_eq] at h
  obtain ⟨v,h1,h2⟩ :=hv.get _ _ h
  refine ⟨v,fun w' => ?_,h2,Lives.mem cs a hl (List.mem_of_getElem? h)⟩
  have h3:vs[off]? = some v :=by simpa using h1
  simp [part,aggT_ok hT hag w',h3]
 ·cases h
def pField (T:Tr TypeInfo) (t:TypeId) (x:AV) (fi:Nat):Plan :=
 match tyU T t with
 |some (.struct fs) => match fs[fi]? with
  |some f => match x with
   | .agg cs => match pPart T f.type cs f.offset with
    |some a => .ret a
    |none => .fail
   | _ => .fail
  |none => .fail
 | _ => .fail
theorem pField_ok (c:OCtx P T F g B w H s ev ρ) {t:TypeId} {x:Operand} {fi:Nat} (h:EvF s (pField T t (ev x) fi) H.o r R W) :
  OpRes g B w H W ((do let v ← Instr.field t (ρ x) fi;pure (.value v):Sem Next).run P w) r :=by
 have hv :=c.rel x
 have hl :=c.live x
 unfold pField at h
 split at h
 ·rename_i fs hu
  have hu' :=run_underlying_ok c.T hu w
  split at h
  ·rename_i f hf
   split at h
   ·rename_i cs hx
    rw [hx] at hv hl
    obtain ⟨vs,e,hvs⟩ :=hv
    split at h
    ·rename_i a ha
     obtain ⟨rfl,rfl⟩ :=evF_ret h
     obtain ⟨v,h1,h2,h3⟩ :=pPart_ok c.T ha hvs hl
     exact OpRes.pure c.h (u :=v) (by simp [Instr.field,hu',hf,e,asAgg,h1]) h2 h3
    ·exact h.elim
   ·exact h.elim
  ·exact h.elim
 ·exact h.elim
def pFieldAddr (T:Tr TypeInfo) (t:TypeId) (x:AV) (fi:Nat):Plan :=
 match tyU T t with
 |some (.struct fs) => match fs[fi]? with
  |some f => match T.get f.type with
   |some i => .chk (!(i.size == 0)) (match x with
    | .ptr o off => .ret (.ptr o (off + f.offset))
    | .lptr xs off => .ret (.lptr xs (off + f.offset))
    | _ => .fail)
   |none => .fail
  |none => .fail
 | _ => .fail
theorem pFieldAddr_ok (c:OCtx P T F g B w H s ev ρ) {t:TypeId} {x:Operand} {fi:Nat} (h:EvF s (pFieldAddr T t (ev x) fi) H.o r R W) :
  OpRes g B w H W ((do let v ← Instr.fieldAt t (ρ x) fi;pure (.value v):Sem Next).run P w) r :=by
 have hv :=c.rel x
 have hl :=c.live x
 unfold pFieldAddr at h
 split at h
 ·rename_i fs hu
  have hu' :=run_underlying_ok c.T hu w
  split at h
  ·rename_i f hf
   split at h
   ·rename_i i hi
    have hsz :=run_sizeOf_ok c.T hi w
    obtain ⟨h0,h⟩ :=h
    have h0:i.size ≠ 0 :=by simpa using h0
    split at h
    ·rename_i o off hx
     rw [hx] at hv hl
     simp only [VRel] at hv
     obtain ⟨rfl,rfl⟩ :=evF_ret h
     refine OpRes.pure c.h (u :=.pointer (some ⟨g.ob o,off + f.offset,none⟩)) ?_ (by simp [VRel]) hl
     simp [Instr.fieldAt,hu',hf,hv,Instr.sureAddr,fieldPlace,hsz,h0,add_none]
    ·rename_i xs off hx
     rw [hx] at hv hl
     simp only [VRel] at hv
     obtain ⟨b,o0,e,h1,h2⟩ :=hv
     obtain ⟨rfl,rfl⟩ :=evF_ret h
     refine OpRes.pure c.h (u :=.pointer (some ⟨b,o0 + (off + f.offset),none⟩)) ?_ ?_ hl
     ·simp [Instr.fieldAt,hu',hf,e,Instr.sureAddr,fieldPlace,hsz,h0,add_none,Nat.add_assoc]
     ·simp only [VRel];exact ⟨b,o0,rfl,h1,h2⟩
    ·exact h.elim
   ·exact h.elim
  ·exact h.elim
 ·exact h.elim
def pExtract (x:AV) (i:Nat):Plan :=
 match x with
 | .tup vs => match nth vs i with
  |some v => .ret v
  |none => .fail
 | _ => .fail
theorem pExtract_ok (c:OCtx P T F g B w H s ev ρ) {x:Operand} {i:Nat} (h:EvF s (pExtract (ev x) i) H.o r R W) :
  OpRes g B w H W ((do let v ← Instr.extract (ρ x) i;pure (.value v):Sem Next).run P w) r :=by
 have hv :=c.rel x
 have hl :=c.live x
 unfold pExtract at h
 split at h
 ·rename_i vs hx
  rw [hx] at hv hl
  obtain ⟨us,e,hus⟩ :=hv
  split at h
  ·rename_i a ha
   obtain ⟨rfl,rfl⟩ :=evF_ret h
   rw [nth_eq] at ha
   obtain ⟨v,h1,h2⟩ :=hus.get _ _ ha
   have h3:us[i]? = some v :=by simpa using h1
   exact OpRes.pure c.h (u :=v) (by simp [Instr.extract,e,h3]) h2 (Lives.mem vs a hl (List.mem_of_getElem? ha))
  ·exact h.elim
 ·exact h.elim
def pUn (op:UnOp) (x:AV):Plan :=
 match op with
 | .neg => match x with
  | .int k n => .ret (.int k (k.wrap (0 - n)))
  | _ => .fail
 | .not => match x with
  | .bool b => .ret (.bool (!b))
  | _ => .fail
 | _ => .fail
theorem pUn_ok (c:OCtx P T F g B w H s ev ρ) {x:Operand} {op:UnOp} (h:EvF s (pUn op (ev x)) H.o r R W) :
  OpRes g B w H W ((do let v ← Op.unary op (ρ x);pure (.value v):Sem Next).run P w) r :=by
 have hv :=c.rel x
 unfold pUn at h
 split at h
 ·split at h
  ·rename_i k n hx
   rw [hx] at hv
   simp only [VRel] at hv
   obtain ⟨rfl,rfl⟩ :=evF_ret h
   exact OpRes.pure c.h (u :=.int k (k.wrap (0 - n))) (by simp [Op.unary,hv,Op.intArith]) (by simp [VRel]) trivial
  ·exact h.elim
 ·split at h
  ·rename_i b hx
   rw [hx] at hv
   simp only [VRel] at hv
   obtain ⟨rfl,rfl⟩ :=evF_ret h
   exact OpRes.pure c.h (u :=.bool (!b)) (by simp [Op.unary,hv]) (by simp [VRel]) trivial
  ·exact h.elim
 ·exact h.elim
def pInt (op:BinOp) (k:IntKind) (a b:Int):Plan :=
 match op with
 | .add => .ret (.int k (k.wrap (a + b)))
 | .sub => .ret (.int k (k.wrap (a - b)))
 | .mul => .ret (.int k (k.wrap (a * b)))
 | .quo => .chk (!(b == 0)) (.ret (.int k (k.wrap (a.tdiv b))))
 | .rem => .chk (!(b == 0)) (.ret (.int k (a.tmod b)))
 | .and => .ret (.int k (k.wrap (BitVec.ofInt k.bits a &&& BitVec.ofInt k.bits b).toNat))
 | .or => .ret (.int k (k.wrap (BitVec.ofInt k.bits a ||| BitVec.ofInt k.bits b).toNat))
 | .xor => .ret (.int k (k.wrap (BitVec.ofInt k.bits a ^^^ BitVec.ofInt k.bits b).toNat))
 | .andNot => .ret (.int k (k.wrap (BitVec.ofInt k.bits a &&& ~~~ BitVec.ofInt k.bits b).toNat))
 | .eql => .ret (.bool (a == b))
 | .neq => .ret (.bool (a != b))
 | .lss => .ret (.bool (decide (a < b)))
 | .leq => .ret (.bool (decide (a ≤ b)))
 | .gtr => .ret (.bool (decide (a > b)))
 | .geq => .ret (.bool (decide (a ≥ b)))
 | _ => .fail
def pShift (op:BinOp) (k:IntKind) (a b:Int):Plan :=
 match op with
 | .shl => .chk (decide (0 ≤ b)) (.ret (.int k (k.wrap (a * 2 ^ (min b.toNat k.bits)))))
 | .shr => .chk (decide (0 ≤ b)) (.ret (.int k (a.fdiv (2 ^ (min b.toNat k.bits)))))
 | _ => .fail
def isShift:BinOp → Bool
 | .shl => true
 | .shr => true
 | _ => false
theorem pInt_ok (hr:HRel g B w H) {op:BinOp} {k:IntKind} {a b:Int} {t:TypeId} (h:EvF s (pInt op k a b) H.o r R W) :
  OpRes g B w H W ((do let v ← binOp op t (.int k a) (.int k b);pure (.value v):Sem Next).run P w) r :=by
 cases op <;> simp only [pInt] at h
 case quo | rem =>
  obtain ⟨h0,h⟩ :=h
  have h0:b ≠ 0 :=by simpa using h0
  obtain ⟨rfl,rfl⟩ :=evF_ret h
  refine OpRes.pure hr ?_ (by simp only [VRel];rfl) trivial
  simp [binOp,Op.intDiv,h0]
 case shl | shr => exact h.elim
 all_goals
  obtain ⟨rfl,rfl⟩ :=evF_ret h
  refine OpRes.pure hr ?_ (by simp only [VRel];rfl) trivial
  simp [binOp,Op.intArith,Op.intBits,Op.intCmp]
theorem pShift_ok (hr:HRel g B w H) {op:BinOp} {k k':IntKind} {a b:Int} {t:TypeId} (h:EvF s (pShift op k a b) H.o r R W) :
  OpRes g B w H W ((do let v ← binOp op t (.int k a) (.int k' b);pure (.value v):Sem Next).run P w) r :=by
 cases op <;> simp only [pShift] at h
 case shl | shr =>
  obtain ⟨h0,h⟩ :=h
  have h0:¬ b < 0 :=by have :=of_decide_eq_true h0;omega
  obtain ⟨rfl,rfl⟩ :=evF_ret h
  refine OpRes.pure hr ?_ (by simp only [VRel];rfl) trivial
  simp [binOp,Op.shift,h0]
 all_goals exact h.elim
def strLe:Nat :=9223372036854775807
def pStr (op:BinOp) (a b:List UInt8):Plan :=
 match op with
 | .add => .chk (decide (a.length + b.length ≤ strLe)) (.ret (.str (a ++ b)))
 | .eql => .ret (.bool (a == b))
 | .neq => .ret (.bool (!(a == b)))
 | .lss => .ret (.bool (Op.bytesLess a b))
 | .leq => .ret (.bool (Op.bytesLess a b || a == b))
 | .gtr => .ret (.bool (!(Op.bytesLess a b || a == b)))
 | .geq => .ret (.bool (!Op.bytesLess a b))
 | _ => .fail
theorem mk_append (a b:List UInt8):(⟨a.toArray⟩ : ByteArray) ++ ⟨b.toArray⟩ = ⟨(a ++ b).toArray⟩ :=by
 have:∀ x y:ByteArray,x ++ y = ⟨x.data ++ y.data⟩ :=fun x y => by
  apply ByteArray.ext
  simp
 rw [this]
 simp
theorem pStr_ok (hr:HRel g B w H) {op:BinOp} {a b:List UInt8} {t:TypeId} (h:EvF s (pStr op a b) H.o r R W) :
  OpRes g B w H W ((do let v ← binOp op t (.string ⟨a.toArray⟩) (.string ⟨b.toArray⟩);pure (.value v):Sem Next).run P w) r :=by
 cases op <;> simp only [pStr] at h
 case add =>
  obtain ⟨h0,h⟩ :=h
  have h0 :=of_decide_eq_true h0
  unfold strLe at h0
  obtain ⟨rfl,rfl⟩ :=evF_ret h
  refine OpRes.pure hr (u :=.string ⟨(a ++ b).toArray⟩) ?_ (by simp [VRel]) trivial
  have e1:(⟨a.toArray⟩ : ByteArray).size = a.length :=rfl
  have e2:(⟨b.toArray⟩ : ByteArray).size = b.length :=rfl
  have h1:¬ ((((a.length + b.length:Nat)):Int) > IntKind.i64.max) :=by
   have:IntKind.i64.max = 9223372036854775807 :=by decide
   omega
  simp only [binOp,Op.stringOp,e1,e2,if_neg h1,Sem.run_bind,Sem.run_pure,Result.andThen_ok,mk_append]
 case eql | neq | lss | leq | gtr | geq =>
  obtain ⟨rfl,rfl⟩ :=evF_ret h
  refine OpRes.pure hr ?_ (by simp only [VRel];rfl) trivial
  simp [binOp,Op.stringOp]
 all_goals exact h.elim
end
end
end Go.Abs

/-! Equality, and the dispatch of binary operations. -/
namespace Go.Abs
open Go
noncomputable section
def aeqC (P:Program) (T:Tr TypeInfo):Nat → TypeId → AV → AV → Option Bool
 | 0,_,_,_ => none
 |d + 1,t,x,y =>
  match tyU T t with
  |some .bool => match x with
   | .bool a => match y with
    | .bool b => some (a == b)
    | _ => none
   | _ => none
  |some (.int _) => match x with
   | .int k a => match y with
    | .int k' b => if k = k' then some (a == b) else none
    | _ => none
   | _ => none
  |some .string => match x with
   | .str a => match y with
    | .str b => some (a == b)
    | _ => none
   | _ => none
  |some (.pointer _) => match x with
   | .nilp => match y with
    | .nilp => some true
    | .ptr _ _ => some false
    | .lptr _ _ => some false
    | _ => none
   | .ptr _ _ => match y with
    | .nilp => some false
    | _ => none
   | .lptr _ _ => match y with
    | .nilp => some false
    | _ => none
   | _ => none
  |some (.slice _) => match x with
   | .nils => match y with
    | .nils => some true
    | .lst _ _ _ => some false
    | .slc _ _ _ _ => some false
    | _ => none
   | .lst _ _ _ => match y with
    | .nils => some false
    | _ => none
   | .slc _ _ _ _ => match y with
    | .nils => some false
    | _ => none
   | _ => none
  |some (.map _ _) => match x with
   | .nilm => match y with
    | .nilm => some true
    | .map _ => some false
    | _ => none
   | .map _ => match y with
    | .nilm => some false
    | _ => none
   | _ => none
  |some (.func _ _ _) => match x with
   | .nilf => match y with
    | .nilf => some true
    | .func _ _ _ => some false
    | _ => none
   | .func _ _ _ => match y with
    | .nilf => some false
    | _ => none
   | _ => none
  |some (.interface _) => match x with
   | .nili => match y with
    | .nili => some true
    | .iface _ _ => some false
    | _ => none
   | .iface tx vx => match y with
    | .nili => some false
    | .iface ty vy => if tx = ty then (match T.get tx with
     |some i => if i.comparable then aeqC P T d tx vx vy else none
     |none => none) else some false
    | _ => none
   | _ => none
  |some (.struct fs) => match x with
   | .agg xs => match y with
    | .agg ys => if P.stoodInHeld t then none else aeqF (fun t' x' y' => aeqC P T d t' x' y') T xs ys fs.toList
    | _ => none
   | _ => none
  | _ => none
where
 aeqF (eq:TypeId → AV → AV → Option Bool) (T:Tr TypeInfo) (xs ys:List AV):List Field → Option Bool
  | [] => some true
  |f :: fs => if f.name = "_" then aeqF eq T xs ys fs else
   match pPart T f.type xs f.offset with
   |some a => match pPart T f.type ys f.offset with
    |some b => match eq f.type a b with
     |some true => aeqF eq T xs ys fs
     |some false => some false
     |none => none
    |none => none
   |none => none
section
variable {P:Program} {T:Tr TypeInfo} {F:Tr Func} {g:Gh} {B:Nat} {w:World} {H:AH} {s:Nat} {ev:Operand → AV} {ρ:Operand → Value} {r:PRes} {R:List Nat} {W:WL}
theorem fieldsOf_eq {t:TypeId} {fs:Array Field} (h:P.underlying t = some (.struct fs)):P.fieldsOf t = fs :=by
 simp [Program.fieldsOf,h]
theorem aeqF_ok (hT:TOK P T) {eq:TypeId → AV → AV → Option Bool} {d:Nat}
  (heq:∀ t x y b,eq t x y = some b → ∀ u v,VRel g w x u → VRel g w y v → (Op.equalIn d t u v).run P w = .ok b w)
  {xs ys:List AV} {vx vy:Array Value} (hx:VRels g w xs vx.toList) (hy:VRels g w ys vy.toList) :
  ∀ (fs:List Field) (b:Bool),aeqC.aeqF eq T xs ys fs = some b → (Op.eqFields d vx vy fs).run P w = .ok b w
 | [],b,h => by simp only [aeqC.aeqF,Option.some.injEq] at h;subst h;simp [Op.eqFields]
 |f :: fs,b,h => by
  unfold aeqC.aeqF at h
  unfold Op.eqFields
  split at h
  ·rename_i hn
   rw [if_neg (by simp [hn])]
   exact aeqF_ok hT heq hx hy fs b h
  ·rename_i hn
   rw [if_pos (by simpa using hn)]
   split at h
   ·rename_i a ha
    split at h
    ·rename_i a' ha'
     obtain ⟨u,h1,h2,_⟩ :=pPart_ok hT ha hx (Lives.any xs)
     obtain ⟨v,h3,h4,_⟩ :=pPart_ok hT ha' hy (Lives.any ys)
     split at h
     ·rename_i he
      have :=heq _ _ _ _ he u v h2 h4
      simp [h1,h3,this,aeqF_ok hT heq hx hy fs b h]
     ·rename_i he
      simp only [Option.some.injEq] at h
      subst h
      have :=heq _ _ _ _ he u v h2 h4
      simp [h1,h3,this]
     ·cases h
    ·cases h
   ·cases h
set_option maxHeartbeats 4000000 in
theorem aeqC_ok (hT:TOK P T):∀ (d:Nat) (t:TypeId) (x y:AV) (b:Bool),aeqC P T d t x y = some b → ∀ u v,VRel g w x u → VRel g w y v → ∀ k,(Op.equalIn (d + k) t u v).run P w = .ok b w
 | 0,_,_,_,_,h => by simp [aeqC] at h
 |d + 1,t,x,y,b,h => by
  intro u v hu hv k
  rw [show d + 1 + k = d + k + 1 by omega]
  unfold aeqC at h
  split at h
  ·rename_i ht
   have ht' :=tyU_ok hT ht
   split at h <;> try cases h
   split at h <;> cases h
   simp only [VRel] at hu hv
   subst hu;subst hv
   exact run_equalIn_bool' w _ t _ _ ht'
  ·rename_i ht
   have ht' :=tyU_ok hT ht
   split at h <;> try cases h
   split at h <;> try cases h
   split at h <;> cases h
   rename_i e
   subst e
   simp only [VRel] at hu hv
   subst hu;subst hv
   exact run_equalIn_int w _ t _ _ _ _ ht'
  ·rename_i ht
   have ht' :=tyU_ok hT ht
   split at h <;> try cases h
   split at h <;> cases h
   simp only [VRel] at hu hv
   subst hu;subst hv
   rw [run_equalIn_string w _ t _ _ ht']
   simp
  ·rename_i ht
   have ht' :=run_underlying_ok hT ht w
   split at h <;> try cases h
   all_goals (split at h <;> cases h)
   all_goals simp only [VRel] at hu hv
   all_goals first
    |(subst hu;subst hv;simp [Op.equalIn,ht'])
    |(subst hu;obtain ⟨_,_,e,_⟩ :=hv;subst e;simp [Op.equalIn,ht'])
    |(subst hv;obtain ⟨_,_,e,_⟩ :=hu;subst e;simp [Op.equalIn,ht'])
  ·rename_i ht
   have ht' :=run_underlying_ok hT ht w
   split at h <;> try cases h
   all_goals (split at h <;> cases h)
   all_goals simp only [VRel] at hu hv
   all_goals first
    |(subst hu;subst hv;simp [Op.equalIn,ht'])
    |(subst hu;obtain ⟨_,_,_,e,_⟩ :=hv;subst e;simp [Op.equalIn,ht'];done)
    |(subst hv;obtain ⟨_,_,_,e,_⟩ :=hu;subst e;simp [Op.equalIn,ht'];done)
    |(subst hu;obtain ⟨_,e,_⟩ :=hv;subst e;simp [Op.equalIn,ht'])
    |(subst hv;obtain ⟨_,e,_⟩ :=hu;subst e;simp [Op.equalIn,ht'])
  ·rename_i ht
   have ht' :=run_underlying_ok hT ht w
   split at h <;> try cases h
   all_goals (split at h <;> cases h)
   all_goals simp only [VRel] at hu hv
   all_goals (subst hu;subst hv;simp [Op.equalIn,ht'])
  ·rename_i ht
   have ht' :=run_underlying_ok hT ht w
   split at h <;> try cases h
   all_goals (split at h <;> cases h)
   all_goals simp only [VRel] at hu hv
   all_goals first
    |(subst hu;subst hv;simp [Op.equalIn,ht'])
    |(subst hu;obtain ⟨_,_,e,_⟩ :=hv;subst e;simp [Op.equalIn,ht'])
    |(subst hv;obtain ⟨_,_,e,_⟩ :=hu;subst e;simp [Op.equalIn,ht'])
  ·rename_i ht
   have ht' :=run_underlying_ok hT ht w
   split at h
   ·split at h <;> cases h
    all_goals simp only [VRel] at hu hv
    ·subst hu;subst hv;simp [Op.equalIn,ht']
    ·subst hu;obtain ⟨_,e,_⟩ :=hv;subst e;simp [Op.equalIn,ht']
   ·split at h
    ·cases h
     simp only [VRel] at hu hv
     subst hv;obtain ⟨_,e,_⟩ :=hu;subst e;simp [Op.equalIn,ht']
    ·simp only [VRel] at hu hv
     obtain ⟨u',eu,hu⟩ :=hu
     obtain ⟨v',ev,hv⟩ :=hv
     subst eu;subst ev
     split at h
     ·rename_i e
      subst e
      split at h
      ·rename_i i hi
       split at h
       ·rename_i hc
        have ih :=aeqC_ok hT d _ _ _ _ h u' v' hu hv k
        simp [Op.equalIn,ht',run_typeInfo_ok hT hi,hc,ih]
       ·cases h
      ·cases h
     ·rename_i e
      cases h
      simp [Op.equalIn,ht',e]
    ·cases h
   ·cases h
  ·rename_i fs ht
   have ht' :=tyU_ok hT ht
   split at h <;> try cases h
   split at h <;> try cases h
   split at h <;> try cases h
   rename_i hs
   simp only [VRel] at hu hv
   obtain ⟨vx,ex,hx⟩ :=hu
   obtain ⟨vy,ey,hy⟩ :=hv
   subst ex;subst ey
   have hs':P.stoodInHeld t = false :=by simpa using hs
   rw [run_equalIn_struct w (d + k) t vx vy (by rw [fieldsOf_eq ht'];exact ht') hs',fieldsOf_eq ht']
   exact aeqF_ok hT (fun t' x' y' b' h' u' v' hu' hv' => aeqC_ok hT d t' x' y' b' h' u' v' hu' hv' k) hx hy fs.toList b h
  ·cases h
def isConstOp:Operand → Bool
 | .const _ => true
 | _ => false
def guardFree (P:Program) (t:TypeId) (cst:Bool) (x y:AV):Bool :=
 match x with
 | .nili => match y with
  | .nili => cst
  | .iface _ _ => true
  | _ => false
 | .agg _ => !(P.eqGuardType P.depth t)
 | .unk => false
 | _ => true
inductive ExtK where
 |count
 |indexByte
structure XT where
 ext:FuncId → Option ExtK
 eqv:TypeId → Bool → AV → AV → Option Bool
 mu:Option Tmp → TypeId → Bool
def QOK (P:Program) (q:TypeId → Bool → AV → AV → Option Bool):Prop :=
 ∀ t cst x y b,q t cst x y = some b → guardFree P t cst x y = true ∧ ∃ T,TOK P T ∧ aeqC P T 8 t x y = some b
def eqvOf (P:Program) (T:Tr TypeInfo) (t:TypeId) (cst:Bool) (x y:AV):Option Bool :=
 match guardFree P t cst x y with
 |true => aeqC P T 8 t x y
 |false => none
theorem eqvOf_ok {P:Program} {T:Tr TypeInfo} (hT:TOK P T):QOK P (eqvOf P T) :=by
 intro t cst x y b h
 unfold eqvOf at h
 split at h
 ·rename_i hg
  exact ⟨hg,T,hT,h⟩
 ·cases h
def pEq (X:XT) (neg:Bool) (t:TypeId) (cst:Bool) (x y:AV):Plan :=
 match X.eqv t cst x y with
 |some b => .ret (.bool (match neg with
  |true => !b
  |false => b))
 |none => .fail
def pBin (X:XT) (op:BinOp) (t:TypeId) (cst:Bool) (x y:AV):Plan :=
 match x with
 | .int k a => match y with
  | .int k' b => match isShift op with
   |true => pShift op k a b
   |false => .chk (decide (k = k')) (pInt op k a b)
  | _ => .fail
 | .str a => match y with
  | .str b => pStr op a b
  | _ => .fail
 |x => match op with
  | .eql => pEq X false t cst x y
  | .neq => pEq X true t cst x y
  | _ => .fail
theorem run_eqGuard_any (op:BinOp) (t:TypeId) (x y:Operand) (xs:Array Value) (v:Value) (hm:P.eqGuardType P.depth t = false):(eqGuard op t x y (.agg xs) v).run P w = .ok () w :=by
 cases op <;> cases v <;> simp [eqGuard,run_program,hm]
theorem isConstOp_eq {x:Operand} (h:isConstOp x = true):∃ v,x = .const v :=by
 cases x <;> simp [isConstOp] at h
 exact ⟨_,rfl⟩
theorem eqGuard_eq {op:BinOp} (hop:op = .eql ∨ op = .neq) {t:TypeId} {x y:Operand} {a b:AV} {u v:Value} (h:guardFree P t (isConstOp x || isConstOp y) a b = true)
  (hu:VRel g w a u) (hv:VRel g w b v):(eqGuard op t x y u v).run P w = .ok () w :=by
 unfold guardFree at h
 split at h
 ·simp only [VRel] at hu
  subst hu
  split at h
  ·simp only [VRel] at hv
   subst hv
   rcases Bool.or_eq_true _ _ ▸ h with h | h
   ·obtain ⟨v,rfl⟩ :=isConstOp_eq h
    rcases hop with rfl | rfl <;> simp [eqGuard]
   ·obtain ⟨v,rfl⟩ :=isConstOp_eq h
    rcases hop with rfl | rfl <;> simp [eqGuard]
  ·obtain ⟨v',e,_⟩ :=hv
   subst e
   rcases hop with rfl | rfl <;> simp [eqGuard]
  ·cases h
 ·obtain ⟨vs,e,_⟩ :=hu
  subst e
  have h:P.eqGuardType P.depth t = false :=by simpa using h
  exact run_eqGuard_any op t x y vs v h
 ·cases h
 ·rename_i h1 h2 h3
  cases a <;> simp only [VRel] at hu <;> first
   |exact absurd rfl (h1 _)
   |exact absurd rfl (h1)
   |exact absurd rfl (h2 _)
   |exact absurd rfl (h3)
   |(subst hu;rcases hop with rfl | rfl <;> simp [eqGuard];done)
   |(obtain ⟨_,e,_⟩ :=hu;subst e;rcases hop with rfl | rfl <;> simp [eqGuard];done)
   |(obtain ⟨_,_,e,_⟩ :=hu;subst e;rcases hop with rfl | rfl <;> simp [eqGuard];done)
   |(obtain ⟨_,_,_,e,_⟩ :=hu;subst e;rcases hop with rfl | rfl <;> simp [eqGuard];done)
   |(rcases hu with ⟨_,e⟩ | ⟨_,_,e⟩ <;> (subst e;rcases hop with rfl | rfl <;> simp [eqGuard]);done)
theorem binOp_eql_ok {t:TypeId} {a:AV} {u v:Value} (hu:VRel g w a u) (h1:∀ k n,a ≠ .int k n) (h2:∀ l,a ≠ .str l) (h3:a ≠ .unk) :
  binOp .eql t u v = (do pure (.bool (← Op.equal t u v))) ∧ binOp .neq t u v = (do pure (.bool (!(← Op.equal t u v)))) :=by
 cases a <;> simp only [VRel] at hu <;> first
   |exact absurd rfl (h1 _ _)
   |exact absurd rfl (h2 _)
   |exact absurd rfl h3
   |(subst hu;exact ⟨rfl,rfl⟩)
   |(obtain ⟨_,e,_⟩ :=hu;subst e;exact ⟨rfl,rfl⟩)
   |(obtain ⟨_,_,e,_⟩ :=hu;subst e;exact ⟨rfl,rfl⟩)
   |(obtain ⟨_,_,_,e,_⟩ :=hu;subst e;exact ⟨rfl,rfl⟩)
   |(rcases hu with ⟨_,e⟩ | ⟨_,_,e⟩ <;> (subst e;exact ⟨rfl,rfl⟩))
theorem aeqC_unk {d:Nat} {t:TypeId} {y:AV} {b:Bool} (h:aeqC P T d t .unk y = some b):False :=by
 cases d with
 |zero => simp [aeqC] at h
 |succ d =>
  unfold aeqC at h
  split at h <;> cases h
def negOp:Bool → BinOp
 |true => .neq
 |false => .eql
theorem pEq_ok (c:OCtx P T F g B w H s ev ρ) {X:XT} (hX:QOK P X.eqv) {t:TypeId} {x y:Operand} {neg:Bool} (h:EvF s (pEq X neg t (isConstOp x || isConstOp y) (ev x) (ev y)) H.o r R W)
  (h1:∀ k n,ev x ≠ .int k n) (h2:∀ l,ev x ≠ .str l) :
  OpRes g B w H W ((do let v ← (do eqGuard (negOp neg) t x y (ρ x) (ρ y);binOp (negOp neg) t (ρ x) (ρ y));pure (.value v):Sem Next).run P w) r :=by
 unfold pEq at h
 split at h
 ·rename_i b hq
  obtain ⟨hg,T',hT',hb⟩ :=hX _ _ _ _ _ hq
  obtain ⟨rfl,rfl⟩ :=evF_ret h
  have h3:ev x ≠ .unk :=fun e => by rw [e] at hb;exact aeqC_unk hb
  have e1 :=aeqC_ok hT' 8 t _ _ b hb _ _ (c.rel x) (c.rel y) 9992
  obtain ⟨e2,e3⟩ :=binOp_eql_ok (t :=t) (v :=ρ y) (c.rel x) h1 h2 h3
  have e4 :=eqGuard_eq (op :=negOp neg) (by cases neg <;> simp [negOp]) hg (c.rel x) (c.rel y)
  have e5:(Op.equal t (ρ x) (ρ y)).run P w = .ok b w :=e1
  cases neg
  ·refine OpRes.pure c.h (u :=.bool b) ?_ (by simp [VRel]) trivial
   simp only [negOp] at e4 ⊢
   simp [e4,e2,e5]
  ·refine OpRes.pure c.h (u :=.bool (!b)) ?_ (by simp [VRel]) trivial
   simp only [negOp] at e4 ⊢
   simp [e4,e3,e5]
 ·exact h.elim
theorem pBin_ok (c:OCtx P T F g B w H s ev ρ) {X:XT} (hX:QOK P X.eqv) {t:TypeId} {x y:Operand} {op:BinOp} (h:EvF s (pBin X op t (isConstOp x || isConstOp y) (ev x) (ev y)) H.o r R W) :
  OpRes g B w H W ((do let v ← (do eqGuard op t x y (ρ x) (ρ y);binOp op t (ρ x) (ρ y));pure (.value v):Sem Next).run P w) r :=by
 have hx :=c.rel x
 have hy :=c.rel y
 unfold pBin at h
 split at h
 ·rename_i k a ex
  rw [ex] at hx
  simp only [VRel] at hx
  split at h
  ·rename_i k' b ey
   rw [ey] at hy
   simp only [VRel] at hy
   have hg:(eqGuard op t x y (.int k a) (.int k' b)).run P w = .ok () w :=by cases op <;> simp [eqGuard]
   rw [hx,hy]
   split at h
   ·have :=pShift_ok (P :=P) c.h (k' :=k') (t :=t) h
    simpa [hg] using this
   ·obtain ⟨hk,h⟩ :=h
    have hk :=of_decide_eq_true hk
    subst hk
    have :=pInt_ok (P :=P) c.h (t :=t) h
    simpa [hg] using this
  ·exact h.elim
 ·rename_i a ex
  rw [ex] at hx
  simp only [VRel] at hx
  split at h
  ·rename_i b ey
   rw [ey] at hy
   simp only [VRel] at hy
   have hg:(eqGuard op t x y (.string ⟨a.toArray⟩) (.string ⟨b.toArray⟩)).run P w = .ok () w :=by cases op <;> simp [eqGuard]
   rw [hx,hy]
   have :=pStr_ok (P :=P) c.h (t :=t) h
   simpa [hg] using this
  ·exact h.elim
 ·rename_i h1 h2
  split at h
  ·exact pEq_ok (neg :=false) c hX h h1 h2
  ·exact pEq_ok (neg :=true) c hX h h1 h2
  ·exact h.elim
end
end
end Go.Abs

/-! Indexes, slices, interfaces, functions, conversions, len, max, min. -/
namespace Go.Abs
open Go
noncomputable section
def nthB:List UInt8 → Nat → Option UInt8
 | [],_ => none
 |x :: xs,i => match i with
  | 0 => some x
  |i + 1 => nthB xs i
theorem nthB_eq:∀ (l:List UInt8) (i:Nat),nthB l i = l[i]?
 | [],i => by simp [nthB]
 |x :: xs,0 => by simp [nthB]
 |x :: xs,i + 1 => by simp [nthB,nthB_eq xs i]
theorem mk_getElem? (l:List UInt8) (i:Nat):(⟨l.toArray⟩ : ByteArray)[i]? = l[i]? :=by
 by_cases h:i < l.length
 ·have h1:i < (⟨l.toArray⟩ : ByteArray).size :=h
  rw [getElem?_pos (⟨l.toArray⟩ : ByteArray) i h1,getElem?_pos l i h]
  rfl
 ·have h1:¬ i < (⟨l.toArray⟩ : ByteArray).size :=h
  rw [getElem?_neg (⟨l.toArray⟩ : ByteArray) i h1,getElem?_neg l i h]
section
variable {P:Program} {T:Tr TypeInfo} {F:Tr Func} {g:Gh} {B:Nat} {w:World} {H:AH} {s:Nat} {ev:Operand → AV} {ρ:Operand → Value} {r:PRes} {R:List Nat} {W:WL}
def inR (i:Int) (n:Nat):Bool :=decide (0 ≤ i) && decide (i < (n:Int))
theorem inR_ok {i:Int} {n:Nat} (h:inR i n = true):0 ≤ i ∧ i < (n:Int) :=by
 unfold inR at h
 simpa using h
def pIndex (T:Tr TypeInfo) (t:TypeId) (x ix:AV):Plan :=
 match ix with
 | .int _ i => match tyU T t with
  |some (.array len e) => match x with
   | .agg cs => .chk (inR i len) (match T.get e with
    |some inf => match pPart T e cs (i.toNat * inf.size) with
     |some a => .ret a
     |none => .fail
    |none => .fail)
   | _ => .fail
  |some .string => match x with
   | .str l => .chk (decide (0 ≤ i)) (match nthB l i.toNat with
    |some b => .ret (.int .u8 b.toNat)
    |none => .fail)
   | _ => .fail
  | _ => .fail
 | _ => .fail
theorem pIndex_ok (c:OCtx P T F g B w H s ev ρ) {t:TypeId} {x ix:Operand} (h:EvF s (pIndex T t (ev x) (ev ix)) H.o r R W) :
  OpRes g B w H W ((do let v ← Instr.index t (ρ x) (ρ ix);pure (.value v):Sem Next).run P w) r :=by
 have hx :=c.rel x
 have hi :=c.rel ix
 have hlx :=c.live x
 unfold pIndex at h
 split at h
 ·rename_i k i ei
  rw [ei] at hi
  simp only [VRel] at hi
  split at h
  ·rename_i len e hu
   have hu' :=run_underlying_ok c.T hu w
   split at h
   ·rename_i cs ex
    rw [ex] at hx hlx
    obtain ⟨vs,ev',hvs⟩ :=hx
    obtain ⟨hin,h⟩ :=h
    have hin :=inR_ok hin
    split at h
    ·rename_i inf hinf
     split at h
     ·rename_i a ha
      obtain ⟨rfl,rfl⟩ :=evF_ret h
      obtain ⟨v,h1,h2,h3⟩ :=pPart_ok c.T ha hvs hlx
      refine OpRes.pure c.h (u :=v) ?_ h2 h3
      simp [Instr.index,hi,asIntOf,hu',ev',hin.1,hin.2,run_sizeOf_ok c.T hinf w,h1]
     ·exact h.elim
    ·exact h.elim
   ·exact h.elim
  ·rename_i hu
   have hu' :=run_underlying_ok c.T hu w
   split at h
   ·rename_i l ex
    rw [ex] at hx
    simp only [VRel] at hx
    obtain ⟨hin,h⟩ :=h
    have hin :=of_decide_eq_true hin
    split at h
    ·rename_i b hb
     obtain ⟨rfl,rfl⟩ :=evF_ret h
     rw [nthB_eq] at hb
     refine OpRes.pure c.h (u :=.int .u8 b.toNat) ?_ (by simp [VRel]) trivial
     simp [Instr.index,hi,asIntOf,hu',hx,hin,mk_getElem?,hb]
    ·exact h.elim
   ·exact h.elim
  ·exact h.elim
 ·exact h.elim
def pIndexAddr (T:Tr TypeInfo) (t:TypeId) (x ix:AV):Plan :=
 match ix with
 | .int _ i => match tyU T t with
  |some (.array len e) => match T.get e with
   |some inf => .chk (inR i len) (match x with
    | .ptr o off => .ret (.ptr o (off + i.toNat * inf.size))
    | .lptr xs off => .ret (.lptr xs (off + i.toNat * inf.size))
    | _ => .fail)
   |none => .fail
  |some (.slice e) => match T.get e with
   |some inf => match x with
    | .lst xs n _ => .chk (inR i n) (.ret (.lptr xs (i.toNat * inf.size)))
    | .slc o off len _ => .chk (inR i len) (.ret (.ptr o (off + i.toNat * inf.size)))
    | _ => .fail
   |none => .fail
  | _ => .fail
 | _ => .fail
theorem pIndexAddr_ok (c:OCtx P T F g B w H s ev ρ) {t:TypeId} {x ix:Operand} (h:EvF s (pIndexAddr T t (ev x) (ev ix)) H.o r R W) :
  OpRes g B w H W ((do let v ← Instr.indexAt t (ρ x) (ρ ix);pure (.value v):Sem Next).run P w) r :=by
 have hx :=c.rel x
 have hi :=c.rel ix
 have hlx :=c.live x
 unfold pIndexAddr at h
 split at h
 ·rename_i k i ei
  rw [ei] at hi
  simp only [VRel] at hi
  split at h
  ·rename_i len e hu
   have hu' :=run_underlying_ok c.T hu w
   split at h
   ·rename_i inf hinf
    have hsz :=run_sizeOf_ok c.T hinf w
    obtain ⟨hin,h⟩ :=h
    have hin :=inR_ok hin
    split at h
    ·rename_i o off ex
     rw [ex] at hx hlx
     simp only [VRel] at hx
     obtain ⟨rfl,rfl⟩ :=evF_ret h
     refine OpRes.pure c.h (u :=.pointer (some ⟨g.ob o,off + i.toNat * inf.size,none⟩)) ?_ (by simp [VRel]) hlx
     simp [Instr.indexAt,hi,asIntOf,hu',hx,Instr.sureAddr,hin.1,hin.2,hsz,add_none]
    ·rename_i xs off ex
     rw [ex] at hx hlx
     simp only [VRel] at hx
     obtain ⟨b,o0,e1,h1,h2⟩ :=hx
     obtain ⟨rfl,rfl⟩ :=evF_ret h
     refine OpRes.pure c.h (u :=.pointer (some ⟨b,o0 + (off + i.toNat * inf.size),none⟩)) ?_ ?_ hlx
     ·simp [Instr.indexAt,hi,asIntOf,hu',e1,Instr.sureAddr,hin.1,hin.2,hsz,add_none,Nat.add_assoc]
     ·simp only [VRel];exact ⟨b,o0,rfl,h1,h2⟩
    ·exact h.elim
   ·exact h.elim
  ·rename_i e hu
   have hu' :=run_underlying_ok c.T hu w
   split at h
   ·rename_i inf hinf
    have hsz :=run_sizeOf_ok c.T hinf w
    split at h
    ·rename_i xs n own ex
     rw [ex] at hx hlx
     simp only [VRel] at hx
     obtain ⟨b,off,cap,e1,h1,h2,h3,h4⟩ :=hx
     obtain ⟨hin,h⟩ :=h
     have hin :=inR_ok hin
     obtain ⟨rfl,rfl⟩ :=evF_ret h
     refine OpRes.pure c.h (u :=.pointer (some ⟨b,off + i.toNat * inf.size,none⟩)) ?_ ?_ hlx.1
     ·simp [Instr.indexAt,hi,asIntOf,hu',e1,hin.1,hin.2,hsz,add_none]
     ·simp only [VRel];exact ⟨b,off,rfl,h2,h3⟩
    ·rename_i o off len cap ex
     rw [ex] at hx hlx
     simp only [VRel] at hx
     obtain ⟨c',hx,_⟩ :=hx
     obtain ⟨hin,h⟩ :=h
     have hin :=inR_ok hin
     obtain ⟨rfl,rfl⟩ :=evF_ret h
     refine OpRes.pure c.h (u :=.pointer (some ⟨g.ob o,off + i.toNat * inf.size,none⟩)) ?_ (by simp [VRel]) hlx
     simp [Instr.indexAt,hi,asIntOf,hu',hx,hin.1,hin.2,hsz,add_none]
    ·exact h.elim
   ·exact h.elim
  ·exact h.elim
 ·exact h.elim
/-! ### Slices -/
def bnd (x:Option AV) (dflt n:Nat):Option Nat :=
 match x with
 |none => some dflt
 |some (.int _ i) => match decide (0 ≤ i) && decide (i ≤ (n:Int)) with
  |true => some i.toNat
  |false => none
 |some _ => none
theorem bnd_ok {x:Option AV} {dflt n l:Nat} (h:bnd x dflt n = some l):(x = none ∧ l = dflt) ∨ ∃ k i,x = some (.int k i) ∧ 0 ≤ i ∧ i ≤ (n:Int) ∧ l = i.toNat :=by
 unfold bnd at h
 split at h
 ·simp only [Option.some.injEq] at h
  exact .inl ⟨rfl,h.symm⟩
 ·rename_i k i
  split at h
  ·rename_i hb
   simp only [Option.some.injEq] at h
   have hb:0 ≤ i ∧ i ≤ (n:Int) :=by simpa using hb
   exact .inr ⟨k,i,rfl,hb.1,hb.2,h.symm⟩
  ·cases h
 ·cases h
theorem sliceBound_run {k:IntKind} {i:Int} {y:Nat} (h0:0 ≤ i) (h1:i ≤ (y:Int)) (code:BoundsCode) (w:World):(Instr.sliceBound (.int k i) y code).run P w = .ok i.toNat w :=by
 simp [Instr.sliceBound,asIntOf,h0,h1]
theorem sliceBounds_ok (c:OCtx P T F g B w H s ev ρ) {low high:Option Operand} {isS:Bool} {len y m l h:Nat} (hh:bnd (high.map ev) len y = some h) (hl:bnd (low.map ev) 0 h = some l) (hy:y ≤ m) :
  (Instr.sliceBounds isS len m (low.map ρ) (high.map ρ) none).run P w = .ok (l,h,m) w :=by
 unfold Instr.sliceBounds
 cases high with
 |none =>
  rcases bnd_ok hh with ⟨_,e⟩ | ⟨k,i,e,_⟩
  ·subst e
   cases low with
   |none =>
    rcases bnd_ok hl with ⟨_,e⟩ | ⟨k,i,e,_⟩
    ·subst e;simp
    ·cases e
   |some lo =>
    rcases bnd_ok hl with ⟨e,_⟩ | ⟨k,i,e,e1,e2,e3⟩
    ·cases e
    ·simp only [Option.map_some,Option.some.injEq] at e
     have :=c.rel lo
     rw [e] at this
     simp only [VRel] at this
     simp [this,sliceBound_run e1 e2,e3]
  ·cases e
 |some hi =>
  rcases bnd_ok hh with ⟨e,_⟩ | ⟨k,i,e,e1,e2,e3⟩
  ·cases e
  ·simp only [Option.map_some,Option.some.injEq] at e
   have hv :=c.rel hi
   rw [e] at hv
   simp only [VRel] at hv
   have hb :=fun code => sliceBound_run (P :=P) (k :=k) (y :=m) e1 (by omega) code w
   cases low with
   |none =>
    rcases bnd_ok hl with ⟨_,e⟩ | ⟨k,i,e,_⟩
    ·subst e;simp [hv,hb,e3]
    ·cases e
   |some lo =>
    rcases bnd_ok hl with ⟨e,_⟩ | ⟨k',i',e,f1,f2,f3⟩
    ·cases e
    ·simp only [Option.map_some,Option.some.injEq] at e
     have :=c.rel lo
     rw [e] at this
     simp only [VRel] at this
     subst e3
     simp [hv,hb,this,sliceBound_run f1 f2,f3]
theorem bnd_le {x:Option AV} {dflt n l:Nat} (h:bnd x dflt n = some l) (hd:dflt ≤ n):l ≤ n :=by
 rcases bnd_ok h with ⟨_,e⟩ | ⟨k,i,_,e1,e2,e3⟩ <;> omega
theorem mk_extract (l:List UInt8) (a b:Nat):(⟨l.toArray⟩ : ByteArray).extract a b = ⟨((l.drop a).take (b - a)).toArray⟩ :=by
 apply ByteArray.ext
 rw [ByteArray.data_extract]
 simp [List.extract_toArray,List.extract]
def pSlice (T:Tr TypeInfo) (t:TypeId) (x:AV) (low high:Option AV):Plan :=
 match tyU T t with
 |some (.array n e) => match bnd high n n with
  |some h => match bnd low 0 h with
   |some l => match T.get e with
    |some i => match x with
     | .ptr o off => .ret (.slc o (if n = l then off else off + l * i.size) (h - l) (n - l))
     | _ => .fail
    |none => .fail
   |none => .fail
  |none => .fail
 |some .string => match x with
  | .str b => match bnd high b.length b.length with
   |some h => match bnd low 0 h with
    |some l => .ret (.str ((b.drop l).take (h - l)))
    |none => .fail
   |none => .fail
  | _ => .fail
 |some (.slice e) => match T.get e with
  |some i => match x with
   | .lst xs n own => match bnd high n n with
    |some h => match bnd low 0 h with
     |some l => .chk (decide (l * i.size ≤ xs.length)) (match takeN ((h - l) * i.size) (dropN (l * i.size) xs) with
      |some xs' => .ret (.lst xs' (h - l) (match own with
       | .full => if h = n then .full else .no
       | _ => .no))
      |none => .fail)
     |none => .fail
    |none => .fail
   | .slc o off len cap => .chk (Nat.ble len cap) (match bnd high len cap with
    |some h => match bnd low 0 h with
     |some l => .ret (.slc o (if cap = l then off else off + l * i.size) (h - l) (cap - l))
     |none => .fail
    |none => .fail)
   | .nils => match bnd high 0 0 with
    |some h => match bnd low 0 h with
     |some _ => .ret .nils
     |none => .fail
    |none => .fail
   | _ => .fail
  |none => .fail
 | _ => .fail
theorem pSlice_ok (c:OCtx P T F g B w H s ev ρ) {t:TypeId} {x:Operand} {low high:Option Operand} (h:EvF s (pSlice T t (ev x) (low.map ev) (high.map ev)) H.o r R W) :
  OpRes g B w H W ((do let v ← Instr.sliceAt t (ρ x) (low.map ρ) (high.map ρ) none;pure (.value v):Sem Next).run P w) r :=by
 have hx :=c.rel x
 have hlx :=c.live x
 unfold pSlice at h
 split at h
 ·rename_i n e hu
  have hu' :=run_underlying_ok c.T hu w
  split at h <;> try exact h.elim
  rename_i hi hhi
  split at h <;> try exact h.elim
  rename_i lo hlo
  have hb :=sliceBounds_ok c (isS :=false) (m :=n) hhi hlo (Nat.le_refl _)
  split at h <;> try exact h.elim
  rename_i i hinf
  have hsz :=run_sizeOf_ok c.T hinf w
  split at h <;> try exact h.elim
  rename_i o off ex
  rw [ex] at hx hlx
  simp only [VRel] at hx
  obtain ⟨rfl,rfl⟩ :=evF_ret h
  have g1 :=bnd_le hhi (Nat.le_refl _)
  refine OpRes.pure c.h (u :=.slice (some ⟨g.ob o,if n = lo then off else off + lo * i.size,none⟩) (hi - lo) (n - lo)) ?_ (by simp only [VRel];exact ⟨_,rfl,by omega,fun _ => rfl⟩) hlx
  simp only [Instr.sliceAt,Sem.run_bind,hu',Result.andThen_ok,hx,Instr.sureAddr,Sem.run_pure,hb,hsz]
  by_cases e:n = lo
  ·simp [e]
  ·simp [e,add_none]
 ·rename_i hu
  have hu' :=run_underlying_ok c.T hu w
  split at h <;> try exact h.elim
  rename_i b ex
  rw [ex] at hx
  simp only [VRel] at hx
  split at h <;> try exact h.elim
  rename_i hi hhi
  split at h <;> try exact h.elim
  rename_i lo hlo
  obtain ⟨rfl,rfl⟩ :=evF_ret h
  have hb :=sliceBounds_ok c (isS :=false) (m :=b.length) hhi hlo (Nat.le_refl _)
  have es:(⟨b.toArray⟩ : ByteArray).size = b.length :=rfl
  refine OpRes.pure c.h (u :=.string ⟨((b.drop lo).take (hi - lo)).toArray⟩) ?_ (by simp [VRel]) trivial
  simp [Instr.sliceAt,hu',hx,Instr.slice,es,hb,mk_extract]
 ·rename_i e hu
  have hu' :=run_underlying_ok c.T hu w
  split at h <;> try exact h.elim
  rename_i i hinf
  have hsz :=run_sizeOf_ok c.T hinf w
  split at h
  ·rename_i xs n own ex
   rw [ex] at hx hlx
   simp only [VRel] at hx
   obtain ⟨b,off,cap,e1,h1,h2,h3,h4⟩ :=hx
   split at h <;> try exact h.elim
   rename_i hi hhi
   split at h <;> try exact h.elim
   rename_i lo hlo
   obtain ⟨hlen,h⟩ :=h
   have hlen :=of_decide_eq_true hlen
   split at h <;> try exact h.elim
   rename_i xs' hxs
   obtain ⟨rfl,rfl⟩ :=evF_ret h
   obtain ⟨k1,k2⟩ :=takeN_eq hxs
   rw [dropN_eq] at k1
   have hb :=sliceBounds_ok c (isS :=true) (m :=cap) hhi hlo h1
   have g1 :=bnd_le hhi (Nat.le_refl _)
   have g2 :=bnd_le hlo (Nat.zero_le _)
   have k3:xs'.length ≤ xs.length - lo * i.size :=by rw [k1];simp;omega
   refine OpRes.pure c.h (u :=.slice (some ⟨b,if cap = lo then off else off + lo * i.size,none⟩) (hi - lo) (cap - lo)) ?_ ?_ ⟨?_,?_⟩
   ·simp only [Instr.sliceAt,Sem.run_bind,hu',Result.andThen_ok,e1,Instr.slice,hb,hsz]
    by_cases e:cap = lo
    ·simp [e]
    ·simp [e,add_none]
   ·simp only [VRel]
    refine ⟨b,_,_,rfl,by omega,?_,?_,?_⟩
    ·split
     ·have:hi - lo = 0 :=by omega
      rw [this,Nat.zero_mul] at k2
      omega
     ·omega
    ·split
     ·have:hi - lo = 0 :=by omega
      rw [this,Nat.zero_mul] at k2
      rw [List.length_eq_zero_iff.1 k2]
      trivial
     ·refine LRel.of_get _ _ fun j a ha => ?_
      rw [k1,List.getElem?_take,List.getElem?_drop] at ha
      split at ha
      ·have :=h3.get xs off _ a ha
       rwa [Nat.add_assoc]
      ·cases ha
    ·cases own
     ·trivial
     ·simp only
      split
      ·have h4:cap = n :=h4
       show cap - lo = hi - lo
       omega
      ·trivial
     ·trivial
   ·rw [k1];exact (Lives.drop hlx.1 _).take _
   ·intro cc hcc
    cases own <;> simp only at hcc <;> (try split at hcc) <;> cases hcc
  ·rename_i o off len cap ex
   rw [ex] at hx hlx
   simp only [VRel] at hx
   obtain ⟨c',hx,_,hcap⟩ :=hx
   obtain ⟨hle,h⟩ :=h
   have hle :=Nat.le_of_ble_eq_true hle
   have hcap :=hcap hle
   subst hcap
   split at h <;> try exact h.elim
   rename_i hi hhi
   split at h <;> try exact h.elim
   rename_i lo hlo
   obtain ⟨rfl,rfl⟩ :=evF_ret h
   have hb :=sliceBounds_ok c (isS :=true) (m :=c') hhi hlo (Nat.le_refl _)
   have g1 :=bnd_le hhi hle
   refine OpRes.pure c.h (u :=.slice (some ⟨g.ob o,if c' = lo then off else off + lo * i.size,none⟩) (hi - lo) (c' - lo)) ?_ (by simp only [VRel];exact ⟨_,rfl,by omega,fun _ => rfl⟩) hlx
   simp only [Instr.sliceAt,Sem.run_bind,hu',Result.andThen_ok,hx,Instr.slice,hb,hsz]
   by_cases e:c' = lo
   ·simp [e]
   ·simp [e,add_none]
  ·rename_i ex
   rw [ex] at hx
   simp only [VRel] at hx
   split at h <;> try exact h.elim
   rename_i hi hhi
   split at h <;> try exact h.elim
   rename_i lo hlo
   obtain ⟨rfl,rfl⟩ :=evF_ret h
   have hb :=sliceBounds_ok c (isS :=true) (m :=0) hhi hlo (Nat.le_refl _)
   have g1 :=bnd_le hhi (Nat.le_refl _)
   have g2 :=bnd_le hlo (Nat.zero_le _)
   have e1:hi = 0 :=by omega
   have e2:lo = 0 :=by omega
   subst e1;subst e2
   refine OpRes.pure c.h (u :=.slice none 0 0) ?_ (by simp [VRel]) trivial
   simp [Instr.sliceAt,hu',hx,Instr.slice,hb,hsz]
  ·exact h.elim
 ·exact h.elim
end
end
end Go.Abs

