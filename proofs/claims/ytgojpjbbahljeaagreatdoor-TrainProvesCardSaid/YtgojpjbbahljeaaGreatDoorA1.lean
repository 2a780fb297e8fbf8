/-
  Abstract values, ghost state, and the relation to the model's values.
-/
import Derived.Calls
import Derived.Below
/-! Abstract values, ghost state, and the relation to the model's values. -/
namespace Go.Abs
open Go
noncomputable section

/-- A tree of values, by number. -/
inductive Tr (α : Type) where
  | nil
  | node (v : α) (l r : Tr α)

namespace Tr
variable {α : Type}

/-- A way through a tree. -/
inductive _root_.Go.Abs.Pa where
  | e
  | l (p : Pa)
  | r (p : Pa)

/- By the recursors themselves, with closed minor premises: so the kernel carries it out at little cost. -/
def _root_.Go.Abs.pathF (k : Nat) : Nat → Pa :=
  @Nat.rec (fun _ => Nat → Pa) (fun _ => .e)
    (fun _ ih i => @Bool.rec (fun _ => Pa) (@Bool.rec (fun _ => Pa) (.l (ih (Nat.div i 2))) (.r (ih (Nat.pred (Nat.div i 2)))) (Nat.beq (Nat.mod i 2) 0)) .e (Nat.beq i 0)) k

def _root_.Go.Abs.pathOf (i : Nat) : Pa := pathF (Nat.succ i) i

def getP (p : Pa) : Tr α → Option α :=
  @Pa.rec (fun _ => Tr α → Option α)
    (fun t => @Tr.rec α (fun _ => Option α) none (fun v _ _ _ _ => some v) t)
    (fun _ ih t => @Tr.rec α (fun _ => Option α) none (fun _ l _ _ _ => ih l) t)
    (fun _ ih t => @Tr.rec α (fun _ => Option α) none (fun _ _ r _ _ => ih r) t) p

def setP (p : Pa) : Tr α → α → (Tr α → Prop) → Prop :=
  @Pa.rec (fun _ => Tr α → α → (Tr α → Prop) → Prop)
    (fun t x K => @Tr.rec α (fun _ => Prop) False (fun _ l r _ _ => K (node x l r)) t)
    (fun _ ih t x K => @Tr.rec α (fun _ => Prop) False (fun v l r _ _ => ih l x fun l' => K (node v l' r)) t)
    (fun _ ih t x K => @Tr.rec α (fun _ => Prop) False (fun v l r _ _ => ih r x fun r' => K (node v l r')) t) p

def insP (p : Pa) : Tr α → α → (Tr α → Prop) → Prop :=
  @Pa.rec (fun _ => Tr α → α → (Tr α → Prop) → Prop)
    (fun t x K => @Tr.rec α (fun _ => Prop) (K (node x nil nil)) (fun _ l r _ _ => K (node x l r)) t)
    (fun _ ih t x K => @Tr.rec α (fun _ => Prop) False (fun v l r _ _ => ih l x fun l' => K (node v l' r)) t)
    (fun _ ih t x K => @Tr.rec α (fun _ => Prop) False (fun v l r _ _ => ih r x fun r' => K (node v l r')) t) p

def get (t : Tr α) (i : Nat) : Option α := getP (pathOf i) t
def setK (t : Tr α) (i : Nat) (x : α) (K : Tr α → Prop) : Prop := setP (pathOf i) t x K
def insK (t : Tr α) (i : Nat) (x : α) (K : Tr α → Prop) : Prop := insP (pathOf i) t x K

theorem odd_beq {i : Nat} (h : i % 2 = 0) : Nat.beq (Nat.mod (i + 1) 2) 0 = false := by
  have h1 : Nat.mod (i + 1) 2 = 1 := by show (i + 1) % 2 = 1; omega
  rw [h1]; rfl
theorem even_beq {i : Nat} (h : ¬ i % 2 = 0) : Nat.beq (Nat.mod (i + 1) 2) 0 = true := by
  have h1 : Nat.mod (i + 1) 2 = 0 := by show (i + 1) % 2 = 0; omega
  rw [h1]; rfl
theorem odd_div {i : Nat} (h : i % 2 = 0) : Nat.div (i + 1) 2 = i / 2 := by show (i + 1) / 2 = i / 2; omega
theorem even_div {i : Nat} (h : ¬ i % 2 = 0) : Nat.pred (Nat.div (i + 1) 2) = i / 2 := by
  have h1 : Nat.div (i + 1) 2 = i / 2 + 1 := by show (i + 1) / 2 = _; omega
  rw [h1]; rfl

theorem pathF_odd {k i : Nat} (h : i % 2 = 0) : pathF (k + 1) (i + 1) = .l (pathF k (i / 2)) := by
  show @Bool.rec (fun _ => Pa) (.l (pathF k (Nat.div (i + 1) 2))) (.r (pathF k (Nat.pred (Nat.div (i + 1) 2)))) (Nat.beq (Nat.mod (i + 1) 2) 0) = _
  rw [odd_beq h, odd_div h]
theorem pathF_even {k i : Nat} (h : ¬ i % 2 = 0) : pathF (k + 1) (i + 1) = .r (pathF k (i / 2)) := by
  show @Bool.rec (fun _ => Pa) (.l (pathF k (Nat.div (i + 1) 2))) (.r (pathF k (Nat.pred (Nat.div (i + 1) 2)))) (Nat.beq (Nat.mod (i + 1) 2) 0) = _
  rw [even_beq h, even_div h]
theorem pathF_fuel : ∀ (k k' i : Nat), i < k → i < k' → pathF k i = pathF k' i
  | 0, _, _, h, _ => by omega
  | _, 0, _, _, h => by omega
  | k + 1, k' + 1, 0, _, _ => rfl
  | k + 1, k' + 1, i + 1, h, h' => by
    by_cases hp : i % 2 = 0
    · rw [pathF_odd hp, pathF_odd hp, pathF_fuel k k' (i / 2) (by omega) (by omega)]
    · rw [pathF_even hp, pathF_even hp, pathF_fuel k k' (i / 2) (by omega) (by omega)]
theorem pathOf_odd {i : Nat} (h : i % 2 = 0) : pathOf (i + 1) = .l (pathOf (i / 2)) := by
  show pathF (i + 1 + 1) (i + 1) = _
  rw [pathF_odd h, pathF_fuel (i + 1) (i / 2 + 1) (i / 2) (by omega) (by omega)]
  rfl
theorem pathOf_even {i : Nat} (h : ¬ i % 2 = 0) : pathOf (i + 1) = .r (pathOf (i / 2)) := by
  show pathF (i + 1 + 1) (i + 1) = _
  rw [pathF_even h, pathF_fuel (i + 1) (i / 2 + 1) (i / 2) (by omega) (by omega)]
  rfl

/-- Two trees of one value each place: of n + 1 and of n places. -/
def copyK (x : α) : Nat → Nat → (Tr α → Tr α → Prop) → Prop
  | 0, _, _ => False
  | f + 1, n, K =>
    match n with
    | 0 => K (node x nil nil) nil
    | n + 1 =>
      copyK x f (n / 2) (fun s t =>
        match n % 2 with
        | 0 => K (node x s t) (node x t t)
        | _ => K (node x s s) (node x s t))

@[simp] theorem get_nil (j : Nat) : (nil : Tr α).get j = none := by
  unfold get
  cases pathOf j <;> rfl
@[simp] theorem get_node_zero (v : α) (l r : Tr α) : (node v l r).get 0 = some v := rfl
theorem get_node_even (v : α) (l r : Tr α) {i : Nat} (h : i % 2 = 0) : (node v l r).get (i + 1) = l.get (i / 2) := by
  unfold get
  rw [pathOf_odd h]
  rfl
theorem get_node_odd (v : α) (l r : Tr α) {i : Nat} (h : ¬ i % 2 = 0) : (node v l r).get (i + 1) = r.get (i / 2) := by
  unfold get
  rw [pathOf_even h]
  rfl
theorem get_single (v : α) (j : Nat) : (node v nil nil).get (j + 1) = none := by
  by_cases h : j % 2 = 0
  · rw [get_node_even _ _ _ h, get_nil]
  · rw [get_node_odd _ _ _ h, get_nil]
theorem get_top (v x : α) (l r : Tr α) (j : Nat) : (node x l r).get (j + 1) = (node v l r).get (j + 1) := by
  by_cases h : j % 2 = 0
  · rw [get_node_even _ _ _ h, get_node_even _ _ _ h]
  · rw [get_node_odd _ _ _ h, get_node_odd _ _ _ h]
theorem setK_nil {x : α} {i : Nat} {K : Tr α → Prop} (h : (nil : Tr α).setK i x K) : False := by
  unfold setK at h
  cases hp : pathOf i <;> rw [hp] at h <;> exact h
theorem setK_even {v x : α} {l r : Tr α} {i : Nat} (h : i % 2 = 0) {K : Tr α → Prop} : (node v l r).setK (i + 1) x K = l.setK (i / 2) x (fun l' => K (node v l' r)) := by
  unfold setK
  rw [pathOf_odd h]
  rfl
theorem setK_odd {v x : α} {l r : Tr α} {i : Nat} (h : ¬ i % 2 = 0) {K : Tr α → Prop} : (node v l r).setK (i + 1) x K = r.setK (i / 2) x (fun r' => K (node v l r')) := by
  unfold setK
  rw [pathOf_even h]
  rfl
theorem insK_nil {x : α} {i : Nat} {K : Tr α → Prop} (h : (nil : Tr α).insK (i + 1) x K) : False := by
  unfold insK at h
  by_cases hp : i % 2 = 0
  · rw [pathOf_odd hp] at h; exact h
  · rw [pathOf_even hp] at h; exact h
theorem insK_even {v x : α} {l r : Tr α} {i : Nat} (h : i % 2 = 0) {K : Tr α → Prop} : (node v l r).insK (i + 1) x K = l.insK (i / 2) x (fun l' => K (node v l' r)) := by
  unfold insK
  rw [pathOf_odd h]
  rfl
theorem insK_odd {v x : α} {l r : Tr α} {i : Nat} (h : ¬ i % 2 = 0) {K : Tr α → Prop} : (node v l r).insK (i + 1) x K = r.insK (i / 2) x (fun r' => K (node v l r')) := by
  unfold insK
  rw [pathOf_even h]
  rfl

theorem setK_spec {x : α} : ∀ (t : Tr α) (i : Nat) (K : Tr α → Prop), t.setK i x K →
    ∃ t', K t' ∧ (∃ y, t.get i = some y) ∧ ∀ j, t'.get j = if j = i then some x else t.get j
  | nil, _, _, h => (setK_nil h).elim
  | node v l r, i, K, h => by
    cases i with
    | zero =>
      refine ⟨_, h, ⟨v, rfl⟩, fun j => ?_⟩
      cases j with
      | zero => rfl
      | succ j => rw [if_neg (by omega)]; exact get_top _ _ _ _ _
    | succ i =>
      by_cases hp : i % 2 = 0
      · have h' : l.setK (i / 2) x (fun l' => K (node v l' r)) := by rw [setK_even hp] at h; exact h
        obtain ⟨t', hk, ⟨y, hy⟩, hg⟩ := setK_spec l (i / 2) _ h'
        refine ⟨_, hk, ⟨y, by rw [get_node_even _ _ _ hp, hy]⟩, fun j => ?_⟩
        cases j with
        | zero => rfl
        | succ j =>
          by_cases hq : j % 2 = 0
          · rw [get_node_even _ _ _ hq, get_node_even _ _ _ hq, hg]
            by_cases e : j = i
            · subst e; simp
            · have : j / 2 ≠ i / 2 := by omega
              have e' : j + 1 ≠ i + 1 := by omega
              rw [if_neg this, if_neg e']
          · rw [get_node_odd _ _ _ hq, get_node_odd _ _ _ hq]
            have e' : j + 1 ≠ i + 1 := by intro e; exact hq (by have : j = i := by omega
                                                                subst this; exact hp)
            rw [if_neg e']
      · have hp1 : i % 2 = 1 := by omega
        have h' : r.setK (i / 2) x (fun r' => K (node v l r')) := by rw [setK_odd hp] at h; exact h
        obtain ⟨t', hk, ⟨y, hy⟩, hg⟩ := setK_spec r (i / 2) _ h'
        refine ⟨_, hk, ⟨y, by rw [get_node_odd _ _ _ hp, hy]⟩, fun j => ?_⟩
        cases j with
        | zero => rfl
        | succ j =>
          by_cases hq : j % 2 = 0
          · rw [get_node_even _ _ _ hq, get_node_even _ _ _ hq]
            have e' : j + 1 ≠ i + 1 := by intro e; exact hp (by have : j = i := by omega
                                                                subst this; exact hq)
            rw [if_neg e']
          · rw [get_node_odd _ _ _ hq, get_node_odd _ _ _ hq, hg]
            by_cases e : j = i
            · subst e; simp
            · have : j / 2 ≠ i / 2 := by omega
              have e' : j + 1 ≠ i + 1 := by omega
              rw [if_neg this, if_neg e']

theorem insK_spec {x : α} : ∀ (t : Tr α) (i : Nat) (K : Tr α → Prop), t.insK i x K →
    ∃ t', K t' ∧ ∀ j, t'.get j = if j = i then some x else t.get j
  | nil, i, K, h => by
    cases i with
    | zero =>
      refine ⟨_, h, fun j => ?_⟩
      cases j with
      | zero => rfl
      | succ j => rw [get_single, if_neg (by omega), get_nil]
    | succ i => exact (insK_nil h).elim
  | node v l r, i, K, h => by
    cases i with
    | zero =>
      refine ⟨_, h, fun j => ?_⟩
      cases j with
      | zero => rfl
      | succ j => rw [if_neg (by omega)]; exact get_top _ _ _ _ _
    | succ i =>
      by_cases hp : i % 2 = 0
      · have h' : l.insK (i / 2) x (fun l' => K (node v l' r)) := by rw [insK_even hp] at h; exact h
        obtain ⟨t', hk, hg⟩ := insK_spec l (i / 2) _ h'
        refine ⟨_, hk, fun j => ?_⟩
        cases j with
        | zero => rfl
        | succ j =>
          by_cases hq : j % 2 = 0
          · rw [get_node_even _ _ _ hq, get_node_even _ _ _ hq, hg]
            by_cases e : j = i
            · subst e; simp
            · have : j / 2 ≠ i / 2 := by omega
              have e' : j + 1 ≠ i + 1 := by omega
              rw [if_neg this, if_neg e']
          · rw [get_node_odd _ _ _ hq, get_node_odd _ _ _ hq]
            have e' : j + 1 ≠ i + 1 := by intro e; exact hq (by have : j = i := by omega
                                                                subst this; exact hp)
            rw [if_neg e']
      · have hp1 : i % 2 = 1 := by omega
        have h' : r.insK (i / 2) x (fun r' => K (node v l r')) := by rw [insK_odd hp] at h; exact h
        obtain ⟨t', hk, hg⟩ := insK_spec r (i / 2) _ h'
        refine ⟨_, hk, fun j => ?_⟩
        cases j with
        | zero => rfl
        | succ j =>
          by_cases hq : j % 2 = 0
          · rw [get_node_even _ _ _ hq, get_node_even _ _ _ hq]
            have e' : j + 1 ≠ i + 1 := by intro e; exact hp (by have : j = i := by omega
                                                                subst this; exact hq)
            rw [if_neg e']
          · rw [get_node_odd _ _ _ hq, get_node_odd _ _ _ hq, hg]
            by_cases e : j = i
            · subst e; simp
            · have : j / 2 ≠ i / 2 := by omega
              have e' : j + 1 ≠ i + 1 := by omega
              rw [if_neg this, if_neg e']

theorem copyK_spec {x : α} : ∀ (f n : Nat) (K : Tr α → Tr α → Prop), copyK x f n K →
    ∃ s t, K s t ∧ (∀ j, s.get j = if j < n + 1 then some x else none) ∧ ∀ j, t.get j = if j < n then some x else none
  | 0, _, _, h => h.elim
  | f + 1, n, K, h => by
    cases n with
    | zero =>
      refine ⟨_, _, h, fun j => ?_, fun j => ?_⟩
      · cases j with
        | zero => rfl
        | succ j => rw [get_single, if_neg (by omega)]
      · simp
    | succ n =>
      have h' : copyK x f (n / 2) (fun s t =>
        match n % 2 with
        | 0 => K (node x s t) (node x t t)
        | _ => K (node x s s) (node x s t)) := h
      obtain ⟨s, t, hk, hs, ht⟩ := copyK_spec f (n / 2) _ h'
      by_cases hp : n % 2 = 0
      · rw [hp] at hk
        refine ⟨_, _, hk, fun j => ?_, fun j => ?_⟩
        · cases j with
          | zero => simp
          | succ j =>
            by_cases hq : j % 2 = 0
            · rw [get_node_even _ _ _ hq, hs]; congr 1; apply propext; omega
            · rw [get_node_odd _ _ _ hq, ht]; congr 1; apply propext; omega
        · cases j with
          | zero => simp
          | succ j =>
            by_cases hq : j % 2 = 0
            · rw [get_node_even _ _ _ hq, ht]; congr 1; apply propext; omega
            · rw [get_node_odd _ _ _ hq, ht]; congr 1; apply propext; omega
      · have hp1 : n % 2 = 1 := by omega
        rw [hp1] at hk
        refine ⟨_, _, hk, fun j => ?_, fun j => ?_⟩
        · cases j with
          | zero => simp
          | succ j =>
            by_cases hq : j % 2 = 0
            · rw [get_node_even _ _ _ hq, hs]; congr 1; apply propext; omega
            · rw [get_node_odd _ _ _ hq, hs]; congr 1; apply propext; omega
        · cases j with
          | zero => simp
          | succ j =>
            by_cases hq : j % 2 = 0
            · rw [get_node_even _ _ _ hq, hs]; congr 1; apply propext; omega
            · rw [get_node_odd _ _ _ hq, ht]; congr 1; apply propext; omega

end Tr

/-- What is known of a list's spare places: nothing; that there are none; that they are a chain's. -/
inductive Own where
  | no
  | full
  | ch (c : Nat)
  deriving Inhabited

/-- Abstract values. -/
inductive AV where
  | unk
  | int (k : IntKind) (n : Int)
  | bool (b : Bool)
  | str (s : List UInt8)
  | nilp
  | ptr (o off : Nat)
  | lptr (xs : List AV) (off : Nat)
  | gp (g off : Nat)
  | nils
  | slc (o off len cap : Nat)
  | lst (xs : List AV) (n : Nat) (own : Own)
  | nilm
  | map (o : Nat)
  | nilf
  | func (fn : Fn) (first cap : List AV)
  | yld (o : Nat)
  | nili
  | iface (t : TypeId) (v : AV)
  | agg (cs : List AV)
  | tup (vs : List AV)
  deriving Inhabited

/-- The ghost state: object to block; how many cells of a block never change; chains: length, block, capacity. -/
structure Gh where
  ob : Nat → Nat
  im : Nat → Nat
  cn : Nat → Nat
  cb : Nat → Nat
  cc : Nat → Nat

def OwnR (g : Gh) (own : Own) (n b off cap : Nat) : Prop :=
  match own with
  | .no => True
  | .full => cap = n
  | .ch c => n ≤ g.cn c ∧ (n = g.cn c → b = g.cb c ∧ off = 0 ∧ cap = g.cc c)

mutual
def VRel (g : Gh) (w : World) : AV → Value → Prop
  | .unk, _ => True
  | .int k n, v => v = .int k n
  | .bool b, v => v = .bool b
  | .str s, v => v = .string ⟨s.toArray⟩
  | .nilp, v => v = .pointer none
  | .ptr o off, v => v = .pointer (some ⟨g.ob o, off, none⟩)
  | .lptr xs off, v => ∃ b o0, v = .pointer (some ⟨b, o0 + off, none⟩) ∧ o0 + xs.length ≤ g.im b ∧ LRel g w xs b o0
  | .gp a off, v => v = .pointer (some ⟨a, off, none⟩)
  | .nils, v => v = .slice none 0 0
  | .slc o off len cap, v => v = .slice (some ⟨g.ob o, off, none⟩) len cap
  | .lst xs n own, v => ∃ b off cap, v = .slice (some ⟨b, off, none⟩) n cap ∧ n ≤ cap ∧ off + xs.length ≤ g.im b ∧ LRel g w xs b off ∧ OwnR g own n b off cap
  | .nilm, v => v = .map none
  | .map o, v => v = .map (some (g.ob o))
  | .nilf, v => v = .nilFunc
  | .func fn f c, v => ∃ vf vc, v = .func fn vf vc ∧ VRels g w f vf.toList ∧ VRels g w c vc.toList
  | .yld o, v => v = .func (.yield (g.ob o)) #[] #[]
  | .nili, v => v = .nilIface
  | .iface t a, v => ∃ u, v = .iface t u ∧ VRel g w a u
  | .agg cs, v => ∃ vs, v = .agg vs ∧ VRels g w cs vs.toList
  | .tup cs, v => ∃ vs, v = .tuple vs ∧ VRels g w cs vs.toList
def LRel (g : Gh) (w : World) : List AV → Nat → Nat → Prop
  | [], _, _ => True
  | x :: xs, b, off => (∃ u, w.cell? ⟨b, off, none⟩ = some u ∧ VRel g w x u) ∧ LRel g w xs b (off + 1)
def VRels (g : Gh) (w : World) : List AV → List Value → Prop
  | [], vs => vs = []
  | x :: xs, vs => ∃ u us, vs = u :: us ∧ VRel g w x u ∧ VRels g w xs us
end

mutual
/-- All references are to objects below this. -/
def bd : AV → Nat
  | .ptr o _ => o + 1
  | .lptr xs _ => bdl xs
  | .slc o _ _ _ => o + 1
  | .lst xs _ own => match own with
    | .ch c => Nat.max (c + 1) (bdl xs)
    | _ => bdl xs
  | .map o => o + 1
  | .func _ f c => Nat.max (bdl f) (bdl c)
  | .yld o => o + 1
  | .iface _ v => bd v
  | .agg cs => bdl cs
  | .tup cs => bdl cs
  | _ => 0
def bdl : List AV → Nat
  | [] => 0
  | x :: xs => Nat.max (bd x) (bdl xs)
end

mutual
/-- All references are to objects that live. -/
def Live (L : Nat → Prop) : AV → Prop
  | .ptr o _ => L o
  | .lptr xs _ => Lives L xs
  | .slc o _ _ _ => L o
  | .lst xs _ own => Lives L xs ∧ ∀ c, own = .ch c → L c
  | .map o => L o
  | .func _ f c => Lives L f ∧ Lives L c
  | .yld o => L o
  | .iface _ v => Live L v
  | .agg cs => Lives L cs
  | .tup cs => Lives L cs
  | _ => True
def Lives (L : Nat → Prop) : List AV → Prop
  | [] => True
  | x :: xs => Live L x ∧ Lives L xs
end

/-- What may turn from one state to a later one. -/
structure Ext (L : Nat → Prop) (g : Gh) (w : World) (g' : Gh) (w' : World) : Prop where
  ob : ∀ i, L i → g'.ob i = g.ob i
  cn : ∀ i, L i → g.cn i ≤ g'.cn i
  cb : ∀ i, L i → g'.cn i = g.cn i → g'.cb i = g.cb i ∧ g'.cc i = g.cc i
  im : ∀ b, g.im b ≤ g'.im b
  cell : ∀ b j, j < g.im b → w'.cell? ⟨b, j, none⟩ = w.cell? ⟨b, j, none⟩

theorem Ext.refl (L : Nat → Prop) (g : Gh) (w : World) : Ext L g w g w :=
  ⟨fun _ _ => rfl, fun _ _ => Nat.le_refl _, fun _ _ _ => ⟨rfl, rfl⟩, fun _ => Nat.le_refl _, fun _ _ _ => rfl⟩

theorem Ext.trans {L : Nat → Prop} {g1 g2 g3 : Gh} {w1 w2 w3 : World} (h : Ext L g1 w1 g2 w2) (k : Ext L g2 w2 g3 w3) : Ext L g1 w1 g3 w3 := by
  refine ⟨fun i hi => (k.ob i hi).trans (h.ob i hi), fun i hi => Nat.le_trans (h.cn i hi) (k.cn i hi), fun i hi e => ?_,
    fun b => Nat.le_trans (h.im b) (k.im b), fun b j hj => (k.cell b j (Nat.lt_of_lt_of_le hj (h.im b))).trans (h.cell b j hj)⟩
  have h1 := h.cn i hi
  have h2 := k.cn i hi
  have e1 : g2.cn i = g1.cn i := by omega
  have e2 : g3.cn i = g2.cn i := by omega
  exact ⟨(k.cb i hi e2).1.trans (h.cb i hi e1).1, (k.cb i hi e2).2.trans (h.cb i hi e1).2⟩

theorem Ext.mono {L L' : Nat → Prop} {g g' : Gh} {w w' : World} (h : Ext L g w g' w') (hl : ∀ i, L' i → L i) : Ext L' g w g' w' :=
  ⟨fun i hi => h.ob i (hl i hi), fun i hi => h.cn i (hl i hi), fun i hi => h.cb i (hl i hi), h.im, h.cell⟩

theorem OwnR.ext {L : Nat → Prop} {g g' : Gh} {w w' : World} (hx : Ext L g w g' w') {own : Own} {n b off cap : Nat}
    (hl : ∀ c, own = .ch c → L c) (h : OwnR g own n b off cap) : OwnR g' own n b off cap := by
  cases own with
  | no => trivial
  | full => exact h
  | ch c =>
    obtain ⟨h1, h2⟩ := h
    have hc := hl c rfl
    have h3 := hx.cn c hc
    refine ⟨Nat.le_trans h1 h3, fun e => ?_⟩
    have e1 : g'.cn c = g.cn c := by omega
    obtain ⟨a, b⟩ := hx.cb c hc e1
    rw [a, b]
    exact h2 (by omega)

mutual
theorem VRel.ext {L : Nat → Prop} {g g' : Gh} {w w' : World} (hx : Ext L g w g' w') : ∀ (a : AV) (v : Value), Live L a → VRel g w a v → VRel g' w' a v
  | .unk, _, _, _ => trivial
  | .int _ _, _, _, h => h
  | .bool _, _, _, h => h
  | .str _, _, _, h => h
  | .nilp, _, _, h => h
  | .ptr o off, v, hl, h => by
    simp only [VRel] at h ⊢
    rw [hx.ob o hl]; exact h
  | .lptr xs off, v, hl, h => by
    simp only [VRel] at h ⊢
    obtain ⟨b, o0, hv, hb, hr⟩ := h
    exact ⟨b, o0, hv, Nat.le_trans hb (hx.im b), LRel.ext hx xs b o0 hl hb hr⟩
  | .gp _ _, _, _, h => h
  | .nils, _, _, h => h
  | .slc o off len cap, v, hl, h => by
    simp only [VRel] at h ⊢
    rw [hx.ob o hl]; exact h
  | .lst xs n own, v, hl, h => by
    simp only [VRel] at h ⊢
    obtain ⟨b, off, cap, hv, hn, hb, hr, ho⟩ := h
    exact ⟨b, off, cap, hv, hn, Nat.le_trans hb (hx.im b), LRel.ext hx xs b off hl.1 hb hr, ho.ext hx hl.2⟩
  | .nilm, _, _, h => h
  | .map o, v, hl, h => by
    simp only [VRel] at h ⊢
    rw [hx.ob o hl]; exact h
  | .nilf, _, _, h => h
  | .func fn f c, v, hl, h => by
    simp only [VRel] at h ⊢
    obtain ⟨vf, vc, hv, h1, h2⟩ := h
    exact ⟨vf, vc, hv, VRels.ext hx f _ hl.1 h1, VRels.ext hx c _ hl.2 h2⟩
  | .yld o, v, hl, h => by
    simp only [VRel] at h ⊢
    rw [hx.ob o hl]; exact h
  | .nili, _, _, h => h
  | .iface t a, v, hl, h => by
    simp only [VRel] at h ⊢
    obtain ⟨u, hv, h1⟩ := h
    exact ⟨u, hv, VRel.ext hx a u hl h1⟩
  | .agg cs, v, hl, h => by
    simp only [VRel] at h ⊢
    obtain ⟨vs, hv, h1⟩ := h
    exact ⟨vs, hv, VRels.ext hx cs _ hl h1⟩
  | .tup cs, v, hl, h => by
    simp only [VRel] at h ⊢
    obtain ⟨vs, hv, h1⟩ := h
    exact ⟨vs, hv, VRels.ext hx cs _ hl h1⟩
theorem LRel.ext {L : Nat → Prop} {g g' : Gh} {w w' : World} (hx : Ext L g w g' w') : ∀ (xs : List AV) (b off : Nat), Lives L xs → off + xs.length ≤ g.im b → LRel g w xs b off → LRel g' w' xs b off
  | [], _, _, _, _, _ => trivial
  | x :: xs, b, off, hl, hb, h => by
    simp only [LRel] at h ⊢
    simp only [List.length_cons] at hb
    obtain ⟨⟨u, hu, hv⟩, hr⟩ := h
    exact ⟨⟨u, by rw [hx.cell b off (by omega)]; exact hu, VRel.ext hx x u hl.1 hv⟩, LRel.ext hx xs b (off + 1) hl.2 (by omega) hr⟩
theorem VRels.ext {L : Nat → Prop} {g g' : Gh} {w w' : World} (hx : Ext L g w g' w') : ∀ (xs : List AV) (vs : List Value), Lives L xs → VRels g w xs vs → VRels g' w' xs vs
  | [], _, _, h => h
  | x :: xs, vs, hl, h => by
    simp only [VRels] at h ⊢
    obtain ⟨u, us, e, h1, h2⟩ := h
    exact ⟨u, us, e, VRel.ext hx x u hl.1 h1, VRels.ext hx xs us hl.2 h2⟩
end

mutual
theorem Live.mono {L L' : Nat → Prop} (hx : ∀ i, L i → L' i) : ∀ (a : AV), Live L a → Live L' a
  | .unk, _ => trivial
  | .int _ _, _ => trivial
  | .bool _, _ => trivial
  | .str _, _ => trivial
  | .nilp, _ => trivial
  | .ptr _ _, h => hx _ h
  | .lptr xs _, h => Lives.mono hx xs h
  | .gp _ _, _ => trivial
  | .nils, _ => trivial
  | .slc _ _ _ _, h => hx _ h
  | .lst xs _ _, h => ⟨Lives.mono hx xs h.1, fun c hc => hx _ (h.2 c hc)⟩
  | .nilm, _ => trivial
  | .map _, h => hx _ h
  | .nilf, _ => trivial
  | .func _ f c, h => ⟨Lives.mono hx f h.1, Lives.mono hx c h.2⟩
  | .yld _, h => hx _ h
  | .nili, _ => trivial
  | .iface _ a, h => Live.mono hx a h
  | .agg cs, h => Lives.mono hx cs h
  | .tup cs, h => Lives.mono hx cs h
theorem Lives.mono {L L' : Nat → Prop} (hx : ∀ i, L i → L' i) : ∀ (xs : List AV), Lives L xs → Lives L' xs
  | [], _ => trivial
  | x :: xs, h => ⟨Live.mono hx x h.1, Lives.mono hx xs h.2⟩
end

mutual
theorem Live.any : ∀ (a : AV), Live (fun _ => True) a
  | .unk => trivial
  | .int _ _ => trivial
  | .bool _ => trivial
  | .str _ => trivial
  | .nilp => trivial
  | .ptr _ _ => trivial
  | .lptr xs _ => Lives.any xs
  | .gp _ _ => trivial
  | .nils => trivial
  | .slc _ _ _ _ => trivial
  | .lst xs _ _ => ⟨Lives.any xs, fun _ _ => trivial⟩
  | .nilm => trivial
  | .map _ => trivial
  | .nilf => trivial
  | .func _ f c => ⟨Lives.any f, Lives.any c⟩
  | .yld _ => trivial
  | .nili => trivial
  | .iface _ a => Live.any a
  | .agg cs => Lives.any cs
  | .tup cs => Lives.any cs
theorem Lives.any : ∀ (xs : List AV), Lives (fun _ => True) xs
  | [] => trivial
  | x :: xs => ⟨Live.any x, Lives.any xs⟩
end

mutual
/-- References that live, and are below n. -/
theorem Live.below {L : Nat → Prop} {n : Nat} : ∀ (a : AV), Live L a → bd a ≤ n → Live (fun i => L i ∧ i < n) a
  | .unk, _, _ => trivial
  | .int _ _, _, _ => trivial
  | .bool _, _, _ => trivial
  | .str _, _, _ => trivial
  | .nilp, _, _ => trivial
  | .ptr _ _, h, hb => ⟨h, hb⟩
  | .lptr xs _, h, hb => Lives.below xs h hb
  | .gp _ _, _, _ => trivial
  | .nils, _, _ => trivial
  | .slc _ _ _ _, h, hb => ⟨h, hb⟩
  | .lst xs _ .no, h, hb => ⟨Lives.below xs h.1 hb, fun c hc => by cases hc⟩
  | .lst xs _ .full, h, hb => ⟨Lives.below xs h.1 hb, fun c hc => by cases hc⟩
  | .lst xs _ (.ch c), h, hb => by
    have h1 : Nat.max (c + 1) (bdl xs) ≤ n := hb
    have h2 := Nat.max_le.1 h1
    exact ⟨Lives.below xs h.1 h2.2, fun c' hc => by cases hc; exact ⟨h.2 c rfl, h2.1⟩⟩
  | .nilm, _, _ => trivial
  | .map _, h, hb => ⟨h, hb⟩
  | .nilf, _, _ => trivial
  | .func _ f c, h, hb => by
    have h1 : Nat.max (bdl f) (bdl c) ≤ n := hb
    have h2 := Nat.max_le.1 h1
    exact ⟨Lives.below f h.1 h2.1, Lives.below c h.2 h2.2⟩
  | .yld _, h, hb => ⟨h, hb⟩
  | .nili, _, _ => trivial
  | .iface _ a, h, hb => Live.below a h hb
  | .agg cs, h, hb => Lives.below cs h hb
  | .tup cs, h, hb => Lives.below cs h hb
theorem Lives.below {L : Nat → Prop} {n : Nat} : ∀ (xs : List AV), Lives L xs → bdl xs ≤ n → Lives (fun i => L i ∧ i < n) xs
  | [], _, _ => trivial
  | x :: xs, h, hb => by
    have h1 : Nat.max (bd x) (bdl xs) ≤ n := hb
    have h2 := Nat.max_le.1 h1
    exact ⟨Live.below x h.1 h2.1, Lives.below xs h.2 h2.2⟩
end

end
end Go.Abs
