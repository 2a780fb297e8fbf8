/-
  The nearest train: plain.
  The document's nearest train: plain.
  Products of numbers of a list, each taken from its place on: plain.
  The program's products of teeth.
-/
import Derived.Test.YtpjclnoehlflcaaGreatDoorU8
import Derived.Test.YtpjclnoehlflcaaGreatDoorU4
/-! The nearest train: plain. -/
namespace Go.Abs.Seat

/-! ### Trains -/
def xP : List (Nat × Nat) → Nat
 | [] => 1
 |p :: r => p.1 * xP r
def yP : List (Nat × Nat) → Nat
 | [] => 1
 |p :: r => p.2 * yP r
def AllT (tp : Nat → Prop) : List (Nat × Nat) → Prop
 | [] => True
 |p :: r => (tp p.1 ∧ tp p.2) ∧ AllT tp r
def Ch : Nat × Nat → List (Nat × Nat) → Prop
 | _, [] => True
 |f, p :: r => ¬ ltQ p f ∧ Ch p r

theorem Vt_iff {tp : Nat → Prop} (h1 : ∀ n, tp n → 1 ≤ n) : ∀ {k X Y : Nat} {f : Nat × Nat} {t : List (Nat × Nat)}, Vt tp k X Y f t ↔ (t.length = k ∧ AllT tp t ∧ Ch f t) ∧ xP t = X ∧ yP t = Y
 | 0, X, Y, f, [] => by
  rw [Vt, xP, yP, AllT, Ch]
  exact ⟨fun h => ⟨⟨rfl, trivial, trivial⟩, h.1.symm, h.2.symm⟩, fun h => ⟨h.2.1.symm, h.2.2.symm⟩⟩
 | 0, _, _, _, _ :: _ => by rw [Vt]; exact ⟨fun h => h.elim, fun h => by cases h.1.1⟩
 | _ + 1, _, _, _, [] => by rw [Vt]; exact ⟨fun h => h.elim, fun h => by cases h.1.1⟩
 |k + 1, X, Y, f, p :: t => by
  rw [Vt, Vt_iff h1, AllT, Ch, xP, yP, List.length_cons]
  constructor
  ·rintro ⟨⟨a1, a2, a3⟩, ⟨b1, b2⟩, ⟨c1, c2, c3⟩, d1, d2⟩
   refine ⟨⟨by omega, ⟨⟨a1, a2⟩, c2⟩, a3, c3⟩, ?_, ?_⟩
   ·rw [d1]; exact Nat.mul_div_cancel' (Nat.dvd_of_mod_eq_zero b1)
   ·rw [d2]; exact Nat.mul_div_cancel' (Nat.dvd_of_mod_eq_zero b2)
  ·rintro ⟨⟨a1, ⟨⟨a2, a3⟩, a4⟩, a5, a6⟩, rfl, rfl⟩
   have q1 := h1 _ a2
   have q2 := h1 _ a3
   refine ⟨⟨a2, a3, a5⟩, ⟨Nat.mul_mod_right _ _, Nat.mul_mod_right _ _⟩, ⟨by omega, a4, a6⟩, ?_, ?_⟩
   ·exact (Nat.mul_div_cancel_left _ q1).symm
   ·exact (Nat.mul_div_cancel_left _ q2).symm

theorem AllT.prod {tp : Nat → Prop} : ∀ {t : List (Nat × Nat)}, AllT tp t → prodP tp t.length (xP t) ∧ prodP tp t.length (yP t)
 | [], _ => ⟨rfl, rfl⟩
 |p :: r, h => by
  have ih := AllT.prod h.2
  rw [List.length_cons, prodP, prodP, xP, yP]
  exact ⟨⟨_, _, ih.1, h.1.1, Nat.mul_comm _ _⟩, ⟨_, _, ih.2, h.1.2, Nat.mul_comm _ _⟩⟩

def insQ (p : Nat × Nat) : List (Nat × Nat) → List (Nat × Nat)
 | [] => [p]
 |q :: r => if ltQ q p then q :: insQ p r else p :: q :: r
theorem insQ_len (p : Nat × Nat) : ∀ l, (insQ p l).length = l.length + 1
 | [] => rfl
 |q :: r => by
  rw [insQ]
  split
  ·rw [List.length_cons, insQ_len p r, List.length_cons]
  ·rfl
theorem insQ_x (p : Nat × Nat) : ∀ l, xP (insQ p l) = p.1 * xP l ∧ yP (insQ p l) = p.2 * yP l
 | [] => ⟨rfl, rfl⟩
 |q :: r => by
  have ih := insQ_x p r
  rw [insQ]
  split
  ·rw [xP, xP, yP, yP, ih.1, ih.2]
   exact ⟨Nat.mul_left_comm _ _ _, Nat.mul_left_comm _ _ _⟩
  ·exact ⟨rfl, rfl⟩
theorem insQ_all {tp : Nat → Prop} {p : Nat × Nat} (hp : tp p.1 ∧ tp p.2) : ∀ {l : List (Nat × Nat)}, AllT tp l → AllT tp (insQ p l)
 | [], _ => ⟨hp, trivial⟩
 |q :: r, h => by
  rw [insQ]
  split
  ·exact ⟨h.1, insQ_all hp h.2⟩
  ·exact ⟨hp, h⟩
theorem insQ_ch {p : Nat × Nat} : ∀ {l : List (Nat × Nat)} {f : Nat × Nat}, ¬ ltQ p f → Ch f l → Ch f (insQ p l)
 | [], _, h, _ => ⟨h, trivial⟩
 |q :: r, f, h, k => by
  rw [insQ]
  split
  ·rename_i e
   exact ⟨k.1, insQ_ch (fun e2 => ltQ_irr _ (ltQ_trans e e2)) k.2⟩
  ·rename_i e
   exact ⟨h, e, k.2⟩

structure Tk (tp : Nat → Prop) (k : Nat) (t : List (Nat × Nat)) : Prop where
 len : t.length = k
 all : AllT tp t
 ch : Ch (0, 0) t
theorem Ch.ofAll {tp : Nat → Prop} {a : Nat} (ha : ∀ n, tp n → a ≤ n) {t : List (Nat × Nat)} (h : AllT tp t) {f : Nat × Nat} (k : Ch f t) : Ch (a, a) t := by
 cases t with
 |nil => trivial
 |cons p r =>
  refine ⟨fun e => ?_, k.2⟩
  have h1 := ha _ h.1.1
  have h2 := ha _ h.1.2
  unfold ltQ at e
  simp only at e
  omega
theorem Tk.ex {tp : Nat → Prop} : ∀ {k x y : Nat}, prodP tp k x → prodP tp k y → ∃ t, Tk tp k t ∧ xP t = x ∧ yP t = y
 | 0, x, y, h1, h2 => by
  rw [prodP] at h1 h2
  exact ⟨[], ⟨rfl, trivial, trivial⟩, h1.symm, h2.symm⟩
 |k + 1, x, y, h1, h2 => by
  rw [prodP] at h1 h2
  obtain ⟨x', n, a1, a2, rfl⟩ := h1
  obtain ⟨y', m, b1, b2, rfl⟩ := h2
  obtain ⟨t, ht, rfl, rfl⟩ := Tk.ex a1 b1
  have hx := insQ_x (n, m) t
  refine ⟨insQ (n, m) t, ⟨by rw [insQ_len, ht.len], insQ_all ⟨a2, b2⟩ ht.all, insQ_ch (by unfold ltQ; simp) ht.ch⟩, ?_, ?_⟩
  ·rw [hx.1, Nat.mul_comm]
  ·rw [hx.2, Nat.mul_comm]
theorem Tk.prod {tp : Nat → Prop} {k : Nat} {t : List (Nat × Nat)} (h : Tk tp k t) : prodP tp k (xP t) ∧ prodP tp k (yP t) := by
 have := h.all.prod
 rwa [h.len] at this

/-! ### The nearest -/
def dT (N D : Nat) (t : List (Nat × Nat)) : Nat × Nat := dQ N D (xP t, yP t)
def Btr (N D : Nat) (t u : List (Nat × Nat)) : Prop := ¬ fle (dT N D u) (dT N D t) ∨ fle (dT N D t) (dT N D u) ∧ (t.length < u.length ∨ t.length = u.length ∧ ltL t u)
def RT (tp : Nat → Prop) (P : Nat) (lets : Nat → Prop) (t : List (Nat × Nat)) : Prop := (1 ≤ t.length ∧ t.length ≤ P) ∧ lets t.length ∧ Tk tp t.length t
def Bst (tp : Nat → Prop) (P : Nat) (lets : Nat → Prop) (N D : Nat) (t : List (Nat × Nat)) : Prop := RT tp P lets t ∧ ∀ u, RT tp P lets u → ¬ Btr N D u t
theorem Bst.uniq {tp : Nat → Prop} {P : Nat} {lets : Nat → Prop} {N D : Nat} {t u : List (Nat × Nat)} (h : Bst tp P lets N D t) (k : Bst tp P lets N D u) : t = u := by
 have h1 := h.2 u k.1
 have h2 := k.2 t h.1
 unfold Btr at h1 h2
 have a1 : fle (dT N D t) (dT N D u) := Classical.byContradiction fun e => h1 (.inl e)
 have a2 : fle (dT N D u) (dT N D t) := Classical.byContradiction fun e => h2 (.inl e)
 have b1 : ¬ (u.length < t.length ∨ u.length = t.length ∧ ltL u t) := fun e => h1 (.inr ⟨a2, e⟩)
 have b2 : ¬ (t.length < u.length ∨ t.length = u.length ∧ ltL t u) := fun e => h2 (.inr ⟨a1, e⟩)
 have hl : t.length = u.length := by
  have : ¬ u.length < t.length := fun e => b1 (.inl e)
  have : ¬ t.length < u.length := fun e => b2 (.inl e)
  omega
 rcases ltL_tri hl with e | e | e
 ·exact absurd (.inr ⟨hl, e⟩) b2
 ·exact e
 ·exact absurd (.inr ⟨hl.symm, e⟩) b1

def Opt (tp : Nat → Prop) (N D k : Nat) (t : List (Nat × Nat)) : Prop := Tk tp k t ∧ ∀ u, Tk tp k u → fle (dT N D t) (dT N D u) ∧ (fle (dT N D u) (dT N D t) → ¬ ltL u t)

theorem RT.lift {tp : Nat → Prop} {P : Nat} {lets : Nat → Prop} {t : List (Nat × Nat)} : RT tp (P + 1) lets t ↔ RT tp P lets t ∨ lets (P + 1) ∧ Tk tp (P + 1) t := by
 unfold RT
 constructor
 ·rintro ⟨⟨h1, h2⟩, h3, h4⟩
  by_cases e : t.length = P + 1
  ·rw [e] at h3 h4
   exact .inr ⟨h3, h4⟩
  ·exact .inl ⟨⟨h1, by omega⟩, h3, h4⟩
 ·rintro (⟨⟨h1, h2⟩, h3, h4⟩ | ⟨h3, h4⟩)
  ·exact ⟨⟨h1, by omega⟩, h3, h4⟩
  ·rw [h4.len]
   exact ⟨⟨by omega, Nat.le_refl _⟩, h3, h4⟩

def BO (tp : Nat → Prop) (P : Nat) (lets : Nat → Prop) (N D : Nat) (o : Option (List (Nat × Nat))) : Prop :=
 match o with
 |none => ∀ t, ¬ RT tp P lets t
 |some t => Bst tp P lets N D t
theorem BO.uniq {tp : Nat → Prop} {P : Nat} {lets : Nat → Prop} {N D : Nat} {o r : Option (List (Nat × Nat))} (h : BO tp P lets N D o) (k : BO tp P lets N D r) : o = r := by
 cases o <;> cases r
 ·rfl
 ·exact absurd k.1 (h _)
 ·exact absurd h.1 (k _)
 ·rw [Bst.uniq h k]
theorem BO.zero (tp : Nat → Prop) (lets : Nat → Prop) (N D : Nat) : BO tp 0 lets N D none := fun t h => by
 have := h.1
 omega
theorem BO.same {tp : Nat → Prop} {P : Nat} {lets : Nat → Prop} {N D : Nat} {o : Option (List (Nat × Nat))} (h : BO tp P lets N D o) (k : ¬ (lets (P + 1) ∧ ∃ t, Tk tp (P + 1) t)) : BO tp (P + 1) lets N D o := by
 have e : ∀ t, RT tp (P + 1) lets t ↔ RT tp P lets t := fun t => by
  rw [RT.lift]
  exact ⟨fun h => h.resolve_right fun h => k ⟨h.1, t, h.2⟩, .inl⟩
 cases o with
 |none => exact fun t ht => h t ((e t).1 ht)
 |some t => exact ⟨(e t).2 h.1, fun u hu => h.2 u ((e u).1 hu)⟩
theorem yP_pos {tp : Nat → Prop} (h1 : ∀ n, tp n → 1 ≤ n) : ∀ {t : List (Nat × Nat)}, AllT tp t → 1 ≤ yP t
 | [], _ => Nat.le_refl _
 | _ :: _, h => Nat.mul_pos (h1 _ h.1.2) (yP_pos h1 h.2)
theorem Opt.bst {tp : Nat → Prop} {P : Nat} {lets : Nat → Prop} {N D : Nat} (_h1 : ∀ n, tp n → 1 ≤ n) {u : List (Nat × Nat)} (hl : lets (P + 1)) (hu : Opt tp N D (P + 1) u) (hb : ∀ t, RT tp P lets t → ¬ fle (dT N D t) (dT N D u)) : Bst tp (P + 1) lets N D u := by
 refine ⟨RT.lift.2 (.inr ⟨hl, hu.1⟩), fun t ht hbt => ?_⟩
 rcases RT.lift.1 ht with k | ⟨_, k⟩
 ·have q1 := hb t k
  rcases hbt with e | e
  ·exact q1 ((fle_tot _ _).resolve_left e)
  ·exact q1 e.1
 ·have q1 := hu.2 t k
  rcases hbt with e | ⟨e1, e2⟩
  ·exact e q1.1
  ·rcases e2 with e2 | e2
   ·rw [k.len, hu.1.len] at e2; omega
   ·exact q1.2 e1 e2.2
theorem BO.new {tp : Nat → Prop} {P : Nat} {lets : Nat → Prop} {N D : Nat} (h1 : ∀ n, tp n → 1 ≤ n) {o : Option (List (Nat × Nat))} (h : BO tp P lets N D o) {u : List (Nat × Nat)} (hl : lets (P + 1)) (hu : Opt tp N D (P + 1) u) (hb : ∀ t, o = some t → ¬ fle (dT N D t) (dT N D u)) : BO tp (P + 1) lets N D (some u) := by
 refine hu.bst h1 hl fun t ht => ?_
 cases o with
 |none => exact absurd ht (h t)
 |some s =>
  have q1 := hb s rfl
  intro e
  have q2 := h.2 t ht
  have q3 : fle (dT N D s) (dT N D t) := Classical.byContradiction fun e => q2 (.inl e)
  exact q1 (fle_tr (b := dT N D t) (yP_pos h1 ht.2.2.all) q3 e)
theorem BO.old {tp : Nat → Prop} {P : Nat} {lets : Nat → Prop} {N D : Nat} (h1 : ∀ n, tp n → 1 ≤ n) {t u : List (Nat × Nat)} (h : BO tp P lets N D (some t)) (hu : Opt tp N D (P + 1) u) (hb : fle (dT N D t) (dT N D u)) : BO tp (P + 1) lets N D (some t) := by
 refine ⟨RT.lift.2 (.inl h.1), fun s hs hbt => ?_⟩
 rcases RT.lift.1 hs with k | ⟨_, k⟩
 ·exact h.2 s k hbt
 ·have q1 := (hu.2 s k).1
  have q2 := fle_tr (b := dT N D u) (yP_pos h1 hu.1.all) hb q1
  rcases hbt with e | ⟨_, e⟩
  ·exact e q2
  ·have := h.1.1
   have := k.len
   rcases e with e | e
   ·omega
   ·omega

noncomputable def nrT (tp : Nat → Prop) (P : Nat) (lets : Nat → Prop) (N D : Nat) : Option (List (Nat × Nat)) :=
 @dite _ (∃ o, BO tp P lets N D o) (Classical.propDecidable _) (fun h => h.choose) (fun _ => none)
theorem nrT_eq {tp : Nat → Prop} {P : Nat} {lets : Nat → Prop} {N D : Nat} {o : Option (List (Nat × Nat))} (h : BO tp P lets N D o) : nrT tp P lets N D = o := by
 unfold nrT
 rw [dif_pos ⟨o, h⟩]
 exact BO.uniq (Exists.choose_spec (⟨o, h⟩ : ∃ o, BO tp P lets N D o)) h

/-! ### The first of trains that are so -/
theorem min_ex {tp : Nat → Prop} (ht : ∀ n, tp n → n ≤ 60) : ∀ (k : Nat) (Q : List (Nat × Nat) → Prop), (∀ t, Q t → t.length = k ∧ AllT tp t) → (∃ t, Q t) → ∃ m, Q m ∧ ∀ u, Q u → ¬ ltL u m
 | 0, Q, hQ, ⟨t, h⟩ => ⟨t, h, fun u hu k => by
  have := (hQ u hu).1
  cases u with
  |nil => simp [ltL] at k
  |cons => cases this⟩
 |k + 1, Q, hQ, ⟨t, h⟩ => by
  have hcons : ∀ t, Q t → ∃ p r, t = p :: r := fun t h => by
   have := (hQ t h).1
   cases t with
   |nil => cases this
   |cons p r => exact ⟨p, r, rfl⟩
  obtain ⟨p, r, rfl⟩ := hcons t h
  obtain ⟨m, ⟨s, hm⟩, hmin⟩ := least_pair (q := fun p => ∃ s, Q (p :: s)) (fun p ⟨s, h⟩ => ht _ (hQ _ h).2.1.2) _ p ⟨r, h⟩ (Nat.le_refl _)
  obtain ⟨v, hv1, hv2⟩ := min_ex ht k (fun s => Q (m :: s)) (fun s hs => by
   have := hQ _ hs
   rw [List.length_cons] at this
   exact ⟨by omega, this.2.2⟩) ⟨s, hm⟩
  refine ⟨m :: v, hv1, fun u hu hlt => ?_⟩
  obtain ⟨q, u, rfl⟩ := hcons u hu
  rcases hlt with h1 | ⟨rfl, h1⟩
  ·exact hmin q ⟨u, hu⟩ h1
  ·exact hv2 u hu h1
noncomputable def mnT (Q : List (Nat × Nat) → Prop) : Option (List (Nat × Nat)) :=
 @dite _ (∃ t, Q t ∧ ∀ u, Q u → ¬ ltL u t) (Classical.propDecidable _) (fun h => some h.choose) (fun _ => none)
theorem mnT_some {Q : List (Nat × Nat) → Prop} {k : Nat} (hQ : ∀ t, Q t → t.length = k) {t : List (Nat × Nat)} (h : Q t) (hm : ∀ u, Q u → ¬ ltL u t) : mnT Q = some t := by
 have hex : ∃ t, Q t ∧ ∀ u, Q u → ¬ ltL u t := ⟨t, h, hm⟩
 unfold mnT
 rw [dif_pos hex]
 have hs := hex.choose_spec
 congr 1
 rcases ltL_tri ((hQ _ hs.1).trans (hQ _ h).symm) with e | e | e
 ·exact absurd e (hm _ hs.1)
 ·exact e
 ·exact absurd e (hs.2 _ h)
theorem mnT_none {Q : List (Nat × Nat) → Prop} (h : ∀ t, ¬ Q t) : mnT Q = none := by
 unfold mnT
 rw [dif_neg fun ⟨t, ht⟩ => h t ht.1]
theorem mnT_of_some {Q : List (Nat × Nat) → Prop} {t : List (Nat × Nat)} (h : mnT Q = some t) : Q t ∧ ∀ u, Q u → ¬ ltL u t := by
 unfold mnT at h
 by_cases e : ∃ t, Q t ∧ ∀ u, Q u → ¬ ltL u t
 ·rw [dif_pos e] at h
  cases h
  exact e.choose_spec
 ·rw [dif_neg e] at h; cases h

theorem redF_cop {a b : Nat} (hb : 1 ≤ b) : Nat.gcd (redF a b).1 (redF a b).2 = 1 := by
 have hg : 0 < Nat.gcd a b := Nat.gcd_pos_of_pos_right _ hb
 unfold redF
 rw [Nat.gcd_div (Nat.gcd_dvd_left a b) (Nat.gcd_dvd_right a b), Nat.div_self hg]
def Wt (tp : Nat → Prop) (k x y : Nat) (f : Nat × Nat) (t : List (Nat × Nat)) : Prop := (t.length = k ∧ AllT tp t ∧ Ch f t) ∧ xP t * y = x * yP t
theorem wt_len {tp : Nat → Prop} {k x y : Nat} {f : Nat × Nat} : ∀ t, Wt tp k x y f t → t.length = k ∧ AllT tp t := fun _ h => ⟨h.1.1, h.1.2.1⟩
theorem wt_none {tp : Nat → Prop} (ht : ∀ n, tp n → n ≤ 60) {k x y : Nat} {f : Nat × Nat} (h : mnT (Wt tp k x y f) = none) (t : List (Nat × Nat)) : ¬ Wt tp k x y f t := fun hv => by
 obtain ⟨m, hm, hn⟩ := min_ex ht k _ wt_len ⟨t, hv⟩
 rw [mnT_some (fun t h => (wt_len t h).1) hm hn] at h
 cases h
theorem wt_some {tp : Nat → Prop} (ht : ∀ n, tp n → n ≤ 60) {k x y : Nat} {f : Nat × Nat} {t : List (Nat × Nat)} (h : Wt tp k x y f t) : ∃ m, mnT (Wt tp k x y f) = some m := by
 obtain ⟨m, hm, hn⟩ := min_ex ht k _ wt_len ⟨t, h⟩
 exact ⟨m, mnT_some (fun t h => (wt_len t h).1) hm hn⟩

theorem redF_cross {a b x y : Nat} (_hb : 1 ≤ b) (hy : 1 ≤ y) : a * y = x * b ↔ a * (redF x y).2 = (redF x y).1 * b := by
 obtain ⟨hg, h1, h2⟩ := redF_g (x := x) hy
 generalize Nat.gcd x y = g at *
 generalize redF x y = q at *
 subst h1
 have e1 : a * y = g * (a * q.2) := by rw [h2]; exact Nat.mul_left_comm _ _ _
 rw [e1, Nat.mul_assoc]
 exact ⟨fun h => Nat.eq_of_mul_eq_mul_left hg h, fun h => by rw [h]⟩
theorem wt_cons {tp : Nat → Prop} (h1 : ∀ n, tp n → 1 ≤ n) {k x y : Nat} {f p : Nat × Nat} {t : List (Nat × Nat)} (hy : 1 ≤ y) : Wt tp (k + 1) x y f (p :: t) ↔ (tp p.1 ∧ tp p.2 ∧ ¬ ltQ p f) ∧ Wt tp k (redF (x * p.2) (y * p.1)).1 (redF (x * p.2) (y * p.1)).2 p t := by
 unfold Wt
 rw [AllT, Ch, xP, yP, List.length_cons]
 have key : ∀ (ha : AllT tp t) (h2 : tp p.1), (p.1 * xP t * y = x * (p.2 * yP t) ↔ xP t * (redF (x * p.2) (y * p.1)).2 = (redF (x * p.2) (y * p.1)).1 * yP t) := fun ha h2 => by
  rw [← redF_cross (yP_pos h1 ha) (Nat.mul_pos hy (h1 _ h2))]
  have e1 : p.1 * xP t * y = xP t * (y * p.1) := by ac_rfl
  have e2 : x * (p.2 * yP t) = x * p.2 * yP t := by ac_rfl
  rw [e1, e2]
 constructor
 ·rintro ⟨⟨a1, ⟨⟨a2, a3⟩, a4⟩, a5, a6⟩, a7⟩
  exact ⟨⟨a2, a3, a5⟩, ⟨by omega, a4, a6⟩, (key a4 a2).1 a7⟩
 ·rintro ⟨⟨a2, a3, a5⟩, ⟨a1, a4, a6⟩, a7⟩
  exact ⟨⟨by omega, ⟨⟨a2, a3⟩, a4⟩, a5, a6⟩, (key a4 a2).2 a7⟩
theorem wt_found {tp : Nat → Prop} (h1 : ∀ n, tp n → 1 ≤ n) {k x y : Nat} {f p : Nat × Nat} {t : List (Nat × Nat)} (hy : 1 ≤ y) (hp : tp p.1 ∧ tp p.2 ∧ ¬ ltQ p f) (h2 : mnT (Wt tp k (redF (x * p.2) (y * p.1)).1 (redF (x * p.2) (y * p.1)).2 p) = some t)
  (hno : ∀ q u, ltQ q p → ¬ Wt tp (k + 1) x y f (q :: u)) : mnT (Wt tp (k + 1) x y f) = some (p :: t) := by
 have hm := mnT_of_some h2
 refine mnT_some (fun t h => (wt_len t h).1) ((wt_cons h1 hy).2 ⟨hp, hm.1⟩) fun u hu hlt => ?_
 have := hu.1.1
 cases u with
 |nil => cases this
 |cons q u =>
  rcases hlt with h | ⟨rfl, h⟩
  ·exact hno q u h hu
  ·exact hm.2 u ((wt_cons h1 hy).1 hu).2 h
theorem wt_not {tp : Nat → Prop} (h1 : ∀ n, tp n → 1 ≤ n ∧ n ≤ 60) {k x y : Nat} {f p : Nat × Nat} (hy : 1 ≤ y) (h2 : mnT (Wt tp k (redF (x * p.2) (y * p.1)).1 (redF (x * p.2) (y * p.1)).2 p) = none) (u : List (Nat × Nat)) : ¬ Wt tp (k + 1) x y f (p :: u) := fun h =>
 wt_none (fun n h => (h1 n h).2) h2 u ((wt_cons (fun n h => (h1 n h).1) hy).1 h).2
theorem wt_can {tp : Nat → Prop} (h1 : ∀ n, tp n → 1 ≤ n ∧ n ≤ 60) {k x y : Nat} {f p : Nat × Nat} (hy : 1 ≤ y) {r : Nat × Nat} (hr : redF (x * p.2) (y * p.1) = r)
  (h2 : ¬ ∃ n, 1 ≤ n ∧ prodP tp k (n * r.1) ∧ prodP tp k (n * r.2)) (u : List (Nat × Nat)) : ¬ Wt tp (k + 1) x y f (p :: u) := fun h => by
 obtain ⟨hp, hw⟩ := (wt_cons (fun n h => (h1 n h).1) hy).1 h
 rw [hr] at hw
 obtain ⟨⟨hl, ha, _⟩, he⟩ := hw
 have hpr := ha.prod
 rw [hl] at hpr
 have hypos := yP_pos (fun n h => (h1 n h).1) ha
 have hy2 : 1 ≤ y * p.1 := Nat.mul_pos hy (h1 _ hp.1).1
 have hg := redF_g (x := x * p.2) hy2
 -- the fraction is in lowest terms
 have hcop : Nat.gcd r.1 r.2 = 1 := by
  rw [← hr]
  exact redF_cop hy2
 have hr2 : 1 ≤ r.2 := by rw [← hr]; exact redF_pos hy2
 have hdvd : r.2 ∣ yP u := by
  have hc : Nat.Coprime r.2 r.1 := by rw [Nat.coprime_comm]; exact hcop
  refine hc.dvd_of_dvd_mul_left ?_
  rw [← he]; exact Nat.dvd_mul_left _ _
 obtain ⟨n, hn⟩ := hdvd
 have hn1 : 1 ≤ n := by
  apply Nat.pos_of_ne_zero
  intro e
  rw [e, Nat.mul_zero] at hn
  omega
 have hx : xP u = n * r.1 := by
  rw [hn] at he
  have e : r.1 * (r.2 * n) = n * r.1 * r.2 := by ac_rfl
  rw [e] at he
  exact Nat.eq_of_mul_eq_mul_right hr2 he
 rw [hx, hn, Nat.mul_comm r.2 n] at hpr
 exact h2 ⟨n, hn1, hpr.1, hpr.2⟩

/-! ### The program's best train of some pairs -/
theorem redF_eq {a b x y : Nat} (hb : 1 ≤ b) (hy : 1 ≤ y) : redF a b = redF x y ↔ a * y = x * b := by
 constructor
 ·intro h
  rw [redF_cross hb hy, ← h]
  have := redF_g (x := a) hb
  obtain ⟨hg, h1, h2⟩ := this
  generalize Nat.gcd a b = g at *
  generalize redF a b = q at *
  rw [h1, h2]
  ac_rfl
 ·intro h
  have h1 := redF_g (x := a) hb
  have h2 := redF_g (x := x) hy
  have c1 : Nat.Coprime (redF a b).1 (redF a b).2 := redF_cop hb
  have c2 : Nat.Coprime (redF x y).1 (redF x y).2 := redF_cop hy
  have e1 := (redF_cross hb hy).1 h
  have e2 : (redF a b).1 * (redF x y).2 = (redF x y).1 * (redF a b).2 := by
   have := (redF_cross (a := (redF x y).1) (b := (redF x y).2) (x := a) (y := b) (redF_pos hy) hb).1 (by rw [e1])
   exact this.symm
  have d1 : (redF a b).2 ∣ (redF x y).2 := c1.symm.dvd_of_dvd_mul_left (by rw [e2]; exact Nat.dvd_mul_left _ _)
  have d2 : (redF x y).2 ∣ (redF a b).2 := c2.symm.dvd_of_dvd_mul_left (by rw [← e2]; exact Nat.dvd_mul_left _ _)
  have e3 := Nat.dvd_antisymm d1 d2
  have e4 : (redF a b).1 = (redF x y).1 := by
   rw [e3] at e2
   exact Nat.eq_of_mul_eq_mul_right (redF_pos hy) e2
  exact Prod.ext e4 e3

theorem prog_opt {tp : Nat → Prop} (h1 : ∀ n, tp n → 1 ≤ n ∧ n ≤ 60) {k M N D : Nat} (hD : 1 ≤ D) (hM : 60 ^ k < M) (t : List (Nat × Nat)) (q : Nat × Nat) (hq : q ∈ (nearF (lstP (prodP tp k) M) N D).1) (ht : mnT (Wt tp k q.1 q.2 (0, 0)) = some t)
  (hmin : ∀ q' t', q' ∈ (nearF (lstP (prodP tp k) M) N D).1 → mnT (Wt tp k q'.1 q'.2 (0, 0)) = some t' → ¬ ltL t' t) :
  Opt tp N D k t ∧ fle (dT N D t) (nearF (lstP (prodP tp k) M) N D).2 ∧ fle (nearF (lstP (prodP tp k) M) N D).2 (dT N D t) := by
 have hall : ∀ x, x ∈ lstP (prodP tp k) M ↔ prodP tp k x := fun x => by
  rw [lstP_mem]
  exact ⟨fun h => h.2, fun h => ⟨Nat.lt_of_le_of_lt (prod_le h1 k x h).2 hM, h⟩⟩
 have ho := nearF_ok (all := lstP (prodP tp k) M) (N := N) (D := D) (lstP_srt _ _) (fun x hx => (prod_le h1 k x ((hall x).1 hx)).1) hD
 generalize nearF (lstP (prodP tp k) M) N D = s at *
 have hne : s.1 ≠ [] := fun e => by rw [e] at hq; cases hq
 have hpos := ho.pos hne
 have hpos1 : ∀ n, tp n → 1 ≤ n := fun n h => (h1 n h).1
 have turn : ∀ q t, q ∈ s.1 → Wt tp k q.1 q.2 (0, 0) t → redF (xP t) (yP t) = q := fun q t hq hw => by
  obtain ⟨hq2, x, y, hx, hy, rfl⟩ := ho.mem q hq
  have hy := prod_le h1 k y ((hall y).1 hy)
  have hyp := yP_pos hpos1 hw.1.2.1
  rw [redF_eq hyp hy.1, redF_cross hyp hy.1]
  exact hw.2
 have far : ∀ q t, q ∈ s.1 → Wt tp k q.1 q.2 (0, 0) t → fle (dT N D t) s.2 ∧ fle s.2 (dT N D t) := fun q t hq hw => by
  have e := turn q t hq hw
  have hyp := yP_pos hpos1 hw.1.2.1
  have h3 := redF_d (N := N) (D := D) (x := xP t) hyp
  rw [e] at h3
  have h4 := ho.eq q hq
  have hq2 := (ho.mem q hq).1
  exact ⟨fle_tr (b := dQ N D q) hq2 h3.2 h4.1, fle_tr (b := dQ N D q) hq2 h4.2 h3.1⟩
 have htw := mnT_of_some ht
 have hf := far q t hq htw.1
 refine ⟨⟨⟨htw.1.1.1, htw.1.1.2.1, htw.1.1.2.2⟩, fun u hu => ?_⟩, hf⟩
 have hup := hu.prod
 have hul := ho.least _ _ ((hall _).2 hup.1) ((hall _).2 hup.2)
 refine ⟨fle_tr hpos hf.1 hul, fun hle hlt => ?_⟩
 have hin := ho.all _ _ ((hall _).2 hup.1) ((hall _).2 hup.2) (fle_tr (b := dT N D t) (yP_pos hpos1 htw.1.1.2.1) hle hf.1)
 have hyu := yP_pos hpos1 hu.all
 have hwu : Wt tp k (redF (xP u) (yP u)).1 (redF (xP u) (yP u)).2 (0, 0) u := ⟨⟨hu.len, hu.all, hu.ch⟩, (redF_cross hyu hyu).1 rfl⟩
 obtain ⟨m, hm⟩ := wt_some (fun n h => (h1 n h).2) hwu
 have hm2 := mnT_of_some hm
 have hnm := hmin _ m hin hm
 rcases ltL_tri (hm2.1.1.1.trans hu.len.symm) with e | e | e
 ·exact hnm (ltL_trans e hlt)
 ·exact hnm (e ▸ hlt)
 ·exact hm2.2 u hwu e
theorem prog_has {tp : Nat → Prop} (h1 : ∀ n, tp n → 1 ≤ n ∧ n ≤ 60) {k M N D : Nat} (hD : 1 ≤ D) (q : Nat × Nat) (hq : q ∈ (nearF (lstP (prodP tp k) M) N D).1) : ∃ t, mnT (Wt tp k q.1 q.2 (0, 0)) = some t := by
 have hall : ∀ x, x ∈ lstP (prodP tp k) M → prodP tp k x := fun x h => ((lstP_mem _ _ _).1 h).2
 have ho := nearF_ok (all := lstP (prodP tp k) M) (N := N) (D := D) (lstP_srt _ _) (fun x hx => (prod_le h1 k x (hall x hx)).1) hD
 obtain ⟨_, x, y, hx, hy, rfl⟩ := ho.mem q hq
 obtain ⟨t, ht, rfl, rfl⟩ := Tk.ex (hall x hx) (hall y hy)
 have hyt := yP_pos (fun n h => (h1 n h).1) ht.all
 exact wt_some (fun n h => (h1 n h).2) (t := t) ⟨⟨ht.len, ht.all, ht.ch⟩, (redF_cross hyt hyt).1 rfl⟩
end Go.Abs.Seat

/-! The document's nearest train: plain. -/
namespace Go.Abs.Seat

def rcOf (l : List Nat) (N D b : Nat) : List (Nat × Nat) :=
 (if 1 ≤ min (cntB D (b * N) l) (l.length - 1) then [(gn l (min (cntB D (b * N) l) (l.length - 1) - 1), b)] else []) ++ [(gn l (min (cntB D (b * N) l) (l.length - 1)), b)]
def rnF (l : List Nat) (N D : Nat) : List (Nat × Nat) := l.flatMap (rcOf l N D)

theorem near_lo {N D x y z : Nat} (hD : 1 ≤ D) (hy : 1 ≤ y) (h1 : z * D ≤ y * N) (h2 : x < z) : ¬ fle (dQ N D (x, y)) (dQ N D (z, y)) := by
 unfold fle dQ
 simp only
 rw [Nat.mul_comm y N] at h1
 have h3 : x * D < z * D := (Nat.mul_lt_mul_right (by omega)).2 h2
 rw [gp_lt h1, gp_lt (by omega)]
 intro h
 have := Nat.le_of_mul_le_mul_right h hy
 omega
theorem near_hi {N D x y z : Nat} (hD : 1 ≤ D) (hy : 1 ≤ y) (h1 : y * N ≤ z * D) (h2 : z < x) : ¬ fle (dQ N D (x, y)) (dQ N D (z, y)) := by
 unfold fle dQ
 simp only
 rw [Nat.mul_comm y N] at h1
 have h3 : z * D < x * D := (Nat.mul_lt_mul_right (by omega)).2 h2
 rw [gp_gt h1, gp_gt (by omega)]
 intro h
 have := Nat.le_of_mul_le_mul_right h hy
 omega
theorem rcOf_ok {l : List Nat} (hs : Srt l) (hp : ∀ x, x ∈ l → 1 ≤ x) {N D b : Nat} (hD : 1 ≤ D) (hb : b ∈ l) :
  (∀ q, q ∈ rcOf l N D b → q.1 ∈ l ∧ q.2 = b) ∧ ∀ x, x ∈ l → (x, b) ∈ rcOf l N D b ∨ ∃ z, z ∈ l ∧ (z, b) ∈ rcOf l N D b ∧ ¬ fle (dQ N D (x, b)) (dQ N D (z, b)) := by
 have hc := cnt_le D (b * N) l
 have hlt := cnt_lt D (b * N) l
 have hge := fun i => cnt_ge (n := D) (w := b * N) hs (i := i)
 have hb1 := hp b hb
 have hl : 1 ≤ l.length := by
  cases l with
  |nil => cases hb
  |cons => rw [List.length_cons]; omega
 unfold rcOf
 generalize cntB D (b * N) l = c at *
 refine ⟨fun q hq => ?_, fun x hx => ?_⟩
 ·rw [List.mem_append, List.mem_singleton] at hq
  rcases hq with hq | rfl
  ·split at hq
   ·rw [List.mem_singleton] at hq
    subst hq
    exact ⟨gn_mem _ (by omega), rfl⟩
   ·cases hq
  ·exact ⟨gn_mem _ (by omega), rfl⟩
 ·obtain ⟨j, hj, rfl⟩ := mem_gn hx
  by_cases e : j = min c (l.length - 1)
  ·left; rw [← e]; simp
  by_cases h : j < min c (l.length - 1)
  ·rw [if_pos (by omega)]
   by_cases e2 : j = min c (l.length - 1) - 1
   ·left; rw [← e2]; simp
   ·right
    refine ⟨gn l (min c (l.length - 1) - 1), gn_mem _ (by omega), by simp, near_lo hD hb1 ?_ (hs _ _ (by omega) (by omega))⟩
    have := hlt (min c (l.length - 1) - 1) (by omega)
    omega
  ·right
   refine ⟨gn l (min c (l.length - 1)), gn_mem _ (by omega), by simp, near_hi hD hb1 ?_ (hs _ _ (by omega) (by omega))⟩
   have := hge (min c (l.length - 1)) (by omega) (by omega)
   omega
theorem rnF_ok {l : List Nat} (hs : Srt l) (hp : ∀ x, x ∈ l → 1 ≤ x) {N D : Nat} (hD : 1 ≤ D) :
  (∀ q, q ∈ rnF l N D → q.1 ∈ l ∧ q.2 ∈ l) ∧ ∀ x y, x ∈ l → y ∈ l → (x, y) ∈ rnF l N D ∨ ∃ z, z ∈ l ∧ (z, y) ∈ rnF l N D ∧ ¬ fle (dQ N D (x, y)) (dQ N D (z, y)) := by
 refine ⟨fun q hq => ?_, fun x y hx hy => ?_⟩
 ·obtain ⟨b, hb, hq⟩ := List.mem_flatMap.1 hq
  have := (rcOf_ok hs hp hD hb).1 q hq
  exact ⟨this.1, by rw [this.2]; exact hb⟩
 ·rcases (rcOf_ok hs hp hD hy).2 x hx with h | ⟨z, hz, h, k⟩
  ·exact .inl (List.mem_flatMap.2 ⟨y, hy, h⟩)
  ·exact .inr ⟨z, hz, List.mem_flatMap.2 ⟨y, hy, h⟩, k⟩

theorem rnF_best {l : List Nat} (hs : Srt l) (hp : ∀ x, x ∈ l → 1 ≤ x) {N D : Nat} (hD : 1 ≤ D) {b : Nat × Nat} (_hb : b ∈ rnF l N D) (hmin : ∀ q, q ∈ rnF l N D → fle (dQ N D b) (dQ N D q)) :
  ∀ x y, x ∈ l → y ∈ l → fle (dQ N D b) (dQ N D (x, y)) ∧ (fle (dQ N D (x, y)) (dQ N D b) → (x, y) ∈ rnF l N D) := fun x y hx hy => by
 rcases (rnF_ok hs hp (N := N) hD).2 x y hx hy with h | ⟨z, hz, h, k⟩
 ·exact ⟨hmin _ h, fun _ => h⟩
 ·have h1 := hmin _ h
  refine ⟨fle_tr (b := dQ N D (z, y)) (hp y hy) h1 ((fle_tot _ _).resolve_left k), fun h2 => ?_⟩
  have hb2 : 1 ≤ b.2 := hp _ ((rnF_ok hs hp (N := N) hD).1 b _hb).2
  exact absurd (fle_tr (b := dQ N D b) hb2 h2 h1) k

theorem Ch.zero {f : Nat × Nat} {t : List (Nat × Nat)} (h : Ch f t) : Ch (0, 0) t := by
 cases t with
 |nil => trivial
 |cons p r => exact ⟨by unfold ltQ; simp, h.2⟩

section
variable {tp : Nat → Prop} (h1 : ∀ n, tp n → 1 ≤ n ∧ n ≤ 60) {a : Nat} (ha : ∀ n, tp n → a ≤ n) {k M N D : Nat} (hD : 1 ≤ D) (hM : 60 ^ k < M)
include h1 ha hD hM

theorem ref_opt {b : Nat × Nat} (hb : b ∈ rnF (lstP (prodP tp k) M) N D) (hmin : ∀ q, q ∈ rnF (lstP (prodP tp k) M) N D → fle (dQ N D b) (dQ N D q)) {t : List (Nat × Nat)} {q : Nat × Nat} (_hq : q ∈ rnF (lstP (prodP tp k) M) N D) (he : (dQ N D q).1 * b.2 = (dQ N D b).1 * q.2) (ht : fstT tp k q.1 q.2 (a, a) = some t)
  (hbest : ∀ q' t', q' ∈ rnF (lstP (prodP tp k) M) N D → (dQ N D q').1 * b.2 = (dQ N D b).1 * q'.2 → fstT tp k q'.1 q'.2 (a, a) = some t' → ¬ ltL t' t) : Opt tp N D k t := by
 have hpos1 : ∀ n, tp n → 1 ≤ n := fun n h => (h1 n h).1
 have hall : ∀ x, x ∈ lstP (prodP tp k) M ↔ prodP tp k x := fun x => by
  rw [lstP_mem]
  exact ⟨fun h => h.2, fun h => ⟨Nat.lt_of_le_of_lt (prod_le h1 k x h).2 hM, h⟩⟩
 have hp : ∀ x, x ∈ lstP (prodP tp k) M → 1 ≤ x := fun x hx => (prod_le h1 k x ((hall x).1 hx)).1
 have hB := rnF_best (N := N) (lstP_srt (prodP tp k) M) hp hD hb hmin
 have hv := fstT_of_some ht
 obtain ⟨⟨g1, g2, g3⟩, g4, g5⟩ := (Vt_iff hpos1).1 hv.1
 have hdt : dT N D t = dQ N D q := by unfold dT; rw [g4, g5]
 have hb2 : 1 ≤ b.2 := hp _ ((rnF_ok (lstP_srt _ _) hp (N := N) hD).1 b hb).2
 refine ⟨⟨g1, g2, g3.zero⟩, fun u hu => ?_⟩
 have hup := hu.prod
 have hu2 := hB _ _ ((hall _).2 hup.1) ((hall _).2 hup.2)
 have hqb : fle (dQ N D q) (dQ N D b) := Nat.le_of_eq he
 refine ⟨by rw [hdt]; exact fle_tr (b := dQ N D b) hb2 hqb hu2.1, fun hle hlt => ?_⟩
 rw [hdt] at hle
 have hub : fle (dQ N D (xP u, yP u)) (dQ N D b) := fle_tr (b := dQ N D q) (by show 1 ≤ q.2; rw [← g5]; exact yP_pos hpos1 g2) hle hqb
 have huin := hu2.2 hub
 have huv : Vt tp k (xP u) (yP u) (a, a) u := (Vt_iff hpos1).2 ⟨⟨hu.len, hu.all, Ch.ofAll ha hu.all hu.ch⟩, rfl, rfl⟩
 obtain ⟨m, hm⟩ := Vmin_ex (fun n h => (h1 n h).2) huv
 have hnm := hbest _ m huin (Nat.le_antisymm hub hu2.1) (fstT_some hm)
 rcases ltL_tri ((Vt_len hm.1).trans (Vt_len huv).symm) with e | e | e
 ·exact hnm (ltL_trans e hlt)
 ·exact hnm (e ▸ hlt)
 ·exact hm.2 u huv e
theorem ref_none2 {b : Nat × Nat} (hb : b ∈ rnF (lstP (prodP tp k) M) N D) : ∃ t, fstT tp k b.1 b.2 (a, a) = some t := by
 have _ := hM
 have hpos1 : ∀ n, tp n → 1 ≤ n := fun n h => (h1 n h).1
 have hp : ∀ x, x ∈ lstP (prodP tp k) M → 1 ≤ x := fun x hx => (prod_le h1 k x ((lstP_mem _ _ _).1 hx).2).1
 have hq := (rnF_ok (lstP_srt _ _) hp (N := N) hD).1 b hb
 obtain ⟨t, ht, e1, e2⟩ := Tk.ex ((lstP_mem _ _ _).1 hq.1).2 ((lstP_mem _ _ _).1 hq.2).2
 obtain ⟨m, hm⟩ := Vmin_ex (fun n h => (h1 n h).2) (X := b.1) (Y := b.2) (f := (a, a)) (k := k) (t := t) ((Vt_iff hpos1).2 ⟨⟨ht.len, ht.all, Ch.ofAll ha ht.all ht.ch⟩, e1, e2⟩)
 exact ⟨m, fstT_some hm⟩
end
end Go.Abs.Seat

/-! Products of numbers of a list, each taken from its place on: plain. -/
namespace Go.Abs.Seat

def PF (L : List Nat) : Nat → Nat → Nat → Prop
 | 0, _, y => y = 1
 |k + 1, i, y => ∃ j, i ≤ j ∧ j < L.length ∧ ∃ z, PF L k j z ∧ y = gn L j * z
def PW (L : List Nat) (k i n y : Nat) : Prop := ∃ j, i ≤ j ∧ j < n ∧ ∃ z, PF L k j z ∧ y = gn L j * z
theorem PF_PW (L : List Nat) (k i y : Nat) : PF L (k + 1) i y ↔ PW L k i L.length y := Iff.rfl
theorem PW_none {L : List Nat} {k i y : Nat} : ¬ PW L k i i y := fun ⟨j, h1, h2, _⟩ => by omega
theorem PW_step {L : List Nat} {k i n y : Nat} (h : i ≤ n) : PW L k i (n + 1) y ↔ PW L k i n y ∨ ∃ z, PF L k n z ∧ y = gn L n * z := by
 constructor
 ·rintro ⟨j, h1, h2, h3⟩
  by_cases e : j = n
  ·subst e; exact .inr h3
  ·exact .inl ⟨j, h1, by omega, h3⟩
 ·rintro (⟨j, h1, h2, h3⟩ | h3)
  ·exact ⟨j, h1, by omega, h3⟩
  ·exact ⟨n, h, by omega, h3⟩
theorem PF_ins {L : List Nat} : ∀ {k i z j : Nat}, PF L k i z → j < L.length → PF L (k + 1) (min i j) (gn L j * z)
 | 0, i, z, j, h, hj => ⟨j, Nat.min_le_right _ _, hj, z, h, rfl⟩
 |k + 1, i, z, j, ⟨j', h1, h2, z', h3, h4⟩, hj => by
  subst h4
  by_cases e : j ≤ j'
  ·exact ⟨j, Nat.min_le_right _ _, hj, _, ⟨j', e, h2, z', h3, rfl⟩, rfl⟩
  ·have := PF_ins h3 hj
   rw [Nat.min_eq_left (by omega)] at this
   exact ⟨j', Nat.le_trans (Nat.min_le_left _ _) h1, h2, _, this, by ac_rfl⟩
theorem PF_prod {L : List Nat} : ∀ {k y : Nat}, PF L k 0 y ↔ prodP (fun n => n ∈ L) k y
 | 0, y => by rw [PF, prodP]
 |k + 1, y => by
  constructor
  ·suffices ∀ k i y, PF L k i y → prodP (fun n => n ∈ L) k y from this (k + 1) 0 y
   intro k
   induction k with
   |zero => intro i y h; exact h
   |succ k ih =>
    rintro i y ⟨j, _, h2, z, h3, rfl⟩
    exact ⟨z, gn L j, ih _ _ h3, gn_mem L h2, Nat.mul_comm _ _⟩
  ·rintro ⟨z, n, h1, h2, rfl⟩
   obtain ⟨j, hj, rfl⟩ := mem_gn h2
   have := PF_ins (PF_prod.2 h1) hj
   rw [Nat.min_eq_left (Nat.zero_le _)] at this
   rw [Nat.mul_comm]
   exact this
theorem PW_acc {L : List Nat} {k f i now x : Nat} (h : f ≤ i) (q : Prop) : ((q ∨ ∃ z, PW L k f i z ∧ x = now * z) ∨ ∃ z, PF L k i z ∧ x = now * gn L i * z) ↔ (q ∨ ∃ z, PW L k f (i + 1) z ∧ x = now * z) := by
 constructor
 ·rintro ((h1 | ⟨z, h1, h2⟩) | ⟨z, h1, h2⟩)
  ·exact .inl h1
  ·exact .inr ⟨z, (PW_step h).2 (.inl h1), h2⟩
  ·exact .inr ⟨gn L i * z, (PW_step h).2 (.inr ⟨z, h1, rfl⟩), by rw [h2, Nat.mul_assoc]⟩
 ·rintro (h1 | ⟨z, h1, h2⟩)
  ·exact .inl (.inl h1)
  ·rcases (PW_step h).1 h1 with h3 | ⟨z', h3, e⟩
   ·exact .inl (.inr ⟨z, h3, h2⟩)
   ·exact .inr ⟨z', h3, by rw [h2, e, Nat.mul_assoc]⟩
theorem PW_acc0 {L : List Nat} {f i now x : Nat} (h : f ≤ i) (q : Prop) : ((q ∨ ∃ z, PW L 0 f i z ∧ x = now * z) ∨ x = now * gn L i) ↔ (q ∨ ∃ z, PW L 0 f (i + 1) z ∧ x = now * z) := by
 rw [← PW_acc h]
 have e : (∃ z, PF L 0 i z ∧ x = now * gn L i * z) ↔ x = now * gn L i := by
  constructor
  ·rintro ⟨z, h1, h2⟩
   rw [PF] at h1
   subst h1
   rw [h2, Nat.mul_one]
  ·intro h
   exact ⟨1, rfl, by rw [h, Nat.mul_one]⟩
 rw [e]
theorem marks_iff {L : List Nat} {k x : Nat} : (False ∨ ∃ z, PW L k 0 L.length z ∧ x = 1 * z) ↔ prodP (fun n => n ∈ L) (k + 1) x := by
 rw [← PF_prod, PF_PW]
 constructor
 ·rintro (h | ⟨z, h, e⟩)
  ·exact h.elim
  ·rw [e, Nat.one_mul]; exact h
 ·intro h
  exact .inr ⟨x, h, (Nat.one_mul x).symm⟩
theorem prod_ex {L : List Nat} {n : Nat} (h : n ∈ L) : ∀ k, prodP (fun n => n ∈ L) k (n ^ k)
 | 0 => rfl
 |k + 1 => ⟨n ^ k, n, prod_ex h k, h, Nat.pow_succ n k⟩
theorem lst_ne {L : List Nat} (hne : L ≠ []) (h60 : ∀ n, n ∈ L → n ≤ 60) {k m : Nat} (hm : 60 ^ k < m) : lstP (prodP (fun n => n ∈ L) k) m ≠ [] := fun e => by
 cases L with
 |nil => exact hne rfl
 |cons n r =>
  have h1 : n ∈ n :: r := List.mem_cons_self ..
  have h2 := (lstP_mem _ (n ^ k) m).2 ⟨Nat.lt_of_le_of_lt (Nat.pow_le_pow_left (h60 n h1) k) hm, prod_ex h1 k⟩
  rw [e] at h2
  cases h2
end Go.Abs.Seat

/-! The program's products of teeth. -/
namespace Go.Abs.Seat
noncomputable section
open Go Go.Abs Go.Proofs.Tryz
set_option maxRecDepth 100000
set_option maxHeartbeats 40000000
attribute [local irreducible] IntKind.wrap pEq

theorem fcH0_mk {v : AV} {K : AV → Prop} (h : K v) : fcH0 v K := by cases v <;> exact h
theorem OWk.eq {x y : AObj} (e : x = y) : OWk x y := e ▸ .same x
theorem tset_id {α : Type} {x : α} : ∀ (p : Pa) (t : Tr α), Tr.getP p t = some x → tset p t x = t
 | .e, .nil, h => by cases h
 | .e, .node _ _ _, h => by cases h; rfl
 | .l _, .nil, h => by rw [getP_nil] at h; cases h
 | .r _, .nil, h => by rw [getP_nil] at h; cases h
 | .l p, .node v l r, h => by show Tr.node v (tset p l x) r = _; rw [tset_id p l h]
 | .r p, .node v l r, h => by show Tr.node v l (tset p r x) = _; rw [tset_id p r h]
theorem loop_set {S : Sub} {c : Code} {f : AS → KE → Prop} {tm : Tr AV} {df : List ADf} {pm : APm} {rd : Bool} {h : Tr AObj} {n b : Nat} {W : List Nat} {K : KE} (i : Nat) {y x : AV} (hy : tm.get i = some y) (e : y = x) (hk : S.loop c f ⟨tset (pathOf i) tm x, df, pm, rd, h, n, b, W⟩ K) : S.loop c f ⟨tm, df, pm, rd, h, n, b, W⟩ K := by
 subst e
 rwa [show tset (pathOf i) tm y = tm from tset_id _ _ hy] at hk
def mkB (q : Nat → Prop) (m : Nat) : List AV := (List.range m).map fun j => .bool (bq (q j))
theorem mkB_len (q : Nat → Prop) (m : Nat) : (mkB q m).length = m := by simp [mkB]
theorem mkB_no (q : Nat → Prop) (m : Nat) : Lives noL (mkB q m) := by
 unfold mkB
 generalize List.range m = l
 induction l with
 |nil => trivial
 |cons x r ih => exact ⟨trivial, ih⟩
theorem mkB_get (q : Nat → Prop) {m j : Nat} (h : j < m) : (mkB q m)[j]? = some (.bool (bq (q j))) := by simp [mkB, h]
def prS (tp : Nat → Prop) : Nat → List AV
 | 0 => [sv (zl (lstP (prodP tp 0) 2))]
 |k + 1 => prS tp k ++ [sv (zl (lstP (prodP tp (k + 1)) (60 ^ (k + 1) + 1)))]
def prM (tp : Nat → Prop) : Nat → List AV
 | 0 => [.lst (mkB (prodP tp 0) 2) 2 .no]
 |k + 1 => prM tp k ++ [.lst (mkB (prodP tp (k + 1)) (60 ^ (k + 1) + 1)) (60 ^ (k + 1) + 1) .no]
theorem lives_app {L : Nat → Prop} : ∀ {xs ys : List AV}, Lives L xs → Lives L ys → Lives L (xs ++ ys)
 | [], _, _, h => h
 | _ :: _, _, h, k => ⟨h.1, lives_app h.2 k⟩
theorem prS_no (tp : Nat → Prop) : ∀ k, Lives noL (prS tp k)
 | 0 => ⟨sv_no _, trivial⟩
 |k + 1 => lives_app (prS_no tp k) ⟨sv_no _, trivial⟩
theorem prM_no (tp : Nat → Prop) : ∀ k, Lives noL (prM tp k)
 | 0 => ⟨⟨mkB_no _ _, fun _ e => nomatch e⟩, trivial⟩
 |k + 1 => lives_app (prM_no tp k) ⟨⟨mkB_no _ _, fun _ e => nomatch e⟩, trivial⟩
def prV (a b : Int) (p : Nat) (s : Int) (N T : AV) (tp : Nat → Prop) : AV := whv a b (Int.ofNat p) s N T (prS tp p) (prM tp p)
theorem prV_no {a b s : Int} {p : Nat} {N T : AV} (hN : Live noL N) (hT : Live noL T) (tp : Nat → Prop) : Live noL (prV a b p s N T tp) :=
 show Live noL (whv _ _ _ _ _ _ _ _) from ⟨trivial, trivial, trivial, trivial, hN, hT, ⟨prS_no tp p, fun _ e => nomatch e⟩, ⟨prM_no tp p, fun _ e => nomatch e⟩, trivial⟩

theorem fz_S {o : Nat → AObj} {R : List Nat} {c : Nat} (h : R ≠ []) : FzV o (.lst (ivs (zl R)) R.length (.ch c)) (sv (zl R)) := by
 have e : sv (zl R) = nl (zl R) := by
  rcases sv_cases (zl R) with ⟨k, _⟩ | k
  ·exact absurd (List.map_eq_nil_iff.1 k) h
  ·exact k
 rw [e]
 exact FzV.ofWk (wkv_zl R c).wk (FzV.no (nl_no _))
theorem fz_S0 {o : Nat → AObj} {tp : Nat → Prop} {c : Nat} : FzV o (.lst [nv 1] 1 (.ch c)) (sv (zl (lstP (prodP tp 0) 2))) := by
 rw [prod_zero, lstP_one 0]
 exact fz_S (R := [1]) (by decide)
theorem fz_M {o : Nat → AObj} {q : Nat → Prop} {i m ty : Nat} {t : Tr AV} (ho : o i = .cells t m ty) (hm : Mk t m q) : FzV o (.slc i 0 m m) (.lst (mkB q m) m .no) :=
 FzV.slc ho (mkB_len q m) (fun j hj => by rw [mkB_get q hj]; exact hm.at hj) (mkB_no q m)
theorem mk_zero {tp : Nat → Prop} : Mk (.node (.bool false) (.node (.bool true) .nil .nil) .nil) 2 (prodP tp 0) := by
 rw [prod_zero]
 intro j
 match j with
 | 0 => rw [if_pos (by decide), bq_f (by decide)]; rfl
 | 1 => rw [if_pos (by decide), bq_t (by decide)]; rfl
 |j + 2 =>
  rw [if_neg (by omega)]
  unfold Tr.get
  by_cases hp : (j + 1) % 2 = 0
  ·rw [Tr.pathOf_odd hp]
   have h2 : (j + 1) / 2 = (j + 1) / 2 - 1 + 1 := by omega
   rw [h2]
   by_cases hq : ((j + 1) / 2 - 1) % 2 = 0
   ·rw [Tr.pathOf_odd hq]; exact getP_nil _
   ·rw [Tr.pathOf_even hq]; exact getP_nil _
  ·rw [Tr.pathOf_even hp]; exact getP_nil _
theorem fin1 {o : Nat → AObj} {tp : Nat → Prop} {a b s : Int} {p : Nat} {N T : AV} (lN : Live noL N) (lT : Live noL T) (hp : p = 1) {i0 c0 y0 c d : Nat} (h0 : o i0 = .cells (.node (.bool false) (.node (.bool true) .nil .nil) .nil) 2 y0) {i1 m1 c1 y1 : Nat} {t1 : Tr AV} (hn1 : lstP (prodP tp 1) 61 ≠ []) (ho1 : o i1 = .cells t1 m1 y1) (hm1 : Mk t1 m1 (prodP tp 1)) (em1 : m1 = 61) :
  FzV o (.agg [iv a, iv b, nv p, iv s, N, T, .lst [.lst [nv 1] 1 (.ch c0), .lst (ivs (zl (lstP (prodP tp 1) 61))) (lstP (prodP tp 1) 61).length (.ch c1)] 2 (.ch c), .lst [.slc i0 0 2 2, .slc i1 0 m1 m1] 2 (.ch d)]) (prV a b p s N T tp) := by
 subst hp em1
 refine FzV.agg ⟨.no trivial, .no trivial, .no trivial, .no trivial, .no lN, .no lT, FzV.lst (ys := prS tp 1) ?_ 2 _, FzV.lst (ys := prM tp 1) ?_ 2 _, trivial⟩
 ·exact ⟨fz_S0, fz_S hn1, trivial⟩
 ·exact ⟨fz_M h0 mk_zero, fz_M ho1 hm1, trivial⟩
theorem fin2 {o : Nat → AObj} {tp : Nat → Prop} {a b s : Int} {p : Nat} {N T : AV} (lN : Live noL N) (lT : Live noL T) (hp : p = 2) {i0 c0 y0 c d : Nat} (h0 : o i0 = .cells (.node (.bool false) (.node (.bool true) .nil .nil) .nil) 2 y0) {i1 m1 c1 y1 : Nat} {t1 : Tr AV} (hn1 : lstP (prodP tp 1) 61 ≠ []) (ho1 : o i1 = .cells t1 m1 y1) (hm1 : Mk t1 m1 (prodP tp 1)) (em1 : m1 = 61) {i2 m2 c2 y2 : Nat} {t2 : Tr AV} (hn2 : lstP (prodP tp 2) 3601 ≠ []) (ho2 : o i2 = .cells t2 m2 y2) (hm2 : Mk t2 m2 (prodP tp 2)) (em2 : m2 = 3601) :
  FzV o (.agg [iv a, iv b, nv p, iv s, N, T, .lst [.lst [nv 1] 1 (.ch c0), .lst (ivs (zl (lstP (prodP tp 1) 61))) (lstP (prodP tp 1) 61).length (.ch c1), .lst (ivs (zl (lstP (prodP tp 2) 3601))) (lstP (prodP tp 2) 3601).length (.ch c2)] 3 (.ch c), .lst [.slc i0 0 2 2, .slc i1 0 m1 m1, .slc i2 0 m2 m2] 3 (.ch d)]) (prV a b p s N T tp) := by
 subst hp em1 em2
 refine FzV.agg ⟨.no trivial, .no trivial, .no trivial, .no trivial, .no lN, .no lT, FzV.lst (ys := prS tp 2) ?_ 3 _, FzV.lst (ys := prM tp 2) ?_ 3 _, trivial⟩
 ·exact ⟨fz_S0, fz_S hn1, fz_S hn2, trivial⟩
 ·exact ⟨fz_M h0 mk_zero, fz_M ho1 hm1, fz_M ho2 hm2, trivial⟩
theorem fin3 {o : Nat → AObj} {tp : Nat → Prop} {a b s : Int} {p : Nat} {N T : AV} (lN : Live noL N) (lT : Live noL T) (hp : p = 3) {i0 c0 y0 c d : Nat} (h0 : o i0 = .cells (.node (.bool false) (.node (.bool true) .nil .nil) .nil) 2 y0) {i1 m1 c1 y1 : Nat} {t1 : Tr AV} (hn1 : lstP (prodP tp 1) 61 ≠ []) (ho1 : o i1 = .cells t1 m1 y1) (hm1 : Mk t1 m1 (prodP tp 1)) (em1 : m1 = 61) {i2 m2 c2 y2 : Nat} {t2 : Tr AV} (hn2 : lstP (prodP tp 2) 3601 ≠ []) (ho2 : o i2 = .cells t2 m2 y2) (hm2 : Mk t2 m2 (prodP tp 2)) (em2 : m2 = 3601) {i3 m3 c3 y3 : Nat} {t3 : Tr AV} (hn3 : lstP (prodP tp 3) 216001 ≠ []) (ho3 : o i3 = .cells t3 m3 y3) (hm3 : Mk t3 m3 (prodP tp 3)) (em3 : m3 = 216001) :
  FzV o (.agg [iv a, iv b, nv p, iv s, N, T, .lst [.lst [nv 1] 1 (.ch c0), .lst (ivs (zl (lstP (prodP tp 1) 61))) (lstP (prodP tp 1) 61).length (.ch c1), .lst (ivs (zl (lstP (prodP tp 2) 3601))) (lstP (prodP tp 2) 3601).length (.ch c2), .lst (ivs (zl (lstP (prodP tp 3) 216001))) (lstP (prodP tp 3) 216001).length (.ch c3)] 4 (.ch c), .lst [.slc i0 0 2 2, .slc i1 0 m1 m1, .slc i2 0 m2 m2, .slc i3 0 m3 m3] 4 (.ch d)]) (prV a b p s N T tp) := by
 subst hp em1 em2 em3
 refine FzV.agg ⟨.no trivial, .no trivial, .no trivial, .no trivial, .no lN, .no lT, FzV.lst (ys := prS tp 3) ?_ 4 _, FzV.lst (ys := prM tp 3) ?_ 4 _, trivial⟩
 ·exact ⟨fz_S0, fz_S hn1, fz_S hn2, fz_S hn3, trivial⟩
 ·exact ⟨fz_M h0 mk_zero, fz_M ho1 hm1, fz_M ho2 hm2, fz_M ho3 hm3, trivial⟩

end
end Go.Abs.Seat
