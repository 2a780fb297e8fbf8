/-
  Runs over values that are not closed: the semantics itself as runner; loops by a relation; pure functions.
-/
import Derived.Test.YtgojpjbbahljeaaGreatDoorA28
/-! Runs over values that are not closed: the semantics itself as runner; loops by a relation; pure functions. -/
namespace Go.Abs
open Go
noncomputable section

/-! ### What is known of a state is made less -/

theorem HRel.cutAt {g : Gh} {B : Nat} {w : World} {H : AH} (h : HRel g B w H) {m : Nat} (hb : ∀ i, i < m → OBd m (H.o i)) : HRel g B w ⟨m, m, fun i => if i < m then H.o i else .hole⟩ := by
  constructor
  · intro i hi
    show (if i < m then H.o i else .hole) = _
    rw [if_neg (by simp only at hi; omega)]
  · intro i hi
    simp only at hi ⊢
    by_cases e : i < m
    · simp only [if_pos e] at *; exact h.ge i hi
    · simp [e] at hi
  · intro i j hi hj
    simp only at hi hj ⊢
    by_cases e : i < m
    · by_cases e2 : j < m
      · simp only [if_pos e, if_pos e2] at *; exact h.inj i j hi hj
      · simp [e2] at hj
    · simp [e] at hi
  · intro i
    simp only
    by_cases e : i < m
    · simp only [if_pos e]; exact h.rel i
    · simp only [if_neg e]; trivial
  · intro i
    simp only
    by_cases e : i < m
    · simp only [if_pos e]
      refine OLive.mono (fun j hj => ?_) (OLive.below (h.live i) (hb i e))
      show (if j < m then H.o j else .hole) ≠ .hole
      rw [if_pos hj.2]; exact hj.1
    · simp only [if_neg e]; trivial
  · intro i
    simp only
    by_cases e : i < m
    · simp only [if_pos e]; exact (hb i e).mono (by omega)
    · simp only [if_neg e]; trivial
  · exact h.imz
  · exact h.hB

theorem Out.congr {g g' : Gh} {B : Nat} {w w' : World} {H H1 H' : AH} (ho : H1.o = H.o) (h : Out g B w H1 g' w' H') : Out g B w H g' w' H' := by
  have hL : H1.L = H.L := by funext i; unfold AH.L; rw [ho]
  have hO : ∀ k, Owned g H k ↔ Owned g H1 k := fun k => by unfold Owned; rw [ho]
  exact ⟨h.rel, hL ▸ h.ext, h.below, fun i hi => h.L i (hL ▸ hi), fun k hk hn => h.frame k hk fun e => hn ((hO k).2 e), fun k hk => (h.own k hk).imp (hO k).2 id⟩

theorem Out.cutAt {g g' : Gh} {B : Nat} {w w' : World} {H H' : AH} (h : Out g B w H g' w' H') {m : Nat} (hb : ∀ i, i < m → OBd m (H'.o i)) (hm : ∀ i, H.L i → i < m) :
    Out g B w H g' w' ⟨m, m, fun i => if i < m then H'.o i else .hole⟩ := by
  refine ⟨h.rel.cutAt hb, h.ext, h.below, fun i hi => ?_, h.frame, fun k hk => ?_⟩
  · show (if i < m then H'.o i else .hole) ≠ .hole
    rw [if_pos (hm i hi)]; exact h.L i hi
  · obtain ⟨i, hi, e⟩ := hk
    simp only at hi e
    by_cases hlt : i < m
    · simp only [if_pos hlt] at hi e
      exact h.own k ⟨i, hi, e⟩
    · simp [hlt] at hi

theorem FrRel.cutAt {g : Gh} {B : Nat} {w : World} {σ τ : St} {fr : Frame} {cs : List Frame} (h : FrRel g B w σ fr cs) {m : Nat} (hH : τ.H = ⟨m, m, fun i => if i < m then σ.H.o i else .hole⟩)
    (hb : ∀ i, i < m → OBd m (σ.H.o i)) (htm : ∀ i a, τ.tm.get i = some a → (a = .unk ∧ ∃ y, σ.tm.get i = some y) ∨ (σ.tm.get i = some a ∧ bd a ≤ m))
    (hdf : σ.df = []) (hdf' : τ.df = []) (hpm' : τ.pm = .no) (hrd : τ.rd = σ.rd) : FrRel g B w τ fr cs := by
  refine ⟨hH ▸ h.h.cutAt hb, ⟨fun t a ht => ?_, fun t a ht => ?_⟩, ?_, ?_, fun hr => h.rd (hrd ▸ hr)⟩
  · rcases htm t a ht with ⟨e, y, hy⟩ | ⟨e, _⟩
    · subst e; exact ⟨(h.tm.rel t y hy).1, trivial⟩
    · exact h.tm.rel t a e
  · rcases htm t a ht with ⟨e, y, hy⟩ | ⟨e, hbd⟩
    · subst e; trivial
    · rw [hH]
      refine Live.mono (fun i hi => ?_) a (Live.below a (h.tm.live t a e) hbd)
      show (if i < m then σ.H.o i else .hole) ≠ .hole
      rw [if_pos hi.2]; exact hi.1
  · have := h.df
    rw [hdf] at this
    rw [hdf']
    exact this
  · rw [hpm']; trivial

theorem SemT.pre {P : Program} {B : Nat} {its : List Item} {σ τ σ' : St} {e : AEx} (hw : ∀ g fr cs w, FrRel g B w σ fr cs → FrRel g B w τ fr cs) (ho : τ.H.o = σ.H.o) (hpm : τ.pm = σ.pm) (h : SemT P B its τ e σ') : SemT P B its σ e σ' := by
  intro g fr cs w k hr hmo ht hro k' hk
  obtain ⟨g', fr', cs', w', h1, h2, h3, h4, h5, h6, h7⟩ := h g fr cs w k (hw g fr cs w hr) hmo ht hro k' hk
  exact ⟨g', fr', cs', w', h1, h2.congr ho, h3, hpm ▸ h4, hpm ▸ h5, h6, h7⟩

theorem SemT.post {P : Program} {B : Nat} {its : List Item} {σ σ1 τ : St} (h : SemT P B its σ .normal σ1) {m : Nat} (hH : τ.H = ⟨m, m, fun i => if i < m then σ1.H.o i else .hole⟩)
    (hb : ∀ i, i < m → OBd m (σ1.H.o i)) (htm : ∀ i a, τ.tm.get i = some a → (a = .unk ∧ ∃ y, σ1.tm.get i = some y) ∨ (σ1.tm.get i = some a ∧ bd a ≤ m))
    (hdf : σ1.df = []) (hdf' : τ.df = []) (hpm' : τ.pm = .no) (hrd : τ.rd = σ1.rd) (hm : ∀ i, σ.H.L i → i < m) : SemT P B its σ .normal τ := by
  intro g fr cs w k hr hmo ht hro k' hk
  obtain ⟨g', fr', cs', w', h1, h2, h3, h4, h5, h6, h7⟩ := h g fr cs w k hr hmo ht hro k' hk
  exact ⟨g', fr', cs', w', h1.cutAt hH hb htm hdf hdf' hpm' hrd, hH ▸ h2.cutAt hb hm, h3, h4, (fun _ l e => by rw [hpm'] at e; cases e), h6, h7⟩

/-! ### Ways -/

theorem bool_true {b : Bool} {F T : Prop} (hb : b = true) (h : T) : @Bool.rec (fun _ => Prop) F T b := by subst hb; exact h
theorem bool_false {b : Bool} {F T : Prop} (hb : b = false) (h : F) : @Bool.rec (fun _ => Prop) F T b := by subst hb; exact h
theorem bool_if {b : Bool} {F T : Prop} {p : Prop} (hb : b = true ↔ p) (h1 : p → T) (h2 : ¬ p → F) : @Bool.rec (fun _ => Prop) F T b := by
  cases b with
  | true => exact h1 (hb.1 rfl)
  | false => exact h2 fun h => by cases hb.2 h

theorem ko_true {b' : Bool} {E : Env} {S : Sub} {o : Oper} {K : KE} {tm : Tr AV} {df : List ADf} {pm : APm} {rd : Bool} {h : Tr AObj} {n b : Nat} {wr : List Nat} (hb : b' = true) (hk : opRun E S o K tm df pm rd h n b wr) :
    @Bool.rec (fun _ => KO) opSkip opRun b' E S o K tm df pm rd h n b wr := by subst hb; exact hk
theorem ko_false {b' : Bool} {E : Env} {S : Sub} {o : Oper} {K : KE} {tm : Tr AV} {df : List ADf} {pm : APm} {rd : Bool} {h : Tr AObj} {n b : Nat} {wr : List Nat} (hb : b' = false) (hk : opSkip E S o K tm df pm rd h n b wr) :
    @Bool.rec (fun _ => KO) opSkip opRun b' E S o K tm df pm rd h n b wr := by subst hb; exact hk

/-! ### Numbers -/

theorem wrapI {n : Int} (h1 : -9223372036854775808 ≤ n) (h2 : n < 9223372036854775808) : IntKind.i64.wrap n = n := by
  unfold IntKind.wrap
  have e1 : (2 : Int) ^ IntKind.i64.bits = 18446744073709551616 := rfl
  have e2 : (2 : Int) ^ (IntKind.i64.bits - 1) = 9223372036854775808 := rfl
  simp only [e1, e2]
  by_cases h : n % 18446744073709551616 ≥ 9223372036854775808
  · rw [if_pos (by simp only [Bool.and_eq_true, decide_eq_true_eq]; exact ⟨rfl, h⟩)]; omega
  · rw [if_neg (by simp only [Bool.and_eq_true, decide_eq_true_eq]; exact fun e => h e.2)]; omega

theorem wrapN {m : Nat} (h : m < 9223372036854775808) : IntKind.i64.wrap (Int.ofNat m) = Int.ofNat m := wrapI (by show _ ≤ (m : Int); omega) (by show (m : Int) < _; omega)

/-! ### The runner -/

def symSub (P : Program) : Sub where
  code := fun c s K => HEnd s.h s.n → ∃ e s', K e s' ∧ Aft s s' ∧ SemR P [.code c] s e s'
  fn := fun f κ args pm h n K => HEnd h n → ∃ e pm' h' n' cw, K e pm' h' n' cw ∧ HEnd h' n' ∧ (∀ x, x < n → x ∉ cw → hv h' x = hv h x) ∧ ∀ (B : Nat) (H : AH), H.o = hv h → ∃ H' : AH, H'.o = hv h' ∧ FSem P B f κ args pm H e pm' H'
  call := fun f args h n K => HEnd h n → ∃ e h' n' cw, K e h' n' cw ∧ HEnd h' n' ∧ (∀ x, x < n → x ∉ cw → hv h' x = hv h x) ∧ ∀ (B : Nat) (H : AH), H.o = hv h → ∃ H' : AH, H'.o = hv h' ∧ CSem P B f args H e H'
  loop := fun c _ s K => HEnd s.h s.n → ∃ e s', K e s' ∧ Aft s s' ∧ ∀ (B : Nat) (H : AH), H.o = hv s.h → ∃ H' : AH, H'.o = hv s'.h ∧ SemL P B c (s.st H) e (s'.st H')
  drawn := fun ops n rs Q => drawnOk ops n rs = true ∧ Q

theorem symSub_ok (P : Program) : (symSub P).Ok P where
  code := fun _ _ _ h he => h he
  fn := fun _ _ _ _ _ _ _ h he => h he
  call := fun _ _ _ _ _ h he => h he
  loop := fun _ _ _ _ _ h he => h he
  drawn := fun _ _ _ _ h => h

/-- A drawn region is checked. -/
theorem sym_drawn {P : Program} {S : Sub} (hS : S = symSub P) {ops : Array Oper} {n : Nat} {rs : List Rec} {Q : Prop} (h : drawnOk ops n rs = true) (hq : Q) : S.drawn ops n rs Q := by
  subst hS
  exact ⟨h, hq⟩

/-- A call of a function that is known to be pure. -/
theorem sym_pure {P : Program} {S : Sub} (hS : S = symSub P) {f : FuncId} {args : List AV} {v : AV} {h : Tr AObj} {n : Nat} {K : AEnd → Tr AObj → Nat → List Nat → Prop} (hp : Pure P f args v) (hk : K (.ret v) h n []) : S.call f args h n K := by
  subst hS
  exact fun he => ⟨.ret v, h, n, [], hk, he, fun _ _ _ => rfl, fun B H hH => ⟨H, hH, hp.2 B H⟩⟩

theorem sym_pureW {P : Program} {S : Sub} (hS : S = symSub P) {f : FuncId} {args : List AV} {v : AV} {h : Tr AObj} {n : Nat} {K : AEnd → Tr AObj → Nat → List Nat → Prop} (hp : Pure P f (wkl args) v) (hk : K (.ret v) h n []) : S.call f args h n K := sym_pure hS hp.ofWk hk

abbrev EqT := TypeId → Bool → AV → AV → Option Bool

/-- Two values are held against each other. -/
theorem sym_eq {X : FuncId → Option ExtK} {q q' : EqT} (hq : q = q') {neg cst : Bool} {t : TypeId} {x y : AV} {yy : Bool} {s : Nat} {h : Tr AObj} {n : Nat} {K : KP} (b : Bool) (he : q' t cst x y = some b)
    (hk : K (.val (.bool (@Bool.rec (fun _ => Bool) b (!b) neg))) [] [] h n) : runP (pEq ⟨X, q⟩ neg t cst x y) yy s h n K := by
  subst hq
  unfold pEq
  simp only [he]
  cases neg <;> exact hk

/-! ### Loops -/

def tset {α : Type} (p : Pa) : Tr α → α → Tr α :=
  @Pa.rec (fun _ => Tr α → α → Tr α)
    (fun t x => @Tr.rec α (fun _ => Tr α) .nil (fun _ l r _ _ => .node x l r) t)
    (fun _ ih t x => @Tr.rec α (fun _ => Tr α) .nil (fun v l r _ _ => .node v (ih l x) r) t)
    (fun _ ih t x => @Tr.rec α (fun _ => Tr α) .nil (fun v l r _ _ => .node v l (ih r x)) t) p

theorem tset_same {α : Type} {x : α} : ∀ (p : Pa) (t : Tr α), Tr.getP p (tset p t x) = (Tr.getP p t).map fun _ => x
  | .e, .nil => rfl
  | .e, .node _ _ _ => rfl
  | .l _, .nil => rfl
  | .l p, .node _ l _ => tset_same p l
  | .r _, .nil => rfl
  | .r p, .node _ _ r => tset_same p r

theorem getP_nil {α : Type} : ∀ (p : Pa), Tr.getP p (.nil : Tr α) = none
  | .e => rfl
  | .l _ => rfl
  | .r _ => rfl

theorem tset_ne {α : Type} {x : α} : ∀ (p q : Pa) (t : Tr α), p ≠ q → Tr.getP q (tset p t x) = Tr.getP q t
  | .e, .e, _, h => absurd rfl h
  | .e, .l _, .nil, _ => rfl
  | .e, .r _, .nil, _ => rfl
  | .e, .l _, .node _ _ _, _ => rfl
  | .e, .r _, .node _ _ _, _ => rfl
  | .l _, q, .nil, _ => by rw [getP_nil]; exact getP_nil q
  | .r _, q, .nil, _ => by rw [getP_nil]; exact getP_nil q
  | .l _, .e, .node _ _ _, _ => rfl
  | .l p, .l q, .node _ l _, h => tset_ne p q l fun e => h (by rw [e])
  | .l _, .r _, .node _ _ _, _ => rfl
  | .r _, .e, .node _ _ _, _ => rfl
  | .r _, .l _, .node _ _ _, _ => rfl
  | .r p, .r q, .node _ _ r, h => tset_ne p q r fun e => h (by rw [e])

theorem pathOf_inj : ∀ (i j : Nat), pathOf i = pathOf j → i = j
  | 0, 0, _ => rfl
  | 0, j + 1, h => by
    by_cases hp : j % 2 = 0
    · rw [Tr.pathOf_odd hp] at h; cases h
    · rw [Tr.pathOf_even hp] at h; cases h
  | i + 1, 0, h => by
    by_cases hp : i % 2 = 0
    · rw [Tr.pathOf_odd hp] at h; cases h
    · rw [Tr.pathOf_even hp] at h; cases h
  | i + 1, j + 1, h => by
    by_cases hp : i % 2 = 0
    · by_cases hq : j % 2 = 0
      · rw [Tr.pathOf_odd hp, Tr.pathOf_odd hq] at h
        have := pathOf_inj (i / 2) (j / 2) (by injection h)
        omega
      · rw [Tr.pathOf_odd hp, Tr.pathOf_even hq] at h; cases h
    · by_cases hq : j % 2 = 0
      · rw [Tr.pathOf_even hp, Tr.pathOf_odd hq] at h; cases h
      · rw [Tr.pathOf_even hp, Tr.pathOf_even hq] at h
        have := pathOf_inj (i / 2) (j / 2) (by injection h)
        omega

theorem tset_get {α : Type} (t : Tr α) (i j : Nat) (x : α) : (tset (pathOf i) t x).get j = if j = i then (t.get j).map fun _ => x else t.get j := by
  unfold Tr.get
  by_cases e : j = i
  · subst e; rw [if_pos rfl]; exact tset_same _ _
  · rw [if_neg e]; exact tset_ne _ _ _ fun h => e (pathOf_inj _ _ h).symm

def tput {α : Type} (l : List (Nat × α)) (t : Tr α) : Tr α :=
  @List.rec (Nat × α) (fun _ => Tr α → Tr α) (fun t => t) (fun p _ ih t => @Prod.rec Nat α (fun _ => Tr α) (fun i x => ih (tset (pathOf i) t x)) p) l t

def keysOf {α : Type} (l : List (Nat × α)) : List Nat := l.map (·.1)

theorem tput_get {α : Type} : ∀ (l : List (Nat × α)) (t : Tr α) (j : Nat) (a : α), (tput l t).get j = some a → (∃ y, t.get j = some y) ∧ ((j, a) ∈ l ∨ (j ∉ keysOf l ∧ t.get j = some a))
  | [], t, j, a, h => ⟨⟨a, h⟩, .inr ⟨by simp [keysOf], h⟩⟩
  | (i, x) :: l, t, j, a, h => by
    obtain ⟨⟨y, h1⟩, h2⟩ := tput_get l (tset (pathOf i) t x) j a h
    rw [tset_get] at h1 h2
    by_cases e : j = i
    · subst e
      rw [if_pos rfl] at h1 h2
      cases ht : t.get j with
      | none => rw [ht] at h1; cases h1
      | some z =>
        refine ⟨⟨z, rfl⟩, ?_⟩
        rcases h2 with h2 | ⟨h2, h3⟩
        · exact .inl (List.mem_cons_of_mem _ h2)
        · rw [ht] at h3
          simp only [Option.map_some, Option.some.injEq] at h3
          subst h3
          exact .inl (List.mem_cons_self ..)
    · rw [if_neg e] at h1 h2
      refine ⟨⟨y, h1⟩, ?_⟩
      rcases h2 with h2 | ⟨h2, h3⟩
      · exact .inl (List.mem_cons_of_mem _ h2)
      · exact .inr ⟨by simp only [keysOf, List.map_cons, List.mem_cons, not_or]; exact ⟨e, h2⟩, h3⟩

theorem tput_dom {α : Type} : ∀ (l : List (Nat × α)) (t : Tr α) (j : Nat), (tput l t).get j = none ↔ t.get j = none
  | [], _, _ => Iff.rfl
  | (i, x) :: l, t, j => by
    have := tput_dom l (tset (pathOf i) t x) j
    rw [tset_get] at this
    by_cases e : j = i
    · rw [if_pos e] at this
      rw [show (tput ((i, x) :: l) t).get j = (tput l (tset (pathOf i) t x)).get j from rfl, this]
      cases t.get j <;> simp
    · rw [if_neg e] at this
      exact this

/-- All temporaries forgotten. -/
def unkT (t : Tr AV) : Tr AV := @Tr.rec AV (fun _ => Tr AV) .nil (fun _ _ _ l r => .node .unk l r) t

theorem unkP : ∀ (p : Pa) (t : Tr AV), Tr.getP p (unkT t) = (Tr.getP p t).map fun _ => .unk
  | .e, .nil => rfl
  | .e, .node _ _ _ => rfl
  | .l _, .nil => rfl
  | .l p, .node _ l _ => unkP p l
  | .r _, .nil => rfl
  | .r p, .node _ _ r => unkP p r

theorem unkT_get (t : Tr AV) (j : Nat) : (unkT t).get j = (t.get j).map fun _ => .unk := unkP _ _

/-- The temporaries are told so in a state, and refer to objects below n alone. -/
def TmIs (n : Nat) (tm : Tr AV) (l : List (Nat × AV)) : Prop :=
  @List.rec (Nat × AV) (fun _ => Prop) True (fun p _ ih => @Prod.rec Nat AV (fun _ => Prop) (fun i x => (tm.get i = some x ∧ bd x ≤ n) ∧ ih) p) l

theorem TmIs.mem {n : Nat} {tm : Tr AV} : ∀ {l : List (Nat × AV)}, TmIs n tm l → ∀ j a, (j, a) ∈ l → tm.get j = some a ∧ bd a ≤ n
  | (i, x) :: l, h, j, a, hm => by
    rcases List.mem_cons.1 hm with e | hm
    · cases e; exact h.1
    · exact TmIs.mem h.2 j a hm

/-- What a tree holds refers to objects below n alone. -/
def BdT (n : Nat) (t : Tr AV) : Prop := @Tr.rec AV (fun _ => Prop) True (fun v _ _ l r => bd v ≤ n ∧ l ∧ r) t

theorem BdT.get {n : Nat} : ∀ (p : Pa) (t : Tr AV), BdT n t → ∀ a, Tr.getP p t = some a → bd a ≤ n
  | .e, .nil, _, a, h => by cases h
  | .e, .node v _ _, hb, a, h => by cases h; exact hb.1
  | .l _, .nil, _, a, h => by cases h
  | .l p, .node _ l _, hb, a, h => BdT.get p l hb.2.1 a h
  | .r _, .nil, _, a, h => by cases h
  | .r p, .node _ _ r, hb, a, h => BdT.get p r hb.2.2 a h

def BdE (n : Nat) (es : List (AV × AV)) : Prop := @List.rec (AV × AV) (fun _ => Prop) True (fun p _ ih => @Prod.rec AV AV (fun _ => Prop) (fun a b => bd a ≤ n ∧ bd b ≤ n ∧ ih) p) es

theorem BdE.mem {n : Nat} : ∀ {es : List (AV × AV)}, BdE n es → ∀ p, p ∈ es → bd p.1 ≤ n ∧ bd p.2 ≤ n
  | (a, b) :: es, h, p, hp => by
    rcases List.mem_cons.1 hp with e | hp
    · subst e; exact ⟨h.1, h.2.1⟩
    · exact BdE.mem h.2.2 p hp

def BdO (n : Nat) : AObj → Prop
  | .cells t _ _ => BdT n t
  | .mapo es => BdE n es
  | .loop .. => False
  | _ => True

theorem BdO.ok {n : Nat} {x : AObj} (h : BdO n x) : OBd n x := by
  cases x with
  | cells t m ty => exact fun j a hj => BdT.get (pathOf j) t h a hj
  | mapo es => exact h.mem
  | loop => exact h.elim
  | _ => trivial

/-- The objects below n are told so in a heap, and refer to such alone. -/
def ObIs (n : Nat) (h h' : Tr AObj) (k : Nat) : Prop :=
  @Nat.rec (fun _ => Prop) True (fun i ih => (hv h i = hv h' i ∧ BdO n (hv h' i)) ∧ ih) k

theorem ObIs.lt {n : Nat} {h h' : Tr AObj} : ∀ {k : Nat}, ObIs n h h' k → ∀ i, i < k → hv h i = hv h' i ∧ OBd n (hv h' i)
  | k + 1, hk, i, hi => by
    by_cases e : i = k
    · subst e; exact ⟨hk.1.1, hk.1.2.ok⟩
    · exact ObIs.lt hk.2 i (by omega)

/-- The temporaries that are kept as they are. -/
def kept (tm : Tr AV) (l : List Nat) : List (Nat × AV) := @List.rec Nat (fun _ => List (Nat × AV)) [] (fun i _ ih => (i, aev tm (.tmp i)) :: ih) l

def apL {α : Type} (l m : List α) : List α := @List.rec α (fun _ => List α) m (fun x _ ih => x :: ih) l

/-- The head of a loop: what is kept of the state in which the loop was entered, and what is told anew. -/
def head (tm : Tr AV) (rd : Bool) (h : Tr AObj) (n : Nat) (keep : List Nat) (ut : List (Nat × AV)) (uh : List (Nat × AObj)) : AS :=
  ⟨tput (apL (kept tm keep) ut) (unkT tm), [], .no, rd, tput uh h, n, 0, []⟩

/-- A state is one of a loop's head. -/
structure AtHead (tm : Tr AV) (rd : Bool) (h : Tr AObj) (n : Nat) (keep : List Nat) (ut : List (Nat × AV)) (uh : List (Nat × AObj)) (s' : AS) : Prop where
  df : s'.df = []
  pm : s'.pm = .no
  rd : s'.rd = rd
  dom : unkT s'.tm = unkT tm
  tm : TmIs n s'.tm (apL (kept tm keep) ut)
  ob : ObIs n s'.h (tput uh h) n

theorem tput_end {uh : List (Nat × AObj)} {h : Tr AObj} {n : Nat} (he : HEnd h n) : HEnd (tput uh h) n := fun i hi => (tput_dom uh h i).2 (he i hi)

section
variable {tm : Tr AV} {rd : Bool} {h : Tr AObj} {n : Nat} {s' : AS} {keep : List Nat} {ut : List (Nat × AV)} {uh : List (Nat × AObj)}

theorem AtHead.tms (ha : AtHead tm rd h n keep ut uh s') : ∀ i a, (head tm rd h n keep ut uh).tm.get i = some a →
    (a = .unk ∧ ∃ y, s'.tm.get i = some y) ∨ (s'.tm.get i = some a ∧ bd a ≤ n) := by
  intro i a hi
  obtain ⟨⟨y, h1⟩, h2⟩ := tput_get _ _ _ _ hi
  rcases h2 with h2 | ⟨_, h3⟩
  · exact .inr (ha.tm.mem i a h2)
  · rw [unkT_get] at h3
    have hd : (s'.tm.get i).map (fun _ => AV.unk) = (tm.get i).map fun _ => AV.unk := by rw [← unkT_get, ← unkT_get, ha.dom]
    cases hs : tm.get i with
    | none => rw [hs] at h3; cases h3
    | some z =>
      rw [hs] at h3 hd
      simp only [Option.map_some, Option.some.injEq] at h3
      subst h3
      cases hs' : s'.tm.get i with
      | none => rw [hs'] at hd; cases hd
      | some z' => exact .inl ⟨rfl, z', rfl⟩

theorem AtHead.obj (ha : AtHead tm rd h n keep ut uh s') (he : HEnd h n) : hv (head tm rd h n keep ut uh).h = fun i => if i < n then hv s'.h i else .hole := by
  funext i
  by_cases e : i < n
  · rw [if_pos e]; exact (ha.ob.lt i e).1.symm
  · rw [if_neg e]; exact (tput_end he).hole (by omega)

theorem AtHead.bd (ha : AtHead tm rd h n keep ut uh s') : ∀ i, i < n → OBd n (hv s'.h i) := fun i hi => by
  obtain ⟨e, hb⟩ := ha.ob.lt i hi
  rw [e]; exact hb

theorem AtHead.frRel (ha : AtHead tm rd h n keep ut uh s') {H : AH} (hH : H.o = hv s'.h)
    {g : Gh} {B : Nat} {w : World} {fr : Frame} {cs : List Frame} (hr : FrRel g B w (s'.st H) fr cs) :
    FrRel g B w ((head tm rd h n keep ut uh).st ⟨n, n, fun i => if i < n then hv s'.h i else .hole⟩) fr cs :=
  hr.cutAt (by show AH.mk _ _ _ = AH.mk _ _ (fun i => if i < n then H.o i else .hole); rw [hH]) (fun i hi => by show OBd n (H.o i); rw [hH]; exact ha.bd i hi) ha.tms ha.df rfl rfl ha.rd.symm
end

/-- A loop: a relation at its head, a measure that each round lessens. -/
theorem sym_loop {E : Env} (hE : E.Ok) {S : Sub} (hS : S = symSub E.P) {A : Type} {c : Code} {f : AS → KE → Prop} {tm : Tr AV} {df : List ADf} {pm : APm} {rd : Bool} {h : Tr AObj} {n b : Nat} {wr : List Nat} {K : KE}
    (keep : List Nat) (ut : A → List (Nat × AV)) (uh : A → List (Nat × AObj)) (I : A → Prop) (m : A → Nat) (a0 : A)
    (hb : b = 0) (hw : wr = []) (h0 : AtHead tm rd h n keep (ut a0) (uh a0) ⟨tm, df, pm, rd, h, n, b, wr⟩) (hI : I a0)
    (step : ∀ a, I a → exC c E S (head tm rd h n keep (ut a) (uh a)) fun e s' => @AEx.rec (fun _ => Prop) (∃ a', I a' ∧ m a' < m a ∧ AtHead tm rd h n keep (ut a') (uh a') s')
      (fun id => K (.exit id) s') (K .ret s') (fun l => K (.panic l) s') e) : S.loop c f ⟨tm, df, pm, rd, h, n, b, wr⟩ K := by
  subst hS
  intro he
  simp only at he
  have main : ∀ (k : Nat) (a : A), I a → m a < k → ∃ e s', K e s' ∧ Aft (head tm rd h n keep (ut a) (uh a)) s' ∧ ∀ (B : Nat) (H : AH), H.o = hv (head tm rd h n keep (ut a) (uh a)).h →
      ∃ H' : AH, H'.o = hv s'.h ∧ SemL E.P B c ((head tm rd h n keep (ut a) (uh a)).st H) e (s'.st H') := by
    intro k
    induction k with
    | zero => intro a _ h; omega
    | succ k ih =>
      intro a hIa hm
      have hea : HEnd (head tm rd h n keep (ut a) (uh a)).h (head tm rd h n keep (ut a) (uh a)).n := tput_end he
      obtain ⟨e, s1, h1, h2, h3⟩ := exC_ok hE (symSub_ok E.P) c _ _ (step a hIa) hea
      by_cases hn : e = .normal
      · subst hn
        obtain ⟨a', hIa', hlt, hah⟩ := h1
        obtain ⟨e2, s2, q1, q2, q3⟩ := ih a' hIa' (by omega)
        refine ⟨e2, s2, q1, ⟨q2.he, q2.b, ⟨fun x hx => (by cases hx), fun x hx => absurd hx (Nat.not_lt_zero x)⟩⟩, fun B H hH => ?_⟩
        obtain ⟨H1, k1, k2⟩ := h3 B H hH
        obtain ⟨H2, k3, k4⟩ := q3 B ⟨n, n, fun i => if i < n then hv s1.h i else .hole⟩ (hah.obj he).symm
        refine ⟨H2, k3, SemL.next ?_ k4⟩
        refine SemT.post k2 (m := n) ?_ (fun i hi => by show OBd n (H1.o i); rw [k1]; exact hah.bd i hi) hah.tms hah.df rfl rfl hah.rd.symm fun i hi => ?_
        · show AH.mk _ _ _ = AH.mk _ _ (fun i => if i < n then H1.o i else .hole)
          rw [k1]
        · apply Nat.lt_of_not_le
          intro hle
          have hi : H.o i ≠ .hole := hi
          rw [hH] at hi
          exact hi (hea.hole hle)
      · refine ⟨e, s1, ?_, h2, fun B H hH => ?_⟩
        · cases e <;> first
            | exact absurd rfl hn
            | exact h1
        · obtain ⟨H1, k1, k2⟩ := h3 B H hH
          exact ⟨H1, k1, SemL.stop k2 hn⟩
  obtain ⟨e, s', h1, h2, h3⟩ := main (m a0 + 1) a0 hI (by omega)
  refine ⟨e, s', h1, ⟨h2.he, h2.b.trans hb.symm, ?_⟩, fun B H hH => ?_⟩
  · show Kept b h wr _ _
    rw [hb, hw]
    exact ⟨fun x hx => (by cases hx), fun x hx => absurd hx (Nat.not_lt_zero x)⟩
  · obtain ⟨H', k1, k2⟩ := h3 B ⟨n, n, fun i => if i < n then hv h i else .hole⟩ (h0.obj he).symm
    refine ⟨H', k1, SemT.pre (fun g fr cs w hr => h0.frRel hH hr) ?_ (by show APm.no = pm; exact h0.pm.symm) k2⟩
    show (fun i => if i < n then hv h i else .hole) = H.o
    rw [hH]
    funext i
    by_cases e : i < n
    · rw [if_pos e]
    · rw [if_neg e]; exact (he.hole (by omega)).symm

/-- One round of a loop. -/
theorem sym_unroll {E : Env} (hE : E.Ok) {S : Sub} (hS : S = symSub E.P) {c : Code} {f : AS → KE → Prop} {s : AS} {K : KE}
    (h : exC c E S s fun e s' => @AEx.rec (fun _ => Prop) (S.loop c f s' K) (fun id => K (.exit id) s') (K .ret s') (fun l => K (.panic l) s') e) : S.loop c f s K := by
  subst hS
  intro he
  obtain ⟨e, s1, h1, h2, h3⟩ := exC_ok hE (symSub_ok E.P) c _ _ h he
  by_cases hn : e = .normal
  · subst hn
    obtain ⟨e2, s2, q1, q2, q3⟩ := h1 h2.he
    refine ⟨e2, s2, q1, h2.trans q2, fun B H hH => ?_⟩
    obtain ⟨H1, k1, k2⟩ := h3 B H hH
    obtain ⟨H2, k3, k4⟩ := q3 B H1 k1
    exact ⟨H2, k3, SemL.next k2 k4⟩
  · refine ⟨e, s1, ?_, h2, fun B H hH => ?_⟩
    · cases e <;> first
        | exact absurd rfl hn
        | exact h1
    · obtain ⟨H1, k1, k2⟩ := h3 B H hH
      exact ⟨H1, k1, SemL.stop k2 hn⟩

/-! ### Functions -/

/-- One function is run; what it calls is looked up. -/
def step (E : Env) (S : Sub) : Sub := ⟨fun c s K => exC c E S s K, S.fn, S.call, S.loop, S.drawn⟩

theorem step_ok {E : Env} (hE : E.Ok) : (step E (symSub E.P)).Ok E.P :=
  ⟨exC_ok hE (symSub_ok E.P), (symSub_ok E.P).fn, (symSub_ok E.P).call, (symSub_ok E.P).loop, (symSub_ok E.P).drawn⟩

/-- A function that is run so from no heap, to a value without references, is pure. -/
theorem pure_sym {P : Program} {E : EqT → Env} {q0 : EqT} (hE : (E q0).Ok) (hP : (E q0).P = P) {f : FuncId} {args : List AV} {v : AV} (ha : Lives noL args) (hl : Live noL v)
    (h : ∀ S q, S = symSub P → q = q0 → (E q).Ok → exFn (E q) (step (E q) S) f .normal args .no .nil 0 fun e _ _ _ _ => ∃ u, e = .ret u ∧ Wk u v) : Pure P f args v := by
  subst hP
  obtain ⟨e, pm', h', n', _, ⟨u, rfl, hw⟩, _, _, h3⟩ := exFn_ok hE (step_ok hE) f .normal args .no .nil 0 _ (h _ _ rfl rfl hE) HEnd_nil
  refine pure_of (fun B => ?_) ha hw hl
  obtain ⟨H', h4, h5⟩ := h3 B AH.nil hv_nil.symm
  exact ⟨H', CSem.of_F h5⟩

end
end Go.Abs
