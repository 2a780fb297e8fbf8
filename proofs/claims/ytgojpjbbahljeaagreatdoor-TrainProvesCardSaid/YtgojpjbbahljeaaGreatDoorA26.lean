/-
  The evaluator: drawn regions, code, functions.
-/
import Derived.Test.YtgojpjbbahljeaaGreatDoorA25
/-! The evaluator: drawn regions, code, functions. -/
namespace Go.Abs
open Go
noncomputable section

/-! ### Drawn regions -/

def roomK (k : Nat) : Tr AObj → Nat → (Tr AObj → Nat → Prop) → Prop :=
  @Nat.rec (fun _ => Tr AObj → Nat → (Tr AObj → Nat → Prop) → Prop) (fun h n K => K h n)
    (fun _ ih h n K => h.insK n .hole fun h => fcN false (Nat.succ n) fun n => ih h n K) k

theorem roomK_ok : ∀ (k : Nat) (h : Tr AObj) (n : Nat) (K : Tr AObj → Nat → Prop), roomK k h n K → HEnd h n → ∃ h', K h' (n + k) ∧ hv h' = hv h ∧ HEnd h' (n + k)
  | 0, h, n, K, hk, he => ⟨h, hk, rfl, he⟩
  | k + 1, h, n, K, hk, he => by
    obtain ⟨h1, h2, h3⟩ := Tr.insK_spec h n (fun h => fcN false (Nat.succ n) fun n => roomK k h n K) hk
    have e1 : hv h1 = hv h := by
      funext j
      simp only [hv, h3]
      by_cases e : j = n
      · subst e; simp [he j (Nat.le_refl _)]
      · simp [e]
    obtain ⟨h', h4, h5, h6⟩ := roomK_ok k h1 (n + 1) K (fcF_ok (K := fun n => roomK k h1 n K) h2) (fun i hi => by rw [h3, if_neg (by omega)]; exact he i (by omega))
    rw [show n + 1 + k = n + (k + 1) by omega] at h4 h6
    exact ⟨h', h4, h5.trans e1, h6⟩

def slotFree (h : Tr AObj) (W : WL) (s : Nat) : Bool :=
  match W with
  | [] => true
  | _ :: _ => match h.get s with
    | none => true
    | some x => match x with
      | .hole => true
      | _ => false

theorem slotFree_ok {h : Tr AObj} {W : WL} {s : Nat} (hs : slotFree h W s = true) (hW : W ≠ []) : hv h s = .hole := by
  unfold slotFree at hs
  split at hs
  · exact absurd rfl hW
  · unfold hv
    split at hs
    · rename_i e; rw [e]
    · rename_i e
      rw [e]
      split at hs
      · rfl
      · cases hs

abbrev KD := List Rec → AS → Prop

/-- What becomes of an operation of a drawn region: its record, and what comes then. -/
def drRes (r : PRes) : Env → Sub → Oper → Nat → Tr AV → List ADf → APm → Bool → Tr AObj → Nat → Nat → List Nat → List Nat → WL → Tr AObj → Nat → (Rec → AS → Prop) → Prop :=
  match r with
  | .val v => fun E _ o sl tm df pm rd h0 _ b wr R W h n N => match slotFree h0 W sl with
    | true => logW b (idxs W) wr fun wr => fcOp E.y o.op v fun v => setDA tm o.dst v fun tm => N ⟨.val, v, R, W, [], 0⟩ ⟨tm, df, pm, rd, h, n, b, wr⟩
    | false => False
  | .skip => fun _ _ o sl tm df pm rd h0 _ b wr R W h n N => match slotFree h0 W sl with
    | true => logW b (idxs W) wr fun wr => setDA tm o.dst (.tup []) fun tm => N ⟨.skip, .tup [], R, W, [], 0⟩ ⟨tm, df, pm, rd, h, n, b, wr⟩
    | false => False
  | .call f args => fun E S o _ tm df pm rd h0 n0 b wr R W _ _ N => match W with
    | [] => match Nat.ble b n0 with
      | false => False
      | true => callK E S f args h0 n0 (fun v => setDA tm o.dst v fun tm => N ⟨.pure f args, v, R, [], [], 0⟩ ⟨tm, df, pm, rd, h0, n0, b, wr⟩) fun e h n cw => logW b cw wr fun wr => match e with
        | .ret v => setDA tm o.dst v fun tm => N ⟨.call f args, v, R, [], cw, n0⟩ ⟨tm, df, pm, rd, h, n, b, wr⟩
        | .panic _ => False
    | _ :: _ => False
  | _ => fun _ _ _ _ _ _ _ _ _ _ _ _ _ _ _ _ _ => False

def exDr (os : List Oper) : Env → Sub → Array Oper → Nat → Nat → List Rec → AS → KD → Prop :=
  @List.rec Oper (fun _ => Env → Sub → Array Oper → Nat → Nat → List Rec → AS → KD → Prop) (fun _ _ _ _ _ acc s K => K acc s)
    (fun o _ ih E S ops base i acc s K => @AS.rec (fun _ => Prop) (fun tm df pm rd h n b wr => @Option.rec Bool (fun _ => Prop) False
      (fun g => @Bool.rec (fun _ => Prop)
        (setDA tm o.dst (.tup []) fun tm => fcS (acc ++ [⟨.off, .tup [], [], [], [], 0⟩]) fun acc => fcN false (Nat.succ i) fun i => ih E S ops base i acc ⟨tm, df, pm, rd, h, n, b, wr⟩ K)
        (fcN false (Nat.add base i) fun sl => runP (pOp E.P E.T E.F E.X (aev tm) o) E.y sl h n fun r R W h' n' => drRes r E S o sl tm df pm rd h n b wr R W h' n' fun rc s => fcS (acc ++ [rc]) fun acc => fcN false (Nat.succ i) fun i => ih E S ops base i acc s K) g) (guardA ops tm o)) s) os

section
variable {E : Env} {S : Sub}

theorem exDr_ok (hE : E.Ok) (hS : S.Ok E.P) {ops : Array Oper} {base : Nat} : ∀ (os : List Oper) (i : Nat) (acc : List Rec) (s : AS) (K : KD), (∀ j o, os[j]? = some o → ops[i + j]? = some o) → exDr os E S ops base i acc s K → HEnd s.h s.n →
    ∃ rs s', K (acc ++ rs) s' ∧ Aft s s' ∧ rs.length = os.length ∧ ∀ (B : Nat) (H : AH), H.o = hv s.h → ∃ H' : AH, H'.o = hv s'.h ∧ Chain E.P E.T E.F E.X B ops base (lab i rs) (s.st H) (s'.st H')
  | [], i, acc, s, K, _, hk, he => ⟨[], s, by rw [List.append_nil]; exact hk, ⟨he, rfl, Kept.refl _ _ _⟩, rfl, fun B H hH => ⟨H, hH, rfl⟩⟩
  | o :: os, i, acc, s, K, ho, hk, he => by
    have next : ∀ (r : Rec) (s1 : AS), fcS (acc ++ [r]) (fun acc => fcN false (Nat.succ i) fun i => exDr os E S ops base i acc s1 K) → Aft s s1 → (∀ (B : Nat) (H : AH), H.o = hv s.h → ∃ H1 : AH, H1.o = hv s1.h ∧ RStep E.P E.T E.F E.X B ops base i r (s.st H) (s1.st H1)) →
        ∃ rs s', K (acc ++ rs) s' ∧ Aft s s' ∧ rs.length = (o :: os).length ∧ ∀ (B : Nat) (H : AH), H.o = hv s.h → ∃ H' : AH, H'.o = hv s'.h ∧ Chain E.P E.T E.F E.X B ops base (lab i rs) (s.st H) (s'.st H') := by
      intro r s1 h1 h2 h3
      have h4 := fcF_ok (K := fun i => exDr os E S ops base i (acc ++ [r]) s1 K) (fcS_ok _ _ h1)
      obtain ⟨rs, s', q1, q2, q3, q4⟩ := exDr_ok hE hS os (i + 1) (acc ++ [r]) s1 K (fun j o' hj => by
        have := ho (j + 1) o' (by simpa using hj)
        rwa [show i + (j + 1) = i + 1 + j by omega] at this) h4 h2.he
      refine ⟨r :: rs, s', by simpa using q1, h2.trans q2, by simp [q3], fun B H hH => ?_⟩
      obtain ⟨H1, k1, k2⟩ := h3 B H hH
      obtain ⟨H2, k3, k4⟩ := q4 B H1 k1
      exact ⟨H2, k3, _, k2, k4⟩
    have hoi := ho 0 o rfl
    rw [Nat.add_zero] at hoi
    obtain ⟨tm, df, pm, rd, h, n, b, wr⟩ := s
    have hk : @Option.rec Bool (fun _ => Prop) False
      (fun g => @Bool.rec (fun _ => Prop)
        (setDA tm o.dst (.tup []) fun tm => fcS (acc ++ [⟨.off, .tup [], [], [], [], 0⟩]) fun acc => fcN false (Nat.succ i) fun i => exDr os E S ops base i acc ⟨tm, df, pm, rd, h, n, b, wr⟩ K)
        (fcN false (Nat.add base i) fun sl => runP (pOp E.P E.T E.F E.X (aev tm) o) E.y sl h n fun r R W h' n' => drRes r E S o sl tm df pm rd h n b wr R W h' n' fun rc s => fcS (acc ++ [rc]) fun acc => fcN false (Nat.succ i) fun i => exDr os E S ops base i acc s K) g) (guardA ops tm o) := hk
    simp only at he next
    cases hg : guardA ops tm o with
    | none => rw [hg] at hk; exact False.elim hk
    | some g =>
    rw [hg] at hk
    cases g
    · have hk : setDA tm o.dst (.tup []) (fun tm => fcS (acc ++ [⟨.off, .tup [], [], [], [], 0⟩]) fun acc => fcN false (Nat.succ i) fun i => exDr os E S ops base i acc ⟨tm, df, pm, rd, h, n, b, wr⟩ K) := hk
      obtain ⟨tm', h1, h2⟩ := setDA_ok hk
      exact next _ _ h1 ⟨he, rfl, Kept.refl _ _ _⟩ fun B H hH => ⟨H, hH, rfl, rfl, rfl, o, hoi, h2, hg, rfl, rfl, rfl⟩
    · obtain ⟨r, R, W, h', n', hev, hk1, hh, he', _⟩ := runP_ok _ _ _ _ (fcF_ok (K := fun sl => runP (pOp E.P E.T E.F E.X (aev tm) o) E.y sl h n fun r R W h' n' => drRes r E S o sl tm df pm rd h n b wr R W h' n' fun rc s => fcS (acc ++ [rc]) fun acc => fcN false (Nat.succ i) fun i => exDr os E S ops base i acc s K) hk) he
      clear hk
      have hk := hk1
      clear hk1
      have hev' : ∀ H : AH, H.o = hv h → EvF (base + i) (pOp E.P E.T E.F E.X (aev tm) o) H.o r R W := fun H hH => by rw [hH]; exact hev
      have happ : ∀ H : AH, H.o = hv h → (H.app W).o = hv h' := fun H hH => by rw [app_appO, hH, hh]
      unfold drRes at hk
      split at hk
      · rename_i v
        split at hk
        case h_2 => exact hk.elim
        rename_i hsf
        obtain ⟨wr', hk, w1, w2⟩ := logW_ok _ _ _ hk
        obtain ⟨tm', h1, h2⟩ := setDA_ok (fcOp_ok hk)
        exact next _ _ h1 ⟨he', rfl, Kept.app hh w1 w2⟩ fun B H hH => ⟨H.app W, happ H hH, rfl, rfl, rfl, o, hoi, h2, hg, fun hW => by show H.o _ = _; rw [hH]; exact slotFree_ok hsf hW, hev' H hH, rfl⟩
      · split at hk
        case h_2 => exact hk.elim
        rename_i hsf
        obtain ⟨wr', hk, w1, w2⟩ := logW_ok _ _ _ hk
        obtain ⟨tm', h1, h2⟩ := setDA_ok hk
        exact next _ _ h1 ⟨he', rfl, Kept.app hh w1 w2⟩ fun B H hH => ⟨H.app W, happ H hH, rfl, rfl, rfl, o, hoi, h2, hg, fun hW => by show H.o _ = _; rw [hH]; exact slotFree_ok hsf hW, hev' H hH, rfl, rfl⟩
      · rename_i f args
        split at hk
        case h_2 => exact hk.elim
        split at hk
        case h_1 => exact hk.elim
        rename_i hbn
        have hbn := Nat.le_of_ble_eq_true hbn
        rcases callK_ok hE hS hk he with ⟨v, k1, k2⟩ | ⟨e, h1, n1, cw, k1, k2, kf, k3⟩
        · obtain ⟨tm', q1, q2⟩ := setDA_ok k1
          exact next _ _ q1 ⟨he, rfl, Kept.refl _ _ _⟩ fun B H hH => ⟨H, hH, rfl, rfl, rfl, o, hoi, q2, hg, rfl, hev' H hH, k2, rfl⟩
        · obtain ⟨wr', k1, w1, w2⟩ := logW_ok _ _ _ k1
          cases e with
          | ret v =>
            obtain ⟨tm', q1, q2⟩ := setDA_ok k1
            refine next _ _ q1 ⟨k2, rfl, w1, fun x hx hn => kf x (by simp only at hx; omega) fun h => hn (w2 x h hx)⟩ fun B H hH => ?_
            obtain ⟨H', k4, k5⟩ := k3 B H hH
            exact ⟨H', k4, rfl, rfl, rfl, o, hoi, q2, hg, rfl, hev' H hH, k5, fun x hx hn => by show H'.o x = H.o x; rw [k4, hH]; exact kf x hx hn⟩
          | panic l => exact k1.elim
      · exact hk.elim

theorem SemT.renum {P : Program} {B : Nat} {its : List Item} {σ σ' : St} {e : AEx} {m : Nat} (h : SemT P B its { σ with H := { σ.H with n := m } } e σ') (hm : ∀ i, m ≤ i → σ.H.o i = .hole) : SemT P B its σ e σ' := by
  intro g fr cs w k hr hmo ht hro k' hk
  have hr' : FrRel g B w { σ with H := { σ.H with n := m } } fr cs :=
    ⟨{ wf := hm, ge := hr.h.ge, inj := hr.h.inj, rel := hr.h.rel, live := hr.h.live, kp := hr.h.kp, imz := hr.h.imz, hB := hr.h.hB }, hr.tm, hr.df, hr.pm, hr.rd⟩
  obtain ⟨g', fr', cs', w', h1, h2, h3, h4, h5, h6, h7⟩ := h g fr cs w k hr' hmo ht hro k' hk
  exact ⟨g', fr', cs', w', h1, ⟨h2.rel, h2.ext, h2.below, h2.L, h2.frame, h2.own⟩, h3, h4, h5, h6, h7⟩

def exDrawn (E : Env) (S : Sub) (ops : Array Oper) (s : AS) (K : KE) : Prop :=
  @AS.rec (fun _ => Prop) (fun tm df pm rd h n b wr => roomK ops.size h n fun h1 n1 => exDr ops.toList E S ops n 0 [] ⟨tm, df, pm, rd, h1, n1, b, wr⟩ fun rs s' =>
    S.drawn ops n rs (K .normal s')) s

theorem exDrawn_ok (hE : E.Ok) (hS : S.Ok E.P) {ops : Array Oper} {id : Nat} {s : AS} {K : KE} (hk : exDrawn E S ops s K) (he : HEnd s.h s.n) :
    ∃ e s', K e s' ∧ Aft s s' ∧ SemR E.P [.code (.region id ops true)] s e s' := by
  obtain ⟨tm, df, pm, rd, h, n, b, wr⟩ := s
  simp only [exDrawn] at hk
  simp only at he
  obtain ⟨h0, h1, h2, h3⟩ := roomK_ok _ _ _ _ hk he
  obtain ⟨rs, s', q1, q2, q3, q4⟩ := exDr_ok hE hS ops.toList 0 [] _ _ (fun j o hj => by simpa using hj) h1 h3
  obtain ⟨hd, q1⟩ := hS.drawn _ _ _ _ q1
  unfold drawnOk at hd
  split at hd
  case h_1 => cases hd
  rename_i U hU
  have hi : indAll n rs U = true := by simpa using hd
  have kp : Kept b h wr h0 wr := ⟨fun _ h => h, fun x _ _ => by rw [h2]⟩
  refine ⟨_, s', q1, ⟨q2.he, q2.b, kp.trans q2.kept⟩, fun B H hH => ?_⟩
  obtain ⟨H', k1, k2⟩ := q4 B ({ ({ H with n := n } : AH) with n := n + ops.size } : AH) (by show H.o = _; rw [hH]; exact h2.symm)
  refine ⟨H', k1, SemT.renum (m := n) ?_ fun i hi => by show H.o i = _; rw [hH]; exact he.hole hi⟩
  exact Sem.region_drawn (σ := AS.st ⟨tm, df, pm, rd, h, n, b, wr⟩ { H with n := n }) hE.T hE.F hE.X hE.mx hU (by simpa using q3) hi k2

/-! ### Code -/

def iter (k : Nat) : (AS → KE → Prop) → AS → KE → Prop :=
  @Nat.rec (fun _ => (AS → KE → Prop) → AS → KE → Prop) (fun _ _ _ => False)
    (fun _ ih f s K => f s fun e s' => @AEx.rec (fun _ => Prop) (ih f s' K) (fun id => K (.exit id) s') (K .ret s') (fun l => K (.panic l) s') e) k

/-- A loop over a function. -/
def exRF (E : Env) (S : Sub) (f : Operand) (params : List Tmp) (assign body : Code) (s : AS) (K : KE) : Prop :=
  match s with
  | ⟨tm, df, pm, rd, h, n, b, wr⟩ => match rd with
    | true => False
    | false => match aev tm f with
      | .func fn first cap => match fn with
        | .func fid => match E.F.get fid with
          | some dfn => match dfn.body with
            | some _ => putO h n n (.dfr false) fun h1 n1 => match Nat.beq n1 (n + 1) with
              | false => False
              | true => putO h1 n1 n1 (.loop .ready 0 tm 0 params assign body n) fun h2 n2 => fcL E.y fcH0 (first ++ (.yld n1 :: cap)) fun args => match Nat.ble b n with
                | false => False
                | true => S.call fid args h2 n2 fun e h3 n3 cw => logW b cw wr fun wr => match e with
                  | .ret _ => loopTo h3 n3 n1 .ready .exhausted fun h n' => K .normal ⟨tm, .mark n :: df, pm, false, h, n', b, wr⟩
                  | .panic _ => False
            | none => False
          | none => False
        | _ => False
      | _ => False

def exC (c : Code) : Env → Sub → AS → KE → Prop :=
  @Code.rec (fun _ => Env → Sub → AS → KE → Prop)
    (fun _ _ s K => K .normal s)
    (fun _ ops draw E S s K => @Bool.rec (fun _ => Prop) (exOps ops.toList E S ops s K) (exDrawn E S ops s K) draw)
    (fun _ _ iha ihb E S s K => iha E S s fun e s' => @AEx.rec (fun _ => Prop) (ihb E S s' K) (fun id => K (.exit id) s') (K .ret s') (fun l => K (.panic l) s') e)
    (fun c _ _ iha ihb E S s K => @AS.rec (fun _ => Prop) (fun tm df pm rd h n b wr => @Option.rec Bool (fun _ => Prop) False
      (fun x => @Bool.rec (fun _ => Prop) (ihb E S ⟨tm, df, pm, rd, h, n, b, wr⟩ K) (iha E S ⟨tm, df, pm, rd, h, n, b, wr⟩ K) x) (boolOf (aev tm c))) s)
    (fun id _ ih E S s K => ih E S s fun e s' => @AEx.rec (fun _ => Prop) (K .normal s')
      (fun j => @Bool.rec (fun _ => Prop) (K (.exit j) s') (K .normal s') (Nat.beq j id)) (K .ret s') (fun l => K (.panic l) s') e)
    (fun body ih E S s K => S.loop body (ih E S) s K)
    (fun f params assign body _ _ E S s K => exRF E S f params.toList assign body s K)
    (fun id _ _ s K => K (.exit id) s)
    (fun _ ih E S s K => ih E S s K)
    (fun _ _ _ s K => K .normal s)
    (fun _ _ _ _ _ => False)
    (fun _ _ s K => K .ret s)
    (fun _ _ _ _ _ => False)
    c

theorem iter_ok {P : Program} {c : Code} {f : AS → KE → Prop} (hf : ∀ s K, f s K → HEnd s.h s.n → ∃ e s', K e s' ∧ Aft s s' ∧ SemR P [.code c] s e s') : ∀ (k : Nat) (s : AS) (K : KE), iter k f s K → HEnd s.h s.n →
    ∃ e s', K e s' ∧ Aft s s' ∧ ∀ (B : Nat) (H : AH), H.o = hv s.h → ∃ H' : AH, H'.o = hv s'.h ∧ SemL P B c (s.st H) e (s'.st H')
  | 0, _, _, hk, _ => False.elim hk
  | k + 1, s, K, hk, he => by
    obtain ⟨e, s1, h1, h2, h3⟩ := hf s (fun e s' => @AEx.rec (fun _ => Prop) (iter k f s' K) (fun id => K (.exit id) s') (K .ret s') (fun l => K (.panic l) s') e) hk he
    by_cases hn : e = .normal
    · subst hn
      obtain ⟨e2, s2, h4, h5, h6⟩ := iter_ok hf k s1 K h1 h2.he
      refine ⟨e2, s2, h4, h2.trans h5, fun B H hH => ?_⟩
      obtain ⟨H1, k1, k2⟩ := h3 B H hH
      obtain ⟨H2, k3, k4⟩ := h6 B H1 k1
      exact ⟨H2, k3, SemL.next k2 k4⟩
    · refine ⟨e, s1, ?_, h2, fun B H hH => ?_⟩
      · cases e <;> first
          | exact absurd rfl hn
          | exact h1
      · obtain ⟨H1, k1, k2⟩ := h3 B H hH
        exact ⟨H1, k1, SemL.stop k2 hn⟩

theorem exRF_ok (hE : E.Ok) (hS : S.Ok E.P) {f : Operand} {params : Array Tmp} {assign body : Code} {s : AS} {K : KE} (hk : exRF E S f params.toList assign body s K) (he : HEnd s.h s.n) :
    ∃ e s', K e s' ∧ Aft s s' ∧ SemR E.P [.code (.rangeFunc f params assign body)] s e s' := by
  obtain ⟨tm, df, pm, rd, h, n, b, wr⟩ := s
  simp only [exRF] at hk
  simp only at he
  split at hk
  case h_1 => exact hk.elim
  split at hk
  case h_2 => exact hk.elim
  rename_i fn first cap hf
  split at hk
  case h_2 => exact hk.elim
  rename_i fid
  split at hk
  case h_2 => exact hk.elim
  rename_i dfn hd
  split at hk
  case h_2 => exact hk.elim
  rename_i c0 hb
  obtain ⟨h1, n1, hk, e1, he1, _⟩ := putO_ok hk he
  split at hk
  case h_1 => exact hk.elim
  rename_i hbq
  have hbq : n1 = n + 1 := Nat.eq_of_beq_eq_true hbq
  subst hbq
  obtain ⟨h2, n2, hk, e2, he2, hn2⟩ := putO_ok hk he1
  have hk := fcLH' hk
  split at hk
  case h_1 => exact hk.elim
  rename_i hbn
  have hbn := Nat.le_of_ble_eq_true hbn
  obtain ⟨e, h3, n3, cw, k1, k2, kf, k3⟩ := hS.call _ _ _ _ _ hk he2
  obtain ⟨wr', k1, w1, w2⟩ := logW_ok _ _ _ k1
  cases e with
  | panic l => exact k1.elim
  | ret v =>
    obtain ⟨fn2, tm2, nt2, ps2, as2, bd2, df2, h4, n4, q1, q2, q3, q4⟩ := loopTo_ok k1 k2
    have kp1 : Kept b h wr h1 wr := Kept.put e1 (fun _ h => h) fun hl => by omega
    have kp2 : Kept b h1 wr h2 wr := Kept.put e2 (fun _ h => h) fun hl => by omega
    have kp3 : Kept b h2 wr h3 wr' := ⟨w1, fun x hx hn => kf x (by omega) fun h => hn (w2 x h hx)⟩
    have kp4 : Kept b h3 wr' h4 wr' := Kept.put q3 (fun _ h => h) fun hl => by omega
    refine ⟨_, _, q2, ⟨q4, rfl, kp1.trans (kp2.trans (kp3.trans kp4))⟩, fun B H hH => ?_⟩
    obtain ⟨H', k4, k5⟩ := k3 B ((({ H with n := n } : AH).put n (.dfr false) 0).put (n + 1) (.loop .ready 0 tm 0 params.toList assign body n) 0) (by rw [e2, e1, ← hH]; rfl)
    refine ⟨H'.put (n + 1) (.loop .exhausted fn2 tm2 nt2 ps2 as2 bd2 df2) 0, by rw [q3, ← k4]; rfl, SemT.renum (m := n) ?_ fun i hi => by show H.o i = _; rw [hH]; exact he.hole hi⟩
    exact Sem.rangeFunc (P := E.P) (B := B) (σ := AS.st ⟨tm, df, pm, false, h, n, b, wr⟩ { H with n := n }) hE.F (f := f) (params := params) (assign := assign) (body := body) hf rfl hd hb k5 (by show H'.o (n + 1) = _; rw [k4]; exact q1) rfl

theorem exC_ok (hE : E.Ok) (hS : S.Ok E.P) : ∀ (c : Code) (s : AS) (K : KE), exC c E S s K → HEnd s.h s.n → ∃ e s', K e s' ∧ Aft s s' ∧ SemR E.P [.code c] s e s' := by
  intro c
  induction c with
  | skip => exact fun s K hk he => ⟨_, _, hk, ⟨he, rfl, Kept.refl _ _ _⟩, fun B H hH => ⟨H, hH, Sem.skip⟩⟩
  | label l => exact fun s K hk he => ⟨_, _, hk, ⟨he, rfl, Kept.refl _ _ _⟩, fun B H hH => ⟨H, hH, Sem.label⟩⟩
  | region id ops draw =>
    intro s K hk he
    cases draw with
    | false =>
      obtain ⟨e, s', h1, h2, h3⟩ := exOps_ok hE hS ops.toList 0 s K (fun j o hj => by simpa using hj) hk he
      refine ⟨e, s', h1, h2, fun B H hH => ?_⟩
      obtain ⟨H', k1, k2⟩ := h3 B H hH
      refine ⟨H', k1, Sem.region ?_⟩
      rw [List.range_eq_range']
      simpa using k2
    | true => exact exDrawn_ok hE hS hk he
  | seq a b iha ihb =>
    intro s K hk he
    obtain ⟨e, s1, h1, h2, h3⟩ := iha s (fun e s' => @AEx.rec (fun _ => Prop) (exC b E S s' K) (fun id => K (.exit id) s') (K .ret s') (fun l => K (.panic l) s') e) hk he
    by_cases hn : e = .normal
    · subst hn
      obtain ⟨e2, s2, h4, h5, h6⟩ := ihb s1 K h1 h2.he
      refine ⟨e2, s2, h4, h2.trans h5, fun B H hH => ?_⟩
      obtain ⟨H1, k1, k2⟩ := h3 B H hH
      obtain ⟨H2, k3, k4⟩ := h6 B H1 k1
      exact ⟨H2, k3, Sem.seq k2 k4⟩
    · refine ⟨e, s1, ?_, h2, fun B H hH => ?_⟩
      · cases e <;> first
          | exact absurd rfl hn
          | exact h1
      · obtain ⟨H1, k1, k2⟩ := h3 B H hH
        exact ⟨H1, k1, Sem.seq_exit k2 hn⟩
  | cond c a b iha ihb =>
    intro s K hk he
    obtain ⟨tm, df, pm, rd, h, n, bb, wr⟩ := s
    have hk : @Option.rec Bool (fun _ => Prop) False
      (fun x => @Bool.rec (fun _ => Prop) (exC b E S ⟨tm, df, pm, rd, h, n, bb, wr⟩ K) (exC a E S ⟨tm, df, pm, rd, h, n, bb, wr⟩ K) x) (boolOf (aev tm c)) := hk
    cases hb : boolOf (aev tm c) with
    | none => rw [hb] at hk; exact False.elim hk
    | some x =>
    rw [hb] at hk
    have hx := boolOf_ok hb
    cases x with
    | true =>
      obtain ⟨e, s', h1, h2, h3⟩ := iha _ K hk he
      refine ⟨e, s', h1, h2, fun B H hH => ?_⟩
      obtain ⟨H', k1, k2⟩ := h3 B H hH
      exact ⟨H', k1, Sem.cond (σ := AS.st ⟨tm, df, pm, rd, h, n, bb, wr⟩ H) hx k2⟩
    | false =>
      obtain ⟨e, s', h1, h2, h3⟩ := ihb _ K hk he
      refine ⟨e, s', h1, h2, fun B H hH => ?_⟩
      obtain ⟨H', k1, k2⟩ := h3 B H hH
      exact ⟨H', k1, Sem.cond (σ := AS.st ⟨tm, df, pm, rd, h, n, bb, wr⟩ H) hx k2⟩
  | block id c ih =>
    intro s K hk he
    obtain ⟨e, s1, h1, h2, h3⟩ := ih s (fun e s' => @AEx.rec (fun _ => Prop) (K .normal s')
      (fun j => @Bool.rec (fun _ => Prop) (K (.exit j) s') (K .normal s') (Nat.beq j id)) (K .ret s') (fun l => K (.panic l) s') e) hk he
    cases e with
    | normal =>
      refine ⟨_, s1, h1, h2, fun B H hH => ?_⟩
      obtain ⟨H1, k1, k2⟩ := h3 B H hH
      exact ⟨H1, k1, Sem.block_normal k2⟩
    | exit j =>
      have q1 : @Bool.rec (fun _ => Prop) (K (.exit j) s1) (K .normal s1) (Nat.beq j id) := h1
      cases hb : Nat.beq j id with
      | true =>
        rw [hb] at q1
        have q2 : K .normal s1 := q1
        have hb : j = id := Nat.eq_of_beq_eq_true hb
        subst hb
        refine ⟨_, s1, q2, h2, fun B H hH => ?_⟩
        obtain ⟨H1, k1, k2⟩ := h3 B H hH
        exact ⟨H1, k1, Sem.block_exit k2⟩
      | false =>
        rw [hb] at q1
        have q2 : K (.exit j) s1 := q1
        refine ⟨_, s1, q2, h2, fun B H hH => ?_⟩
        obtain ⟨H1, k1, k2⟩ := h3 B H hH
        exact ⟨H1, k1, Sem.block_pass k2 (by simp) (by intro e; cases e; simp at hb)⟩
    | ret =>
      refine ⟨_, s1, h1, h2, fun B H hH => ?_⟩
      obtain ⟨H1, k1, k2⟩ := h3 B H hH
      exact ⟨H1, k1, Sem.block_pass k2 (by simp) (by simp)⟩
    | panic l =>
      refine ⟨_, s1, h1, h2, fun B H hH => ?_⟩
      obtain ⟨H1, k1, k2⟩ := h3 B H hH
      exact ⟨H1, k1, Sem.block_pass k2 (by simp) (by simp)⟩
  | scope c ih =>
    intro s K hk he
    obtain ⟨e, s1, h1, h2, h3⟩ := ih s K hk he
    refine ⟨e, s1, h1, h2, fun B H hH => ?_⟩
    obtain ⟨H1, k1, k2⟩ := h3 B H hH
    by_cases hn : e = .normal
    · subst hn; exact ⟨H1, k1, Sem.scope_normal k2⟩
    · exact ⟨H1, k1, Sem.scope_pass k2 hn⟩
  | loop c ih =>
    intro s K hk he
    obtain ⟨e, s1, h1, h2, h3⟩ := hS.loop c _ ih s K hk he
    refine ⟨e, s1, h1, h2, fun B H hH => ?_⟩
    obtain ⟨H1, k1, k2⟩ := h3 B H hH
    exact ⟨H1, k1, Sem.loop k2⟩
  | exit id => exact fun s K hk he => ⟨_, _, hk, ⟨he, rfl, Kept.refl _ _ _⟩, fun B H hH => ⟨H, hH, Sem.exit⟩⟩
  | ret => exact fun s K hk he => ⟨_, _, hk, ⟨he, rfl, Kept.refl _ _ _⟩, fun B H hH => ⟨H, hH, Sem.ret⟩⟩
  | rangeFunc f params assign body _ _ => exact fun s K hk he => exRF_ok hE hS hk he
  | goto l => exact fun s K hk he => False.elim hk
  | refuse w => exact fun s K hk he => False.elim hk

end
end
end Go.Abs
