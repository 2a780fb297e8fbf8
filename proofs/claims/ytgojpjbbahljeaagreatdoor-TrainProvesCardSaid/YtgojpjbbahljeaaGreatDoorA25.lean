/-
  The evaluator: operations, regions, code, functions.
-/
import Derived.Test.YtgojpjbbahljeaaGreatDoorA24
import Derived.Test.YtgojpjbbahljeaaGreatDoorP2
/-! The evaluator: operations, regions, code, functions. -/
namespace Go.Abs
open Go
noncomputable section

structure Env where
  P : Program
  T : Tr TypeInfo
  F : Tr Func
  X : XT
  /-- Values are not closed: nothing is brought to a form. -/
  y : Bool
  /-- These calls are carried out from no heap; what they made is forgotten. -/
  pu : FuncId → Bool
  /-- Pure calls that are proved. -/
  M : Memo

structure Env.Ok (E : Env) : Prop where
  T : TOK E.P E.T
  F : FOK E.P E.F
  X : XOK E.P E.X
  mx : E.P.follows .mixedOrders = true
  M : MOK E.P E.M

structure AS where
  tm : Tr AV
  df : List ADf
  pm : APm
  rd : Bool
  h : Tr AObj
  n : Nat
  /-- Where the function began: the writes to objects below this are kept in wr. -/
  b : Nat
  wr : List Nat

abbrev KE := AEx → AS → Prop

structure Sub where
  code : Code → AS → KE → Prop
  fn : FuncId → CallKind → List AV → APm → Tr AObj → Nat → (AEnd → APm → Tr AObj → Nat → List Nat → Prop) → Prop
  call : FuncId → List AV → Tr AObj → Nat → (AEnd → Tr AObj → Nat → List Nat → Prop) → Prop
  loop : Code → (AS → KE → Prop) → AS → KE → Prop
  drawn : Array Oper → Nat → List Rec → Prop → Prop

def logW (b : Nat) (is : List Nat) : List Nat → (List Nat → Prop) → Prop :=
  @List.rec Nat (fun _ => List Nat → (List Nat → Prop) → Prop) (fun wr K => K wr)
    (fun i _ ih wr K => @Bool.rec (fun _ => Prop) (ih wr K) (@Bool.rec (fun _ => Prop) (ih (i :: wr) K) (ih wr K) (wr.contains i)) (Nat.blt i b)) is

theorem logW_ok {b : Nat} : ∀ (is wr : List Nat) (K : List Nat → Prop), logW b is wr K → ∃ wr', K wr' ∧ (∀ x, x ∈ wr → x ∈ wr') ∧ ∀ x, x ∈ is → x < b → x ∈ wr'
  | [], wr, K, h => ⟨wr, h, fun _ h => h, fun _ h => by cases h⟩
  | i :: is, wr, K, h => by
    have h : @Bool.rec (fun _ => Prop) (logW b is wr K) (@Bool.rec (fun _ => Prop) (logW b is (i :: wr) K) (logW b is wr K) (wr.contains i)) (Nat.blt i b) := h
    cases hb : Nat.blt i b with
    | false =>
      rw [hb] at h
      obtain ⟨wr', h1, h2, h3⟩ := logW_ok is wr K h
      refine ⟨wr', h1, h2, fun x hx hlt => ?_⟩
      rcases List.mem_cons.1 hx with e | hx
      · subst e
        have : Nat.blt x b = true := by rw [Nat.blt_eq]; exact hlt
        rw [this] at hb; cases hb
      · exact h3 x hx hlt
    | true =>
      rw [hb] at h
      cases hc : wr.contains i with
      | true =>
        rw [hc] at h
        obtain ⟨wr', h1, h2, h3⟩ := logW_ok is wr K h
        refine ⟨wr', h1, h2, fun x hx hlt => ?_⟩
        rcases List.mem_cons.1 hx with e | hx
        · subst e; exact h2 _ (by simpa using hc)
        · exact h3 x hx hlt
      | false =>
        rw [hc] at h
        obtain ⟨wr', h1, h2, h3⟩ := logW_ok is (i :: wr) K h
        refine ⟨wr', h1, fun x hx => h2 x (List.mem_cons_of_mem _ hx), fun x hx hlt => ?_⟩
        rcases List.mem_cons.1 hx with e | hx
        · subst e; exact h2 _ (by simp)
        · exact h3 x hx hlt

/-- What was not written is as it was. -/
structure Kept (b : Nat) (h : Tr AObj) (wr : List Nat) (h' : Tr AObj) (wr' : List Nat) : Prop where
  sub : ∀ x, x ∈ wr → x ∈ wr'
  same : ∀ x, x < b → x ∉ wr' → hv h' x = hv h x

theorem Kept.refl (b : Nat) (h : Tr AObj) (wr : List Nat) : Kept b h wr h wr := ⟨fun _ h => h, fun _ _ _ => rfl⟩
theorem Kept.trans {b : Nat} {h1 h2 h3 : Tr AObj} {w1 w2 w3 : List Nat} (a : Kept b h1 w1 h2 w2) (c : Kept b h2 w2 h3 w3) : Kept b h1 w1 h3 w3 :=
  ⟨fun x hx => c.sub x (a.sub x hx), fun x hx hn => (c.same x hx hn).trans (a.same x hx fun h => hn (c.sub x h))⟩
theorem Kept.put {b : Nat} {h h' : Tr AObj} {wr wr' : List Nat} {i : Nat} {x : AObj} (hh : hv h' = upd (hv h) i x) (hs : ∀ x, x ∈ wr → x ∈ wr') (hi : i < b → i ∈ wr') : Kept b h wr h' wr' :=
  ⟨hs, fun k hk hn => by rw [hh, upd_ne]; intro e; subst e; exact hn (hi hk)⟩

theorem appO_same : ∀ (W : WL) (o : Nat → AObj) (k : Nat), k ∉ idxs W → appO o W k = o k
  | [], _, _, _ => rfl
  | (i, x, r) :: W, o, k, h => by
    simp only [idxs, List.map_cons, List.mem_cons, not_or] at h
    rw [appO, appO_same W _ k h.2, upd_ne _ _ h.1]

theorem Kept.app {b : Nat} {h h' : Tr AObj} {wr wr' : List Nat} {W : WL} (hh : hv h' = appO (hv h) W) (hs : ∀ x, x ∈ wr → x ∈ wr') (hi : ∀ x, x ∈ idxs W → x < b → x ∈ wr') : Kept b h wr h' wr' :=
  ⟨hs, fun k hk hn => by rw [hh, appO_same]; exact fun h => hn (hi k h hk)⟩

structure Aft (s s' : AS) : Prop where
  he : HEnd s'.h s'.n
  b : s'.b = s.b
  kept : Kept s.b s.h s.wr s'.h s'.wr

theorem Aft.trans {s1 s2 s3 : AS} (a : Aft s1 s2) (c : Aft s2 s3) : Aft s1 s3 := ⟨c.he, c.b.trans a.b, a.kept.trans (by have := c.kept; rwa [a.b] at this)⟩

def setDA (tm : Tr AV) (d : Option Tmp) (v : AV) (K : Tr AV → Prop) : Prop := @Option.rec Tmp (fun _ => Prop) (K tm) (fun d => setA (pathOf d) tm v K) d

theorem setDA_ok {tm : Tr AV} {d : Option Tmp} {v : AV} {K : Tr AV → Prop} (h : setDA tm d v K) : ∃ tm', K tm' ∧ SetD tm d v tm' := by
  cases d with
  | none => exact ⟨tm, h, rfl⟩
  | some d =>
    obtain ⟨t', h1, h2, h3⟩ := Tr.setK_spec tm d K h
    exact ⟨t', h1, h2, h3⟩

def setAllA : List (Nat × AV) → Tr AV → (Tr AV → Prop) → Prop
  | [], tm, K => K tm
  | (p, a) :: r, tm, K => tm.setK p a fun tm => setAllA r tm K

theorem setAllA_ok : ∀ (l : List (Nat × AV)) (tm : Tr AV) (K : Tr AV → Prop), setAllA l tm K → ∃ tm', K tm' ∧ SetAll tm l tm'
  | [], tm, K, h => ⟨tm, h, rfl⟩
  | (p, a) :: r, tm, K, h => by
    obtain ⟨t1, h1, h2, h3⟩ := Tr.setK_spec tm p _ h
    obtain ⟨t', h4, h5⟩ := setAllA_ok r t1 K h1
    exact ⟨t', h4, t1, ⟨h2, h3⟩, h5⟩

def fcOp0 (o : Op) : AV → (AV → Prop) → Prop :=
  @Op.rec (fun _ => AV → (AV → Prop) → Prop) (fun _ => fcH0) (fun _ => fcH0) (fun _ _ _ => fcV0) (fun _ => fcV0) (fun _ _ => fcV0) (fun _ _ => fcV0) (fun _ _ _ => fcV0) (fun _ _ _ _ => fcV0)
    (fun _ _ => fcM0) (fun _ _ _ => fcV0) (fun _ => fcV0) (fun _ => fcV0) (fun _ => fcV0) (fun _ _ _ _ _ => fcV0) (fun _ _ _ => fcV0) (fun _ _ _ => fcV0) (fun _ _ => fcV0) (fun _ _ => fcV0) (fun _ _ _ => fcV0)
    (fun _ _ => fcV0) (fun _ _ => fcV0) (fun _ _ _ => fcV0) (fun _ _ _ _ _ => fcV0) (fun _ _ _ => fcV0) (fun _ _ _ => fcV0) (fun _ _ _ => fcV0) (fun _ _ _ => fcV0) (fun _ _ _ _ => fcV0) (fun _ _ _ _ => fcV0) (fun _ _ _ => fcV0) (fun _ _ _ _ => fcV0)
    (fun _ _ => fcV0) (fun _ _ => fcV0) (fun _ => fcV0) (fun _ _ _ _ => fcV0) (fun _ _ => fcH0) (fun _ => fcV0) (fun _ => fcV0) (fun _ => fcV0) (fun _ => fcV0) (fun _ _ => fcV0) (fun _ _ _ => fcV0) (fun _ _ => fcV0) o

theorem fcOp0_ok {o : Op} {v : AV} {K : AV → Prop} (h : fcOp0 o v K) : K v := by
  cases o <;> first
    | exact fcV0_ok h
    | exact fcH0_ok h
    | exact fcM0_ok h

def fcOp (y : Bool) (o : Op) (v : AV) (K : AV → Prop) : Prop := @Bool.rec (fun _ => Prop) (fcOp0 o v K) (fcM0 v K) y

theorem fcOp_ok {y : Bool} {o : Op} {v : AV} {K : AV → Prop} (h : fcOp y o v K) : K v := by
  cases y with
  | true => exact fcM0_ok h
  | false => exact fcOp0_ok h

/-- A loop's object gets another state. -/
def loopTo (h : Tr AObj) (n l : Nat) (from_ to : LoopState) (K : Tr AObj → Nat → Prop) : Prop :=
  getO h l fun x => match x with
    | .loop st fn tm nt params assign body dfr => match decide (st = from_) with
      | true => putO h n l (.loop to fn tm nt params assign body dfr) K
      | false => False
    | _ => False

theorem loopTo_ok {h : Tr AObj} {n l : Nat} {a b : LoopState} {K : Tr AObj → Nat → Prop} (hk : loopTo h n l a b K) (he : HEnd h n) :
    ∃ fn tm nt params assign body dfr h' n', hv h l = .loop a fn tm nt params assign body dfr ∧ K h' n' ∧ hv h' = upd (hv h) l (.loop b fn tm nt params assign body dfr) ∧ HEnd h' n' := by
  have h1 := getO_ok hk
  split at h1
  case h_2 => exact h1.elim
  rename_i st fn tm nt params assign body dfr ho
  split at h1
  case h_2 => exact h1.elim
  rename_i hd
  have hd : st = a := of_decide_eq_true hd
  subst hd
  obtain ⟨h', n', h2, h3, h4, _⟩ := putO_ok h1 he
  exact ⟨fn, tm, nt, params, assign, body, dfr, h', n', ho, h2, h3, h4⟩

def exRound (S : Sub) (s : AS) (d : Option Tmp) (l : Nat) (args : List AV) (K : KE) : Prop :=
  match s with
  | ⟨tm0, df, pm, rd, h, n, b, wr⟩ => getO h l fun x => match x with
    | .loop st _ tm _ params assign body _ => match decide (st = .ready) with
      | true => logW b [l] wr fun wr => setAllA (params.zip args) tm fun tm => S.code assign ⟨tm, [], .no, true, h, n, b, wr⟩ fun e s1 => match e with
        | .normal => match s1 with
          | ⟨tm1, df1, pm1, rd1, h1, n1, b1, wr1⟩ => loopTo h1 n1 l .ready .busy fun h n => S.code body ⟨tm1, df1, pm1, rd1, h, n, b1, wr1⟩ fun e s2 => match e with
            | .normal => match s2 with
              | ⟨_, _, _, _, h2, n2, b2, wr2⟩ => loopTo h2 n2 l .busy .ready fun h n => setDA tm0 d (.bool true) fun tm => K .normal ⟨tm, df, pm, rd, h, n, b2, wr2⟩
            | _ => False
        | _ => False
      | false => False
    | _ => False

/-- A call: one of the table; one that touches no object; any other. -/
def callK (E : Env) (S : Sub) (f : FuncId) (args : List AV) (h : Tr AObj) (n : Nat) (Kp : AV → Prop) (Kc : AEnd → Tr AObj → Nat → List Nat → Prop) : Prop :=
  match lookM E.M f (wkl args) with
  | some v => Kp v
  | none => match E.pu f with
    | true => match norefs (wkl args) with
      | true => fcL E.y fcH0 (wkl args) fun args => S.call f args .nil 0 fun e _ _ _ => match e with
        | .ret v => fcV E.y (wk v) fun v => match noref v with
          | true => Kp v
          | false => False
        | .panic _ => False
      | false => False
    | false => S.call f args h n Kc

abbrev KR := Env → Sub → Oper → Tr AV → List ADf → APm → Bool → Tr AObj → Nat → Nat → List Nat → WL → Tr AObj → Nat → KE → Prop

def resVal (v : AV) : KR := fun E _ o tm df pm rd _ _ b wr W h n K => logW b (idxs W) wr fun wr => fcOp E.y o.op v fun v => setDA tm o.dst v fun tm => K .normal ⟨tm, df, pm, rd, h, n, b, wr⟩

def resSkip : KR := fun _ _ o tm df pm rd _ _ b wr W h n K => logW b (idxs W) wr fun wr => setDA tm o.dst (.tup []) fun tm => K .normal ⟨tm, df, pm, rd, h, n, b, wr⟩

def resCall (f : FuncId) (args : List AV) : KR := fun E S o tm df pm rd h0 n0 b wr _ _ _ K => match Nat.ble b n0 with
  | false => False
  | true => callK E S f args h0 n0 (fun v => setDA tm o.dst v fun tm => K .normal ⟨tm, df, pm, rd, h0, n0, b, wr⟩) fun e h n cw => logW b cw wr fun wr => match e with
    | .ret v => setDA tm o.dst v fun tm => K .normal ⟨tm, df, pm, rd, h, n, b, wr⟩
    | .panic l => K (.panic l) ⟨tm, df, pm, rd, h, n, b, wr⟩

def resYld (l : Nat) (args : List AV) : KR := fun _ S o tm df pm rd h0 n0 b wr _ _ _ K => exRound S ⟨tm, df, pm, rd, h0, n0, b, wr⟩ o.dst l args K

def resDefr (f : FuncId) (args : List AV) : KR := fun _ _ o tm df pm rd h0 n0 b wr _ _ _ K => match rd with
  | false => setDA tm o.dst (.tup []) fun tm => K .normal ⟨tm, .call f args :: df, pm, false, h0, n0, b, wr⟩
  | true => False

def resRecover : KR := fun _ _ o tm df pm rd h0 n0 b wr _ _ _ K => match rd with
  | true => False
  | false => match pm with
    | .no => False
    | .ret => setDA tm o.dst .nili fun tm => K .normal ⟨tm, df, .ret, false, h0, n0, b, wr⟩
    | .pan l => match l with
      | [] => False
      | (v, bb) :: l => match bb with
        | true => False
        | false => setDA tm o.dst v fun tm => K .normal ⟨tm, df, .pan ((v, true) :: l), false, h0, n0, b, wr⟩

def resPanic (v : AV) : KR := fun _ _ _ tm df pm rd h0 n0 b wr _ _ _ K => K (.panic [(v, false)]) ⟨tm, df, pm, rd, h0, n0, b, wr⟩

/-- What becomes of an operation. -/
def exRes (r : PRes) : KR := @PRes.rec (fun _ => KR) (fun v => resVal v) resSkip (fun f args => resCall f args) (fun l args => resYld l args) (fun f args => resDefr f args) resRecover (fun v => resPanic v) r

abbrev KO := Env → Sub → Oper → KE → Tr AV → List ADf → APm → Bool → Tr AObj → Nat → Nat → List Nat → Prop

def opSkip : KO := fun _ _ o K tm df pm rd h n b wr => setDA tm o.dst (.tup []) fun tm => K .normal ⟨tm, df, pm, rd, h, n, b, wr⟩
def opRun : KO := fun E S o K tm df pm rd h n b wr => runP (pOp E.P E.T E.F E.X (aev tm) o) E.y n h n fun r _ W h' n' => exRes r E S o tm df pm rd h n b wr W h' n' K
def opNo : KO := fun _ _ _ _ _ _ _ _ _ _ _ _ => False
def opG (g : Option Bool) : KO := @Option.rec Bool (fun _ => KO) opNo (fun g => @Bool.rec (fun _ => KO) opSkip opRun g) g

def exOp (E : Env) (S : Sub) (ops : Array Oper) (o : Oper) (s : AS) (K : KE) : Prop :=
  @AS.rec (fun _ => Prop) (fun tm df pm rd h n b wr => opG (guardA ops tm o) E S o K tm df pm rd h n b wr) s

def AS.st (s : AS) (H : AH) : St := { tm := s.tm, df := s.df, pm := s.pm, rd := s.rd, H := H }

def SemR (P : Program) (its : List Item) (s : AS) (e : AEx) (s' : AS) : Prop :=
  ∀ (B : Nat) (H : AH), H.o = hv s.h → ∃ H' : AH, H'.o = hv s'.h ∧ SemT P B its (s.st H) e (s'.st H')

def OpR (P : Program) (ops : Array Oper) (i : Nat) (s : AS) (e : AEx) (s' : AS) : Prop :=
  ∀ (B : Nat) (H : AH), H.o = hv s.h → ∃ H' : AH, H'.o = hv s'.h ∧ OpS P B ops i (s.st H) e (s'.st H')

def drawnOk (ops : Array Oper) (n : Nat) (rs : List Rec) : Bool :=
  match unord ops with
  | none => false
  | some U => indAll n rs U

structure Sub.Ok (P : Program) (S : Sub) : Prop where
  code : ∀ c s K, S.code c s K → HEnd s.h s.n → ∃ e s', K e s' ∧ Aft s s' ∧ SemR P [.code c] s e s'
  fn : ∀ f κ args pm h n K, S.fn f κ args pm h n K → HEnd h n → ∃ e pm' h' n' cw, K e pm' h' n' cw ∧ HEnd h' n' ∧ (∀ x, x < n → x ∉ cw → hv h' x = hv h x) ∧ ∀ (B : Nat) (H : AH), H.o = hv h → ∃ H' : AH, H'.o = hv h' ∧ FSem P B f κ args pm H e pm' H'
  call : ∀ f args h n K, S.call f args h n K → HEnd h n → ∃ e h' n' cw, K e h' n' cw ∧ HEnd h' n' ∧ (∀ x, x < n → x ∉ cw → hv h' x = hv h x) ∧ ∀ (B : Nat) (H : AH), H.o = hv h → ∃ H' : AH, H'.o = hv h' ∧ CSem P B f args H e H'
  loop : ∀ c f, (∀ s K, f s K → HEnd s.h s.n → ∃ e s', K e s' ∧ Aft s s' ∧ SemR P [.code c] s e s') → ∀ s K, S.loop c f s K → HEnd s.h s.n →
    ∃ e s', K e s' ∧ Aft s s' ∧ ∀ (B : Nat) (H : AH), H.o = hv s.h → ∃ H' : AH, H'.o = hv s'.h ∧ SemL P B c (s.st H) e (s'.st H')
  drawn : ∀ ops n rs Q, S.drawn ops n rs Q → drawnOk ops n rs = true ∧ Q

section
variable {E : Env} {S : Sub}

theorem hv_nil : hv .nil = fun _ => .hole := by funext i; simp [hv]
theorem HEnd_nil : HEnd .nil 0 := fun i _ => Tr.get_nil i

theorem callK_ok (hE : E.Ok) (hS : S.Ok E.P) {f : FuncId} {args : List AV} {h : Tr AObj} {n : Nat} {Kp : AV → Prop} {Kc : AEnd → Tr AObj → Nat → List Nat → Prop} (hk : callK E S f args h n Kp Kc) (he : HEnd h n) :
    (∃ v, Kp v ∧ Pure E.P f args v) ∨ (∃ e h' n' cw, Kc e h' n' cw ∧ HEnd h' n' ∧ (∀ x, x < n → x ∉ cw → hv h' x = hv h x) ∧ ∀ (B : Nat) (H : AH), H.o = hv h → ∃ H' : AH, H'.o = hv h' ∧ CSem E.P B f args H e H') := by
  unfold callK at hk
  split at hk
  · rename_i v hv
    exact .inl ⟨v, hk, (lookM_ok _ hE.M hv).ofWk⟩
  · split at hk
    · split at hk
      · rename_i hn
        obtain ⟨e, h', n', cw, k1, k2, _, k3⟩ := hS.call _ _ _ _ _ (fcLH' hk) HEnd_nil
        cases e with
        | panic l => exact k1.elim
        | ret v =>
          have k1 := fcV_ok k1
          split at k1
          · rename_i hv
            refine .inl ⟨_, k1, Pure.ofWk (pure_of (fun B => ?_) (norefs_ok _ hn) (Wk.wk v) (noref_ok _ hv))⟩
            obtain ⟨H', k4, k5⟩ := k3 B AH.nil hv_nil.symm
            exact ⟨H', k5⟩
          · exact k1.elim
      · exact hk.elim
    · exact .inr (hS.call _ _ _ _ _ hk he)

theorem exRound_ok (hE : E.Ok) (hS : S.Ok E.P) {ops : Array Oper} {i : Nat} {o : Oper} (ho : ops[i]? = some o) {s : AS} {l : Nat} {args : List AV} {K : KE} (hk : exRound S s o.dst l args K) (he : HEnd s.h s.n)
    (hg : guardA ops s.tm o = some true) {R : List Nat} {W : WL} (hev : EvF s.n (pOp E.P E.T E.F E.X (aev s.tm) o) (hv s.h) (.yld l args) R W) :
    ∃ e s', K e s' ∧ Aft s s' ∧ OpR E.P ops i s e s' := by
  obtain ⟨tmq, dfq, pmq, rdq, hq, nq, bq, wrq⟩ := s
  simp only [exRound] at hk
  simp only at he hg hev
  have h1 := getO_ok hk
  split at h1
  case h_2 => exact h1.elim
  rename_i st fn tm nt params assign body dfr hl
  split at h1
  case h_2 => exact h1.elim
  rename_i hd
  have hd : st = .ready := of_decide_eq_true hd
  subst hd
  obtain ⟨wr, h1, w1, w2⟩ := logW_ok _ _ _ h1
  have hlw : l < bq → l ∈ wr := w2 l (by simp)
  obtain ⟨tm0, h2, h3⟩ := setAllA_ok _ _ _ h1
  obtain ⟨e1, s1, h4, h5, h6⟩ := hS.code _ _ _ h2 he
  cases e1 with
  | normal =>
    obtain ⟨tm1', df1', pm1', rd1', hq1, nq1, bq1, wrq1⟩ := s1
    obtain ⟨fn1, tm1, nt1, ps1, as1, bd1, df1, h7, n7, q1, q2, q3, q4⟩ := loopTo_ok h4 h5.he
    obtain ⟨e2, s2, h8, h9, h10⟩ := hS.code _ _ _ q2 q4
    cases e2 with
    | normal =>
      obtain ⟨tm2', df2', pm2', rd2', hq2, nq2, bq2, wrq2⟩ := s2
      obtain ⟨fn2, tm2, nt2, ps2, as2, bd2, df2, h11, n11, r1, r2, r3, r4⟩ := loopTo_ok h8 h9.he
      obtain ⟨tm', r5, r6⟩ := setDA_ok r2
      have b1 : bq1 = bq := h5.b
      have b2 : bq2 = bq := h9.b.trans b1
      subst b1
      subst b2
      have kp1 : Kept bq2 hq wr hq1 wrq1 := h5.kept
      have kp2 : Kept bq2 hq1 wrq1 h7 wrq1 := Kept.put q3 (fun _ h => h) fun hl => kp1.sub l (hlw hl)
      have kp3 : Kept bq2 h7 wrq1 hq2 wrq2 := h9.kept
      have kp4 : Kept bq2 hq2 wrq2 h11 wrq2 := Kept.put r3 (fun _ h => h) fun hl => kp3.sub l (kp1.sub l (hlw hl))
      have kp0 : Kept bq2 hq wrq hq wr := ⟨w1, fun _ _ _ => rfl⟩
      refine ⟨_, _, r5, ⟨r4, rfl, kp0.trans (kp1.trans (kp2.trans (kp3.trans kp4)))⟩, fun B H hH => ?_⟩
      obtain ⟨H1, k1, k2⟩ := h6 B H hH
      obtain ⟨H2, k3, k4⟩ := h10 B (H1.put l (.loop .busy fn1 tm1 nt1 ps1 as1 bd1 df1) 0) (by rw [q3, ← k1]; rfl)
      refine ⟨H2.put l (.loop .ready fn2 tm2 nt2 ps2 as2 bd2 df2) 0, by rw [r3, ← k3]; rfl, ?_⟩
      exact OpS.yld (σ := AS.st ⟨tmq, dfq, pmq, rdq, hq, nq, bq2, wrq⟩ H) (σ1 := AS.st ⟨tm1', df1', pm1', rd1', hq1, nq1, bq2, wrq1⟩ H1) (σ2 := AS.st ⟨tm2', df2', pm2', rd2', hq2, nq2, bq2, wrq2⟩ H2) hE.T hE.F hE.X ho hg (s := nq)
        (by show H.o nq = _; rw [hH]; exact he.hole (Nat.le_refl _)) (by show EvF _ _ H.o _ _ _; rw [hH]; exact hev)
        (by show H.o l = _; rw [hH]; exact hl) h3 k2 (by show H1.o l = _; rw [k1]; exact q1) k4 (by show H2.o l = _; rw [k3]; exact r1) r6
    | _ => exact h8.elim
  | _ => exact h4.elim

theorem exOp_ok (hE : E.Ok) (hS : S.Ok E.P) {ops : Array Oper} {i : Nat} {o : Oper} (ho : ops[i]? = some o) {s : AS} {K : KE} (hk : exOp E S ops o s K) (he : HEnd s.h s.n) :
    ∃ e s', K e s' ∧ Aft s s' ∧ OpR E.P ops i s e s' := by
  obtain ⟨tm, df, pm, rd, h, n, b, wr⟩ := s
  simp only [exOp] at hk
  simp only at he
  cases hg : guardA ops tm o with
  | none => rw [hg] at hk; exact False.elim hk
  | some g =>
  rw [hg] at hk
  cases g
  · have hk : setDA tm o.dst (.tup []) (fun tm => K .normal ⟨tm, df, pm, rd, h, n, b, wr⟩) := hk
    obtain ⟨tm', h1, h2⟩ := setDA_ok hk
    exact ⟨_, _, h1, ⟨he, rfl, Kept.refl _ _ _⟩, fun B H hH => ⟨H, hH, OpS.skip (σ := AS.st ⟨tm, df, pm, rd, h, n, b, wr⟩ H) ho hg h2⟩⟩
  · have hk : runP (pOp E.P E.T E.F E.X (aev tm) o) E.y n h n (fun r _ W h' n' => exRes r E S o tm df pm rd h n b wr W h' n' K) := hk
    obtain ⟨r, R, W, h', n', hev, hk1, hh, he', _⟩ := runP_ok _ _ _ _ hk he
    clear hk
    have hk := hk1
    clear hk1
    have hole : ∀ H : AH, H.o = hv h → H.o n = .hole := fun H hH => by rw [hH]; exact he.hole (Nat.le_refl _)
    have hev' : ∀ H : AH, H.o = hv h → EvF n (pOp E.P E.T E.F E.X (aev tm) o) H.o r R W := fun H hH => by rw [hH]; exact hev
    have happ : ∀ H : AH, H.o = hv h → (H.app W).o = hv h' := fun H hH => by rw [app_appO, hH, hh]
    cases r with
    | val v =>
      have hk : logW b (idxs W) wr (fun wr => fcOp E.y o.op v fun v => setDA tm o.dst v fun tm => K .normal ⟨tm, df, pm, rd, h', n', b, wr⟩) := hk
      obtain ⟨wr', hk, w1, w2⟩ := logW_ok _ _ _ hk
      obtain ⟨tm', h1, h2⟩ := setDA_ok (fcOp_ok hk)
      exact ⟨_, _, h1, ⟨he', rfl, Kept.app hh w1 w2⟩, fun B H hH => ⟨H.app W, happ H hH, OpS.val (σ := AS.st ⟨tm, df, pm, rd, h, n, b, wr⟩ H) hE.T hE.F hE.X ho hg (hole H hH) (hev' H hH) h2⟩⟩
    | skip =>
      have hk : logW b (idxs W) wr (fun wr => setDA tm o.dst (.tup []) fun tm => K .normal ⟨tm, df, pm, rd, h', n', b, wr⟩) := hk
      obtain ⟨wr', hk, w1, w2⟩ := logW_ok _ _ _ hk
      obtain ⟨tm', h1, h2⟩ := setDA_ok hk
      exact ⟨_, _, h1, ⟨he', rfl, Kept.app hh w1 w2⟩, fun B H hH => ⟨H.app W, happ H hH, OpS.none (σ := AS.st ⟨tm, df, pm, rd, h, n, b, wr⟩ H) hE.T hE.F hE.X ho hg (hole H hH) (hev' H hH) h2⟩⟩
    | call f args =>
      have hk : (match Nat.ble b n with
        | false => False
        | true => callK E S f args h n (fun v => setDA tm o.dst v fun tm => K .normal ⟨tm, df, pm, rd, h, n, b, wr⟩) fun e h n cw => logW b cw wr fun wr => match e with
          | .ret v => setDA tm o.dst v fun tm => K .normal ⟨tm, df, pm, rd, h, n, b, wr⟩
          | .panic l => K (.panic l) ⟨tm, df, pm, rd, h, n, b, wr⟩) := hk
      split at hk
      case h_1 => exact hk.elim
      rename_i hbn
      have hbn := Nat.le_of_ble_eq_true hbn
      rcases callK_ok hE hS hk he with ⟨v, k1, k2⟩ | ⟨e, h1, n1, cw, k1, k2, kf, k3⟩
      · obtain ⟨tm', q1, q2⟩ := setDA_ok k1
        exact ⟨_, _, q1, ⟨he, rfl, Kept.refl _ _ _⟩, fun B H hH => ⟨H, hH, OpS.call (σ := AS.st ⟨tm, df, pm, rd, h, n, b, wr⟩ H) hE.T hE.F hE.X ho hg (hole H hH) (hev' H hH) (k2.2 B H) q2⟩⟩
      · obtain ⟨wr', k1, w1, w2⟩ := logW_ok _ _ _ k1
        have kpt : Kept b h wr h1 wr' := ⟨w1, fun x hx hn => kf x (by omega) fun h => hn (w2 x h hx)⟩
        cases e with
        | ret v =>
          obtain ⟨tm', q1, q2⟩ := setDA_ok k1
          refine ⟨_, _, q1, ⟨k2, rfl, kpt⟩, fun B H hH => ?_⟩
          obtain ⟨H', k4, k5⟩ := k3 B H hH
          exact ⟨H', k4, OpS.call (σ := AS.st ⟨tm, df, pm, rd, h, n, b, wr⟩ H) hE.T hE.F hE.X ho hg (hole H hH) (hev' H hH) k5 q2⟩
        | panic l =>
          refine ⟨_, _, k1, ⟨k2, rfl, kpt⟩, fun B H hH => ?_⟩
          obtain ⟨H', k4, k5⟩ := k3 B H hH
          exact ⟨H', k4, OpS.callPanic (σ := AS.st ⟨tm, df, pm, rd, h, n, b, wr⟩ H) hE.T hE.F hE.X ho hg (hole H hH) (hev' H hH) k5⟩
    | yld l args => exact exRound_ok hE hS ho (s := ⟨tm, df, pm, rd, h, n, b, wr⟩) hk he hg hev
    | defr f args =>
      cases rd with
      | false =>
        have hk : setDA tm o.dst (.tup []) (fun tm => K .normal ⟨tm, .call f args :: df, pm, false, h, n, b, wr⟩) := hk
        obtain ⟨tm', h1, h2⟩ := setDA_ok hk
        exact ⟨_, _, h1, ⟨he, rfl, Kept.refl _ _ _⟩, fun B H hH => ⟨H, hH, OpS.defr (B := B) (σ := AS.st ⟨tm, df, pm, false, h, n, b, wr⟩ H) hE.T hE.F hE.X ho hg (hole H hH) rfl (hev' H hH) h2⟩⟩
      | true => exact False.elim hk
    | recover =>
      cases rd with
      | true => exact False.elim hk
      | false =>
        cases pm with
        | no => exact False.elim hk
        | ret =>
          have hk : setDA tm o.dst .nili (fun tm => K .normal ⟨tm, df, .ret, false, h, n, b, wr⟩) := hk
          obtain ⟨tm', h1, h2⟩ := setDA_ok hk
          exact ⟨_, _, h1, ⟨he, rfl, Kept.refl _ _ _⟩, fun B H hH => ⟨H, hH, OpS.recover_nil (B := B) (σ := AS.st ⟨tm, df, .ret, false, h, n, b, wr⟩ H) hE.T hE.F hE.X ho hg (hole H hH) (hev' H hH) rfl rfl h2⟩⟩
        | pan l =>
          cases l with
          | nil => exact False.elim hk
          | cons p l =>
            obtain ⟨v, bb⟩ := p
            cases bb with
            | true => exact False.elim hk
            | false =>
              have hk : setDA tm o.dst v (fun tm => K .normal ⟨tm, df, .pan ((v, true) :: l), false, h, n, b, wr⟩) := hk
              obtain ⟨tm', h1, h2⟩ := setDA_ok hk
              exact ⟨_, _, h1, ⟨he, rfl, Kept.refl _ _ _⟩, fun B H hH => ⟨H, hH, OpS.recover_pan (B := B) (σ := AS.st ⟨tm, df, .pan ((v, false) :: l), false, h, n, b, wr⟩ H) hE.T hE.F hE.X ho hg (hole H hH) (hev' H hH) rfl rfl h2⟩⟩
    | panic v => exact ⟨_, _, hk, ⟨he, rfl, Kept.refl _ _ _⟩, fun B H hH => ⟨H, hH, OpS.panic (σ := AS.st ⟨tm, df, pm, rd, h, n, b, wr⟩ H) hE.T hE.F hE.X ho hg (hole H hH) (hev' H hH)⟩⟩

/-! ### Regions in order -/

def exOps (os : List Oper) : Env → Sub → Array Oper → AS → KE → Prop :=
  @List.rec Oper (fun _ => Env → Sub → Array Oper → AS → KE → Prop) (fun _ _ _ s K => K .normal s)
    (fun o _ ih E S ops s K => exOp E S ops o s fun e s' => @AEx.rec (fun _ => Prop) (ih E S ops s' K) (fun _ => False) False (fun l => K (.panic l) s') e) os

theorem exOps_ok (hE : E.Ok) (hS : S.Ok E.P) {ops : Array Oper} : ∀ (os : List Oper) (i : Nat) (s : AS) (K : KE), (∀ j o, os[j]? = some o → ops[i + j]? = some o) → exOps os E S ops s K → HEnd s.h s.n →
    ∃ e s', K e s' ∧ Aft s s' ∧ SemR E.P [.inRegion ops (List.range' i os.length)] s e s'
  | [], i, s, K, _, hk, he => ⟨_, _, hk, ⟨he, rfl, Kept.refl _ _ _⟩, fun B H hH => ⟨H, hH, SemT.region_nil⟩⟩
  | o :: os, i, s, K, ho, hk, he => by
    obtain ⟨e, s1, h1, h2, h3⟩ := exOp_ok hE hS (ho 0 o rfl) (K := fun e s' => @AEx.rec (fun _ => Prop) (exOps os E S ops s' K) (fun _ => False) False (fun l => K (.panic l) s') e) hk he
    cases e with
    | normal =>
      obtain ⟨e2, s2, h4, h5, h6⟩ := exOps_ok hE hS os (i + 1) s1 K (fun j o' hj => by
        have := ho (j + 1) o' (by simpa using hj)
        rwa [show i + (j + 1) = i + 1 + j by omega] at this) h1 h2.he
      refine ⟨e2, s2, h4, h2.trans h5, fun B H hH => ?_⟩
      obtain ⟨H1, k1, k2⟩ := h3 B H hH
      obtain ⟨H2, k3, k4⟩ := h6 B H1 k1
      exact ⟨H2, k3, SemT.region_cons k2 k4⟩
    | panic l =>
      refine ⟨_, s1, h1, h2, fun B H hH => ?_⟩
      obtain ⟨H1, k1, k2⟩ := h3 B H hH
      exact ⟨H1, k1, SemT.region_panic k2⟩
    | _ => exact False.elim h1

end
end
end Go.Abs
