/-
  The evaluator: functions, deferred calls; its soundness.
-/
import Derived.Test.YtgojpjbbahljeaaGreatDoorA26
/-! The evaluator: functions, deferred calls; its soundness. -/
namespace Go.Abs
open Go
noncomputable section

def resK (rs : List ResultVar) : Env → Tr AV → Tr AObj → Nat → (List AV → Prop) → Prop :=
  @List.rec ResultVar (fun _ => Env → Tr AV → Tr AObj → Nat → (List AV → Prop) → Prop) (fun _ _ _ _ K => K [])
    (fun r _ ih E tm h n K => match r with
      | .tmp t => fcH0 (aev tm (.tmp t)) fun v => ih E tm h n fun vs => K (v :: vs)
      | .cell a t => runP (pLoad E.T t (aev tm (.tmp a))) E.y 0 h n fun r _ _ _ _ => match r with
        | .val v => fcM0 v fun v => ih E tm h n fun vs => K (v :: vs)
        | _ => False) rs

theorem resK_ok {E : Env} {tm : Tr AV} {h : Tr AObj} {n : Nat} (he : HEnd h n) : ∀ (rs : List ResultVar) (K : List AV → Prop), resK rs E tm h n K → ∃ vs, K vs ∧ ResV E.T tm (hv h) rs vs
  | [], K, hk => ⟨[], hk, rfl⟩
  | .tmp t :: rs, K, hk => by
    obtain ⟨vs, h1, h2⟩ := resK_ok he rs _ (fcH0_ok (K := fun v => resK rs E tm h n fun vs => K (v :: vs)) hk)
    exact ⟨_, h1, vs, rfl, h2⟩
  | .cell a t :: rs, K, hk => by
    obtain ⟨r, R, W, h', n', hev, hk1, _⟩ := runP_ok _ _ _ (fun r _ _ _ _ => match r with
        | .val v => fcM0 v fun v => resK rs E tm h n fun vs => K (v :: vs)
        | _ => False) hk he
    split at hk1
    case h_2 => exact hk1.elim
    rename_i v
    obtain ⟨vs, h1, h2⟩ := resK_ok he rs _ (fcM0_ok (K := fun v => resK rs E tm h n fun vs => K (v :: vs)) hk1)
    exact ⟨_, h1, v, vs, R, W, rfl, hev, h2⟩

abbrev KF := AEnd → APm → Tr AObj → Nat → List Nat → Prop

def pmFits (um : UMode) (pm : APm) : Bool :=
  match um with
  | .ret => match pm with
    | .ret => true
    | _ => false
  | .pan _ => match pm with
    | .pan _ => true
    | _ => false

def umAfter (e : AEnd) (pm1 : APm) : UMode :=
  match e with
  | .ret _ => settleA pm1
  | .panic l => raisedA l pm1

/-- The deferred calls, and the end. -/
def unw (l : List ADf) : Env → Sub → Func → UMode → AS → KF → Prop :=
  @List.rec ADf (fun _ => Env → Sub → Func → UMode → AS → KF → Prop)
    (fun E _ fn um s K => match s with
      | ⟨tm, _, pm, _, h, n, _, wr⟩ => match um with
        | .ret => resK fn.results.toList E tm h n fun vs => K (.ret (oneOrTup vs)) pm h n wr
        | .pan l => K (.panic l) pm h n wr)
    (fun d df ih E S fn um s K => match s with
      | ⟨tm, _, pm, rd, h, n, b, wr⟩ => match d with
        | .call d args => match E.F.get d with
          | none => False
          | some dfn => match dfn.body with
            | none => False
            | some _ => match Nat.ble b n with
              | false => False
              | true => S.fn d .deferred args (pmOf um) h n fun e pm1 h n cw => logW b cw wr fun wr => match pmFits um pm1 with
                | true => ih E S fn (umAfter e pm1) ⟨tm, df, pm, rd, h, n, b, wr⟩ K
                | false => False
        | .mark o => getO h o fun x => match x with
          | .dfr taken => match taken with
            | false => logW b [o] wr fun wr => putO h n o (.dfr true) fun h n => ih E S fn um ⟨tm, df, pm, rd, h, n, b, wr⟩ K
            | true => False
          | _ => False) l

section
variable {E : Env} {S : Sub}

theorem unw_ok (hE : E.Ok) (hS : S.Ok E.P) {f : FuncId} {fn : Func} (hf : E.F.get f = some fn) : ∀ (l : List ADf) (um : UMode) (s : AS) (K : KF), s.df = l → unw l E S fn um s K → HEnd s.h s.n →
    ∃ e pm' h' n' wr, K e pm' h' n' wr ∧ HEnd h' n' ∧ Kept s.b s.h s.wr h' wr ∧ ∀ (B : Nat) (H : AH), H.o = hv s.h → ∃ H' : AH, H'.o = hv h' ∧ USem E.P B f um (s.st H) e pm' H'
  | [], um, s, K, hdf, hk, he => by
    have hpf := (hE.F f fn hf).1
    obtain ⟨tm, df, pm, rd, h, n, b, wr⟩ := s
    simp only at hdf he
    subst hdf
    cases um with
    | ret =>
      obtain ⟨vs, h1, h2⟩ := resK_ok he _ _ hk
      exact ⟨_, _, _, _, _, h1, he, Kept.refl _ _ _, fun B H hH => ⟨H, hH, USem.done_ret (σ := AS.st ⟨tm, [], pm, rd, h, n, b, wr⟩ H) hE.T hpf rfl (by show ResV _ _ H.o _ _; rw [hH]; exact h2)⟩⟩
    | pan l => exact ⟨_, _, _, _, _, hk, he, Kept.refl _ _ _, fun B H hH => ⟨H, hH, USem.done_pan (σ := AS.st ⟨tm, [], pm, rd, h, n, b, wr⟩ H) hpf rfl⟩⟩
  | .call d args :: df, um, s, K, hdf, hk, he => by
    obtain ⟨tm, df0, pm, rd, h, n, b, wr⟩ := s
    simp only at hdf he
    subst hdf
    have hk : (match E.F.get d with
          | none => False
          | some dfn => match dfn.body with
            | none => False
            | some _ => match Nat.ble b n with
              | false => False
              | true => S.fn d .deferred args (pmOf um) h n fun e pm1 h n cw => logW b cw wr fun wr => match pmFits um pm1 with
                | true => unw df E S fn (umAfter e pm1) ⟨tm, df, pm, rd, h, n, b, wr⟩ K
                | false => False) := hk
    split at hk
    case h_1 => exact hk.elim
    rename_i dfn hd
    split at hk
    case h_1 => exact hk.elim
    rename_i c hb
    split at hk
    case h_1 => exact hk.elim
    rename_i hbn
    have hbn := Nat.le_of_ble_eq_true hbn
    obtain ⟨e, pm1, h1, n1, cw, k1, k2, kf, k3⟩ := hS.fn _ _ _ _ _ _ _ hk he
    obtain ⟨wr', k1, w1, w2⟩ := logW_ok _ _ _ k1
    split at k1
    case h_2 => exact k1.elim
    rename_i hfit
    obtain ⟨e', pm', h', n', wr2, q1, q2, kp, q3⟩ := unw_ok hE hS hf df _ ⟨tm, df, pm, rd, h1, n1, b, wr'⟩ K rfl k1 k2
    have kp1 : Kept b h wr h1 wr' := ⟨w1, fun x hx hn => kf x (by omega) fun h => hn (w2 x h hx)⟩
    refine ⟨e', pm', h', n', wr2, q1, q2, kp1.trans kp, fun B H hH => ?_⟩
    obtain ⟨H1, r1, r2⟩ := k3 B H hH
    obtain ⟨H2, r3, r4⟩ := q3 B H1 r1
    have hp : match um with | .ret => pm1 = .ret | .pan _ => ∃ l, pm1 = .pan l := by
      unfold pmFits at hfit
      cases um with
      | ret => cases pm1 <;> simp at hfit ⊢
      | pan l => cases pm1 <;> simp at hfit ⊢
    refine ⟨H2, r3, ?_⟩
    cases e with
    | ret v => exact USem.call (σ := AS.st ⟨tm, .call d args :: df, pm, rd, h, n, b, wr⟩ H) hE.F hd hb rfl r2 (by cases um <;> exact hp) rfl r4
    | panic l => exact USem.call (σ := AS.st ⟨tm, .call d args :: df, pm, rd, h, n, b, wr⟩ H) hE.F hd hb rfl r2 (by cases um <;> exact hp) rfl r4
  | .mark o :: df, um, s, K, hdf, hk, he => by
    obtain ⟨tm, df0, pm, rd, h, n, b, wr⟩ := s
    simp only at hdf he
    subst hdf
    have h1 := getO_ok (K := fun x => match x with
          | .dfr taken => match taken with
            | false => logW b [o] wr fun wr => putO h n o (.dfr true) fun h n => unw df E S fn um ⟨tm, df, pm, rd, h, n, b, wr⟩ K
            | true => False
          | _ => False) hk
    split at h1
    case h_2 => exact h1.elim
    rename_i taken ho
    split at h1
    case h_2 => exact h1.elim
    obtain ⟨wr', h1, w1, w2⟩ := logW_ok _ _ _ h1
    obtain ⟨h2, n2, k1, k2, k3, _⟩ := putO_ok h1 he
    obtain ⟨e', pm', h', n', wr2, q1, q2, kp, q3⟩ := unw_ok hE hS hf df um ⟨tm, df, pm, rd, h2, n2, b, wr'⟩ K rfl k1 k3
    have kp1 : Kept b h wr h2 wr' := Kept.put k2 w1 (w2 o (by simp))
    refine ⟨e', pm', h', n', wr2, q1, q2, kp1.trans kp, fun B H hH => ?_⟩
    obtain ⟨H2, r3, r4⟩ := q3 B (H.put o (.dfr true) 0) (by rw [k2, ← hH]; rfl)
    exact ⟨H2, r3, USem.mark (σ := AS.st ⟨tm, .mark o :: df, pm, rd, h, n, b, wr⟩ H) rfl (by show H.o o = _; rw [hH]; exact ho) r4⟩

def pmKeep (a b : APm) : Bool :=
  match a with
  | .pan _ => true
  | _ => match b with
    | .pan _ => false
    | _ => true

theorem pmKeep_ok {a b : APm} (h : pmKeep a b = true) : (∀ l, a ≠ .pan l) → ∀ l, b ≠ .pan l := by
  intro ha l e
  subst e
  unfold pmKeep at h
  split at h
  · exact ha _ rfl
  · cases h

def exEnd (E : Env) (S : Sub) (fn : Func) (pm : APm) (K : KF) (e : AEx) (s : AS) : Prop :=
  match s with
  | ⟨tm, df, pm1, rd, h, n, b, wr⟩ => match pmKeep pm pm1 with
    | false => False
    | true => match e with
      | .normal => unw df E S fn .ret ⟨tm, df, pm1, rd, h, n, b, wr⟩ fun e pm' h n wr => match pmKeep pm1 pm' with
        | true => K e pm' h n wr
        | false => False
      | .ret => unw df E S fn .ret ⟨tm, df, pm1, rd, h, n, b, wr⟩ fun e pm' h n wr => match pmKeep pm1 pm' with
        | true => K e pm' h n wr
        | false => False
      | .panic l => unw df E S fn (.pan l) ⟨tm, df, pm1, rd, h, n, b, wr⟩ fun e pm' h n wr => match pmKeep pm1 pm' with
        | true => K e pm' h n wr
        | false => False
      | .exit _ => False

def exFn (E : Env) (S : Sub) (f : FuncId) (_κ : CallKind) (args : List AV) (pm : APm) (h : Tr AObj) (n : Nat) (K : KF) : Prop :=
  match E.F.get f with
  | none => False
  | some fn => match fn.body with
    | none => False
    | some c => fcN E.y fn.ntmps fun m => match Nat.ble args.length m with
      | false => False
      | true => repL .unk m fun t => setL args 0 t fun tm => S.code c ⟨tm, [], pm, false, h, n, n, []⟩ (exEnd E S fn pm K)

def exFits (e : AEx) (um : UMode) : Prop :=
  match e with
  | .normal => um = .ret
  | .ret => um = .ret
  | .panic l => um = .pan l
  | .exit _ => False

theorem exFn_ok (hE : E.Ok) (hS : S.Ok E.P) (f : FuncId) (κ : CallKind) (args : List AV) (pm : APm) (h : Tr AObj) (n : Nat) (K : KF) (hk : exFn E S f κ args pm h n K) (he : HEnd h n) :
    ∃ e pm' h' n' cw, K e pm' h' n' cw ∧ HEnd h' n' ∧ (∀ x, x < n → x ∉ cw → hv h' x = hv h x) ∧ ∀ (B : Nat) (H : AH), H.o = hv h → ∃ H' : AH, H'.o = hv h' ∧ FSem E.P B f κ args pm H e pm' H' := by
  unfold exFn at hk
  split at hk
  case h_1 => exact hk.elim
  rename_i fn hf
  split at hk
  case h_1 => exact hk.elim
  rename_i c hb
  have hk := fcN_ok hk
  split at hk
  case h_1 => exact hk.elim
  rename_i hle
  have hle := Nat.le_of_ble_eq_true hle
  obtain ⟨t, h1, h2⟩ := repL_ok hk
  obtain ⟨tm, h3, h4⟩ := setL_ok _ _ _ _ h1
  have hinit : InitTm args fn.ntmps tm := fun j => by
    rw [h4]
    by_cases hj : j < args.length
    · simp [hj]
    · rw [if_neg (by omega), if_neg hj, h2]
  obtain ⟨e, s, h5, h6, h7⟩ := hS.code _ _ _ h3 he
  obtain ⟨tm1, df, pm1, rd, hh, n1, b1, wr1⟩ := s
  simp only [exEnd] at h5
  split at h5
  case h_1 => exact h5.elim
  rename_i hpk
  have main : ∀ um : UMode, exFits e um →
      unw df E S fn um ⟨tm1, df, pm1, rd, hh, n1, b1, wr1⟩ (fun e pm' h n wr => match pmKeep pm1 pm' with | true => K e pm' h n wr | false => False) →
      ∃ e pm' h' n' cw, K e pm' h' n' cw ∧ HEnd h' n' ∧ (∀ x, x < n → x ∉ cw → hv h' x = hv h x) ∧ ∀ (B : Nat) (H : AH), H.o = hv h → ∃ H' : AH, H'.o = hv h' ∧ FSem E.P B f κ args pm H e pm' H' := by
    intro um hum hu
    obtain ⟨e', pm', h', n', wr, q1, q2, kp, q3⟩ := unw_ok hE hS hf df um _ _ rfl hu h6.he
    have kp0 : Kept n h [] hh wr1 := h6.kept
    have hb1 : b1 = n := h6.b
    subst hb1
    split at q1
    case h_2 => exact q1.elim
    rename_i hpk2
    refine ⟨e', pm', h', n', wr, q1, q2, (kp0.trans kp).same, fun B H hH => ?_⟩
    obtain ⟨H1, k1, k2⟩ := h7 B H hH
    obtain ⟨H2, k3, k4⟩ := q3 B H1 k1
    exact ⟨H2, k3, FSem.body (σ1 := AS.st ⟨tm1, df, pm1, rd, hh, n1, b1, wr1⟩ H1) hE.F hf hb hle hinit (ex := e) (um := um) (by cases e <;> exact hum) k2 (pmKeep_ok hpk) k4 (pmKeep_ok hpk2)⟩
  cases e with
  | normal => exact main .ret rfl h5
  | ret => exact main .ret rfl h5
  | panic l => exact main (.pan l) rfl h5
  | exit id => exact h5.elim

/-- The runners of a depth. -/
def sub (E : Env) (fuel : Nat) (d : Nat) : Sub :=
  @Nat.rec (fun _ => Sub) ⟨fun _ _ _ => False, fun _ _ _ _ _ _ _ => False, fun _ _ _ _ _ => False, fun _ _ _ _ => False, fun _ _ _ _ => False⟩
    (fun _ ih => ⟨fun c s K => exC c E ih s K, exFn E ih, fun f args h n K => exFn E ih f .normal args .no h n fun e _ h n cw => K e h n cw, fun _ f s K => iter fuel f s K, fun ops n rs Q => @Bool.rec (fun _ => Prop) False Q (drawnOk ops n rs)⟩) d

theorem sub_ok (hE : E.Ok) (fuel : Nat) : ∀ d, (sub E fuel d).Ok E.P
  | 0 => ⟨fun _ _ _ h => False.elim h, fun _ _ _ _ _ _ _ h => False.elim h, fun _ _ _ _ _ h => False.elim h, fun _ _ _ _ _ h => False.elim h, fun _ _ _ _ h => False.elim h⟩
  | d + 1 => ⟨exC_ok hE (sub_ok hE fuel d), exFn_ok hE (sub_ok hE fuel d), fun f args h n K hk he => by
      obtain ⟨e, pm', h', n', cw, k1, k2, kf, k3⟩ := exFn_ok hE (sub_ok hE fuel d) f .normal args .no h n _ hk he
      refine ⟨e, h', n', cw, k1, k2, kf, fun B H hH => ?_⟩
      obtain ⟨H', k4, k5⟩ := k3 B H hH
      exact ⟨H', k4, CSem.of_F k5⟩, fun c f hf s K hk he => iter_ok hf fuel s K hk he, fun ops n rs Q h => by
      have h : @Bool.rec (fun _ => Prop) False Q (drawnOk ops n rs) := h
      cases hd : drawnOk ops n rs with
      | false => rw [hd] at h; exact False.elim h
      | true => rw [hd] at h; exact ⟨rfl, h⟩⟩

/-- A call from no heap, with a result without references. -/
def runV (E : Env) (fuel d : Nat) (f : FuncId) (args : List AV) (v : AV) : Prop :=
  (sub E fuel d).fn f .normal args .no .nil 0 fun e _ _ _ _ => match e with
    | .ret u => bif2 (eqA (wk u) v) False True
    | .panic _ => False

theorem runV_ok (hE : E.Ok) {fuel d : Nat} {f : FuncId} {args : List AV} {v : AV} (h : runV E fuel d f args v) (ha : norefs args = true) (hv : noref v = true) : Pure E.P f args v := by
  obtain ⟨e, pm', h', n', _, h1, h2, _, h3⟩ := (sub_ok hE fuel d).fn f .normal args .no .nil 0 _ h HEnd_nil
  cases e with
  | panic l => exact h1.elim
  | ret u =>
    cases he : eqA (wk u) v with
    | false => simp only at h1; rw [he] at h1; exact False.elim h1
    | true =>
      have e := eqA_ok _ _ he
      subst e
      refine pure_of (fun B => ?_) (norefs_ok _ ha) (Wk.wk u) (noref_ok _ hv)
      obtain ⟨H', h4, h5⟩ := h3 B AH.nil hv_nil.symm
      exact ⟨H', CSem.of_F h5⟩

end
end
end Go.Abs
