/-
  The evaluator: values brought to a form, plans carried out over a heap that is a tree.
-/
import Derived.Test.YtgojpjbbahljeaaGreatDoorA23
/-! The evaluator: values brought to a form, plans carried out over a heap that is a tree. -/
namespace Go.Abs
open Go
noncomputable section

/-! ### Bringing to a form

All of it by the recursors themselves, with closed minor premises: so the kernel carries it out at little cost.
Where the first word is true, nothing is brought to a form (for values that are not closed). -/

abbrev bif2 (b : Bool) (F T : Prop) : Prop := @Bool.rec (fun _ => Prop) F T b

def fcN (y : Bool) (n : Nat) (K : Nat → Prop) : Prop := @Bool.rec (fun _ => Prop) (@Nat.rec (fun _ => Prop) (K 0) (fun m _ => K (Nat.succ m)) n) (K n) y

theorem fcN_ok {y : Bool} {n : Nat} {K : Nat → Prop} (h : fcN y n K) : K n := by
  cases y with
  | true => exact h
  | false => cases n <;> exact h

theorem fcF_ok {n : Nat} {K : Nat → Prop} (h : fcN false n K) : K n := fcN_ok h

def fcI0 (i : Int) (K : Int → Prop) : Prop :=
  @Int.rec (fun _ => Prop) (fun n => fcN false n fun n => K (.ofNat n)) (fun n => fcN false n fun n => K (.negSucc n)) i

theorem fcI0_ok {i : Int} {K : Int → Prop} (h : fcI0 i K) : K i := by
  cases i with
  | ofNat n => exact fcF_ok (K := fun n => K (.ofNat n)) h
  | negSucc n => exact fcF_ok (K := fun n => K (.negSucc n)) h

def fcB (b : Bool) (K : Bool → Prop) : Prop := @Bool.rec (fun _ => Prop) (K false) (K true) b

theorem fcB_ok {b : Bool} {K : Bool → Prop} (h : fcB b K) : K b := by cases b <;> exact h

def fcU (u : UInt8) (K : UInt8 → Prop) : Prop := fcN false u.toNat fun n => K (UInt8.ofNat n)

theorem fcU_ok {u : UInt8} {K : UInt8 → Prop} (h : fcU u K) : K u := by
  have := fcF_ok (K := fun n => K (UInt8.ofNat n)) h
  simpa using this

def fcL0 {α : Type} (f : α → (α → Prop) → Prop) (xs : List α) : (List α → Prop) → Prop :=
  @List.rec α (fun _ => (List α → Prop) → Prop) (fun K => K []) (fun x _ ih K => f x fun x => ih fun xs => K (x :: xs)) xs

theorem fcL0_ok {α : Type} {f : α → (α → Prop) → Prop} (hf : ∀ x K, f x K → K x) : ∀ (xs : List α) (K : List α → Prop), fcL0 f xs K → K xs
  | [], _, h => h
  | x :: xs, K, h => fcL0_ok hf xs (fun xs => K (x :: xs)) (hf x (fun x => fcL0 f xs fun xs => K (x :: xs)) h)

def fcL {α : Type} (y : Bool) (f : α → (α → Prop) → Prop) (xs : List α) (K : List α → Prop) : Prop := @Bool.rec (fun _ => Prop) (fcL0 f xs K) (K xs) y

theorem fcL_ok {α : Type} {y : Bool} {f : α → (α → Prop) → Prop} (hf : ∀ x K, f x K → K x) (xs : List α) (K : List α → Prop) (h : fcL y f xs K) : K xs := by
  cases y with
  | true => exact h
  | false => exact fcL0_ok hf xs K h

/-- The list's spine. -/
def fcS {α : Type} (xs : List α) : (List α → Prop) → Prop :=
  @List.rec α (fun _ => (List α → Prop) → Prop) (fun K => K []) (fun x _ ih K => ih fun xs => K (x :: xs)) xs

theorem fcS_ok {α : Type} : ∀ (xs : List α) (K : List α → Prop), fcS xs K → K xs
  | [], _, h => h
  | x :: xs, K, h => fcS_ok xs (fun xs => K (x :: xs)) h

abbrev FV := (AV → Prop) → Prop

/-- The head alone. -/
def fcH0 (v : AV) : (AV → Prop) → Prop :=
  @AV.rec (fun _ => FV) (fun _ => Unit)
    (fun K => K .unk)
    (fun k n K => K (.int k n))
    (fun b K => K (.bool b))
    (fun s K => K (.str s))
    (fun K => K .nilp)
    (fun o off K => K (.ptr o off))
    (fun xs off _ K => K (.lptr xs off))
    (fun g off K => K (.gp g off))
    (fun K => K .nils)
    (fun o off len cap K => K (.slc o off len cap))
    (fun xs n own _ K => K (.lst xs n own))
    (fun K => K .nilm)
    (fun o K => K (.map o))
    (fun K => K .nilf)
    (fun fn f c _ _ K => K (.func fn f c))
    (fun o K => K (.yld o))
    (fun K => K .nili)
    (fun t a _ K => K (.iface t a))
    (fun cs _ K => K (.agg cs))
    (fun vs _ K => K (.tup vs))
    () (fun _ _ _ _ => ()) v

/-- A truth value. -/
def boolOf (v : AV) : Option Bool :=
  @AV.rec (fun _ => Option Bool) (fun _ => Unit)
    none (fun _ _ => none) (fun b => some b) (fun _ => none) none (fun _ _ => none) (fun _ _ _ => none) (fun _ _ => none) none (fun _ _ _ _ => none) (fun _ _ _ _ => none)
    none (fun _ => none) none (fun _ _ _ _ _ => none) (fun _ => none) none (fun _ _ _ => none) (fun _ _ => none) (fun _ _ => none)
    () (fun _ _ _ _ => ()) v

theorem boolOf_ok {v : AV} {b : Bool} (h : boolOf v = some b) : v = .bool b := by
  cases v <;> cases h <;> rfl

theorem fcH0_ok {v : AV} {K : AV → Prop} (h : fcH0 v K) : K v := by cases v <;> exact h

def fcH (y : Bool) (v : AV) (K : AV → Prop) : Prop := @Bool.rec (fun _ => Prop) (fcH0 v K) (K v) y

theorem fcH_ok {y : Bool} {v : AV} {K : AV → Prop} (h : fcH y v K) : K v := by
  cases y with
  | true => exact h
  | false => exact fcH0_ok h

def fcOwn (w : Own) (K : Own → Prop) : Prop :=
  match w with
  | .no => K .no
  | .full => K .full
  | .ch c => fcN false c fun c => K (.ch c)

theorem fcOwn_ok {w : Own} {K : Own → Prop} (h : fcOwn w K) : K w := by
  cases w with
  | ch c => exact fcF_ok (K := fun c => K (.ch c)) h
  | _ => exact h

/-- The head, and the numbers and spines in it. -/
def fcA0 (v : AV) : (AV → Prop) → Prop :=
  @AV.rec (fun _ => FV) (fun _ => Unit)
    (fun K => K .unk)
    (fun k n K => fcI0 n fun n => K (.int k n))
    (fun b K => fcB b fun b => K (.bool b))
    (fun s K => fcL0 fcU s fun s => K (.str s))
    (fun K => K .nilp)
    (fun o off K => fcN false o fun o => fcN false off fun off => K (.ptr o off))
    (fun xs off _ K => fcL0 fcH0 xs fun xs => fcN false off fun off => K (.lptr xs off))
    (fun g off K => fcN false g fun g => fcN false off fun off => K (.gp g off))
    (fun K => K .nils)
    (fun o off len cap K => fcN false o fun o => fcN false off fun off => fcN false len fun len => fcN false cap fun cap => K (.slc o off len cap))
    (fun xs n own _ K => fcL0 fcH0 xs fun xs => fcN false n fun n => fcOwn own fun own => K (.lst xs n own))
    (fun K => K .nilm)
    (fun o K => fcN false o fun o => K (.map o))
    (fun K => K .nilf)
    (fun fn f c _ _ K => fcL0 fcH0 f fun f => fcL0 fcH0 c fun c => K (.func fn f c))
    (fun o K => K (.yld o))
    (fun K => K .nili)
    (fun t a _ K => fcH0 a fun a => K (.iface t a))
    (fun cs _ K => fcL0 fcH0 cs fun cs => K (.agg cs))
    (fun vs _ K => fcL0 fcH0 vs fun cs => K (.tup cs))
    () (fun _ _ _ _ => ()) v

theorem fcLH {xs : List AV} {K : List AV → Prop} (h : fcL0 fcH0 xs K) : K xs := fcL0_ok (fun _ _ h => fcH0_ok h) xs K h

theorem fcA0_ok {v : AV} {K : AV → Prop} (h : fcA0 v K) : K v := by
  cases v with
  | int k n => exact fcI0_ok (K := fun n => K (.int k n)) h
  | bool b => exact fcB_ok (K := fun b => K (.bool b)) h
  | str s => exact fcL0_ok (fun _ _ h => fcU_ok h) s (fun s => K (.str s)) h
  | ptr o off => exact fcF_ok (K := fun off => K (.ptr o off)) (fcF_ok (K := fun o => fcN false off fun off => K (.ptr o off)) h)
  | gp o off => exact fcF_ok (K := fun off => K (.gp o off)) (fcF_ok (K := fun o => fcN false off fun off => K (.gp o off)) h)
  | lptr xs off => exact fcF_ok (K := fun off => K (.lptr xs off)) (fcLH (K := fun xs => fcN false off fun off => K (.lptr xs off)) h)
  | slc o off len cap =>
    have h1 := fcF_ok (K := fun o => fcN false off fun off => fcN false len fun len => fcN false cap fun cap => K (.slc o off len cap)) h
    have h2 := fcF_ok (K := fun off => fcN false len fun len => fcN false cap fun cap => K (.slc o off len cap)) h1
    have h3 := fcF_ok (K := fun len => fcN false cap fun cap => K (.slc o off len cap)) h2
    exact fcF_ok (K := fun cap => K (.slc o off len cap)) h3
  | lst xs n own =>
    have h1 := fcLH (K := fun xs => fcN false n fun n => fcOwn own fun own => K (.lst xs n own)) h
    have h2 := fcF_ok (K := fun n => fcOwn own fun own => K (.lst xs n own)) h1
    exact fcOwn_ok (K := fun own => K (.lst xs n own)) h2
  | map o => exact fcF_ok (K := fun o => K (.map o)) h
  | func fn f c =>
    have h1 := fcLH (K := fun f => fcL0 fcH0 c fun c => K (.func fn f c)) h
    exact fcLH (K := fun c => K (.func fn f c)) h1
  | agg cs => exact fcLH (K := fun cs => K (.agg cs)) h
  | tup cs => exact fcLH (K := fun cs => K (.tup cs)) h
  | iface t a => exact fcH0_ok (K := fun a => K (.iface t a)) h
  | _ => exact h

/-- The same, and one step into groups. -/
def fcV0 (v : AV) : (AV → Prop) → Prop :=
  @AV.rec (fun _ => FV) (fun _ => Unit)
    (fun K => K .unk)
    (fun k n K => fcI0 n fun n => K (.int k n))
    (fun b K => fcB b fun b => K (.bool b))
    (fun s K => fcL0 fcU s fun s => K (.str s))
    (fun K => K .nilp)
    (fun o off K => fcN false o fun o => fcN false off fun off => K (.ptr o off))
    (fun xs off _ K => fcL0 fcH0 xs fun xs => fcN false off fun off => K (.lptr xs off))
    (fun g off K => fcN false g fun g => fcN false off fun off => K (.gp g off))
    (fun K => K .nils)
    (fun o off len cap K => fcN false o fun o => fcN false off fun off => fcN false len fun len => fcN false cap fun cap => K (.slc o off len cap))
    (fun xs n own _ K => fcL0 fcH0 xs fun xs => fcN false n fun n => fcOwn own fun own => K (.lst xs n own))
    (fun K => K .nilm)
    (fun o K => fcN false o fun o => K (.map o))
    (fun K => K .nilf)
    (fun fn f c _ _ K => fcL0 fcH0 f fun f => fcL0 fcH0 c fun c => K (.func fn f c))
    (fun o K => K (.yld o))
    (fun K => K .nili)
    (fun t a _ K => fcA0 a fun a => K (.iface t a))
    (fun cs _ K => fcL0 fcA0 cs fun cs => K (.agg cs))
    (fun vs _ K => fcL0 fcA0 vs fun cs => K (.tup cs))
    () (fun _ _ _ _ => ()) v

theorem fcV0_ok {v : AV} {K : AV → Prop} (h : fcV0 v K) : K v := by
  cases v with
  | agg cs => exact fcL0_ok (fun _ _ h => fcA0_ok h) cs (fun cs => K (.agg cs)) h
  | tup cs => exact fcL0_ok (fun _ _ h => fcA0_ok h) cs (fun cs => K (.tup cs)) h
  | iface t a => exact fcA0_ok (K := fun a => K (.iface t a)) h
  | _ => exact fcA0_ok h

/-- What is read: its head, and the heads in a group. -/
def fcM0 (v : AV) : (AV → Prop) → Prop :=
  @AV.rec (fun _ => FV) (fun _ => Unit)
    (fun K => K .unk)
    (fun k n K => K (.int k n))
    (fun b K => K (.bool b))
    (fun s K => K (.str s))
    (fun K => K .nilp)
    (fun o off K => K (.ptr o off))
    (fun xs off _ K => K (.lptr xs off))
    (fun g off K => K (.gp g off))
    (fun K => K .nils)
    (fun o off len cap K => K (.slc o off len cap))
    (fun xs n own _ K => K (.lst xs n own))
    (fun K => K .nilm)
    (fun o K => K (.map o))
    (fun K => K .nilf)
    (fun fn f c _ _ K => K (.func fn f c))
    (fun o K => K (.yld o))
    (fun K => K .nili)
    (fun t a _ K => K (.iface t a))
    (fun cs _ K => fcL0 fcH0 cs fun cs => K (.agg cs))
    (fun vs _ K => fcL0 fcH0 vs fun cs => K (.tup cs))
    () (fun _ _ _ _ => ()) v

theorem fcM0_ok {v : AV} {K : AV → Prop} (h : fcM0 v K) : K v := by
  cases v with
  | agg cs => exact fcLH (K := fun cs => K (.agg cs)) h
  | tup cs => exact fcLH (K := fun cs => K (.tup cs)) h
  | _ => exact h

def fcV (y : Bool) (v : AV) (K : AV → Prop) : Prop := @Bool.rec (fun _ => Prop) (fcV0 v K) (fcM0 v K) y

theorem fcV_ok {y : Bool} {v : AV} {K : AV → Prop} (h : fcV y v K) : K v := by
  cases y with
  | true => exact fcM0_ok h
  | false => exact fcV0_ok h

def fcE (p : AV × AV) (K : AV × AV → Prop) : Prop :=
  match p with
  | (a, b) => fcH0 a fun a => fcH0 b fun b => K (a, b)

theorem fcE_ok {p : AV × AV} {K : AV × AV → Prop} (h : fcE p K) : K p := by
  obtain ⟨a, b⟩ := p
  exact fcH0_ok (K := fun b => K (a, b)) (fcH0_ok (K := fun a => fcH0 b fun b => K (a, b)) h)

def fcO0 (x : AObj) (K : AObj → Prop) : Prop :=
  match x with
  | .cells t n ty => fcN false n fun n => K (.cells t n ty)
  | .chain n sz ty => fcN false n fun n => fcN false sz fun sz => K (.chain n sz ty)
  | .mapo es => fcL0 fcE es fun es => K (.mapo es)
  | .siter s pos => fcL0 fcU s fun s => fcN false pos fun pos => K (.siter s pos)
  | x => K x

theorem fcO0_ok {x : AObj} {K : AObj → Prop} (h : fcO0 x K) : K x := by
  cases x with
  | cells t n ty => exact fcF_ok (K := fun n => K (.cells t n ty)) h
  | chain n sz ty => exact fcF_ok (K := fun sz => K (.chain n sz ty)) (fcF_ok (K := fun n => fcN false sz fun sz => K (.chain n sz ty)) h)
  | mapo es => exact fcL0_ok (fun _ _ h => fcE_ok h) es (fun es => K (.mapo es)) h
  | siter s pos =>
    have h1 := fcL0_ok (fun _ _ h => fcU_ok h) s (fun s => fcN false pos fun pos => K (.siter s pos)) h
    exact fcF_ok (K := fun pos => K (.siter s pos)) h1
  | _ => exact h

def fcO (y : Bool) (x : AObj) (K : AObj → Prop) : Prop := @Bool.rec (fun _ => Prop) (fcO0 x K) (K x) y

theorem fcO_ok {y : Bool} {x : AObj} {K : AObj → Prop} (h : fcO y x K) : K x := by
  cases y with
  | true => exact h
  | false => exact fcO0_ok h

/-! ### Trees -/

/-- The values are put behind a tree's end. -/
def putL {α : Type} (xs : List α) : Nat → Tr α → (Tr α → Prop) → Prop :=
  @List.rec α (fun _ => Nat → Tr α → (Tr α → Prop) → Prop) (fun _ t K => K t) (fun x _ ih i t K => t.insK i x fun t => fcN false (Nat.succ i) fun i => ih i t K) xs

theorem putL_ok {α : Type} : ∀ (xs : List α) (i : Nat) (t : Tr α) (K : Tr α → Prop), putL xs i t K → ∃ t', K t' ∧ ∀ j, t'.get j = if i ≤ j ∧ j < i + xs.length then xs[j - i]? else t.get j
  | [], i, t, K, h => ⟨t, h, fun j => by simp; omega⟩
  | x :: xs, i, t, K, h => by
    obtain ⟨t1, h1, h2⟩ := Tr.insK_spec t i (fun t => fcN false (Nat.succ i) fun i => putL xs i t K) h
    obtain ⟨t', h3, h4⟩ := putL_ok xs _ t1 K (fcF_ok (K := fun i => putL xs i t1 K) h1)
    refine ⟨t', h3, fun j => ?_⟩
    rw [h4, h2]
    by_cases e : j = i
    · subst e; simp; intro h; omega
    · rw [if_neg e]
      by_cases h5 : i + 1 ≤ j ∧ j < i + 1 + xs.length
      · rw [if_pos h5, if_pos (by simp only [List.length_cons]; omega)]
        have : j - i = (j - (i + 1)) + 1 := by omega
        rw [this]; simp
      · rw [if_neg h5, if_neg (by simp only [List.length_cons]; omega)]

def setL {α : Type} (xs : List α) : Nat → Tr α → (Tr α → Prop) → Prop :=
  @List.rec α (fun _ => Nat → Tr α → (Tr α → Prop) → Prop) (fun _ t K => K t) (fun x _ ih i t K => t.setK i x fun t => fcN false (Nat.succ i) fun i => ih i t K) xs

theorem setL_ok {α : Type} : ∀ (xs : List α) (i : Nat) (t : Tr α) (K : Tr α → Prop), setL xs i t K → ∃ t', K t' ∧ ∀ j, t'.get j = if i ≤ j ∧ j < i + xs.length then xs[j - i]? else t.get j
  | [], i, t, K, h => ⟨t, h, fun j => by simp; omega⟩
  | x :: xs, i, t, K, h => by
    obtain ⟨t1, h1, _, h2⟩ := Tr.setK_spec t i (fun t => fcN false (Nat.succ i) fun i => setL xs i t K) h
    obtain ⟨t', h3, h4⟩ := setL_ok xs _ t1 K (fcF_ok (K := fun i => setL xs i t1 K) h1)
    refine ⟨t', h3, fun j => ?_⟩
    rw [h4, h2]
    by_cases e : j = i
    · subst e; simp; intro h; omega
    · rw [if_neg e]
      by_cases h5 : i + 1 ≤ j ∧ j < i + 1 + xs.length
      · rw [if_pos h5, if_pos (by simp only [List.length_cons]; omega)]
        have : j - i = (j - (i + 1)) + 1 := by omega
        rw [this]; simp
      · rw [if_neg h5, if_neg (by simp only [List.length_cons]; omega)]

/-- A tree of n places of one value. -/
def repL {α : Type} (x : α) (n : Nat) (K : Tr α → Prop) : Prop := Tr.copyK x 64 n fun _ t => K t

theorem repL_ok {α : Type} {x : α} {n : Nat} {K : Tr α → Prop} (h : repL x n K) : ∃ t, K t ∧ ∀ j, t.get j = if j < n then some x else none := by
  obtain ⟨_, t, h1, _, h2⟩ := Tr.copyK_spec 64 n _ h
  exact ⟨t, h1, h2⟩

/-! ### Plans -/

def hv (h : Tr AObj) (i : Nat) : AObj :=
  match h.get i with
  | some x => x
  | none => .hole

/-- An object is put in its place: at the tree's end, or where there is a place. -/
def putO (h : Tr AObj) (n s : Nat) (x : AObj) (K : Tr AObj → Nat → Prop) : Prop :=
  @Bool.rec (fun _ => Prop) (h.setK s x fun h => K h n) (h.insK s x fun h => fcN false (Nat.succ n) fun n => K h n) (Nat.beq s n)

def HEnd (h : Tr AObj) (n : Nat) : Prop := ∀ i, n ≤ i → h.get i = none

theorem HEnd.hole {h : Tr AObj} {n : Nat} (he : HEnd h n) {i : Nat} (hi : n ≤ i) : hv h i = .hole := by simp [hv, he i hi]

theorem putO_ok {h : Tr AObj} {n s : Nat} {x : AObj} {K : Tr AObj → Nat → Prop} (hp : putO h n s x K) (he : HEnd h n) : ∃ h' n', K h' n' ∧ hv h' = upd (hv h) s x ∧ HEnd h' n' ∧ n ≤ n' := by
  unfold putO at hp
  cases e : Nat.beq s n with
  | true =>
    rw [e] at hp
    have e : s = n := Nat.eq_of_beq_eq_true e
    obtain ⟨h', h1, h2⟩ := Tr.insK_spec h s (fun h => fcN false (Nat.succ n) fun n => K h n) hp
    have h1 := fcF_ok (K := fun n => K h' n) h1
    have hh : hv h' = upd (hv h) s x := by
      funext j
      simp only [hv, upd, h2]
      by_cases e : j = s
      · simp [e]
      · simp [e]
    refine ⟨h', n + 1, h1, hh, fun i hi => ?_, by omega⟩
    rw [h2, if_neg (by omega)]
    exact he i (by omega)
  | false =>
    rw [e] at hp
    obtain ⟨h', h1, ⟨y, hy⟩, h2⟩ := Tr.setK_spec h s (fun h => K h n) hp
    have hh : hv h' = upd (hv h) s x := by
      funext j
      simp only [hv, upd, h2]
      by_cases e : j = s
      · simp [e]
      · simp [e]
    refine ⟨h', n, h1, hh, fun i hi => ?_, Nat.le_refl _⟩
    have hs : s < n := Nat.lt_of_not_le fun hle => by rw [he s hle] at hy; cases hy
    rw [h2, if_neg (by omega)]
    exact he i hi

def getO (h : Tr AObj) (i : Nat) (K : AObj → Prop) : Prop := @Option.rec AObj (fun _ => Prop) False (fun x => K x) (h.get i)

abbrev KP := PRes → List Nat → WL → Tr AObj → Nat → Prop

def setcsK (x : AObj) : Bool → Nat → Nat → List AV → Tr AObj → Nat → (Tr AObj → Nat → AObj → Prop) → Prop :=
  match x with
  | .cells t m ty => fun y i off vs h n K => @Bool.rec (fun _ => Prop) False (fcL0 fcH0 vs fun vs => fcN y off fun off => setL vs off t fun t => putO h n i (.cells t m ty) fun h n => K h n (.cells t m ty)) (Nat.ble (off + vs.length) m)
  | _ => fun _ _ _ _ _ _ _ => False

/-- A plan is carried out over a heap: how it ends, what it has looked at and written, the heap behind it. -/
def runP (p : Plan) : Bool → Nat → Tr AObj → Nat → KP → Prop :=
  @Plan.rec (fun _ => Bool → Nat → Tr AObj → Nat → KP → Prop)
    (fun v _ _ h n K => K (.val v) [] [] h n)
    (fun _ _ h n K => K .skip [] [] h n)
    (fun _ _ _ _ _ => False)
    (fun b _ ih y s h n K => @Bool.rec (fun _ => Prop) False (ih y s h n K) b)
    (fun xs _ ih y s h n K => fcL y fcH0 xs fun xs => ih xs y s h n K)
    (fun i _ ih y s h n K => fcN false i fun i => getO h i fun x => ih x y s h n fun r R W h n => K r (i :: R) W h n)
    (fun i off vs _ ih y s h n K => fcN false i fun i => getO h i fun x => setcsK x y i off vs h n fun h n x' => ih y s h n fun r R W h n => K r (i :: R) ((i, x', bdl vs) :: W) h n)
    (fun i x rb _ ih y s h n K => fcN false i fun i => fcO y x fun x => putO h n i x fun h n => ih y s h n fun r R W h n => K r (i :: R) ((i, x, rb) :: W) h n)
    (fun cs ty _ ih y s h n K => fcL0 fcH0 cs fun cs => putL cs 0 .nil fun t => fcN false cs.length fun m => putO h n s (.cells t m ty) fun h n => ih s y s h n fun r R W h n => K r R ((s, .cells t m ty, bdl cs) :: W) h n)
    (fun m x ty _ ih y s h n K => fcN false m fun m => fcH0 x fun x => repL x m fun t => putO h n s (.cells t m ty) fun h n => ih s y s h n fun r R W h n => K r R ((s, .cells t m ty, bd x) :: W) h n)
    (fun x _ ih y s h n K => fcO y x fun x => putO h n s x fun h n => ih s y s h n fun r R W h n => K r R ((s, x, 0) :: W) h n)
    (fun f args _ _ h n K => fcN false f fun f => fcL0 fcH0 args fun args => K (.call f args) [] [] h n)
    (fun l args _ _ h n K => fcN false l fun l => fcL0 fcH0 args fun args => K (.yld l args) [] [] h n)
    (fun f args _ _ h n K => fcN false f fun f => fcL0 fcH0 args fun args => K (.defr f args) [] [] h n)
    (fun _ _ h n K => K .recover [] [] h n)
    (fun v y _ h n K => fcV y v fun v => K (.panic v) [] [] h n)
    p

def appO (o : Nat → AObj) : WL → Nat → AObj
  | [] => o
  | (i, x, _) :: W => appO (upd o i x) W

theorem app_appO : ∀ (W : WL) (H : AH), (H.app W).o = appO H.o W
  | [], _ => rfl
  | (i, x, r) :: W, H => app_appO W (H.put i x r)

theorem getO_ok {h : Tr AObj} {i : Nat} {K : AObj → Prop} (hg : getO h i K) : K (hv h i) := by
  unfold getO at hg
  unfold hv
  cases e : h.get i with
  | none => rw [e] at hg; exact hg.elim
  | some x => rw [e] at hg; exact hg

theorem fcLH' {y : Bool} {xs : List AV} {K : List AV → Prop} (h : fcL y fcH0 xs K) : K xs := fcL_ok (fun _ _ h => fcH0_ok h) xs K h

theorem setcsK_ok {x : AObj} {y : Bool} {i off : Nat} {vs : List AV} {h : Tr AObj} {n : Nat} {K : Tr AObj → Nat → AObj → Prop} (hk : setcsK x y i off vs h n K) (he : HEnd h n) :
    ∃ t m ty t' h' n', x = .cells t m ty ∧ off + vs.length ≤ m ∧ TSet t off vs t' ∧ K h' n' (.cells t' m ty) ∧ hv h' = upd (hv h) i (.cells t' m ty) ∧ HEnd h' n' ∧ n ≤ n' := by
  cases x with
  | cells t m ty =>
    simp only [setcsK] at hk
    cases hb : Nat.ble (off + vs.length) m with
    | false => rw [hb] at hk; exact hk.elim
    | true =>
      rw [hb] at hk
      have hb := Nat.le_of_ble_eq_true hb
      have h3 := fcN_ok (fcLH (K := fun vs => fcN y off fun off => setL vs off t fun t => putO h n i (.cells t m ty) fun h n => K h n (.cells t m ty)) hk)
      obtain ⟨t', h4, h5⟩ := setL_ok _ _ _ _ h3
      obtain ⟨h', n', h6, h7, h8, h9⟩ := putO_ok h4 he
      exact ⟨t, m, ty, t', h', n', rfl, hb, h5, h6, h7, h8, h9⟩
  | _ => exact hk.elim

theorem runP_ok {y : Bool} {s : Nat} : ∀ (p : Plan) (h : Tr AObj) (n : Nat) (K : KP), runP p y s h n K → HEnd h n →
    ∃ r R W h' n', EvF s p (hv h) r R W ∧ K r R W h' n' ∧ hv h' = appO (hv h) W ∧ HEnd h' n' ∧ n ≤ n'
  | .ret v, h, n, K, hk, he => ⟨_, _, _, _, _, ⟨rfl, rfl, rfl⟩, hk, rfl, he, Nat.le_refl _⟩
  | .skip, h, n, K, hk, he => ⟨_, _, _, _, _, ⟨rfl, rfl, rfl⟩, hk, rfl, he, Nat.le_refl _⟩
  | .fail, _, _, _, hk, _ => False.elim hk
  | .chk b k, h, n, K, hk, he => by
    cases b with
    | false => exact False.elim hk
    | true =>
      obtain ⟨r, R, W, h', n', h1, h2⟩ := runP_ok k h n K hk he
      exact ⟨r, R, W, h', n', ⟨rfl, h1⟩, h2⟩
  | .fL xs k, h, n, K, hk, he => runP_ok (k xs) h n K (fcLH' (K := fun xs => runP (k xs) y s h n K) hk) he
  | .get i k, h, n, K, hk, he => by
    have h1 := fcF_ok (K := fun i => getO h i fun x => runP (k x) y s h n fun r R W h n => K r (i :: R) W h n) hk
    have h2 := getO_ok h1
    obtain ⟨r, R, W, h', n', q1, q2⟩ := runP_ok (k (hv h i)) h n _ h2 he
    exact ⟨r, i :: R, W, h', n', ⟨R, rfl, q1⟩, q2⟩
  | .setcs i off vs k, h, n, K, hk, he => by
    have h1 := getO_ok (fcF_ok (K := fun i => getO h i fun x => setcsK x y i off vs h n fun h n x' => runP k y s h n fun r R W h n => K r (i :: R) ((i, x', bdl vs) :: W) h n) hk)
    obtain ⟨t, m, ty, t', h', n', ho, hb, h5, h6, h7, h8, h9⟩ := setcsK_ok h1 he
    obtain ⟨r, R, W, h'', n'', q1, q2, q3, q4, q5⟩ := runP_ok k h' n' _ h6 h8
    rw [h7] at q1 q3
    exact ⟨r, i :: R, _, h'', n'', ⟨R, W, t, m, ty, t', rfl, ho, hb, h5, rfl, q1⟩, q2, q3, q4, by omega⟩
  | .seto i x rb k, h, n, K, hk, he => by
    have h2 := fcO_ok (fcF_ok (K := fun i => fcO y x fun x => putO h n i x fun h n => runP k y s h n fun r R W h n => K r (i :: R) ((i, x, rb) :: W) h n) hk)
    obtain ⟨h', n', h6, h7, h8, h9⟩ := putO_ok h2 he
    obtain ⟨r, R, W, h'', n'', q1, q2, q3, q4, q5⟩ := runP_ok k h' n' _ h6 h8
    rw [h7] at q1 q3
    exact ⟨r, i :: R, _, h'', n'', ⟨R, W, rfl, rfl, q1⟩, q2, q3, q4, by omega⟩
  | .newl cs ty k, h, n, K, hk, he => by
    have h2 := fcLH (K := fun cs => putL cs 0 .nil fun t => fcN false cs.length fun m => putO h n s (.cells t m ty) fun h n => runP (k s) y s h n fun r R W h n => K r R ((s, .cells t m ty, bdl cs) :: W) h n) hk
    obtain ⟨t, h3, h4⟩ := putL_ok _ _ _ _ h2
    have h5 := fcF_ok h3
    obtain ⟨h', n', h6, h7, h8, h9⟩ := putO_ok h5 he
    obtain ⟨r, R, W, h'', n'', q1, q2, q3, q4, q5⟩ := runP_ok (k s) h' n' _ h6 h8
    rw [h7] at q1 q3
    refine ⟨r, R, _, h'', n'', ⟨W, t, fun j => ?_, rfl, q1⟩, q2, q3, q4, by omega⟩
    rw [h4]
    by_cases hj : j < cs.length
    · simp [hj]
    · simp [hj]
  | .newc m x ty k, h, n, K, hk, he => by
    have h2 := fcH0_ok (fcF_ok (K := fun m => fcH0 x fun x => repL x m fun t => putO h n s (.cells t m ty) fun h n => runP (k s) y s h n fun r R W h n => K r R ((s, .cells t m ty, bd x) :: W) h n) hk)
    obtain ⟨t, h3, h4⟩ := repL_ok h2
    obtain ⟨h', n', h6, h7, h8, h9⟩ := putO_ok h3 he
    obtain ⟨r, R, W, h'', n'', q1, q2, q3, q4, q5⟩ := runP_ok (k s) h' n' _ h6 h8
    rw [h7] at q1 q3
    exact ⟨r, R, _, h'', n'', ⟨W, t, h4, rfl, q1⟩, q2, q3, q4, by omega⟩
  | .newo x k, h, n, K, hk, he => by
    obtain ⟨h', n', h6, h7, h8, h9⟩ := putO_ok (fcO_ok (K := fun x => putO h n s x fun h n => runP (k s) y s h n fun r R W h n => K r R ((s, x, 0) :: W) h n) hk) he
    obtain ⟨r, R, W, h'', n'', q1, q2, q3, q4, q5⟩ := runP_ok (k s) h' n' _ h6 h8
    rw [h7] at q1 q3
    exact ⟨r, R, _, h'', n'', ⟨W, rfl, q1⟩, q2, q3, q4, by omega⟩
  | .call f args, h, n, K, hk, he => ⟨_, _, _, _, _, ⟨rfl, rfl, rfl⟩, fcLH (K := fun args => K (.call f args) [] [] h n) (fcF_ok (K := fun f => fcL0 fcH0 args fun args => K (.call f args) [] [] h n) hk), rfl, he, Nat.le_refl _⟩
  | .yld l args, h, n, K, hk, he => ⟨_, _, _, _, _, ⟨rfl, rfl, rfl⟩, fcLH (K := fun args => K (.yld l args) [] [] h n) (fcF_ok (K := fun f => fcL0 fcH0 args fun args => K (.yld f args) [] [] h n) hk), rfl, he, Nat.le_refl _⟩
  | .defr f args, h, n, K, hk, he => ⟨_, _, _, _, _, ⟨rfl, rfl, rfl⟩, fcLH (K := fun args => K (.defr f args) [] [] h n) (fcF_ok (K := fun f => fcL0 fcH0 args fun args => K (.defr f args) [] [] h n) hk), rfl, he, Nat.le_refl _⟩
  | .recover, h, n, K, hk, he => ⟨_, _, _, _, _, ⟨rfl, rfl, rfl⟩, hk, rfl, he, Nat.le_refl _⟩
  | .panic v, h, n, K, hk, he => ⟨_, _, _, _, _, ⟨rfl, rfl, rfl⟩, fcV_ok (K := fun v => K (.panic v) [] [] h n) hk, rfl, he, Nat.le_refl _⟩

end
end Go.Abs
