/-
  Equal values; a table of pure calls.
-/
import Derived.Test.YtgojpjbbahljeaaGreatDoorA23
/-! Equal values; a table of pure calls. -/
namespace Go.Abs
open Go
noncomputable section

def eqK : IntKind → IntKind → Bool := fun a b => decide (a = b)

def eqI (a b : Int) : Bool :=
  match a with
  | .ofNat n => match b with
    | .ofNat m => Nat.beq n m
    | .negSucc _ => false
  | .negSucc n => match b with
    | .ofNat _ => false
    | .negSucc m => Nat.beq n m

theorem eqI_ok {a b : Int} (h : eqI a b = true) : a = b := by
  cases a <;> cases b <;> simp only [eqI] at h
  · rw [Nat.eq_of_beq_eq_true h]
  · cases h
  · cases h
  · rw [Nat.eq_of_beq_eq_true h]

def eqB (a b : Bool) : Bool :=
  match a with
  | true => b
  | false => match b with
    | true => false
    | false => true

theorem eqB_ok {a b : Bool} (h : eqB a b = true) : a = b := by cases a <;> cases b <;> simp_all [eqB]

def eqS : List UInt8 → List UInt8 → Bool
  | [], ys => match ys with
    | [] => true
    | _ :: _ => false
  | x :: xs, ys => match ys with
    | [] => false
    | y :: ys => match Nat.beq x.toNat y.toNat with
      | true => eqS xs ys
      | false => false

theorem eqS_ok : ∀ (a b : List UInt8), eqS a b = true → a = b
  | [], [], _ => rfl
  | [], _ :: _, h => by simp [eqS] at h
  | _ :: _, [], h => by simp [eqS] at h
  | x :: xs, y :: ys, h => by
    simp only [eqS] at h
    split at h
    · rename_i e
      rw [eqS_ok xs ys h, UInt8.toNat_inj.1 (Nat.eq_of_beq_eq_true e)]
    · cases h

mutual
def eqA : AV → AV → Bool
  | .int k n, v => match v with
    | .int k' n' => match eqK k k' with
      | true => eqI n n'
      | false => false
    | _ => false
  | .bool b, v => match v with
    | .bool b' => eqB b b'
    | _ => false
  | .str s, v => match v with
    | .str s' => eqS s s'
    | _ => false
  | .nilp, v => match v with
    | .nilp => true
    | _ => false
  | .nils, v => match v with
    | .nils => true
    | _ => false
  | .nili, v => match v with
    | .nili => true
    | _ => false
  | .lst xs n own, v => match v with
    | .lst ys m own' => match own with
      | .no => match own' with
        | .no => match Nat.beq n m with
          | true => eqAs xs ys
          | false => false
        | _ => false
      | .full => match own' with
        | .full => match Nat.beq n m with
          | true => eqAs xs ys
          | false => false
        | _ => false
      | .ch _ => false
    | _ => false
  | .agg xs, v => match v with
    | .agg ys => eqAs xs ys
    | _ => false
  | .tup xs, v => match v with
    | .tup ys => eqAs xs ys
    | _ => false
  | _, _ => false
def eqAs : List AV → List AV → Bool
  | [], ys => match ys with
    | [] => true
    | _ :: _ => false
  | x :: xs, ys => match ys with
    | [] => false
    | y :: ys => match eqA x y with
      | true => eqAs xs ys
      | false => false
end

mutual
theorem eqA_ok : ∀ (a b : AV), eqA a b = true → a = b
  | .int k n, b, h => by
    simp only [eqA] at h
    split at h <;> try cases h
    split at h <;> try cases h
    rename_i e
    rw [of_decide_eq_true e, eqI_ok h]
  | .bool x, b, h => by
    simp only [eqA] at h
    split at h <;> try cases h
    rw [eqB_ok h]
  | .str s, b, h => by
    simp only [eqA] at h
    split at h <;> try cases h
    rw [eqS_ok _ _ h]
  | .nilp, b, h => by
    simp only [eqA] at h
    split at h <;> first | rfl | cases h
  | .nils, b, h => by
    simp only [eqA] at h
    split at h <;> first | rfl | cases h
  | .nili, b, h => by
    simp only [eqA] at h
    split at h <;> first | rfl | cases h
  | .lst xs n own, b, h => by
    simp only [eqA] at h
    split at h <;> try cases h
    split at h <;> try cases h
    · split at h <;> try cases h
      split at h <;> try cases h
      rename_i e
      rw [Nat.eq_of_beq_eq_true e, eqAs_ok _ _ h]
    · split at h <;> try cases h
      split at h <;> try cases h
      rename_i e
      rw [Nat.eq_of_beq_eq_true e, eqAs_ok _ _ h]
  | .agg xs, b, h => by
    simp only [eqA] at h
    split at h <;> try cases h
    rw [eqAs_ok _ _ h]
  | .tup xs, b, h => by
    simp only [eqA] at h
    split at h <;> try cases h
    rw [eqAs_ok _ _ h]
  | .unk, _, h => by simp [eqA] at h
  | .ptr _ _, _, h => by simp [eqA] at h
  | .lptr _ _, _, h => by simp [eqA] at h
  | .gp _ _, _, h => by simp [eqA] at h
  | .slc _ _ _ _, _, h => by simp [eqA] at h
  | .nilm, _, h => by simp [eqA] at h
  | .map _, _, h => by simp [eqA] at h
  | .nilf, _, h => by simp [eqA] at h
  | .func _ _ _, _, h => by simp [eqA] at h
  | .yld _, _, h => by simp [eqA] at h
  | .iface _ _, _, h => by simp [eqA] at h
theorem eqAs_ok : ∀ (a b : List AV), eqAs a b = true → a = b
  | [], b, h => by
    simp only [eqAs] at h
    split at h <;> first | rfl | cases h
  | x :: xs, b, h => by
    simp only [eqAs] at h
    split at h <;> try cases h
    split at h <;> try cases h
    rename_i e
    rw [eqA_ok _ _ e, eqAs_ok _ _ h]
end

abbrev Memo := List (FuncId × List AV × AV)

def lookM : Memo → FuncId → List AV → Option AV
  | [], _, _ => none
  | e :: r, f, args => match Nat.beq e.1 f with
    | true => match eqAs e.2.1 args with
      | true => some e.2.2
      | false => lookM r f args
    | false => lookM r f args

def MOK (P : Program) (M : Memo) : Prop := ∀ e, e ∈ M → Pure P e.1 e.2.1 e.2.2

theorem lookM_ok {P : Program} {f : FuncId} {args : List AV} {v : AV} : ∀ (M : Memo), MOK P M → lookM M f args = some v → Pure P f args v
  | [], _, h => by simp [lookM] at h
  | e :: r, hm, h => by
    simp only [lookM] at h
    have hr : MOK P r := fun x hx => hm x (List.mem_cons_of_mem _ hx)
    split at h
    · rename_i e1
      split at h
      · rename_i e2
        cases h
        have := hm e (by simp)
        rw [Nat.eq_of_beq_eq_true e1, eqAs_ok _ _ e2] at this
        exact this
      · exact lookM_ok r hr h
    · exact lookM_ok r hr h

end
end Go.Abs
