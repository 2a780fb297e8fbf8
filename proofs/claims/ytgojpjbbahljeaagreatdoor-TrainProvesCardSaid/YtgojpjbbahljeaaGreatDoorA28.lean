/-
  From the evaluator to the calls of a program.
-/
import Derived.Test.YtgojpjbbahljeaaGreatDoorA27
/-! From the evaluator to the calls of a program. -/
namespace Go.Abs
open Go
noncomputable section

def EOK (P : Program) (X : FuncId → Option ExtK) : Prop :=
  ∀ f k, X f = some k → ∀ args w, (callFunc f args).run P w = ((extFn k args).run P w).andThen fun v w' => .ok (.value v) w'

def mkEnv (P : Program) (X : FuncId → Option ExtK) (y : Bool) (pu : FuncId → Bool) (M : Memo) (K : Env → Prop) : Prop :=
  putL P.types.toList 0 .nil fun T => putL P.funcs.toList 0 .nil fun F => K ⟨P, T, F, ⟨X, eqvOf P T⟩, y, pu, M⟩

theorem mkEnv_ok {P : Program} {X : FuncId → Option ExtK} {y : Bool} {pu : FuncId → Bool} {M : Memo} {K : Env → Prop} (h : mkEnv P X y pu M K) (hn : (P.funcs.toList.all fun fn => !(fn.name == "runtime.NumGoroutine")) = true) (hX : EOK P X) (hm : P.follows .mixedOrders = true) (hM : MOK P M) :
    ∃ E : Env, K E ∧ E.Ok ∧ E.P = P := by
  obtain ⟨T, h1, h2⟩ := putL_ok _ _ _ _ h
  obtain ⟨F, h3, h4⟩ := putL_ok _ _ _ _ h1
  have hT : TOK P T := by
    intro t i hi
    have hi : T.get t = some i := hi
    rw [h2] at hi
    split at hi
    · rename_i hlt
      have hlt' : t < P.types.size := by simpa using hlt.2
      have hi' : P.types[t]? = some i := by simpa using hi
      show P.toTables.info? t = some i
      unfold Tables.info?
      rw [if_pos hlt']
      exact hi'
    · simp at hi
  refine ⟨⟨P, T, F, ⟨X, eqvOf P T⟩, y, pu, M⟩, h3, ⟨hT, ?_, ⟨hX, eqvOf_ok hT⟩, hm, hM⟩, rfl⟩
  intro f fn hf
  have hf : F.get f = some fn := hf
  rw [h4] at hf
  split at hf
  · have hf' : P.funcs.toList[f]? = some fn := by simpa using hf
    refine ⟨by simpa using hf', ?_⟩
    have := List.all_eq_true.1 hn fn (List.mem_of_getElem? hf')
    simpa using this
  · simp at hf

theorem HRel.empty (w : World) : HRel ⟨fun _ => 0, fun _ => 0, fun _ => 0, fun _ => 0, fun _ => 0⟩ w.heap.size w ⟨0, 0, fun _ => .hole⟩ where
  wf := fun _ _ => rfl
  ge := fun _ h => absurd rfl h
  inj := fun _ _ h => absurd rfl h
  rel := fun _ => trivial
  live := fun _ => trivial
  kp := fun _ => trivial
  imz := fun _ _ => rfl
  hB := Nat.le_refl _

theorem HRel.nil (w : World) : HRel ⟨fun _ => 0, fun _ => 0, fun _ => 0, fun _ => 0, fun _ => 0⟩ w.heap.size w AH.nil := HRel.empty w

/-- What a pure call with no arguments does, in the kit's own words. -/
theorem Pure.calls {P : Program} {f : FuncId} {w : World} {b : Bool} (h : Pure P f [] (.bool b)) :
    Calls P f #[] w (fun e w' => e = .returned (.bool b) ∧ RowKit.Below w.heap.size w w') := by
  intro cs
  obtain ⟨g', fr', w', h1, h2, h3, u, h4, h5, _⟩ := h.2 w.heap.size AH.nil _ #[] cs w (HRel.nil w) (by simp [VRels]) trivial
  simp only [VRel] at h5
  subst h5
  exact ⟨.returned (.bool b), w', fr', ⟨rfl, h1.below⟩, h2, h3, h4⟩

theorem pure_run {P : Program} {X : FuncId → Option ExtK} {y : Bool} {pu : FuncId → Bool} {M : Memo} {fuel d : Nat} {f : FuncId} {args : List AV} {v : AV} (h : mkEnv P X y pu M fun E => runV E fuel d f args v)
    (hn : (P.funcs.toList.all fun fn => !(fn.name == "runtime.NumGoroutine")) = true) (hX : EOK P X) (hm : P.follows .mixedOrders = true) (hM : MOK P M) (ha : norefs args = true) (hv : noref v = true) : Pure P f args v := by
  obtain ⟨E, h1, h2, rfl⟩ := mkEnv_ok h hn hX hm hM
  exact runV_ok h2 h1 ha hv

end
end Go.Abs
