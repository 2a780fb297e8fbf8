/-
  Calls, and the plan of any operation.
-/
import Derived.Test.YtgojpjbbahljeaaGreatDoorA14
import Derived.Lib.Bytealg
import Derived.Laws.Externs
/-! Calls, and the plan of any operation. -/
namespace Go.Abs
open Go
noncomputable section

def extFn : ExtK → Array Value → Sem Value
  | .count => Extern.BytealgCount.count
  | .indexByte => Extern.BytealgIndexByte.indexByte

def XOK (P : Program) (X : XT) : Prop :=
  (∀ f k, X.ext f = some k → ∀ args w, (callFunc f args).run P w = ((extFn k args).run P w).andThen fun v w' => .ok (.value v) w') ∧ QOK P X.eqv

def pExt (k : ExtK) (args : List AV) : Plan :=
  match args with
  | a :: as => match as with
    | b :: bs => match bs with
      | [] => match a with
        | .str l => match b with
          | .int kd c => match kd with
            | .u8 => match k with
              | .count => .ret (.int .i64 (Lib.countByte l c.toNat.toUInt8 : Nat))
              | .indexByte => .ret (.int .i64 (Lib.indexByte l c.toNat.toUInt8))
            | _ => .fail
          | _ => .fail
        | _ => .fail
      | _ => .fail
    | _ => .fail
  | _ => .fail

section
variable {P : Program} {T : Tr TypeInfo} {F : Tr Func} {g : Gh} {B : Nat} {w : World} {H : AH} {s : Nat} {ev : Operand → AV} {ρ : Operand → Value} {r : PRes} {R : List Nat} {W : WL}

theorem pExt_ok (hr : HRel g B w H) {X : XT} (hX : XOK P X) {f : FuncId} {k : ExtK} (hf : X.ext f = some k) {args : List AV} {vs : Array Value} (hv : VRels g w args vs.toList)
    (h : EvF s (pExt k args) H.o r R W) : OpRes g B w H W ((callFunc f vs).run P w) r := by
  unfold pExt at h
  split at h <;> try exact h.elim
  split at h <;> try exact h.elim
  split at h <;> try exact h.elim
  split at h <;> try exact h.elim
  rename_i l
  split at h <;> try exact h.elim
  split at h <;> try exact h.elim
  rename_i c _
  obtain ⟨u, us, e1, h1, u2, us2, e2, h2, e3⟩ := hv
  simp only [VRel] at h1 h2
  simp only [VRels] at e3
  subst h1; subst h2; subst e3; subst e2
  have hvs : vs = #[.string ⟨l.toArray⟩, .int .u8 c] := by
    apply Array.ext'
    rw [e1]
  subst hvs
  split at h
  · obtain ⟨rfl, rfl⟩ := evF_ret h
    refine OpRes.pure hr (u := .int .i64 (Lib.countByte l c.toNat.toUInt8 : Nat)) ?_ (by simp [VRel]) trivial
    rw [hX.1 f _ hf]
    simp only [extFn]
    rw [Lib.run_countString]
    rfl
  · obtain ⟨rfl, rfl⟩ := evF_ret h
    refine OpRes.pure hr (u := .int .i64 (Lib.indexByte l c.toNat.toUInt8)) ?_ (by simp [VRel]) trivial
    rw [hX.1 f _ hf]
    simp only [extFn]
    rw [Lib.run_indexByteString]
    rfl

/-- A call of a function by its number. -/
def pCallF (F : Tr Func) (X : XT) (f : FuncId) (args : List AV) : Plan :=
  match F.get f with
  | some fn => match fn.body with
    | some _ => .fL args fun l => .call f l
    | none => match X.ext f with
      | some k => pExt k args
      | none => .fail
  | none => .fail

theorem pCallF_ok (hF : FOK P F) (hr : HRel g B w H) {X : XT} (hX : XOK P X) {f : FuncId} {args : List AV} {vs : Array Value} (hv : VRels g w args vs.toList) (hl : Lives H.L args)
    (h : EvF s (pCallF F X f args) H.o r R W) : OpRes g B w H W ((callFunc f vs).run P w) r := by
  unfold pCallF at h
  split at h <;> try exact h.elim
  rename_i fn hfn
  obtain ⟨h1, h2⟩ := hF f fn hfn
  split at h
  · rename_i body hb
    obtain ⟨rfl, _, rfl⟩ := h
    refine ⟨rfl, vs, ?_, hv, hl⟩
    simp only [callFunc, Sem.run_bind, run_program, Result.andThen_ok, h1, h2, Bool.false_eq_true, if_false, hb, Option.isNone_some, Sem.run_pure]
  · split at h <;> try exact h.elim
    rename_i k hk
    exact pExt_ok hr hX hk hv h

def pCallV (F : Tr Func) (X : XT) (fv : AV) (args : List AV) : Plan :=
  match fv with
  | .func fn first cap => match fn with
    | .func f => pCallF F X f (first ++ (args ++ cap))
    | _ => .fail
  | .yld l => .get l fun y => match y with
    | .loop _ _ _ _ params _ _ _ => .chk (lenIs args params.length) (.fL args fun as => .yld l as)
    | _ => .fail
  | _ => .fail

theorem pCallV_ok (c : OCtx P T F g B w H s ev ρ) {X : XT} (hX : XOK P X) {fo : Operand} {args : Array Operand} (h : EvF s (pCallV F X (ev fo) (args.toList.map ev)) H.o r R W) :
    OpRes g B w H W ((do let d ← Deferred.ofValue (ρ fo) (args.map ρ); invoke d.target d.args : Sem Next).run P w) r := by
  have hf := c.rel fo
  have hlf := c.live fo
  obtain ⟨ha, hla⟩ := VRels.map c args.toList
  have ha' : VRels g w (args.toList.map ev) (args.map ρ).toList := by simpa using ha
  unfold pCallV at h
  split at h
  · rename_i fn first cap ef
    rw [ef] at hf hlf
    obtain ⟨vf, vc, e1, h1, h2⟩ := hf
    split at h <;> try exact h.elim
    rename_i f
    have hall : VRels g w (first ++ (args.toList.map ev ++ cap)) ((vf ++ args.map ρ) ++ vc).toList := by
      rw [Array.toList_append, Array.toList_append, List.append_assoc]
      exact h1.append (ha'.append h2)
    have := pCallF_ok c.F c.h hX hall (Lives.append hlf.1 (Lives.append hla hlf.2)) h
    simpa [e1, Deferred.ofValue, invoke] using this
  · rename_i l ef
    rw [ef] at hf hlf
    simp only [VRel] at hf
    obtain ⟨R', _, h⟩ := h
    simp only at h
    split at h <;> try exact h.elim
    rename_i st fn tm nt params assign body dfr ho
    obtain ⟨hn, h⟩ := h
    obtain ⟨rfl, _, rfl⟩ := h
    have hn := lenIs_ok hn
    have hr := c.h.rel l
    rw [ho] at hr
    obtain ⟨lp, q1, q2, q3, q4, q6, q7, q8, q9, q10⟩ := hr
    have hsz : (args.map ρ).size = params.length := by
      have := ha'.length
      simpa [hn] using this
    have hps : lp.params.size = params.length := by rw [← q7]; simp
    refine ⟨rfl, hlf, args.map ρ, ⟨st, fn, tm, nt, params, assign, body, dfr, ho, hsz, lp, q1, ?_⟩, ha', hla⟩
    simp [hf, Deferred.ofValue, invoke, Instr.yield, Instr.getLoop, getObj, Sem.run, q1, hps, ← hsz]
  · exact h.elim

end
end
end Go.Abs
