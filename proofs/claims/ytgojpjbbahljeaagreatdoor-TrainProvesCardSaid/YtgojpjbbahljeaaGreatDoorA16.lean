/-
  The plan of any operation.
-/
import Derived.Test.YtgojpjbbahljeaaGreatDoorA15
/-! The plan of any operation. -/
namespace Go.Abs
open Go
noncomputable section

section
variable {P : Program} {T : Tr TypeInfo} {F : Tr Func} {g : Gh} {B : Nat} {w : World} {H : AH} {s : Nat} {ev : Operand → AV} {ρ : Operand → Value} {r : PRes} {R : List Nat} {W : WL}

def pInvoke (T : Tr TypeInfo) (F : Tr Func) (X : XT) (recv : AV) (name : String) (args : List AV) : Plan :=
  match recv with
  | .iface t v => match T.get t with
    | some i => match i.methods.find? (·.name == name) with
      | some m => match m.path.toList with
        | [] => match m.func with
          | some (f, pr) => match tyU T t with
            | some (.pointer _) => match pr with
              | true => pCallF F X f (v :: args)
              | false => .fail
            | some _ => match pr with
              | false => pCallF F X f (v :: args)
              | true => .fail
            | none => .fail
          | none => .fail
        | _ => .fail
      | none => .fail
    | none => .fail
  | _ => .fail

theorem pInvoke_ok (c : OCtx P T F g B w H s ev ρ) {X : XT} (hX : XOK P X) {x : Operand} {name : String} {args : List Operand} {vs : Array Value} (hvs : vs.toList = args.map ρ)
    (h : EvF s (pInvoke T F X (ev x) name (args.map ev)) H.o r R W) :
    OpRes g B w H W ((callMethod (ρ x) name vs).run P w) r := by
  have hx := c.rel x
  have hl := c.live x
  obtain ⟨ha, hla⟩ := VRels.map c args
  unfold pInvoke at h
  split at h <;> try exact h.elim
  rename_i t v ex
  rw [ex] at hx hl
  obtain ⟨u, eu, hv⟩ := hx
  split at h <;> try exact h.elim
  rename_i i hi
  have hi' := run_typeInfo_ok c.T hi w
  split at h <;> try exact h.elim
  rename_i m hm
  split at h <;> try exact h.elim
  rename_i hpath
  split at h <;> try exact h.elim
  rename_i f pr hfn
  obtain ⟨fuel, hfuel⟩ : ∃ k, P.types.size + Made.depth = k + 1 := ⟨P.types.size + (Made.depth - 1), by
    have : 0 < Made.depth := by decide
    omega⟩
  have key : ∀ pr, m.func = some (f, pr) → (receiverAt t (.val u) pr (if m.path.isEmpty then some ((name.splitOn ".").getLastD name) else none)).run P w = .ok u w →
      EvF s (pCallF F X f (v :: args.map ev)) H.o r R W → OpRes g B w H W ((callMethod (ρ x) name vs).run P w) r := by
    intro pr hfn hrec h
    have hall : VRels g w (v :: args.map ev) (#[u] ++ vs).toList := by
      rw [Array.toList_append, hvs]
      simp only [List.cons_append, List.nil_append, VRels]
      exact ⟨u, _, rfl, hv, ha⟩
    have := pCallF_ok c.F c.h hX hall ⟨hl, hla⟩ h
    have hmeth : (method (P.types.size + Made.depth) t u name).run P w = .ok (f, u) w := by
      rw [hfuel, method]
      simp only [Sem.run_bind, hi', Result.andThen_ok, hm, hpath, follow, Sem.run_pure, hfn, hrec]
    rw [eu]
    simp only [callMethod, Sem.run_bind, run_program, Result.andThen_ok, hmeth]
    exact this
  split at h
  · rename_i e hu
    have hu' := run_underlying_ok c.T hu w
    split at h <;> try exact h.elim
    exact key true hfn (by simp [receiverAt, hu', Place.get]) h
  · rename_i d hn hu
    have hu' := run_underlying_ok c.T hu w
    split at h <;> try exact h.elim
    refine key false hfn ?_ h
    cases d <;> first
      | exact absurd rfl (hn _)
      | simp [receiverAt, hu', Place.get]
  · exact h.elim

def pDefer (fv : AV) (args : List AV) : Plan :=
  match fv with
  | .func fn first cap => match fn with
    | .func f => .fL (first ++ (args ++ cap)) fun l => .defr f l
    | _ => .fail
  | _ => .fail

theorem pDefer_ok (c : OCtx P T F g B w H s ev ρ) {fo : Operand} {args : Array Operand} (h : EvF s (pDefer (ev fo) (args.toList.map ev)) H.o r R W) :
    OpRes g B w H W ((do let d ← Deferred.ofValue (ρ fo) (args.map ρ); pure (.defer d) : Sem Next).run P w) r := by
  have hf := c.rel fo
  have hlf := c.live fo
  obtain ⟨ha, hla⟩ := VRels.map c args.toList
  have ha' : VRels g w (args.toList.map ev) (args.map ρ).toList := by simpa using ha
  unfold pDefer at h
  split at h <;> try exact h.elim
  rename_i fn first cap ef
  rw [ef] at hf hlf
  obtain ⟨vf, vc, e1, h1, h2⟩ := hf
  split at h <;> try exact h.elim
  rename_i f
  obtain ⟨rfl, _, rfl⟩ := h
  refine ⟨rfl, { target := .fn (.func f) vc, args := vf ++ args.map ρ }, by simp [e1, Deferred.ofValue], ⟨vc, _, rfl, ?_⟩, Lives.append hlf.1 (Lives.append hla hlf.2)⟩
  rw [Array.toList_append, Array.toList_append, List.append_assoc]
  exact h1.append (ha'.append h2)

def pPanic (x : AV) : Plan :=
  match x with
  | .iface t v => .panic (.iface t v)
  | _ => .fail

theorem pPanic_ok (c : OCtx P T F g B w H s ev ρ) {x : Operand} (h : EvF s (pPanic (ev x)) H.o r R W) :
    OpRes g B w H W ((do let v ← Instr.panic (ρ x); pure (.value v) : Sem Next).run P w) r := by
  have hx := c.rel x
  have hl := c.live x
  unfold pPanic at h
  split at h <;> try exact h.elim
  rename_i t v ex
  rw [ex] at hx hl
  obtain ⟨rfl, _, rfl⟩ := h
  have hx' := hx
  obtain ⟨u, eu, hv⟩ := hx
  refine ⟨rfl, ρ x, ?_, hx', hl⟩
  simp [eu, Instr.panic]

def pNil (x : AV) : Plan :=
  match x with
  | .ptr o off => .ret (.ptr o off)
  | .lptr xs off => .ret (.lptr xs off)
  | .gp a off => .ret (.gp a off)
  | .func fn f c => match fn with
    | .func n => .ret (.func (.func n) f c)
    | _ => .fail
  | .yld l => .ret (.yld l)
  | .iface t v => .ret (.iface t v)
  | _ => .fail

/-- A built-in function. -/
def pBuiltin (T : Tr TypeInfo) (b : Builtin) (ts : List TypeId) (args : List AV) : Plan :=
  match b with
  | .len => match ts with
    | [t] => match args with
      | [x] => pLen T t x
      | _ => .fail
    | _ => .fail
  | .append => match ts with
    | [t, tx] => match args with
      | [d, x] => pAppend T t tx d x
      | _ => .fail
    | _ => .fail
  | .copy => match ts with
    | [t, _] => match args with
      | [d, x] => pCopy T t d x
      | _ => .fail
    | _ => .fail
  | .max => pFold maxI args
  | .min => pFold minI args
  | .recover => .recover
  | _ => .fail

def pOpM (P : Program) (T : Tr TypeInfo) (F : Tr Func) (X : XT) (ev : Operand → AV) (o : Oper) : Plan :=
  match o.op with
  | .move x => .ret (ev x)
  | .assign x => .ret (ev x)
  | .pick c a b => pPick (ev c) (ev a) (ev b)
  | .alloc e => pAlloc T e
  | .box e x => pBox e (ev x)
  | .build t parts => pBuild T t (parts.toList.map fun p => (p.1, ev p.2))
  | .buildSlice t len parts => pBuildSlice T t len (parts.toList.map fun p => (p.1, ev p.2))
  | .load t a => pLoad T t (ev a)
  | .store t a x => pStore T t (ev a) (ev x)
  | .nilCheck x => pNil (ev x)
  | .binOp op t x y _ => pBin X op t (isConstOp x || isConstOp y) (ev x) (ev y)
  | .unOp op _ x => pUn op (ev x)
  | .convert src dst x => match tyU T src with
    | some _ => pConv T dst (ev x)
    | none => .fail
  | .makeInterface t x => pMkIface T t (ev x)
  | .makeFunc fn f c => pMkFunc fn (f.toList.map ev) (c.toList.map ev)
  | .makeMap _ r => match r with
    | none => pMakeMap
    | some _ => .fail
  | .makeSlice t l c => pMakeSlice T t (ev l) (ev c)
  | .slice t x lo hi mx => match mx with
    | none => pSlice T t (ev x) (lo.map ev) (hi.map ev)
    | some _ => .fail
  | .fieldAddr t x f => pFieldAddr T t (ev x) f
  | .field t x f => pField T t (ev x) f
  | .indexAddr t x ix => pIndexAddr T t (ev x) (ev ix)
  | .index t x ix => pIndex T t (ev x) (ev ix)
  | .lookup t x ix ok => pLookup P T t (ev x) (ev ix) ok
  | .mapUpdate t m k x => pMapUpd P T t (ev m) (ev k) (ev x)
  | .insert t m k x => pMapUpd P T t (ev m) (ev k) (ev x)
  | .range t x => pRange T t (ev x)
  | .next it isS => match isS with
    | true => pNext (ev it)
    | false => .fail
  | .typeAssert x _ asserted ok => pAssert T (ev x) asserted ok
  | .extract x i => pExtract (ev x) i
  | .call c => match c.callee with
    | .builtin b => pBuiltin T b c.argTypes.toList (c.args.toList.map ev)
    | .value f => pCallV F X (ev f) (c.args.toList.map ev)
    | .invoke recv name => pInvoke T F X (ev recv) name (c.args.toList.map ev)
  | .defer c => match c.callee with
    | .value f => pDefer (ev f) (c.args.toList.map ev)
    | _ => .fail
  | .panic x => pPanic (ev x)
  | _ => .fail

/- By the recursor itself, with closed minor premises: so the kernel carries it out at little cost. -/
def pOp (P : Program) (T : Tr TypeInfo) (F : Tr Func) (X : XT) (ev : Operand → AV) (o : Oper) : Plan :=
  @Op.rec (fun _ => Program → Tr TypeInfo → Tr Func → (XT) → (Operand → AV) → Plan)
    (fun x _ _ _ _ ev => .ret (ev x))
    (fun x _ _ _ _ ev => .ret (ev x))
    (fun c a b _ _ _ _ ev => pPick (ev c) (ev a) (ev b))
    (fun e _ T _ _ _ => pAlloc T e)
    (fun e x _ _ _ _ ev => pBox e (ev x))
    (fun t parts _ T _ _ ev => pBuild T t (parts.toList.map fun p => (p.1, ev p.2)))
    (fun t len parts _ T _ _ ev => pBuildSlice T t len (parts.toList.map fun p => (p.1, ev p.2)))
    (fun t m k x P T _ _ ev => pMapUpd P T t (ev m) (ev k) (ev x))
    (fun t a _ T _ _ ev => pLoad T t (ev a))
    (fun t a x _ T _ _ ev => pStore T t (ev a) (ev x))
    (fun _ _ _ _ _ _ => .fail)
    (fun _ _ _ _ _ _ => .fail)
    (fun x _ _ _ _ ev => pNil (ev x))
    (fun op t x y _ _ _ _ X ev => pBin X op t (isConstOp x || isConstOp y) (ev x) (ev y))
    (fun op _ x _ _ _ _ ev => pUn op (ev x))
    (fun src dst x _ T _ _ ev => match tyU T src with
      | some _ => pConv T dst (ev x)
      | none => .fail)
    (fun _ _ _ _ _ _ _ => .fail)
    (fun t x _ T _ _ ev => pMkIface T t (ev x))
    (fun fn f c _ _ _ _ ev => pMkFunc fn (f.toList.map ev) (c.toList.map ev))
    (fun _ r _ _ _ _ _ => match r with
      | none => pMakeMap
      | some _ => .fail)
    (fun _ _ _ _ _ _ _ => .fail)
    (fun t l c _ T _ _ ev => pMakeSlice T t (ev l) (ev c))
    (fun t x lo hi mx _ T _ _ ev => match mx with
      | none => pSlice T t (ev x) (lo.map ev) (hi.map ev)
      | some _ => .fail)
    (fun t x f _ T _ _ ev => pFieldAddr T t (ev x) f)
    (fun t x f _ T _ _ ev => pField T t (ev x) f)
    (fun t x ix _ T _ _ ev => pIndexAddr T t (ev x) (ev ix))
    (fun t x ix _ T _ _ ev => pIndex T t (ev x) (ev ix))
    (fun t x ix ok P T _ _ ev => pLookup P T t (ev x) (ev ix) ok)
    (fun t m k x P T _ _ ev => pMapUpd P T t (ev m) (ev k) (ev x))
    (fun _ _ _ _ _ _ _ _ => .fail)
    (fun _ _ _ _ _ _ _ _ _ => .fail)
    (fun t x _ T _ _ ev => pRange T t (ev x))
    (fun it isS _ _ _ _ ev => match isS with
      | true => pNext (ev it)
      | false => .fail)
    (fun _ _ _ _ _ _ => .fail)
    (fun x _ asserted ok _ T _ _ ev => pAssert T (ev x) asserted ok)
    (fun x i _ _ _ _ ev => pExtract (ev x) i)
    (fun c _ T F X ev => match c.callee with
      | .builtin b => pBuiltin T b c.argTypes.toList (c.args.toList.map ev)
      | .value f => pCallV F X (ev f) (c.args.toList.map ev)
      | .invoke recv name => pInvoke T F X (ev recv) name (c.args.toList.map ev))
    (fun _ _ _ _ _ _ => .fail)
    (fun c _ _ _ _ ev => match c.callee with
      | .value f => pDefer (ev f) (c.args.toList.map ev)
      | _ => .fail)
    (fun x _ _ _ _ ev => pPanic (ev x))
    (fun _ _ _ _ _ _ _ => .fail)
    (fun _ _ _ _ _ _ _ _ => .fail)
    (fun _ _ _ _ _ _ _ => .fail)
    o.op P T F X ev

theorem pOp_eq (P : Program) (T : Tr TypeInfo) (F : Tr Func) (X : XT) (ev : Operand → AV) (o : Oper) : pOp P T F X ev o = pOpM P T F X ev o := by
  obtain ⟨dst, op, type, pos, after, guard⟩ := o
  cases op <;> rfl

theorem arr1 {α : Type} {a : Array α} {x : α} (h : a.toList = [x]) : a = #[x] := by apply Array.ext'; simpa using h
theorem arr2 {α : Type} {a : Array α} {x y : α} (h : a.toList = [x, y]) : a = #[x, y] := by apply Array.ext'; simpa using h

theorem map1 {α β : Type} {f : α → β} {l : List α} {y : β} (h : l.map f = [y]) : ∃ x, l = [x] ∧ f x = y := by
  cases l with
  | nil => simp at h
  | cons x xs => simp at h; exact ⟨x, by rw [h.2], h.1⟩
theorem map2 {α β : Type} {f : α → β} {l : List α} {y z : β} (h : l.map f = [y, z]) : ∃ x x', l = [x, x'] ∧ f x = y ∧ f x' = z := by
  cases l with
  | nil => simp at h
  | cons x xs =>
    simp only [List.map_cons, List.cons.injEq] at h
    obtain ⟨x', e1, e2⟩ := map1 h.2
    exact ⟨x, x', by rw [e1], h.1, e2⟩

theorem pBuiltin_ok (c : OCtx P T F g B w H s ev ρ) {b : Builtin} {ts : Array TypeId} {ty : TypeId} {args : Array Operand} {cs : Array Bool} (h : EvF s (pBuiltin T b ts.toList (args.toList.map ev)) H.o r R W) :
    OpRes g B w H W ((builtin b ts ty cs (args.map ρ)).run P w) r := by
  unfold pBuiltin at h
  split at h
  · split at h <;> try exact h.elim
    rename_i t hts
    split at h <;> try exact h.elim
    rename_i x hargs
    obtain ⟨x0, e1, e2⟩ := map1 hargs
    rw [arr1 hts, arr1 e1]
    subst e2
    have e3 : (#[x0].map ρ) = #[ρ x0] := by simp
    rw [e3]
    exact pLen_ok c h
  · split at h <;> try exact h.elim
    rename_i t tx hts
    split at h <;> try exact h.elim
    rename_i d x hargs
    obtain ⟨d0, x0, e1, e2, e3⟩ := map2 hargs
    rw [arr2 hts, arr2 e1]
    subst e2; subst e3
    have e4 : (#[d0, x0].map ρ) = #[ρ d0, ρ x0] := by simp
    rw [e4]
    exact pAppend_ok c h
  · split at h <;> try exact h.elim
    rename_i t tx hts
    split at h <;> try exact h.elim
    rename_i d x hargs
    obtain ⟨d0, x0, e1, e2, e3⟩ := map2 hargs
    rw [arr2 hts, arr2 e1]
    subst e2; subst e3
    have e4 : (#[d0, x0].map ρ) = #[ρ d0, ρ x0] := by simp
    rw [e4]
    exact pCopy_ok c h
  · exact pMax_ok c h
  · exact pMin_ok c h
  · obtain ⟨rfl, _, rfl⟩ := h
    exact ⟨rfl, rfl⟩
  · exact h.elim

theorem pOp_ok (c : OCtx P T F g B w H s ev ρ) {X : XT} (hX : XOK P X) {o : Oper} (h : EvF s (pOp P T F X ev o) H.o r R W) : OpRes g B w H W ((execOp ρ o).run P w) r := by
  rw [pOp_eq] at h
  unfold pOpM at h
  unfold execOp
  split at h
  · rename_i x ho
    simp only [ho]
    obtain ⟨rfl, rfl⟩ := evF_ret h
    exact OpRes.pure c.h rfl (c.rel x) (c.live x)
  · rename_i x ho
    simp only [ho]
    obtain ⟨rfl, rfl⟩ := evF_ret h
    exact OpRes.pure c.h rfl (c.rel x) (c.live x)
  · rename_i x a b ho
    simp only [ho]
    exact pPick_ok c h
  · rename_i e ho
    simp only [ho]
    exact pAlloc_ok c h
  · rename_i e x ho
    simp only [ho]
    exact pBox_ok c h
  · rename_i t parts ho
    simp only [ho]
    exact pBuild_ok c h
  · rename_i t len parts ho
    simp only [ho]
    exact pBuildSlice_ok c h
  · rename_i t a ho
    simp only [ho]
    exact pLoad_ok c h rfl
  · rename_i t a x ho
    simp only [ho]
    exact pStore_ok c h
  · rename_i x ho
    simp only [ho]
    have hx := c.rel x
    have hl := c.live x
    unfold pNil at h
    split at h <;> try exact h.elim
    all_goals first
      | (rename_i ex
         rw [ex] at hx hl
         have hx' := hx
         obtain ⟨rfl, rfl⟩ := evF_ret h
         refine OpRes.pure c.h (u := ρ x) ?_ hx' hl
         simp only [VRel] at hx
         first
           | (rw [hx]; rfl)
           | (obtain ⟨_, _, e, _⟩ := hx; rw [e]; rfl)
           | (obtain ⟨_, e, _⟩ := hx; rw [e]; rfl))
      | (rename_i ex
         rw [ex] at hx hl
         split at h <;> try exact h.elim
         have hx' := hx
         obtain ⟨rfl, rfl⟩ := evF_ret h
         refine OpRes.pure c.h (u := ρ x) ?_ hx' hl
         simp only [VRel] at hx
         obtain ⟨_, _, e, _⟩ := hx
         rw [e]; rfl)
  · rename_i op t x y yt ho
    simp only [ho]
    exact pBin_ok c hX.2 h
  · rename_i op t x ho
    simp only [ho]
    exact pUn_ok c h
  · rename_i src dst x ho
    simp only [ho]
    split at h <;> try exact h.elim
    rename_i d hd
    exact pConv_ok c ⟨d, hd⟩ h
  · rename_i t x ho
    simp only [ho]
    exact pMkIface_ok c h
  · rename_i fn f cp ho
    simp only [ho]
    exact pMkFunc_ok c h
  · rename_i t rr ho
    simp only [ho]
    split at h <;> try exact h.elim
    exact pMakeMap_ok c h
  · rename_i t l cp ho
    simp only [ho]
    exact pMakeSlice_ok c h
  · rename_i t x lo hi mx ho
    simp only [ho]
    split at h <;> try exact h.elim
    exact pSlice_ok c h
  · rename_i t x f ho
    simp only [ho]
    exact pFieldAddr_ok c h
  · rename_i t x f ho
    simp only [ho]
    exact pField_ok c h
  · rename_i t x ix ho
    simp only [ho]
    exact pIndexAddr_ok c h
  · rename_i t x ix ho
    simp only [ho]
    exact pIndex_ok c h
  · rename_i t x ix ok ho
    simp only [ho]
    exact pLookup_ok c h
  · rename_i t m k x ho
    simp only [ho]
    exact pMapUpd_ok c h
  · rename_i t m k x ho
    simp only [ho]
    exact pMapUpd_ok c h
  · rename_i t x ho
    simp only [ho]
    exact pRange_ok c h
  · rename_i it isS ho
    simp only [ho]
    split at h <;> try exact h.elim
    exact pNext_ok c h
  · rename_i x xt asserted ok ho
    simp only [ho]
    exact pAssert_ok c h
  · rename_i x i ho
    simp only [ho]
    exact pExtract_ok c h
  · rename_i cl ho
    simp only [ho, resolve]
    split at h
    · rename_i b hb
      simp only [hb, Sem.run_bind, Sem.run_pure, Result.andThen_ok, invoke]
      exact pBuiltin_ok c h
    · rename_i f hb
      simp only [hb]
      exact pCallV_ok c hX h
    · rename_i recv name hb
      simp only [hb, Sem.run_bind, Sem.run_pure, Result.andThen_ok, invoke]
      have e0 : (#[ρ recv] ++ cl.args.map ρ)[0]? = some (ρ recv) := by
        rw [Array.getElem?_append_left (by show 0 < 1; omega)]
        rfl
      simp only [e0]
      refine pInvoke_ok c hX (args := cl.args.toList) ?_ h
      simp
      rw [List.take_of_length_le (by simp)]
  · rename_i cl ho
    simp only [ho, resolve]
    split at h <;> try exact h.elim
    rename_i f hb
    simp only [hb]
    exact pDefer_ok c h
  · rename_i x ho
    simp only [ho]
    exact pPanic_ok c h
  · exact h.elim

end
end
end Go.Abs
