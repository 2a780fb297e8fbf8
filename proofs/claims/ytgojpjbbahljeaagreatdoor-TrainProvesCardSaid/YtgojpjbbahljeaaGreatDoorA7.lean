/-
  Operations on values: fields, indexes, arithmetic, equality, interfaces.
-/
import Derived.Test.YtgojpjbbahljeaaGreatDoorA6
/-! Operations on values: fields, indexes, arithmetic, equality, interfaces. -/
namespace Go.Abs
open Go
noncomputable section

section
variable {P : Program} {T : Tr TypeInfo} {F : Tr Func} {g : Gh} {B : Nat} {w : World} {H : AH} {s : Nat} {ev : Operand → AV} {ρ : Operand → Value} {r : PRes} {R : List Nat} {W : WL}

theorem VRels.piece {l : List AV} : ∀ {xs : List AV} {vs : List Value}, VRels g w xs vs → ∀ (off k : Nat), l = (xs.drop off).take k → VRels g w l ((vs.drop off).take k) := by
  intro xs vs h off k hl
  subst hl
  have hlen := h.length
  refine VRels.of_get _ _ (by simp; omega) fun j a ha => ?_
  rw [List.getElem?_take, List.getElem?_drop] at ha
  split at ha
  · rename_i hj
    obtain ⟨v, h1, h2⟩ := h.get _ _ ha
    exact ⟨v, by rw [List.getElem?_take, List.getElem?_drop, if_pos hj]; exact h1, h2⟩
  · cases ha

/-- A part of a struct or an array. -/
def pPart (T : Tr TypeInfo) (t : TypeId) (cs : List AV) (off : Nat) : Option AV :=
  match aggT T t with
  | some true => match T.get t with
    | some i => match takeN i.size (dropN off cs) with
      | some l => some (.agg l)
      | none => none
    | none => none
  | some false => nth cs off
  | none => none

theorem pPart_ok (hT : TOK P T) {L : Nat → Prop} {t : TypeId} {cs : List AV} {off : Nat} {a : AV} {vs : Array Value} (h : pPart T t cs off = some a) (hv : VRels g w cs vs.toList) (hl : Lives L cs) :
    ∃ v, (∀ w', (part t vs off).run P w' = .ok v w') ∧ VRel g w a v ∧ Live L a := by
  unfold pPart at h
  split at h
  · rename_i hag
    split at h
    · rename_i i hi
      split at h
      · rename_i l hln
        simp only [Option.some.injEq] at h
        subst h
        obtain ⟨h1, h2⟩ := takeN_eq hln
        rw [dropN_eq] at h1
        refine ⟨.agg (vs.extract off (off + i.size)), fun w' => ?_, ?_, ?_⟩
        · simp [part, aggT_ok hT hag w', run_sizeOf_ok hT hi w']
        · simp only [VRel]
          refine ⟨_, rfl, ?_⟩
          have := hv.piece off i.size h1
          rw [Array.toList_extract]
          simpa [List.extract] using this
        · rw [h1]
          exact (Lives.drop hl off).take _
      · cases h
    · cases h
  · rename_i hag
    rw [nth_eq] at h
    obtain ⟨v, h1, h2⟩ := hv.get _ _ h
    refine ⟨v, fun w' => ?_, h2, Lives.mem cs a hl (List.mem_of_getElem? h)⟩
    have h3 : vs[off]? = some v := by simpa using h1
    simp [part, aggT_ok hT hag w', h3]
  · cases h

def pField (T : Tr TypeInfo) (t : TypeId) (x : AV) (fi : Nat) : Plan :=
  match tyU T t with
  | some (.struct fs) => match fs[fi]? with
    | some f => match x with
      | .agg cs => match pPart T f.type cs f.offset with
        | some a => .ret a
        | none => .fail
      | _ => .fail
    | none => .fail
  | _ => .fail

theorem pField_ok (c : OCtx P T F g B w H s ev ρ) {t : TypeId} {x : Operand} {fi : Nat} (h : EvF s (pField T t (ev x) fi) H.o r R W) :
    OpRes g B w H W ((do let v ← Instr.field t (ρ x) fi; pure (.value v) : Sem Next).run P w) r := by
  have hv := c.rel x
  have hl := c.live x
  unfold pField at h
  split at h
  · rename_i fs hu
    have hu' := run_underlying_ok c.T hu w
    split at h
    · rename_i f hf
      split at h
      · rename_i cs hx
        rw [hx] at hv hl
        obtain ⟨vs, e, hvs⟩ := hv
        split at h
        · rename_i a ha
          obtain ⟨rfl, rfl⟩ := evF_ret h
          obtain ⟨v, h1, h2, h3⟩ := pPart_ok c.T ha hvs hl
          exact OpRes.pure c.h (u := v) (by simp [Instr.field, hu', hf, e, asAgg, h1]) h2 h3
        · exact h.elim
      · exact h.elim
    · exact h.elim
  · exact h.elim

def pFieldAddr (T : Tr TypeInfo) (t : TypeId) (x : AV) (fi : Nat) : Plan :=
  match tyU T t with
  | some (.struct fs) => match fs[fi]? with
    | some f => match T.get f.type with
      | some i => .chk (!(i.size == 0)) (match x with
        | .ptr o off => .ret (.ptr o (off + f.offset))
        | .lptr xs off => .ret (.lptr xs (off + f.offset))
        | _ => .fail)
      | none => .fail
    | none => .fail
  | _ => .fail

theorem pFieldAddr_ok (c : OCtx P T F g B w H s ev ρ) {t : TypeId} {x : Operand} {fi : Nat} (h : EvF s (pFieldAddr T t (ev x) fi) H.o r R W) :
    OpRes g B w H W ((do let v ← Instr.fieldAt t (ρ x) fi; pure (.value v) : Sem Next).run P w) r := by
  have hv := c.rel x
  have hl := c.live x
  unfold pFieldAddr at h
  split at h
  · rename_i fs hu
    have hu' := run_underlying_ok c.T hu w
    split at h
    · rename_i f hf
      split at h
      · rename_i i hi
        have hsz := run_sizeOf_ok c.T hi w
        obtain ⟨h0, h⟩ := h
        have h0 : i.size ≠ 0 := by simpa using h0
        split at h
        · rename_i o off hx
          rw [hx] at hv hl
          simp only [VRel] at hv
          obtain ⟨rfl, rfl⟩ := evF_ret h
          refine OpRes.pure c.h (u := .pointer (some ⟨g.ob o, off + f.offset, none⟩)) ?_ (by simp [VRel]) hl
          simp [Instr.fieldAt, hu', hf, hv, Instr.sureAddr, fieldPlace, hsz, h0, add_none]
        · rename_i xs off hx
          rw [hx] at hv hl
          simp only [VRel] at hv
          obtain ⟨b, o0, e, h1, h2⟩ := hv
          obtain ⟨rfl, rfl⟩ := evF_ret h
          refine OpRes.pure c.h (u := .pointer (some ⟨b, o0 + (off + f.offset), none⟩)) ?_ ?_ hl
          · simp [Instr.fieldAt, hu', hf, e, Instr.sureAddr, fieldPlace, hsz, h0, add_none, Nat.add_assoc]
          · simp only [VRel]; exact ⟨b, o0, rfl, h1, h2⟩
        · exact h.elim
      · exact h.elim
    · exact h.elim
  · exact h.elim

def pExtract (x : AV) (i : Nat) : Plan :=
  match x with
  | .tup vs => match nth vs i with
    | some v => .ret v
    | none => .fail
  | _ => .fail

theorem pExtract_ok (c : OCtx P T F g B w H s ev ρ) {x : Operand} {i : Nat} (h : EvF s (pExtract (ev x) i) H.o r R W) :
    OpRes g B w H W ((do let v ← Instr.extract (ρ x) i; pure (.value v) : Sem Next).run P w) r := by
  have hv := c.rel x
  have hl := c.live x
  unfold pExtract at h
  split at h
  · rename_i vs hx
    rw [hx] at hv hl
    obtain ⟨us, e, hus⟩ := hv
    split at h
    · rename_i a ha
      obtain ⟨rfl, rfl⟩ := evF_ret h
      rw [nth_eq] at ha
      obtain ⟨v, h1, h2⟩ := hus.get _ _ ha
      have h3 : us[i]? = some v := by simpa using h1
      exact OpRes.pure c.h (u := v) (by simp [Instr.extract, e, h3]) h2 (Lives.mem vs a hl (List.mem_of_getElem? ha))
    · exact h.elim
  · exact h.elim

def pUn (op : UnOp) (x : AV) : Plan :=
  match op with
  | .neg => match x with
    | .int k n => .ret (.int k (k.wrap (0 - n)))
    | _ => .fail
  | .not => match x with
    | .bool b => .ret (.bool (!b))
    | _ => .fail
  | _ => .fail

theorem pUn_ok (c : OCtx P T F g B w H s ev ρ) {x : Operand} {op : UnOp} (h : EvF s (pUn op (ev x)) H.o r R W) :
    OpRes g B w H W ((do let v ← Op.unary op (ρ x); pure (.value v) : Sem Next).run P w) r := by
  have hv := c.rel x
  unfold pUn at h
  split at h
  · split at h
    · rename_i k n hx
      rw [hx] at hv
      simp only [VRel] at hv
      obtain ⟨rfl, rfl⟩ := evF_ret h
      exact OpRes.pure c.h (u := .int k (k.wrap (0 - n))) (by simp [Op.unary, hv, Op.intArith]) (by simp [VRel]) trivial
    · exact h.elim
  · split at h
    · rename_i b hx
      rw [hx] at hv
      simp only [VRel] at hv
      obtain ⟨rfl, rfl⟩ := evF_ret h
      exact OpRes.pure c.h (u := .bool (!b)) (by simp [Op.unary, hv]) (by simp [VRel]) trivial
    · exact h.elim
  · exact h.elim

/-- Operations on integers of one kind. -/
def pInt (op : BinOp) (k : IntKind) (a b : Int) : Plan :=
  match op with
  | .add => .ret (.int k (k.wrap (a + b)))
  | .sub => .ret (.int k (k.wrap (a - b)))
  | .mul => .ret (.int k (k.wrap (a * b)))
  | .quo => .chk (!(b == 0)) (.ret (.int k (k.wrap (a.tdiv b))))
  | .rem => .chk (!(b == 0)) (.ret (.int k (a.tmod b)))
  | .and => .ret (.int k (k.wrap (BitVec.ofInt k.bits a &&& BitVec.ofInt k.bits b).toNat))
  | .or => .ret (.int k (k.wrap (BitVec.ofInt k.bits a ||| BitVec.ofInt k.bits b).toNat))
  | .xor => .ret (.int k (k.wrap (BitVec.ofInt k.bits a ^^^ BitVec.ofInt k.bits b).toNat))
  | .andNot => .ret (.int k (k.wrap (BitVec.ofInt k.bits a &&& ~~~ BitVec.ofInt k.bits b).toNat))
  | .eql => .ret (.bool (a == b))
  | .neq => .ret (.bool (a != b))
  | .lss => .ret (.bool (decide (a < b)))
  | .leq => .ret (.bool (decide (a ≤ b)))
  | .gtr => .ret (.bool (decide (a > b)))
  | .geq => .ret (.bool (decide (a ≥ b)))
  | _ => .fail

def pShift (op : BinOp) (k : IntKind) (a b : Int) : Plan :=
  match op with
  | .shl => .chk (decide (0 ≤ b)) (.ret (.int k (k.wrap (a * 2 ^ (min b.toNat k.bits)))))
  | .shr => .chk (decide (0 ≤ b)) (.ret (.int k (a.fdiv (2 ^ (min b.toNat k.bits)))))
  | _ => .fail

def isShift : BinOp → Bool
  | .shl => true
  | .shr => true
  | _ => false

theorem pInt_ok (hr : HRel g B w H) {op : BinOp} {k : IntKind} {a b : Int} {t : TypeId} (h : EvF s (pInt op k a b) H.o r R W) :
    OpRes g B w H W ((do let v ← binOp op t (.int k a) (.int k b); pure (.value v) : Sem Next).run P w) r := by
  cases op <;> simp only [pInt] at h
  case quo | rem =>
    obtain ⟨h0, h⟩ := h
    have h0 : b ≠ 0 := by simpa using h0
    obtain ⟨rfl, rfl⟩ := evF_ret h
    refine OpRes.pure hr ?_ (by simp only [VRel]; rfl) trivial
    simp [binOp, Op.intDiv, h0]
  case shl | shr => exact h.elim
  all_goals
    obtain ⟨rfl, rfl⟩ := evF_ret h
    refine OpRes.pure hr ?_ (by simp only [VRel]; rfl) trivial
    simp [binOp, Op.intArith, Op.intBits, Op.intCmp]

theorem pShift_ok (hr : HRel g B w H) {op : BinOp} {k k' : IntKind} {a b : Int} {t : TypeId} (h : EvF s (pShift op k a b) H.o r R W) :
    OpRes g B w H W ((do let v ← binOp op t (.int k a) (.int k' b); pure (.value v) : Sem Next).run P w) r := by
  cases op <;> simp only [pShift] at h
  case shl | shr =>
    obtain ⟨h0, h⟩ := h
    have h0 : ¬ b < 0 := by have := of_decide_eq_true h0; omega
    obtain ⟨rfl, rfl⟩ := evF_ret h
    refine OpRes.pure hr ?_ (by simp only [VRel]; rfl) trivial
    simp [binOp, Op.shift, h0]
  all_goals exact h.elim

def strLe : Nat := 9223372036854775807

def pStr (op : BinOp) (a b : List UInt8) : Plan :=
  match op with
  | .add => .chk (decide (a.length + b.length ≤ strLe)) (.ret (.str (a ++ b)))
  | .eql => .ret (.bool (a == b))
  | .neq => .ret (.bool (!(a == b)))
  | .lss => .ret (.bool (Op.bytesLess a b))
  | .leq => .ret (.bool (Op.bytesLess a b || a == b))
  | .gtr => .ret (.bool (!(Op.bytesLess a b || a == b)))
  | .geq => .ret (.bool (!Op.bytesLess a b))
  | _ => .fail

theorem mk_append (a b : List UInt8) : (⟨a.toArray⟩ : ByteArray) ++ ⟨b.toArray⟩ = ⟨(a ++ b).toArray⟩ := by
  have : ∀ x y : ByteArray, x ++ y = ⟨x.data ++ y.data⟩ := fun x y => by
    apply ByteArray.ext
    simp
  rw [this]
  simp

theorem mk_toList (a : List UInt8) : (⟨a.toArray⟩ : ByteArray).toList = a := by rw [ByteArray.toList_eq]

theorem pStr_ok (hr : HRel g B w H) {op : BinOp} {a b : List UInt8} {t : TypeId} (h : EvF s (pStr op a b) H.o r R W) :
    OpRes g B w H W ((do let v ← binOp op t (.string ⟨a.toArray⟩) (.string ⟨b.toArray⟩); pure (.value v) : Sem Next).run P w) r := by
  cases op <;> simp only [pStr] at h
  case add =>
    obtain ⟨h0, h⟩ := h
    have h0 := of_decide_eq_true h0
    unfold strLe at h0
    obtain ⟨rfl, rfl⟩ := evF_ret h
    refine OpRes.pure hr (u := .string ⟨(a ++ b).toArray⟩) ?_ (by simp [VRel]) trivial
    have e1 : (⟨a.toArray⟩ : ByteArray).size = a.length := rfl
    have e2 : (⟨b.toArray⟩ : ByteArray).size = b.length := rfl
    have h1 : ¬ ((((a.length + b.length : Nat)) : Int) > IntKind.i64.max) := by
      have : IntKind.i64.max = 9223372036854775807 := by decide
      omega
    simp only [binOp, Op.stringOp, e1, e2, if_neg h1, Sem.run_bind, Sem.run_pure, Result.andThen_ok, mk_append]
  case eql | neq | lss | leq | gtr | geq =>
    obtain ⟨rfl, rfl⟩ := evF_ret h
    refine OpRes.pure hr ?_ (by simp only [VRel]; rfl) trivial
    simp [binOp, Op.stringOp]
  all_goals exact h.elim

end
end
end Go.Abs
