/-
  Interfaces, functions, conversions, len, max, min, strings walked.
-/
import Derived.Test.YtcnidgafdonioaaGreatVU1
import Derived.Deep.Upon
import Derived.Laws.BytesString
import Derived.Lib.ConvBytes
import Derived.Great.BuildSlice
import Derived.Lib.Bytealg
import Derived.Laws.Externs
/-! Interfaces, functions, conversions, len, max, min, strings walked. -/
namespace Go.Abs
open Go
noncomputable section
section
variable {P:Program} {T:Tr TypeInfo} {F:Tr Func} {g:Gh} {B:Nat} {w:World} {H:AH} {s:Nat} {ev:Operand → AV} {ρ:Operand → Value} {r:PRes} {R:List Nat} {W:WL}
def pMkIface (T:Tr TypeInfo) (t:TypeId) (x:AV):Plan :=
 match tyU T t with
 |some (.interface _) => .fail
 |some _ => .ret (.iface t x)
 |none => .fail
theorem pMkIface_ok (c:OCtx P T F g B w H s ev ρ) {t:TypeId} {x:Operand} (h:EvF s (pMkIface T t (ev x)) H.o r R W) :
  OpRes g B w H W ((do let v ← Instr.makeInterface t (ρ x);pure (.value v):Sem Next).run P w) r :=by
 unfold pMkIface at h
 split at h
 ·exact h.elim
 ·rename_i d hn hu
  have hu' :=run_underlying_ok c.T hu w
  obtain ⟨rfl,rfl⟩ :=evF_ret h
  refine OpRes.pure c.h (u :=.iface t (ρ x)) ?_ (by simp only [VRel];exact ⟨_,rfl,c.rel x⟩) (c.live x)
  cases d <;> first
   |exact absurd rfl (hn _)
   |simp [Instr.makeInterface,hu']
 ·exact h.elim
theorem VRels.map (c:OCtx P T F g B w H s ev ρ):∀ (xs:List Operand),VRels g w (xs.map ev) (xs.map ρ) ∧ Lives H.L (xs.map ev)
 | [] => by simp [VRels,Lives]
 |x :: xs => by
  obtain ⟨h1,h2⟩ :=VRels.map c xs
  simp only [List.map_cons,VRels,Lives]
  exact ⟨⟨_,_,rfl,c.rel x,h1⟩,c.live x,h2⟩
def pMkFunc (fn:Fn) (first cap:List AV):Plan :=.fL first fun f => .fL cap fun cp => .ret (.func fn f cp)
theorem pMkFunc_ok (c:OCtx P T F g B w H s ev ρ) {fn:Fn} {first cap:Array Operand} (h:EvF s (pMkFunc fn (first.toList.map ev) (cap.toList.map ev)) H.o r R W) :
  OpRes g B w H W ((do let v ← Instr.makeFunc fn (first.map ρ) (cap.map ρ);pure (.value v):Sem Next).run P w) r :=by
 obtain ⟨rfl,rfl⟩ :=evF_ret (s :=s) (o :=H.o) (r :=r) (R :=R) (W :=W) h
 obtain ⟨h1,h2⟩ :=VRels.map c first.toList
 obtain ⟨h3,h4⟩ :=VRels.map c cap.toList
 refine OpRes.pure c.h (u :=.func fn (first.map ρ) (cap.map ρ)) (by simp [Instr.makeFunc]) ?_ ⟨h2,h4⟩
 simp only [VRel]
 exact ⟨_,_,rfl,by simpa using h1,by simpa using h3⟩
def pAssert (T:Tr TypeInfo) (x:AV) (asserted:TypeId) (ok:Bool):Plan :=
 match tyU T asserted with
 |some (.interface _) => .fail
 |some _ => match x with
  | .iface t v => match decide (t = asserted) with
   |true => match ok with
    |true => .ret (.tup [v,.bool true])
    |false => .ret v
   |false => match ok with
    |true => match T.get asserted with
     |some i => match i.zero with
      |some z => .ret (.tup [ofV z,.bool false])
      |none => .fail
     |none => .fail
    |false => .fail
  | .nili => match ok with
   |true => match T.get asserted with
    |some i => match i.zero with
     |some z => .ret (.tup [ofV z,.bool false])
     |none => .fail
    |none => .fail
   |false => .fail
  | _ => .fail
 |none => .fail
theorem pAssert_ok (c : OCtx P T F g B w H s ev ρ) {x : Operand} {xt asserted : TypeId} {ok : Bool} (h : EvF s (pAssert T (ev x) asserted ok) H.o r R W) :
    OpRes g B w H W ((do let v ← Instr.typeAssert (ρ x) xt asserted ok;pure (.value v):Sem Next).run P w) r :=by
  have hx :=c.rel x
  have hl :=c.live x
  unfold pAssert at h
  split at h
  · exact h.elim
  · rename_i d hn hu
    have hu' :=run_underlying_ok c.T hu w
    split at h
    · rename_i t v ex
      rw [ex] at hx hl
      obtain ⟨u,eu,hv⟩ :=hx
      split at h
      · rename_i e
        have e :=of_decide_eq_true e
        subst e
        split at h
        · obtain ⟨rfl,rfl⟩ :=evF_ret h
          refine OpRes.pure c.h (u :=.tuple #[u,.bool true]) ?_ ?_ ⟨hl,trivial,trivial⟩
          · cases d <;> first
              | exact absurd rfl (hn _)
              | simp [Instr.typeAssert,hu',eu]
          · simp only [VRel]
            exact ⟨_,rfl,by simp [VRels,VRel,hv]⟩
        · obtain ⟨rfl,rfl⟩ :=evF_ret h
          refine OpRes.pure c.h (u :=u) ?_ hv hl
          cases d <;> first
              | exact absurd rfl (hn _)
              | simp [Instr.typeAssert,hu',eu]
      · rename_i e
        have e :=of_decide_eq_false e
        split at h <;> try exact h.elim
        split at h <;> try exact h.elim
        rename_i i hi
        split at h <;> try exact h.elim
        rename_i z hz
        obtain ⟨rfl,rfl⟩ :=evF_ret h
        have hz' :=run_zeroValue_ok c.T hi hz w
        refine OpRes.pure c.h (u :=.tuple #[z,.bool false]) ?_ ?_ ⟨ofV_live _ z,trivial,trivial⟩
        · cases d <;> first
              | exact absurd rfl (hn _)
              | simp [Instr.typeAssert,hu',eu,e,hz']
        · simp only [VRel]
          exact ⟨_,rfl,by simp [VRels,VRel,ofV_rel]⟩
    · rename_i ex
      rw [ex] at hx
      simp only [VRel] at hx
      split at h <;> try exact h.elim
      split at h <;> try exact h.elim
      rename_i i hi
      split at h <;> try exact h.elim
      rename_i z hz
      obtain ⟨rfl,rfl⟩ :=evF_ret h
      have hz' :=run_zeroValue_ok c.T hi hz w
      refine OpRes.pure c.h (u :=.tuple #[z,.bool false]) ?_ ?_ ⟨ofV_live _ z,trivial,trivial⟩
      · cases d <;> first
              | exact absurd rfl (hn _)
              | simp [Instr.typeAssert,hu',hx,hz']
      · simp only [VRel]
        exact ⟨_,rfl,by simp [VRels,VRel,ofV_rel]⟩
    · exact h.elim
  · exact h.elim
def pConv (T:Tr TypeInfo) (dst:TypeId) (x:AV):Plan :=
 match x with
 | .int _ n => match tyU T dst with
  |some (.int k) => .ret (.int k (k.wrap n))
  | _ => .fail
 | .str l => match tyU T dst with
  |some .string => .ret (.str l)
  | _ => .fail
 | _ => .fail
theorem pConv_ok (c:OCtx P T F g B w H s ev ρ) {src dst:TypeId} {x:Operand} (hs:∃ d,tyU T src = some d) (h:EvF s (pConv T dst (ev x)) H.o r R W) :
  OpRes g B w H W ((do let v ← convert src dst (ρ x);pure (.value v):Sem Next).run P w) r :=by
 have hx :=c.rel x
 obtain ⟨d,hd⟩ :=hs
 have hd' :=run_underlying_ok c.T hd w
 unfold pConv at h
 split at h
 ·rename_i k0 n ex
  rw [ex] at hx
  simp only [VRel] at hx
  split at h <;> try exact h.elim
  rename_i k hu
  have hu' :=run_underlying_ok c.T hu w
  obtain ⟨rfl,rfl⟩ :=evF_ret h
  refine OpRes.pure c.h (u :=.int k (k.wrap n)) ?_ (by simp [VRel]) trivial
  simp only [convert,Sem.run_bind,hd',hu',Result.andThen_ok,hx]
  cases d <;> simp [Conv.intToInt]
 ·rename_i l ex
  rw [ex] at hx
  simp only [VRel] at hx
  split at h <;> try exact h.elim
  rename_i hu
  have hu' :=run_underlying_ok c.T hu w
  obtain ⟨rfl,rfl⟩ :=evF_ret h
  refine OpRes.pure c.h (u :=.string ⟨l.toArray⟩) ?_ (by simp [VRel]) trivial
  simp only [convert,Sem.run_bind,hd',hu',Result.andThen_ok,hx]
  cases d <;> simp
 ·exact h.elim
def pLen (T:Tr TypeInfo) (t:TypeId) (x:AV):Plan :=
 match tyU T t with
 |some .string => match x with
  | .str l => .ret (.int .i64 l.length)
  | _ => .fail
 |some (.array n _) => .ret (.int .i64 n)
 |some (.slice _) => match x with
  | .lst _ n _ => .ret (.int .i64 n)
  | .slc _ _ n _ => .ret (.int .i64 n)
  | .nils => .ret (.int .i64 0)
  | .gp 0 _ => .ret (.int .i64 0)
  | _ => .fail
 |some (.map _ _) => match x with
  | .nilm => .ret (.int .i64 0)
  | .map o => .get o fun y => match y with
   | .mapo es => .ret (.int .i64 es.length)
   | _ => .fail
  | _ => .fail
 | _ => .fail
theorem MRel.length:∀ {es:List (AV × AV)} {ces:List MapEntry},MRel g w es ces → ces.length = es.length
 | [],ces,h => by simp only [MRel] at h;simp [h]
 |(k,v) :: es,ces,h => by
  obtain ⟨e,es',e1,_,_,h3⟩ :=h
  subst e1
  simp [MRel.length h3]
theorem pLen_ok (c:OCtx P T F g B w H s ev ρ) {t ty:TypeId} {x:Operand} (h:EvF s (pLen T t (ev x)) H.o r R W) :
  OpRes g B w H W ((do let v ← Builtin.len_ #[t] ty #[ρ x];pure (.value v):Sem Next).run P w) r :=by
 have hx :=c.rel x
 unfold pLen at h
 split at h
 ·rename_i hu
  have hu' :=run_underlying_ok c.T hu w
  split at h <;> try exact h.elim
  rename_i l ex
  rw [ex] at hx
  simp only [VRel] at hx
  obtain ⟨rfl,rfl⟩ :=evF_ret h
  refine OpRes.pure c.h (u :=.int .i64 l.length) ?_ (by simp [VRel]) trivial
  have es:(⟨l.toArray⟩ : ByteArray).size = l.length :=rfl
  simp [Builtin.len_,hu',hx,goInt,es]
 ·rename_i n e hu
  have hu' :=run_underlying_ok c.T hu w
  obtain ⟨rfl,rfl⟩ :=evF_ret h
  refine OpRes.pure c.h (u :=.int .i64 n) ?_ (by simp [VRel]) trivial
  simp [Builtin.len_,hu',goInt]
 ·rename_i e hu
  have hu' :=run_underlying_ok c.T hu w
  split at h
  ·rename_i xs n own ex
   rw [ex] at hx
   simp only [VRel] at hx
   obtain ⟨b,off,cap,e1,_⟩ :=hx
   obtain ⟨rfl,rfl⟩ :=evF_ret h
   refine OpRes.pure c.h (u :=.int .i64 n) ?_ (by simp [VRel]) trivial
   simp [Builtin.len_,hu',e1,goInt]
  ·rename_i o off n cap ex
   rw [ex] at hx
   simp only [VRel] at hx
   obtain ⟨c',hx,_⟩ :=hx
   obtain ⟨rfl,rfl⟩ :=evF_ret h
   refine OpRes.pure c.h (u :=.int .i64 n) ?_ (by simp [VRel]) trivial
   simp [Builtin.len_,hu',hx,goInt]
  ·rename_i ex
   rw [ex] at hx
   simp only [VRel] at hx
   obtain ⟨rfl,rfl⟩ :=evF_ret h
   refine OpRes.pure c.h (u :=.int .i64 0) ?_ (by simp [VRel]) trivial
   simp [Builtin.len_,hu',hx,goInt]
  ·rename_i off ex
   rw [ex] at hx
   simp only [VRel] at hx
   obtain ⟨h0,_⟩ | ⟨_,ad,hx⟩ :=hx
   ·exact absurd rfl h0
   obtain ⟨rfl,rfl⟩ :=evF_ret h
   refine OpRes.pure c.h (u :=.int .i64 0) ?_ (by simp [VRel]) trivial
   simp [Builtin.len_,hu',hx,goInt]
  ·exact h.elim
 ·rename_i kt et hu
  have hu' :=run_underlying_ok c.T hu w
  split at h
  ·rename_i ex
   rw [ex] at hx
   simp only [VRel] at hx
   obtain ⟨rfl,rfl⟩ :=evF_ret h
   refine OpRes.pure c.h (u :=.int .i64 0) ?_ (by simp [VRel]) trivial
   simp [Builtin.len_,hu',hx,goInt]
  ·rename_i o ex
   rw [ex] at hx
   simp only [VRel] at hx
   obtain ⟨R',_,h⟩ :=h
   simp only at h
   split at h
   ·rename_i es ho
    obtain ⟨rfl,rfl⟩ :=evF_ret h
    have hr :=c.h.rel o
    rw [ho] at hr
    obtain ⟨ces,ck,h1,_,h3,_⟩ :=hr
    have hl :=h3.length
    refine OpRes.pure c.h (u :=.int .i64 es.length) ?_ (by simp [VRel]) trivial
    simp [Builtin.len_,hu',hx,goInt,getObj,Sem.run,h1,← hl]
   ·exact h.elim
  ·exact h.elim
 ·exact h.elim
def maxI (a b:Int):Int :=if b > a then b else a
def minI (a b:Int):Int :=if b < a then b else a
def foldInts (f:Int → Int → Int) (k:IntKind):Int → List AV → Option Int
 |a,[] => some a
 |a,x :: xs => match x with
  | .int k' b => if k' = k then foldInts f k (f a b) xs else none
  | _ => none
def pFold (f:Int → Int → Int):List AV → Plan
 |x :: xs => match x with
  | .int k a => match foldInts f k a xs with
   |some n => .ret (.int k n)
   |none => .fail
  | _ => .fail
 | [] => .fail
theorem foldMax_ok {k:IntKind}:∀ {xs:List AV} {vs:List Value} {a n:Int},foldInts maxI k a xs = some n → VRels g w xs vs →
  (vs.foldlM Builtin.max2 (.int k a):Sem Value).run P w = .ok (.int k n) w
 | [],vs,a,n,h,hv => by
  simp only [VRels] at hv
  subst hv
  simp only [foldInts,Option.some.injEq] at h
  subst h
  rfl
 |x :: xs,vs,a,n,h,hv => by
  obtain ⟨u,us,e,h1,h2⟩ :=hv
  subst e
  simp only [foldInts] at h
  split at h <;> try cases h
  split at h <;> try cases h
  rename_i e
  subst e
  simp only [VRel] at h1
  subst h1
  simp only [List.foldlM_cons,Builtin.max2,Sem.run_bind,Sem.run_pure,Result.andThen_ok]
  exact foldMax_ok h h2
theorem foldMin_ok {k:IntKind}:∀ {xs:List AV} {vs:List Value} {a n:Int},foldInts minI k a xs = some n → VRels g w xs vs →
  (vs.foldlM Builtin.min2 (.int k a):Sem Value).run P w = .ok (.int k n) w
 | [],vs,a,n,h,hv => by
  simp only [VRels] at hv
  subst hv
  simp only [foldInts,Option.some.injEq] at h
  subst h
  rfl
 |x :: xs,vs,a,n,h,hv => by
  obtain ⟨u,us,e,h1,h2⟩ :=hv
  subst e
  simp only [foldInts] at h
  split at h <;> try cases h
  split at h <;> try cases h
  rename_i e
  subst e
  simp only [VRel] at h1
  subst h1
  simp only [List.foldlM_cons,Builtin.min2,Sem.run_bind,Sem.run_pure,Result.andThen_ok]
  exact foldMin_ok h h2
theorem pMax_ok (c:OCtx P T F g B w H s ev ρ) {ts:Array TypeId} {ty:TypeId} {xs:Array Operand} (h:EvF s (pFold maxI (xs.toList.map ev)) H.o r R W) :
  OpRes g B w H W ((do let v ← Builtin.max_ ts ty (xs.map ρ);pure (.value v):Sem Next).run P w) r :=by
 obtain ⟨hv,_⟩ :=VRels.map c xs.toList
 have e0:(xs.map ρ).toList = xs.toList.map ρ :=by simp
 unfold Builtin.max_
 rw [e0]
 generalize xs.toList.map ev = as at *
 generalize xs.toList.map ρ = vs at *
 unfold pFold at h
 split at h
 ·obtain ⟨u,us,e,h1,h2⟩ :=hv
  subst e
  split at h <;> try exact h.elim
  rename_i k a _
  split at h <;> try exact h.elim
  rename_i n hn
  obtain ⟨rfl,rfl⟩ :=evF_ret h
  simp only [VRel] at h1
  subst h1
  refine OpRes.pure c.h (u :=.int k n) ?_ (by simp only [VRel]) trivial
  simp [foldMax_ok (P :=P) hn h2]
 ·exact h.elim
theorem pMin_ok (c:OCtx P T F g B w H s ev ρ) {ts:Array TypeId} {ty:TypeId} {xs:Array Operand} (h:EvF s (pFold minI (xs.toList.map ev)) H.o r R W) :
  OpRes g B w H W ((do let v ← Builtin.min_ ts ty (xs.map ρ);pure (.value v):Sem Next).run P w) r :=by
 obtain ⟨hv,_⟩ :=VRels.map c xs.toList
 have e0:(xs.map ρ).toList = xs.toList.map ρ :=by simp
 unfold Builtin.min_
 rw [e0]
 generalize xs.toList.map ev = as at *
 generalize xs.toList.map ρ = vs at *
 unfold pFold at h
 split at h
 ·obtain ⟨u,us,e,h1,h2⟩ :=hv
  subst e
  split at h <;> try exact h.elim
  rename_i k a _
  split at h <;> try exact h.elim
  rename_i n hn
  obtain ⟨rfl,rfl⟩ :=evF_ret h
  simp only [VRel] at h1
  subst h1
  refine OpRes.pure c.h (u :=.int k n) ?_ (by simp only [VRel]) trivial
  simp [foldMin_ok (P :=P) hn h2]
 ·exact h.elim
def pPick (c a b:AV):Plan :=
 match c with
 | .bool t => match t with
  |true => .ret a
  |false => .ret b
 | _ => .fail
theorem pPick_ok (c:OCtx P T F g B w H s ev ρ) {x a b:Operand} (h:EvF s (pPick (ev x) (ev a) (ev b)) H.o r R W) :
  OpRes g B w H W ((do pure (.value (if ← asBool (ρ x) then ρ a else ρ b)):Sem Next).run P w) r :=by
 have hx :=c.rel x
 unfold pPick at h
 split at h <;> try exact h.elim
 rename_i t ex
 rw [ex] at hx
 simp only [VRel] at hx
 split at h
 ·obtain ⟨rfl,rfl⟩ :=evF_ret h
  exact OpRes.pure c.h (u :=ρ a) (by simp [hx,asBool]) (c.rel a) (c.live a)
 ·obtain ⟨rfl,rfl⟩ :=evF_ret h
  exact OpRes.pure c.h (u :=ρ b) (by simp [hx,asBool]) (c.rel b) (c.live b)
end
end
end Go.Abs

/-! append. -/
namespace Go.Abs
open Go
noncomputable section
section
variable {P:Program} {T:Tr TypeInfo} {F:Tr Func} {g:Gh} {B:Nat} {w:World} {H:AH} {s:Nat} {ev:Operand → AV} {ρ:Operand → Value} {r:PRes} {R:List Nat} {W:WL}
def pSrc (T:Tr TypeInfo) (tx:TypeId) (sz:Nat) (x:AV) (k:List AV → Nat → Plan):Plan :=
 match tyU T tx with
 |some (.slice _) => match x with
  | .nils => k [] 0
  | .lst ys m _ => match takeN (m * sz) ys with
   |some l => .chk (allCells l) (k l m)
   |none => .fail
  | .slc o off m _ => .get o fun y => match y with
   | .cells tr n _ => .chk (decide (off + m * sz ≤ n)) (match loadN tr off (m * sz) with
    |some l => .chk (allCells l) (k l m)
    |none => .fail)
   | _ => .fail
  | _ => .fail
 |some .string => match x with
  | .str b => match sz with
   | 1 => k (b.map fun c => .int .u8 c.toNat) b.length
   | _ => .fail
  | _ => .fail
 | _ => .fail
theorem Lives.bytes (L:Nat → Prop):∀ b:List UInt8,Lives L (b.map fun c => AV.int .u8 c.toNat)
 | [] => trivial
 | _ :: b => ⟨trivial,Lives.bytes L b⟩
theorem VRels.bytes:∀ b:List UInt8,VRels g w (b.map fun c => AV.int .u8 c.toNat) (b.map fun c => Value.int .u8 c.toNat)
 | [] => by simp [VRels]
 |c :: b => by
  simp only [List.map_cons,VRels]
  exact ⟨_,_,rfl,by simp [VRel],VRels.bytes b⟩
theorem pSrc_ok (c:OCtx P T F g B w H s ev ρ) {tx:TypeId} {sz:Nat} {x:Operand} {k:List AV → Nat → Plan} (h:EvF s (pSrc T tx sz (ev x) k) H.o r R W) :
  ∃ ys m news R',EvF s (k ys m) H.o r R' W ∧ Src P sz tx (ρ x) m news w ∧ VRels g w ys news ∧ Lives H.L ys :=by
 have hx :=c.rel x
 have hl :=c.live x
 unfold pSrc at h
 split at h
 ·rename_i e hu
  have hu' :=tyU_ok c.T hu
  split at h
  ·rename_i ex
   rw [ex] at hx
   simp only [VRel] at hx
   rw [hx]
   exact ⟨[],0,[],R,h,Src.ofNil w hu' 0,by simp [VRels],trivial⟩
  ·rename_i ys m own ex
   rw [ex] at hx hl
   simp only [VRel] at hx
   obtain ⟨b,off,cap,e1,h1,h2,h3,h4⟩ :=hx
   split at h <;> try exact h.elim
   rename_i l hln
   obtain ⟨hc,h⟩ :=h
   obtain ⟨k1,k2⟩ :=takeN_eq hln
   obtain ⟨cs,f1,f2,f3⟩ :=h3.piece (off :=0) (by simpa using k1) k2
   rw [e1]
   refine ⟨l,m,cs,R,h,Src.ofSlice w hu' _ m cap cs f1 (by simpa using f2) (allCells_ok hc f3),f3,?_⟩
   rw [k1];exact Lives.take hl.1 _
  ·rename_i o off m cap0 ex
   rw [ex] at hx
   simp only [VRel] at hx
   obtain ⟨cap,hx,_⟩ :=hx
   obtain ⟨R',_,h⟩ :=h
   simp only at h
   split at h <;> try exact h.elim
   rename_i tr n ty ho
   obtain ⟨hb,h⟩ :=h
   have hb :=of_decide_eq_true hb
   split at h <;> try exact h.elim
   rename_i l hln
   obtain ⟨hc,h⟩ :=h
   obtain ⟨k1,k2⟩ :=loadN_ok hln
   obtain ⟨cs,f1,f2,f3,f4⟩ :=c.h.cellsAt ho hb k1 k2
   rw [hx]
   exact ⟨l,m,cs,R',h,Src.ofSlice w hu' _ m cap cs f1 f2 (allCells_ok hc f3),f3,f4⟩
  ·exact h.elim
 ·rename_i hu
  have hu' :=tyU_ok c.T hu
  split at h <;> try exact h.elim
  rename_i b ex
  rw [ex] at hx
  simp only [VRel] at hx
  split at h <;> try exact h.elim
  rw [hx]
  refine ⟨_,_,_,R,h,?_,VRels.bytes b,Lives.bytes _ b⟩
  have :=Src.ofString (P :=P) w hu' ⟨b.toArray⟩
  have es:(⟨b.toArray⟩ : ByteArray).size = b.length :=rfl
  rw [es] at this
  simpa [byteCells] using this
 ·exact h.elim
def byteL:List AV → Option (List UInt8)
 | [] => some []
 |x :: r => match x with
  | .int k n => match k with
   | .u8 => match byteL r with
    |some l => some (UInt8.ofNat n.toNat :: l)
    |none => none
   | _ => none
  | _ => none
theorem byteL_ok:∀ {xs:List AV} {l:List UInt8} {vs:List Value},byteL xs = some l → VRels g w xs vs → ∃ ns:List Int,vs = ns.map (Value.int .u8) ∧ l = ns.map fun n => UInt8.ofNat n.toNat
 | [],l,vs,hb,h => by
  simp only [byteL] at hb;cases hb
  simp only [VRels] at h;subst h
  exact ⟨[],rfl,rfl⟩
 |x :: r,l,vs,hb,h => by
  simp only [VRels] at h
  obtain ⟨u,us,rfl,h1,h2⟩ :=h
  unfold byteL at hb
  split at hb <;> try (cases hb)
  rename_i k n
  split at hb <;> try (cases hb)
  split at hb <;> try (cases hb)
  rename_i l' hl'
  obtain ⟨ns,e1,e2⟩ :=byteL_ok hl' h2
  simp only [VRel] at h1
  exact ⟨n :: ns,by simp [h1,e1],by simp [e2]⟩
theorem foldl_push:∀ (ns:List Int) (s:ByteArray),ns.foldl (fun r n => r.push (UInt8.ofNat n.toNat)) s = ⟨s.data ++ (ns.map fun n => UInt8.ofNat n.toNat).toArray⟩
 | [],s => by cases s;simp
 |n :: ns,s => by
  rw [List.foldl_cons,foldl_push ns]
  cases s
  simp [ByteArray.push]
def pConvB (T:Tr TypeInfo) (e dst:TypeId) (x:AV):Plan :=
 match tyU T e with
 |some (.int .u8) => match tyU T dst with
  |some .string => match x with
   | .nils => .ret (.str [])
   | .lst ys m _ => match takeN m ys with
    |some l => match byteL l with
     |some b => .ret (.str b)
     |none => .fail
    |none => .fail
   | .slc o off m _ => .get o fun y => match y with
    | .cells tr n _ => .chk (decide (off + m ≤ n)) (match loadN tr off m with
     |some l => match byteL l with
      |some b => .ret (.str b)
      |none => .fail
     |none => .fail)
    | _ => .fail
   | _ => .fail
  | _ => .fail
 | _ => .fail
theorem run_bytes_str {src e dst:TypeId} {hs:P.underlying src = some (.slice e)} {he:P.underlying e = some (.int .u8)} {hd:P.underlying dst = some .string} {a:Addr} {m cap:Nat} {cs:List Value} {l:List AV} {b:List UInt8}
  (hc:cs.length = m) (h:∀ (j:Nat) v,cs[j]? = some v → w.cell? (a.add j) = some v) (hv:VRels g w l cs) (hb:byteL l = some b) :
  (convert src dst (.slice (some a) m cap)).run P w = .ok (.string ⟨b.toArray⟩) w :=by
 obtain ⟨ns,e1,e2⟩ :=byteL_ok hb hv
 subst e1;subst e2
 have h1 :=run_loadCells_list (P :=P) w a _ h
 rw [hc] at h1
 rw [run_convert_bytes_string w src dst e (some a) m cap hs he hd,run_bytesToString w a m cap ns (by rw [h1]),foldl_push]
 simp [ByteArray.empty,ByteArray.emptyWithCapacity]
 rfl
theorem pConvB_ok (c:OCtx P T F g B w H s ev ρ) {src e dst:TypeId} {x:Operand} (hs:tyU T src = some (.slice e)) (h:EvF s (pConvB T e dst (ev x)) H.o r R W) :
  OpRes g B w H W ((do let v ← convert src dst (ρ x);pure (.value v):Sem Next).run P w) r :=by
 have hx :=c.rel x
 have hs' :=tyU_ok c.T hs
 unfold pConvB at h
 split at h <;> try exact h.elim
 rename_i he
 have he' :=tyU_ok c.T he
 split at h <;> try exact h.elim
 rename_i hd
 have hd' :=tyU_ok c.T hd
 split at h
 ·rename_i ex
  rw [ex] at hx
  simp only [VRel] at hx
  obtain ⟨rfl,rfl⟩ :=evF_ret h
  refine OpRes.pure c.h (u :=.string ⟨#[]⟩) ?_ (by simp [VRel]) trivial
  rw [hx,Sem.run_bind,run_convert_bytes_string w src dst e none 0 0 hs' he' hd']
  simp [Conv.bytesToString,ByteArray.empty,ByteArray.emptyWithCapacity]
  rfl
 ·rename_i ys m own ex
  rw [ex] at hx
  simp only [VRel] at hx
  obtain ⟨b,off,cap,e1,h1,h2,h3,h4⟩ :=hx
  split at h <;> try exact h.elim
  rename_i l hln
  split at h <;> try exact h.elim
  rename_i bs hbs
  obtain ⟨k1,k2⟩ :=takeN_eq hln
  obtain ⟨cs,f1,f2,f3⟩ :=h3.piece (off :=0) (by simpa using k1) k2
  obtain ⟨rfl,rfl⟩ :=evF_ret h
  refine OpRes.pure c.h (u :=.string ⟨bs.toArray⟩) ?_ (by simp [VRel]) trivial
  rw [e1,Sem.run_bind,run_bytes_str (hs :=hs') (he :=he') (hd :=hd') f1 (by simpa using f2) f3 hbs]
  simp
 ·rename_i o off m cap0 ex
  rw [ex] at hx
  simp only [VRel] at hx
  obtain ⟨cap,hx,_⟩ :=hx
  obtain ⟨R',_,h⟩ :=h
  simp only at h
  split at h <;> try exact h.elim
  rename_i tr n ty ho
  obtain ⟨hb,h⟩ :=h
  have hb :=of_decide_eq_true hb
  split at h <;> try exact h.elim
  rename_i l hln
  split at h <;> try exact h.elim
  rename_i bs hbs
  obtain ⟨k1,k2⟩ :=loadN_ok hln
  obtain ⟨cs,f1,f2,f3,f4⟩ :=c.h.cellsAt ho hb k1 k2
  obtain ⟨rfl,rfl⟩ :=evF_ret h
  refine OpRes.pure c.h (u :=.string ⟨bs.toArray⟩) ?_ (by simp [VRel]) trivial
  rw [hx,Sem.run_bind,run_bytes_str (hs :=hs') (he :=he') (hd :=hd') f1 f2 f3 hbs]
  simp
 ·exact h.elim
theorem run_append_row (w:World) (t tx ty e:TypeId) (i:TypeInfo) (ht:P.underlying t = some (.slice e)) (hi:P.info? e = some i) (b sLen sCap:Nat) (x:Value) (n:Nat) (news:List Value)
  (hs:Src P i.size tx x n news w) (cur:Array Value) (hg:CellsAt w b cur e)
  (hroom:sLen + n ≤ sCap) (hfit:sLen * i.size + news.length ≤ cur.size) :
  (Builtin.append_ #[t,tx] ty #[.slice (some ⟨b,0,none⟩) sLen sCap,x]).run P w = .ok (.slice (some ⟨b,0,none⟩) (sLen + n) sCap)
   (w.setRow b (cur.toList.take (sLen * i.size) ++ news ++ cur.toList.drop (sLen * i.size + news.length)).toArray) :=by
 have hst :=store_row P b (sLen * i.size) e news 0 cur w hg (by simpa using hfit) hs.one
 simp only [Nat.add_zero] at hst
 rcases hs.kind with ⟨e',hk⟩ | hk <;> simp [Builtin.append_,run_underlying ht,run_underlying hk,sizeOf,typeInfo,hi,hs.len,hroom,hs.cells,Addr.add_lit,hst]
theorem le_grownCap (w:World) (need old:Nat) (e:TypeId):need ≤ grownCap w need old e :=by
 simp only [grownCap,Question.cut];omega
theorem newRow_chain (h:HRel g B w H) (hs:H.o s = .hole) {n cap sz:Nat} {e:TypeId} {zs:List AV} {news:List Value} {rest:Array Value} (hz:VRels g w zs news) (hl:Lives H.L zs)
  (hn:news.length = n * sz) (hc:n ≤ cap) (hr:rest.size = (cap - n) * sz) :
  ∃ g',Out g B w H g' (w.drew.alloc (.cells (news.toArray ++ rest) e)) (H.put s (.chain n sz e) 0) ∧
   VRel g' (w.drew.alloc (.cells (news.toArray ++ rest) e)) (.lst zs n (.ch s)) (.slice (some ⟨w.heap.size,0,none⟩) n cap) ∧ Live (H.put s (.chain n sz e) 0).L (.lst zs n (.ch s)) :=by
 have h1 :=Out.drew h
 have hsz:cap * sz = (news.toArray ++ rest).size :=by
  simp only [Array.size_append,List.size_toArray,hn,hr,← Nat.add_mul]
  congr 1
  omega
 obtain ⟨g',e1,e2,e3,e4,e5⟩ :=h1.rel.newChain hs (arr :=news.toArray ++ rest) (ty :=e) (cap :=cap) (sz :=sz) hsz hc
 have hlen :=hz.length
 refine ⟨g',h1.trans e1,?_,⟨hl.mono fun i hi => AH.put_L H s 0 (by simp) hi,fun c hcc => ?_⟩⟩
 ·simp only [VRel]
  refine ⟨w.heap.size,0,cap,rfl,hc,?_,?_,?_⟩
  ·have e3':g'.im w.heap.size = n * sz :=e3
   rw [e3']
   omega
  ·refine LRel.of_get _ _ fun j a ha => ?_
   obtain ⟨v,f1,f2⟩ :=hz.get _ _ ha
   refine ⟨v,?_,f2.ext (h1.trans e1).ext _ _ (hl.mem _ _ (List.mem_of_getElem? ha))⟩
   have :=World.cell?_alloc_new w.drew (news.toArray ++ rest) e (0 + j)
   have e6:w.drew.heap.size = w.heap.size :=rfl
   rw [e6] at this
   rw [this,Nat.zero_add]
   have hj:j < news.length :=by
    rw [List.getElem?_eq_some_iff] at f1
    exact f1.1
   rw [Array.getElem?_append_left (by simpa using hj)]
   simpa using f1
  ·have e5':g'.cn s = n :=e5
   have e2':g'.cb s = w.heap.size :=e2
   have e4':g'.cc s = cap :=e4
   exact ⟨by omega,fun _ => ⟨e2'.symm,rfl,e4'.symm⟩⟩
 ·cases hcc
  exact AH.put_L_same H s 0 (by simp)
def roomOk:Nat :=140737488355328
def pAppend (T:Tr TypeInfo) (t tx:TypeId) (d x:AV):Plan :=
 match tyU T t with
 |some (.slice e) => match T.get e with
  |some i => match i.zero with
   |some z => .chk (lenIs (ofVs z.cells.toList) i.size) (pSrc T tx i.size x fun ys m => match m with
    | 0 => match d with
     | .nils => .ret .nils
     | .lst xs n own => .ret (.lst xs n own)
     | _ => .fail
    |m + 1 => match d with
     | .nils => .chk (decide ((m + 1) * i.bytes ≤ roomOk)) (.chk (decide (m + 1 ≤ strLe)) (.fL ys fun zs =>
       .newo (.chain (m + 1) i.size e) 0 fun c => .ret (.lst zs (m + 1) (.ch c))))
     | .lst xs n own => .chk (decide ((n + (m + 1)) * i.bytes ≤ roomOk)) (.chk (decide (n + (m + 1) ≤ strLe)) (.chk (lenIs xs (n * i.size)) (.fL (xs ++ ys) fun zs =>
       match own with
       | .full => .newo (.chain (n + (m + 1)) i.size e) 0 fun c => .ret (.lst zs (n + (m + 1)) (.ch c))
       | .ch c => .get c fun y => match y with
        | .chain n' sz' e' => .chk (decide (n' = n)) (.chk (decide (sz' = i.size)) (.chk (decide (e' = e))
          (.seto c (.chain (n + (m + 1)) i.size e) 0 (.ret (.lst zs (n + (m + 1)) (.ch c))))))
        | _ => .fail
       | .no => .fail)))
     | _ => .fail)
   |none => .fail
  |none => .fail
 | _ => .fail
def pAppendM (T:Tr TypeInfo) (t tx:TypeId) (d x:AV):Plan :=
 match tyU T t with
 |some (.slice e) => match T.get e with
  |some i => match i.zero with
   |some z => .chk (lenIs (ofVs z.cells.toList) i.size) (pSrc T tx i.size x fun ys m => match m with
    | 0 => .fail
    |m + 1 => match d with
     | .nils => .chk (decide ((m + 1) * i.bytes ≤ roomOk)) (.chk (decide (m + 1 ≤ strLe)) (.newl ys e fun c => .ret (.slc c 0 (m + 1) 0)))
     | .lst xs n own => .chk (decide ((n + (m + 1)) * i.bytes ≤ roomOk)) (.chk (decide (n + (m + 1) ≤ strLe)) (.chk (lenIs xs (n * i.size)) (match own with
       | .full => .newl (xs ++ ys) e fun c => .ret (.slc c 0 (n + (m + 1)) 0)
       | _ => .fail)))
     | .slc o off n cap => .chk (decide (off = 0)) (.chk (Nat.ble n cap) (.get o fun y => match y with
       | .cells tr N ty' => .chk (decide (ty' = e)) (match Nat.ble (n + (m + 1)) cap with
        |true => .setcs o (n * i.size) ys (.ret (.slc o 0 (n + (m + 1)) cap))
        |false => .chk (decide (n * i.size ≤ N)) (.chk (decide ((n + (m + 1)) * i.bytes ≤ roomOk)) (.chk (decide (n + (m + 1) ≤ strLe)) (match loadN tr 0 (n * i.size) with
         |some l => .newl (l ++ ys) e fun c => .ret (.slc c 0 (n + (m + 1)) 0)
         |none => .fail))))
       | _ => .fail))
     | _ => .fail)
   |none => .fail
  |none => .fail
 | _ => .fail
def pAppendC (T:Tr TypeInfo) (t tx:TypeId) (d x:AV):Plan :=
 match tyU T t with
 |some (.slice e) => match T.get e with
  |some i => match i.zero with
   |some z => .chk (lenIs (ofVs z.cells.toList) i.size) (pSrc T tx i.size x fun ys m => match m with
    | 0 => .fail
    |m + 1 => match d with
     | .nils => .chk (decide ((m + 1) * i.bytes ≤ roomOk)) (.chk (decide (m + 1 ≤ strLe)) (.newo (.mrow ys (m + 1) i.size e) (bdl ys) fun c => .ret (.lst [] (m + 1) (.ch c))))
     | .lst _ n own => .chk (decide ((n + (m + 1)) * i.bytes ≤ roomOk)) (.chk (decide (n + (m + 1) ≤ strLe)) (match own with
       | .ch c => .get c fun y => match y with
        | .mrow xs n' sz' e' => .chk (decide (n' = n)) (.chk (decide (sz' = i.size)) (.chk (decide (e' = e))
          (.seto c (.mrow (xs ++ ys) (n + (m + 1)) i.size e) (bdl (xs ++ ys)) (.ret (.lst [] (n + (m + 1)) (.ch c))))))
        | _ => .fail
       | _ => .fail))
     | _ => .fail)
   |none => .fail
  |none => .fail
 | _ => .fail
theorem VRels.append:∀ {xs ys:List AV} {us vs:List Value},VRels g w xs us → VRels g w ys vs → VRels g w (xs ++ ys) (us ++ vs)
 | [],_,_,_,h,k => by simp only [VRels] at h;subst h;simpa using k
 | _ :: _,ys,us,vs,h,k => by
  obtain ⟨u,us',e,h1,h2⟩ :=h
  subst e
  simp only [List.cons_append,VRels]
  exact ⟨_,_,rfl,h1,VRels.append h2 k⟩
theorem Lives.append {L:Nat → Prop}:∀ {xs ys:List AV},Lives L xs → Lives L ys → Lives L (xs ++ ys)
 | [],_,_,k => k
 | _ :: _,_,h,k => ⟨h.1,Lives.append h.2 k⟩
theorem zeroCells_size (z:Array Value) (n:Nat):(Builtin.zeroCells z n).size = n * z.size :=by simp [Builtin.zeroCells]
theorem pAppend_ok (c:OCtx P T F g B w H s ev ρ) {t tx ty:TypeId} {d x:Operand} (h:EvF s (pAppend T t tx (ev d) (ev x)) H.o r R W) :
  OpRes g B w H W ((do let v ← Builtin.append_ #[t,tx] ty #[ρ d,ρ x];pure (.value v):Sem Next).run P w) r :=by
 have hd :=c.rel d
 have hld :=c.live d
 unfold pAppend at h
 split at h <;> try exact h.elim
 rename_i e hu
 have hu' :=tyU_ok c.T hu
 split at h <;> try exact h.elim
 rename_i i hi
 have hi' :=c.T e i hi
 split at h <;> try exact h.elim
 rename_i z hz
 obtain ⟨hzl,h⟩ :=h
 have hzl :=lenIs_ok hzl
 have hzs:z.cells.size = i.size :=by
  have :=(ofVs_rel g w z.cells.toList).length
  rw [← Array.length_toList,this,hzl]
 have hq :=pSrc_ok c h
 clear h
 obtain ⟨ys,m,news,R',h,hsrc,hys,hlys⟩ :=hq
 have hnl :=hsrc.newsLen
 have hnl2 :=hys.length
 split at h
 ·-- nothing is appended
  have hnil:news = [] :=by
   apply List.length_eq_zero_iff.1
   rw [hnl];simp
  subst hnil
  split at h
  ·rename_i ed
   rw [ed] at hd
   simp only [VRel] at hd
   obtain ⟨rfl,rfl⟩ :=evF_ret h
   have :=run_append_nothing w t tx ty e i hu' hi' none 0 0 (Nat.le_refl _) (ρ x) hsrc
   exact OpRes.pure c.h (u :=.slice none 0 0) (by simp [hd,this]) (by simp [VRel]) trivial
  ·rename_i xs n own ed
   rw [ed] at hd hld
   have hd0 :=hd
   simp only [VRel] at hd
   obtain ⟨b,off,cap,e1,h1,h2,h3,h4⟩ :=hd
   obtain ⟨rfl,rfl⟩ :=evF_ret h
   have :=run_append_nothing w t tx ty e i hu' hi' (some ⟨b,off,none⟩) n cap h1 (ρ x) hsrc
   rw [e1] at hd0
   exact OpRes.pure c.h (u :=.slice (some ⟨b,off,none⟩) n cap) (by simp [e1,this]) hd0 hld
  ·exact h.elim
 ·rename_i m
  split at h
  ·-- onto nil
   rename_i ed
   rw [ed] at hd
   simp only [VRel] at hd
   obtain ⟨hb1,hb2,W',rfl,h⟩ :=h
   obtain ⟨rfl,rfl⟩ :=evF_ret h
   have hb1 :=of_decide_eq_true hb1
   have hb2 :=of_decide_eq_true hb2
   unfold roomOk at hb1
   unfold strLe at hb2
   have hrun :=run_append_grow_src w t tx ty e i z hu' hi' hz none 0 0 [] (run_firstCells_none w.drew i.size 0 0 0) (ρ x) (m + 1) news hsrc (by omega) (by omega) (growslice_fits (by omega) (by simpa using hb1))
   obtain ⟨g',f1,f2,f3⟩ :=newRow_chain (e :=e) c.h c.s hys hlys hnl (le_grownCap w (m + 1) 0 e) (rest :=Builtin.zeroCells z.cells (grownCap w (m + 1) 0 e - (m + 1))) (by rw [zeroCells_size,hzs])
   refine ⟨_,g',_,?_,f1,f2,f3⟩
   simp only [Nat.zero_add,List.nil_append] at hrun
   simp [hd,hrun]
  ·-- onto a list
   rename_i xs n own ed
   rw [ed] at hd hld
   simp only [VRel] at hd
   obtain ⟨b,off,cap,e1,h1,h2,h3,h4⟩ :=hd
   obtain ⟨hb1,hb2,hb3,h⟩ :=h
   have hb1 :=of_decide_eq_true hb1
   have hb2 :=of_decide_eq_true hb2
   have hb3 :=lenIs_ok hb3
   unfold roomOk at hb1
   unfold strLe at hb2
   obtain ⟨olds,k1,k2,k3⟩ :=h3.piece (off :=0) (k :=n * i.size) (l :=xs) (by simp [← hb3]) hb3
   have hold :=run_firstCells_some (P :=P) w.drew i.size n ⟨b,off,none⟩ n cap olds k1 (by simpa using k2)
   have hzz :=k3.append hys
   have hll :=Lives.append hld.1 hlys
   have hgrow :=fun (hc:cap < n + (m + 1)) => run_append_grow_src w t tx ty e i z hu' hi' hz (some ⟨b,off,none⟩) n cap olds hold (ρ x) (m + 1) news hsrc hc (by omega) (growslice_fits hc hb1)
   have hnn:(olds ++ news).length = (n + (m + 1)) * i.size :=by rw [List.length_append,k1,hnl,Nat.add_mul]
   split at h
   ·-- full
    obtain ⟨W',rfl,h⟩ :=h
    obtain ⟨rfl,rfl⟩ :=evF_ret h
    have h4:cap = n :=h4
    subst h4
    obtain ⟨g',f1,f2,f3⟩ :=newRow_chain (e :=e) c.h c.s hzz hll hnn (le_grownCap w (cap + (m + 1)) cap e) (rest :=Builtin.zeroCells z.cells (grownCap w (cap + (m + 1)) cap e - (cap + (m + 1)))) (by rw [zeroCells_size,hzs])
    refine ⟨_,g',_,?_,f1,f2,f3⟩
    simp [e1,hgrow (by omega)]
   ·-- a chain
    rename_i cc
    obtain ⟨R'',_,h⟩ :=h
    simp only at h
    split at h <;> try exact h.elim
    rename_i n' sz' e' ho
    obtain ⟨g1,g2,g3,R3,W',_,rfl,h⟩ :=h
    obtain ⟨rfl,_,rfl⟩ :=h
    have g1 :=of_decide_eq_true g1
    have g2 :=of_decide_eq_true g2
    have g3 :=of_decide_eq_true g3
    subst g1;subst g2;subst g3
    have hrc :=c.h.rel cc
    rw [ho] at hrc
    obtain ⟨arr,q1,q2,q3,q4,q5⟩ :=hrc
    obtain ⟨o1,o2⟩ :=h4
    obtain ⟨o3,o4,o5⟩ :=o2 q5.symm
    subst o3;subst o4;subst o5
    by_cases hroom:n' + (m + 1) ≤ g.cc cc
    ·-- in place
     have hfit:n' * i.size + news.length ≤ arr.size :=by
      rw [hnl,← q4,← Nat.add_mul]
      exact Nat.mul_le_mul_right _ hroom
     have hrun :=run_append_row w t tx ty e' i hu' hi' (g.cb cc) n' (g.cc cc) (ρ x) (m + 1) news hsrc arr (.of0 q1) hroom hfit
     generalize harr:(arr.toList.take (n' * i.size) ++ news ++ arr.toList.drop (n' * i.size + news.length)).toArray = arr' at hrun
     have hsz:arr'.size = arr.size :=by
      rw [← harr]
      simp only [List.size_toArray,List.length_append,List.length_take,List.length_drop,Array.length_toList]
      omega
     have hpre:∀ j,j < n' * i.size → arr'[j]? = arr[j]? :=fun j hj => by
      rw [← harr,List.getElem?_toArray,List.append_assoc,List.getElem?_append_left (by simp;omega),List.getElem?_take_of_lt hj]
      simp
     have hnew:∀ j,j < news.length → arr'[n' * i.size + j]? = news[j]? :=fun j hj => by
      have e4:(List.take (n' * i.size) arr.toList).length = n' * i.size :=by simp;omega
      rw [← harr,List.getElem?_toArray,List.append_assoc,List.getElem?_append_right (by omega),e4,List.getElem?_append_left (by omega)]
      congr 1
      omega
     obtain ⟨g',f1,f2,f3,f4,f5⟩ :=c.h.growChain ho hroom q1 hsz hpre
     refine ⟨.slice (some ⟨g.cb cc,0,none⟩) (n' + (m + 1)) (g.cc cc),g',_,by simp [e1,hrun],f1,?_,hll.mono fun k hk => f1.L k hk,fun c' hc' => by cases hc';exact f1.L _ (hld.2 _ rfl)⟩
     simp only [VRel]
     refine ⟨g.cb cc,0,g.cc cc,rfl,by omega,?_,?_,?_⟩
     ·rw [f3,List.length_append,Nat.zero_add,hb3,← hnl2,hnl,Nat.add_mul];exact Nat.le_refl _
     ·refine LRel.of_get _ _ fun j a ha => ?_
      have hcell :=fun j => cell_setRow_same w (g.cb cc) j arr arr' e' (0,0) q1
      rw [Nat.zero_add,hcell]
      by_cases hj:j < xs.length
      ·rw [List.getElem?_append_left hj] at ha
       obtain ⟨v,v1,v2⟩ :=h3.get xs 0 j a ha
       refine ⟨v,?_,v2.ext f1.ext _ _ (hld.1.mem _ _ (List.mem_of_getElem? ha))⟩
       rw [hpre j (by omega)]
       simpa [World.cell?,q1] using v1
      ·rw [List.getElem?_append_right (by omega)] at ha
       obtain ⟨v,v1,v2⟩ :=hys.get _ _ ha
       refine ⟨v,?_,v2.ext f1.ext _ _ (hlys.mem _ _ (List.mem_of_getElem? ha))⟩
       have hj2:j - xs.length < news.length :=(List.getElem?_eq_some_iff.1 v1).1
       have :=hnew (j - xs.length) hj2
       rw [show n' * i.size + (j - xs.length) = j by omega] at this
       rw [this];exact v1
     ·exact ⟨by omega,fun _ => ⟨f2.symm,rfl,f4.symm⟩⟩
    ·-- a new block
     have h1' :=Out.drew c.h
     have hrest:(Builtin.zeroCells z.cells (grownCap w (n' + (m + 1)) (g.cc cc) e' - (n' + (m + 1)))).size = (grownCap w (n' + (m + 1)) (g.cc cc) e' - (n' + (m + 1))) * i.size :=by rw [zeroCells_size,hzs]
     have hcap :=le_grownCap w (n' + (m + 1)) (g.cc cc) e'
     generalize Builtin.zeroCells z.cells (grownCap w (n' + (m + 1)) (g.cc cc) e' - (n' + (m + 1))) = rest at *
     have hrun :=hgrow (by omega)
     generalize grownCap w (n' + (m + 1)) (g.cc cc) e' = ncap at *
     have hsz:ncap * i.size = ((olds ++ news).toArray ++ rest).size :=by
      simp only [Array.size_append,List.size_toArray,hnn,hrest,← Nat.add_mul]
      congr 1
      omega
     obtain ⟨g',f1,f2,f3,f4,f5⟩ :=h1'.rel.moveChain (m :=m + 1) ho (by omega) (arr :=(olds ++ news).toArray ++ rest) (cap :=ncap) hsz hcap
     have f1' :=h1'.trans f1
     refine ⟨.slice (some ⟨w.heap.size,0,none⟩) (n' + (m + 1)) ncap,g',_,by simp [e1,hrun],f1',?_,hll.mono fun k hk => f1'.L k hk,fun c' hc' => by cases hc';exact f1'.L _ (hld.2 _ rfl)⟩
     simp only [VRel]
     have f2':g'.cb cc = w.heap.size :=f2
     have f3':g'.im w.heap.size = (n' + (m + 1)) * i.size :=f3
     refine ⟨w.heap.size,0,ncap,rfl,hcap,?_,?_,?_⟩
     ·rw [f3',List.length_append,Nat.zero_add,hb3,← hnl2,hnl,Nat.add_mul];exact Nat.le_refl _
     ·refine LRel.of_get _ _ fun j a ha => ?_
      obtain ⟨v,v1,v2⟩ :=hzz.get _ _ ha
      refine ⟨v,?_,v2.ext f1'.ext _ _ (hll.mem _ _ (List.mem_of_getElem? ha))⟩
      have :=World.cell?_alloc_new w.drew ((olds ++ news).toArray ++ rest) e' (0 + j)
      have e6:w.drew.heap.size = w.heap.size :=rfl
      rw [e6] at this
      rw [this,Nat.zero_add]
      have hj:j < (olds ++ news).length :=(List.getElem?_eq_some_iff.1 v1).1
      rw [Array.getElem?_append_left (by simpa using hj)]
      simpa using v1
     ·exact ⟨by omega,fun _ => ⟨f2'.symm,rfl,f4.symm⟩⟩
   ·exact h.elim
  ·exact h.elim
theorem newRow_cells (h:HRel g B w H) (hs:H.o s = .hole) {e:TypeId} {zs:List AV} {news:List Value} {rest:Array Value} (hz:VRels g w zs news) (hl:Lives H.L zs) {t:Tr AV} (ht:TOf zs t) :
  ∃ g',Out g B w H g' (w.drew.alloc (.cells (news.toArray ++ rest) e)) (H.put s (.cells t zs.length e) (bdl zs)) ∧ g'.ob s = w.heap.size :=by
 have h1 :=Out.drew h
 have hz1:VRels g w.drew zs news :=VRels.ext h1.ext _ _ hl hz
 obtain ⟨g',e1,e2⟩ :=h1.rel.newCellsP hs (arr :=news.toArray ++ rest) (ty :=e) ht hz1 hl ⟨by simp,fun j hj => by
  rw [Array.getElem?_append_left (by simpa using hj)];simp⟩
 exact ⟨g',h1.trans e1,e2⟩
def byA (l:List UInt8):List AV :=l.map fun b => .int .u8 b.toNat
def pConvS (T:Tr TypeInfo) (e:TypeId) (x:AV):Plan :=
 match tyU T e with
 |some (.int .u8) => match x with
  | .str l => .chk (decide (0 < l.length)) (.newl (byA l) e fun c => .ret (.slc c 0 l.length 0))
  | _ => .fail
 | _ => .fail
theorem byA_live (L:Nat → Prop):∀ l:List UInt8,Lives L (byA l)
 | [] => trivial
 | _ :: r => ⟨trivial,byA_live L r⟩
theorem modify_push {α:Type} (a:Array α) (x:α) (f:α → α):(a.push x).modify a.size f = a.push (f x) :=by
 apply Array.ext
 ·simp
 ·intro i h1 h2
  rw [Array.getElem_modify,Array.getElem_push,Array.getElem_push]
  simp only [Array.size_modify,Array.size_push] at h1
  by_cases e:a.size = i
  ·subst e
   simp
  ·rw [if_neg e,dif_pos (by omega),dif_pos (by omega)]
theorem bytesWorld_alloc (w:World) (e:TypeId) (s:ByteArray):Go.Lib.bytesWorld w e s = w.drew.alloc (.cells (Go.Lib.bytesCells w e s) e ((Go.Lib.bytesCells w e s).size,(Go.Lib.bytesCells w e s).size + 1)) :=by
 unfold Go.Lib.bytesWorld World.freeze
 rw [if_neg (by decide)]
 show ({ heap :=(w.drew.heap.push _).modify w.drew.heap.size _,tape :=_,drawn :=_,os :=_,output :=_ }:World) = _
 rw [modify_push]
 rfl
theorem newRow_bytes (h:HRel g B w H) (hs:H.o s = .hole) {e:TypeId} (l:List UInt8) {t:Tr AV} (ht:TOf (byA l) t) :
  ∃ g',Out g B w H g' (Go.Lib.bytesWorld w e ⟨l.toArray⟩) (H.put s (.cells t (byA l).length e) (bdl (byA l))) ∧ g'.ob s = w.heap.size :=by
 rw [bytesWorld_alloc]
 have h1 :=Out.drew h
 refine Exists.elim (h1.rel.newOb hs (x :=.cells t (byA l).length e) (by simp) (fun _ _ => rfl) (.cells (Go.Lib.bytesCells w e ⟨l.toArray⟩) e ((Go.Lib.bytesCells w e ⟨l.toArray⟩).size,(Go.Lib.bytesCells w e ⟨l.toArray⟩).size + 1)) (bdl (byA l)) ?_ ?_ ?_) fun g' ⟨e1,e2⟩ => ⟨g',h1.trans e1,e2⟩
 ·intro g' e1 e2 _ hx
  refine ⟨Go.Lib.bytesCells w e ⟨l.toArray⟩,⟨_,by rw [e1];exact heap_alloc_new _ _,.inr (Nat.le_refl _)⟩,by rw [e1];exact e2,?_,fun j hj => ?_⟩
  ·simp [Go.Lib.bytesCells,byA]
  ·have hj:j < l.length :=by simpa [byA] using hj
   refine ⟨.int .u8 l[j].toNat,.int .u8 l[j].toNat,by rw [ht];simp [byA,hj],?_,rfl⟩
   simp [Go.Lib.bytesCells,Array.getElem?_append,hj]
 ·intro j a hj
  rw [ht] at hj
  exact (byA_live _ l).mem _ _ (List.mem_of_getElem? hj)
 ·intro j a hj
  rw [ht] at hj
  exact Nat.le_trans (bd_le_bdl _ _ (List.mem_of_getElem? hj)) (AH.put_bd H s _ _)
theorem pConvS_ok (c:OCtx P T F g B w H s ev ρ) {src e dst:TypeId} {x:Operand} {u:TypeDesc} (hs:tyU T src = some u) (hd:tyU T dst = some (.slice e)) (h:EvF s (pConvS T e (ev x)) H.o r R W) :
  OpRes g B w H W ((do let v ← convert src dst (ρ x);pure (.value v):Sem Next).run P w) r :=by
 have hx :=c.rel x
 have hs' :=tyU_ok c.T hs
 have hd' :=tyU_ok c.T hd
 unfold pConvS at h
 split at h <;> try exact h.elim
 rename_i he
 have he' :=tyU_ok c.T he
 split at h <;> try exact h.elim
 rename_i l ex
 rw [ex] at hx
 simp only [VRel] at hx
 obtain ⟨hp,W',t',ht,rfl,h⟩ :=h
 obtain ⟨rfl,rfl⟩ :=evF_ret h
 have hp :=of_decide_eq_true hp
 have hrun :=Go.Lib.run_convert_string_bytes (P :=P) w src dst e ⟨l.toArray⟩ hs' hd' he'
 rw [show (⟨l.toArray⟩ : ByteArray).size = l.length by simp [ByteArray.size]] at hrun
 obtain ⟨g',f1,f2⟩ :=newRow_bytes (e :=e) c.h c.s l ht
 refine ⟨.slice (some ⟨w.heap.size,0,none⟩) l.length (grownCap w l.length 0 e),g',_,?_,f1,?_,AH.put_L_same H s _ (by simp)⟩
 ·simp [hx,hrun]
 ·simp only [VRel];rw [f2];exact ⟨_,rfl,le_grownCap w l.length 0 e,fun h => by omega⟩
theorem pAppendM_ok (c:OCtx P T F g B w H s ev ρ) {t tx ty:TypeId} {d x:Operand} (h:EvF s (pAppendM T t tx (ev d) (ev x)) H.o r R W) :
  OpRes g B w H W ((do let v ← Builtin.append_ #[t,tx] ty #[ρ d,ρ x];pure (.value v):Sem Next).run P w) r :=by
 have hd :=c.rel d
 have hld :=c.live d
 unfold pAppendM at h
 split at h <;> try exact h.elim
 rename_i e hu
 have hu' :=tyU_ok c.T hu
 split at h <;> try exact h.elim
 rename_i i hi
 have hi' :=c.T e i hi
 split at h <;> try exact h.elim
 rename_i z hz
 obtain ⟨hzl,h⟩ :=h
 have hzl :=lenIs_ok hzl
 have hzs:z.cells.size = i.size :=by
  have :=(ofVs_rel g w z.cells.toList).length
  rw [← Array.length_toList,this,hzl]
 have hq :=pSrc_ok c h
 clear h
 obtain ⟨ys,m,news,R',h,hsrc,hys,hlys⟩ :=hq
 have hnl :=hsrc.newsLen
 have hnl2 :=hys.length
 split at h
 ·exact h.elim
 ·rename_i m
  split at h
  ·-- onto nil
   rename_i ed
   rw [ed] at hd
   simp only [VRel] at hd
   obtain ⟨hb1,hb2,W',t',ht,rfl,h⟩ :=h
   obtain ⟨rfl,rfl⟩ :=evF_ret h
   have hb1 :=of_decide_eq_true hb1
   have hb2 :=of_decide_eq_true hb2
   unfold roomOk at hb1
   unfold strLe at hb2
   have hrun :=run_append_grow_src w t tx ty e i z hu' hi' hz none 0 0 [] (run_firstCells_none w.drew i.size 0 0 0) (ρ x) (m + 1) news hsrc (by omega) (by omega) (growslice_fits (by omega) (by simpa using hb1))
   obtain ⟨g',f1,f2⟩ :=newRow_cells (e :=e) c.h c.s hys hlys (rest :=Builtin.zeroCells z.cells (grownCap w (m + 1) 0 e - (m + 1))) ht
   have hcap :=le_grownCap w (m + 1) 0 e
   refine ⟨.slice (some ⟨w.heap.size,0,none⟩) (m + 1) (grownCap w (m + 1) 0 e),g',_,?_,f1,?_,AH.put_L_same H s _ (by simp)⟩
   ·simp only [Nat.zero_add,List.nil_append] at hrun
    simp [hd,hrun]
   ·simp only [VRel];rw [f2];exact ⟨_,rfl,hcap,fun h => by omega⟩
  ·-- onto a list
   rename_i xs n own ed
   rw [ed] at hd hld
   simp only [VRel] at hd
   obtain ⟨b,off,cap,e1,h1,h2,h3,h4⟩ :=hd
   obtain ⟨hb1,hb2,hb3,h⟩ :=h
   have hb1 :=of_decide_eq_true hb1
   have hb2 :=of_decide_eq_true hb2
   have hb3 :=lenIs_ok hb3
   unfold roomOk at hb1
   unfold strLe at hb2
   obtain ⟨olds,k1,k2,k3⟩ :=h3.piece (off :=0) (k :=n * i.size) (l :=xs) (by simp [← hb3]) hb3
   have hold :=run_firstCells_some (P :=P) w.drew i.size n ⟨b,off,none⟩ n cap olds k1 (by simpa using k2)
   have hzz :=k3.append hys
   have hll :=Lives.append hld.1 hlys
   have hgrow :=fun (hc:cap < n + (m + 1)) => run_append_grow_src w t tx ty e i z hu' hi' hz (some ⟨b,off,none⟩) n cap olds hold (ρ x) (m + 1) news hsrc hc (by omega) (growslice_fits hc hb1)
   split at h
   ·-- full
    obtain ⟨W',t',ht,rfl,h⟩ :=h
    obtain ⟨rfl,rfl⟩ :=evF_ret h
    have h4:cap = n :=h4
    subst h4
    obtain ⟨g',f1,f2⟩ :=newRow_cells (e :=e) c.h c.s hzz hll (rest :=Builtin.zeroCells z.cells (grownCap w (cap + (m + 1)) cap e - (cap + (m + 1)))) ht
    have hcap :=le_grownCap w (cap + (m + 1)) cap e
    refine ⟨.slice (some ⟨w.heap.size,0,none⟩) (cap + (m + 1)) (grownCap w (cap + (m + 1)) cap e),g',_,?_,f1,?_,AH.put_L_same H s _ (by simp)⟩
    ·simp [e1,hgrow (by omega)]
    ·simp only [VRel];rw [f2];exact ⟨_,rfl,hcap,fun h => by omega⟩
   ·exact h.elim
  ·-- onto cells
   rename_i o off n cap ed
   rw [ed] at hd
   simp only [VRel] at hd
   obtain ⟨cap',e1,h1,h2⟩ :=hd
   obtain ⟨h3,h4,R2,_,h⟩ :=h
   have h3 :=of_decide_eq_true h3
   subst h3
   obtain rfl :=h2 (Nat.le_of_ble_eq_true h4)
   simp only at h
   split at h <;> try exact h.elim
   rename_i tr N ty' ho
   obtain ⟨h5,h⟩ :=h
   have h5 :=of_decide_eq_true h5
   subst h5
   split at h
   ·rename_i hb
    have hb :=Nat.le_of_ble_eq_true hb
    obtain ⟨R3,W',t1,N1,ty1,t',_,hoo,hn,hts,rfl,h⟩ :=h
    obtain ⟨rfl,rfl⟩ :=evF_ret h
    rw [ho] at hoo
    injection hoo with q1 q2 q3
    subst q1;subst q2;subst q3
    obtain ⟨arr,f1,f2,f3⟩ :=c.h.setCells ho hn hts hys hlys
    have hrun :=run_append_row w t tx ty ty' i hu' hi' (g.ob o) n cap' (ρ x) (m + 1) news hsrc arr f1 hb (by omega)
    refine ⟨.slice (some ⟨g.ob o,0,none⟩) (n + (m + 1)) cap',g,_,?_,f3,?_,AH.put_L_same H o _ (by simp)⟩
    ·simp [e1,hrun]
    ·simp only [VRel];exact ⟨_,rfl,hb,fun _ => rfl⟩
   ·rename_i hb
    have hb:¬ n + (m + 1) ≤ cap' :=fun z => by rw [Nat.ble_eq_true_of_le z] at hb;cases hb
    obtain ⟨h6,hb1,hb2,h⟩ :=h
    have h6 :=of_decide_eq_true h6
    have hb1 :=of_decide_eq_true hb1
    have hb2 :=of_decide_eq_true hb2
    unfold roomOk at hb1
    unfold strLe at hb2
    split at h <;> try exact h.elim
    rename_i l hln
    obtain ⟨W',t',ht,rfl,h⟩ :=h
    obtain ⟨rfl,rfl⟩ :=evF_ret h
    obtain ⟨k1,k2⟩ :=loadN_ok hln
    obtain ⟨olds,q1,q2,q3,q4⟩ :=c.h.cellsAt ho (off :=0) (by omega) k1 k2
    have hold :=run_firstCells_some (P :=P) w.drew i.size n ⟨g.ob o,0,none⟩ n cap' olds q1 (by simpa using q2)
    have hzz :=q3.append hys
    have hll :=Lives.append q4 hlys
    have hrun :=run_append_grow_src w t tx ty ty' i z hu' hi' hz (some ⟨g.ob o,0,none⟩) n cap' olds hold (ρ x) (m + 1) news hsrc (by omega) (by omega) (growslice_fits (by omega) hb1)
    obtain ⟨g',f1,f2⟩ :=newRow_cells (e :=ty') c.h c.s hzz hll (rest :=Builtin.zeroCells z.cells (grownCap w (n + (m + 1)) cap' ty' - (n + (m + 1)))) ht
    have hcap :=le_grownCap w (n + (m + 1)) cap' ty'
    refine ⟨.slice (some ⟨w.heap.size,0,none⟩) (n + (m + 1)) (grownCap w (n + (m + 1)) cap' ty'),g',_,?_,f1,?_,AH.put_L_same H s _ (by simp)⟩
    ·simp [e1,hrun]
    ·simp only [VRel];rw [f2];exact ⟨_,rfl,hcap,fun h => by omega⟩
  ·exact h.elim
theorem VRels.toArr {xs:List AV} {vs:List Value} {rest:Array Value} (h:VRels g w xs vs):∀ (j:Nat) (a:AV),xs[j]? = some a → ∃ v,(vs.toArray ++ rest)[j]? = some v ∧ VRel g w a v :=fun j a hj => by
 obtain ⟨v,h1,h2⟩ :=h.get j a hj
 have hlt:j < vs.length :=by
  rw [List.getElem?_eq_some_iff] at h1
  exact h1.1
 exact ⟨v,by rw [Array.getElem?_append_left (by simpa using hlt)];simpa using h1,h2⟩
theorem VRels.ofGet {vs:List Value}:∀ {xs:List AV},vs.length = xs.length → (∀ (j:Nat) (a:AV),xs[j]? = some a → ∃ v,vs[j]? = some v ∧ VRel g w a v) → VRels g w xs vs :=by
 intro xs
 induction xs generalizing vs with
 |nil => intro hl _;simp only [VRels];exact List.length_eq_zero_iff.1 hl
 |cons x xs ih =>
  intro hl h
  cases vs with
  |nil => simp at hl
  |cons u us =>
   simp only [VRels]
   obtain ⟨v,h1,h2⟩ :=h 0 x (by simp)
   simp at h1
   subst h1
   exact ⟨u,us,rfl,h2,ih (by simpa using hl) fun j a hj => by
    obtain ⟨v,k1,k2⟩ :=h (j + 1) a (by simpa using hj)
    exact ⟨v,by simpa using k1,k2⟩⟩
theorem pAppendC_ok (c:OCtx P T F g B w H s ev ρ) {t tx ty:TypeId} {d x:Operand} (h:EvF s (pAppendC T t tx (ev d) (ev x)) H.o r R W) :
  OpRes g B w H W ((do let v ← Builtin.append_ #[t,tx] ty #[ρ d,ρ x];pure (.value v):Sem Next).run P w) r :=by
 have hd :=c.rel d
 have hld :=c.live d
 unfold pAppendC at h
 split at h <;> try exact h.elim
 rename_i e hu
 have hu' :=tyU_ok c.T hu
 split at h <;> try exact h.elim
 rename_i i hi
 have hi' :=c.T e i hi
 split at h <;> try exact h.elim
 rename_i z hz
 obtain ⟨hzl,h⟩ :=h
 have hzl :=lenIs_ok hzl
 have hzs:z.cells.size = i.size :=by
  have :=(ofVs_rel g w z.cells.toList).length
  rw [← Array.length_toList,this,hzl]
 have hq :=pSrc_ok c h
 clear h
 obtain ⟨ys,m,news,R',h,hsrc,hys,hlys⟩ :=hq
 have hnl :=hsrc.newsLen
 have hnl2 :=hys.length
 split at h
 ·exact h.elim
 ·rename_i m
  split at h
  ·-- onto nil
   rename_i ed
   rw [ed] at hd
   simp only [VRel] at hd
   obtain ⟨hb1,hb2,W',rfl,h⟩ :=h
   obtain ⟨rfl,rfl⟩ :=evF_ret h
   have hb1 :=of_decide_eq_true hb1
   have hb2 :=of_decide_eq_true hb2
   unfold roomOk at hb1
   unfold strLe at hb2
   have hrun :=run_append_grow_src w t tx ty e i z hu' hi' hz none 0 0 [] (run_firstCells_none w.drew i.size 0 0 0) (ρ x) (m + 1) news hsrc (by omega) (by omega) (growslice_fits (by omega) (by simpa using hb1))
   have hcap :=le_grownCap w (m + 1) 0 e
   have hrest:(Builtin.zeroCells z.cells (grownCap w (m + 1) 0 e - (m + 1))).size = (grownCap w (m + 1) 0 e - (m + 1)) * i.size :=by rw [zeroCells_size,hzs]
   simp only [Nat.zero_add,List.nil_append] at hrun
   generalize Builtin.zeroCells z.cells (grownCap w (m + 1) 0 e - (m + 1)) = rest at *
   generalize grownCap w (m + 1) 0 e = ncap at *
   have h1' :=Out.drew c.h
   have hsz:ncap * i.size = (news.toArray ++ rest).size :=by
    simp only [Array.size_append,List.size_toArray,hnl,hrest,← Nat.add_mul]
    congr 1
    omega
   have hys1:VRels g w.drew ys news :=VRels.ext h1'.ext _ _ hlys hys
   obtain ⟨g',f1,f2,f3,f4,f5⟩ :=h1'.rel.newMrow (s :=s) c.s (ty :=e) hsz hcap (by rw [← hnl2,hnl]) hlys hys1.toArr
   refine ⟨.slice (some ⟨w.heap.size,0,none⟩) (m + 1) ncap,g',_,by simp [hd,hrun],h1'.trans f1,?_,⟨trivial,fun c' hc' => by cases hc';exact AH.put_L_same H s _ (by simp)⟩⟩
   simp only [VRel]
   have f2':g'.cb s = w.heap.size :=f2
   exact ⟨w.heap.size,0,ncap,rfl,hcap,Nat.zero_le _,trivial,by show m + 1 ≤ g'.cn s ∧ (m + 1 = g'.cn s → w.heap.size = g'.cb s ∧ 0 = 0 ∧ ncap = g'.cc s);rw [f5,f2',f4];exact ⟨Nat.le_refl _,fun _ => ⟨rfl,rfl,rfl⟩⟩⟩
  ·-- onto such a list
   rename_i xs0 n own ed
   rw [ed] at hd hld
   simp only [VRel] at hd
   obtain ⟨b,off,cap,e1,h1,h2,h3,h4⟩ :=hd
   obtain ⟨hb1,hb2,h⟩ :=h
   have hb1 :=of_decide_eq_true hb1
   have hb2 :=of_decide_eq_true hb2
   unfold roomOk at hb1
   unfold strLe at hb2
   split at h <;> try exact h.elim
   rename_i cc
   obtain ⟨R'',_,h⟩ :=h
   simp only at h
   split at h <;> try exact h.elim
   rename_i xs n' sz' e' ho
   obtain ⟨g1,g2,g3,R3,W',_,rfl,h⟩ :=h
   obtain ⟨rfl,_,rfl⟩ :=h
   have g1 :=of_decide_eq_true g1
   have g2 :=of_decide_eq_true g2
   have g3 :=of_decide_eq_true g3
   subst g1;subst g2;subst g3
   have hrc :=c.h.rel cc
   have hlc :=c.h.live cc
   rw [ho] at hrc hlc
   have hlc:Lives H.L xs :=hlc
   obtain ⟨arr,q1,q2,q3,q4,q5,q6,q7⟩ :=hrc
   obtain ⟨o1,o2⟩ :=h4
   obtain ⟨o3,o4,o5⟩ :=o2 q5.symm
   subst o3;subst o4;subst o5
   have hold0:n' * i.size ≤ arr.size :=by rw [← q4];exact Nat.mul_le_mul_right _ q3
   have holdl:(arr.toList.take (n' * i.size)).length = n' * i.size :=by simp;omega
   have hov:VRels g w xs (arr.toList.take (n' * i.size)) :=VRels.ofGet (by rw [holdl,q6]) fun j a hj => by
    obtain ⟨v,k1,k2⟩ :=q7 j a hj
    have hlt:j < xs.length :=(List.getElem?_eq_some_iff.1 hj).1
    exact ⟨v,by rw [List.getElem?_take_of_lt (by omega)];simpa using k1,k2⟩
   have hzz :=hov.append hys
   have hll :=Lives.append hlc hlys
   have hnn:(arr.toList.take (n' * i.size) ++ news).length = (n' + (m + 1)) * i.size :=by rw [List.length_append,holdl,hnl,Nat.add_mul]
   have hxl:(xs ++ ys).length = (n' + (m + 1)) * i.size :=by rw [List.length_append,q6,← hnl2,hnl,Nat.add_mul]
   have hfin:∀ g':Gh,∀ w':World,∀ b' cap':Nat,∀ H':AH,g'.cb cc = b' → g'.cc cc = cap' → g'.cn cc = n' + (m + 1) → n' + (m + 1) ≤ cap' → VRel g' w' (.lst [] (n' + (m + 1)) (.ch cc)) (.slice (some ⟨b',0,none⟩) (n' + (m + 1)) cap') :=fun g' w' b' cap' H' a1 a2 a3 a4 => by
    simp only [VRel]
    exact ⟨b',0,cap',rfl,a4,Nat.zero_le _,trivial,by show _ ≤ g'.cn cc ∧ (_ = g'.cn cc → b' = g'.cb cc ∧ 0 = 0 ∧ cap' = g'.cc cc);rw [a3,a1,a2];exact ⟨Nat.le_refl _,fun _ => ⟨rfl,rfl,rfl⟩⟩⟩
   by_cases hroom:n' + (m + 1) ≤ g.cc cc
   ·-- in place
    have hfit:n' * i.size + news.length ≤ arr.size :=by
     rw [hnl,← q4,← Nat.add_mul]
     exact Nat.mul_le_mul_right _ hroom
    have hrun :=run_append_row w t tx ty e' i hu' hi' (g.cb cc) n' (g.cc cc) (ρ x) (m + 1) news hsrc arr (.of0 q1) hroom hfit
    generalize harr:(arr.toList.take (n' * i.size) ++ news ++ arr.toList.drop (n' * i.size + news.length)).toArray = arr' at hrun
    have hsz:arr'.size = arr.size :=by
     rw [← harr]
     simp only [List.size_toArray,List.length_append,List.length_take,List.length_drop,Array.length_toList]
     omega
    have hcont:∀ (j:Nat) (a:AV),(xs ++ ys)[j]? = some a → ∃ v,arr'[j]? = some v ∧ VRel g w a v :=fun j a hj => by
     obtain ⟨v,k1,k2⟩ :=hzz.get j a hj
     have hlt:j < (arr.toList.take (n' * i.size) ++ news).length :=(List.getElem?_eq_some_iff.1 k1).1
     exact ⟨v,by rw [← harr,List.getElem?_toArray,List.getElem?_append_left hlt];exact k1,k2⟩
    obtain ⟨g',f1,f2,f3,f4,f5⟩ :=c.h.growMrow ho hroom q1 hsz hxl hll hcont
    exact ⟨.slice (some ⟨g.cb cc,0,none⟩) (n' + (m + 1)) (g.cc cc),g',_,by simp [e1,hrun],f1,hfin g' _ _ _ H f2 f4 f5 hroom,⟨trivial,fun c' hc' => by cases hc';exact f1.L _ (hld.2 _ rfl)⟩⟩
   ·-- a new block
    have h1' :=Out.drew c.h
    have hold :=run_firstCells_some (P :=P) w.drew i.size n' ⟨g.cb cc,0,none⟩ n' (g.cc cc) (arr.toList.take (n' * i.size)) holdl (fun j v hj => by
     have hlt:j < n' * i.size :=by have :=(List.getElem?_eq_some_iff.1 hj).1;rw [holdl] at this;exact this
     rw [List.getElem?_take_of_lt hlt] at hj
     have e6:w.drew.heap[g.cb cc]? = w.heap[g.cb cc]? :=rfl
     simp only [Addr.add_lit,Nat.zero_add,World.cell?,e6,q1]
     simpa using hj)
    have hrun :=run_append_grow_src w t tx ty e' i z hu' hi' hz (some ⟨g.cb cc,0,none⟩) n' (g.cc cc) (arr.toList.take (n' * i.size)) hold (ρ x) (m + 1) news hsrc (by omega) (by omega) (growslice_fits (by omega) hb1)
    have hrest:(Builtin.zeroCells z.cells (grownCap w (n' + (m + 1)) (g.cc cc) e' - (n' + (m + 1)))).size = (grownCap w (n' + (m + 1)) (g.cc cc) e' - (n' + (m + 1))) * i.size :=by rw [zeroCells_size,hzs]
    have hcap :=le_grownCap w (n' + (m + 1)) (g.cc cc) e'
    generalize Builtin.zeroCells z.cells (grownCap w (n' + (m + 1)) (g.cc cc) e' - (n' + (m + 1))) = rest at *
    generalize grownCap w (n' + (m + 1)) (g.cc cc) e' = ncap at *
    have hsz:ncap * i.size = ((arr.toList.take (n' * i.size) ++ news).toArray ++ rest).size :=by
     simp only [Array.size_append,List.size_toArray,hnn,hrest,← Nat.add_mul]
     congr 1
     omega
    have hzz1:VRels g w.drew (xs ++ ys) (arr.toList.take (n' * i.size) ++ news) :=VRels.ext h1'.ext _ _ hll hzz
    obtain ⟨g',f1,f2,f3,f4,f5⟩ :=h1'.rel.moveMrow (m :=m + 1) ho (by omega) hsz hcap hxl hll (VRels.toArr (rest :=rest) hzz1)
    have f1' :=h1'.trans f1
    exact ⟨.slice (some ⟨w.heap.size,0,none⟩) (n' + (m + 1)) ncap,g',_,by simp [e1,hrun],f1',hfin g' _ _ _ H f2 f4 f5 hcap,⟨trivial,fun c' hc' => by cases hc';exact f1'.L _ (hld.2 _ rfl)⟩⟩
  ·exact h.elim
end
end
end Go.Abs

/-! Literals, make, copy, strings walked. -/
namespace Go.Abs
open Go
noncomputable section
section
variable {P:Program} {T:Tr TypeInfo} {F:Tr Func} {g:Gh} {B:Nat} {w:World} {H:AH} {s:Nat} {ev:Operand → AV} {ρ:Operand → Value} {r:PRes} {R:List Nat} {W:WL}
def putN:List AV → Nat → List AV → List AV
 | [],_,_ => []
 |x :: xs,n,cs => match n with
  | 0 => match cs with
   | [] => x :: xs
   |c :: cs => c :: putN xs 0 cs
  |n + 1 => x :: putN xs n cs
theorem putN_len:∀ (xs:List AV) (n:Nat) (cs:List AV),(putN xs n cs).length = xs.length
 | [],_,_ => rfl
 |x :: xs,0,[] => rfl
 |x :: xs,0,c :: cs => by simp [putN,putN_len xs 0 cs]
 |x :: xs,n + 1,cs => by simp [putN,putN_len xs n cs]
theorem putN_get:∀ (xs:List AV) (n:Nat) (cs:List AV) (j:Nat),j < xs.length → (putN xs n cs)[j]? = if n ≤ j ∧ j < n + cs.length then cs[j - n]? else xs[j]?
 | [],_,_,j,h => by simp at h
 |x :: xs,0,[],j,h => by
  simp only [putN]
  rw [if_neg (by simp)]
 |x :: xs,0,c :: cs,0,h => by simp [putN]
 |x :: xs,0,c :: cs,j + 1,h => by
  have :=putN_get xs 0 cs j (by simpa using h)
  simp only [putN,List.getElem?_cons_succ,this,Nat.zero_le,true_and,Nat.zero_add,Nat.sub_zero,List.length_cons]
  by_cases e:j < cs.length
  ·rw [if_pos e,if_pos (by omega)]
  ·rw [if_neg e,if_neg (by omega)]
 |x :: xs,n + 1,cs,0,h => by simp [putN]
 |x :: xs,n + 1,cs,j + 1,h => by
  have :=putN_get xs n cs j (by simpa using h)
  simp only [putN,List.getElem?_cons_succ,this]
  by_cases e:n ≤ j ∧ j < n + cs.length
  ·rw [if_pos e,if_pos (by omega),show j + 1 - (n + 1) = j - n by omega]
  ·rw [if_neg e,if_neg (by omega)]
theorem putN_mem:∀ (xs:List AV) (n:Nat) (cs:List AV) (a:AV),a ∈ putN xs n cs → a ∈ xs ∨ a ∈ cs
 | [],_,_,a,h => by simp [putN] at h
 |x :: xs,0,[],a,h => .inl h
 |x :: xs,0,c :: cs,a,h => by
  simp only [putN,List.mem_cons] at h ⊢
  rcases h with h | h
  ·exact .inr (.inl h)
  ·rcases putN_mem xs 0 cs a h with h | h
   ·exact .inl (.inr h)
   ·exact .inr (.inr h)
 |x :: xs,n + 1,cs,a,h => by
  simp only [putN,List.mem_cons] at h ⊢
  rcases h with h | h
  ·exact .inl (.inl h)
  ·rcases putN_mem xs n cs a h with h | h
   ·exact .inl (.inr h)
   ·exact .inr h
theorem Lives.of_mem {L:Nat → Prop}:∀ (xs:List AV),(∀ a,a ∈ xs → Live L a) → Lives L xs
 | [],_ => trivial
 |x :: xs,h => ⟨h x (by simp),Lives.of_mem xs fun a ha => h a (by simp [ha])⟩
def foldSet (off:Nat) (cs:Array Value) (l:List (Value × Nat)):Array Value :=l.foldl (fun cs x => cs.setIfInBounds (off + x.2) x.1) cs
theorem foldSet_spec (off:Nat):∀ (l:List Value) (k:Nat) (cs:Array Value),(foldSet off cs (l.zipIdx k)).size = cs.size ∧
  ∀ j,j < cs.size → (foldSet off cs (l.zipIdx k))[j]? = if off + k ≤ j ∧ j < off + k + l.length then l[j - (off + k)]? else cs[j]?
 | [],k,cs => by
  refine ⟨rfl,fun j hj => ?_⟩
  rw [if_neg (by simp)]
  rfl
 |v :: l,k,cs => by
  obtain ⟨h1,h2⟩ :=foldSet_spec off l (k + 1) (cs.setIfInBounds (off + k) v)
  have e:foldSet off cs ((v :: l).zipIdx k) = foldSet off (cs.setIfInBounds (off + k) v) (l.zipIdx (k + 1)) :=by
   simp [foldSet,List.zipIdx_cons]
  rw [e]
  refine ⟨by rw [h1];simp,fun j hj => ?_⟩
  rw [h2 j (by simpa using hj)]
  by_cases e1:j = off + k
  ·subst e1
   rw [if_neg (by omega),if_pos (by simp)]
   simp [hj]
  ·by_cases e2:off + (k + 1) ≤ j ∧ j < off + (k + 1) + l.length
   ·rw [if_pos e2,if_pos (by simp;omega),show j - (off + k) = j - (off + (k + 1)) + 1 by omega]
    simp
   ·rw [if_neg e2,if_neg (by simp;omega)]
    rw [Array.getElem?_setIfInBounds_ne (by omega)]
theorem VRels.put {cells cs:List AV} {arr:Array Value} {v:Array Value} {off:Nat} (h:VRels g w cells arr.toList) (hc:VRels g w cs v.toList) :
  VRels g w (putN cells off cs) (foldSet off arr (v.toList.zipIdx 0)).toList :=by
 have hl :=h.length
 have hcl :=hc.length
 obtain ⟨h1,h2⟩ :=foldSet_spec off v.toList 0 arr
 have hsz:arr.size = cells.length :=by rw [← hl];simp
 refine VRels.of_get _ _ (by rw [putN_len,Array.length_toList,h1,hsz]) fun j a ha => ?_
 have hj:j < cells.length :=by
  have :=(List.getElem?_eq_some_iff.1 ha).1
  rwa [putN_len] at this
 rw [putN_get _ _ _ _ hj] at ha
 rw [Array.getElem?_toList,h2 j (by omega)]
 simp only [Nat.add_zero,hcl]
 split at ha
 ·rename_i e
  rw [if_pos e]
  exact hc.get _ _ ha
 ·rename_i e
  rw [if_neg e]
  obtain ⟨u,h3,h4⟩ :=h.get _ _ ha
  exact ⟨u,by simpa using h3,h4⟩
def fillA (place:Nat → Option (Nat × Nat)) (cells:List AV):List (Nat × AV) → Option (List AV)
 | [] => some cells
 |(i,v) :: rest => match place i with
  |some (off,size) => match cellsOf v with
   |some cs => match lenIs cs size && decide (off + size ≤ cells.length) with
    |true => fillA place (putN cells off cs) rest
    |false => none
   |none => none
  |none => none
theorem fillA_ok (c:OCtx P T F g B w H s ev ρ) {place:Nat → Option (Nat × Nat)}:∀ (parts:List (Nat × Operand)) (cells out:List AV) (arr:Array Value),
  fillA place cells (parts.map fun p => (p.1,ev p.2)) = some out → VRels g w cells arr.toList → Lives H.L cells →
  ∃ arr',Instr.fill place arr (parts.map fun p => (p.1,ρ p.2)) = some arr' ∧ VRels g w out arr'.toList ∧ Lives H.L out
 | [],cells,out,arr,h,hv,hl => by
  simp only [List.map_nil,fillA,Option.some.injEq] at h
  subst h
  exact ⟨arr,rfl,hv,hl⟩
 |(i,x) :: rest,cells,out,arr,h,hv,hl => by
  simp only [List.map_cons,fillA] at h
  split at h <;> try cases h
  rename_i off size hp
  split at h <;> try cases h
  rename_i cs hcs
  split at h <;> try cases h
  rename_i hb
  simp only [Bool.and_eq_true,decide_eq_true_eq] at hb
  obtain ⟨h1,h2⟩ :=cellsOf_ok hcs (c.rel x) (c.live x)
  have hlen :=lenIs_ok hb.1
  have hvl :=h1.length
  have hal :=hv.length
  obtain ⟨arr',f1,f2,f3⟩ :=fillA_ok c rest _ out _ h (hv.put h1) (Lives.of_mem _ fun a ha => by
   rcases putN_mem _ _ _ _ ha with ha | ha
   ·exact hl.mem _ _ ha
   ·exact h2.mem _ _ ha)
  refine ⟨arr',?_,f2,f3⟩
  simp only [List.map_cons,Instr.fill,hp]
  have e1:(ρ x).cells.size = size :=by rw [← Array.length_toList,hvl,hlen]
  have e2:arr.size = cells.length :=by rw [← hal];simp
  rw [if_neg (by simp [e1,e2];omega)]
  rw [← f1]
  congr 1
  simp only [foldSet]
  rw [← Array.foldl_toList]
  congr 1
  rw [Array.toList_zipIdx]
def placesA (T:Tr TypeInfo):List Field → Option (List (Nat × Nat))
 | [] => some []
 |f :: fs => match T.get f.type with
  |some i => match placesA T fs with
   |some l => some ((f.offset,i.size) :: l)
   |none => none
  |none => none
theorem placesA_ok (hT:TOK P T):∀ (fs:List Field) (l:List (Nat × Nat)),placesA T fs = some l → fs.mapM (fun f => (P.info? f.type).map fun i => (f.offset,i.size)) = some l
 | [],l,h => by simp only [placesA,Option.some.injEq] at h;subst h;rfl
 |f :: fs,l,h => by
  simp only [placesA] at h
  split at h <;> try cases h
  rename_i i hi
  split at h <;> cases h
  rename_i l' hl
  simp [List.mapM_cons,hT _ _ hi,placesA_ok hT fs l' hl]
def pBuild (T:Tr TypeInfo) (t:TypeId) (parts:List (Nat × AV)):Plan :=
 match zeroOf T t with
 |some zs => match tyU T t with
  |some (.struct fs) => match placesA T fs.toList with
   |some places => match fillA (fun i => places.toArray[i]?) zs parts with
    |some out => .fL out fun l => .ret (.agg l)
    |none => .fail
   |none => .fail
  |some (.array _ e) => match T.get e with
   |some i => match fillA (fun j => some (j * i.size,i.size)) zs parts with
    |some out => .fL out fun l => .ret (.agg l)
    |none => .fail
   |none => .fail
  | _ => .fail
 |none => .fail
theorem pBuild_ok (c:OCtx P T F g B w H s ev ρ) {t:TypeId} {parts:Array (Nat × Operand)} (h:EvF s (pBuild T t (parts.toList.map fun p => (p.1,ev p.2))) H.o r R W) :
  OpRes g B w H W ((do let v ← Instr.build t (parts.map fun (i,x) => (i,ρ x));pure (.value v):Sem Next).run P w) r :=by
 have hp:(parts.map fun (x:Nat × Operand) => (x.1,ρ x.2)).toList = parts.toList.map fun p => (p.1,ρ p.2) :=by simp
 unfold pBuild at h
 split at h <;> try exact h.elim
 rename_i zs hz
 unfold zeroOf at hz
 cases hti:T.get t with
 |none => rw [hti] at hz;cases hz
 |some it =>
  rw [hti] at hz
  simp only at hz
  cases hzz:it.zero with
  |none => rw [hzz] at hz;cases hz
  |some z =>
   rw [hzz] at hz
   simp only [Option.some.injEq] at hz
   subst hz
   have hit :=c.T _ _ hti
   split at h <;> try exact h.elim
   ·rename_i fs hu
    have hu' :=tyU_ok c.T hu
    split at h <;> try exact h.elim
    rename_i places hpl
    split at h <;> try exact h.elim
    rename_i out hf
    obtain ⟨rfl,rfl⟩ :=evF_ret (s :=s) (o :=H.o) (r :=r) (R :=R) (W :=W) h
    obtain ⟨arr,f1,f2,f3⟩ :=fillA_ok c parts.toList _ out z.cells hf (ofVs_rel _ _ _) (ofVs_live _ _)
    refine OpRes.pure c.h (u :=.agg arr) ?_ (by simp only [VRel];exact ⟨_,rfl,f2⟩) f3
    have hb:P.built t (parts.map fun (x:Nat × Operand) => (x.1,ρ x.2)).toList = some arr :=by
     unfold Program.built
     simp only [hit,hu',hzz,placesA_ok c.T _ _ hpl,hp]
     exact f1
    simp [run_build w t _ arr hb]
   ·rename_i n e hu
    have hu' :=tyU_ok c.T hu
    split at h <;> try exact h.elim
    rename_i i hi
    have hi' :=c.T _ _ hi
    split at h <;> try exact h.elim
    rename_i out hf
    obtain ⟨rfl,rfl⟩ :=evF_ret (s :=s) (o :=H.o) (r :=r) (R :=R) (W :=W) h
    obtain ⟨arr,f1,f2,f3⟩ :=fillA_ok c parts.toList _ out z.cells hf (ofVs_rel _ _ _) (ofVs_live _ _)
    refine OpRes.pure c.h (u :=.agg arr) ?_ (by simp only [VRel];exact ⟨_,rfl,f2⟩) f3
    have hb:P.built t (parts.map fun (x:Nat × Operand) => (x.1,ρ x.2)).toList = some arr :=by
     unfold Program.built
     simp only [hit,hu',hzz,hi',hp]
     exact f1
    simp [run_build w t _ arr hb]
theorem HRel.newRow (h:HRel g B w H) (arr:Array Value) (ty:TypeId) (k:Nat) :
  ∃ g',Out g B w H g' (w.alloc (.cells arr ty)) H ∧ g'.im w.heap.size = k :=by
 let g':Gh :={ g with im :=fun b => if b = w.heap.size then k else g.im b }
 have hbl:∀ b j,j < g.im b → b < w.heap.size :=fun b j hj => by
  apply Nat.lt_of_not_le
  intro hb
  rw [h.imz b hb] at hj
  omega
 have hx:Ext H.L g w g' (w.alloc (.cells arr ty)) :=by
  refine ⟨fun _ _ => rfl,fun _ _ => Nat.le_refl _,fun _ _ _ => ⟨rfl,rfl⟩,fun b => ?_,fun b j hj => cell_alloc_lt (hbl b j hj)⟩
  show g.im b ≤ if b = w.heap.size then k else g.im b
  split
  ·rename_i e;rw [h.imz b (by omega)];omega
  ·omega
 refine ⟨g',⟨?_,hx,(RowKit.Below.refl B w).alloc h.hB _,fun _ h => h,fun k hk _ => ⟨alloc_old hk,if_neg (by omega)⟩,fun k ⟨i,hi,e⟩ => .inl ⟨i,hi,by rw [← hx.bk _ hi rfl];exact e⟩⟩,if_pos rfl⟩
 constructor
 ·exact h.wf
 ·intro i hi
  have :=h.ge i hi
  refine ⟨?_,?_⟩
  ·cases ho:H.o i <;> rw [ho] at this <;> exact this.1
  ·have h2:g.bk (H.o i) i < (w.alloc (.cells arr ty)).heap.size :=by simp;omega
   cases ho:H.o i <;> rw [ho] at h2 <;> exact h2
 ·intro i j hi hj e
  refine h.inj i j hi hj ?_
  cases ho:H.o i <;> cases ho':H.o j <;> rw [ho,ho'] at e <;> exact e
 ·intro i
  by_cases hi:H.o i = .hole
  ·rw [hi];trivial
  ·have hge :=(h.ge i hi).2
   refine (h.rel i).ext hx (h.live i) hi ?_ ?_ rfl
   ·show (w.heap.push _)[_]? = _
    rw [Array.getElem?_push,if_neg (by omega)]
   ·show (if _ = w.heap.size then k else _) = _
    rw [if_neg (by omega)]
 ·exact h.live
 ·exact h.kp
 ·intro b hb
  simp at hb
  show (if b = w.heap.size then k else g.im b) = 0
  rw [if_neg (by omega)]
  exact h.imz b (by omega)
 ·simp;have :=h.hB;omega
 ·exact h.gl.ext hx
theorem newRow_list (h:HRel g B w H) {xs:List AV} {arr:Array Value} {ty:TypeId} {n:Nat} (hv:VRels g w xs arr.toList) (hl:Lives H.L xs) :
  ∃ g',Out g B w H g' (w.alloc (.cells arr ty)) H ∧ VRel g' (w.alloc (.cells arr ty)) (.lst xs n .full) (.slice (some ⟨w.heap.size,0,none⟩) n n) ∧ Live H.L (.lst xs n .full) :=by
 obtain ⟨g',e1,e2⟩ :=h.newRow arr ty xs.length
 refine ⟨g',e1,?_,hl,fun c hc => by cases hc⟩
 simp only [VRel]
 refine ⟨w.heap.size,0,n,rfl,Nat.le_refl _,by omega,?_,rfl⟩
 refine LRel.of_get _ _ fun j a ha => ?_
 obtain ⟨v,f1,f2⟩ :=hv.get _ _ ha
 refine ⟨v,?_,f2.ext e1.ext _ _ (hl.mem _ _ (List.mem_of_getElem? ha))⟩
 have :=World.cell?_alloc_new w arr ty (0 + j)
 rw [this,Nat.zero_add]
 simpa using f1
def repN (zs:List AV):Nat → List AV
 | 0 => []
 |n + 1 => zs ++ repN zs n
theorem repN_len (zs:List AV):∀ n,(repN zs n).length = n * zs.length
 | 0 => by simp [repN]
 |n + 1 => by simp [repN,repN_len zs n,Nat.add_mul,Nat.add_comm]
theorem repN_get (zs:List AV):∀ (n j:Nat),j < n * zs.length → (repN zs n)[j]? = zs[j % zs.length]?
 | 0,j,h => by simp at h
 |n + 1,j,h => by
  simp only [repN]
  by_cases e:j < zs.length
  ·rw [List.getElem?_append_left e,Nat.mod_eq_of_lt e]
  ·rw [List.getElem?_append_right (by omega),repN_get zs n _ (by rw [Nat.add_mul,Nat.one_mul] at h;omega),← Nat.mod_eq_sub_mod (by omega)]
theorem repN_mem (zs:List AV):∀ (n:Nat) (a:AV),a ∈ repN zs n → a ∈ zs
 | 0,a,h => by simp [repN] at h
 |n + 1,a,h => by
  simp only [repN,List.mem_append] at h
  rcases h with h | h
  ·exact h
  ·exact repN_mem zs n a h
theorem repN_rel {zs:List AV} {z:Array Value} (h:VRels g w zs z.toList) (n:Nat):VRels g w (repN zs n) ((Array.range (n * z.size)).map (z[· % z.size]!)).toList :=by
 have hl :=h.length
 have hz:z.size = zs.length :=by rw [← hl];simp
 refine VRels.of_get _ _ (by rw [repN_len];simp [hz]) fun j a ha => ?_
 have hj:j < n * zs.length :=by
  have :=(List.getElem?_eq_some_iff.1 ha).1
  rwa [repN_len] at this
 rw [repN_get _ _ _ hj] at ha
 obtain ⟨v,h1,h2⟩ :=h.get _ _ ha
 refine ⟨v,?_,h2⟩
 have h3:z[j % z.size]? = some v :=by rw [hz];simpa using h1
 have h4:z[j % z.size]! = v :=by
  rw [getElem!_def,h3]
 rw [Array.getElem?_toList,Array.getElem?_map,Array.getElem?_range,if_pos (by rw [hz];exact hj)]
 simp [h4]
def pBuildSlice (T:Tr TypeInfo) (t:TypeId) (len:Nat) (parts:List (Nat × AV)):Plan :=
 match tyU T t with
 |some (.slice e) => match T.get e with
  |some i => match len with
   | 0 => match parts with
    | [] => .ret (.lst [] 0 .full)
    | _ => .fail
   |len + 1 => match i.zero with
    |some z => .chk (!((len + 1) * i.size == 0)) (.chk (decide ((len + 1) * i.size ≤ 16777216)) (.chk (lenIs (ofVs z.cells.toList) i.size)
      (match fillA (fun j => some (j * i.size,i.size)) (repN (ofVs z.cells.toList) (len + 1)) parts with
      |some out => .fL out fun l => .ret (.lst l (len + 1) .full)
      |none => .fail)))
    |none => .fail
  |none => .fail
 | _ => .fail
theorem pBuildSlice_ok (c:OCtx P T F g B w H s ev ρ) {t:TypeId} {len:Nat} {parts:Array (Nat × Operand)} (h:EvF s (pBuildSlice T t len (parts.toList.map fun p => (p.1,ev p.2))) H.o r R W) :
  OpRes g B w H W ((do let v ← Instr.buildSlice t len (parts.map fun (i,x) => (i,ρ x));pure (.value v):Sem Next).run P w) r :=by
 have hp:(parts.map fun (x:Nat × Operand) => (x.1,ρ x.2)).toList = parts.toList.map fun p => (p.1,ρ p.2) :=by simp
 unfold pBuildSlice at h
 split at h <;> try exact h.elim
 rename_i e hu
 have hu' :=tyU_ok c.T hu
 split at h <;> try exact h.elim
 rename_i i hi
 have hi' :=c.T _ _ hi
 split at h
 ·split at h <;> try exact h.elim
  rename_i hnil
  have hnil:parts.toList = [] :=by simpa using hnil
  obtain ⟨rfl,rfl⟩ :=evF_ret h
  obtain ⟨g',f1,f2,f3⟩ :=newRow_list (ty :=e) (n :=0) (xs :=[]) (arr :=#[]) c.h (by simp [VRels]) trivial
  refine ⟨_,g',_,?_,f1,f2,f3⟩
  have:parts = #[] :=by
   apply Array.ext'
   simpa using hnil
  subst this
  simp [Instr.buildSlice,run_underlying hu',sizeOf,typeInfo,hi',Instr.fill,newRow]
  have e0:Array.range 0 = #[] :=by apply Array.ext';simp
  rw [e0]
  simp
 ·rename_i len
  split at h <;> try exact h.elim
  rename_i z hz
  obtain ⟨h1,h2,h3,h⟩ :=h
  have h1:¬ (len + 1) * i.size = 0 :=by simpa using h1
  have h2 :=of_decide_eq_true h2
  have h3 :=lenIs_ok h3
  split at h <;> try exact h.elim
  rename_i out hf
  obtain ⟨rfl,rfl⟩ :=evF_ret (s :=s) (o :=H.o) (r :=r) (R :=R) (W :=W) h
  have hzr :=ofVs_rel g w z.cells.toList
  have hzs:z.cells.size = i.size :=by rw [← Array.length_toList,hzr.length,h3]
  have hrep :=repN_rel (n :=len + 1) hzr
  rw [hzs] at hrep
  obtain ⟨arr,f1,f2,f3⟩ :=fillA_ok c parts.toList _ out _ hf hrep (Lives.of_mem _ fun a ha => (ofVs_live _ _).mem _ _ (repN_mem _ _ _ ha))
  obtain ⟨g',k1,k2,k3⟩ :=newRow_list (ty :=e) (n :=len + 1) c.h f2 f3
  refine ⟨_,g',_,?_,k1,k2,k3⟩
  have :=run_buildSlice w t e (len + 1) (parts.map fun (x:Nat × Operand) => (x.1,ρ x.2)) arr i z hu' hi' hz (by omega) h1 (by rw [hp,hzs];exact f1)
  simp [this]
def pBuildSliceM (T:Tr TypeInfo) (t:TypeId) (len:Nat) (parts:List (Nat × AV)):Plan :=
 match tyU T t with
 |some (.slice e) => match T.get e with
  |some i => match len with
   | 0 => .fail
   |len + 1 => match i.zero with
    |some z => .chk (!((len + 1) * i.size == 0)) (.chk (decide ((len + 1) * i.size ≤ 16777216)) (.chk (lenIs (ofVs z.cells.toList) i.size)
      (match fillA (fun j => some (j * i.size,i.size)) (repN (ofVs z.cells.toList) (len + 1)) parts with
      |some out => .fL out fun l => .newl l e fun c => .ret (.slc c 0 (len + 1) 0)
      |none => .fail)))
    |none => .fail
  |none => .fail
 | _ => .fail
theorem newCells_list (h:HRel g B w H) (hs:H.o s = .hole) {xs:List AV} {arr:Array Value} {ty:TypeId} (hv:VRels g w xs arr.toList) (hl:Lives H.L xs) {t:Tr AV} (ht:TOf xs t) :
  ∃ g',Out g B w H g' (w.alloc (.cells arr ty)) (H.put s (.cells t xs.length ty) (bdl xs)) ∧ g'.ob s = w.heap.size :=by
 obtain ⟨g',e1,e2⟩ :=h.newCellsP hs (arr :=arr) (ty :=ty) ht hv hl ⟨by simp,fun j hj => by simp⟩
 exact ⟨g',e1,e2⟩
theorem pBuildSliceM_ok (c:OCtx P T F g B w H s ev ρ) {t:TypeId} {len:Nat} {parts:Array (Nat × Operand)} (h:EvF s (pBuildSliceM T t len (parts.toList.map fun p => (p.1,ev p.2))) H.o r R W) :
  OpRes g B w H W ((do let v ← Instr.buildSlice t len (parts.map fun (i,x) => (i,ρ x));pure (.value v):Sem Next).run P w) r :=by
 have hp:(parts.map fun (x:Nat × Operand) => (x.1,ρ x.2)).toList = parts.toList.map fun p => (p.1,ρ p.2) :=by simp
 unfold pBuildSliceM at h
 split at h <;> try exact h.elim
 rename_i e hu
 have hu' :=tyU_ok c.T hu
 split at h <;> try exact h.elim
 rename_i i hi
 have hi' :=c.T _ _ hi
 split at h
 ·exact h.elim
 ·rename_i len
  split at h <;> try exact h.elim
  rename_i z hz
  obtain ⟨h1,h2,h3,h⟩ :=h
  have h1:¬ (len + 1) * i.size = 0 :=by simpa using h1
  have h2 :=of_decide_eq_true h2
  have h3 :=lenIs_ok h3
  split at h <;> try exact h.elim
  rename_i out hf
  obtain ⟨W',t',ht,rfl,h⟩ :=h
  obtain ⟨rfl,rfl⟩ :=evF_ret h
  have hzr :=ofVs_rel g w z.cells.toList
  have hzs:z.cells.size = i.size :=by rw [← Array.length_toList,hzr.length,h3]
  have hrep :=repN_rel (n :=len + 1) hzr
  rw [hzs] at hrep
  obtain ⟨arr,f1,f2,f3⟩ :=fillA_ok c parts.toList _ out _ hf hrep (Lives.of_mem _ fun a ha => (ofVs_live _ _).mem _ _ (repN_mem _ _ _ ha))
  obtain ⟨g',k1,k2⟩ :=newCells_list (ty :=e) c.h c.s f2 f3 ht
  refine ⟨.slice (some ⟨w.heap.size,0,none⟩) (len + 1) (len + 1),g',_,?_,k1,?_,AH.put_L_same H s _ (by simp)⟩
  ·have :=run_buildSlice w t e (len + 1) (parts.map fun (x:Nat × Operand) => (x.1,ρ x.2)) arr i z hu' hi' hz (by omega) h1 (by rw [hp,hzs];exact f1)
   simp [this]
  ·simp only [VRel];rw [k2];exact ⟨_,rfl,Nat.le_refl _,fun h => by omega⟩
def pMakeSlice (T:Tr TypeInfo) (t:TypeId) (len cap:AV):Plan :=
 match tyU T t with
 |some (.slice e) => match T.get e with
  |some i => match zeroOf T e with
   |some zs => match zs with
    | [z] => .chk (decide (i.size = 1)) (match len with
     | .int _ l => match cap with
      | .int _ c => .chk (decide (0 ≤ l)) (.chk (decide (l ≤ c)) (.chk (decide (c ≤ (strLe:Int))) (.chk (decide (i.bytes * c.toNat ≤ 2 * roomOk))
        (.newc c.toNat z e fun id => .ret (.slc id 0 l.toNat c.toNat)))))
      | _ => .fail
     | _ => .fail)
    | _ => .fail
   |none => .fail
  |none => .fail
 | _ => .fail
theorem wrap_id {x:Int} (h0:0 ≤ x) (h1:x ≤ 9223372036854775807):IntKind.i64.wrap x = x :=by
 have e:x % (2 ^ IntKind.i64.bits:Int) = x :=Int.emod_eq_of_lt h0 (by show x < 2 ^ 64;omega)
 unfold IntKind.wrap
 simp only [e]
 rw [if_neg]
 show ¬ ((true && decide (x ≥ (2:Int) ^ (64 - 1))) = true)
 simp
 omega
theorem pMakeSlice_ok (c : OCtx P T F g B w H s ev ρ) {t : TypeId} {x y : Operand} (h : EvF s (pMakeSlice T t (ev x) (ev y)) H.o r R W) :
    OpRes g B w H W ((do let v ← Instr.makeSlice t (ρ x) (ρ y);pure (.value v):Sem Next).run P w) r :=by
  have hx :=c.rel x
  have hy :=c.rel y
  unfold pMakeSlice at h
  split at h <;> try exact h.elim
  rename_i e hu
  have hu' :=run_underlying_ok c.T hu w
  split at h <;> try exact h.elim
  rename_i i hi
  have hinf :=run_typeInfo_ok c.T hi w
  have hsz :=run_sizeOf_ok c.T hi w
  split at h <;> try exact h.elim
  rename_i zs hz
  obtain ⟨zv,hzv,hze⟩ :=zeroOf_ok c.T hz
  split at h <;> try exact h.elim
  rename_i z0
  obtain ⟨h1,h⟩ :=h
  have h1 :=of_decide_eq_true h1
  split at h <;> try exact h.elim
  rename_i k l ex
  rw [ex] at hx
  simp only [VRel] at hx
  split at h <;> try exact h.elim
  rename_i k' cp ey
  rw [ey] at hy
  simp only [VRel] at hy
  obtain ⟨h2,h3,h4,h5,W',tr,htr,rfl,h⟩ :=h
  obtain ⟨rfl,rfl⟩ :=evF_ret h
  have h2 :=of_decide_eq_true h2
  have h3 :=of_decide_eq_true h3
  have h4 :=of_decide_eq_true h4
  have h5 :=of_decide_eq_true h5
  unfold strLe at h4
  unfold roomOk at h5
  have w1 :=wrap_id h2 (by omega)
  have w2 :=wrap_id (x :=cp) (by omega) (by omega)
  have hrel :=ofVs_rel g w zv.cells.toList
  rw [← hze] at hrel
  have hzs:zv.cells.size = 1 :=by
    have :=hrel.length
    simpa using this
  obtain ⟨u,us,eu,hu1,hu2⟩ :=hrel
  have hu2:us = [] :=by simpa [VRels] using hu2
  subst hu2
  have hz0:∀ j:Nat,zv.cells[j % 1]! = u :=fun j => by
    have:zv.cells[0]? = some u :=by
      rw [← Array.getElem?_toList,eu];rfl
    rw [Nat.mod_one,getElem!_def,this]
  let arr:Array Value :=(Array.range (cp.toNat * i.size)).map ((if cp.toNat * i.size = 0 then #[] else zv.cells)[· % (if cp.toNat * i.size = 0 then (#[]:Array Value) else zv.cells).size]!)
  have harr:arr.size = cp.toNat :=by simp [arr,h1]
  have hgl:∀ j,j < cp.toNat → ∃ v,arr[j]? = some v ∧ VRel g w z0 v :=fun j hj => by
    have e0:¬ cp.toNat = 0 :=by omega
    refine ⟨u,?_,hu1⟩
    simp only [arr,h1,Nat.mul_one]
    rw [Array.getElem?_map,Array.getElem?_range,if_pos hj]
    simp only [Option.map_some,if_neg e0,hzs,hz0]
  obtain ⟨g',f1,f2⟩ :=c.h.newCopies c.s (ty :=e) htr harr hgl (by rw [show z0 = z0 from rfl];have :=ofVs_live H.L zv.cells.toList;rw [← hze] at this;exact this.1)
  refine ⟨.slice (some ⟨w.heap.size,0,none⟩) l.toNat cp.toNat,g',_,?_,f1,?_,AH.put_L_same H s _ (by simp)⟩
  · have t1:¬ cp < 0 :=by omega
    have t2:¬ ((i.bytes:Int) * cp > 281474976710656) :=by
      have:((i.bytes * cp.toNat:Nat):Int) = (i.bytes:Int) * cp :=by
        rw [Int.natCast_mul,Int.toNat_of_nonneg (by omega)]
      omega
    have t3:¬ l < 0 :=by omega
    have t4:¬ l > cp :=by omega
    have tl:(decide (cp < 0) || decide ((i.bytes:Int) * cp > 2 ^ 48)) = false :=by
      simp only [Bool.or_eq_false_iff,decide_eq_false_iff_not]
      refine ⟨t1,?_⟩
      intro hc
      exact t2 (by have : (2 : Int) ^ 48 = 281474976710656 := by decide
                   omega)
    by_cases e0:cp.toNat * i.size = 0
    · simp only [Instr.makeSlice,Sem.run_bind,hu',Result.andThen_ok,hx,hy,asInt,asIntOf,Sem.run_pure,hinf,w1,w2,tl,t3,t4,decide_false,Bool.or_false,Bool.false_eq_true,if_false,Sem.run_ite,run_askRoom,hsz,e0,if_true,newRow,run_newObj,arr]
      rfl
    · simp only [Instr.makeSlice,Sem.run_bind,hu',Result.andThen_ok,hx,hy,asInt,asIntOf,Sem.run_pure,hinf,w1,w2,tl,t3,t4,decide_false,Bool.or_false,Bool.false_eq_true,if_false,Sem.run_ite,run_askRoom,hsz,e0,hzv,newRow,run_newObj,arr]
      rfl
  · simp only [VRel];rw [f2];exact ⟨_,rfl,by omega,fun _ => rfl⟩
end
end
end Go.Abs

/-! copy, maps, strings walked. -/
namespace Go.Abs
open Go
noncomputable section
section
variable {P:Program} {T:Tr TypeInfo} {F:Tr Func} {g:Gh} {B:Nat} {w:World} {H:AH} {s:Nat} {ev:Operand → AV} {ρ:Operand → Value} {r:PRes} {R:List Nat} {W:WL}
def pCopyTo (e:TypeId) (d:AV) (l:List AV) (n:Nat):Plan :=
 match d with
 | .slc o off _ _ => .get o fun y => match y with
  | .cells _ _ ty => .chk (decide (ty = e)) (.chk (allCells l) (.setcs o off l (.ret (.int .i64 n))))
  | _ => .fail
 | _ => .fail
def pCopy (T:Tr TypeInfo) (t:TypeId) (d x:AV):Plan :=
 match tyU T t with
 |some (.slice e) => match T.get e with
  |some i => .chk (decide (i.size = 1)) (match d with
   | .slc _ _ len _ => match x with
    | .lst ys m _ => match takeN (Nat.min m len) ys with
     |some l => pCopyTo e d l (Nat.min m len)
     |none => .fail
    | .slc o' off' m _ => .get o' fun y => match y with
     | .cells tr k _ => .chk (decide (off' + Nat.min m len ≤ k)) (match loadN tr off' (Nat.min m len) with
      |some l => pCopyTo e d l (Nat.min m len)
      |none => .fail)
     | _ => .fail
    | .nils => .ret (.int .i64 0)
    | _ => .fail
   | _ => .fail)
  |none => .fail
 | _ => .fail
theorem copy_in (P:Program) (w:World) (t tx ty e:TypeId) {i:TypeInfo} (b off len cap:Nat) (a:Addr) (m xcap:Nat) (arr:Array Value) (ty':TypeId) (cs:List Value) (hu:P.underlying t = some (.slice e)) (hi:P.info? e = some i) (hs:i.size = 1)
  (hg:CellsAt w b arr ty') (hn:cs.length = Nat.min m len) (hc:∀ j v,cs[j]? = some v → w.cell? (a.add j) = some v) (hf:off + cs.length ≤ arr.size) (h1:∀ v ∈ cs,v.oneCell' = true) :
  (Builtin.copy_ #[t,tx] ty #[.slice (some ⟨b,off,none⟩) len cap,.slice (some a) m xcap]).run P w = .ok (goInt cs.length) (w.setRow b (arr.toList.take off ++ cs ++ arr.toList.drop (off + cs.length)).toArray) :=by
 have k1 :=run_loadCells_list (P :=P) w a cs hc
 have k2 :=store_row P b off ty' cs 0 arr w hg (by simpa using hf) h1
 simp [Builtin.copy_,run_underlying hu,Builtin.lenOf,Builtin.firstCells,sizeOf,typeInfo,hi,hs,← hn,k1,k2]
theorem pCopyTo_ok (c:OCtx P T F g B w H s ev ρ) {t tx ty e:TypeId} {i:TypeInfo} {d:Operand} {o off len cap:Nat} {l:List AV} {cs:List Value} {a:Addr} {m xcap:Nat} {o':Nat → AObj}
  (hd:ev d = .slc o off len cap) (ho':o' = H.o) (h:EvF s (pCopyTo e (ev d) l (Nat.min m len)) o' r R W) (hu:P.underlying t = some (.slice e)) (hi:P.info? e = some i) (hs:i.size = 1)
  (hlen:cs.length = Nat.min m len) (hcs:∀ (j:Nat) v,cs[j]? = some v → w.cell? (a.add j) = some v) (hv:VRels g w l cs) (hl:Lives H.L l) :
  OpRes g B w H W ((do let v ← Builtin.copy_ #[t,tx] ty #[ρ d,.slice (some a) m xcap];pure (.value v):Sem Next).run P w) r :=by
 subst ho'
 have hx :=c.rel d
 rw [hd] at hx h
 simp only [VRel] at hx
 obtain ⟨cap,hx,_⟩ :=hx
 obtain ⟨R',_,h⟩ :=h
 simp only at h
 split at h <;> try exact h.elim
 rename_i tr n ty' ho
 obtain ⟨h1,h2,R2,W',tr',n',ty'',t',_,hoo,hn,hts,rfl,h⟩ :=h
 obtain ⟨rfl,rfl⟩ :=evF_ret h
 have h1 :=of_decide_eq_true h1
 subst h1
 rw [ho] at hoo
 injection hoo with e1 e2 e3
 subst e1;subst e2;subst e3
 obtain ⟨arr,f1,f2,f3⟩ :=c.h.setCells ho hn hts hv hl
 have hvl :=hv.length
 have hrun :=copy_in P w t tx ty ty' (g.ob o) off len cap a m xcap arr ty' cs hu hi hs f1 hlen hcs (by omega) (allCells_ok h2 hv)
 refine ⟨.int .i64 (Nat.min m len),g,_,?_,f3,by simp [VRel],trivial⟩
 simp [hx,hrun,goInt,hlen]
theorem pCopy_ok (c:OCtx P T F g B w H s ev ρ) {t tx ty:TypeId} {d x:Operand} (h:EvF s (pCopy T t (ev d) (ev x)) H.o r R W) :
  OpRes g B w H W ((do let v ← Builtin.copy_ #[t,tx] ty #[ρ d,ρ x];pure (.value v):Sem Next).run P w) r :=by
 have hx :=c.rel x
 have hl :=c.live x
 unfold pCopy at h
 split at h <;> try exact h.elim
 rename_i e hu
 have hu' :=tyU_ok c.T hu
 split at h <;> try exact h.elim
 rename_i i hi
 have hi' :=c.T _ _ hi
 obtain ⟨hs,h⟩ :=h
 have hs :=of_decide_eq_true hs
 split at h <;> try exact h.elim
 rename_i o off len cap ed
 split at h
 ·rename_i ys m own ex
  rw [ex] at hx hl
  simp only [VRel] at hx
  obtain ⟨b,off',xcap,e1,g1,g2,g3,g4⟩ :=hx
  split at h <;> try exact h.elim
  rename_i l hln
  obtain ⟨k1,k2⟩ :=takeN_eq hln
  obtain ⟨cs,f1,f2,f3⟩ :=g3.piece (off :=0) (by simpa using k1) k2
  rw [e1]
  exact pCopyTo_ok c ed rfl h hu' hi' hs f1 (by simpa using f2) f3 (by rw [k1];exact Lives.take hl.1 _)
 ·rename_i o' off' m xcap0 ex
  rw [ex] at hx
  simp only [VRel] at hx
  obtain ⟨xcap,hx,_⟩ :=hx
  obtain ⟨R',_,h⟩ :=h
  simp only at h
  split at h <;> try exact h.elim
  rename_i tr k ty' ho
  obtain ⟨hb,h⟩ :=h
  have hb :=of_decide_eq_true hb
  split at h <;> try exact h.elim
  rename_i l hln
  obtain ⟨k1,k2⟩ :=loadN_ok hln
  obtain ⟨cs,f1,f2,f3,f4⟩ :=c.h.cellsAt ho hb k1 k2
  rw [hx]
  exact pCopyTo_ok c ed rfl h hu' hi' hs f1 f2 f3 f4
 ·rename_i ex
  rw [ex] at hx
  simp only [VRel] at hx
  have hd :=c.rel d
  rw [ed] at hd
  simp only [VRel] at hd
  obtain ⟨cap',hd,_⟩ :=hd
  obtain ⟨rfl,rfl⟩ :=evF_ret h
  refine OpRes.pure c.h (u :=.int .i64 0) ?_ (by simp [VRel]) trivial
  simp [Builtin.copy_,run_underlying hu',sizeOf,typeInfo,hi',Builtin.lenOf,hx,hd,Builtin.firstCells,storeCells,goInt]
 ·exact h.elim
/-! ### Maps -/
def pMakeMap:Plan :=.newo (.mapo []) 0 fun i => .ret (.map i)
theorem pMakeMap_ok (c:OCtx P T F g B w H s ev ρ) {t:TypeId} (h:EvF s pMakeMap H.o r R W) :
  OpRes g B w H W ((do let v ← Instr.makeMap t none;pure (.value v):Sem Next).run P w) r :=by
 obtain ⟨W',rfl,h⟩ :=h
 obtain ⟨rfl,rfl⟩ :=evF_ret h
 obtain ⟨g',e1,e2⟩ :=c.h.newOb c.s (x :=.mapo []) (by simp) (fun _ _ => rfl) (.map #[] 0) 0 (by
  intro g' f1 f2 _ _
  exact ⟨#[],0,by rw [f1];exact heap_alloc_new _ _,by rw [f1];exact f2,by simp [MRel],rfl,fun j e h => by simp at h⟩) trivial (by intro p hp;cases hp)
 refine ⟨.map (some w.heap.size),g',_,rfl,e1,?_,AH.put_L_same H s _ (by simp)⟩
 simp only [VRel];rw [e2]
def ckey (T:Tr TypeInfo):Nat → TypeId → AV → Bool
 | 0,_,_ => false
 |d + 1,t,v =>
  match tyU T t with
  |some (.interface _) => false
  |some (.array _ _) => false
  |some (.struct fs) => match v with
   | .agg cs => ckeyF (fun t' v' => ckey T d t' v') T cs fs.toList
   | _ => false
  |some _ => true
  |none => false
where
 ckeyF (k:TypeId → AV → Bool) (T:Tr TypeInfo) (cs:List AV):List Field → Bool
  | [] => true
  |f :: fs => match pPart T f.type cs f.offset with
   |some a => match k f.type a with
    |true => ckeyF k T cs fs
    |false => false
   |none => false
theorem ckey_ok (hT:TOK P T) (em:Bool):∀ (d:Nat) (t:TypeId) (a:AV) (v:Value),ckey T d t a = true → VRel g w a v → ∀ k,(Instr.checkKey em (d + k) t v).run P w = .ok () w
 | 0,_,_,_,h,_ => by simp [ckey] at h
 |d + 1,t,a,v,h,hv => by
  intro k
  rw [show d + 1 + k = d + k + 1 by omega]
  unfold ckey at h
  split at h
  ·cases h
  ·cases h
  ·rename_i fs hu
   have hu' :=run_underlying_ok hT hu w
   split at h <;> try cases h
   rename_i cs
   obtain ⟨vs,e,hvs⟩ :=hv
   subst e
   rw [Instr.checkKey]
   simp only [Sem.run_bind,hu',Result.andThen_ok]
   rw [← Array.forIn_toList]
   generalize fs.toList = L at h ⊢
   induction L with
   |nil => simp
   |cons f L ih =>
    simp only [ckey.ckeyF] at h
    split at h <;> try cases h
    rename_i a ha
    split at h <;> try cases h
    rename_i hk
    obtain ⟨u,h1,h2,_⟩ :=pPart_ok hT ha hvs (Lives.any cs)
    have h3 :=ckey_ok hT em d f.type a u hk h2 k
    by_cases hn:f.name = "_"
    ·simp only [List.forIn_cons,Sem.run_bind,hn,ne_eq,not_true_eq_false,if_false,Sem.run_pure,Result.andThen_ok]
     exact ih h
    ·simp only [List.forIn_cons,Sem.run_bind,hn,ne_eq,not_false_eq_true,if_true,h1,h3,Sem.run_pure,Result.andThen_ok]
     exact ih h
  ·rename_i dd hn1 hn2 hn3 hu
   have hu' :=run_underlying_ok hT hu w
   rw [Instr.checkKey]
   simp only [Sem.run_bind,hu',Result.andThen_ok]
   cases dd <;> first
    |exact absurd rfl (hn1 _)
    |exact absurd rfl (hn2 _ _)
    |exact absurd rfl (hn3 _)
    |rfl
  ·cases h
def findA (P:Program) (T:Tr TypeInfo) (kt:TypeId) (k:AV):List (AV × AV) → Nat → Option (Option (Nat × AV))
 | [],_ => some none
 |(k',v) :: es,i => match aeqC P T 8 kt k k' with
  |some true => some (some (i,v))
  |some false => findA P T kt k es (i + 1)
  |none => none
theorem sameNow_aeq {kt:TypeId} {kd:TypeDesc} (hu:tyU T kt = some kd) {d:Nat} {k k':AV} {u u':Value} (hk:VRel g w k u) (hk':VRel g w k' u') {b b':Bool}
  (h:Instr.sameNow kd u u' = some b) (ha:aeqC P T (d + 1) kt k k' = some b'):b = b' :=by
 unfold aeqC at ha
 rw [hu] at ha
 unfold Instr.sameNow at h
 split at h
 ·simp only at ha
  split at ha <;> try cases ha
  split at ha <;> try cases ha
  simp only [VRel] at hk hk'
  injection hk with e1 e2
  injection hk' with e3 e4
  subst e1;subst e2;subst e3;subst e4
  split at h <;> try cases h
  split at ha <;> cases ha
  all_goals rfl
 ·simp only at ha
  split at ha <;> try cases ha
  split at ha <;> try cases ha
  simp only [VRel] at hk hk'
  injection hk with e1
  injection hk' with e2
  subst e1;subst e2
  simp only [Option.some.injEq] at h
  subst h
  rw [beq_toListBytes]
  simp
 ·simp only at ha
  split at ha <;> try cases ha
  split at ha <;> try cases ha
  simp only [VRel] at hk hk'
  injection hk with e1
  injection hk' with e2
  subst e1;subst e2
  simp only [Option.some.injEq] at h
  exact h.symm
 ·cases h
theorem findNow_ok (hT:TOK P T) {kt:TypeId} {kd:TypeDesc} (hu:tyU T kt = some kd) {k:AV} {u:Value} (hk:VRel g w k u):∀ (es:List (AV × AV)) (ces:List MapEntry) (i:Nat)
  (res:Option (Nat × AV)) (cr:Option (Nat × Value)),MRel g w es ces → findA P T kt k es i = some res → Instr.findNow kd u ces i = some cr →
  match res with
  |none => cr = none
  |some (j,a) => ∃ v,cr = some (j,v) ∧ VRel g w a v ∧ i ≤ j ∧ ∃ k',es[j - i]? = some (k',a)
 | [],ces,i,res,cr,hm,h,hc => by
  simp only [MRel] at hm
  subst hm
  simp only [findA,Option.some.injEq] at h
  subst h
  simp only [Instr.findNow,Option.some.injEq] at hc
  exact hc.symm
 |(k',v) :: es,ces,i,res,cr,hm,h,hc => by
  obtain ⟨e,es',e1,h1,h2,h3⟩ :=hm
  subst e1
  simp only [Instr.findNow] at hc
  simp only [findA] at h
  split at hc
  ·rename_i hs
   simp only [Option.some.injEq] at hc
   subst hc
   split at h
   ·simp only [Option.some.injEq] at h
    subst h
    exact ⟨_,rfl,h2,Nat.le_refl _,k',by simp⟩
   ·rename_i ha
    have :=sameNow_aeq (P :=P) (d :=7) hu hk h1 hs ha
    cases this
   ·cases h
  ·rename_i hs
   split at h
   ·rename_i ha
    have :=sameNow_aeq (P :=P) (d :=7) hu hk h1 hs ha
    cases this
   ·have :=findNow_ok hT hu hk es es' (i + 1) res cr h3 h hc
    cases res with
    |none => exact this
    |some p =>
     obtain ⟨v',q1,q2,q3,k'',q4⟩ :=this
     refine ⟨v',q1,q2,by omega,k'',?_⟩
     rw [show p.1 - i = p.1 - (i + 1) + 1 by omega]
     simpa using q4
   ·cases h
  ·cases hc
theorem findAsking_ok (hT:TOK P T) {kt:TypeId} {k:AV} {u:Value} (hk:VRel g w k u):∀ (es:List (AV × AV)) (ces:List MapEntry) (i:Nat)
  (res:Option (Nat × AV)),MRel g w es ces → findA P T kt k es i = some res →
  ∃ cr,(Instr.findAsking kt u ces i).run P w = .ok cr w ∧ match res with
  |none => cr = none
  |some (j,a) => ∃ v,cr = some (j,v) ∧ VRel g w a v ∧ i ≤ j ∧ ∃ k',es[j - i]? = some (k',a)
 | [],ces,i,res,hm,h => by
  simp only [MRel] at hm
  subst hm
  simp only [findA,Option.some.injEq] at h
  subst h
  exact ⟨none,rfl,rfl⟩
 |(k',v) :: es,ces,i,res,hm,h => by
  obtain ⟨e,es',e1,h1,h2,h3⟩ :=hm
  subst e1
  simp only [findA] at h
  split at h
  ·rename_i ha
   simp only [Option.some.injEq] at h
   subst h
   have:(Op.equal kt u e.key).run P w = .ok true w :=aeqC_ok hT 8 kt k k' true ha u e.key hk h1 9992
   exact ⟨some (i,e.val),by simp [Instr.findAsking,this],e.val,rfl,h2,Nat.le_refl _,k',by simp⟩
  ·rename_i ha
   have:(Op.equal kt u e.key).run P w = .ok false w :=aeqC_ok hT 8 kt k k' false ha u e.key hk h1 9992
   obtain ⟨cr,q0,q⟩ :=findAsking_ok hT hk es es' (i + 1) res h3 h
   refine ⟨cr,by simp [Instr.findAsking,this,q0],?_⟩
   cases res with
   |none => exact q
   |some p =>
    obtain ⟨v',q1,q2,q3,k'',q4⟩ :=q
    refine ⟨v',q1,q2,by omega,k'',?_⟩
    rw [show p.1 - i = p.1 - (i + 1) + 1 by omega]
    simpa using q4
  ·cases h
theorem findKey_ok (hT:TOK P T) {kt:TypeId} {kd:TypeDesc} (hu:tyU T kt = some kd) {k:AV} {u:Value} (hk:VRel g w k u) {es:List (AV × AV)} {ces:List MapEntry}
  {res:Option (Nat × AV)} (hm:MRel g w es ces) (h:findA P T kt k es 0 = some res) :
  ∃ cr,(Instr.findKey kt u ces).run P w = .ok cr w ∧ match res with
  |none => cr = none
  |some (j,a) => ∃ v,cr = some (j,v) ∧ VRel g w a v ∧ ∃ k',es[j]? = some (k',a) :=by
 have hu' :=run_underlying_ok hT hu w
 unfold Instr.findKey
 cases hn:Instr.findNow kd u ces 0 with
 |some cr =>
  have :=findNow_ok hT hu hk es ces 0 res cr hm h hn
  refine ⟨cr,by simp [hu',hn],?_⟩
  cases res with
  |none => exact this
  |some p =>
   obtain ⟨v,q1,q2,_,k',q4⟩ :=this
   exact ⟨v,q1,q2,k',by simpa using q4⟩
 |none =>
  obtain ⟨cr,q0,q⟩ :=findAsking_ok hT hk es ces 0 res hm h
  refine ⟨cr,by simp [hu',hn,q0],?_⟩
  cases res with
  |none => exact q
  |some p =>
   obtain ⟨v,q1,q2,_,k',q4⟩ :=q
   exact ⟨v,q1,q2,k',by simpa using q4⟩
def pairV (ok:Bool) (v:AV) (b:Bool):AV :=
 match ok with
 |true => .tup [v,.bool b]
 |false => v
def pLookup (P:Program) (T:Tr TypeInfo) (t:TypeId) (x k:AV) (ok:Bool):Plan :=
 match tyU T t with
 |some (.map kt et) => match tyU T kt with
  |some _ => .chk (ckey T 8 kt k) (match T.get et with
   |some i => match i.zero with
    |some z => match x with
     | .nilm => .ret (pairV ok (ofV z) false)
     | .map o => .get o fun y => match y with
      | .mapo es => match findA P T kt k es 0 with
       |some (some (_,v)) => .ret (pairV ok v true)
       |some none => .ret (pairV ok (ofV z) false)
       |none => .fail
      | _ => .fail
     | _ => .fail
    |none => .fail
   |none => .fail)
  |none => .fail
 | _ => .fail
theorem pairV_rel {ok:Bool} {v:AV} {u:Value} {b:Bool} (h:VRel g w v u):VRel g w (pairV ok v b) (if ok then .tuple #[u,.bool b] else u) :=by
 cases ok
 ·exact h
 ·simp only [pairV,if_true,VRel]
  exact ⟨_,rfl,by simp [VRels,VRel,h]⟩
theorem pairV_live {L:Nat → Prop} {ok:Bool} {v:AV} {b:Bool} (h:Live L v):Live L (pairV ok v b) :=by
 cases ok
 ·exact h
 ·exact ⟨h,trivial,trivial⟩
theorem MLive.at {L:Nat → Prop}:∀ (es:List (AV × AV)) (j:Nat) (k v:AV),MLive L es → es[j]? = some (k,v) → Live L k ∧ Live L v
 |(k',v') :: es,0,k,v,h,hj => by simp at hj;obtain ⟨rfl,rfl⟩ :=hj;exact ⟨h.1,h.2.1⟩
 |(k',v') :: es,j + 1,k,v,h,hj => MLive.at es j k v h.2.2 (by simpa using hj)
theorem pLookup_ok (c:OCtx P T F g B w H s ev ρ) {t:TypeId} {x k:Operand} {ok:Bool} (h:EvF s (pLookup P T t (ev x) (ev k) ok) H.o r R W) :
  OpRes g B w H W ((do let v ← Instr.lookup t (ρ x) (ρ k) ok;pure (.value v):Sem Next).run P w) r :=by
 have hx :=c.rel x
 have hk :=c.rel k
 unfold pLookup at h
 split at h <;> try exact h.elim
 rename_i kt et hu
 have hu' :=run_underlying_ok c.T hu w
 split at h <;> try exact h.elim
 rename_i kd hkd
 obtain ⟨hck,h⟩ :=h
 have hck' :=fun em => ckey_ok c.T em 8 kt _ _ hck hk 9992
 split at h <;> try exact h.elim
 rename_i i hi
 split at h <;> try exact h.elim
 rename_i z hz
 have hz' :=run_zeroValue_ok c.T hi hz w
 split at h
 ·rename_i ex
  rw [ex] at hx
  simp only [VRel] at hx
  obtain ⟨rfl,rfl⟩ :=evF_ret h
  refine OpRes.pure c.h ?_ (pairV_rel (ofV_rel g w z)) (pairV_live (ofV_live _ z))
  obtain ⟨cr,q0,q⟩ :=findKey_ok (es :=[]) c.T hkd hk (ces :=[]) (res :=none) (by simp [MRel]) rfl
  simp only at q
  subst q
  have h1 :=hck' true
  cases ok <;> simp [Instr.lookup,hu',hx,h1,q0,hz']
 ·rename_i o ex
  rw [ex] at hx
  simp only [VRel] at hx
  obtain ⟨R',_,h⟩ :=h
  simp only at h
  split at h <;> try exact h.elim
  rename_i es ho
  have hr :=c.h.rel o
  rw [ho] at hr
  obtain ⟨ces,ck,m1,_,m3,_⟩ :=hr
  have hl :=c.h.live o
  rw [ho] at hl
  split at h
  ·rename_i j v hf
   obtain ⟨rfl,rfl⟩ :=evF_ret h
   obtain ⟨cr,q0,q⟩ :=findKey_ok c.T hkd hk m3 hf
   obtain ⟨u,rfl,q2,k',q3⟩ :=q
   refine OpRes.pure c.h ?_ (pairV_rel q2) (pairV_live (MLive.at _ _ _ _ hl q3).2)
   have h1 :=hck' ces.isEmpty
   cases ok <;> simp [Instr.lookup,hu',hx,getObj,Sem.run,m1,h1,q0]
  ·rename_i hf
   obtain ⟨rfl,rfl⟩ :=evF_ret h
   obtain ⟨cr,q0,q⟩ :=findKey_ok c.T hkd hk m3 hf
   simp only at q
   subst q
   refine OpRes.pure c.h ?_ (pairV_rel (ofV_rel g w z)) (pairV_live (ofV_live _ z))
   have h1 :=hck' ces.isEmpty
   cases ok <;> simp [Instr.lookup,hu',hx,getObj,Sem.run,m1,h1,q0,hz']
  ·exact h.elim
 ·exact h.elim
end
end
end Go.Abs

/-! Maps written, strings walked, nil checks. -/
namespace Go.Abs
open Go
noncomputable section
section
variable {P:Program} {T:Tr TypeInfo} {F:Tr Func} {g:Gh} {B:Nat} {w:World} {H:AH} {s:Nat} {ev:Operand → AV} {ρ:Operand → Value} {r:PRes} {R:List Nat} {W:WL}
def sameAll (f:AV → AV → Bool):List AV → List AV → Bool
 | [],[] => true
 |x :: xs,y :: ys => match f x y with
  |true => sameAll f xs ys
  |false => false
 | _,_ => false
def sameA:Nat → AV → AV → Bool
 | 0,_,_ => false
 |n + 1,x,y => match x with
  | .bool a => match y with
   | .bool b => a == b
   | _ => false
  | .int j a => match y with
   | .int k b => decide (j = k) && a == b
   | _ => false
  | .str a => match y with
   | .str b => a == b
   | _ => false
  | .agg a => match y with
   | .agg b => sameAll (sameA n) a b
   | _ => false
  | _ => false
theorem sameAll_ok {f:AV → AV → Bool} {n:Nat} (hf:∀ x y u v,f x y = true → VRel g w x u → VRel g w y v → Instr.sameBits n u v = true) :
  ∀ (xs ys:List AV) (us vs:List Value),sameAll f xs ys = true → VRels g w xs us → VRels g w ys vs → us.length = vs.length ∧ (us.zip vs).all (fun (x,y) => Instr.sameBits n x y) = true
 | [],[],us,vs,_,hu,hv => by simp only [VRels] at hu hv;subst hu;subst hv;simp
 |x :: xs,y :: ys,us,vs,h,hu,hv => by
  obtain ⟨u,us',e,h1,h2⟩ :=hu
  obtain ⟨v,vs',e',h3,h4⟩ :=hv
  subst e;subst e'
  simp only [sameAll] at h
  split at h <;> try cases h
  rename_i hxy
  obtain ⟨k1,k2⟩ :=sameAll_ok hf xs ys us' vs' h h2 h4
  refine ⟨by simp [k1],?_⟩
  simp only [List.zip_cons_cons,List.all_cons,Bool.and_eq_true]
  exact ⟨hf x y u v hxy h1 h3,k2⟩
 | [],_ :: _,_,_,h,_,_ => by simp [sameAll] at h
 | _ :: _,[],_,_,h,_,_ => by simp [sameAll] at h
theorem sameA_ok:∀ (n:Nat) (x y:AV) (u v:Value) (k:Nat),sameA n x y = true → VRel g w x u → VRel g w y v → Instr.sameBits (n + k) u v = true
 | 0,_,_,_,_,_,h,_,_ => by simp [sameA] at h
 |n + 1,x,y,u,v,k,h,hu,hv => by
  rw [show n + 1 + k = n + k + 1 by omega]
  unfold sameA at h
  split at h <;> try cases h
  ·split at h <;> try cases h
   simp only [VRel] at hu hv
   subst hu;subst hv
   simpa [Instr.sameBits] using h
  ·split at h <;> try cases h
   simp only [VRel] at hu hv
   subst hu;subst hv
   simpa [Instr.sameBits] using h
  ·split at h <;> try cases h
   simp only [VRel] at hu hv
   subst hu;subst hv
   simp only [Instr.sameBits]
   rw [beq_toListBytes]
   simpa using h
  ·split at h <;> try cases h
   obtain ⟨us,e,h1⟩ :=hu
   obtain ⟨vs,e',h2⟩ :=hv
   subst e;subst e'
   obtain ⟨k1,k2⟩ :=sameAll_ok (n :=n + k) (fun x y u v hxy hu hv => sameA_ok n x y u v k hxy hu hv) _ _ _ _ h h1 h2
   simp only [Instr.sameBits,Bool.and_eq_true,beq_iff_eq]
   exact ⟨by simpa using k1,k2⟩
def setE:List (AV × AV) → Nat → AV × AV → List (AV × AV)
 | [],_,_ => []
 |x :: xs,i,p => match i with
  | 0 => p :: xs
  |i + 1 => x :: setE xs i p
def keyAt:List (AV × AV) → Nat → Option AV
 | [],_ => none
 |x :: xs,i => match i with
  | 0 => some x.1
  |i + 1 => keyAt xs i
def snocE:List (AV × AV) → AV × AV → List (AV × AV)
 | [],p => [p]
 |x :: xs,p => x :: snocE xs p
theorem MRel.snoc {k v:AV} {e:MapEntry} (hk:VRel g w k e.key) (hv:VRel g w v e.val):∀ {es:List (AV × AV)} {ces:List MapEntry},MRel g w es ces → MRel g w (snocE es (k,v)) (ces ++ [e])
 | [],ces,h => by
  simp only [MRel] at h
  subst h
  simp only [snocE,MRel]
  exact ⟨e,[],rfl,hk,hv,rfl⟩
 |(k',v') :: es,ces,h => by
  obtain ⟨e',es',e1,h1,h2,h3⟩ :=h
  subst e1
  simp only [snocE,MRel,List.cons_append]
  exact ⟨e',_,rfl,h1,h2,MRel.snoc hk hv h3⟩
theorem MRel.set {k v:AV} {f:MapEntry → MapEntry} (hk:∀ e,VRel g w k (f e).key) (hv:∀ e,VRel g w v (f e).val):∀ {es:List (AV × AV)} {ces:List MapEntry} (i:Nat),MRel g w es ces →
  MRel g w (setE es i (k,v)) (ces.modify i f)
 | [],ces,i,h => by
  simp only [MRel] at h
  subst h
  simp [setE,MRel]
 |(k',v') :: es,ces,0,h => by
  obtain ⟨e',es',e1,h1,h2,h3⟩ :=h
  subst e1
  simp only [setE,List.modify_zero_cons,MRel]
  exact ⟨_,_,rfl,hk e',hv e',h3⟩
 |(k',v') :: es,ces,i + 1,h => by
  obtain ⟨e',es',e1,h1,h2,h3⟩ :=h
  subst e1
  simp only [setE,List.modify_succ_cons,MRel]
  exact ⟨e',_,rfl,h1,h2,MRel.set hk hv i h3⟩
theorem keyAt_rel:∀ {es:List (AV × AV)} {ces:List MapEntry} {i:Nat} {k:AV},MRel g w es ces → keyAt es i = some k → ∃ e,ces[i]? = some e ∧ VRel g w k e.key
 | [],_,_,_,_,h => by simp [keyAt] at h
 |(k',v') :: es,ces,0,k,hm,h => by
  obtain ⟨e',es',e1,h1,h2,h3⟩ :=hm
  subst e1
  simp only [keyAt,Option.some.injEq] at h
  subst h
  exact ⟨e',by simp,h1⟩
 |(k',v') :: es,ces,i + 1,k,hm,h => by
  obtain ⟨e',es',e1,h1,h2,h3⟩ :=hm
  subst e1
  simp only [keyAt] at h
  obtain ⟨e,f1,f2⟩ :=keyAt_rel h3 h
  exact ⟨e,by simpa using f1,f2⟩
theorem MLive.snoc {L:Nat → Prop} {k v:AV} (hk:Live L k) (hv:Live L v):∀ {es:List (AV × AV)},MLive L es → MLive L (snocE es (k,v))
 | [],_ => ⟨hk,hv,trivial⟩
 |(_,_) :: _,h => ⟨h.1,h.2.1,MLive.snoc hk hv h.2.2⟩
theorem MLive.set {L:Nat → Prop} {k v:AV} (hk:Live L k) (hv:Live L v):∀ {es:List (AV × AV)} (i:Nat),MLive L es → MLive L (setE es i (k,v))
 | [],_,_ => trivial
 |(_,_) :: _,0,h => ⟨hk,hv,h.2.2⟩
 |(_,_) :: _,i + 1,h => ⟨h.1,h.2.1,MLive.set hk hv i h.2.2⟩
theorem snocE_mem:∀ {es:List (AV × AV)} {p q:AV × AV},q ∈ snocE es p → q ∈ es ∨ q = p
 | [],p,q,h => by simp [snocE] at h;exact .inr h
 |x :: es,p,q,h => by
  simp only [snocE,List.mem_cons] at h ⊢
  rcases h with h | h
  ·exact .inl (.inl h)
  ·rcases snocE_mem h with h | h
   ·exact .inl (.inr h)
   ·exact .inr h
theorem setE_mem:∀ {es:List (AV × AV)} {i:Nat} {p q:AV × AV},q ∈ setE es i p → q ∈ es ∨ q = p
 | [],_,p,q,h => by simp [setE] at h
 |x :: es,0,p,q,h => by
  simp only [setE,List.mem_cons] at h ⊢
  rcases h with h | h
  ·exact .inr h
  ·exact .inl (.inr h)
 |x :: es,i + 1,p,q,h => by
  simp only [setE,List.mem_cons] at h ⊢
  rcases h with h | h
  ·exact .inl (.inl h)
  ·rcases setE_mem h with h | h
   ·exact .inl (.inr h)
   ·exact .inr h
def pMapUpd (P:Program) (T:Tr TypeInfo) (t:TypeId) (x k v:AV):Plan :=
 match tyU T t with
 |some (.map kt _) => match tyU T kt with
  |some _ => .chk (ckey T 8 kt k) (match x with
   | .map o => .get o fun y => match y with
    | .mapo es => match findA P T kt k es 0 with
     |some (some (i,_)) => match keyAt es i with
      |some k' => .chk (sameA 8 k' k) (.seto o (.mapo (setE es i (k,v))) (Nat.max (bd k) (bd v)) .skip)
      |none => .fail
     |some none => .seto o (.mapo (snocE es (k,v))) (Nat.max (bd k) (bd v)) .skip
     |none => .fail
    | _ => .fail
   | _ => .fail)
  |none => .fail
 | _ => .fail
theorem Born.set {ces:Array MapEntry} {ck:Nat} (h:Born ces ck) {f:MapEntry → MapEntry} (hf:∀ e,(f e).born = e.born) (i:Nat):Born (ces.modify i f) ck :=by
 refine ⟨by rw [Array.size_modify];exact h.1,fun j e he => ?_⟩
 rw [Array.getElem?_modify] at he
 split at he
 ·cases hc:ces[j]? with
  |none => rw [hc] at he;cases he
  |some e' =>
   rw [hc] at he
   simp only [Option.map_some,Option.some.injEq] at he
   rw [← he,hf]
   exact h.2 j e' hc
 ·exact h.2 j e he
theorem Born.snoc {ces:Array MapEntry} {ck:Nat} (h:Born ces ck) {e:MapEntry} (he:e.born = ck):Born (ces.push e) (ck + 1) :=by
 refine ⟨by rw [Array.size_push,h.1],fun j e' hj => ?_⟩
 rw [Array.getElem?_push] at hj
 split at hj
 ·rename_i ej
  simp only [Option.some.injEq] at hj
  subst hj
  rw [he,ej];exact h.1
 ·exact h.2 j e' hj
theorem setMap (h:HRel g B w H) {o:Nat} {es es':List (AV × AV)} {ces':Array MapEntry} {ck':Nat} {rb:Nat} (ho:H.o o = .mapo es)
  (him:g.im (g.ob o) = 0) (hm:MRel g w es' ces'.toList) (hbn:Born ces' ck') (hl:MLive H.L es') (hbd:∀ p,p ∈ es' → p ∈ es ∨ (bd p.1 ≤ rb ∧ bd p.2 ≤ rb)) :
  Out g B w H g { w with heap :=w.heap.setIfInBounds (g.ob o) (.map ces' ck') } (H.put o (.mapo es') rb) :=by
 have hLo:H.L o :=by unfold AH.L;rw [ho];simp
 have hlt:g.ob o < w.heap.size :=by
  have :=(h.ge o hLo).2
  rw [ho] at this
  exact this
 refine h.setOb hLo (by rw [ho];rfl) him (by simp) rfl rb (by simp) (fun k hk => ?_) rfl rfl rfl ?_ ?_ ?_
 ·show (w.heap.setIfInBounds (g.ob o) _)[k]? = _
  rw [Array.getElem?_setIfInBounds_ne (by omega)]
 ·intro hx
  refine ⟨ces',ck',?_,him,hm.ext hx _ _ hl,hbn⟩
  show (w.heap.setIfInBounds (g.ob o) _)[g.ob o]? = _
  rw [Array.getElem?_setIfInBounds_self_of_lt hlt]
 ·exact hl.mono fun i hi => AH.put_L H o rb (by simp) hi
 ·intro p hp
  have hkp :=h.kp o
  rw [ho] at hkp
  have :=AH.put_keep H o (.mapo es') rb
  have hr :=AH.put_bd H o (.mapo es') rb
  rcases hbd p hp with hp | ⟨h1,h2⟩
  ·have :=hkp p hp
   exact ⟨by omega,by omega⟩
  ·exact ⟨by omega,by omega⟩
theorem pMapUpd_ok (c:OCtx P T F g B w H s ev ρ) {t:TypeId} {x k v:Operand} (h:EvF s (pMapUpd P T t (ev x) (ev k) (ev v)) H.o r R W) :
  OpRes g B w H W ((do Instr.mapUpdate t (ρ x) (ρ k) (ρ v);pure .skip:Sem Next).run P w) r :=by
 have hx :=c.rel x
 have hk :=c.rel k
 have hv :=c.rel v
 unfold pMapUpd at h
 split at h <;> try exact h.elim
 rename_i kt et hu
 have hu' :=run_underlying_ok c.T hu w
 split at h <;> try exact h.elim
 rename_i kd hkd
 obtain ⟨hck,h⟩ :=h
 have hck' :=ckey_ok c.T false 8 kt _ _ hck hk 9992
 split at h <;> try exact h.elim
 rename_i o ex
 rw [ex] at hx
 simp only [VRel] at hx
 obtain ⟨R',_,h⟩ :=h
 simp only at h
 split at h <;> try exact h.elim
 rename_i es ho
 have hr :=c.h.rel o
 rw [ho] at hr
 obtain ⟨ces,ck,m1,m2,m3,m4⟩ :=hr
 have hl :=c.h.live o
 rw [ho] at hl
 split at h
 ·rename_i j v' hf
  split at h <;> try exact h.elim
  rename_i k' hk'
  obtain ⟨hsame,R2,W',_,rfl,h⟩ :=h
  obtain ⟨rfl,_,rfl⟩ :=h
  obtain ⟨cr,q0,q⟩ :=findKey_ok c.T hkd hk m3 hf
  obtain ⟨u,rfl,q2,k'',q3⟩ :=q
  obtain ⟨e,e1,e2⟩ :=keyAt_rel m3 hk'
  have hsb :=sameA_ok 8 k' (ev k) e.key (ρ k) 9992 hsame e2 hk
  have e1':ces[j]? = some e :=by simpa using e1
  have hout :=setMap c.h ho m2 (ces' :=ces.modify j fun e => { e with key :=ρ k,val :=ρ v }) (ck' :=ck) (rb :=Nat.max (bd (ev k)) (bd (ev v)))
   (by rw [Array.toList_modify];exact m3.set (fun _ => hk) (fun _ => hv) j) (m4.set (f :=fun e => { e with key :=ρ k,val :=ρ v }) (fun _ => rfl) j) (hl.set (c.live k) (c.live v) j) (fun p hp => by
    rcases setE_mem hp with hp | hp
    ·exact .inl hp
    ·subst hp;exact .inr ⟨Nat.le_max_left _ _,Nat.le_max_right _ _⟩)
  refine ⟨g,_,?_,hout⟩
  simp [Instr.mapUpdate,hu',hx,getObj,setObj,Sem.run,m1,hck',q0,e1',Instr.keyThatStays,hsb]
 ·rename_i hf
  obtain ⟨R2,W',_,rfl,h⟩ :=h
  obtain ⟨rfl,_,rfl⟩ :=h
  obtain ⟨cr,q0,q⟩ :=findKey_ok c.T hkd hk m3 hf
  simp only at q
  subst q
  have hout :=setMap c.h ho m2 (ces' :=ces.push { key :=ρ k,val :=ρ v,born :=ck }) (ck' :=ck + 1) (rb :=Nat.max (bd (ev k)) (bd (ev v)))
   (by rw [Array.toList_push];exact m3.snoc hk hv) (m4.snoc rfl) (hl.snoc (c.live k) (c.live v)) (fun p hp => by
    rcases snocE_mem hp with hp | hp
    ·exact .inl hp
    ·subst hp;exact .inr ⟨Nat.le_max_left _ _,Nat.le_max_right _ _⟩)
  refine ⟨g,_,?_,hout⟩
  simp [Instr.mapUpdate,hu',hx,getObj,setObj,Sem.run,m1,hck',q0]
 ·exact h.elim
/-! ### Strings walked -/
def pRange (T:Tr TypeInfo) (t:TypeId) (x:AV):Plan :=
 match tyU T t with
 |some .string => match x with
  | .str l => .newo (.siter l 0) 0 fun i => .ret (.ptr i 0)
  | _ => .fail
 |some (.map _ _) => match x with
  | .map o => .get o fun y => match y with
   | .mapo es => .newo (.miter o es.length [] es.length) (o + 1) fun i => .ret (.ptr i 0)
   | _ => .fail
  | _ => .fail
 | _ => .fail
theorem pRange_ok (c:OCtx P T F g B w H s ev ρ) {t:TypeId} {x:Operand} (h:EvF s (pRange T t (ev x)) H.o r R W) :
  OpRes g B w H W ((do let v ← Instr.range t (ρ x);pure (.value v):Sem Next).run P w) r :=by
 have hx :=c.rel x
 unfold pRange at h
 have hlx :=c.live x
 split at h
 ·rename_i hu
  have hu' :=run_underlying_ok c.T hu w
  split at h <;> try exact h.elim
  rename_i l ex
  rw [ex] at hx
  simp only [VRel] at hx
  obtain ⟨W',rfl,h⟩ :=h
  obtain ⟨rfl,rfl⟩ :=evF_ret h
  obtain ⟨g',e1,e2⟩ :=c.h.newOb c.s (x :=.siter l 0) (by simp) (fun _ _ => rfl) (.stringIter ⟨l.toArray⟩ 0) 0 (by
   intro g' f1 f2 _ _
   exact ⟨by rw [f1];exact heap_alloc_new _ _,by rw [f1];exact f2⟩) trivial trivial
  refine ⟨.pointer (some ⟨w.heap.size,0,none⟩),g',_,?_,e1,?_,AH.put_L_same H s _ (by simp)⟩
  ·simp [Instr.range,hu',hx]
  ·simp only [VRel];rw [e2]
 ·rename_i kt et hu
  have hu' :=run_underlying_ok c.T hu w
  split at h <;> try exact h.elim
  rename_i o ex
  rw [ex] at hx hlx
  simp only [VRel] at hx
  obtain ⟨R',_,h⟩ :=h
  simp only at h
  split at h <;> try exact h.elim
  rename_i es ho
  have hr :=c.h.rel o
  rw [ho] at hr
  obtain ⟨ces,ck,m1,_,m3,m4,_⟩ :=hr
  have hck:ck = es.length :=by rw [m4,← m3.length,Array.length_toList]
  subst hck
  obtain ⟨W',rfl,h⟩ :=h
  obtain ⟨rfl,rfl⟩ :=evF_ret h
  have hLo:H.L o :=hlx
  obtain ⟨g',e1,e2⟩ :=c.h.newOb c.s (x :=.miter o es.length [] es.length) (by simp) (fun _ _ => rfl) (.mapIter (some (g.ob o)) es.length #[] es.length) (o + 1) (by
   intro g' f1 f2 f3 _
   refine ⟨[],es.length,fun _ => ⟨rfl,rfl⟩,?_,by rw [f1];exact f2⟩
   rw [f1,f3 o hLo]
   exact heap_alloc_new _ _) (AH.put_L H s _ (by simp) hLo) (AH.put_bd H s (.miter o es.length [] es.length) (o + 1))
  refine ⟨.pointer (some ⟨w.heap.size,0,none⟩),g',_,?_,e1,?_,AH.put_L_same H s _ (by simp)⟩
  ·simp [Instr.range,hu',hx,getObj,Sem.run,m1]
  ·simp only [VRel];rw [e2]
 ·exact h.elim
def nthE:List (AV × AV) → Nat → Option (AV × AV)
 | [],_ => none
 |p :: es,j => match j with
  | 0 => some p
  |j + 1 => nthE es j
theorem nthE_eq:∀ (es:List (AV × AV)) (j:Nat),nthE es j = es[j]?
 | [],_ => by simp [nthE]
 | _ :: _,0 => by simp [nthE]
 | _ :: es,j + 1 => by simp [nthE,nthE_eq es j]
def pEntry (x:AV):Plan :=
 match x with
 | .ptr q off => match off with
  | 0 => .get q fun y => match y with
   | .miter m _ seen last => match seen with
    |j :: _ => .get m fun z => match z with
     | .mapo es => .chk (Nat.beq last es.length) (match nthE es j with
      |some p => match p with
       |(k,v) => .ret (.tup [k,v])
      |none => .fail)
     | _ => .fail
    | [] => .fail
   | _ => .fail
  | _ => .fail
 | _ => .fail
theorem MRel.at {g:Gh} {w:World}:∀ {es:List (AV × AV)} {ces:List MapEntry} {j:Nat} {k v:AV},MRel g w es ces → es[j]? = some (k,v) → ∃ e,ces[j]? = some e ∧ VRel g w k e.key ∧ VRel g w v e.val
 | [],_,_,_,_,_,hj => by simp at hj
 |(k',v') :: es,ces,0,k,v,h,hj => by
  obtain ⟨e',es',e1,h1,h2,h3⟩ :=h
  subst e1
  simp at hj
  obtain ⟨rfl,rfl⟩ :=hj
  exact ⟨e',by simp,h1,h2⟩
 |(k',v') :: es,ces,j + 1,k,v,h,hj => by
  obtain ⟨e',es',e1,h1,h2,h3⟩ :=h
  subst e1
  obtain ⟨e,q1,q2,q3⟩ :=MRel.at h3 (by simpa using hj)
  exact ⟨e,by simpa using q1,q2,q3⟩
theorem find_born {ces:Array MapEntry} {ck j:Nat} {e:MapEntry} (h:Born ces ck) (hj:ces[j]? = some e):ces.find? (·.born == j) = some e :=by
 cases hf:ces.find? (·.born == j) with
 |none =>
  rw [Array.find?_eq_none] at hf
  have :=hf e (Array.mem_of_getElem? hj)
  rw [h.2 j e hj] at this
  simp at this
 |some e' =>
  have h1 :=Array.find?_some hf
  have h2 :=Array.mem_of_find?_eq_some hf
  obtain ⟨i,hi,he⟩ :=Array.mem_iff_getElem.1 h2
  have h3:ces[i]? = some e' :=by rw [← he];exact Array.getElem?_eq_getElem hi
  have h4 :=h.2 i e' h3
  have h5:i = j :=by rw [← h4];simpa using h1
  subst h5
  rw [h3] at hj
  exact hj
theorem pEntry_ok (c:OCtx P T F g B w H s ev ρ) {x:Operand} (h:EvF s (pEntry (ev x)) H.o r R W) :
  OpRes g B w H W ((do let v ← Instr.entry (ρ x);pure (.value v):Sem Next).run P w) r :=by
 have hx :=c.rel x
 unfold pEntry at h
 split at h <;> try exact h.elim
 rename_i q off ex
 rw [ex] at hx
 simp only [VRel] at hx
 split at h <;> try exact h.elim
 obtain ⟨R',_,h⟩ :=h
 simp only at h
 split at h <;> try exact h.elim
 rename_i m since seen last hq
 have hr :=c.h.rel q
 rw [hq] at hr
 obtain ⟨sn0,l0,m0,m1,_⟩ :=hr
 split at h <;> try exact h.elim
 rename_i j seen'
 obtain ⟨R2,_,h⟩ :=h
 simp only at h
 split at h <;> try exact h.elim
 rename_i es ho
 have hro :=c.h.rel m
 rw [ho] at hro
 obtain ⟨ces,ck,n1,_,n3,n4⟩ :=hro
 have hl :=c.h.live m
 rw [ho] at hl
 obtain ⟨hlast,h⟩ :=h
 have hlast :=Nat.eq_of_beq_eq_true hlast
 split at h <;> try exact h.elim
 rename_i p hp
 obtain ⟨k,v⟩ :=p
 rw [nthE_eq] at hp
 obtain ⟨rfl,rfl⟩ :=evF_ret h
 obtain ⟨e,q1,q2,q3⟩ :=n3.at hp
 obtain ⟨l1,l2⟩ :=MLive.at _ _ _ _ hl hp
 have hck:ck = last :=by rw [n4.1,hlast,← n3.length,Array.length_toList]
 have hl0:last ≠ 0 :=by
  have :=(List.getElem?_eq_some_iff.1 hp).1
  omega
 obtain ⟨rfl,rfl⟩ :=m0 hl0
 have hfind :=find_born n4 (by simpa using q1:ces[j]? = some e)
 refine OpRes.pure c.h (u :=.tuple #[e.key,e.val]) ?_ ?_ ⟨l1,l2,trivial⟩
 ·simp [Instr.entry,hx,getObj,Sem.run,m1,n1,hck,hfind]
 ·simp only [VRel]
  exact ⟨_,rfl,by simp only [VRels];exact ⟨_,_,rfl,q2,_,_,rfl,q3,rfl⟩⟩
def pNext (x:AV):Plan :=
 match x with
 | .ptr o off => match off with
  | 0 => .get o fun y => match y with
   | .siter l pos => match decide (pos < l.length) with
    |true => match Utf8.decode ⟨l.toArray⟩ pos with
     |(ch,width) => .seto o (.siter l (pos + width)) 0 (.ret (.tup [.bool true,.int .i64 pos,.int .i32 ch]))
    |false => .ret (.tup [.bool false])
   | _ => .fail
  | _ => .fail
 | _ => .fail
theorem pNext_ok (c:OCtx P T F g B w H s ev ρ) {t:TypeId} {x:Operand} (h:EvF s (pNext (ev x)) H.o r R W) :
  OpRes g B w H W ((do let v ← Instr.next (ρ x) true t;pure (.value v):Sem Next).run P w) r :=by
 have hx :=c.rel x
 unfold pNext at h
 split at h <;> try exact h.elim
 rename_i o off ex
 rw [ex] at hx
 simp only [VRel] at hx
 split at h <;> try exact h.elim
 obtain ⟨R',_,h⟩ :=h
 simp only at h
 split at h <;> try exact h.elim
 rename_i l pos ho
 have hr :=c.h.rel o
 rw [ho] at hr
 obtain ⟨m1,m2⟩ :=hr
 have hLo:H.L o :=by unfold AH.L;rw [ho];simp
 have hlt:g.ob o < w.heap.size :=by
  have :=(c.h.ge o hLo).2
  rw [ho] at this
  exact this
 have es:(⟨l.toArray⟩ : ByteArray).size = l.length :=rfl
 split at h
 ·rename_i hp
  have hp :=of_decide_eq_true hp
  generalize hd:Utf8.decode ⟨l.toArray⟩ pos = cw at h
  obtain ⟨ch,width⟩ :=cw
  simp only at h
  obtain ⟨R2,W',_,rfl,h⟩ :=h
  obtain ⟨rfl,rfl⟩ :=evF_ret h
  have hout:Out g B w H g { w with heap :=w.heap.setIfInBounds (g.ob o) (.stringIter ⟨l.toArray⟩ (pos + width)) } (H.put o (.siter l (pos + width)) 0) :=by
   refine c.h.setOb hLo (by rw [ho];rfl) m2 (by simp) rfl 0 (by simp) (fun k hk => ?_) rfl rfl rfl ?_ trivial trivial
   ·show (w.heap.setIfInBounds (g.ob o) _)[k]? = _
    rw [Array.getElem?_setIfInBounds_ne (by omega)]
   ·intro _
    refine ⟨?_,m2⟩
    show (w.heap.setIfInBounds (g.ob o) _)[g.ob o]? = _
    rw [Array.getElem?_setIfInBounds_self_of_lt hlt]
  refine ⟨.tuple #[.bool true,.int .i64 pos,.int .i32 ch],g,_,?_,hout,?_,?_⟩
  ·simp [Instr.next,hx,getObj,setObj,Sem.run,m1,es,hp,hd,goInt]
  ·simp only [VRel]
   exact ⟨_,rfl,by simp [VRels,VRel]⟩
  ·exact ⟨trivial,trivial,trivial,trivial⟩
 ·rename_i hp
  have hp :=of_decide_eq_false hp
  obtain ⟨rfl,rfl⟩ :=evF_ret h
  refine OpRes.pure c.h (u :=.tuple #[.bool false]) ?_ ?_ ⟨trivial,trivial⟩
  ·simp [Instr.next,hx,getObj,Sem.run,m1,es,hp]
  ·simp only [VRel]
   exact ⟨_,rfl,by simp [VRels,VRel]⟩
end
end
end Go.Abs

/-! Calls, and the plan of any operation. -/
namespace Go.Abs
open Go
noncomputable section
def extFn:ExtK → Array Value → Sem Value
 | .count => Extern.BytealgCount.count
 | .indexByte => Extern.BytealgIndexByte.indexByte
def XOK (P:Program) (X:XT):Prop :=
 (∀ f k,X.ext f = some k → ∀ args w,(callFunc f args).run P w = ((extFn k args).run P w).andThen fun v w' => .ok (.value v) w') ∧ QOK P X.eqv
def pExt (k:ExtK) (args:List AV):Plan :=
 match args with
 |a :: as => match as with
  |b :: bs => match bs with
   | [] => match a with
    | .str l => match b with
     | .int kd c => match kd with
      | .u8 => match k with
       | .count => .ret (.int .i64 (Lib.countByte l c.toNat.toUInt8:Nat))
       | .indexByte => .ret (.int .i64 (Lib.indexByte l c.toNat.toUInt8))
      | _ => .fail
     | _ => .fail
    | _ => .fail
   | _ => .fail
  | _ => .fail
 | _ => .fail
section
variable {P:Program} {T:Tr TypeInfo} {F:Tr Func} {g:Gh} {B:Nat} {w:World} {H:AH} {s:Nat} {ev:Operand → AV} {ρ:Operand → Value} {r:PRes} {R:List Nat} {W:WL}
theorem pExt_ok (hr:HRel g B w H) {X:XT} (hX:XOK P X) {f:FuncId} {k:ExtK} (hf:X.ext f = some k) {args:List AV} {vs:Array Value} (hv:VRels g w args vs.toList)
  (h:EvF s (pExt k args) H.o r R W):OpRes g B w H W ((callFunc f vs).run P w) r :=by
 unfold pExt at h
 split at h <;> try exact h.elim
 split at h <;> try exact h.elim
 split at h <;> try exact h.elim
 split at h <;> try exact h.elim
 rename_i l
 split at h <;> try exact h.elim
 split at h <;> try exact h.elim
 rename_i c _
 obtain ⟨u,us,e1,h1,u2,us2,e2,h2,e3⟩ :=hv
 simp only [VRel] at h1 h2
 simp only [VRels] at e3
 subst h1;subst h2;subst e3;subst e2
 have hvs:vs = #[.string ⟨l.toArray⟩,.int .u8 c] :=by
  apply Array.ext'
  rw [e1]
 subst hvs
 split at h
 ·obtain ⟨rfl,rfl⟩ :=evF_ret h
  refine OpRes.pure hr (u :=.int .i64 (Lib.countByte l c.toNat.toUInt8:Nat)) ?_ (by simp [VRel]) trivial
  rw [hX.1 f _ hf]
  simp only [extFn]
  rw [Lib.run_countString]
  rfl
 ·obtain ⟨rfl,rfl⟩ :=evF_ret h
  refine OpRes.pure hr (u :=.int .i64 (Lib.indexByte l c.toNat.toUInt8)) ?_ (by simp [VRel]) trivial
  rw [hX.1 f _ hf]
  simp only [extFn]
  rw [Lib.run_indexByteString]
  rfl
def pCallF (F:Tr Func) (X:XT) (f:FuncId) (args:List AV):Plan :=
 match F.get f with
 |some fn => match fn.body with
  |some _ => .fL args fun l => .call f l
  |none => match X.ext f with
   |some k => pExt k args
   |none => .fail
 |none => .fail
theorem pCallF_ok (hF:FOK P F) (hr:HRel g B w H) {X:XT} (hX:XOK P X) {f:FuncId} {args:List AV} {vs:Array Value} (hv:VRels g w args vs.toList) (hl:Lives H.L args)
  (h:EvF s (pCallF F X f args) H.o r R W):OpRes g B w H W ((callFunc f vs).run P w) r :=by
 unfold pCallF at h
 split at h <;> try exact h.elim
 rename_i fn hfn
 obtain ⟨h1,h2⟩ :=hF f fn hfn
 split at h
 ·rename_i body hb
  obtain ⟨rfl,_,rfl⟩ :=h
  refine ⟨rfl,vs,?_,hv,hl⟩
  simp only [callFunc,Sem.run_bind,run_program,Result.andThen_ok,h1,h2,Bool.false_eq_true,if_false,hb,Option.isNone_some,Sem.run_pure]
 ·split at h <;> try exact h.elim
  rename_i k hk
  exact pExt_ok hr hX hk hv h
def pCallV (F:Tr Func) (X:XT) (fv:AV) (args:List AV):Plan :=
 match fv with
 | .func fn first cap => match fn with
  | .func f => pCallF F X f (first ++ (args ++ cap))
  | _ => .fail
 | .yld l => .get l fun y => match y with
  | .loop _ _ _ _ params _ _ _ => .chk (lenIs args params.length) (.fL args fun as => .yld l as)
  | _ => .fail
 | _ => .fail
theorem pCallV_ok (c:OCtx P T F g B w H s ev ρ) {X:XT} (hX:XOK P X) {fo:Operand} {args:Array Operand} (h:EvF s (pCallV F X (ev fo) (args.toList.map ev)) H.o r R W) :
  OpRes g B w H W ((do let d ← Deferred.ofValue (ρ fo) (args.map ρ);invoke d.target d.args:Sem Next).run P w) r :=by
 have hf :=c.rel fo
 have hlf :=c.live fo
 obtain ⟨ha,hla⟩ :=VRels.map c args.toList
 have ha':VRels g w (args.toList.map ev) (args.map ρ).toList :=by simpa using ha
 unfold pCallV at h
 split at h
 ·rename_i fn first cap ef
  rw [ef] at hf hlf
  obtain ⟨vf,vc,e1,h1,h2⟩ :=hf
  split at h <;> try exact h.elim
  rename_i f
  have hall:VRels g w (first ++ (args.toList.map ev ++ cap)) ((vf ++ args.map ρ) ++ vc).toList :=by
   rw [Array.toList_append,Array.toList_append,List.append_assoc]
   exact h1.append (ha'.append h2)
  have :=pCallF_ok c.F c.h hX hall (Lives.append hlf.1 (Lives.append hla hlf.2)) h
  simpa [e1,Deferred.ofValue,invoke] using this
 ·rename_i l ef
  rw [ef] at hf hlf
  simp only [VRel] at hf
  obtain ⟨R',_,h⟩ :=h
  simp only at h
  split at h <;> try exact h.elim
  rename_i st fn tm nt params assign body dfr ho
  obtain ⟨hn,h⟩ :=h
  obtain ⟨rfl,_,rfl⟩ :=h
  have hn :=lenIs_ok hn
  have hr :=c.h.rel l
  rw [ho] at hr
  obtain ⟨lp,q1,q2,q3,q4,q6,q7,q8,q9,q10⟩ :=hr
  have hsz:(args.map ρ).size = params.length :=by
   have :=ha'.length
   simpa [hn] using this
  have hps:lp.params.size = params.length :=by rw [← q7];simp
  refine ⟨rfl,hlf,args.map ρ,⟨st,fn,tm,nt,params,assign,body,dfr,ho,hsz,lp,q1,?_⟩,ha',hla⟩
  simp [hf,Deferred.ofValue,invoke,Instr.yield,Instr.getLoop,getObj,Sem.run,q1,hps,← hsz]
 ·exact h.elim
end
end
end Go.Abs

/-! The plan of any operation. -/
namespace Go.Abs
open Go
noncomputable section
section
variable {P:Program} {T:Tr TypeInfo} {F:Tr Func} {g:Gh} {B:Nat} {w:World} {H:AH} {s:Nat} {ev:Operand → AV} {ρ:Operand → Value} {r:PRes} {R:List Nat} {W:WL}
def pInvoke (T:Tr TypeInfo) (F:Tr Func) (X:XT) (recv:AV) (name:String) (args:List AV):Plan :=
 match recv with
 | .iface t v => match T.get t with
  |some i => match i.methods.find? (·.name == name) with
   |some m => match m.path.toList with
    | [] => match m.func with
     |some (f,pr) => match tyU T t with
      |some (.pointer _) => match pr with
       |true => pCallF F X f (v :: args)
       |false => .fail
      |some _ => match pr with
       |false => pCallF F X f (v :: args)
       |true => .fail
      |none => .fail
     |none => .fail
    | _ => .fail
   |none => .fail
  |none => .fail
 | _ => .fail
theorem pInvoke_ok (c:OCtx P T F g B w H s ev ρ) {X:XT} (hX:XOK P X) {x:Operand} {name:String} {args:List Operand} {vs:Array Value} (hvs:vs.toList = args.map ρ)
  (h:EvF s (pInvoke T F X (ev x) name (args.map ev)) H.o r R W) :
  OpRes g B w H W ((callMethod (ρ x) name vs).run P w) r :=by
 have hx :=c.rel x
 have hl :=c.live x
 obtain ⟨ha,hla⟩ :=VRels.map c args
 unfold pInvoke at h
 split at h <;> try exact h.elim
 rename_i t v ex
 rw [ex] at hx hl
 obtain ⟨u,eu,hv⟩ :=hx
 split at h <;> try exact h.elim
 rename_i i hi
 have hi' :=run_typeInfo_ok c.T hi w
 split at h <;> try exact h.elim
 rename_i m hm
 split at h <;> try exact h.elim
 rename_i hpath
 split at h <;> try exact h.elim
 rename_i f pr hfn
 obtain ⟨fuel,hfuel⟩ : ∃ k,P.types.size + Made.depth = k + 1 :=⟨P.types.size + (Made.depth - 1),by
  have:0 < Made.depth :=by decide
  omega⟩
 have key:∀ pr,m.func = some (f,pr) → (receiverAt t (.val u) pr (if m.path.isEmpty then some ((name.splitOn ".").getLastD name) else none)).run P w = .ok u w →
   EvF s (pCallF F X f (v :: args.map ev)) H.o r R W → OpRes g B w H W ((callMethod (ρ x) name vs).run P w) r :=by
  intro pr hfn hrec h
  have hall:VRels g w (v :: args.map ev) (#[u] ++ vs).toList :=by
   rw [Array.toList_append,hvs]
   simp only [List.cons_append,List.nil_append,VRels]
   exact ⟨u,_,rfl,hv,ha⟩
  have :=pCallF_ok c.F c.h hX hall ⟨hl,hla⟩ h
  have hmeth:(method (P.types.size + Made.depth) t u name).run P w = .ok (f,u) w :=by
   rw [hfuel,method]
   simp only [Sem.run_bind,hi',Result.andThen_ok,hm,hpath,follow,Sem.run_pure,hfn,hrec]
  rw [eu]
  simp only [callMethod,Sem.run_bind,run_program,Result.andThen_ok,hmeth]
  exact this
 split at h
 ·rename_i e hu
  have hu' :=run_underlying_ok c.T hu w
  split at h <;> try exact h.elim
  exact key true hfn (by simp [receiverAt,hu',Place.get]) h
 ·rename_i d hn hu
  have hu' :=run_underlying_ok c.T hu w
  split at h <;> try exact h.elim
  refine key false hfn ?_ h
  cases d <;> first
   |exact absurd rfl (hn _)
   |simp [receiverAt,hu',Place.get]
 ·exact h.elim
def pDefer (fv:AV) (args:List AV):Plan :=
 match fv with
 | .func fn first cap => match fn with
  | .func f => .fL (first ++ (args ++ cap)) fun l => .defr f l
  | _ => .fail
 | _ => .fail
theorem pDefer_ok (c:OCtx P T F g B w H s ev ρ) {fo:Operand} {args:Array Operand} (h:EvF s (pDefer (ev fo) (args.toList.map ev)) H.o r R W) :
  OpRes g B w H W ((do let d ← Deferred.ofValue (ρ fo) (args.map ρ);pure (.defer d):Sem Next).run P w) r :=by
 have hf :=c.rel fo
 have hlf :=c.live fo
 obtain ⟨ha,hla⟩ :=VRels.map c args.toList
 have ha':VRels g w (args.toList.map ev) (args.map ρ).toList :=by simpa using ha
 unfold pDefer at h
 split at h <;> try exact h.elim
 rename_i fn first cap ef
 rw [ef] at hf hlf
 obtain ⟨vf,vc,e1,h1,h2⟩ :=hf
 split at h <;> try exact h.elim
 rename_i f
 obtain ⟨rfl,_,rfl⟩ :=h
 refine ⟨rfl,{ target :=.fn (.func f) vc,args :=vf ++ args.map ρ },by simp [e1,Deferred.ofValue],⟨vc,_,rfl,?_⟩,Lives.append hlf.1 (Lives.append hla hlf.2)⟩
 rw [Array.toList_append,Array.toList_append,List.append_assoc]
 exact h1.append (ha'.append h2)
def pPanic (x:AV):Plan :=
 match x with
 | .iface t v => .panic (.iface t v)
 | _ => .fail
theorem pPanic_ok (c:OCtx P T F g B w H s ev ρ) {x:Operand} (h:EvF s (pPanic (ev x)) H.o r R W) :
  OpRes g B w H W ((do let v ← Instr.panic (ρ x);pure (.value v):Sem Next).run P w) r :=by
 have hx :=c.rel x
 have hl :=c.live x
 unfold pPanic at h
 split at h <;> try exact h.elim
 rename_i t v ex
 rw [ex] at hx hl
 obtain ⟨rfl,_,rfl⟩ :=h
 have hx' :=hx
 obtain ⟨u,eu,hv⟩ :=hx
 refine ⟨rfl,ρ x,?_,hx',hl⟩
 simp [eu,Instr.panic]
def pNil (x:AV):Plan :=
 match x with
 | .ptr o off => .ret (.ptr o off)
 | .lptr xs off => .ret (.lptr xs off)
 | .gp (a + 1) off => .ret (.gp (a + 1) off)
 | .func fn f c => match fn with
  | .func n => .ret (.func (.func n) f c)
  | _ => .fail
 | .yld l => .ret (.yld l)
 | .iface t v => .ret (.iface t v)
 | _ => .fail
def pBuiltin (T:Tr TypeInfo) (mu mv:Bool) (b:Builtin) (ts:List TypeId) (args:List AV):Plan :=
 match b with
 | .len => match ts with
  | [t] => match args with
   | [x] => pLen T t x
   | _ => .fail
  | _ => .fail
 | .append => match ts with
  | [t,tx] => match args with
   | [d,x] => @Bool.rec (fun _ => Plan) (pAppend T t tx d x) (@Bool.rec (fun _ => Plan) (pAppendM T t tx d x) (pAppendC T t tx d x) mv) mu
   | _ => .fail
  | _ => .fail
 | .copy => match ts with
  | [t,_] => match args with
   | [d,x] => pCopy T t d x
   | _ => .fail
  | _ => .fail
 | .max => pFold maxI args
 | .min => pFold minI args
 | .recover => .recover
 | _ => .fail
def pOpM (P:Program) (T:Tr TypeInfo) (F:Tr Func) (X:XT) (ev:Operand → AV) (o:Oper):Plan :=
 match o.op with
 | .move x => .ret (ev x)
 | .assign x => .ret (ev x)
 | .pick c a b => pPick (ev c) (ev a) (ev b)
 | .alloc e => pAlloc T e
 | .box e x => pBox e (ev x)
 | .build t parts => pBuild T t (parts.toList.map fun p => (p.1,ev p.2))
 | .buildSlice t len parts => match X.mu o.dst o.type with
  |true => pBuildSliceM T t len (parts.toList.map fun p => (p.1,ev p.2))
  |false => pBuildSlice T t len (parts.toList.map fun p => (p.1,ev p.2))
 | .load t a => pLoad T t (ev a)
 | .store t a x => pStore T t (ev a) (ev x)
 | .nilCheck x => pNil (ev x)
 | .binOp op t x y _ => pBin X op t (isConstOp x || isConstOp y) (ev x) (ev y)
 | .unOp op _ x => pUn op (ev x)
 | .convert src dst x => match tyU T src with
  |some d => match d with
   | .slice e => pConvB T e dst (ev x)
   | .string => match tyU T dst with
    |some (.slice e) => pConvS T e (ev x)
    | _ => pConv T dst (ev x)
   | _ => pConv T dst (ev x)
  |none => .fail
 | .makeInterface t x => pMkIface T t (ev x)
 | .makeFunc fn f c => pMkFunc fn (f.toList.map ev) (c.toList.map ev)
 | .makeMap _ r => match r with
  |none => pMakeMap
  |some _ => .fail
 | .makeSlice t l c => pMakeSlice T t (ev l) (ev c)
 | .slice t x lo hi mx => match mx with
  |none => pSlice T t (ev x) (lo.map ev) (hi.map ev)
  |some _ => .fail
 | .fieldAddr t x f => pFieldAddr T t (ev x) f
 | .field t x f => pField T t (ev x) f
 | .indexAddr t x ix => pIndexAddr T t (ev x) (ev ix)
 | .index t x ix => pIndex T t (ev x) (ev ix)
 | .lookup t x ix ok => pLookup P T t (ev x) (ev ix) ok
 | .mapUpdate t m k x => pMapUpd P T t (ev m) (ev k) (ev x)
 | .insert t m k x => pMapUpd P T t (ev m) (ev k) (ev x)
 | .range t x => pRange T t (ev x)
 | .next it isS => match isS with
  |true => pNext (ev it)
  |false => .fail
 | .entry it => pEntry (ev it)
 | .typeAssert x _ asserted ok => pAssert T (ev x) asserted ok
 | .extract x i => pExtract (ev x) i
 | .call c => match c.callee with
  | .builtin b => pBuiltin T (X.mu o.dst o.type) (X.mu o.dst (Nat.add o.type 1000000)) b c.argTypes.toList (c.args.toList.map ev)
  | .value f => pCallV F X (ev f) (c.args.toList.map ev)
  | .invoke recv name => pInvoke T F X (ev recv) name (c.args.toList.map ev)
 | .defer c => match c.callee with
  | .value f => pDefer (ev f) (c.args.toList.map ev)
  | _ => .fail
 | .panic x => pPanic (ev x)
 | _ => .fail
/- By the recursor itself, with closed minor premises: so the kernel carries it out at little cost. -/
def pOp (P:Program) (T:Tr TypeInfo) (F:Tr Func) (X:XT) (ev:Operand → AV) (o:Oper):Plan :=
 @Op.rec (fun _ => Program → Tr TypeInfo → Tr Func → (XT) → (Operand → AV) → Plan)
  (fun x _ _ _ _ ev => .ret (ev x))
  (fun x _ _ _ _ ev => .ret (ev x))
  (fun c a b _ _ _ _ ev => pPick (ev c) (ev a) (ev b))
  (fun e _ T _ _ _ => pAlloc T e)
  (fun e x _ _ _ _ ev => pBox e (ev x))
  (fun t parts _ T _ _ ev => pBuild T t (parts.toList.map fun p => (p.1,ev p.2)))
  (fun t len parts _ T _ X ev => match X.mu o.dst o.type with
   |true => pBuildSliceM T t len (parts.toList.map fun p => (p.1,ev p.2))
   |false => pBuildSlice T t len (parts.toList.map fun p => (p.1,ev p.2)))
  (fun t m k x P T _ _ ev => pMapUpd P T t (ev m) (ev k) (ev x))
  (fun t a _ T _ _ ev => pLoad T t (ev a))
  (fun t a x _ T _ _ ev => pStore T t (ev a) (ev x))
  (fun _ _ _ _ _ _ => .fail)
  (fun _ _ _ _ _ _ => .fail)
  (fun x _ _ _ _ ev => pNil (ev x))
  (fun op t x y _ _ _ _ X ev => pBin X op t (isConstOp x || isConstOp y) (ev x) (ev y))
  (fun op _ x _ _ _ _ ev => pUn op (ev x))
  (fun src dst x _ T _ _ ev => match tyU T src with
   |some d => match d with
    | .slice e => pConvB T e dst (ev x)
    | .string => match tyU T dst with
     |some (.slice e) => pConvS T e (ev x)
     | _ => pConv T dst (ev x)
    | _ => pConv T dst (ev x)
   |none => .fail)
  (fun _ _ _ _ _ _ _ => .fail)
  (fun t x _ T _ _ ev => pMkIface T t (ev x))
  (fun fn f c _ _ _ _ ev => pMkFunc fn (f.toList.map ev) (c.toList.map ev))
  (fun _ r _ _ _ _ _ => match r with
   |none => pMakeMap
   |some _ => .fail)
  (fun _ _ _ _ _ _ _ => .fail)
  (fun t l c _ T _ _ ev => pMakeSlice T t (ev l) (ev c))
  (fun t x lo hi mx _ T _ _ ev => match mx with
   |none => pSlice T t (ev x) (lo.map ev) (hi.map ev)
   |some _ => .fail)
  (fun t x f _ T _ _ ev => pFieldAddr T t (ev x) f)
  (fun t x f _ T _ _ ev => pField T t (ev x) f)
  (fun t x ix _ T _ _ ev => pIndexAddr T t (ev x) (ev ix))
  (fun t x ix _ T _ _ ev => pIndex T t (ev x) (ev ix))
  (fun t x ix ok P T _ _ ev => pLookup P T t (ev x) (ev ix) ok)
  (fun t m k x P T _ _ ev => pMapUpd P T t (ev m) (ev k) (ev x))
  (fun _ _ _ _ _ _ _ _ => .fail)
  (fun _ _ _ _ _ _ _ _ _ => .fail)
  (fun t x _ T _ _ ev => pRange T t (ev x))
  (fun it isS _ _ _ _ ev => match isS with
   |true => pNext (ev it)
   |false => .fail)
  (fun it _ _ _ _ ev => pEntry (ev it))
  (fun x _ asserted ok _ T _ _ ev => pAssert T (ev x) asserted ok)
  (fun x i _ _ _ _ ev => pExtract (ev x) i)
  (fun c _ T F X ev => match c.callee with
   | .builtin b => pBuiltin T (X.mu o.dst o.type) (X.mu o.dst (Nat.add o.type 1000000)) b c.argTypes.toList (c.args.toList.map ev)
   | .value f => pCallV F X (ev f) (c.args.toList.map ev)
   | .invoke recv name => pInvoke T F X (ev recv) name (c.args.toList.map ev))
  (fun _ _ _ _ _ _ => .fail)
  (fun c _ _ _ _ ev => match c.callee with
   | .value f => pDefer (ev f) (c.args.toList.map ev)
   | _ => .fail)
  (fun x _ _ _ _ ev => pPanic (ev x))
  (fun _ _ _ _ _ _ _ => .fail)
  (fun _ _ _ _ _ _ _ _ => .fail)
  (fun _ _ _ _ _ _ _ => .fail)
  o.op P T F X ev
theorem pOp_eq (P:Program) (T:Tr TypeInfo) (F:Tr Func) (X:XT) (ev:Operand → AV) (o:Oper):pOp P T F X ev o = pOpM P T F X ev o :=by
 obtain ⟨dst,op,type,pos,after,guard⟩ :=o
 cases op <;> rfl
theorem arr1 {α:Type} {a:Array α} {x:α} (h:a.toList = [x]):a = #[x] :=by apply Array.ext';simpa using h
theorem arr2 {α:Type} {a:Array α} {x y:α} (h:a.toList = [x,y]):a = #[x,y] :=by apply Array.ext';simpa using h
theorem map1 {α β:Type} {f:α → β} {l:List α} {y:β} (h:l.map f = [y]):∃ x,l = [x] ∧ f x = y :=by
 cases l with
 |nil => simp at h
 |cons x xs => simp at h;exact ⟨x,by rw [h.2],h.1⟩
theorem map2 {α β:Type} {f:α → β} {l:List α} {y z:β} (h:l.map f = [y,z]):∃ x x',l = [x,x'] ∧ f x = y ∧ f x' = z :=by
 cases l with
 |nil => simp at h
 |cons x xs =>
  simp only [List.map_cons,List.cons.injEq] at h
  obtain ⟨x',e1,e2⟩ :=map1 h.2
  exact ⟨x,x',by rw [e1],h.1,e2⟩
theorem pBuiltin_ok (c:OCtx P T F g B w H s ev ρ) {b:Builtin} {ts:Array TypeId} {ty:TypeId} {args:Array Operand} {cs:Array Bool} {mu mv:Bool} (h:EvF s (pBuiltin T mu mv b ts.toList (args.toList.map ev)) H.o r R W) :
  OpRes g B w H W ((builtin b ts ty cs (args.map ρ)).run P w) r :=by
 unfold pBuiltin at h
 split at h
 ·split at h <;> try exact h.elim
  rename_i t hts
  split at h <;> try exact h.elim
  rename_i x hargs
  obtain ⟨x0,e1,e2⟩ :=map1 hargs
  rw [arr1 hts,arr1 e1]
  subst e2
  have e3:(#[x0].map ρ) = #[ρ x0] :=by simp
  rw [e3]
  exact pLen_ok c h
 ·split at h <;> try exact h.elim
  rename_i t tx hts
  split at h <;> try exact h.elim
  rename_i d x hargs
  obtain ⟨d0,x0,e1,e2,e3⟩ :=map2 hargs
  rw [arr2 hts,arr2 e1]
  subst e2;subst e3
  have e4:(#[d0,x0].map ρ) = #[ρ d0,ρ x0] :=by simp
  rw [e4]
  cases mu with
  |false => exact pAppend_ok c h
  |true => cases mv with
   |false => exact pAppendM_ok c h
   |true => exact pAppendC_ok c h
 ·split at h <;> try exact h.elim
  rename_i t tx hts
  split at h <;> try exact h.elim
  rename_i d x hargs
  obtain ⟨d0,x0,e1,e2,e3⟩ :=map2 hargs
  rw [arr2 hts,arr2 e1]
  subst e2;subst e3
  have e4:(#[d0,x0].map ρ) = #[ρ d0,ρ x0] :=by simp
  rw [e4]
  exact pCopy_ok c h
 ·exact pMax_ok c h
 ·exact pMin_ok c h
 ·obtain ⟨rfl,_,rfl⟩ :=h
  exact ⟨rfl,rfl⟩
 ·exact h.elim
theorem pOp_ok (c:OCtx P T F g B w H s ev ρ) {X:XT} (hX:XOK P X) {o:Oper} (h:EvF s (pOp P T F X ev o) H.o r R W):OpRes g B w H W ((execOp ρ o).run P w) r :=by
  rw [pOp_eq] at h
  unfold pOpM at h
  unfold execOp
  split at h
  · rename_i x ho
    simp only [ho]
    obtain ⟨rfl,rfl⟩ :=evF_ret h
    exact OpRes.pure c.h rfl (c.rel x) (c.live x)
  · rename_i x ho
    simp only [ho]
    obtain ⟨rfl,rfl⟩ :=evF_ret h
    exact OpRes.pure c.h rfl (c.rel x) (c.live x)
  · rename_i x a b ho
    simp only [ho]
    exact pPick_ok c h
  · rename_i e ho
    simp only [ho]
    exact pAlloc_ok c h
  · rename_i e x ho
    simp only [ho]
    exact pBox_ok c h
  · rename_i t parts ho
    simp only [ho]
    exact pBuild_ok c h
  · rename_i t len parts ho
    simp only [ho]
    split at h
    · exact pBuildSliceM_ok c h
    · exact pBuildSlice_ok c h
  · rename_i t a ho
    simp only [ho]
    exact pLoad_ok c h rfl
  · rename_i t a x ho
    simp only [ho]
    exact pStore_ok c h
  · rename_i x ho
    simp only [ho]
    have hx :=c.rel x
    have hl :=c.live x
    unfold pNil at h
    split at h <;> try exact h.elim
    all_goals first
      | (rename_i ex
         rw [ex] at hx hl
         have hx' :=hx
         obtain ⟨rfl,rfl⟩ :=evF_ret h
         refine OpRes.pure c.h (u :=ρ x) ?_ hx' hl
         simp only [VRel] at hx
         first
           | (rw [hx];rfl)
           | (obtain ⟨_,_,e,_⟩ :=hx;rw [e];rfl)
           | (obtain ⟨_,e,_⟩ :=hx;rw [e];rfl)
           | (obtain ⟨_, e⟩ | ⟨e, _⟩ := hx
              · rw [e];rfl
              · exact absurd e (Nat.succ_ne_zero _)))
      | (rename_i ex
         rw [ex] at hx hl
         split at h <;> try exact h.elim
         have hx' :=hx
         obtain ⟨rfl,rfl⟩ :=evF_ret h
         refine OpRes.pure c.h (u :=ρ x) ?_ hx' hl
         simp only [VRel] at hx
         obtain ⟨_,_,e,_⟩ :=hx
         rw [e];rfl)
  · rename_i op t x y yt ho
    simp only [ho]
    exact pBin_ok c hX.2 h
  · rename_i op t x ho
    simp only [ho]
    exact pUn_ok c h
  · rename_i src dst x ho
    simp only [ho]
    split at h <;> try exact h.elim
    rename_i d hd
    split at h
    · exact pConvB_ok c hd h
    · split at h
      · rename_i e he
        exact pConvS_ok c hd he h
      · exact pConv_ok c ⟨_,hd⟩ h
    · exact pConv_ok c ⟨_,hd⟩ h
  · rename_i t x ho
    simp only [ho]
    exact pMkIface_ok c h
  · rename_i fn f cp ho
    simp only [ho]
    exact pMkFunc_ok c h
  · rename_i t rr ho
    simp only [ho]
    split at h <;> try exact h.elim
    exact pMakeMap_ok c h
  · rename_i t l cp ho
    simp only [ho]
    exact pMakeSlice_ok c h
  · rename_i t x lo hi mx ho
    simp only [ho]
    split at h <;> try exact h.elim
    exact pSlice_ok c h
  · rename_i t x f ho
    simp only [ho]
    exact pFieldAddr_ok c h
  · rename_i t x f ho
    simp only [ho]
    exact pField_ok c h
  · rename_i t x ix ho
    simp only [ho]
    exact pIndexAddr_ok c h
  · rename_i t x ix ho
    simp only [ho]
    exact pIndex_ok c h
  · rename_i t x ix ok ho
    simp only [ho]
    exact pLookup_ok c h
  · rename_i t m k x ho
    simp only [ho]
    exact pMapUpd_ok c h
  · rename_i t m k x ho
    simp only [ho]
    exact pMapUpd_ok c h
  · rename_i t x ho
    simp only [ho]
    exact pRange_ok c h
  · rename_i it isS ho
    simp only [ho]
    split at h <;> try exact h.elim
    exact pNext_ok c h
  · rename_i it ho
    simp only [ho]
    exact pEntry_ok c h
  · rename_i x xt asserted ok ho
    simp only [ho]
    exact pAssert_ok c h
  · rename_i x i ho
    simp only [ho]
    exact pExtract_ok c h
  · rename_i cl ho
    simp only [ho,resolve]
    split at h
    · rename_i b hb
      simp only [hb,Sem.run_bind,Sem.run_pure,Result.andThen_ok,invoke]
      exact pBuiltin_ok c h
    · rename_i f hb
      simp only [hb]
      exact pCallV_ok c hX h
    · rename_i recv name hb
      simp only [hb,Sem.run_bind,Sem.run_pure,Result.andThen_ok,invoke]
      have e0:(#[ρ recv] ++ cl.args.map ρ)[0]? = some (ρ recv) :=by
        rw [Array.getElem?_append_left (by show 0 < 1;omega)]
        rfl
      simp only [e0]
      refine pInvoke_ok c hX (args :=cl.args.toList) ?_ h
      simp
      rw [List.take_of_length_le (by simp)]
  · rename_i cl ho
    simp only [ho,resolve]
    split at h <;> try exact h.elim
    rename_i f hb
    simp only [hb]
    exact pDefer_ok c h
  · rename_i x ho
    simp only [ho]
    exact pPanic_ok c h
  · exact h.elim
end
end
end Go.Abs

